/- Steps on the way to RowConfluent: TyOrd, TyUnifyP, TyPeakP, TySoundP, TyPartP, TyUnifS, TyMatch, TyNorm, TyNormL, TyHasVar, TyHolds, TyAllHold, TyEntries, TySortT, TySortQ, TyGreat, TyStabP, TyUnifG, TyRedexP, TyStpP, TyUnify, TyUnify2, TyPeak, TyPeak2, TyPeaks, TyAllPeaks, TyUnjoined, TyConfl, TyAlgOf, TySemP. -/
import Derived.Test.YtcnpimlmmmkcmaaGreatDoorM5
set_option linter.unusedSectionVars false
set_option linter.unusedVariables false
set_option linter.unusedSimpArgs false
section
namespace Ev.Ty
open Go Ev
open Enc (enc)
open Sm (sm)
def qb2(l:List Symbol)(o:List Int):Int:=if o.length≠l.length then 2 else if(o.any fun n=>!inR n 0 (l.length-1))=true then 3 else if qdf o=true then 6 else 0
def q4e(s:Signature)(o:List Int):Int:=if q3y s≠0 then q3y s else qb2 s.symbols o
theorem qlh{l:List Symbol}{o:List Int}(h:qb2 l o=0):o.length=l.length/\∀n:Int,0<=n->n<l.length->n∈o:=by
 unfold qb2 at h;split at h
 ·cases h
 rename_i h1;split at h
 ·cases h
 rename_i h2;split at h
 ·cases h
 rename_i h3;have h1:o.length=l.length:=by omega
 refine⟨h1,fun n hn hl=>Classical.byContradiction fun hno=>?_⟩
 have hnd:o.Nodup:=by
  unfold qdf at h3;simpa using h3
 have hr:∀m∈o,0<=m/\m<l.length:=fun m hm=>by
  simp only[List.any_eq_true,not_exists,not_and,Bool.not_eq_true',Bool.not_eq_false]at h2;have:=q8r.1 (h2 m hm);omega
 have:=qq2 l.length (n::o) (List.nodup_cons.2 ⟨hno,hnd⟩) fun m hm=>by
  rcases gK.1 hm with rfl|hm
  ·exact⟨hn,hl⟩
  ·exact hr m hm
 simp at this;omega
theorem q5s{l:List Symbol}(hs:l.length<=4294967296)(n:Int):Call F.q5s [.agg [slc l],.int .i64 n] (.bool (inR n 0 (l.length-1))):=by
 refine q0q rfl 0 ((q5s.ev _ _ _).trans ?_);simp only[evz,Nat.reduceLT,q2y (x:=(l.length:Int)-1) (by omega),(q4s _ _ _).eq]
theorem q5n{l:List Symbol}(hs:l.length<=4294967296)(n:Int):Call F.q5n [.rref [slc l] 0,.int .i64 n] (.bool (inR n 0 (l.length-1))):=by
 refine q0q rfl 0 ((q5n.ev _ _ _).trans ?_);simp only[evz,Nat.reduceLT,q2y (x:=(l.length:Int)-1) (by omega),(q5h _ _ _).eq]
theorem qj0(o:List Int):((List.range o.length).any fun k=>o[k]?.any fun x=>decide (x∈o.take k))=qdf o:=by
 have:=qdx (fun x:Int=>x) o;rw[List.map_id']at this;rw[<- this,Bool.eq_iff_iff];simp only[List.any_eq_true,List.mem_range];constructor
 ·rintro⟨k,hk,h⟩;rw[gA hk,Option.any_some,decide_eq_true_iff]at h;obtain⟨j,hj,he⟩:=List.getElem_of_mem h;rw[gAF]at hj;rw[List.getElem_take]at he;refine⟨k,hk,j,by omega,?_⟩;rw[gA hk,gA (show j<o.length by omega)];simp[he]
 ·rintro⟨i,hi,j,hj,h⟩;rw[gA hi,gA (show j<o.length by omega)]at h;refine⟨i,hi,?_⟩;rw[gA hi,Option.any_some,decide_eq_true_iff];have he:o[i]=o[j]:=by simpa using h
  rw[he];exact List.mem_take_iff_getElem.2 ⟨j,by omega,rfl⟩
theorem q1g(l:List Symbol)(hs:l.length<=4294967296)(o:List Int)(ho:o.length<=4294967296):Call F.q1g [.agg [slc l],slc o] (.int .i64 (q4e ⟨l⟩ o)):=by
 have hi:Call F.q0o [slc o,.clo F.q3r [.rref [slc l] 0]] (.int .i64 (idx (fun n=>!inR n 0 (l.length-1)) o)):=by
  refine q0q rfl (o.length+1) ((q09.ev _ _ _).trans ?_);simp only[evz,Nat.reduceLT];refine q8e (S:=fun m k=>q09.at0 (o.length+1) m (q09.st0 (cells o) (cells l) o.length (k:Nat))) (fun m k h=>?_) (fun m=>?_) (gAR _)
  ·have hlk:o[k]?=some o[k]:=gA h
   have hc:Call F.q3r [.int .i64 o[k],.rref [slc l] 0] (.bool (!inR o[k] 0 (l.length-1))):=by
    refine q0q rfl 0 ((q3r.ev _ _ _).trans ?_);simp only[evz,Nat.reduceLT,(q5s hs _).eq]
   simp only[q09.next0,q09.round0,evz,Nat.reduceLT,h,hlk,q1r,hc.eq];rw[q0k (by omega)];cases inR o[k] 0 (l.length-1) <;> rfl
  ·simp only[q09.next0,q09.round0,evz,Nat.reduceLT,gAK]
 have hc:Call F.q2h [slc o,.clo F.q3r [.rref [slc l] 0]] (.bool (o.any fun n=>!inR n 0 (l.length-1))):=by
  refine q0q rfl 0 ((q6w.ev _ _ _).trans ?_);simp only[evz,Nat.reduceLT,hi.eq,q8v]
 refine q0q rfl (o.length+1) ((q1g.ev _ _ _).trans ?_);simp only[evz,Nat.reduceLT,(q06 l hs).eq,q4e,qb2];by_cases h1:q3y ⟨l⟩=0
 case neg=>simp only[h1,evz,Nat.reduceLT,ne_eq,gX]
 by_cases h2:o.length=l.length
 case neg=>
  have h2':¬((o.length:Int)=(l.length:Int)):=by omega
  simp only[h1,h2,h2',evz,Nat.reduceLT,ne_eq,gW,gX]
 have h2':((o.length:Int)=(l.length:Int)):=by omega
 cases h3:o.any fun n=>!inR n 0 (l.length-1)with
 |true=>
  rw[h3]at hc;simp only[h1,h2',h2,evz,Nat.reduceLT,ne_eq,gW,hc.eq]
 |false=>
  rw[h3]at hc;simp only[h1,h2',h2,evz,Nat.reduceLT,ne_eq,gW,hc.eq];rw[<- h2',<- h2]
  refine(qd0 (n:=o.length) (bad:=fun k=>o[k]?.any fun x=>decide (x∈o.take k)) (r:=some (.int .i64 6,[])) (z:=some (.int .i64 0,[]))
   (S:=fun m k=>q1g.at0 (o.length+1) m (q1g.st0 (cells o) (cells o) o.length (k:Nat))) (fun m k h=>?_) (fun m=>?_) (gAR _)).trans ?_
  ·have hlk:o[k]?=some o[k]:=gA h;have hm:=(q1h (o.take k) o[k] (by simp;omega)).eq;simp only[q1g.next0,q1g.round0,evz,Nat.reduceLT,h,hlk,q1r];rw[q1o (by simp;omega),Nat.zero_mul,List.drop_zero,q9a o 1 k rfl,qbd (k:=1) (l:=o.take k) rfl,hm,q0k (by omega)];by_cases e:o[k]∈o.take k <;> simp[e,evz,Nat.reduceLT]
  ·simp only[q1g.next0,q1g.round0,evz,Nat.reduceLT,gAK]
  ·rw[qj0];cases qdf o <;> rfl
theorem q0h(l:List Symbol)(hs:l.length<=4294967296)(o:List Int)(ho:o.length<=4294967296):Call F.q0h [.rref [slc l] 0,slc o] (.int .i64 (qb2 l o)):=by
 obtain⟨n,hn⟩:∃n,n=o.length+1:=⟨_,rfl⟩;refine q0q rfl n ((q0h.ev _ _ _).trans ?_);simp only[evz,Nat.reduceLT,qb2];by_cases h2:o.length=l.length
 case neg=>
  have h2':¬((o.length:Int)=(l.length:Int)):=by omega
  simp only[h2,h2',evz,Nat.reduceLT,ne_eq,gW,gX]
 have h2':((o.length:Int)=(l.length:Int)):=by omega
 simp only[h2',h2,evz,Nat.reduceLT,ne_eq,gW]
 have two:=qd0 (n:=o.length) (bad:=fun i=>(List.range i).any fun j=>o[i]?.any fun x=>o[j]?.any fun y=>decide (x=y))
  (S:=fun m i=>q0h.at2 n m (q0h.st2 (cells o) (i:Nat))) (r:=some (.int .i64 6,[])) (z:=some (.int .i64 0,[]))
  (fun m i h=>by
   have hlk:o[i]?=some o[i]:=gA h;simp only[q0h.next2,q0h.round2,evz,Nat.reduceLT,h]
   refine qd0 (n:=i) (f:=n) (bad:=fun j=>o[i]?.any fun x=>o[j]?.any fun y=>decide (x=y))
    (S:=fun m' j=>q0h.at4 n (q0h.at2 n m) m' (q0h.st4 (cells o) (i:Nat) (j:Nat))) (fun m' j hj=>?_) (fun m'=>?_) (by omega)
   ·have hj':j<o.length:=by omega
    have hjk:o[j]?=some o[j]:=gA hj';simp only[q0h.next4,q0h.round4,evz,Nat.reduceLT,h,hj,hj',hlk,hjk,q1r];rw[q0k (by omega)];by_cases e:o[i]=o[j] <;> simp[e]
   ·simp only[q0h.next4,q0h.round4,evz,Nat.reduceLT,gAK];rw[q0k (by omega)])
  (fun m=>by simp only[q0h.next2,q0h.round2,evz,Nat.reduceLT,gAK]) (show o.length<n by omega)
 have tp:=qdx (fun x:Int=>x) o;rw[List.map_id']at tp;rw[tp]at two;refine(q9d (l:=o) (p:=fun x=>!inR x 0 (l.length-1)) (S:=fun m k=>q0h.at0 n m (q0h.st0 (cells l) (cells o) (k:Nat))) (r:=some (.int .i64 3,[])) (z:=if qdf o=true then some (.int .i64 6,[])else some (.int .i64 0,[])) (fun m k h=>?_) (fun m=>?_) (show o.length<n by omega)).trans ?_
 ·have hlk:o[k]?=some o[k]:=gA h;simp only[q0h.next0,q0h.round0,evz,Nat.reduceLT,h,hlk,q1r,(q5n hs _).eq];rw[q0k (by omega)];cases inR o[k] 0 (l.length-1) <;> rfl
 ·simp only[q0h.next0,q0h.round0,evz,Nat.reduceLT,gAK];exact two
 ·cases o.any fun x=>!inR x 0 (l.length-1) <;> cases qdf o <;> rfl
theorem q4l(l:List Symbol)(hs:l.length<=4294967296)(o:List Int)(ho:o.length<=4294967296):Call F.q4l [.agg [slc l],slc o] (.int .i64 (q4e ⟨l⟩ o)):=by
 refine q0q rfl 0 ((q4l.ev _ _ _).trans ?_);simp only[evz,Nat.reduceLT,(q01 l hs).eq,(q0h l hs o ho).eq,q4e];by_cases h1:q3y ⟨l⟩=0
 ·simp only[h1,evz,Nat.reduceLT,ne_eq,gW]
 ·simp only[h1,evz,Nat.reduceLT,ne_eq,gX]
def qgz(l:List Symbol)(o:List Int)(rs:List Equation):Bool := !rs.any fun e=>!gt l o e.left e.right 0 0
def q4n(s:Signature)(o:List Int)(rs:List Equation):Bool:=decide (q4e s o=0)&&decide (q7x s.symbols rs=0)&&qgz s.symbols o rs
theorem q7z{l:List Symbol}(h:q3y ⟨l⟩=0):SigOk ⟨l⟩:=(qa3 _).1 h
theorem q29{l:List Symbol}(ok:SigOk ⟨l⟩){o:List Int}(ho:qb2 l o=0){rs:List Equation}(hr:∀e∈rs,EqOk l e)(hn:rs.length<=4294967296) :
 Call F.q29 [.rref [slc l] 0,slc o,slc rs] (.bool (qgz l o rs)):=by
 obtain⟨h1,h2⟩:=qlh ho;have hls:l.length<=6:=ok.le;refine q0q rfl (rs.length+1) ((q29.ev _ _ _ _).trans ?_);refine(q9d (l:=rs) (p:=fun e=>!gt l o e.left e.right 0 0) (r:=some (.bool false,[])) (z:=some (.bool true,[])) (S:=fun m k=>q29.at0 (rs.length+1) m (q29.st0 (cells l) (cells o) (cells rs) (k:Nat))) (fun m k h=>?_) (fun m=>?_) (gAR _)).trans ?_
 ·have hlk:rs[k]?=some rs[k]:=gA h;have he:=hr _ (gG h);simp only[q29.next0,q29.round0,evz,Nat.reduceLT,h,hlk,q3w,(q6k ok he.left he.right (by omega) h2).eq];rw[q0k (by omega)];cases gt l o rs[k].left rs[k].right 0 0 <;> rfl
 ·simp only[q29.next0,q29.round0,evz,Nat.reduceLT,gAK]
 ·unfold qgz;cases rs.any fun e=>!gt l o e.left e.right 0 0 <;> rfl
theorem q4p(s:Signature)(o:List Int)(rs:List Equation)(hs:sm 1048576 s)(ho:sm 1048576 o)(hr:sm 1048576 rs):Call F.q4p [.agg (enc s),slc o,slc rs] (.bool (q4n s o rs)):=by
 obtain⟨l⟩:=s;have hsl:l.length<=4294967296:=Nat.le_trans hs.1 (by omega);have hol:o.length<=4294967296:=Nat.le_trans ho.1 (by omega);have hrl:rs.length<=4294967296:=Nat.le_trans hr.1 (by omega);show Call F.q4p [.agg [slc l],slc o,slc rs] _;refine q0q rfl 0 ((q4p.ev _ _ _ _).trans ?_);simp only[evz,Nat.reduceLT,(q4l l hsl o hol).eq,q4n];by_cases h1:q4e ⟨l⟩ o=0
 case neg=>simp only[h1,evz,Nat.reduceLT,Bool.false_and]
 have h0:q3y ⟨l⟩=0:=by
  unfold q4e at h1;split at h1
  ·rename_i h;exact absurd h1 h
  ·rename_i h;simpa using h
 have hf:qb2 l o=0:=by unfold q4e at h1;rw[if_neg (by simpa using h0)]at h1;exact h1
 have ok:=q7z h0;simp only[h1,evz,Nat.reduceLT,(q1y l ok rs (q3k (by omega) hr)).eq,Bool.true_and];by_cases h2:q7x l rs=0
 case neg=>simp only[h2,evz,Nat.reduceLT,Bool.false_and]
 simp only[h2,evz,Nat.reduceLT,(q29 ok hf (q9f.1 h2).2 hrl).eq,Bool.true_and]
theorem q4q(s:Signature)(o:List Int)(rs:List Equation)(hs:sm 1048576 s)(ho:sm 1048576 o)(hr:sm 1048576 rs):Call F.q4q [.agg (enc s),slc o,slc rs] (.bool (q4n s o rs)):=by
 obtain⟨l⟩:=s;have hsl:l.length<=4294967296:=Nat.le_trans hs.1 (by omega);have hol:o.length<=4294967296:=Nat.le_trans ho.1 (by omega);have hrl:rs.length<=4294967296:=Nat.le_trans hr.1 (by omega);show Call F.q4q [.agg [slc l],slc o,slc rs] _;refine q0q rfl 0 ((q4q.ev _ _ _ _).trans ?_);simp only[evz,Nat.reduceLT,(q1g l hsl o hol).eq,q4n];by_cases h1:q4e ⟨l⟩ o=0
 case neg=>simp only[h1,evz,Nat.reduceLT,Bool.false_and]
 have h0:q3y ⟨l⟩=0:=by
  unfold q4e at h1;split at h1
  ·rename_i h;exact absurd h1 h
  ·rename_i h;simpa using h
 have hf:qb2 l o=0:=by unfold q4e at h1;rw[if_neg (by simpa using h0)]at h1;exact h1
 have ok:=q7z h0;have heq:=q0u l hsl rs (q3k (by omega) hr);rw[if_neg (by simpa using h0)]at heq;simp only[h1,evz,Nat.reduceLT,heq.eq,Bool.true_and];by_cases h2:q7x l rs=0
 case neg=>simp only[h2,evz,Nat.reduceLT,Bool.false_and]
 obtain⟨h3,h4⟩:=qlh hf;have hls:l.length<=6:=ok.le;have hre:=(q9f.1 h2).2
 have hi:Call F.q0x [slc rs,.clo F.q3a [.rref [slc l] 0,.rref [slc o] 0]] (.int .i64 (idx (fun e=>!gt l o e.left e.right 0 0) rs)):=by
  refine q0q rfl (rs.length+1) ((q05.ev _ _ _ _).trans ?_);simp only[evz,Nat.reduceLT];refine q8e (S:=fun m k=>q05.at0 (rs.length+1) m (q05.st0 (cells rs) (cells l) (cells o) rs.length (k:Nat))) (fun m k h=>?_) (fun m=>?_) (gAR _)
  ·have hlk:rs[k]?=some rs[k]:=gA h;have he:=hre _ (gG h)
   have hc:Call F.q3a [.agg [slc rs[k].left,slc rs[k].right],.rref [slc l] 0,.rref [slc o] 0] (.bool (!gt l o rs[k].left rs[k].right 0 0)):=by
    refine q0q rfl 0 ((q3a.ev _ _ _ _ _).trans ?_);simp only[evz,Nat.reduceLT,(q75 ok he.left he.right (by omega) h4).eq]
   simp only[q05.next0,q05.round0,evz,Nat.reduceLT,h,hlk,q3w,hc.eq];rw[q0k (by omega)];cases gt l o rs[k].left rs[k].right 0 0 <;> rfl
  ·simp only[q05.next0,q05.round0,evz,Nat.reduceLT,gAK]
 have hc:Call F.q3u [slc rs,.clo F.q3a [.rref [slc l] 0,.rref [slc o] 0]] (.bool (rs.any fun e=>!gt l o e.left e.right 0 0)):=by
  refine q0q rfl 0 ((q69.ev _ _ _ _).trans ?_);simp only[evz,Nat.reduceLT,hi.eq,q8v]
 simp only[h2,evz,Nat.reduceLT,hc.eq,Bool.true_and];rfl
def Free(b:Bnd)(t:List Int):Prop:=∀n∈t,(-1-n)∉b.1
theorem q9q{vs:List Int}{ts:List (List Int)}{v:Int}(h:v∉vs):q3i vs ts v=none:=by
 unfold q3i;rcases q6s (fun x:Int=>decide (x=v)) vs with⟨h1,_⟩|⟨i,hi,h1,hy,_⟩
 ·rw[if_pos (by omega)]
 ·have:vs[i]=v:=by simpa using hy
  exact absurd (this▸gG hi) h
theorem applied_free{b:Bnd}:∀{t:List Int},Free b t->q02 b.1 b.2 t=t
 |[],_=>rfl
 |n::t,h=>by
  have ih:=applied_free (b:=b) (t:=t) fun m hm=>h m (gF _ hm);have e:q02 b.1 b.2 (n::t)=(q3i b.1 b.2 (-1-n)).getD [n]++q02 b.1 b.2 t:=by simp[q02]
  rw[e,q9q (h n (by simp)),ih];rfl
theorem qew{vs:List Int}{ts:List (List Int)}{P:Int->Prop}(ht:∀x∈ts,∀n∈x,P n){t:List Int}(h:∀n∈t,q3i vs ts (-1-n)=none->P n):∀n∈q02 vs ts t,P n:=fun n hn=>by
 unfold q02 at hn;obtain⟨m,hm,hn⟩:=List.mem_flatMap.1 hn;cases ho:q3i vs ts (-1-m)with
 |none=>rw[ho]at hn;rw[gD.1 hn];exact h m hm ho
 |some o=>rw[ho]at hn;exact ht o (q6h ho) n hn
structure UB(l:List Symbol)(b:Bnd):Prop where
 mb:MB l b 12
 nd:b.1.Nodup
 free:∀t∈b.2,Free b t
theorem UB.nil(l:List Symbol):UB l ([],[]):=⟨(MB.nil l).up (by omega),List.nodup_nil,by simp⟩
theorem UB.le{l:List Symbol}{b:Bnd}(h:UB l b):b.1.length<=12:=h.mb.le
theorem UB.applied_free{l:List Symbol}{b:Bnd}(h:UB l b)(t:List Int):Free b (q02 b.1 b.2 t):=qew h.free fun n _ hn=>qe0 h.mb.len hn
theorem UB.applied_ok{l:List Symbol}{b:Bnd}(h:UB l b){t:List Int}(ht:TermOk l t)(hl:(q02 b.1 b.2 t).length<=24):TermOk l (q02 b.1 b.2 t):=by
 have hs:=qan h.mb (by omega) t [] 1 ht.skip;rw[gAD]at hs;refine⟨?_,hl,qcb h.mb ht.node,hs⟩;rcases Nat.eq_zero_or_pos (q02 b.1 b.2 t).length with h0|h0
 ·rw[gL h0]at hs;cases hs
 ·exact h0
def one(v:Int)(t:List Int):Bnd:=([v],[t])
def q5g(b:Bnd)(v:Int)(t:List Int):Option Bnd:=
 if(b.2.any fun x=>decide (24<(q02 [v] [t] x).length))=true then none else some (bput (b.1,b.2.map (q02 [v] [t])) v t)
theorem qct(v:Int)(t:List Int)(w:Int):q3i [v] [t] w=if v=w then some t else none:=by
 by_cases h:v=w
 ·subst h;simp[q3i,idx]
 ·rw[if_neg h];exact q9q (by simpa using fun e=>h e.symm)
theorem qt3{l:List Symbol}{v:Int}(hv:0<=v/\v<=11){t:List Int}(ht:TermOk l t):MB l (one v t) 1:=⟨rfl,gAI _,fun x hx=>by rw[gD.1 hx];exact hv,fun x hx=>by rw[gD.1 hx];exact ht⟩
theorem qsx{l:List Int}{i:Nat}{x:Int}(h:l.Nodup)(hx:x∉l):(ins l i x).Nodup:=by
 unfold ins
 have hp:(l.take i++x::l.drop i).Perm (x::l):=by
  refine List.perm_middle.trans ?_;rw[List.take_append_drop]
 exact hp.nodup_iff.2 (List.nodup_cons.2 ⟨hx,h⟩)
theorem qnw{l:List Int}{i:Nat}{x y:Int}:y∈ins l i x<->y=x\/y∈l:=by
 unfold ins;constructor
 ·intro h;rcases gO.1 h with h|h
  ·exact .inr (List.mem_of_mem_take h)
  ·rcases gK.1 h with h|h
   ·exact .inl h
   ·exact .inr (List.mem_of_mem_drop h)
 ·rintro(rfl|h)
  ·simp
  ·rw[<- List.take_append_drop i l,gO]at h;rcases h with h|h
   ·exact gJ _ h
   ·exact gN _ (gF _ h)
theorem qtb{vs:List Int}(h:vs.Nodup)(hv:∀v∈vs,0<=v/\v<=11):vs.length<=12:=qq2 12 vs h fun v hm=>by have:=hv v hm;omega
theorem qcx{l:List Symbol}{b:Bnd}(h:UB l b){v:Int}(hv:0<=v/\v<=11)(hnb:v∉b.1){t:List Int}(ht:TermOk l t)(hf:Free b t)(hvt:(-1-v)∉t){b':Bnd}(hb:q5g b v t=some b') :
 UB l b'/\b'.1.length=b.1.length+1:=by
 unfold q5g at hb;split at hb
 ·cases hb
 rename_i hany;cases hb;have hi:=qe5 b.1 v;have hlen:=h.mb.len;have hmem:∀w,w∈(bput (b.1,b.2.map (q02 [v] [t])) v t).1<->w=v\/w∈b.1:=fun w=>qnw;have hnd:(bput (b.1,b.2.map (q02 [v] [t])) v t).1.Nodup:=qsx h.nd hnb
 have hvar:∀w∈(bput (b.1,b.2.map (q02 [v] [t])) v t).1,0<=w/\w<=11:=fun w hw=>by
  rcases(hmem w).1 hw with rfl|hw
  ·exact hv
  ·exact h.mb.var w hw
 have hl1:(bput (b.1,b.2.map (q02 [v] [t])) v t).1.length=b.1.length+1:=q7u _ _ _ hi;have hone:=qt3 hv ht
 have tm:∀x∈(bput (b.1,b.2.map (q02 [v] [t])) v t).2,TermOk l x/\Free (bput (b.1,b.2.map (q02 [v] [t])) v t) x:=fun x hx=>by
  rcases qp1 hx with rfl|hx
  ·refine⟨ht,fun n hn hm=>?_⟩;rcases(hmem _).1 hm with e|hm
   ·exact hvt (by have:n = -1-v:=by omega
                  exact this▸hn)
   ·exact hf n hn hm
  ·obtain⟨y,hy,rfl⟩:=List.mem_map.1 hx;have hyo:=h.mb.tm y hy
   have hle:(q02 [v] [t] y).length<=24:=by
    rcases Nat.lt_or_ge 24 (q02 [v] [t] y).length with h24|h24
    ·exact absurd (List.any_eq_true.2 ⟨y,hy,decide_eq_true h24⟩) hany
    ·exact h24
   refine⟨?_,?_⟩
   ·have hs:=qan hone (by omega) y [] 1 hyo.skip;rw[gAD]at hs;refine⟨?_,hle,qcb hone hyo.node,hs⟩;rcases Nat.eq_zero_or_pos (q02 [v] [t] y).length with h0|h0
    ·have hs:skip (ar l) 1 (q02 [v] [t] y)=some []:=hs;rw[gL h0]at hs;cases hs
    ·exact h0
   ·refine qew (P:=fun n=>(-1-n)∉(bput (b.1,b.2.map (q02 [v] [t])) v t).1) (fun z hz n hn hm=>?_) (fun n hn hno hm=>?_)
    ·rw[gD.1 hz]at hn;rcases(hmem _).1 hm with e|hm
     ·exact hvt (by have:n = -1-v:=by omega
                    exact this▸hn)
     ·exact hf n hn hm
    ·rcases(hmem _).1 hm with e|hm
     ·rw[qct,if_pos e.symm]at hno;cases hno
     ·exact h.free y hy n hn hm
 refine⟨⟨⟨?_,?_,hvar,fun x hx=>(tm x hx).1⟩,hnd,fun x hx=>(tm x hx).2⟩,hl1⟩
 ·rw[hl1];show _=(ins (b.2.map (q02 [v] [t])) (q80 b.1 v) t).length;rw[q7u _ _ _ (by simp;omega)];simp;omega
 ·exact qtb hnd hvar
abbrev Pr:=Equation
def q6u(l:List Symbol)(x y:List Int):List Pr:=((q34 l x 0).zip (q34 l y 0)).map fun p=>⟨q1i l x p.1,q1i l y p.2⟩
def q8i(b:Bnd)(ps:List Pr):Nat:=(ps.map fun p=>(q02 b.1 b.2 p.left).length+(q02 b.1 b.2 p.right).length).sum
theorem qk4{l:List Symbol}{t:List Int}(ht:TermOk l t):∀{n p:Nat}{r:List Int},skip (ar l) n (t.drop p)=some r->((q5i l t n p).map fun q=>(q1i l t q).length).sum+r.length=t.length-p
 |0,p,r,h=>by
  rw[q45]at h;rw[<- Option.some.inj h];simp[q5i]
 |n+1,p,r,h=>by
  obtain⟨h1,h2,h3,h4⟩:=qbr h;have ih:=qk4 ht h2;have hs:=(q56 ht h1).2.1;rw[q5i,List.map_cons,List.sum_cons];omega
theorem qpj{l:List Symbol}{t:List Int}(ht:TermOk l t):((q34 l t 0).map fun q=>(q1i l t q).length).sum+1=t.length:=by
 have hp:=ht.pos;obtain⟨r,hr⟩:=qa7 ht (p:=0) (by omega);have hd:t.getD 0 0=t[0]:=q6v (by omega);have h:=qk4 ht hr;have hw:=ht.skip
 have e:t=t[0]::t.drop 1:=by
  have:=gH (l:=t) (i:=0) (by omega);rwa[List.drop_zero]at this
 rw[e,skip,gAJ]at hw;rw[gAJ,hw]at hr;have:r=[]:=(Option.some.inj hr).symm;subst this;unfold q34;rw[hd];simp at h ⊢;omega
theorem qst{α β:Type}(f:α->Nat)(g:β->Nat):∀(A:List α)(B:List β),A.length=B.length->((A.zip B).map fun p=>f p.1+g p.2).sum=(A.map f).sum+(B.map g).sum
 |[],[],_=>rfl
 |a::A,b::B,h=>by
  have ih:=qst f g A B (by simpa using h);simp only[List.zip_cons_cons,List.map_cons,List.sum_cons]at ih ⊢;omega
 |[],_::_,h=>by simp at h
 |_::_,[],h=>by simp at h
theorem qlr{l:List Symbol}{t:List Int}{p:Nat}:∀n∈q1i l t p,n∈t:=fun n hn=>List.mem_of_mem_take (List.mem_of_mem_drop hn)
theorem q4r{l:List Symbol}{b:Bnd}{x y:List Int}(hx:TermOk l x)(hy:TermOk l y)(fx:Free b x)(fy:Free b y)(he:x.getD 0 0=y.getD 0 0):q8i b (q6u l x y)+2=x.length+y.length:=by
 have e:(q6u l x y).map (fun p=>(q02 b.1 b.2 p.left).length+(q02 b.1 b.2 p.right).length)=((q34 l x 0).zip (q34 l y 0)).map fun p=>(q1i l x p.1).length+(q1i l y p.2).length:=by
  unfold q6u;rw[List.map_map];refine List.map_congr_left fun p hp=>?_;show(q02 b.1 b.2 (q1i l x p.1)).length+(q02 b.1 b.2 (q1i l y p.2)).length=_;rw[applied_free fun n hn=>fx n (qlr n hn),applied_free fun n hn=>fy n (qlr n hn)]
 have hl:(q34 l x 0).length=(q34 l y 0).length:=by unfold q34;rw[q6c,q6c,he]
 unfold q8i;rw[e,qst (fun p=>(q1i l x p).length) (fun q=>(q1i l y q).length) _ _ hl];have:=qpj hx;have:=qpj hy;omega
theorem qli{l:List Symbol}{x y:List Int}(hx:TermOk l x)(hy:TermOk l y):∀p∈q6u l x y,TermOk l p.left/\TermOk l p.right:=fun p hp=>by
 unfold q6u at hp;obtain⟨q,hq,rfl⟩:=List.mem_map.1 hp;have h1:=q5a hx (p:=0) (by have:=hx.pos;omega) (List.of_mem_zip hq).1;have h2:=q5a hy (p:=0) (by have:=hy.pos;omega) (List.of_mem_zip hq).2;exact⟨q6b hx h1.2,q6b hy h2.2⟩
def unif(l:List Symbol):Nat->Bnd->List Pr->Option (Bnd ⊕ Int)
 |0,_,_=>none
 |_+1,b,[]=>some (.inl b)
 |n+1,b,p::ps=>
  if 24<(q02 b.1 b.2 p.left).length\/24<(q02 b.1 b.2 p.right).length then some (.inr 2)
  else if q02 b.1 b.2 p.left=q02 b.1 b.2 p.right then unif l n b ps
  else if(q02 b.1 b.2 p.left).getD 0 0<0 then
   if(q02 b.1 b.2 p.left).getD 0 0∈q02 b.1 b.2 p.right then some (.inr 4)else match q5g b (-1-(q02 b.1 b.2 p.left).getD 0 0) (q02 b.1 b.2 p.right)with
    |none=>some (.inr 2)
    |some b'=>unif l n b' ps
  else if(q02 b.1 b.2 p.right).getD 0 0<0 then
   if(q02 b.1 b.2 p.right).getD 0 0∈q02 b.1 b.2 p.left then some (.inr 4)else match q5g b (-1-(q02 b.1 b.2 p.right).getD 0 0) (q02 b.1 b.2 p.left)with
    |none=>some (.inr 2)
    |some b'=>unif l n b' ps
  else if(q02 b.1 b.2 p.left).getD 0 0≠(q02 b.1 b.2 p.right).getD 0 0 then some (.inr 4)
  else unif l n b (q6u l (q02 b.1 b.2 p.left) (q02 b.1 b.2 p.right)++ps)
theorem qhm{l:List Symbol}:∀{n m:Nat}{b:Bnd}{ps:List Pr}{r:Bnd ⊕ Int},unif l n b ps=some r->n<=m->unif l m b ps=some r
 |0,m,b,ps,r,h,hm=>by cases h
 |n+1,m,b,ps,r,h,hm=>by
  obtain⟨m,rfl⟩:∃q,m=q+1:=⟨m-1,by omega⟩;have ih:∀{b:Bnd}{ps:List Pr}{r:Bnd ⊕ Int},unif l n b ps=some r->unif l m b ps=some r:=fun h=>qhm h (by omega);cases ps with
  |nil=>exact h
  |cons p ps=>
   rw[unif]at h ⊢;split at h
   ·rename_i c;rw[if_pos c];exact h
   rename_i c;rw[if_neg c];split at h
   ·rename_i c;rw[if_pos c];exact ih h
   rename_i c;rw[if_neg c];split at h
   ·rename_i c;rw[if_pos c];split at h
    ·rename_i c;rw[if_pos c];exact h
    rename_i c;rw[if_neg c];split at h
    ·exact h
    ·exact ih h
   rename_i c;rw[if_neg c];split at h
   ·rename_i c;rw[if_pos c];split at h
    ·rename_i c;rw[if_pos c];exact h
    rename_i c;rw[if_neg c];split at h
    ·exact h
    ·exact ih h
   rename_i c;rw[if_neg c];split at h
   ·rename_i c;rw[if_pos c];exact h
   rename_i c;rw[if_neg c];exact ih h
theorem UB.head_var{l:List Symbol}{b:Bnd}(h:UB l b){t:List Int}(hx:TermOk l (q02 b.1 b.2 t))(hn:(q02 b.1 b.2 t).getD 0 0<0) :
 (0 <= -1-(q02 b.1 b.2 t).getD 0 0 /\ -1-(q02 b.1 b.2 t).getD 0 0<=11) /\ -1-(q02 b.1 b.2 t).getD 0 0∉b.1:=by
 have hp:=hx.pos;have hd:(q02 b.1 b.2 t).getD 0 0=(q02 b.1 b.2 t)[0]:=q6v (by omega);have hm:(q02 b.1 b.2 t).getD 0 0∈q02 b.1 b.2 t:=by rw[hd];exact gG _
 have:=q4j.1 (hx.node _ hm);exact⟨by omega,h.applied_free t _ hm⟩
theorem qsg{l:List Symbol}:∀(d k:Nat)(b:Bnd)(ps:List Pr),UB l b->(∀p∈ps,TermOk l p.left/\TermOk l p.right)->12-b.1.length<=d->q8i b ps<=k->
 ∃n r,unif l n b ps=some r/\∀b',r=.inl b'->UB l b':=by
 intro d;induction d with
 |zero=>
  intro k;induction k using Nat.strongRecOn with
  |_ k ihk=>exact fun b ps=>unif_step 0 k (fun d' hd'=>by omega) ihk b ps
 |succ d ihd=>
  intro k;induction k using Nat.strongRecOn with
  |_ k ihk=>exact fun b ps=>unif_step (d+1) k (fun d' hd' k b ps h1 h2 h3 h4=>ihd k b ps h1 h2 (by omega) h4) ihk b ps
where
 unif_step {l:List Symbol} (d k:Nat)
  (ihd:∀d',d'<d->∀(k:Nat)(b:Bnd)(ps:List Pr),UB l b->(∀p∈ps,TermOk l p.left/\TermOk l p.right)->12-b.1.length<=d'->q8i b ps<=k->∃n r,unif l n b ps=some r/\∀b',r=.inl b'->UB l b')
  (ihk:∀k',k'<k->∀(b:Bnd)(ps:List Pr),UB l b->(∀p∈ps,TermOk l p.left/\TermOk l p.right)->12-b.1.length<=d->q8i b ps<=k'->∃n r,unif l n b ps=some r/\∀b',r=.inl b'->UB l b')
  (b:Bnd) (ps:List Pr) (hb:UB l b) (hps:∀p∈ps,TermOk l p.left/\TermOk l p.right) (hd:12-b.1.length<=d) (hk:q8i b ps<=k):∃n r,unif l n b ps=some r/\∀b',r=.inl b'->UB l b':=by
  cases ps with
  |nil=>exact⟨1,.inl b,rfl,fun b' e=>by cases e;exact hb⟩
  |cons p ps=>
   have hp:=hps p (by simp);have hps':∀q∈ps,TermOk l q.left/\TermOk l q.right:=fun q hq=>hps q (gF _ hq);have hsz:q8i b (p::ps)=(q02 b.1 b.2 p.left).length+(q02 b.1 b.2 p.right).length+q8i b ps:=by simp[q8i]
   by_cases c1:24<(q02 b.1 b.2 p.left).length\/24<(q02 b.1 b.2 p.right).length
   ·exact⟨1,.inr 2,by rw[unif,if_pos c1],fun _ e=>by cases e⟩
   have hx:=hb.applied_ok hp.1 (by omega);have hy:=hb.applied_ok hp.2 (by omega);have hxp:=hx.pos;by_cases c2:q02 b.1 b.2 p.left=q02 b.1 b.2 p.right
   ·obtain⟨n,r,h1,h2⟩:=ihk (q8i b ps) (by omega) b ps hb hps' hd (gAI _);exact⟨n+1,r,by rw[unif,if_neg c1,if_pos c2];exact h1,h2⟩
   have bindcase:∀(u t:List Int),TermOk l (q02 b.1 b.2 u)->TermOk l (q02 b.1 b.2 t)->(q02 b.1 b.2 u).getD 0 0<0->(q02 b.1 b.2 u).getD 0 0∉q02 b.1 b.2 t->∀b',q5g b (-1-(q02 b.1 b.2 u).getD 0 0) (q02 b.1 b.2 t)=some b'->
    ∃n r,unif l n b' ps=some r/\∀b',r=.inl b'->UB l b':=fun u t hu ht hneg hno b' hb'=>by
    obtain⟨hv,hnb⟩:=hb.head_var hu hneg;obtain⟨q1,q2⟩:=qcx hb hv hnb ht (hb.applied_free t) (by rw[show -1-(-1-(q02 b.1 b.2 u).getD 0 0)=(q02 b.1 b.2 u).getD 0 0 by omega];exact hno) hb';have:=q1.le;exact ihd (d-1) (by omega) (q8i b' ps) b' ps q1 hps' (by omega) (gAI _)
   by_cases c3:(q02 b.1 b.2 p.left).getD 0 0<0
   ·by_cases c4:(q02 b.1 b.2 p.left).getD 0 0∈q02 b.1 b.2 p.right
    ·exact⟨1,.inr 4,by rw[unif,if_neg c1,if_neg c2,if_pos c3,if_pos c4],fun _ e=>by cases e⟩
    cases hb':q5g b (-1-(q02 b.1 b.2 p.left).getD 0 0) (q02 b.1 b.2 p.right)with
    |none=>exact⟨1,.inr 2,by rw[unif,if_neg c1,if_neg c2,if_pos c3,if_neg c4,hb'],fun _ e=>by cases e⟩
    |some b'=>
     obtain⟨n,r,h1,h2⟩:=bindcase p.left p.right hx hy c3 c4 b' hb';exact⟨n+1,r,by rw[unif,if_neg c1,if_neg c2,if_pos c3,if_neg c4,hb'];exact h1,h2⟩
   by_cases c5:(q02 b.1 b.2 p.right).getD 0 0<0
   ·by_cases c4:(q02 b.1 b.2 p.right).getD 0 0∈q02 b.1 b.2 p.left
    ·exact⟨1,.inr 4,by rw[unif,if_neg c1,if_neg c2,if_neg c3,if_pos c5,if_pos c4],fun _ e=>by cases e⟩
    cases hb':q5g b (-1-(q02 b.1 b.2 p.right).getD 0 0) (q02 b.1 b.2 p.left)with
    |none=>exact⟨1,.inr 2,by rw[unif,if_neg c1,if_neg c2,if_neg c3,if_pos c5,if_neg c4,hb'],fun _ e=>by cases e⟩
    |some b'=>
     obtain⟨n,r,h1,h2⟩:=bindcase p.right p.left hy hx c5 c4 b' hb';exact⟨n+1,r,by rw[unif,if_neg c1,if_neg c2,if_neg c3,if_pos c5,if_neg c4,hb'];exact h1,h2⟩
   by_cases c6:(q02 b.1 b.2 p.left).getD 0 0=(q02 b.1 b.2 p.right).getD 0 0
   ·have ha:=q4r (b:=b) hx hy (hb.applied_free _) (hb.applied_free _) c6;have happ:q8i b (q6u l (q02 b.1 b.2 p.left) (q02 b.1 b.2 p.right)++ps)=q8i b (q6u l (q02 b.1 b.2 p.left) (q02 b.1 b.2 p.right))+q8i b ps:=by simp[q8i]
    obtain⟨n,r,h1,h2⟩:=ihk _ (show q8i b (q6u l (q02 b.1 b.2 p.left) (q02 b.1 b.2 p.right)++ps)<k by omega) b _ hb (fun q hq=>by
     rcases gO.1 hq with hq|hq
     ·exact qli hx hy q hq
     ·exact hps' q hq) hd (gAI _)
    exact⟨n+1,r,by rw[unif,if_neg c1,if_neg c2,if_neg c3,if_neg c5,if_neg (by simpa using c6)];exact h1,h2⟩
   ·exact⟨1,.inr 4,by rw[unif,if_neg c1,if_neg c2,if_neg c3,if_neg c5,if_pos c6],fun _ e=>by cases e⟩
def q4b(t:List Int)(by_:Int):List Int:=t.map fun n=>if n<0 then n-by_ else n
theorem qqk{a:Int->Nat}{f:Int->Int}:∀{t:List Int}{k:Nat}{r:List Int},(∀n∈t,a (f n)=a n)->skip a k t=some r->skip a k (t.map f)=some (r.map f)
 |t,0,r,_,h=>by rw[q45]at h;cases h;rw[q45]
 |[],k+1,r,_,h=>by cases h
 |n::t,k+1,r,hf,h=>by
  rw[skip]at h;rw[List.map_cons,skip,hf n (by simp)];exact qqk (fun m hm=>hf m (gF _ hm)) h
theorem qaj{l:List Symbol}{t:List Int}(ht:TermOk l t)(hlow:∀n∈t,-6<=n):TermOk l (q4b t 6):=by
 refine⟨by unfold q4b;rw[gAG];exact ht.pos,by unfold q4b;rw[gAG];exact ht.le,fun n hn=>?_,?_⟩
 ·unfold q4b at hn;obtain⟨m,hm,rfl⟩:=List.mem_map.1 hn;have h1:=q4j.1 (ht.node m hm);have h2:=hlow m hm;rw[q4j];split <;> omega
 ·refine qqk (fun n hn=>?_) ht.skip;by_cases h:n<0
  ·rw[if_pos h,q9l l h,q9l l (by omega)]
  ·rw[if_neg h]
theorem q95{b:Bnd}{l:List Symbol}{k:Nat}(hb:MB l b k):∀t:List Int,t.length<=(q02 b.1 b.2 t).length
 |[]=>by simp[q02]
 |n::t=>by
  have ih:=q95 hb t;have e:q02 b.1 b.2 (n::t)=(q3i b.1 b.2 (-1-n)).getD [n]++q02 b.1 b.2 t:=by simp[q02]
  rw[e,gM,gAB];cases ho:q3i b.1 b.2 (-1-n)with
  |none=>simp;omega
  |some o=>
   have:=(hb.tm o (q6h ho)).pos;simp;omega
def q94(seen:List Int)(n:Int):Int×List Int:=
 if 0<=n then(n,seen)else if idx (fun x=>decide (x=n)) seen<0 then(-1-(seen.length:Int),seen++[n])else(-1-idx (fun x=>decide (x=n)) seen,seen)
def q2t:List Int->List Int->List Int×List Int
 |seen,[]=>([],seen)
 |seen,n::t=>((q94 seen n).1::(q2t (q94 seen n).2 t).1,(q2t (q94 seen n).2 t).2)
theorem qbo:∀(seen a b:List Int),q2t seen (a++b)=((q2t seen a).1++(q2t (q2t seen a).2 b).1,(q2t (q2t seen a).2 b).2)
 |seen,[],b=>rfl
 |seen,n::a,b=>by
  rw[List.cons_append,q2t,qbo,q2t];rfl
theorem q43:∀(seen t:List Int),(q2t seen t).1.length=t.length/\(q2t seen t).2.length<=seen.length+t.length/\seen.length<=(q2t seen t).2.length
 |seen,[]=>⟨rfl,by simp[q2t],by simp[q2t]⟩
 |seen,n::t=>by
  have ih:=q43 (q94 seen n).2 t
  have hp:(q94 seen n).2.length<=seen.length+1/\seen.length<=(q94 seen n).2.length:=by
   unfold q94;split
   ·exact⟨by simp,by simp⟩
   split
   ·simp
   ·exact⟨by simp,by simp⟩
  rw[q2t];simp only[gAB];omega
theorem qdt:∀(seen t:List Int),∀m∈(q2t seen t).1,(0<=m/\m∈t)\/(m<0 /\ -((q2t seen t).2.length:Int)<=m)
 |seen,[],m,h=>by cases h
 |seen,n::t,m,h=>by
  rw[q2t]at h ⊢;have hl:=(q43 (q94 seen n).2 t).2.2;rcases gK.1 h with rfl|h
  ·unfold q94 at hl ⊢;split
   ·exact .inl ⟨by assumption,by simp⟩
   rename_i h0;rw[if_neg h0]at hl;split
   ·rename_i h1;rw[if_pos h1]at hl;simp only[gM,List.length_singleton]at hl;exact .inr ⟨by simp only;omega,by simp only;omega⟩
   ·rename_i h1;rw[if_neg h1]at hl;rcases q6s (fun x:Int=>decide (x=n)) seen with⟨h2,_⟩|⟨i,hi,h2,_⟩
    ·omega
    ·simp only at hl ⊢;exact .inr ⟨by omega,by omega⟩
  ·rcases qdt (q94 seen n).2 t m h with h|h
   ·exact .inl ⟨h.1,gF _ h.2⟩
   ·exact .inr h
def q9n(e:Equation):Equation:=⟨(q2t [] e.left).1,(q2t (q2t [] e.left).2 e.right).1⟩
def qb5(e:Equation):List Int:=(q2t (q2t [] e.left).2 e.right).2
theorem qis{l:List Symbol}:∀(t seen r:List Int)(k:Nat),skip (ar l) k t=some r->∃r',skip (ar l) k (q2t seen t).1=some r'/\r'.length=r.length
 |[],seen,r,k,h=>by
  obtain⟨rfl,rfl⟩:=qlk h;exact⟨[],by rw[q45];rfl,rfl⟩
 |n::t,seen,r,0,h=>by
  rw[q45]at h;cases h;exact⟨_,q45 _,(q43 seen (n::t)).1⟩
 |n::t,seen,r,k+1,h=>by
  rw[skip]at h;obtain⟨r',h1,h2⟩:=qis t (q94 seen n).2 r _ h;refine⟨r',?_,h2⟩;rw[q2t,skip]
  have e:ar l (q94 seen n).1=ar l n:=by
   unfold q94;split
   ·rfl
   rename_i h0;split
   ·rw[q9l l (by simp only;omega),q9l l (by omega)]
   ·rename_i h1;rw[q9l l (by simp only;omega),q9l l (by omega)]
  rw[e];exact h1
theorem qjh{l:List Symbol}{t seen:List Int}(ht:TermOk l t)(h6:(q2t seen t).2.length<=6):TermOk l (q2t seen t).1/\∀n∈(q2t seen t).1,-6<=n:=by
 have hl:=(q43 seen t).1;obtain⟨r',h1,h2⟩:=qis (l:=l) t seen [] 1 ht.skip;have:r'=[]:=gL h2;subst this;refine⟨⟨by rw[hl];exact ht.pos,by rw[hl];exact ht.le,fun n hn=>?_,h1⟩,fun n hn=>?_⟩
 ·rcases qdt seen t n hn with⟨q1,q2⟩|⟨q1,q2⟩
  ·exact ht.node n q2
  ·rw[q4j];omega
 ·rcases qdt seen t n hn with⟨q1,_⟩|⟨_,q2⟩ <;> omega
theorem qlc{l:List Symbol}{e:Equation}(hl:TermOk l e.left)(hr:TermOk l e.right)(h6:(qb5 e).length<=6):EqOk l (q9n e):=by
 have h1:=(q43 (q2t [] e.left).2 e.right).2.2;have h2:(q2t (q2t [] e.left).2 e.right).2.length<=6:=h6;obtain⟨q1,q2⟩:=qjh (seen:=[]) hl (by omega);obtain⟨q3,q4⟩:=qjh (seen:=(q2t [] e.left).2) hr h2;exact⟨q1,q3,q2,q4⟩
open Classical in
noncomputable def qes(l:List Symbol)(a b:List Int):Bnd ⊕ Int:=if h:∃n r,unif l n ([],[]) [⟨a,b⟩]=some r then Classical.choose (Classical.choose_spec h)else .inr 0
theorem q8x{l:List Symbol}{a b:List Int}(ha:TermOk l a)(hb:TermOk l b):(∃n,unif l n ([],[]) [⟨a,b⟩]=some (qes l a b))/\∀x,qes l a b=.inl x->UB l x:=by
 obtain⟨n,r,h1,h2⟩:=qsg (l:=l) 12 _ ([],[]) [⟨a,b⟩] (UB.nil l) (fun p hp=>by rw[gD.1 hp];exact⟨ha,hb⟩) (by simp) (gAI _);have h:∃n r,unif l n ([],[]) [⟨a,b⟩]=some r:=⟨n,r,h1⟩;have e:qes l a b=Classical.choose (Classical.choose_spec h):=by unfold qes;rw[dif_pos h]
 have hs:=Classical.choose_spec (Classical.choose_spec h);rw[<- e]at hs;refine⟨⟨_,hs⟩,fun x hx=>?_⟩
 have:qes l a b=r:=by
  have q1:=qhm hs (Nat.le_max_left _ n);have q2:=qhm h1 (Nat.le_max_right (Classical.choose h) n);rw[q1]at q2;exact Option.some.inj q2
 exact h2 x (this▸hx)
noncomputable def q6l(l:List Symbol)(o i:Equation)(p:Nat):EquationResult:=match qes l (q1i l o.left p) (q4b i.left 6)with
 |.inr c=>⟨c,⟨[],[]⟩⟩
 |.inl b=>
  if 24<(q02 b.1 b.2 o.right).length\/24<(q02 b.1 b.2 (q42 l o.left p (q4b i.right 6))).length then⟨2,⟨[],[]⟩⟩
  else if 6<(qb5 ⟨q02 b.1 b.2 o.right,q02 b.1 b.2 (q42 l o.left p (q4b i.right 6))⟩).length then⟨2,⟨[],[]⟩⟩
  else⟨0,q9n ⟨q02 b.1 b.2 o.right,q02 b.1 b.2 (q42 l o.left p (q4b i.right 6))⟩⟩
end Ev.Ty
end
section
namespace Ev.Ty
open Go Ev
theorem qdl(x:Int)(vs:List Int)(t:List Int)(ts:List (List Int))(v:Int):q3i (x::vs) (t::ts) v=if x=v then some t else q3i vs ts v:=by
 unfold q3i idx;rw[List.findIdx?_cons];by_cases h:x=v
 ·simp[h]
 ·simp only[h,decide_false,Bool.false_eq_true,if_false];cases e:vs.findIdx? (fun y=>decide (y=v))with
  |none=>simp
  |some i=>
   have h1:¬((i+1:Nat):Int)<0:=by omega
   have h2:¬((i:Nat):Int)<0:=by omega
   simp only[Option.map_some,h1,h2,if_false,gR,List.getElem?_cons_succ]
theorem qk2{v:Int}{t:List Int}(w:Int):∀(i:Nat)(vs:List Int)(ts:List (List Int)),vs.length=ts.length->i<=vs.length->v∉vs->q3i (ins vs i v) (ins ts i t) w=if v=w then some t else q3i vs ts w
 |0,vs,ts,_,_,_=>qdl v vs t ts w
 |i+1,[],ts,_,hi,_=>by simp at hi
 |i+1,x::vs,[],hl,_,_=>by simp at hl
 |i+1,x::vs,y::ts,hl,hi,hv=>by
  have hx:¬ v=x:=fun e=>hv (by rw[e];exact List.mem_cons_self ..);have ih:=qk2 (t:=t) w i vs ts (by simpa using hl) (by simpa using hi) (fun h=>hv (gF _ h));show q3i (x::ins vs i v) (y::ins ts i t) w=_;rw[qdl,qdl,ih];by_cases h:x=w
  ·rw[if_pos h,if_pos h,if_neg (fun e=>hx (by rw[e,h]))]
  ·rw[if_neg h,if_neg h]
theorem qd8{b:Bnd}{v:Int}{t:List Int}(hl:b.1.length=b.2.length)(hv:v∉b.1)(w:Int):q3i (bput b v t).1 (bput b v t).2 w=if v=w then some t else q3i b.1 b.2 w:=
 qk2 w _ _ _ hl (qe5 b.1 v) hv
theorem qdk{vs:List Int}{ts:List (List Int)}(hl:vs.length=ts.length){v:Int}(h:q3i vs ts v=none):v∉vs:=qe0 hl h
theorem qeu{l:List Symbol}{t:List Int}(ht:TermOk l t){r:List Int}:∀(q:List Int)(b:Bnd)(p k:Nat),Both l t q p r->p<=t.length->MB l b k->k+q.length<=24->(∀n∈q,q5x l n=true)->∀x,mgo l t q b p=some x->
 p<=x.2/\x.2<=t.length/\(∃k',MB l x.1 k'/\k'<=24)/\(∀v o,q3i b.1 b.2 v=some o->q3i x.1.1 x.1.2 v=some o)/\q02 x.1.1 x.1.2 q=(t.drop p).take (x.2-p)/\∀n∈q,n<0->∃o,q3i x.1.1 x.1.2 (-1-n)=some o
 |[],b,p,k,h,hp,hb,hk,hq,x,hx=>by
  cases hx;exact⟨gAI _,hp,⟨k,hb,by simpa using hk⟩,fun _ _ h=>h,by simp[q02],fun n hn=>by cases hn⟩
 |n::q,b,p,k,h,hp,hb,hk,hq,x,hx=>by
  have hlt:=h.lt;obtain⟨h6,h7,_⟩:=q3n ht hlt;obtain⟨s1,hs,_⟩:=q56 ht hlt;rw[mgo,if_neg (by omega)]at hx;rw[gAB]at hk;have hnode:=q4j.1 (hq n (by simp));have hq':∀n∈q,q5x l n=true:=fun n hn=>hq n (gF _ hn);by_cases hn:0<=n
  ·rw[if_pos hn]at hx;split at hx
   ·rename_i e;obtain⟨a1,a2,⟨k',mb,hk'⟩,a3,a4,a5⟩:=qeu ht q b (p+1) (k+1) (h.node e) (by omega) (hb.up (by omega)) (by omega) hq' x hx;refine⟨by omega,a2,⟨k',mb,hk'⟩,a3,?_,fun m hm h0=>?_⟩
    ·show(n::q).flatMap _=_;have e1:(q3i x.1.1 x.1.2 (-1-n)).getD [n]=[n]:=by rw[qcv (mb.ok hk') (by omega)];rfl
     have e2:t.drop p=n::t.drop (p+1):=by
      rw[gH hlt];rw[gI,gA hlt]at e;have e:t[p]=n:=e;rw[e]
     rw[gAN,e1,e2,show x.2-p=(x.2-(p+1))+1 by omega,List.take_succ_cons,<- a4];rfl
    ·rcases gK.1 hm with rfl|hm
     ·omega
     ·exact a5 m hm h0
   ·cases hx
  ·rw[if_neg hn]at hx
   have glue:∀z:Bnd×Nat,p+(q1i l t p).length<=z.2->z.2<=t.length->q3i z.1.1 z.1.2 (-1-n)=some (q1i l t p)->q02 z.1.1 z.1.2 q=(t.drop (p+(q1i l t p).length)).take (z.2-(p+(q1i l t p).length))->q02 z.1.1 z.1.2 (n::q)=(t.drop p).take (z.2-p):=fun z g1 gt g2 g3=>by
    show(n::q).flatMap _=_;rw[gAN,g2];show q1i l t p++q02 z.1.1 z.1.2 q=_;have ee:t.drop p=q1i l t p++t.drop (p+(q1i l t p).length):=by rw[hs,show p+(q3v l t p-p)=q3v l t p by omega];exact s1
    rw[ee,List.take_append,List.take_of_length_le (by omega:(q1i l t p).length<=z.2-p),show z.2-p-(q1i l t p).length=z.2-(p+(q1i l t p).length) by omega,<- g3]
   split at hx
   ·rename_i hnone;obtain⟨a1,a2,⟨k',mb,hk'⟩,a3,a4,a5⟩:=qeu ht q _ _ (k+1) (h.var ht (by omega)) (by omega) (hb.put (v := -1-n) (by omega) (q6b ht hlt)) (by omega) hq' x hx;have hput:=fun w=>qd8 (t:=q1i l t p) hb.len (qdk hb.len hnone) w;have here:=a3 (-1-n) (q1i l t p) (by rw[hput,if_pos rfl]);refine⟨by omega,a2,⟨k',mb,hk'⟩,fun v o hv=>a3 v o ?_,glue x a1 a2 here a4,fun m hm h0=>?_⟩
    ·rw[hput,if_neg (fun e=>by rw[<- e,hnone]at hv;cases hv)];exact hv
    ·rcases gK.1 hm with rfl|hm
     ·exact⟨_,here⟩
     ·exact a5 m hm h0
   ·rename_i o ho;split at hx
    ·rename_i e;obtain⟨a1,a2,⟨k',mb,hk'⟩,a3,a4,a5⟩:=qeu ht q b _ (k+1) (h.var ht (by omega)) (by omega) (hb.up (by omega)) (by omega) hq' x hx;have here:=a3 (-1-n) o ho;rw[e]at here;refine⟨by omega,a2,⟨k',mb,hk'⟩,a3,glue x a1 a2 here a4,fun m hm h0=>?_⟩;rcases gK.1 hm with rfl|hm
     ·exact⟨_,here⟩
     ·exact a5 m hm h0
    ·cases hx
theorem qo1{l:List Symbol}{q t:List Int}(hq:TermOk l q)(ht:TermOk l t){p:Nat}(hp:p<t.length){b:Bnd}(h:q50 l q t p=some b) :
 q02 b.1 b.2 q=q1i l t p/\∀n∈q,n<0->∃o,q3i b.1 b.2 (-1-n)=some o:=by
 unfold q50 at h;rw[gP]at h;obtain⟨x,hx,rfl⟩:=h;have hB:=Both.start ht hq hp;obtain⟨e1,e2,_⟩:=qf2 ht q ([],[]) p 0 hB (by omega) (MB.nil l) (by have:=hq.le;omega) hq.node x hx;obtain⟨a1,a2,_,_,a4,a5⟩:=qeu ht q ([],[]) p 0 hB (by omega) (MB.nil l) (by have:=hq.le;omega) hq.node x hx;obtain⟨h6,h7,_⟩:=q3n ht hp
 have he:x.2=q3v l t p:=by
  have:=congrArg List.length e1;rw[gAA,gAA]at this;omega
 refine⟨?_,a5⟩;rw[a4,he];unfold q1i;rw[List.drop_take]
end Ev.Ty
end
section
namespace Ev.Ty
open Go Ev
open Tm
section
variable {l:List Symbol}(ok:SigOk ⟨l⟩){o:List Int}(ho:∀n:Int,0<=n->n<l.length->n∈o)
include ok
theorem TermOk.atZero{t:List Int}(h:TermOk l t):∃x,At l t 0 x/\t=x.flat:=by
 obtain⟨x,hx,e⟩:=h.tree ok;exact⟨x,⟨hx,[],by simpa using e⟩,e⟩
include ho
theorem TermOk.inO{t:List Int}(h:TermOk l t):∀n∈t,0<=n->n∈o:=fun n hn h0=>by
 have:=h.node n hn;unfold q5x at this;rw[Bool.or_eq_true,q8r,q8r]at this;exact ho n h0 (by omega)
theorem qvb{a b:List Int}{x y:Tm}(ha:TermOk l a)(hb:TermOk l b)(hx:x.ok (ar l))(hy:y.ok (ar l))(ea:a=x.flat)(eb:b=y.flat):gt l o a b 0 0=true<->G (rank o) x y:=
 gt_G ha hb (ha.inO ok ho) _ (gAI _) ⟨hx,[],by simpa using ea⟩ ⟨hy,[],by simpa using eb⟩
end
end Ev.Ty
end
section
namespace Ev.Ty
open Go Ev
theorem qbq(vs:List Int)(ts:List (List Int))(a b:List Int):q02 vs ts (a++b)=q02 vs ts a++q02 vs ts b:=List.flatMap_append
theorem q7b(vs:List Int)(ts:List (List Int))(n:Int):q02 vs ts [n]=(q3i vs ts (-1-n)).getD [n]:=by
 show[n].flatMap _=_;rw[gAN,List.flatMap_nil,gAD]
theorem q5u(vs:List Int)(ts:List (List Int))(n:Int)(t:List Int):q02 vs ts (n::t)=q02 vs ts [n]++q02 vs ts t:=qbq vs ts [n] t
def Ext(b c:Bnd):Prop:=∀t,q02 c.1 c.2 (q02 b.1 b.2 t)=q02 c.1 c.2 t
theorem Ext.of{b c:Bnd}(h:∀n,q02 c.1 c.2 (q02 b.1 b.2 [n])=q02 c.1 c.2 [n]):Ext b c:=by
 intro t;induction t with
 |nil=>rfl
 |cons n t ih=>rw[q5u,qbq,h,ih,<- q5u]
theorem Ext.trans{b c d:Bnd}(h1:Ext b c)(h2:Ext c d):Ext b d:=fun t=>by rw[<- h2 (q02 b.1 b.2 t),h1,h2]
theorem UB.ext{l:List Symbol}{b:Bnd}(h:UB l b):Ext b b:=fun t=>_root_.Ev.Ty.applied_free (h.applied_free t)
theorem qjk{f:List Int->List Int}(vs:List Int)(ts:List (List Int))(v:Int):q3i vs (ts.map f) v=(q3i vs ts v).map f:=by
 unfold q3i;split
 ·rfl
 ·rw[gAC]
theorem qbg{vs vs':List Int}{ts ts':List (List Int)}:∀{t:List Int},(∀n∈t,q02 vs ts [n]=q02 vs' ts' [n])->q02 vs ts t=q02 vs' ts' t
 |[],_=>rfl
 |n::t,h=>by rw[q5u vs ts n t,q5u vs' ts' n t,h n (List.mem_cons_self ..),qbg fun m hm=>h m (gF _ hm)]
theorem qod{l:List Symbol}{b:Bnd}(h:UB l b){v:Int}(hnb:v∉b.1){t:List Int}(hf:Free b t)(hvt:(-1-v)∉t){b1:Bnd}(hb:q5g b v t=some b1) :
 Ext b b1/\q02 b1.1 b1.2 [-1-v]=t/\q02 b1.1 b1.2 t=t:=by
 unfold q5g at hb;split at hb
 ·cases hb
 cases hb;have hl:b.1.length=(b.2.map (q02 [v] [t])).length:=by rw[gAG];exact h.mb.len
 have hput:∀w,q3i (bput (b.1,b.2.map (q02 [v] [t])) v t).1 (bput (b.1,b.2.map (q02 [v] [t])) v t).2 w=if v=w then some t else(q3i b.1 b.2 w).map (q02 [v] [t]):=fun w=>by
  have:=qd8 (b:=(b.1,b.2.map (q02 [v] [t]))) (t:=t) hl hnb w;rw[this];by_cases e:v=w
  ·rw[if_pos e,if_pos e]
  ·rw[if_neg e,if_neg e];exact qjk b.1 b.2 w
 generalize bput (b.1,b.2.map (q02 [v] [t])) v t=b1 at *
 have free:∀s,Free b s->q02 b1.1 b1.2 s=q02 [v] [t] s:=fun s hs=>qbg fun n hn=>by
  rw[q7b,q7b,hput,qct,q9q (hs n hn)];rfl
 refine⟨Ext.of fun n=>?_,?_,?_⟩
 ·rw[q7b b.1];cases e:q3i b.1 b.2 (-1-n)with
  |none=>rfl
  |some s=>
   show q02 b1.1 b1.2 s=_;rw[q7b,hput,e,if_neg (fun hv=>hnb (by rw[hv];exact Classical.byContradiction fun hm=>by rw[q9q hm]at e;cases e)),free s (h.free s (q6h e))];rfl
 ·rw[q7b,hput,if_pos (by omega)];rfl
 ·rw[free t hf]
  have:∀n∈t,q02 [v] [t] [n]=q02 [] [] [n]:=fun n hn=>by
   rw[q7b,qct,if_neg (fun e=>hvt (by rw[e,show -1-(-1-n)=n by omega];exact hn))];rfl
  rw[qbg this]
  have nil:∀s:List Int,q02 [] [] s=s:=fun s=>by
   induction s with
   |nil=>rfl
   |cons n s ih=>rw[q5u,ih];rfl
  exact nil t
theorem qvh{l:List Symbol}(ok:SigOk ⟨l⟩){X Y:List Int}(hX:TermOk l X)(hY:TermOk l Y){vs:List Int}{ts:List (List Int)}(hn:¬ X.getD 0 0<0)(he:X.getD 0 0=Y.getD 0 0)
 (h:∀p∈q6u l X Y,q02 vs ts p.left=q02 vs ts p.right):q02 vs ts X=q02 vs ts Y:=by
 obtain⟨x,hx,ex⟩:=hX.atZero ok;obtain⟨y,hy,ey⟩:=hY.atZero ok;have fx:=hx.args;have fy:=hy.args;have hdx:X.getD 0 0=x.head:=hx.facts.2.1;have hdy:Y.getD 0 0=y.head:=hy.facts.2.1;rw[hdx]at hn he;rw[hdy]at he;have okx:=hx.1;have oky:=hy.1;unfold q6u at h;generalize q34 l X 0=sx at *;generalize q34 l Y 0=sy at *;cases x with
 |v n=>exact absurd okx hn
 |k n=>
  cases y with
  |v m=>have:m<0:=oky;have he:n=m:=he;have:=okx.1;omega
  |k m=>have he:n=m:=he;subst he;rw[ex,ey]
  |u m y=>have he:n=m:=he;subst he;have:=okx.2;have:=oky.2.1;omega
  |b m y z=>have he:n=m:=he;subst he;have:=okx.2;have:=oky.2.1;omega
 |u n x=>
  cases y with
  |v m=>have:m<0:=oky;have he:n=m:=he;have:=okx.1;omega
  |k m=>have he:n=m:=he;subst he;have:=okx.2.1;have:=oky.2;omega
  |u m y=>
   have he:n=m:=he;subst he;cases fx with
   |cons a1 r1=>
    cases r1;cases fy with
    |cons b1 r2=>
     cases r2;have:=h ⟨q1i l X _,q1i l Y _⟩ (gD.2 rfl);simp only at this;rw[a1.facts.2.2.2,b1.facts.2.2.2]at this;rw[ex,ey];show q02 vs ts (n::x.flat)=q02 vs ts (n::y.flat);rw[q5u,q5u vs ts n y.flat,this]
  |b m y z=>have he:n=m:=he;subst he;have:=okx.2.1;have:=oky.2.1;omega
 |b n x x2=>
  cases y with
  |v m=>have:m<0:=oky;have he:n=m:=he;have:=okx.1;omega
  |k m=>have he:n=m:=he;subst he;have:=okx.2.1;have:=oky.2;omega
  |u m y=>have he:n=m:=he;subst he;have:=okx.2.1;have:=oky.2.1;omega
  |b m y y2=>
   have he:n=m:=he;subst he;cases fx with
   |cons a1 r1=>
    cases r1 with
    |cons a2 r1=>
     cases r1;cases fy with
     |cons b1 r2=>
      cases r2 with
      |cons b2 r2=>
       cases r2;have h1:=h ⟨q1i l X _,q1i l Y _⟩ (List.mem_cons_self ..);have h2:=h ⟨q1i l X _,q1i l Y _⟩ (gF _ (gD.2 rfl));simp only at h1 h2;rw[a1.facts.2.2.2,b1.facts.2.2.2]at h1;rw[a2.facts.2.2.2,b2.facts.2.2.2]at h2;rw[ex,ey];show q02 vs ts (n::(x.flat++x2.flat))=q02 vs ts (n::(y.flat++y2.flat));rw[q5u,q5u vs ts n (y.flat++y2.flat),qbq,qbq,h1,h2]
theorem qll{l:List Symbol}(ok:SigOk ⟨l⟩){t:List Int}(ht:TermOk l t)(h:t.getD 0 0<0):t=[t.getD 0 0]:=by
 obtain⟨x,hx,ex⟩:=ht.atZero ok;have hd:t.getD 0 0=x.head:=hx.facts.2.1;have okx:=hx.1;rw[hd]at h ⊢;cases x with
 |v n=>exact ex
 |k n=>have:=okx.1;have h:n<0:=h;omega
 |u n x=>have:=okx.1;have h:n<0:=h;omega
 |b n x y=>have:=okx.1;have h:n<0:=h;omega
theorem qrf{l:List Symbol}(ok:SigOk ⟨l⟩):∀(n:Nat)(b:Bnd)(ps:List Pr)(b':Bnd),UB l b->(∀p∈ps,TermOk l p.left/\TermOk l p.right)->unif l n b ps=some (.inl b')->
 Ext b b'/\UB l b'/\∀p∈ps,q02 b'.1 b'.2 p.left=q02 b'.1 b'.2 p.right:=by
 intro n;induction n with
 |zero=>intro b ps b' _ _ h;cases h
 |succ n ih=>
  intro b ps b' hb hps h;cases ps with
  |nil=>
   rw[unif]at h;cases h;exact⟨hb.ext,hb,fun p hp=>by cases hp⟩
  |cons p ps=>
   have hp:=hps p (by simp);have hps':∀q∈ps,TermOk l q.left/\TermOk l q.right:=fun q hq=>hps q (gF _ hq);rw[unif]at h;by_cases c1:24<(q02 b.1 b.2 p.left).length\/24<(q02 b.1 b.2 p.right).length
   ·rw[if_pos c1]at h;cases h
   rw[if_neg c1]at h;have hx:=hb.applied_ok hp.1 (by omega);have hy:=hb.applied_ok hp.2 (by omega);by_cases c2:q02 b.1 b.2 p.left=q02 b.1 b.2 p.right
   ·rw[if_pos c2]at h;obtain⟨e1,e2,e3⟩:=ih b ps b' hb hps' h;refine⟨e1,e2,fun q hq=>?_⟩;rcases gK.1 hq with rfl|hq
    ·rw[<- e1 q.left,c2,e1]
    ·exact e3 q hq
   rw[if_neg c2]at h
   have bindcase:∀(u t:List Int),TermOk l (q02 b.1 b.2 u)->TermOk l (q02 b.1 b.2 t)->(q02 b.1 b.2 u).getD 0 0<0->(q02 b.1 b.2 u).getD 0 0∉q02 b.1 b.2 t->∀b1,q5g b (-1-(q02 b.1 b.2 u).getD 0 0) (q02 b.1 b.2 t)=some b1->unif l n b1 ps=some (.inl b')->
    Ext b b'/\UB l b'/\q02 b'.1 b'.2 u=q02 b'.1 b'.2 t/\∀p∈ps,q02 b'.1 b'.2 p.left=q02 b'.1 b'.2 p.right:=fun u t hu ht hneg hno b1 hb1 hun=>by
    obtain⟨hv,hnb⟩:=hb.head_var hu hneg;have hno':(-1-(-1-(q02 b.1 b.2 u).getD 0 0))∉q02 b.1 b.2 t:=by rw[show -1-(-1-(q02 b.1 b.2 u).getD 0 0)=(q02 b.1 b.2 u).getD 0 0 by omega];exact hno
    obtain⟨q1,_⟩:=qcx hb hv hnb ht (hb.applied_free t) hno' hb1;obtain⟨x1,x2,x3⟩:=qod hb hnb (hb.applied_free t) hno' hb1;obtain⟨e1,e2,e3⟩:=ih b1 ps b' q1 hps' hun;refine⟨x1.trans e1,e2,?_,e3⟩;have hh:=qll ok hu hneg;rw[show -1-(-1-(q02 b.1 b.2 u).getD 0 0)=(q02 b.1 b.2 u).getD 0 0 by omega,<- hh]at x2;rw[<- e1 u,<- x1 u,x2,<- e1 t,<- x1 t,x3]
   by_cases c3:(q02 b.1 b.2 p.left).getD 0 0<0
   ·rw[if_pos c3]at h;by_cases c4:(q02 b.1 b.2 p.left).getD 0 0∈q02 b.1 b.2 p.right
    ·rw[if_pos c4]at h;cases h
    rw[if_neg c4]at h;cases hb1:q5g b (-1-(q02 b.1 b.2 p.left).getD 0 0) (q02 b.1 b.2 p.right)with
    |none=>rw[hb1]at h;cases h
    |some b1=>
     rw[hb1]at h;obtain⟨e1,e2,e3,e4⟩:=bindcase p.left p.right hx hy c3 c4 b1 hb1 h;refine⟨e1,e2,fun q hq=>?_⟩;rcases gK.1 hq with rfl|hq
     ·exact e3
     ·exact e4 q hq
   rw[if_neg c3]at h;by_cases c5:(q02 b.1 b.2 p.right).getD 0 0<0
   ·rw[if_pos c5]at h;by_cases c4:(q02 b.1 b.2 p.right).getD 0 0∈q02 b.1 b.2 p.left
    ·rw[if_pos c4]at h;cases h
    rw[if_neg c4]at h;cases hb1:q5g b (-1-(q02 b.1 b.2 p.right).getD 0 0) (q02 b.1 b.2 p.left)with
    |none=>rw[hb1]at h;cases h
    |some b1=>
     rw[hb1]at h;obtain⟨e1,e2,e3,e4⟩:=bindcase p.right p.left hy hx c5 c4 b1 hb1 h;refine⟨e1,e2,fun q hq=>?_⟩;rcases gK.1 hq with rfl|hq
     ·exact e3.symm
     ·exact e4 q hq
   rw[if_neg c5]at h;by_cases c6:(q02 b.1 b.2 p.left).getD 0 0=(q02 b.1 b.2 p.right).getD 0 0
   ·rw[if_neg (by simpa using c6)]at h
    obtain⟨e1,e2,e3⟩:=ih b _ b' hb (fun q hq=>by
     rcases gO.1 hq with hq|hq
     ·exact qli hx hy q hq
     ·exact hps' q hq) h
    refine⟨e1,e2,fun q hq=>?_⟩;rcases gK.1 hq with rfl|hq
    ·have:=qvh ok hx hy c3 c6 (fun r hr=>e3 r (gJ _ hr));rw[e1,e1]at this;exact this
    ·exact e3 q (gN _ hq)
   ·rw[if_pos c6]at h;cases h
theorem qor{l:List Symbol}(ok:SigOk ⟨l⟩){a b:List Int}(ha:TermOk l a)(hb:TermOk l b){x:Bnd}(h:qes l a b=.inl x):UB l x/\q02 x.1 x.2 a=q02 x.1 x.2 b:=by
 obtain⟨⟨n,hn⟩,h2⟩:=q8x ha hb;rw[h]at hn;obtain⟨_,e2,e3⟩:=qrf ok n ([],[]) [⟨a,b⟩] x (UB.nil l) (fun p hp=>by rw[gD.1 hp];exact⟨ha,hb⟩) hn;exact⟨e2,e3 ⟨a,b⟩ (gD.2 rfl)⟩
end Ev.Ty
end
section
namespace Ev.Ty
open Go Ev
open Enc (enc)
open Sm (sm)
theorem qgd{α:Type}{l:List α}{i k:Nat}(x:α)(hi:i<=k)(hk:k<l.length):(ins l i x).take (k+2)=(ins l i x).take (k+1)++[l[k]]:=by
 have hlen:=q7u l i x (by omega);have h:k+1<(ins l i x).length:=by omega
 have e:(ins l i x)[k+1]=l[k]:=by
  have:=qrw l x i (by omega) (k+1);rw[if_neg (by omega),if_neg (by omega),Nat.add_sub_cancel,gA hk]at this;have h2:(ins l i x)[k+1]?=some l[k]:=this;rw[gA h]at h2;exact Option.some.inj h2
 rw[<- e];exact(gAP h).symm
theorem qiv{α:Type}{l:List α}{i:Nat}(x:α)(hi:i<=l.length):(ins l i x).take (i+1)=l.take i++[x]:=by
 unfold ins;rw[List.take_append,List.take_of_length_le (by simp;omega)];simp[Nat.min_eq_left hi]
theorem qs6{α:Type}(l:List α)(x:α):ins l l.length x=l++[x]:=by simp[ins]
theorem q64(vs:List Int)(i:Nat)(v:Int)(hi:i<=vs.length)(hl:vs.length<4294967296):Call F.q64 [slc vs,.int .i64 i,.sl 1 [.int .i64 v]] (slc (ins vs i v)):=by
 refine qfa (e:=insE 8) rfl (Ev.of fun m=>?_);have hc:(cells vs).length=vs.length:=by rw[q0m,q3o,Nat.mul_one]
 show(bif _ then _ else _)=_;rw[q1o (by simp[hc,hl,Nat.ble_eq];omega)];have e1:=q9a vs 1 i rfl;have e2:=q9z vs 1 i rfl;rw[Nat.mul_one]at e1 e2;rw[gR,e1,e2];show some (T.sl 1 (cells (vs.take i)++T.int .i64 v::cells (vs.drop i)),[])=_;unfold ins slc;rw[q2s,q8c];rfl
theorem q5v(ts:List (List Int))(i:Nat)(t:List Int)(hi:i<=ts.length)(hl:ts.length<4294967296):Call F.q5v [slc ts,.int .i64 i,.sl 1 [slc t]] (slc (ins ts i t)):=by
 refine qfa (e:=insE 24) rfl (Ev.of fun m=>?_);have hc:(cells ts).length=ts.length:=by rw[q0m,show Enc.sz (List Int)=1 from rfl,Nat.mul_one]
 show(bif _ then _ else _)=_;rw[q1o (by simp[hc,hl,Nat.ble_eq];omega)];have e1:=q9a ts 1 i rfl;have e2:=q9z ts 1 i rfl;rw[Nat.mul_one]at e1 e2;rw[gR,e1,e2];show some (T.sl 1 (cells (ts.take i)++slc t::cells (ts.drop i)),[])=_;unfold ins;show _=some (T.sl 1 (cells (ts.take i++t::ts.drop i)),[]);rw[q2s,q8c];rfl
theorem q12(vs:List Int)(ts:List (List Int))(v:Int)(t:List Int)(hl:vs.length=ts.length)(hs:vs.length<=1000)(ht:t.length<=4294967296) :
 LIM F.q12 [.rref [slc vs,slc ts] 0,.int .i64 v,slc t]=some (.tup [],[.agg [slc (bput (vs,ts) v t).1,slc (bput (vs,ts) v t).2]]):=by
 have hi:=qe5 vs v;refine q6r rfl 1002 ((q12.ev _ _ _ _ _).trans ?_)
 have loop:∀n k f,k+n=q80 vs v->n<f->q12.at0 1002 f (q12.st0 v (cells t) (k:Nat) (cells vs) (cells ts))=some (.tup [],[.agg [slc (bput (vs,ts) v t).1,slc (bput (vs,ts) v t).2]]):=by
  intro n;induction n with
  |zero=>
   intro k f hk hf;obtain⟨f,rfl⟩:∃x,f=x+1:=⟨f-1,by omega⟩;obtain rfl:k=q80 vs v:=by omega
   have q1:=(q64 vs (q80 vs v) v hi (by omega)).eq;have q2:=(q5v ts (q80 vs v) t (by omega) (by omega)).eq;by_cases h:q80 vs v<vs.length
   ·have hs:=qfm vs v h;have hlk:vs[q80 vs v]?=some vs[q80 vs v]:=gA h;simp only[q12.next0,q12.round0,evz,Nat.reduceLT,h,hlk,q1r,hs,q1,(q2v t ht).eq,q2];rfl
   ·simp only[q12.next0,q12.round0,evz,Nat.reduceLT,h,q1,(q2v t ht).eq,q2];rfl
  |succ n ih=>
   intro k f hk hf;obtain⟨f,rfl⟩:∃x,f=x+1:=⟨f-1,by omega⟩;have h:k<vs.length:=by omega
   have hlt:=qkl vs v k (by omega) h;have hlk:vs[k]?=some vs[k]:=gA h;simp only[q12.next0,q12.round0,evz,Nat.reduceLT,h,hlk,q1r,hlt];rw[q0k (by omega)];exact ih (k+1) f (by omega) (by omega)
 exact loop (q80 vs v) 0 1002 (by omega) (by omega)
def q9m(vs:List Int)(ts:List (List Int))(v:Int)(t:List Int)(k:Nat):Bool×List Int×List (List Int):=
 if k<=q80 vs v then(false,vs.take k,ts.take k)else(true,(ins vs (q80 vs v) v).take (k+1),(ins ts (q80 vs v) t).take (k+1))
theorem q1u(vs:List Int)(ts:List (List Int))(v:Int)(t:List Int)(hl:vs.length=ts.length)(hs:vs.length<=1000)(ht:t.length<=4096)(hv:v∉vs)(htm:∀x∈ts,x.length<=4096) :
 Call F.q1u [.rref [slc vs,slc ts] 0,.int .i64 v,slc t] (.agg [slc (bput (vs,ts) v t).1,slc (bput (vs,ts) v t).2]):=by
 have hi:=qe5 vs v;refine q0q rfl 1002 ((q1u.ev _ _ _ _ _).trans ?_)
 have key:=q9p (n:=vs.length) (f:=1002) (S:=fun m k (s:Bool×List Int×List (List Int))=>q1u.at0 1002 m (q1u.st0 (cells vs) (cells ts) v (cells t) s.1 (k:Nat) (cells s.2.1) (cells s.2.2)))
  (st:=q9m vs ts v t) (z:=some (.agg [slc (bput (vs,ts) v t).1,slc (bput (vs,ts) v t).2],[])) (fun m k h=>?_) (fun m=>?_) (by omega)
 ·have e0:q9m vs ts v t 0=(false,[],[]):=by unfold q9m;rw[if_pos (Nat.zero_le _)];rfl
  rw[e0]at key;exact key
 ·have h':k<ts.length:=by omega
  have hlk:vs[k]?=some vs[k]:=gA h;have htk:ts[k]?=some ts[k]:=gA h';have hx:=(q5e ts[k] (by have:=htm _ (gG h');omega)).eq;have hx2:=(q5e t (by omega)).eq;have hne:vs[k]≠v:=fun e=>hv (e▸gG h);have len1:∀q,((cells (vs.take q)).length)<=1000:=fun q=>by rw[q0m,q3o];simp;omega
  have len2:∀q,((cells (ts.take q)).length)<=1000:=fun q=>by rw[q0m,show Enc.sz (List Int)=1 from rfl];simp;omega
  have len3:∀q,((cells ((ins vs (q80 vs v) v).take q)).length)<=1001:=fun q=>by rw[q0m,q3o,gAF,q7u _ _ _ hi];omega
  have len4:∀q,((cells ((ins ts (q80 vs v) t).take q)).length)<=1001:=fun q=>by rw[q0m,show Enc.sz (List Int)=1 from rfl,gAF,q7u _ _ _ (by omega)];omega
  have tk1:vs.take (k+1)=vs.take k++[vs[k]]:=(gAP h).symm;have tk2:ts.take (k+1)=ts.take k++[ts[k]]:=(gAP h').symm;rcases Nat.lt_trichotomy k (q80 vs v)with c|c|c
  ·have hlt:=qkl vs v k c h;have hgt:¬ vs[k]>v:=by omega
   have e1:q9m vs ts v t k=(false,vs.take k,ts.take k):=if_pos (by omega);have e2:q9m vs ts v t (k+1)=(false,vs.take k++[vs[k]],ts.take k++[ts[k]]):=by unfold q9m;rw[if_pos (by omega),tk1,tk2]
   rw[e1,e2];simp only[q1u.next0,q1u.round0,evz,Nat.reduceLT,h,h',hlk,htk,q1r,qbn,hgt,hx,q2w,q84];rw[q1o (q41 (by have:=len1 k;omega)),q1o (q41 (by have:=len2 k;omega)),q0k (by omega)]
  ·have hs:=qfm vs v (by omega)
   have hs:¬ vs[k]<v:=by
    have:vs[q80 vs v]'(by omega)=vs[k]:=by congr 1;omega
    rw[this]at hs;exact hs
   have hgt:vs[k]>v:=by omega
   have e1:q9m vs ts v t k=(false,vs.take k,ts.take k):=if_pos (by omega)
   have e2:q9m vs ts v t (k+1)=(true,(vs.take k++[v])++[vs[k]],(ts.take k++[t])++[ts[k]]):=by
    unfold q9m;rw[if_neg (by omega),<- c,qgd v (gAI _) h,qgd t (gAI _) h',qiv v (by omega),qiv t (by omega)]
   rw[e1,e2];simp only[q1u.next0,q1u.round0,evz,Nat.reduceLT,h,h',hlk,htk,q1r,qbn,hgt,hx,hx2,q2w,q84];have l1:=len1 k;have l2:=len2 k;have l3:(cells (vs.take k++[v])).length<=1001:=by rw[q2s,gM,q0m [v]];simp;omega
   have l4:(cells (ts.take k++[t])).length<=1001:=by rw[q2s,gM,q0m [t]];simp[show Enc.sz (List Int)=1 from rfl];omega
   rw[q1o (q41 (by omega)),q1o (q41 (by omega)),q1o (q41 (by omega)),q1o (q41 (by omega)),q0k (by omega)]
  ·have e1:q9m vs ts v t k=(true,(ins vs (q80 vs v) v).take (k+1),(ins ts (q80 vs v) t).take (k+1)):=if_neg (by omega)
   have e2:q9m vs ts v t (k+1)=(true,(ins vs (q80 vs v) v).take (k+1)++[vs[k]],(ins ts (q80 vs v) t).take (k+1)++[ts[k]]):=by
    unfold q9m;rw[if_neg (by omega),qgd v (by omega) h,qgd t (by omega) h']
   rw[e1,e2];simp only[q1u.next0,q1u.round0,evz,Nat.reduceLT,h,h',hlk,htk,q1r,qbn,hx,q2w,q84];rw[q1o (q41 (by have:=len3 (k+1);omega)),q1o (q41 (by have:=len4 (k+1);omega)),q0k (by omega)]
 ·have hx2:=(q5e t (by omega)).eq;by_cases c:q80 vs v=vs.length
  ·have e1:q9m vs ts v t vs.length=(false,vs,ts):=by
    unfold q9m;rw[if_pos (by omega),List.take_length,hl,List.take_length]
   have e2:bput (vs,ts) v t=(vs++[v],ts++[t]):=by
    unfold bput;rw[c,qs6];simp only[Prod.mk.injEq,true_and];rw[hl,qs6]
   rw[e1,e2];simp only[q1u.next0,q1u.round0,evz,Nat.reduceLT,gAK,hx2,q2w,q84];rw[q1o (q41 (by rw[q0m,q3o];omega)),q1o (q41 (by rw[q0m,show Enc.sz (List Int)=1 from rfl];omega))]
  ·have e1:q9m vs ts v t vs.length=(true,ins vs (q80 vs v) v,ins ts (q80 vs v) t):=by
    unfold q9m;rw[if_neg (by omega),List.take_of_length_le (by rw[q7u _ _ _ hi];omega),List.take_of_length_le (by rw[q7u _ _ _ (by omega)];omega)]
   rw[e1];simp only[q1u.next0,q1u.round0,evz,Nat.reduceLT,gAK];rfl
def mT:Option Bnd->T
 |none=>.tup [.agg [.sl 1 [],.sl 1 []],.bool false]
 |some b=>.tup [.agg [slc b.1,slc b.2],.bool true]
section
variable {l:List Symbol}(ok:SigOk ⟨l⟩)
include ok
theorem q21{pat u:List Int}(hq:TermOk l pat)(hu:TermOk l u):Call F.q21 [.agg [slc l],slc pat,slc u] (mT (q50 l pat u 0)):=by
 have hul:=hu.le;have hpl:=hq.le;refine q0q rfl 25 ((q21.ev _ _ _ _).trans ?_);simp only[q53,q3o]
 have loop:∀(q:List Int)(b:Bnd)(p k f:Nat),pat.drop k=q->q.length<f->Both l u q p []->MB l b k->k+q.length=pat.length->
  q21.at0 25 f (q21.st0 (cells u) (p:Nat) (cells pat) pat.length (k:Nat) (cells l) (cells b.1) (cells b.2))=
   some (match mgo l u q b p with|none=>T.tup [.agg [.sl 1 [],.sl 1 []],.bool false]|some x=>.tup [.agg [slc x.1.1,slc x.1.2],.bool (decide (x.2=u.length))],[]):=by
  intro q;induction q with
  |nil=>
   intro b p k f hd hf hB hb hk;obtain⟨f,rfl⟩:∃x,f=x+1:=⟨f-1,by omega⟩;have h:¬ k<pat.length:=by simp at hk;omega
   simp only[q21.next0,q21.round0,evz,Nat.reduceLT,h,mgo,Int.ofNat_inj]
  |cons n q ih=>
   intro b p k f hd hf hB hb hk;rw[gAB]at hf hk;obtain⟨f,rfl⟩:∃x,f=x+1:=⟨f-1,by omega⟩;have h:k<pat.length:=by omega
   have hn:pat[k]=n:=by
    have:=congrArg (fun x=>x[0]?) hd;simp only[gV,Nat.add_zero,List.getElem?_cons_zero]at this;rw[gA h]at this;exact Option.some.inj this
   have hd':pat.drop (k+1)=q:=by rw[<- List.drop_drop,hd];rfl
   have hlk:pat[k]?=some n:=by rw[gA h,hn]
   have hp:=hB.lt;have hpk:u[p]?=some u[p]:=gA hp;have hnode:=q4j.1 (hq.node n (hn▸gG h));have hp':¬((p:Int)>=(u.length:Int)):=by omega
   have hls:l.length<=6:=ok.le;obtain⟨h3,h4,_⟩:=q3n hu hp;have hsl:=(q56 hu hp).2.1;rw[mgo,if_neg (by omega)];by_cases c:0<=n
   ·have c':n>=0:=c;rw[if_pos c,q6v hp];by_cases e:u[p]=n
    ·simp only[q21.next0,q21.round0,evz,Nat.reduceLT,h,hlk,hp,hpk,hp',q1r,c',e];rw[q0k (by omega),q0k (by omega)];exact ih b (p+1) (k+1) f hd' (by omega) (hB.node (by rw[q6v hp,e])) (hb.up (by omega)) (by omega)
    ·simp only[q21.next0,q21.round0,evz,Nat.reduceLT,h,hlk,hp,hpk,hp',q1r,c',e]
   ·have c':¬ n>=0:=c;rw[if_neg c];have hof:=(q59 b.1 b.2 (-1-n) hb.len (by have:=hb.le;omega)).eq;have hB':=hB.var hu (by omega);have hw:IntKind.wrap .i64 (-1-n) = -1-n:=q2y (by omega);have hw2:IntKind.wrap .i64 ((p:Int)+((q1i l u p).length:Nat))=((p+(q1i l u p).length:Nat):Int):=by rw[q2y (by omega)];omega
    have hsub:=(q35 ok hu hp).eq;have hbl:=hb.le;cases hbo:q3i b.1 b.2 (-1-n)with
    |none=>
     rw[hbo]at hof;have hbind:=q12 b.1 b.2 (-1-n) (q1i l u p) hb.len (by omega) (by omega);simp only[q21.next0,q21.round0,evz,Nat.reduceLT,h,hlk,hp',q1r,c',hsub,hw,hof,ofT,q4t,hbind,hw2];rw[q0k (by omega)];exact ih (bput b (-1-n) (q1i l u p)) _ (k+1) f hd' (by omega) hB' (hb.put (by omega) (q6b hu hp)) (by omega)
    |some o=>
     rw[hbo]at hof;have ho:=hb.tm o (q6h hbo);have hol:=ho.le;have heq:=(q0p o (q1i l u p) ⟨by omega,fun _ _=>trivial⟩).eq;show _=some (match (if o=q1i l u p then mgo l u q b (p+(q1i l u p).length)else none)with|none=>_|some x=>_,[]);by_cases e:o=q1i l u p
     ·rw[if_pos e];rw[e]at heq;simp only[q21.next0,q21.round0,evz,Nat.reduceLT,h,hlk,hp',q1r,c',hsub,hw,hof,ofT,q4t,heq,e,hw2];rw[q0k (by omega)];exact ih b _ (k+1) f hd' (by omega) hB' (hb.up (by omega)) (by omega)
     ·rw[if_neg e];simp only[q21.next0,q21.round0,evz,Nat.reduceLT,h,hlk,hp',q1r,c',hsub,hw,hof,ofT,q4t,heq,e]
 have hpos:=hu.pos
 have e0:u.drop (q3v l u 0)=[]:=by
  have:=(q56 hu (p:=0) (by omega)).2.2;rw[List.drop_zero,hu.skip]at this;exact(Option.some.inj this).symm
 have hB:=Both.start hu hq (p:=0) (by omega);rw[e0]at hB;have hmain:=loop pat ([],[]) 0 0 25 rfl (by omega) hB (MB.nil l) (by omega);have hen:=qf2 hu pat ([],[]) 0 0 hB (by omega) (MB.nil l) (by omega) hq.node;unfold q50;cases hm:mgo l u pat ([],[]) 0 with
 |none=>rw[hm]at hmain;exact hmain
 |some x=>
  rw[hm]at hmain;obtain⟨h1,h2,_⟩:=hen x hm
  have hx:x.2=u.length:=by
   have:=congrArg List.length h1;rw[gAA]at this;simp at this;omega
  have hmain:q21.at0 25 25 (q21.st0 (cells u) (0:Nat) (cells pat) pat.length (0:Nat) (cells l) (cells ([]:List Int)) (cells ([]:List (List Int))))=some (T.tup [.agg [slc x.1.1,slc x.1.2],.bool (decide (x.2=u.length))],[]):=hmain;rw[hx,decide_eq_true rfl]at hmain;exact hmain
theorem q1f{pat u:List Int}(hq:TermOk l pat)(hu:TermOk l u){p0:Nat}(hp0:p0<u.length):Call F.q1f [.rref [slc l] 0,slc pat,slc u,.int .i64 p0] (mT (q50 l pat u p0)):=by
 have hul:=hu.le;have hpl:=hq.le;refine q0q rfl 25 ((q1f.ev _ _ _ _ _).trans ?_)
 have loop:∀(q:List Int)(b:Bnd)(p k f:Nat),pat.drop k=q->q.length<f->Both l u q p (u.drop (q3v l u p0))->MB l b k->k+q.length=pat.length->
  q1f.at0 25 f (q1f.st0 (cells l) (cells pat) (cells u) (p:Nat) (k:Nat) (cells b.1) (cells b.2))=some (mT ((mgo l u q b p).map (·.1)),[]):=by
  intro q;induction q with
  |nil=>
   intro b p k f hd hf hB hb hk;obtain⟨f,rfl⟩:∃x,f=x+1:=⟨f-1,by omega⟩;have h:¬ k<pat.length:=by simp at hk;omega
   simp only[q1f.next0,q1f.round0,evz,Nat.reduceLT,h,mgo,Option.map_some,mT]
  |cons n q ih=>
   intro b p k f hd hf hB hb hk;rw[gAB]at hf hk;obtain⟨f,rfl⟩:∃x,f=x+1:=⟨f-1,by omega⟩;have h:k<pat.length:=by omega
   have hn:pat[k]=n:=by
    have:=congrArg (fun x=>x[0]?) hd;simp only[gV,Nat.add_zero,List.getElem?_cons_zero]at this;rw[gA h]at this;exact Option.some.inj this
   have hd':pat.drop (k+1)=q:=by rw[<- List.drop_drop,hd];rfl
   have hlk:pat[k]?=some n:=by rw[gA h,hn]
   have hp:=hB.lt;have hpk:u[p]?=some u[p]:=gA hp;have hnode:=q4j.1 (hq.node n (hn▸gG h));have hp':¬((p:Int)>=(u.length:Int)):=by omega
   have hls:l.length<=6:=ok.le;obtain⟨h3,h4,_⟩:=q3n hu hp;have hsl:=(q56 hu hp).2.1;rw[mgo,if_neg (by omega)];by_cases c:0<=n
   ·have c':n>=0:=c;rw[if_pos c,q6v hp];by_cases e:u[p]=n
    ·simp only[q1f.next0,q1f.round0,evz,Nat.reduceLT,h,hlk,hp,hpk,hp',q1r,c',e];rw[q0k (by omega),q0k (by omega)];exact ih b (p+1) (k+1) f hd' (by omega) (hB.node (by rw[q6v hp,e])) (hb.up (by omega)) (by omega)
    ·simp only[q1f.next0,q1f.round0,evz,Nat.reduceLT,h,hlk,hp,hpk,hp',q1r,c',e,Option.map_none,mT]
   ·have c':¬ n>=0:=c;rw[if_neg c];have hof:=(q2i b.1 b.2 (-1-n) hb.len (by have:=hb.le;omega)).eq;have hB':=hB.var hu (by omega);have hw:IntKind.wrap .i64 (-1-n) = -1-n:=q2y (by omega);have hw2:IntKind.wrap .i64 ((p:Int)+((q1i l u p).length:Nat))=((p+(q1i l u p).length:Nat):Int):=by rw[q2y (by omega)];omega
    have hsub:=(q6g ok hu hp).eq;have hbl:=hb.le;cases hbo:q3i b.1 b.2 (-1-n)with
    |none=>
     rw[hbo]at hof;have hbind:=(q1u b.1 b.2 (-1-n) (q1i l u p) hb.len (by omega) (by omega) (qe0 hb.len hbo) fun x hx=>by have:=(hb.tm x hx).le;omega).eq;simp only[q1f.next0,q1f.round0,evz,Nat.reduceLT,h,hlk,hp',q1r,c',hsub,hw,hof,Option.getD_none,q4t,hbind,hw2,List.length_nil,Int.natCast_zero,Int.ofNat_zero];rw[q0k (by omega)];exact ih (bput b (-1-n) (q1i l u p)) _ (k+1) f hd' (by omega) hB' (hb.put (by omega) (q6b hu hp)) (by omega)
    |some o=>
     rw[hbo]at hof;have ho:=hb.tm o (q6h hbo);have hol:=ho.le;have hop:=ho.pos;have ho0:¬((o.length:Int)=0):=by omega
     have heq:=(q20 o (q1i l u p) ⟨by omega,fun _ _=>trivial⟩).eq;show _=some (mT ((if o=q1i l u p then mgo l u q b (p+(q1i l u p).length)else none).map (·.1)),[]);by_cases e:o=q1i l u p
     ·rw[if_pos e];have ho1:¬(((q1i l u p).length:Int)=0):=by omega
      rw[e]at heq;simp only[q1f.next0,q1f.round0,evz,Nat.reduceLT,h,hlk,hp',q1r,c',hsub,hw,hof,Option.getD_some,q4t,heq,e,ho0,ho1,hw2];rw[q0k (by omega)];exact ih b _ (k+1) f hd' (by omega) hB' (hb.up (by omega)) (by omega)
     ·rw[if_neg e];simp only[q1f.next0,q1f.round0,evz,Nat.reduceLT,h,hlk,hp',q1r,c',hsub,hw,hof,Option.getD_some,q4t,heq,e,ho0,Option.map_none,mT]
 exact loop pat ([],[]) p0 0 25 rfl (by omega) (Both.start hu hq hp0) (MB.nil l) (by omega)
end
section
variable {l:List Symbol}(ok:SigOk ⟨l⟩){rs:List Equation}(hr:∀e∈rs,EqOk l e)(hn:rs.length<=12)
include ok hr hn
theorem q8a{t:List Int}(ht:TermOk l t){p:Nat}(hp:p<t.length):Call F.q8a [.agg [slc l],slc rs,slc t,.int .i64 p] (.int .i64 (fits l rs t p)):=by
 have hu:=q6b ht hp
 have hi:Call F.q0x [slc rs,.clo F.q6a [.rref [slc l] 0,.rref [slc (q1i l t p)] 0]] (.int .i64 (fits l rs t p)):=by
  refine q0q rfl (rs.length+1) ((q0a.ev _ _ _ _).trans ?_);simp only[evz,Nat.reduceLT];refine q8e (S:=fun m k=>q0a.at0 (rs.length+1) m (q0a.st0 (cells rs) (cells l) (cells (q1i l t p)) rs.length (k:Nat))) (fun m k h=>?_) (fun m=>?_) (gAR _)
  ·have hlk:rs[k]?=some rs[k]:=gA h;have he:=hr _ (gG h)
   have hc:Call F.q6a [.agg [slc rs[k].left,slc rs[k].right],.rref [slc l] 0,.rref [slc (q1i l t p)] 0] (.bool (q50 l rs[k].left t p).isSome):=by
    refine q0q rfl 0 ((q6a.ev _ _ _ _ _).trans ?_);have hm:=(q21 ok he.left hu).eq;rw[qbx he.left ht hp]at hm;cases hmm:q50 l rs[k].left t p with
    |none=>rw[hmm]at hm;simp only[evz,Nat.reduceLT,hm,mT];rfl
    |some b=>rw[hmm]at hm;simp only[evz,Nat.reduceLT,hm,mT];rfl
   simp only[q0a.next0,q0a.round0,evz,Nat.reduceLT,h,hlk,q3w,hc.eq];rw[q0k (by omega)];cases (q50 l rs[k].left t p).isSome <;> rfl
  ·simp only[q0a.next0,q0a.round0,evz,Nat.reduceLT,gAK]
 refine q0q rfl 0 ((q8a.ev _ _ _ _ _).trans ?_);simp only[evz,Nat.reduceLT,(q35 ok ht hp).eq,hi.eq]
theorem q2j{t:List Int}(ht:TermOk l t){p:Nat}(hp:p<t.length):Call F.q2j [.rref [slc l] 0,slc rs,slc t,.int .i64 p] (.int .i64 (fits l rs t p)):=by
 refine q0q rfl (rs.length+1) ((q2j.ev _ _ _ _ _).trans ?_);refine q8e (S:=fun m k=>q2j.at0 (rs.length+1) m (q2j.st0 (cells l) (cells rs) (cells t) (p:Nat) (k:Nat))) (fun m k h=>?_) (fun m=>?_) (gAR _)
 ·have hlk:rs[k]?=some rs[k]:=gA h;have he:=hr _ (gG h);have hm:=(q1f ok he.left ht hp).eq;cases hmm:q50 l rs[k].left t p with
  |none=>
   rw[hmm]at hm;simp only[q2j.next0,q2j.round0,evz,Nat.reduceLT,h,hlk,q3w,hm,mT];rw[q0k (by omega)];rfl
  |some b=>
   rw[hmm]at hm;simp only[q2j.next0,q2j.round0,evz,Nat.reduceLT,h,hlk,q3w,hm,mT];rfl
 ·simp only[q2j.next0,q2j.round0,evz,Nat.reduceLT,gAK]
theorem q13{t:List Int}(ht:TermOk l t):Call F.q13 [.agg [slc l],slc rs,slc t] (.tup [.int .i64 (q5c l rs t).1,.int .i64 (q5c l rs t).2,.bool (decide ((q5c l rs t).1>=0))]):=by
 have hle:=ht.le;have hpos:=ht.pos
 have loop:∀(k f:Nat)(s:Int×Int),k<=t.length->k<f->IsBest (q3v l t) (fits l rs t) k t.length s->
  q13.at0 25 f (q13.st0 (cells rs) (cells t) s.1 s.2 ((k:Int)-1) (cells l))=
   some (.tup [.int .i64 (down (q3v l t) (fits l rs t) k s).1,.int .i64 (down (q3v l t) (fits l rs t) k s).2,.bool (decide ((down (q3v l t) (fits l rs t) k s).1>=0))],[]):=by
  intro k;induction k with
  |zero=>
   intro f s hk hf hb;obtain⟨f,rfl⟩:∃x,f=x+1:=⟨f-1,by omega⟩;have h1:¬(((0:Nat):Int)-1>=0):=by omega
   simp only[q13.next0,q13.round0,qer];rw[if_neg h1];rfl
  |succ k ih=>
   intro f s hk hf hb;obtain⟨f,rfl⟩:∃x,f=x+1:=⟨f-1,by omega⟩;have e:((k+1:Nat):Int)-1=(k:Int):=by omega
   have h1:(k:Int)>=0:=by omega
   have hkt:k<t.length:=by omega
   have hw:IntKind.wrap .i64 ((k:Int)-1)=(k:Int)-1:=q2y (by omega);have hb':=hb.down _ _ hkt;have next:=ih f _ (by omega) (by omega) hb'
   have hra:=(q8a ok hr hn ht hkt).eq;have hek:=(qeq ok ht hkt).eq;rw[e,down];unfold qgn at next ⊢
   rcases hb with⟨rfl,hno⟩|⟨a,ha1,ha2,rfl,ha3,ha4⟩
   ·have hneg:¬((-1:Int)>=0):=by omega
    rw[if_neg (fun h=>hneg h.1)]at next ⊢
    by_cases hf0:fits l rs t k>=0
    ·rw[if_pos hf0]at next ⊢
     simp only[q13.next0,q13.round0,evz,Nat.reduceLT,h1,hneg,hra,hf0,hw];exact next
    ·rw[if_neg hf0]at next ⊢
     simp only[q13.next0,q13.round0,evz,Nat.reduceLT,h1,hneg,hra,hf0,hw];exact next
   ·have hpa:((a:Int))>=0:=by omega
    have hea:=(qeq ok ht ha2).eq;by_cases hc:q3v l t k>=q3v l t a
    ·have hc':((q3v l t k:Nat):Int)>=((q3v l t a:Nat):Int):=by omega
     have hcc:((a:Int),fits l rs t a).1>=0/\q3v l t k>=q3v l t (((a:Int),fits l rs t a).1).toNat:=⟨hpa,by simpa using hc⟩;rw[if_pos hcc]at next ⊢
     simp only[q13.next0,q13.round0,evz,Nat.reduceLT,h1,hpa,hek,hea,hc',hw];exact next
    ·have hc':¬((q3v l t k:Nat):Int)>=((q3v l t a:Nat):Int):=by omega
     have hcc:¬(((a:Int),fits l rs t a).1>=0/\q3v l t k>=q3v l t (((a:Int),fits l rs t a).1).toNat):=fun h=>hc (by simpa using h.2);rw[if_neg hcc]at next ⊢
     by_cases hf0:fits l rs t k>=0
     ·rw[if_pos hf0]at next ⊢
      simp only[q13.next0,q13.round0,evz,Nat.reduceLT,h1,hpa,hek,hea,hc',hra,hf0,hw];exact next
     ·rw[if_neg hf0]at next ⊢
      simp only[q13.next0,q13.round0,evz,Nat.reduceLT,h1,hpa,hek,hea,hc',hra,hf0,hw];exact next
 refine q0q rfl 25 ((q13.ev _ _ _ _).trans ?_);simp only[q53,q3o];rw[q2y (by omega)];exact loop t.length 25 (-1,-1) (gAI _) (by omega) (.inl ⟨rfl,fun a h1 h2=>by omega⟩)
theorem q24{t:List Int}(ht:TermOk l t):Call F.q24 [.rref [slc l] 0,slc rs,slc t] (.tup [.int .i64 (q5c l rs t).1,.int .i64 (q5c l rs t).2]):=by
 have hle:=ht.le;refine q0q rfl 25 ((q24.ev _ _ _ _).trans ?_)
 have key:=q9p (n:=t.length) (f:=25) (S:=fun m k (s:Int×Int×Int)=>q24.at0 25 m (q24.st0 (cells l) (cells rs) (cells t) s.1 s.2.1 s.2.2 (k:Nat)))
  (st:=qc5 (q3v l t) (fits l rs t)) (z:=some (.tup [.int .i64 (q5c l rs t).1,.int .i64 (q5c l rs t).2],[])) (fun m k h=>?_) (fun m=>?_) (by omega)
 ·exact key
 ·have e0:qc5 (q3v l t) (fits l rs t) (k+1)=qcd (q3v l t) (fits l rs t) (qc5 (q3v l t) (fits l rs t) k) k:=by unfold qc5;rw[List.range_succ,List.foldl_append];rfl
  rw[e0];unfold qcd;have hek:=(q9c ok ht h).eq;have hra:=(q2j ok hr hn ht h).eq;by_cases hc:((q3v l t k:Nat):Int)>(qc5 (q3v l t) (fits l rs t) k).2.2
  ·rw[if_pos hc];simp only[q24.next0,q24.round0,evz,Nat.reduceLT,h,hek,hc];rw[q0k (by omega)]
  ·rw[if_neg hc];by_cases hf0:fits l rs t k>=0
   ·rw[if_pos hf0];simp only[q24.next0,q24.round0,evz,Nat.reduceLT,h,hek,hc,hra,hf0];rw[q0k (by omega)]
   ·rw[if_neg hf0];simp only[q24.next0,q24.round0,evz,Nat.reduceLT,h,hek,hc,hra,hf0];rw[q0k (by omega)]
 ·rw[qu8 ht];simp only[q24.next0,q24.round0,evz,Nat.reduceLT,gAK]
omit hr hn in
theorem q79{e:Equation}(he:EqOk l e){t:List Int}(ht:TermOk l t){p:Nat}(hp:p<t.length):Call F.q79 [.agg [slc l],.agg [slc e.left,slc e.right],slc t,.int .i64 p] (.agg (enc (q7t l e t p))):=by
 have hu:=q6b ht hp;have hm:=(q21 ok he.left hu).eq;rw[qbx he.left ht hp]at hm;refine q0q rfl 0 ((q79.ev _ _ _ _ _ _).trans ?_);unfold q7t;cases hmm:q50 l e.left t p with
 |none=>rw[hmm]at hm;simp only[evz,Nat.reduceLT,(q35 ok ht hp).eq,hm,mT];rfl
 |some b=>
  rw[hmm]at hm;have hb:=qde he.left ht hp hmm;have hbo:=hb.ok he.left.le;have hrl:=he.right.le;have hal:=q7e hbo e.right;simp only[evz,Nat.reduceLT,(q35 ok ht hp).eq,hm,mT,(q0i b.1 b.2 hbo e.right (by omega) (he.right.range ok)).eq,(q66 ok ht hp (q02 b.1 b.2 e.right) (by omega)).eq];have hfit:=(q87 (q42 l t p (q02 b.1 b.2 e.right))).eq;by_cases h24:24<(q42 l t p (q02 b.1 b.2 e.right)).length
  ·rw[if_pos h24]at hfit ⊢;simp only[evz,Nat.reduceLT,hfit,q54]
  ·rw[if_neg h24]at hfit ⊢;simp only[evz,Nat.reduceLT,hfit,q54]
omit hr hn in
theorem q5o{e:Equation}(he:EqOk l e){t:List Int}(ht:TermOk l t){p:Nat}(hp:p<t.length):Call F.q5o [.rref [slc l] 0,.rref [slc e.left,slc e.right] 0,.int .i64 p,slc t] (.tup [slc (q7t l e t p).term,.int .i64 (q7t l e t p).code]):=by
 have hm:=(q1f ok he.left ht hp).eq;refine q0q rfl 0 ((q5o.ev _ _ _ _ _ _).trans ?_);unfold q7t;cases hmm:q50 l e.left t p with
 |none=>rw[hmm]at hm;simp only[evz,Nat.reduceLT,hm,mT];rfl
 |some b=>
  rw[hmm]at hm;have hb:=qde he.left ht hp hmm;have hbo:=hb.ok he.left.le;have hrl:=he.right.le;have hal:=q7e hbo e.right;simp only[evz,Nat.reduceLT,hm,mT,(q1b b.1 b.2 hbo e.right (by omega) (he.right.range ok)).eq,(q4v ok ht hp (q02 b.1 b.2 e.right) (by omega)).eq];by_cases h24:24<(q42 l t p (q02 b.1 b.2 e.right)).length
  ·have h24':((q42 l t p (q02 b.1 b.2 e.right)).length:Int)>24:=by omega
   rw[if_pos h24];simp only[evz,Nat.reduceLT,h24'];rfl
  ·have h24':¬((q42 l t p (q02 b.1 b.2 e.right)).length:Int)>24:=by omega
   rw[if_neg h24];simp only[evz,Nat.reduceLT,h24']
omit ok hr hn in
theorem qdu{l:List Symbol}{rs:List Equation}(t:List Int):(q5c l rs t).1<0\/∃a k:Nat,∃h:k<rs.length,a<t.length/\(q5c l rs t).1=a/\(q5c l rs t).2=k:=by
 rcases qu7 (l:=l) (rs:=rs) (t:=t)with h|⟨a,k,h,ha,e,_⟩
 ·rw[h];exact .inl (by simp)
 ·rw[e];exact .inr ⟨a,k,h,ha,rfl,rfl⟩
theorem q19{t:List Int}(ht:TermOk l t){fuel:Nat}(hfu:fuel<=200):Call F.q19 [.agg [slc l],slc rs,slc t,.int .i64 fuel] (.agg (enc (norm l rs fuel 0 t))):=by
 have hle:=ht.le
 have loop:∀(m k f:Nat)(t:List Int),m+k=fuel->m<f->TermOk l t->
  q19.at0 202 f (q19.st0 (cells rs) (fuel:Nat) (k:Nat) (cells l) 0 0 (cells t))=some (.agg (enc (norm l rs m k t)),[]):=by
  intro m;induction m with
  |zero=>
   intro k f t hk hf ht;obtain⟨f,rfl⟩:∃x,f=x+1:=⟨f-1,by omega⟩;obtain rfl:k=fuel:=by omega
   have hfr:=(q13 ok hr hn ht).eq;rw[norm];by_cases h0:(q5c l rs t).1<0
   ·have h0':¬(q5c l rs t).1>=0:=by omega
    rw[if_pos h0];simp only[q19.next0,q19.round0,evz,Nat.reduceLT,hfr,h0',Bool.not_false,q30]
   ·have h0':(q5c l rs t).1>=0:=by omega
    rw[if_neg h0];simp only[q19.next0,q19.round0,evz,Nat.reduceLT,hfr,h0',Bool.not_true,q30];rfl
  |succ m ih=>
   intro k f t hk hf ht;obtain⟨f,rfl⟩:∃x,f=x+1:=⟨f-1,by omega⟩;have hfr:=(q13 ok hr hn ht).eq;rw[norm];rcases qdu (l:=l) (rs:=rs) t with h0|⟨a,q,hq,ha,e1,e2⟩
   ·have h0':¬(q5c l rs t).1>=0:=by omega
    rw[if_pos h0];simp only[q19.next0,q19.round0,evz,Nat.reduceLT,hfr,h0',Bool.not_false,q30]
   ·have h0:¬(q5c l rs t).1<0:=by omega
    rw[e1,e2]at hfr;have h0':((a:Nat):Int)>=0:=by omega
    have hkf:¬((k:Int)=(fuel:Int)):=by omega
    have hlk:rs[q]?=some rs[q]:=gA hq;have he:=hr _ (gG hq);have hrw:=(q79 ok he ht ha).eq;have hg:rs.getD (q5c l rs t).2.toNat ⟨[],[]⟩=rs[q]:=by rw[e2,gR];exact getE hq
    have hga:(q5c l rs t).1.toNat=a:=by rw[e1,gR]
    rw[if_neg h0,hg,hga];have hsok:=qax he ht ha;rw[q54]at hrw;by_cases hcode:(q7t l rs[q] t a).code=0
    ·rw[if_neg (by simpa using hcode)];simp only[q19.next0,q19.round0,evz,Nat.reduceLT,hfr,h0',hkf,Bool.not_true,hq,hlk,q3w,hrw,hcode];rw[q0k (by omega)];exact ih (k+1) f _ (by omega) (by omega) (hsok hcode)
    ·rw[if_pos hcode];simp only[q19.next0,q19.round0,evz,Nat.reduceLT,hfr,h0',hkf,Bool.not_true,hq,hlk,q3w,hrw,hcode,q30];rfl
 refine q0q rfl 202 ((q19.ev _ _ _ _ _).trans ?_);simp only[evz,Nat.reduceLT,(q2v t (by omega)).eq];exact loop fuel 0 202 t (by omega) (by omega) ht
theorem q1d{t:List Int}(ht:TermOk l t){fuel:Nat}(hfu:fuel<=200):Call F.q1d [.rref [slc l] 0,slc rs,slc t,.int .i64 fuel] (.agg (enc (norm l rs fuel 0 t))):=by
 have hle:=ht.le
 have loop:∀(m k f:Nat)(t:List Int),m+k=fuel->m<f->TermOk l t->
  q1d.at0 202 f (q1d.st0 (cells l) (cells rs) (fuel:Nat) (k:Nat) 0 0 (cells t))=some (.agg (enc (norm l rs m k t)),[]):=by
  intro m;induction m with
  |zero=>
   intro k f t hk hf ht;obtain⟨f,rfl⟩:∃x,f=x+1:=⟨f-1,by omega⟩;obtain rfl:k=fuel:=by omega
   have hfr:=(q24 ok hr hn ht).eq;rw[norm];have hge:((k:Int))>=(k:Int):=Int.le_refl _;by_cases h0:(q5c l rs t).1<0
   ·rw[if_pos h0];simp only[q1d.next0,q1d.round0,evz,Nat.reduceLT,hfr,h0,q30]
   ·rw[if_neg h0];simp only[q1d.next0,q1d.round0,evz,Nat.reduceLT,hfr,h0,hge,q30];rfl
  |succ m ih=>
   intro k f t hk hf ht;obtain⟨f,rfl⟩:∃x,f=x+1:=⟨f-1,by omega⟩;have hfr:=(q24 ok hr hn ht).eq;rw[norm];rcases qdu (l:=l) (rs:=rs) t with h0|⟨a,q,hq,ha,e1,e2⟩
   ·rw[if_pos h0];simp only[q1d.next0,q1d.round0,evz,Nat.reduceLT,hfr,h0,q30]
   ·have h0:¬(q5c l rs t).1<0:=by omega
    rw[e1,e2]at hfr;have h0':¬((a:Nat):Int)<0:=by omega
    have hkf:¬((k:Int)>=(fuel:Int)):=by omega
    have hlk:rs[q]?=some rs[q]:=gA hq;have he:=hr _ (gG hq);have hrw:=(q5o ok he ht ha).eq;have hg:rs.getD (q5c l rs t).2.toNat ⟨[],[]⟩=rs[q]:=by rw[e2,gR];exact getE hq
    have hga:(q5c l rs t).1.toNat=a:=by rw[e1,gR]
    rw[if_neg h0,hg,hga];have hsok:=qax he ht ha;have hwin:=q89 (k:=2) (i:=q) rfl hlk;by_cases hcode:(q7t l rs[q] t a).code=0
    ·rw[if_neg (by simpa using hcode)];simp only[q1d.next0,q1d.round0,evz,Nat.reduceLT,hfr,h0',hkf,hq,hwin,q3w,hrw,hcode];rw[q0k (by omega)];exact ih (k+1) f _ (by omega) (by omega) (hsok hcode)
    ·rw[if_pos hcode];simp only[q1d.next0,q1d.round0,evz,Nat.reduceLT,hfr,h0',hkf,hq,hwin,q3w,hrw,hcode,q30];rfl
 refine q0q rfl 202 ((q1d.ev _ _ _ _ _).trans ?_);simp only[evz,Nat.reduceLT,(q5e t (by omega)).eq];exact loop fuel 0 202 t (by omega) (by omega) ht
end
theorem q6z{l:List Symbol}{rs:List Equation}(h:q4i ⟨l⟩ rs=0):q3y ⟨l⟩=0/\SigOk ⟨l⟩/\rs.length<=12/\∀e∈rs,EqOk l e:=by
 unfold q4i at h;split at h
 ·rename_i h1;exact absurd h h1
 rename_i h1;have h1:q3y ⟨l⟩=0:=by simpa using h1
 unfold q8n at h;split at h
 ·rename_i h2;exact absurd h h2
 rename_i h2;obtain⟨q1,q2⟩:=q9f.1 (show q7x l rs=0 by simpa using h2);exact⟨h1,(qa3 _).1 h1,q1,q2⟩
theorem q93{l:List Symbol}{rs:List Equation}{t:List Int}(h:q3x ⟨l⟩ rs t=0):SigOk ⟨l⟩/\rs.length<=12/\(∀e∈rs,EqOk l e)/\TermOk l t:=by
 unfold q3x at h;split at h
 ·rename_i h1;exact absurd h h1
 rename_i h1;obtain⟨_,q1,q2,q3⟩:=q6z (l:=l) (rs:=rs) (by simpa using h1);exact⟨q1,q2,q3,(q5w _ _).1 h⟩
theorem q5k(l:List Symbol)(hs:l.length<=4294967296)(rs:List Equation)(hr:sm 4294967296 rs)(t:List Int)(ht:t.length<=4294967296) :
 Call F.q5k [.agg [slc l],slc rs,slc t] (.int .i64 (q3x ⟨l⟩ rs t)):=by
 refine q0q rfl 0 ((q5k.ev _ _ _ _).trans ?_);simp only[evz,Nat.reduceLT,(q57 l hs rs hr).eq,(q4x l hs t ht).eq,(qr3 _ _).eq,q3x];by_cases h:q4i ⟨l⟩ rs=0
 ·have h0:=(q6z h).1;simp only[h,evz,Nat.reduceLT,ne_eq,gW,q6j,h0]
 ·simp only[h,evz,Nat.reduceLT,ne_eq,gX]
theorem q7m(l:List Symbol)(hs:l.length<=4294967296)(rs:List Equation)(hr:sm 4294967296 rs)(t:List Int)(ht:t.length<=4294967296) :
 Call F.q7m [.rref [slc l] 0,slc rs,slc t] (.int .i64 (q3x ⟨l⟩ rs t)):=by
 refine q0q rfl 0 ((q7m.ev _ _ _ _).trans ?_);simp only[evz,Nat.reduceLT,(q6m l hs rs hr).eq,q3x];by_cases h:q4i ⟨l⟩ rs=0
 ·have h0:=(q6z h).2.1;simp only[h,evz,Nat.reduceLT,ne_eq,gW,(q16 l h0 t ht).eq]
 ·simp only[h,evz,Nat.reduceLT,ne_eq,gX]
theorem q5r(s:Signature)(rs:List Equation)(r p:Int)(t:List Int)(hs:sm 1048576 s)(hr:sm 1048576 rs)(ht:sm 1048576 t):Call F.q5r [.agg (enc s),slc rs,.int .i64 r,.int .i64 p,slc t] (.agg (enc (q9y s rs r p t))):=by
 obtain⟨l⟩:=s;have hsl:l.length<=4294967296:=Nat.le_trans hs.1 (by omega);have htl:t.length<=4294967296:=Nat.le_trans ht.1 (by omega);have hrl:rs.length<=4294967296:=Nat.le_trans hr.1 (by omega);show Call F.q5r [.agg [slc l],slc rs,.int .i64 r,.int .i64 p,slc t] _;refine q0q rfl 0 ((q5r.ev _ _ _ _ _ _).trans ?_);simp only[evz,Nat.reduceLT,(q7m l hsl rs (q3k (by omega) hr) t htl).eq,q9y,q2y (x:=(rs.length:Int)-1) (by omega),(q5h _ _ _).eq,(q72 t p htl).eq];by_cases h:q3x ⟨l⟩ rs t=0
 case neg=>simp only[h,evz,Nat.reduceLT,ne_eq,gX,q54,q65]
 obtain⟨ok,q1,q2,q3⟩:=q93 h;cases h1:inR r 0 (rs.length-1)with
 |false=>simp only[h,evz,Nat.reduceLT,ne_eq,gW,Bool.not_false,true_or,q54,q65]
 |true=>
  cases h2:inR p 0 (t.length-1)with
  |false=>simp only[h,evz,Nat.reduceLT,ne_eq,gW,Bool.not_true,Bool.not_false,or_true,q54,q65]
  |true=>
   have hr1:=q8r.1 h1;have hp1:=q8r.1 h2;obtain⟨k,rfl⟩:∃k:Nat,r=k:=⟨r.toNat,by omega⟩;obtain⟨a,rfl⟩:∃a:Nat,p=a:=⟨p.toNat,by omega⟩;have hk:k<rs.length:=by omega
   have ha:a<t.length:=by omega
   have hlk:rs[k]?=some rs[k]:=gA hk;have he:=q2 _ (gG hk);have hrw:=(q5o ok he q3 ha).eq;have hwin:=q89 (k:=2) (i:=k) rfl hlk;simp only[h,evz,Nat.reduceLT,ne_eq,gW,Bool.not_true,or_self,hk,hwin,q3w,hrw,getE hk,q54,reduceCtorEq]
theorem qlb{l:List Symbol}{rs:List Equation}(hr:∀e∈rs,EqOk l e):∀(m k:Nat)(t:List Int),TermOk l t->sm 67108864 (norm l rs m k t)/\((norm l rs m k t).code=0->TermOk l (norm l rs m k t).term)
 |0,k,t,ht=>by
  have:=ht.le;rw[norm];split
  ·exact⟨⟨by simp only;omega,fun _ _=>trivial⟩,fun _=>ht⟩
  ·exact⟨⟨by simp,by simp⟩,fun h=>by cases h⟩
 |m+1,k,t,ht=>by
  have:=ht.le;rw[norm];split
  ·exact⟨⟨by simp only;omega,fun _ _=>trivial⟩,fun _=>ht⟩
  rename_i h0;split
  ·rename_i hc;exact⟨⟨by simp,by simp⟩,fun h=>absurd h hc⟩
  ·rename_i hc;rcases qdu (l:=l) (rs:=rs) t with h|⟨a,q,hq,ha,e1,e2⟩
   ·exact absurd h h0
   ·have hg:rs.getD (q5c l rs t).2.toNat ⟨[],[]⟩=rs[q]:=by rw[e2,gR];exact getE hq
    have hga:(q5c l rs t).1.toNat=a:=by rw[e1,gR]
    rw[hg,hga]at hc ⊢;exact qlb hr m (k+1) _ (qax (hr _ (gG hq)) ht ha (by simpa using hc))
theorem q3c(s:Signature)(rs:List Equation)(t:List Int)(fuel:Int)(hs:sm 1048576 s)(hr:sm 1048576 rs)(ht:sm 1048576 t):Call F.q3c [.agg (enc s),slc rs,slc t,.int .i64 fuel] (.agg (enc (q38 s rs t fuel))):=by
 obtain⟨l⟩:=s;have hsl:l.length<=4294967296:=Nat.le_trans hs.1 (by omega);have htl:t.length<=4294967296:=Nat.le_trans ht.1 (by omega);show Call F.q3c [.agg [slc l],slc rs,slc t,.int .i64 fuel] _;refine q0q rfl 0 ((q3c.ev _ _ _ _ _).trans ?_);simp only[evz,Nat.reduceLT,(q5k l hsl rs (q3k (by omega) hr) t htl).eq,q38,(q4s _ _ _).eq];by_cases h:q3x ⟨l⟩ rs t=0
 case neg=>simp only[h,evz,Nat.reduceLT,ne_eq,gX,q30,q65]
 obtain⟨ok,q1,q2,q3⟩:=q93 h;cases h1:inR fuel 0 200 with
 |false=>simp only[h,evz,Nat.reduceLT,ne_eq,gW,Bool.not_false,q30,q65]
 |true=>
  have hf1:=q8r.1 h1;obtain⟨k,rfl⟩:∃k:Nat,fuel=k:=⟨fuel.toNat,by omega⟩;have hnf:=(q19 ok q2 q1 q3 (fuel:=k) (by omega)).eq;rw[q30]at hnf;simp only[h,evz,Nat.reduceLT,ne_eq,gW,Bool.not_true,hnf,q30,reduceCtorEq]
theorem q4c(s:Signature)(rs:List Equation)(t:List Int)(fuel:Int)(hs:sm 1048576 s)(hr:sm 1048576 rs)(ht:sm 1048576 t):Call F.q4c [.agg (enc s),slc rs,slc t,.int .i64 fuel] (.agg (enc (q38 s rs t fuel))):=by
 obtain⟨l⟩:=s;have hsl:l.length<=4294967296:=Nat.le_trans hs.1 (by omega);have htl:t.length<=4294967296:=Nat.le_trans ht.1 (by omega);show Call F.q4c [.agg [slc l],slc rs,slc t,.int .i64 fuel] _;refine q0q rfl 0 ((q4c.ev _ _ _ _ _).trans ?_);simp only[evz,Nat.reduceLT,(q7m l hsl rs (q3k (by omega) hr) t htl).eq,q38,(q5h _ _ _).eq];by_cases h:q3x ⟨l⟩ rs t=0
 case neg=>simp only[h,evz,Nat.reduceLT,ne_eq,gX,q30,q65]
 obtain⟨ok,q1,q2,q3⟩:=q93 h;cases h1:inR fuel 0 200 with
 |false=>simp only[h,evz,Nat.reduceLT,ne_eq,gW,Bool.not_false,q30,q65]
 |true=>
  have hf1:=q8r.1 h1;obtain⟨k,rfl⟩:∃k:Nat,fuel=k:=⟨fuel.toNat,by omega⟩;have hnf:=(q1d ok q2 q1 q3 (fuel:=k) (by omega)).eq;rw[q30]at hnf;simp only[h,evz,Nat.reduceLT,ne_eq,gW,Bool.not_true,hnf,q30,reduceCtorEq]
theorem qgc{l:List Symbol}{rs:List Equation}{t:List Int}{fuel:Int}(h:(q38 ⟨l⟩ rs t fuel).code=0):q3x ⟨l⟩ rs t=0/\inR fuel 0 200=true/\q38 ⟨l⟩ rs t fuel=norm l rs fuel.toNat 0 t/\(q38 ⟨l⟩ rs t fuel).term.length<=24:=by
 unfold q38 at h ⊢;by_cases h1:q3x ⟨l⟩ rs t=0
 case neg=>rw[if_pos h1]at h;exact absurd h h1
 rw[if_neg (by simpa using h1)]at h ⊢;cases h2:inR fuel 0 200 with
 |false=>rw[h2,if_pos rfl]at h;cases h
 |true=>
  rw[h2,if_neg (by simp)]at h;rw[if_neg (by simp)];obtain⟨ok,q1,q2,q3⟩:=q93 h1;exact⟨h1,rfl,rfl,((qlb q2 _ _ _ q3).2 h).le⟩
theorem q5m(s:Signature)(rs:List Equation)(a b:List Int)(fuel:Int)(hs:sm 1048576 s)(hr:sm 1048576 rs)(ha:sm 1048576 a)(hb:sm 1048576 b):Call F.q5m [.agg (enc s),slc rs,slc a,slc b,.int .i64 fuel] (.agg (enc (qd4 s rs a b fuel))):=by
 have ca:=q3c s rs a fuel hs hr ha;have cb:=q3c s rs b fuel hs hr hb;obtain⟨l⟩:=s;have ca:Call F.q3c [.agg [slc l],slc rs,slc a,.int .i64 fuel] (.agg (enc (q38 ⟨l⟩ rs a fuel))):=ca;have cb:Call F.q3c [.agg [slc l],slc rs,slc b,.int .i64 fuel] (.agg (enc (q38 ⟨l⟩ rs b fuel))):=cb;show Call F.q5m [.agg [slc l],slc rs,slc a,slc b,.int .i64 fuel] _;refine q0q rfl 0 ((q5m.ev _ _ _ _ _ _).trans ?_);simp only[evz,Nat.reduceLT,ca.eq,cb.eq,q30,qd4];by_cases h1:(q38 ⟨l⟩ rs a fuel).code=0
 case neg=>simp only[h1,evz,Nat.reduceLT,ne_eq,gX,q90]
 by_cases h2:(q38 ⟨l⟩ rs b fuel).code=0
 case neg=>simp only[h1,h2,evz,Nat.reduceLT,ne_eq,gW,gX,q90]
 have l1:=(qgc h1).2.2.2;have heq:=(q0p (q38 ⟨l⟩ rs a fuel).term (q38 ⟨l⟩ rs b fuel).term ⟨by omega,fun _ _=>trivial⟩).eq;by_cases h3:(q38 ⟨l⟩ rs a fuel).term=(q38 ⟨l⟩ rs b fuel).term
 ·rw[decide_eq_true h3]at heq;simp only[h1,h2,evz,Nat.reduceLT,ne_eq,gW,heq,q90];rw[if_pos h3]
 ·rw[decide_eq_false h3]at heq;simp only[h1,h2,evz,Nat.reduceLT,ne_eq,gW,heq,q90];rw[if_neg h3]
theorem q73{l:List Symbol}(ok:SigOk ⟨l⟩){rs:List Equation}(hr:∀e∈rs,EqOk l e)(hn:rs.length<=12){a b:List Int}(ha:TermOk l a)(hb:TermOk l b){fuel:Nat}(hf:fuel<=200) :
 Call F.q73 [.rref [slc l] 0,slc rs,slc a,slc b,.int .i64 fuel]
  (if(norm l rs fuel 0 a).code≠0 then .tup [.int .i64 0,.int .i64 (norm l rs fuel 0 a).code]else if(norm l rs fuel 0 b).code≠0 then .tup [.int .i64 0,.int .i64 (norm l rs fuel 0 b).code]
   else if(norm l rs fuel 0 a).term=(norm l rs fuel 0 b).term then .tup [.int .i64 1,.int .i64 0]else .tup [.int .i64 0,.int .i64 0]):=by
 have ca:=(q1d ok hr hn ha hf).eq;have cb:=(q1d ok hr hn hb hf).eq;rw[q30]at ca cb;refine q0q rfl 0 ((q73.ev _ _ _ _ _ _).trans ?_);simp only[evz,Nat.reduceLT,ca,cb];by_cases h1:(norm l rs fuel 0 a).code=0
 case neg=>simp only[h1,evz,Nat.reduceLT,ne_eq,gX]
 by_cases h2:(norm l rs fuel 0 b).code=0
 case neg=>simp only[h1,h2,evz,Nat.reduceLT,ne_eq,gW,gX]
 have l1:=((qlb hr _ _ _ ha).2 h1).le;have heq:=(q20 (norm l rs fuel 0 a).term (norm l rs fuel 0 b).term ⟨by omega,fun _ _=>trivial⟩).eq;by_cases h3:(norm l rs fuel 0 a).term=(norm l rs fuel 0 b).term
 ·rw[decide_eq_true h3]at heq;simp only[h1,h2,evz,Nat.reduceLT,ne_eq,gW,heq];rw[if_pos h3]
 ·rw[decide_eq_false h3]at heq;simp only[h1,h2,evz,Nat.reduceLT,ne_eq,gW,heq];rw[if_neg h3]
section
variable {l:List Symbol}{z:Nat}{tb:List (List Int)}(al:AlgOk l z tb)
include al
end
section
variable (l:List Symbol)(z:Int)(tb:List (List Int))(hs:l.length<=4294967296)(ht:sm 4294967296 tb)
include hs ht
end
theorem qgb(l:List Int):(cells l).all T.scalar=true:=by
 rw[<- q83,gAL];intro x hx;obtain⟨n,_,rfl⟩:=List.mem_map.1 hx;rfl
theorem q31(l:List Int)(h:l.length<=4294967296):Call F.q31 [slc l] (slc l):=by
 refine q0q rfl 0 ((q31.ev _ _).trans ?_)
 have hb:Nat.ble ((0+(cells l).length)*8) (140737488355328*1)=true:=by
  rw[Nat.ble_eq,q0m,q3o];omega
 rw[qgb,hb];rfl
def eqOf(e:Entry):Equation:=⟨e.left,e.right⟩
section
variable (l:List Symbol)(z:Int)(tb:List (List Int))(hs:l.length<=4294967296)(ht:sm 4294967296 tb)
include hs ht
end
theorem qiu{l:List Symbol}{o:List Int}(h:q4e ⟨l⟩ o=0):q3y ⟨l⟩=0/\qb2 l o=0:=by
 unfold q4e at h;by_cases h1:q3y ⟨l⟩=0
 ·rw[if_neg (by simpa using h1)]at h;exact⟨h1,h⟩
 ·rw[if_pos (by simpa using h1)]at h;exact absurd h h1
section
variable {l:List Symbol}{o:List Int}(ok:SigOk ⟨l⟩)(hol:o.length<=1048576)(ho:∀n:Int,0<=n->n<l.length->n∈o)
include ok hol ho
end
end Ev.Ty
end
section
namespace Ev.Ty
section
variable {α:Type}{lt:α->α->Bool}{S:α->Prop}
variable (h1:∀a b c,S a->S b->S c->lt a b=true->lt b c=true->lt a c=true)(h2:∀a b c,S a->S b->S c->lt a b=true->lt c b=false->lt a c=true)(h3:∀a b,S a->S b->lt a b=true->lt b a=false)
include h1 h2 h3
variable (h4:∀a b,S a->S b->a=b\/lt a b=true\/lt b a=true)
include h4
end
end Ev.Ty
end
section
namespace Ev.Ty
open Go Ev
open Enc (enc)
open Sm (sm)
set_option maxHeartbeats 1000000
theorem q2o(a b:List Int)(ha:a.length<=4294967296):Call F.q2o [slc a,slc b] (.bool (decide (a=b))):=by
 refine q0q rfl (a.length+1) ((q2o.ev _ _ _).trans ?_);by_cases hl:a.length=b.length
 ·have hl':((a.length:Nat):Int)=((b.length:Nat):Int):=by omega
  have key:∀(d k f:Nat),k+d=a.length->d<f->q2o.at0 (a.length+1) f (q2o.st0 (cells a) (cells b) (k:Nat))=some (.bool (decide (a.drop k=b.drop k)),[]):=by
   intro d;induction d with
   |zero=>
    intro k f hk hf;obtain⟨f,rfl⟩:∃g,f=g+1:=⟨f-1,by omega⟩;have h1:¬ k<a.length:=by omega
    have e:a.drop k=b.drop k:=by rw[List.drop_eq_nil_of_le (by omega),List.drop_eq_nil_of_le (by omega)]
    simp only[q2o.next0,q2o.round0,evz,Nat.reduceLT,h1,e,decide_true]
   |succ d ih=>
    intro k f hk hf;obtain⟨f,rfl⟩:∃g,f=g+1:=⟨f-1,by omega⟩;have h1:k<a.length:=by omega
    have h2:k<b.length:=by omega
    have i1:a[k]?=some a[k]:=gA h1;have i2:b[k]?=some b[k]:=gA h2;simp only[q2o.next0,q2o.round0,evz,Nat.reduceLT,h1,h2,i1,i2,q1r];rw[gH h1,gH h2];by_cases e:a[k]=b[k]
    ·simp only[e,evz,Nat.reduceLT,q0k (by omega:k<9223372036854775807),ih (k+1) f (by omega) (by omega),List.cons.injEq,true_and,bne_self_eq_false]
    ·rw[decide_eq_false (fun h=>e (List.cons.inj h).1)];simp[e]
  have:=key a.length 0 (a.length+1) (by omega) (by omega);simp only[evz,Nat.reduceLT,hl',bne_self_eq_false];refine this.trans ?_;rw[List.drop_zero,List.drop_zero]
 ·have hl':¬((a.length:Nat):Int)=((b.length:Nat):Int):=by omega
  have hne:¬ a=b:=fun e=>hl (by rw[e]);simp only[evz,Nat.reduceLT,hl',hne,ne_eq,gX,decide_true,decide_false]
def cmpV(l:List Symbol)(o a b:List Int):Int:=if a=b then 3 else if gt l o a b 0 0=true then 1 else if gt l o b a 0 0=true then 2 else 0
def cmpF(s:Signature)(o a b:List Int):Int:=if q4e s o=0 then if q6j s a=0 then q6j s b else q6j s a else q4e s o
theorem q7l{l:List Symbol}(h:q3y ⟨l⟩=0)(t:List Int):q6j ⟨l⟩ t=q3t l t:=by
 unfold q6j;rw[if_neg (by simpa using h)]
theorem qwm{l:List Symbol}{o a b:List Int}(h:cmpF ⟨l⟩ o a b=0):SigOk ⟨l⟩/\o.length<=1048576/\(∀n:Int,0<=n->n<l.length->n∈o)/\TermOk l a/\TermOk l b:=by
 unfold cmpF at h;by_cases h0:q4e ⟨l⟩ o=0
 ·rw[if_pos h0]at h;obtain⟨h1,h2⟩:=qiu h0;rw[q7l h1,q7l h1]at h;obtain⟨p1,p2⟩:=qlh h2;have ok:=q7z h1;have hls:l.length<=6:=ok.le;by_cases ha:q3t l a=0
  ·rw[if_pos ha]at h;exact⟨ok,by omega,p2,(q5w l a).1 ha,(q5w l b).1 h⟩
  ·rw[if_neg ha]at h;exact absurd h ha
 ·rw[if_neg h0]at h;exact absurd h h0
section
variable {l:List Symbol}{o:List Int}(ok:SigOk ⟨l⟩)(hol:o.length<=1048576)(ho:∀n:Int,0<=n->n<l.length->n∈o)
include ok hol ho
theorem q7c{a b:List Int}(ha:TermOk l a)(hb:TermOk l b):Call F.q7c [.rref [slc l] 0,slc o,slc a,slc b] (.int .i64 (cmpV l o a b)):=by
 have h1:=ha.le;refine q0q rfl 0 ((q7c.ev _ _ _ _ _).trans ?_);simp only[evz,Nat.reduceLT,(q20 a b ⟨by omega,fun _ _=>trivial⟩).eq,(q6k ok ha hb hol ho).eq,(q6k ok hb ha hol ho).eq,cmpV];by_cases e:a=b
 ·simp[e]
 ·cases e1:gt l o a b 0 0
  ·cases e2:gt l o b a 0 0 <;> simp[e]
  ·simp[e]
end
section
variable {l:List Symbol}{o:List Int}(ok:SigOk ⟨l⟩)(hol:o.length<=1048576)(ho:∀n:Int,0<=n->n<l.length->n∈o)
include ok hol ho
end
end Ev.Ty
end
section
namespace Ev.Ty
open Go Ev
open Tm
theorem quf{r:Int->Int}{a:Int->Nat}:∀(x:Tm)(q:Nat),x.ok a->q<x.flat.length->∃(y:Tm)(C:Tm->Tm),y.ok a/\(∃rest,x.flat.drop q=y.flat++rest)/\
 (∀u:Tm,u.ok a->(C u).ok a/\(C u).flat=x.flat.take q++u.flat++x.flat.drop (q+y.flat.length))/\∀u v:Tm,G r u v->G r (C u) (C v):=by
 have here:∀x:Tm,x.ok a->∃(y:Tm)(C:Tm->Tm),y.ok a/\(∃rest,x.flat.drop 0=y.flat++rest)/\
  (∀u:Tm,u.ok a->(C u).ok a/\(C u).flat=x.flat.take 0++u.flat++x.flat.drop (0+y.flat.length))/\∀u v:Tm,G r u v->G r (C u) (C v):=fun x hx=>
  ⟨x,id,hx,⟨[],by simp⟩,fun u hu=>⟨hu,by simp⟩,fun u v h=>h⟩
 intro x;induction x with
 |v n=>intro q hx hq;have:q=0:=by simp[Tm.flat]at hq;omega
       subst this;exact here _ hx
 |k n=>intro q hx hq;have:q=0:=by simp[Tm.flat]at hq;omega
       subst this;exact here _ hx
 |u n x ih=>
  intro q hx hq
  match q,hq with
  |0,_=>exact here _ hx
  |q+1,hq=>
   obtain⟨y,C,h1,⟨rest,h2⟩,h3,h4⟩:=ih q hx.2.2 (by simp only[Tm.flat,gAB]at hq;omega);refine⟨y,fun w=>.u n (C w),h1,⟨rest,h2⟩,fun w hw=>⟨⟨hx.1,hx.2.1,(h3 w hw).1⟩,?_⟩,fun w v h=>G.ctx (s:=.u n (C w)) (t:=.u n (C v)) (A:=[]) (B:=[]) hx.1 rfl rfl rfl (h4 w v h)⟩;show n::(C w).flat=(n::x.flat).take (q+1)++w.flat++(n::x.flat).drop (q+1+y.flat.length);rw[(h3 w hw).2,Nat.add_right_comm];rfl
 |b n x z ihx ihz=>
  intro q hx hq
  match q,hq with
  |0,_=>exact here _ hx
  |q+1,hq=>
   simp only[Tm.flat,gAB,gM]at hq;by_cases hl:q<x.flat.length
   ·obtain⟨y,C,h1,⟨rest,h2⟩,h3,h4⟩:=ihx q hx.2.2.1 hl
    have hy:q+y.flat.length<=x.flat.length:=by
     have:=congrArg List.length h2;rw[gAA,gM]at this;have:=y.flat_pos;omega
    refine⟨y,fun w=>.b n (C w) z,h1,⟨rest++z.flat,?_⟩,fun w hw=>⟨⟨hx.1,hx.2.1,(h3 w hw).1,hx.2.2.2⟩,?_⟩,fun w v h=>G.ctx (s:=.b n (C w) z) (t:=.b n (C v) z) (A:=[]) (B:=[z]) hx.1 rfl rfl rfl (h4 w v h)⟩
    ·show(x.flat++z.flat).drop q=_;rw[List.drop_append_of_le_length (by omega),h2,gZ]
    ·show n::((C w).flat++z.flat)=(n::(x.flat++z.flat)).take (q+1)++w.flat++(n::(x.flat++z.flat)).drop (q+1+y.flat.length);rw[(h3 w hw).2,Nat.add_right_comm];show n::(x.flat.take q++w.flat++x.flat.drop (q+y.flat.length)++z.flat)=n::((x.flat++z.flat).take q++w.flat++(x.flat++z.flat).drop (q+y.flat.length));rw[List.take_append_of_le_length (by omega),List.drop_append_of_le_length hy];simp
   ·obtain⟨y,C,h1,⟨rest,h2⟩,h3,h4⟩:=ihz (q-x.flat.length) hx.2.2.2 (by omega);refine⟨y,fun w=>.b n x (C w),h1,⟨rest,?_⟩,fun w hw=>⟨⟨hx.1,hx.2.1,hx.2.2.1,(h3 w hw).1⟩,?_⟩,fun w v h=>G.ctx (s:=.b n x (C w)) (t:=.b n x (C v)) (A:=[x]) (B:=[]) hx.1 rfl rfl rfl (h4 w v h)⟩
    ·show(x.flat++z.flat).drop q=_;rw[List.drop_append,List.drop_eq_nil_of_le (by omega),h2];rfl
    ·show n::(x.flat++(C w).flat)=(n::(x.flat++z.flat)).take (q+1)++w.flat++(n::(x.flat++z.flat)).drop (q+1+y.flat.length);rw[(h3 w hw).2,Nat.add_right_comm];show n::(x.flat++(z.flat.take (q-x.flat.length)++w.flat++z.flat.drop (q-x.flat.length+y.flat.length)))=n::((x.flat++z.flat).take q++w.flat++(x.flat++z.flat).drop (q+y.flat.length));rw[List.take_append,List.drop_append,List.take_of_length_le (by omega:x.flat.length<=q),List.drop_eq_nil_of_le (by omega:x.flat.length<=q+y.flat.length),show q+y.flat.length-x.flat.length=q-x.flat.length+y.flat.length by omega];simp
section
variable {l:List Symbol}(ok:SigOk ⟨l⟩){o:List Int}(ho:∀n:Int,0<=n->n<l.length->n∈o)
noncomputable def que(l:List Symbol)(t:List Int):Tm:=open Classical in if h:∃x:Tm,x.ok (ar l)/\t=x.flat then h.choose else .v (-1)
noncomputable def subB(l:List Symbol)(vs:List Int)(ts:List (List Int))(n:Int):Tm:=match q3i vs ts (-1-n)with|some t=>que l t|none=>.v n
include ok
theorem qq9{t:List Int}(h:TermOk l t):(que l t).ok (ar l)/\t=(que l t).flat:=by
 have e:∃x:Tm,x.ok (ar l)/\t=x.flat:=h.tree ok;unfold que;rw[dif_pos e];exact e.choose_spec
theorem qsl{vs:List Int}{ts:List (List Int)}(h:BindOk vs ts/\∀t∈ts,TermOk l t)(n:Int)(hn:n<0):(subB l vs ts n).ok (ar l):=by
 unfold subB;cases e:q3i vs ts (-1-n)with
 |none=>exact hn
 |some t=>exact(qq9 ok (h.2 t (q6h e))).1
theorem qcq{vs:List Int}{ts:List (List Int)}(h:BindOk vs ts/\∀t∈ts,TermOk l t):∀x:Tm,x.ok (ar l)->q02 vs ts x.flat=(x.inst (subB l vs ts)).flat:=by
 have hb:=h;have one:∀n:Int,0<=n->(q3i vs ts (-1-n)).getD [n]=[n]:=fun n hn=>by rw[qcv hb.1 (by omega)];rfl
 intro x;induction x with
 |v n=>
  intro _;show[n].flatMap _=(subB l vs ts n).flat
  rw[gAN,List.flatMap_nil,gAD];unfold subB;cases e:q3i vs ts (-1-n)with
  |none=>rfl
  |some t=>exact(qq9 ok (hb.2 t (q6h e))).2
 |k n=>
  intro hx;show[n].flatMap _=[n];rw[gAN,List.flatMap_nil,gAD,one n hx.1]
 |u n x ih=>
  intro hx;show(n::x.flat).flatMap _=n::(x.inst (subB l vs ts)).flat
  rw[gAN,one n hx.1,<- ih hx.2.2];rfl
 |b n x y ihx ihy=>
  intro hx;show(n::(x.flat++y.flat)).flatMap _=n::((x.inst (subB l vs ts)).flat++(y.inst (subB l vs ts)).flat);rw[gAN,one n hx.1,<- ihx hx.2.2.1,<- ihy hx.2.2.2,List.flatMap_append];rfl
omit ok in
theorem qii{t:List Int}{x:Tm}(hx:x.ok (ar l))(e:t=x.flat)(hn:∀n∈t,q5x l n=true)(hl:t.length<=24):TermOk l t:=by
 refine⟨?_,hl,hn,?_⟩
 ·rw[e];exact x.flat_pos
 ·have:=Tm.skip_flat (a:=ar l) (fun n hn=>q9l l hn) x [] 0 hx;rw[e];rwa[gAD]at this
theorem applied_ok{vs:List Int}{ts:List (List Int)}(h:BindOk vs ts/\∀t∈ts,TermOk l t){a:List Int}(ha:TermOk l a)(hl:(q02 vs ts a).length<=24):TermOk l (q02 vs ts a):=by
 obtain⟨x,hx,e⟩:=ha.tree ok;refine qii (inst_ok (qsl ok h) hx) (by rw[e];exact qcq ok h x hx) (fun n hn=>?_) hl;obtain⟨m,hm,hn⟩:=List.mem_flatMap.1 hn;cases eb:q3i vs ts (-1-m)with
 |none=>rw[eb]at hn;rw[gD.1 hn];exact ha.node m hm
 |some t=>rw[eb]at hn;exact(h.2 t (q6h eb)).node n hn
theorem qsk{t u:List Int}(ht:TermOk l t)(hu:TermOk l u){p:Nat}(hp:p<t.length)(hl:(q42 l t p u).length<=24):TermOk l (q42 l t p u):=by
 obtain⟨x,hx,ex⟩:=ht.tree ok;obtain⟨xu,hxu,exu⟩:=hu.tree ok;obtain⟨y,C,h1,⟨rest,h2⟩,h3,_⟩:=quf (r:=fun n=>n) x p hx (by rw[<- ex];exact hp);have hat:At l t p y:=⟨h1,rest,by rw[ex];exact h2⟩;have he:=hat.facts.2.2.1;have e:q42 l t p u=(C xu).flat:=by unfold q42;rw[(h3 xu hxu).2,he,ex,exu]
 refine qii (h3 xu hxu).1 e (fun n hn=>?_) hl;unfold q42 at hn;rcases gO.1 hn with hn|hn
 ·rcases gO.1 hn with hn|hn
  ·exact ht.node n (List.mem_of_mem_take hn)
  ·exact hu.node n hn
 ·exact ht.node n (List.mem_of_mem_drop hn)
include ho
end
end Ev.Ty
end
section
namespace Ev.Ty
open Go Ev
def phi(ρ:Int->Tm)(t:List Int):List Int:=t.flatMap fun n=>if n<0 then(ρ n).flat else[n]
theorem qko(ρ:Int->Tm)(s t:List Int):phi ρ (s++t)=phi ρ s++phi ρ t:=List.flatMap_append
theorem q9r(ρ:Int->Tm)(n:Int)(t:List Int):phi ρ (n::t)=phi ρ [n]++phi ρ t:=qko ρ [n] t
theorem qca(ρ:Int->Tm)(n:Int):phi ρ [n]=if n<0 then(ρ n).flat else[n]:=by
 show[n].flatMap _=_;rw[gAN,List.flatMap_nil,gAD]
theorem q6t{ρ:Int->Tm}{a:Int->Nat}:∀x:Tm,x.ok a->phi ρ x.flat=(x.inst ρ).flat
 |.v n,h=>by show phi ρ [n]=(ρ n).flat;rw[qca,if_pos (show n<0 from h)]
 |.k n,h=>by have:=h.1;show phi ρ [n]=[n];rw[qca,if_neg (by omega)]
 |.u n x,h=>by
  have:=h.1;show phi ρ (n::x.flat)=n::(x.inst ρ).flat
  rw[q9r,qca,if_neg (by omega),q6t x h.2.2];rfl
 |.b n x y,h=>by
  have:=h.1;show phi ρ (n::(x.flat++y.flat))=n::((x.inst ρ).flat++(y.inst ρ).flat);rw[q9r,qca,if_neg (by omega),qko,q6t x h.2.2.1,q6t y h.2.2.2];rfl
theorem qpc(ρ:Int->Tm):∀t:List Int,t.length<=(phi ρ t).length
 |[]=>Nat.zero_le _
 |n::t=>by
  have ih:=qpc ρ t
  have h1:1<=(phi ρ [n]).length:=by
   rw[qca];split
   ·exact(ρ n).flat_pos
   ·simp
  rw[q9r ρ n t,gM,gAB];omega
theorem qgx(ρ:Int->Tm){n:Int}:∀{t:List Int},n∈t->(phi ρ [n]).length+t.length<=(phi ρ t).length+1
 |m::t,h=>by
  rw[q9r ρ m t,gM,gAB];rcases gK.1 h with rfl|h
  ·have:=qpc ρ t;omega
  ·have ih:=qgx ρ h;have h1:1<=(phi ρ [m]).length:=qpc ρ [m];omega
def Gen(ρ:Int->Tm)(b:Bnd):Prop:=∀n,phi ρ (q02 b.1 b.2 [n])=phi ρ [n]
theorem Gen.all{ρ:Int->Tm}{b:Bnd}(h:Gen ρ b):∀t,phi ρ (q02 b.1 b.2 t)=phi ρ t
 |[]=>rfl
 |n::t=>by rw[q5u,qko,h n,h.all t,<- q9r]
theorem qpa{l:List Symbol}{ρ:Int->Tm}{b:Bnd}(h:UB l b)(hg:Gen ρ b){v:Int}(hnb:v∉b.1){t:List Int}(hv:phi ρ [-1-v]=phi ρ t){b1:Bnd}(hb:q5g b v t=some b1):Gen ρ b1:=by
 unfold q5g at hb;split at hb
 ·cases hb
 cases hb;have hl:b.1.length=(b.2.map (q02 [v] [t])).length:=by rw[gAG];exact h.mb.len
 have hput:∀w,q3i (bput (b.1,b.2.map (q02 [v] [t])) v t).1 (bput (b.1,b.2.map (q02 [v] [t])) v t).2 w=if v=w then some t else(q3i b.1 b.2 w).map (q02 [v] [t]):=fun w=>by
  have:=qd8 (b:=(b.1,b.2.map (q02 [v] [t]))) (t:=t) hl hnb w;rw[this];by_cases e:v=w
  ·rw[if_pos e,if_pos e]
  ·rw[if_neg e,if_neg e];exact qjk b.1 b.2 w
 generalize bput (b.1,b.2.map (q02 [v] [t])) v t=b1 at *
 have single:∀s,phi ρ (q02 [v] [t] s)=phi ρ s:=fun s=>by
  induction s with
  |nil=>rfl
  |cons n s ih=>
   rw[q5u,qko,ih,q9r ρ n s,q7b,qct];by_cases e:v = -1-n
   ·rw[if_pos e];have:n = -1-v:=by omega
    subst this;show phi ρ t++_=_;rw[hv]
   ·rw[if_neg e];rfl
 intro n;rw[q7b,hput];by_cases e:v = -1-n
 ·rw[if_pos e];have:n = -1-v:=by omega
  subst this;exact hv.symm
 ·rw[if_neg e];have:=hg n;rw[q7b]at this;cases hn:q3i b.1 b.2 (-1-n)with
  |none=>rfl
  |some s=>
   rw[hn]at this;show phi ρ (q02 [v] [t] s)=_;rw[single];exact this
theorem qv5{l:List Symbol}(ok:SigOk ⟨l⟩){ρ:Int->Tm}(hρ:∀n,n<0->(ρ n).ok (ar l)){X Y:List Int}(hX:TermOk l X)(hY:TermOk l Y)(hn:¬ X.getD 0 0<0)(he:X.getD 0 0=Y.getD 0 0)(h:phi ρ X=phi ρ Y) :
 ∀p∈q6u l X Y,phi ρ p.left=phi ρ p.right:=by
 obtain⟨x,hx,ex⟩:=hX.atZero ok;obtain⟨y,hy,ey⟩:=hY.atZero ok;have fx:=hx.args;have fy:=hy.args;have hdx:X.getD 0 0=x.head:=hx.facts.2.1;have hdy:Y.getD 0 0=y.head:=hy.facts.2.1;rw[hdx]at hn he;rw[hdy]at he;have okx:=hx.1;have oky:=hy.1;rw[ex,ey,q6t x okx,q6t y oky]at h;have hi:=(qbl (Tm.inst_ok hρ okx) (Tm.inst_ok hρ oky)).1 h;unfold q6u;generalize q34 l X 0=sx at *;generalize q34 l Y 0=sy at *;cases x with
 |v n=>exact absurd okx hn
 |k n=>cases fx;intro p hp;simp at hp
 |u n x=>
  cases y with
  |v m=>have:m<0:=oky;have he:n=m:=he;have:=okx.1;omega
  |k m=>have he:n=m:=he;subst he;have:=okx.2.1;have:=oky.2;omega
  |u m y=>
   have hi:Tm.u n (x.inst ρ)=.u m (y.inst ρ):=hi;injection hi with _ hi;cases fx with
   |cons a1 r1=>
    cases r1;cases fy with
    |cons b1 r2=>
     cases r2;intro p hp;rw[gD.1 hp];show phi ρ (q1i l X _)=phi ρ (q1i l Y _);rw[a1.facts.2.2.2,b1.facts.2.2.2,q6t x okx.2.2,q6t y oky.2.2,hi]
  |b m y z=>have he:n=m:=he;subst he;have:=okx.2.1;have:=oky.2.1;omega
 |b n x x2=>
  cases y with
  |v m=>have:m<0:=oky;have he:n=m:=he;have:=okx.1;omega
  |k m=>have he:n=m:=he;subst he;have:=okx.2.1;have:=oky.2;omega
  |u m y=>have he:n=m:=he;subst he;have:=okx.2.1;have:=oky.2.1;omega
  |b m y y2=>
   have hi:Tm.b n (x.inst ρ) (x2.inst ρ)=.b m (y.inst ρ) (y2.inst ρ):=hi;injection hi with _ hi1 hi2;cases fx with
   |cons a1 r1=>
    cases r1 with
    |cons a2 r1=>
     cases r1;cases fy with
     |cons b1 r2=>
      cases r2 with
      |cons b2 r2=>
       cases r2;intro p hp;rcases gK.1 hp with rfl|hp
       ·show phi ρ (q1i l X _)=phi ρ (q1i l Y _);rw[a1.facts.2.2.2,b1.facts.2.2.2,q6t x okx.2.2.1,q6t y oky.2.2.1,hi1]
       ·rw[gD.1 hp];show phi ρ (q1i l X _)=phi ρ (q1i l Y _);rw[a2.facts.2.2.2,b2.facts.2.2.2,q6t x2 okx.2.2.2,q6t y2 oky.2.2.2,hi2]
theorem qun{l:List Symbol}(ok:SigOk ⟨l⟩){ρ:Int->Tm}(hρ:∀n,n<0->(ρ n).ok (ar l)):∀(n:Nat)(b:Bnd)(ps:List Pr)(r:Bnd ⊕ Int),UB l b->Gen ρ b->(∀p∈ps,(TermOk l p.left/\TermOk l p.right)/\phi ρ p.left=phi ρ p.right)->unif l n b ps=some r->
 r=.inr 2\/∃b',r=.inl b'/\Gen ρ b':=by
 intro n;induction n with
 |zero=>intro b ps r _ _ _ h;cases h
 |succ n ih=>
  intro b ps r hb hg hps h;cases ps with
  |nil=>rw[unif]at h;cases h;exact .inr ⟨b,rfl,hg⟩
  |cons p ps=>
   obtain⟨hp,hpe⟩:=hps p (by simp);have hps':∀q∈ps,(TermOk l q.left/\TermOk l q.right)/\phi ρ q.left=phi ρ q.right:=fun q hq=>hps q (gF _ hq);rw[unif]at h;by_cases c1:24<(q02 b.1 b.2 p.left).length\/24<(q02 b.1 b.2 p.right).length
   ·rw[if_pos c1]at h;cases h;exact .inl rfl
   rw[if_neg c1]at h;have hx:=hb.applied_ok hp.1 (by omega);have hy:=hb.applied_ok hp.2 (by omega);have hXY:phi ρ (q02 b.1 b.2 p.left)=phi ρ (q02 b.1 b.2 p.right):=by rw[hg.all,hg.all,hpe]
   by_cases c2:q02 b.1 b.2 p.left=q02 b.1 b.2 p.right
   ·rw[if_pos c2]at h;exact ih b ps r hb hg hps' h
   rw[if_neg c2]at h
   have occ:∀(u t:List Int),TermOk l (q02 b.1 b.2 u)->TermOk l (q02 b.1 b.2 t)->phi ρ (q02 b.1 b.2 u)=phi ρ (q02 b.1 b.2 t)->q02 b.1 b.2 u≠q02 b.1 b.2 t->(q02 b.1 b.2 u).getD 0 0<0->(q02 b.1 b.2 u).getD 0 0∉q02 b.1 b.2 t:=fun u t hu ht he hne hneg hm=>by
    have hh:=qll ok hu hneg;have h1:=qgx ρ hm;rw[<- hh,he]at h1;have h2:=ht.pos;have h3:(q02 b.1 b.2 t).length=1:=by omega
    obtain⟨z,hz⟩:=List.length_eq_one_iff.1 h3;rw[hz]at hm;have:=gD.1 hm;exact hne (by rw[hh,this,hz])
   have bindcase:∀(u t:List Int),TermOk l (q02 b.1 b.2 u)->TermOk l (q02 b.1 b.2 t)->phi ρ (q02 b.1 b.2 u)=phi ρ (q02 b.1 b.2 t)->(q02 b.1 b.2 u).getD 0 0<0->(q02 b.1 b.2 u).getD 0 0∉q02 b.1 b.2 t->∀b1,q5g b (-1-(q02 b.1 b.2 u).getD 0 0) (q02 b.1 b.2 t)=some b1->unif l n b1 ps=some r->
    r=.inr 2\/∃b',r=.inl b'/\Gen ρ b':=fun u t hu ht he hneg hno b1 hb1 hun=>by
    obtain⟨hv,hnb⟩:=hb.head_var hu hneg;have e0 : -1-(-1-(q02 b.1 b.2 u).getD 0 0)=(q02 b.1 b.2 u).getD 0 0:=by omega
    have hno':(-1-(-1-(q02 b.1 b.2 u).getD 0 0))∉q02 b.1 b.2 t:=by rw[e0];exact hno
    obtain⟨q1,_⟩:=qcx hb hv hnb ht (hb.applied_free t) hno' hb1;have hh:=qll ok hu hneg;exact ih b1 ps r q1 (qpa hb hg hnb (by rw[e0,<- hh];exact he) hb1) hps' hun
   by_cases c3:(q02 b.1 b.2 p.left).getD 0 0<0
   ·rw[if_pos c3,if_neg (occ _ _ hx hy hXY c2 c3)]at h;cases hb1:q5g b (-1-(q02 b.1 b.2 p.left).getD 0 0) (q02 b.1 b.2 p.right)with
    |none=>rw[hb1]at h;cases h;exact .inl rfl
    |some b1=>rw[hb1]at h;exact bindcase p.left p.right hx hy hXY c3 (occ _ _ hx hy hXY c2 c3) b1 hb1 h
   rw[if_neg c3]at h;by_cases c5:(q02 b.1 b.2 p.right).getD 0 0<0
   ·rw[if_pos c5,if_neg (occ _ _ hy hx hXY.symm (fun e=>c2 e.symm) c5)]at h;cases hb1:q5g b (-1-(q02 b.1 b.2 p.right).getD 0 0) (q02 b.1 b.2 p.left)with
    |none=>rw[hb1]at h;cases h;exact .inl rfl
    |some b1=>rw[hb1]at h;exact bindcase p.right p.left hy hx hXY.symm c5 (occ _ _ hy hx hXY.symm (fun e=>c2 e.symm) c5) b1 hb1 h
   rw[if_neg c5]at h
   have head:(q02 b.1 b.2 p.left).getD 0 0=(q02 b.1 b.2 p.right).getD 0 0:=by
    generalize q02 b.1 b.2 p.left=X at *;generalize q02 b.1 b.2 p.right=Y at *;have h1:=hx.pos;have h2:=hy.pos;cases X with
    |nil=>simp at h1
    |cons m X=>
     cases Y with
     |nil=>simp at h2
     |cons m' Y=>
      have c3:¬ m<0:=c3;have c5:¬ m'<0:=c5;rw[q9r,q9r ρ m' Y,qca,qca,if_neg c3,if_neg c5]at hXY;exact(List.cons.inj hXY).1
   rw[if_neg (by simpa using head)]at h;refine ih b _ r hb hg (fun q hq=>?_) h;rcases gO.1 hq with hq|hq
   ·exact⟨qli hx hy q hq,qv5 ok hρ hx hy c3 head hXY q hq⟩
   ·exact hps' q hq
theorem qs5{l:List Symbol}(ok:SigOk ⟨l⟩){ρ:Int->Tm}(hρ:∀n,n<0->(ρ n).ok (ar l)){a b:List Int}(ha:TermOk l a)(hb:TermOk l b)(h:phi ρ a=phi ρ b):qes l a b=.inr 2\/∃x,qes l a b=.inl x/\Gen ρ x:=by
 obtain⟨⟨n,hn⟩,_⟩:=q8x ha hb;exact qun ok hρ n ([],[]) [⟨a,b⟩] _ (UB.nil l) (fun m=>by rw[q7b];rfl) (fun p hp=>by rw[gD.1 hp];exact⟨⟨ha,hb⟩,h⟩) hn
end Ev.Ty
end
section
namespace Ev.Ty
open Go Ev
theorem qsb{α:Type}{p q:α->Bool}:∀{xs:List α},(∀x∈xs,p x=q x)->idx p xs=idx q xs:=by
 intro xs h
 have:xs.findIdx? p=xs.findIdx? q:=by
  induction xs with
  |nil=>rfl
  |cons x xs ih=>
   rw[List.findIdx?_cons,List.findIdx?_cons,h x (List.mem_cons_self ..),ih fun y hy=>h y (gF _ hy)]
 unfold idx;rw[this]
section
variable {l:List Symbol}{rs:List Equation}
theorem qjz(t:List Int):IsBest (q3v l t) (fits l rs t) 0 t.length (q5c l rs t):=
 qel _ _ t.length t.length (-1,-1) (gAI _) (.inl ⟨rfl,fun a h1 h2=>by omega⟩)
theorem qf7{t:List Int}:(q5c l rs t).1<0<->∀a,a<t.length->fits l rs t a<0:=by
 rcases qjz (l:=l) (rs:=rs) t with⟨h,hn⟩|⟨a,_,ha,h,hf,_⟩
 ·rw[h];exact⟨fun _ a ha=>hn a (Nat.zero_le _) ha,fun _=>by decide⟩
 ·rw[h];refine⟨fun h=>?_,fun h=>?_⟩
  ·simp only at h;omega
  ·have:=h a ha;omega
variable (hr:∀e∈rs,EqOk l e)
include hr
omit hr in
theorem qqm{q t:List Int}(hq:TermOk l q)(ht:TermOk l t){p:Nat}(hp:p<t.length){i:Nat}(hi:i<(q1i l t p).length):q50 l q (q1i l t p) i=q50 l q t (p+i):=by
 obtain⟨h1,_,_,h4⟩:=qev ht hp hi;rw[<- qbx hq (q6b ht hp) hi,h4,qbx hq ht h1]
theorem qq1{t:List Int}(ht:TermOk l t){p:Nat}(hp:p<t.length){i:Nat}(hi:i<(q1i l t p).length):fits l rs (q1i l t p) i=fits l rs t (p+i):=
 qsb fun e he=>by rw[qqm (hr e he).left ht hp hi]
theorem qoy{t:List Int}(ht:TermOk l t)(h:¬(q5c l rs t).1<0):∃a k:Nat,∃_:k<rs.length,q5c l rs t=((a:Int),(k:Int))/\a<t.length/\(q50 l rs[k].left t a).isSome=true/\
 ¬(q5c l rs (q1i l t a)).1<0/\∀i,0<i->i<(q1i l t a).length->(q5c l rs (q1i l (q1i l t a) i)).1<0:=by
 rcases qjz (l:=l) (rs:=rs) t with⟨e,_⟩|⟨a,_,ha,e,hf,hbest⟩
 ·rw[e]at h;exact absurd (by decide) h
 have hsub:=q6b ht ha;have hs0:0<(q1i l t a).length:=hsub.pos;have f0:=qq1 hr ht ha hs0;rw[Nat.add_zero]at f0;have hspec:=q6s (fun e:Equation=>(q50 l e.left t a).isSome) rs
 obtain⟨k,hk,ek,hm⟩:∃k,∃h:k<rs.length,fits l rs t a=(k:Nat)/\(q50 l rs[k].left t a).isSome=true:=by
  rcases hspec with⟨h1,_⟩|h2
  ·unfold fits at hf;rw[h1]at hf;omega
  ·obtain⟨k,hk,e1,e2,_⟩:=h2;exact⟨k,hk,e1,e2⟩
 refine⟨a,k,hk,by rw[e,ek],ha,hm,fun hn=>?_,fun i hi0 hi=>qf7.2 fun q hq=>?_⟩
 ·have:=qf7.1 hn 0 hs0;omega
 ·obtain⟨s1,_,s3,s4⟩:=qev ht ha hi;rw[s4]at hq ⊢;rw[qq1 hr ht s1 hq];apply Classical.byContradiction;intro hge;obtain⟨p1,_,p3,_⟩:=qev ht s1 hq;have hb:=hbest (a+i+q) (Nat.zero_le _) p1 (by omega);obtain⟨_,hlen,_⟩:=q56 ht ha;obtain⟨_,hlen2,_⟩:=q56 ht s1;obtain⟨g1,g2,_⟩:=q3n ht ha;obtain⟨g3,g4,_⟩:=q3n ht s1;have he1:=(q3n hsub hi).2.1;have he2:=(q3n (q6b ht s1) hq).2.1;omega
end
section
variable {l:List Symbol}{rs:List Equation}
theorem qab{t:List Int}(h:(q5c l rs t).1<0)(m k:Nat):norm l rs m k t=⟨0,t,k⟩:=by
 cases m <;> (unfold norm;rw[if_pos h])
theorem qpf:∀(m k:Nat)(t:List Int),(norm l rs m k t).code=0->∃s u,s<=m/\norm l rs m k t=⟨0,u,((k+s:Nat):Int)⟩/\(q5c l rs u).1<0/\norm l rs s k t=⟨0,u,((k+s:Nat):Int)⟩/\(0<s->(norm l rs (s-1) k t).code=9)/\(s=0->u=t)
 |0,k,t,h=>by
  unfold norm at h;by_cases hn:(q5c l rs t).1<0
  ·exact⟨0,t,gAI _,qab hn 0 k,hn,qab hn 0 k,fun h=>by omega,fun _=>rfl⟩
  ·rw[if_neg hn]at h;cases h
 |m+1,k,t,h=>by
  by_cases hn:(q5c l rs t).1<0
  ·exact⟨0,t,Nat.zero_le _,qab hn _ k,hn,qab hn 0 k,fun h=>by omega,fun _=>rfl⟩
  ·have step:∀n,norm l rs (n+1) k t=if(q7t l (rs.getD (q5c l rs t).2.toNat ⟨[],[]⟩) t (q5c l rs t).1.toNat).code≠0 then⟨(q7t l (rs.getD (q5c l rs t).2.toNat ⟨[],[]⟩) t (q5c l rs t).1.toNat).code,[],0⟩
    else norm l rs n (k+1) (q7t l (rs.getD (q5c l rs t).2.toNat ⟨[],[]⟩) t (q5c l rs t).1.toNat).term:=fun n=>by rw[norm,if_neg hn]
   rw[step]at h;by_cases hc:(q7t l (rs.getD (q5c l rs t).2.toNat ⟨[],[]⟩) t (q5c l rs t).1.toNat).code≠0
   ·rw[if_pos hc]at h;exact absurd h hc
   ·rw[if_neg hc]at h;obtain⟨s,u,h1,h2,h3,h4,h5,h6⟩:=qpf m (k+1) _ h;refine⟨s+1,u,by omega,?_,h3,?_,fun _=>?_,fun h=>by omega⟩
    ·rw[step,if_neg hc,h2];congr 2;omega
    ·rw[step,if_neg hc,h4];congr 2;omega
    ·rw[Nat.add_sub_cancel];cases s with
     |zero=>unfold norm;rw[if_neg hn]
     |succ s=>rw[step,if_neg hc];exact h5 (by omega)
end
end Ev.Ty
end
section
namespace Ev.Ty
open Go Ev
def qib(a:Int->Nat)(x y:Tm)(p:Path)(q:Nat):Prop:=y.ok a/\p.sub x=some y/\q<x.flat.length/\(∃rest,x.flat.drop q=y.flat++rest)/\∀w:Tm,(p.put x w).flat=x.flat.take q++w.flat++x.flat.drop (q+y.flat.length)
theorem qem{a:Int->Nat}{x:Tm}(h:x.ok a):qib a x x .here 0:=⟨h,rfl,x.flat_pos,⟨[],by simp⟩,fun w=>by show w.flat=_;simp⟩
theorem qyd{a:Int->Nat}{n:Int}{x y:Tm}{p:Path}{q:Nat}(h:qib a x y p q):qib a (.u n x) y (.u p) (q+1):=by
 obtain⟨h1,h2,h3,⟨rest,h4⟩,h5⟩:=h;refine⟨h1,h2,by show q+1<(n::x.flat).length;simp;omega,⟨rest,h4⟩,fun w=>?_⟩;show n::(p.put x w).flat=(n::x.flat).take (q+1)++w.flat++(n::x.flat).drop (q+1+y.flat.length);rw[h5,Nat.add_right_comm];rfl
theorem qwv{a:Int->Nat}{x y:Tm}{p:Path}{q:Nat}(h:qib a x y p q):q+y.flat.length<=x.flat.length:=by
 obtain⟨h1,h2,h3,⟨rest,h4⟩,h5⟩:=h;have:=congrArg List.length h4;rw[gAA,gM]at this;have:=y.flat_pos;omega
theorem qxq{a:Int->Nat}{n:Int}{x z y:Tm}{p:Path}{q:Nat}(h:qib a x y p q):qib a (.b n x z) y (.l p) (q+1):=by
 have hy:=qwv h;obtain⟨h1,h2,h3,⟨rest,h4⟩,h5⟩:=h;refine⟨h1,h2,by show q+1<(n::(x.flat++z.flat)).length;simp;omega,⟨rest++z.flat,?_⟩,fun w=>?_⟩
 ·show(x.flat++z.flat).drop q=_;rw[List.drop_append_of_le_length (by omega),h4,gZ]
 ·show n::((p.put x w).flat++z.flat)=(n::(x.flat++z.flat)).take (q+1)++w.flat++(n::(x.flat++z.flat)).drop (q+1+y.flat.length);rw[h5,Nat.add_right_comm];show n::(x.flat.take q++w.flat++x.flat.drop (q+y.flat.length)++z.flat)=n::((x.flat++z.flat).take q++w.flat++(x.flat++z.flat).drop (q+y.flat.length));rw[List.take_append_of_le_length (by omega),List.drop_append_of_le_length hy];simp
theorem qy9{a:Int->Nat}{n:Int}{x z y:Tm}{p:Path}{q:Nat}(h:qib a z y p q):qib a (.b n x z) y (.r p) (x.flat.length+q+1):=by
 obtain⟨h1,h2,h3,⟨rest,h4⟩,h5⟩:=h;refine⟨h1,h2,by show _<(n::(x.flat++z.flat)).length;simp;omega,⟨rest,?_⟩,fun w=>?_⟩
 ·show(x.flat++z.flat).drop (x.flat.length+q)=_;rw[List.drop_append,List.drop_eq_nil_of_le (by omega),show x.flat.length+q-x.flat.length=q by omega,h4];rfl
 ·show n::(x.flat++(p.put z w).flat)=(n::(x.flat++z.flat)).take (x.flat.length+q+1)++w.flat++(n::(x.flat++z.flat)).drop (x.flat.length+q+1+y.flat.length);rw[h5,Nat.add_right_comm (x.flat.length+q)];show n::(x.flat++(z.flat.take q++w.flat++z.flat.drop (q+y.flat.length)))=n::((x.flat++z.flat).take (x.flat.length+q)++w.flat++(x.flat++z.flat).drop (x.flat.length+q+y.flat.length));rw[List.take_append,List.drop_append,List.take_of_length_le (by omega:x.flat.length<=x.flat.length+q),List.drop_eq_nil_of_le (by omega:x.flat.length<=x.flat.length+q+y.flat.length),show x.flat.length+q-x.flat.length=q by omega,show x.flat.length+q+y.flat.length-x.flat.length=q+y.flat.length by omega];simp
theorem qxh{a:Int->Nat}:∀(x:Tm)(q:Nat),x.ok a->q<x.flat.length->∃y p,qib a x y p q:=by
 intro x;induction x with
 |v n=>intro q hx hq;have:q=0:=by simp[Tm.flat]at hq;omega
       subst this;exact⟨_,_,qem hx⟩
 |k n=>intro q hx hq;have:q=0:=by simp[Tm.flat]at hq;omega
       subst this;exact⟨_,_,qem hx⟩
 |u n x ih=>
  intro q hx hq
  match q,hq with
  |0,_=>exact⟨_,_,qem hx⟩
  |q+1,hq=>
   obtain⟨y,p,h⟩:=ih q hx.2.2 (by simp only[Tm.flat,gAB]at hq;omega);exact⟨y,_,qyd h⟩
 |b n x z ihx ihz=>
  intro q hx hq
  match q,hq with
  |0,_=>exact⟨_,_,qem hx⟩
  |q+1,hq=>
   simp only[Tm.flat,gAB,gM]at hq;by_cases hl:q<x.flat.length
   ·obtain⟨y,p,h⟩:=ihx q hx.2.2.1 hl;exact⟨y,_,qxq h⟩
   ·obtain⟨y,p,h⟩:=ihz (q-x.flat.length) hx.2.2.2 (by omega);have:=qy9 (n:=n) (x:=x) h;rw[show x.flat.length+(q-x.flat.length)+1=q+1 by omega]at this;exact⟨y,_,this⟩
theorem qh6{a:Int->Nat}:∀{p:Path}{x y:Tm},x.ok a->p.sub x=some y->∃q,qib a x y p q
 |.here,x,y,h,e=>by cases e;exact⟨0,qem h⟩
 |.u p,.u n x,y,h,e=>by obtain⟨q,hq⟩:=qh6 (p:=p) (x:=x) h.2.2 e;exact⟨_,qyd hq⟩
 |.l p,.b n x z,y,h,e=>by obtain⟨q,hq⟩:=qh6 (p:=p) (x:=x) h.2.2.1 e;exact⟨_,qxq hq⟩
 |.r p,.b n x z,y,h,e=>by obtain⟨q,hq⟩:=qh6 (p:=p) (x:=z) h.2.2.2 e;exact⟨_,qy9 hq⟩
 |.u p,.v n,y,h,e=>by cases e
 |.u p,.k n,y,h,e=>by cases e
 |.u p,.b n x z,y,h,e=>by cases e
 |.l p,.v n,y,h,e=>by cases e
 |.l p,.k n,y,h,e=>by cases e
 |.l p,.u n x,y,h,e=>by cases e
 |.r p,.v n,y,h,e=>by cases e
 |.r p,.k n,y,h,e=>by cases e
 |.r p,.u n x,y,h,e=>by cases e
def RT(l:List Symbol)(rs:List Equation)(x y:Tm):Prop:=∃e∈rs,x=q3b l e.left/\y=q3b l e.right
section
variable {l:List Symbol}(ok:SigOk ⟨l⟩)
include ok
theorem qkm{t:List Int}{x:Tm}(ht:TermOk l t)(hx:x.ok (ar l))(e:t=x.flat):q3b l t=x:=by
 obtain⟨h1,h2⟩:=q36 ok ht;exact(qbl h1 hx).1 (h2.symm.trans e)
theorem ql3{t:List Int}(ht:TermOk l t){y:Tm}{p:Path}{q:Nat}(h:qib (ar l) (q3b l t) y p q):q<t.length/\q1i l t q=y.flat/\∀w:Tm,q42 l t q w.flat=(p.put (q3b l t) w).flat:=by
 obtain⟨h1,h2⟩:=q36 ok ht;obtain⟨g1,g2,g3,⟨rest,g4⟩,g5⟩:=h;rw[<- h2]at g3 g4;have hat:At l t q y:=⟨g1,rest,g4⟩;obtain⟨_,_,a3,a4⟩:=hat.facts;refine⟨g3,a4,fun w=>?_⟩;unfold q42;rw[g5,a3,<- h2]
theorem qpq{rs:List Equation}{e:Equation}(hm:e∈rs)(he:EqOk l e){t:List Int}(ht:TermOk l t){q:Nat}(hq:q<t.length)(h:(q7t l e t q).code=0):Stp (RT l rs) (q3b l t) (q3b l (q7t l e t q).term):=by
 have hto:=qax he ht hq h
 obtain⟨b,hma,hb,h1,h2,h3,h4⟩:∃b:Bnd,q50 l e.left t q=some b/\(BindOk b.1 b.2/\∀t∈b.2,TermOk l t)/\q02 b.1 b.2 e.left=q1i l t q/\(q02 b.1 b.2 e.right).length<=24/\(q7t l e t q).term=q42 l t q (q02 b.1 b.2 e.right)/\(q42 l t q (q02 b.1 b.2 e.right)).length<=24:=by
  unfold q7t at h ⊢;cases hm:q50 l e.left t q with
  |none=>rw[hm]at h;cases h
  |some b=>
   rw[hm]at h;simp only at h ⊢;split at h
   ·cases h
   ·rename_i h24;rw[if_neg h24];have hb:=qde he.left ht hq hm;refine⟨b,rfl,⟨hb.ok he.left.le,hb.tm⟩,(qo1 he.left ht hq hm).1,?_,rfl,by omega⟩
    have:(q02 b.1 b.2 e.right).length<=(q42 l t q (q02 b.1 b.2 e.right)).length:=by
     unfold q42;simp only[gM];omega
    omega
 obtain⟨x1,x2⟩:=q36 ok ht;obtain⟨l1,l2⟩:=q36 ok he.left;obtain⟨r1,r2⟩:=q36 ok he.right;obtain⟨y,p,hp⟩:=qxh (q3b l t) q x1 (by rw[<- x2];exact hq);obtain⟨_,p2,p3⟩:=ql3 ok ht hp;have sok:=qsl ok hb;have ey:y=(q3b l e.left).inst (subB l b.1 b.2):=(qbl hp.1 (Tm.inst_ok sok l1)).1 (by rw[<- p2,<- h1,<- qcq ok hb _ l1,<- l2]);refine⟨p,q3b l e.left,q3b l e.right,subB l b.1 b.2,⟨e,hm,rfl,rfl⟩,by rw[hp.2.1,ey],?_⟩;have er:q02 b.1 b.2 e.right=((q3b l e.right).inst (subB l b.1 b.2)).flat:=by rw[<- qcq ok hb _ r1,<- r2]
 exact qkm ok hto (qf6 x1 hp.2.1 (Tm.inst_ok sok r1)) (by rw[h3,er,p3])
theorem qek{rs:List Equation}(hr:∀e∈rs,EqOk l e):∀(m k:Nat)(t:List Int),TermOk l t->(norm l rs m k t).code=0->Star (Stp (RT l rs)) (q3b l t) (q3b l (norm l rs m k t).term)
 |0,k,t,ht,h=>by
  unfold norm at h ⊢;split at h
  ·rename_i hn;rw[if_pos hn];exact .refl _
  ·cases h
 |m+1,k,t,ht,h=>by
  by_cases hn:(q5c l rs t).1<0
  ·rw[qab hn];exact .refl _
  ·obtain⟨a,i,hi,er,ha,_⟩:=qoy hr ht hn;have hgd:rs.getD i ⟨[],[]⟩=rs[i]:=by rw[gI,gA hi];rfl
   rw[norm,if_neg hn,er]at h ⊢;simp only[gR]at h ⊢;rw[hgd]at h ⊢;by_cases hc:(q7t l rs[i] t a).code=0
   ·rw[if_neg (by simpa using hc)]at h ⊢;have he:=hr _ (gG hi);exact .head (qpq ok (gG hi) he ht ha hc) (qek hr m (k+1) _ (qax he ht ha hc) h)
   ·rw[if_pos hc]at h;exact absurd h hc
omit ok in
theorem qaq{t:List Int}(ht:TermOk l t){σ:Int->Tm}:∀(q:List Int)(b:Bnd)(p k:Nat){r rest:List Int},Both l t q p r->MB l b k->k+q.length<=24->(∀n∈q,q5x l n=true)->(∀n∈q,n<0->(σ n).ok (ar l))->(∀v o,q3i b.1 b.2 v=some o->o=(σ (-1-v)).flat)->t.drop p=phi σ q++rest->∃x,mgo l t q b p=some x
 |[],b,p,k,r,rest,_,_,_,_,_,_,_=>⟨_,rfl⟩
 |n::q,b,p,k,r,rest,h,hb,hk,hq,hs,hc,hd=>by
  have hlt:=h.lt;rw[gAB]at hk;have hnode:=q4j.1 (hq n (by simp));have hq':∀n∈q,q5x l n=true:=fun n hn=>hq n (gF _ hn);have hs':∀n∈q,n<0->(σ n).ok (ar l):=fun n hn=>hs n (gF _ hn);rw[mgo,if_neg (by omega)];rw[q9r,qca]at hd;by_cases hn:0<=n
  ·rw[if_pos hn];rw[if_neg (by omega)]at hd;have hd:t.drop p=n::(phi σ q++rest):=by rw[hd];simp
   have e:t.getD p 0=n:=by
    have:=congrArg (fun s=>s.getD 0 0) hd;rw[gI,gI,gV,Nat.add_zero]at this;rw[gI];exact this
   rw[if_pos e];have hd2:t.drop (p+1)=phi σ q++rest:=by rw[<- List.drop_drop,hd];rfl
   exact qaq ht q b (p+1) (k+1) (h.node e) (hb.up (by omega)) (by omega) hq' hs' hc hd2
  ·rw[if_neg hn];rw[if_pos (by omega)]at hd;have hd:t.drop p=(σ n).flat++(phi σ q++rest):=by rw[hd,gZ]
   have hat:At l t p (σ n):=⟨hs n (by simp) (by omega),_,hd⟩;obtain⟨_,_,a3,a4⟩:=hat.facts;have hd2:t.drop (p+(q1i l t p).length)=phi σ q++rest:=by rw[a4,<- List.drop_drop,hd,List.drop_left]
   cases ho:q3i b.1 b.2 (-1-n)with
   |none=>
    refine qaq ht q _ _ (k+1) (h.var ht (by omega)) (hb.put (v := -1-n) (by omega) (q6b ht hlt)) (by omega) hq' hs' (fun v o hv=>?_) hd2;rw[qd8 hb.len (qdk hb.len ho)]at hv;by_cases e : -1-n=v
    ·rw[if_pos e]at hv;cases hv;rw[a4,<- e,show -1-(-1-n)=n by omega]
    ·rw[if_neg e]at hv;exact hc v o hv
   |some o=>
    have e:o=q1i l t p:=by rw[a4,hc _ o ho,show -1-(-1-n)=n by omega]
    show ∃x,(if o=q1i l t p then _ else none)=some x;rw[if_pos e];exact qaq ht q b _ (k+1) (h.var ht (by omega)) (hb.up (by omega)) (by omega) hq' hs' hc hd2
omit ok in
theorem qiz{q t:List Int}(hq:TermOk l q)(ht:TermOk l t){p:Nat}(hp:p<t.length){σ:Int->Tm}(hs:∀n∈q,n<0->(σ n).ok (ar l))(h:q1i l t p=phi σ q):(q50 l q t p).isSome=true:=by
 obtain⟨s1,_⟩:=q56 ht hp;obtain⟨x,hx⟩:=qaq ht (σ:=σ) q ([],[]) p 0 (Both.start ht hq hp) (MB.nil l) (by have:=hq.le;omega) hq.node hs (fun v o hv=>by simp[q3i,idx]at hv) (by rw[s1,h]);unfold q50;rw[hx];rfl
omit ok in
theorem q9u{a:Int->Nat}{n:Int}:∀{x:Tm},x.ok a->(x.occ n<->n∈x.flat/\n<0)
 |.v m,h=>⟨fun e=>by cases e;exact⟨gD.2 rfl,h⟩,fun e=>gD.1 e.1⟩
 |.k m,h=>⟨fun e=>e.elim,fun e=>by have:=gD.1 e.1;have:=h.1;omega⟩
 |.u m x,h=>by
  show x.occ n<->n∈m::x.flat/\n<0;rw[q9u h.2.2,gK];have:=h.1;constructor
  ·rintro⟨h1,h2⟩;exact⟨.inr h1,h2⟩
  ·rintro⟨h1|h1,h2⟩
   ·omega
   ·exact⟨h1,h2⟩
 |.b m x y,h=>by
  show x.occ n\/y.occ n<->n∈m::(x.flat++y.flat)/\n<0;rw[q9u h.2.2.1,q9u h.2.2.2,gK,gO];have:=h.1;constructor
  ·rintro(⟨h1,h2⟩|⟨h1,h2⟩)
   ·exact⟨.inr (.inl h1),h2⟩
   ·exact⟨.inr (.inr h1),h2⟩
  ·rintro⟨h1|h1|h1,h2⟩
   ·omega
   ·exact .inl ⟨h1,h2⟩
   ·exact .inr ⟨h1,h2⟩
theorem qk7{rs:List Equation}(hr:∀e∈rs,EqOk l e){t:List Int}(ht:TermOk l t)(h:(q5c l rs t).1<0)(w:Tm):¬ Stp (RT l rs) (q3b l t) w:=by
 rintro⟨p,_,_,σ,⟨e,hm,rfl,rfl⟩,h2,rfl⟩;obtain⟨x1,x2⟩:=q36 ok ht;have he:=hr e hm;obtain⟨l1,l2⟩:=q36 ok he.left;obtain⟨q,hq⟩:=qh6 x1 h2;obtain⟨q1,q2,_⟩:=ql3 ok ht hq;have hms:=qiz he.left ht q1 (σ:=σ) (fun n hn h0=>qi9 (t:=q3b l e.left) hq.1 n ((q9u l1).2 ⟨by rw[<- l2];exact hn,h0⟩)) (by rw[q2,<- q6t _ l1,<- l2]);have hf:=qf7.1 h q q1;rcases q6s (fun e:Equation=>(q50 l e.left t q).isSome) rs with⟨_,g⟩|⟨i,_,g,_⟩
 ·have:=g e hm;rw[hms]at this;cases this
 ·unfold fits at hf;rw[g]at hf;omega
end
end Ev.Ty
end
section
namespace Ev.Ty
open Go Ev
open Enc (enc)
open Sm (sm)
def qmp(l:List Symbol){α:Type}(b:Bnd)(p:Pr)(ps:List Pr)(out:Bnd ⊕ Int->α)(next:Bnd->List Pr->α):α:=
 if 24<(q02 b.1 b.2 p.left).length\/24<(q02 b.1 b.2 p.right).length then out (.inr 2)
 else if q02 b.1 b.2 p.left=q02 b.1 b.2 p.right then next b ps
 else if(q02 b.1 b.2 p.left).getD 0 0<0 then
  if(q02 b.1 b.2 p.left).getD 0 0∈q02 b.1 b.2 p.right then out (.inr 4)else match q5g b (-1-(q02 b.1 b.2 p.left).getD 0 0) (q02 b.1 b.2 p.right)with
   |none=>out (.inr 2)
   |some b'=>next b' ps
 else if(q02 b.1 b.2 p.right).getD 0 0<0 then
  if(q02 b.1 b.2 p.right).getD 0 0∈q02 b.1 b.2 p.left then out (.inr 4)else match q5g b (-1-(q02 b.1 b.2 p.right).getD 0 0) (q02 b.1 b.2 p.left)with
   |none=>out (.inr 2)
   |some b'=>next b' ps
 else if(q02 b.1 b.2 p.left).getD 0 0≠(q02 b.1 b.2 p.right).getD 0 0 then out (.inr 4)
 else next b (q6u l (q02 b.1 b.2 p.left) (q02 b.1 b.2 p.right)++ps)
def StackOk(b:Bnd)(ps:List Pr):Prop:=∃new old:List Pr,ps=new++old/\q8i b new<=46/\old.length<=24*b.1.length+1
theorem qhp{l:List Symbol}{b:Bnd}(hb:UB l b):∀{ps:List Pr},(∀p∈ps,TermOk l p.left/\TermOk l p.right)->2*ps.length<=q8i b ps
 |[],_=>by simp[q8i]
 |p::ps,h=>by
  have ih:=qhp hb (ps:=ps) fun q hq=>h q (gF _ hq);have hp:=h p (by simp);have h1:=q95 hb.mb p.left;have h2:=q95 hb.mb p.right;have:=hp.1.pos;have:=hp.2.pos;simp only[q8i,List.map_cons,List.sum_cons,gAB]at ih ⊢;omega
theorem StackOk.len{l:List Symbol}{b:Bnd}(hb:UB l b){ps:List Pr}(hps:∀p∈ps,TermOk l p.left/\TermOk l p.right)(h:StackOk b ps):ps.length<=400:=by
 obtain⟨new,old,rfl,h1,h2⟩:=h;have:=qhp hb (ps:=new) fun q hq=>hps q (gJ _ hq);have:=hb.le;rw[gM];omega
theorem qka(b:Bnd)(p:Pr)(ps:List Pr):q8i b (p::ps)=(q02 b.1 b.2 p.left).length+(q02 b.1 b.2 p.right).length+q8i b ps:=by simp[q8i]
theorem qlo(b:Bnd)(ps qs:List Pr):q8i b (ps++qs)=q8i b ps+q8i b qs:=by simp[q8i]
theorem StackOk.tail{b:Bnd}{p:Pr}{ps:List Pr}(h:StackOk b (p::ps)):StackOk b ps:=by
 obtain⟨new,old,e,h1,h2⟩:=h;cases new with
 |nil=>
  rw[List.nil_append]at e;subst e;exact⟨[],ps,rfl,by simp[q8i],by simp at h2;omega⟩
 |cons q new=>
  rw[List.cons_append]at e;injection e with e1 e2;rw[qka]at h1;exact⟨new,old,e2,by omega,h2⟩
theorem StackOk.bind{l:List Symbol}{b b':Bnd}(hb:UB l b){p:Pr}{ps:List Pr}(hps:∀q∈p::ps,TermOk l q.left/\TermOk l q.right)(h:StackOk b (p::ps))(hl:b'.1.length=b.1.length+1):StackOk b' ps:=by
 obtain⟨new,old,e,h1,h2⟩:=h.tail;have:=qhp hb (ps:=new) fun q hq=>hps q (gF _ (e▸gJ _ hq));exact⟨[],ps,rfl,by simp[q8i],by rw[e,gM];omega⟩
theorem StackOk.args{b:Bnd}{p:Pr}{ps qs:List Pr}(h:StackOk b (p::ps))(hq:q8i b qs+2=(q02 b.1 b.2 p.left).length+(q02 b.1 b.2 p.right).length)(h1:(q02 b.1 b.2 p.left).length<=24)(h2:(q02 b.1 b.2 p.right).length<=24):StackOk b (qs++ps):=by
 obtain⟨new,old,e,h3,h4⟩:=h;cases new with
 |nil=>
  rw[List.nil_append]at e;subst e;exact⟨qs,ps,rfl,by omega,by simp at h4;omega⟩
 |cons q new=>
  rw[List.cons_append]at e;injection e with e1 e2;subst e1;rw[qka]at h3;exact⟨qs++new,old,by rw[e2,gZ],by rw[qlo];omega,h4⟩
theorem qik{l:List Symbol}{α:Type}{S:Nat->Bnd->List Pr->α}{out:Bnd ⊕ Int->α}(hnil:∀f b,S (f+1) b []=out (.inl b))
 (hstep:∀f b p ps,UB l b->TermOk l p.left->TermOk l p.right->(∀q∈ps,TermOk l q.left/\TermOk l q.right)->ps.length<=400->S (f+1) b (p::ps)=qmp l b p ps out (S f)) :
 ∀(n f:Nat)(b:Bnd)(ps:List Pr)(r:Bnd ⊕ Int),n<=f->UB l b->(∀p∈ps,TermOk l p.left/\TermOk l p.right)->StackOk b ps->unif l n b ps=some r->S f b ps=out r
 |0,f,b,ps,r,hf,hb,hps,hst,h=>by cases h
 |n+1,f,b,ps,r,hf,hb,hps,hst,h=>by
  obtain⟨f,rfl⟩:∃q,f=q+1:=⟨f-1,by omega⟩;have ih:=qik hnil hstep n f;cases ps with
  |nil=>cases h;exact hnil f b
  |cons p ps=>
   have hp:=hps p (by simp);have hps':∀q∈ps,TermOk l q.left/\TermOk l q.right:=fun q hq=>hps q (gF _ hq);have hlen:=hst.len hb hps;rw[hstep f b p ps hb hp.1 hp.2 hps' (by simp at hlen;omega)];unfold qmp;rw[unif]at h;split at h
   ·rename_i c;rw[if_pos c];cases h;rfl
   rename_i c1;rw[if_neg c1];have hx:=hb.applied_ok hp.1 (by omega);have hy:=hb.applied_ok hp.2 (by omega)
   have bindcase:∀(u t:List Int),TermOk l (q02 b.1 b.2 u)->TermOk l (q02 b.1 b.2 t)->(q02 b.1 b.2 u).getD 0 0<0->(q02 b.1 b.2 u).getD 0 0∉q02 b.1 b.2 t->∀b',q5g b (-1-(q02 b.1 b.2 u).getD 0 0) (q02 b.1 b.2 t)=some b'->
    unif l n b' ps=some r->S f b' ps=out r:=fun u t hu ht hneg hno b' hb' hr=>by
    obtain⟨hv,hnb⟩:=hb.head_var hu hneg;obtain⟨q1,q2⟩:=qcx hb hv hnb ht (hb.applied_free t) (by rw[show -1-(-1-(q02 b.1 b.2 u).getD 0 0)=(q02 b.1 b.2 u).getD 0 0 by omega];exact hno) hb';exact ih b' ps r (by omega) q1 hps' (hst.bind hb hps q2) hr
   split at h
   ·rename_i c;rw[if_pos c];exact ih b ps r (by omega) hb hps' hst.tail h
   rename_i c2;rw[if_neg c2];split at h
   ·rename_i c3;rw[if_pos c3];split at h
    ·rename_i c;rw[if_pos c];cases h;rfl
    rename_i c4;rw[if_neg c4];cases hb':q5g b (-1-(q02 b.1 b.2 p.left).getD 0 0) (q02 b.1 b.2 p.right)with
    |none=>rw[hb']at h;cases h;rfl
    |some b'=>rw[hb']at h;exact bindcase p.left p.right hx hy c3 c4 b' hb' h
   rename_i c3;rw[if_neg c3];split at h
   ·rename_i c5;rw[if_pos c5];split at h
    ·rename_i c;rw[if_pos c];cases h;rfl
    rename_i c4;rw[if_neg c4];cases hb':q5g b (-1-(q02 b.1 b.2 p.right).getD 0 0) (q02 b.1 b.2 p.left)with
    |none=>rw[hb']at h;cases h;rfl
    |some b'=>rw[hb']at h;exact bindcase p.right p.left hy hx c5 c4 b' hb' h
   rename_i c5;rw[if_neg c5];split at h
   ·rename_i c;rw[if_pos c];cases h;rfl
   rename_i c6;rw[if_neg c6];have ha:=q4r (b:=b) hx hy (hb.applied_free _) (hb.applied_free _) (by simpa using c6)
   exact ih b _ r (by omega) hb (fun q hq=>by
    rcases gO.1 hq with hq|hq
    ·exact qli hx hy q hq
    ·exact hps' q hq) (hst.args ha hx.le hy.le) h
theorem qjf(p:Pr)(ps:List Pr):((cells (p::ps)).take ((p::ps).length*2)).drop (1*2)=cells ps:=by
 rw[q9a (p::ps) 2 _ rfl,List.take_length,q9z _ 2 1 rfl];rfl
def uT:Bnd ⊕ Int->R
 |.inl b=>some (.tup [.agg [slc b.1,slc b.2],.int .i64 0],[])
 |.inr c=>some (.tup [.agg [.sl 1 [],.sl 1 []],.int .i64 c],[])
theorem qa0{l:List Symbol}{t:List Int}(h:TermOk l t):(cells t)[0]?=some (.int .i64 (t.getD 0 0)):=by
 have hp:=h.pos;have:=get0 (l:=t) (k:=1) (i:=0) rfl;rw[Nat.zero_mul]at this;rw[this,gA (by omega),q6v (by omega)];rfl
section
variable {l:List Symbol}(ok:SigOk ⟨l⟩)
include ok
theorem qia{b:Bnd}(hb:UB l b){ps:List Pr}{u t:List Int}(hu:TermOk l u)(ht:TermOk l t)(hv:0 <= -1-u.getD 0 0 /\ -1-u.getD 0 0<=11){N:Nat}(hN:20<=N)(L0:St->R) :
 q0g.at5 N L0 N (q0g.st5 (cells ps) (cells u) (cells t) b.2.length (0:Nat) (cells l) (cells b.1) (cells b.2) [.int .i64 (-1-u.getD 0 0)] [slc t])=
  match q5g b (-1-u.getD 0 0) t with
  |none=>uT (.inr 2)
  |some b'=>L0 (q0g.st0 (cells ps) (cells l) (cells b'.1) (cells b'.2)):=by
 have hbl:=hb.le;have hlen:=hb.mb.len;have htl:=ht.le;have hpu:=hu.pos;have hone:=qt3 (l:=l) hv ht;have hbo:=hone.ok (by omega);obtain⟨v,hve⟩:∃v,v = -1-u.getD 0 0:=⟨_,rfl⟩;have hwr:IntKind.wrap .i64 (-1-u.getD 0 0)=v:=by rw[q2y (by omega),hve]
 rw[<- hve]at hv hone hbo ⊢
 have loop:∀n k f,k+n=b.2.length->n<f->
  q0g.at5 N L0 f (q0g.st5 (cells ps) (cells u) (cells t) b.2.length (k:Nat) (cells l) (cells b.1) (cells ((b.2.take k).map (q02 [v] [t])++b.2.drop k)) [.int .i64 v] [slc t])=
   if((b.2.drop k).any fun x=>decide (24<(q02 [v] [t] x).length))=true then uT (.inr 2)else
    L0 (q0g.st0 (cells ps) (cells l) (cells (bput (b.1,b.2.map (q02 [v] [t])) v t).1) (cells (bput (b.1,b.2.map (q02 [v] [t])) v t).2)):=by
  intro n;induction n with
  |zero=>
   intro k f hk hf;obtain⟨f,rfl⟩:∃x,f=x+1:=⟨f-1,by omega⟩;obtain rfl:k=b.2.length:=by omega
   rw[List.take_length,gU (gAI _),gAD];have hbind:=q12 b.1 (b.2.map (q02 [v] [t])) v t (by simp;omega) (by omega) (by omega);have hu0:=qa0 hu;have hpu':(0:Int)<u.length:=by omega
   simp only[q0g.next5,q0g.round5,evz,Nat.reduceLT,gAK,hu0,hwr,qbd (k:=1) (l:=t) rfl,hbind,List.any_nil,Bool.false_eq_true];rw[show inB (0:Int) u.length=true from(q61 0 u.length).trans (by simp;omega)];rfl
  |succ n ih=>
   intro k f hk hf;obtain⟨f,rfl⟩:∃x,f=x+1:=⟨f-1,by omega⟩;have hkl:k<b.2.length:=by omega
   have hto:=hb.mb.tm _ (gG hkl);have htol:=hto.le;have happ:LIM F.q0i [.agg [.sl 1 [.int .i64 v],.sl 1 [slc t]],slc b.2[k]]=some (slc (q02 [v] [t] b.2[k]),[]):=(q0i [v] [t] hbo b.2[k] (by omega) (hto.range ok)).eq;obtain⟨M,hM⟩:∃M,M=(b.2.take k).map (q02 [v] [t])++b.2.drop k:=⟨_,rfl⟩;have hMl:M.length=b.2.length:=by rw[hM];simp;omega
   have hMk:M[k]?=some b.2[k]:=by
    rw[hM,List.getElem?_append_right (by simp;omega)];simp[Nat.min_eq_left (Nat.le_of_lt hkl),gA hkl]
   have hkM:k<M.length:=by omega
   have hget:(cells M)[k*1]?=some (slc b.2[k]):=by
    rw[get0 (l:=M) (k:=1) (i:=k) rfl,hMk];rfl
   have hkc:k*1<(cells M).length:=by rw[q0m];simp[show Enc.sz (List Int)=1 from rfl];omega
   have hset:(cells M).set (k*1) (slc (q02 [v] [t] b.2[k]))=cells (M.set k (q02 [v] [t] b.2[k])):=by
    have:=qui (l:=M) hkM (q02 [v] [t] b.2[k]);simpa[setCells]using this
   have hnext:M.set k (q02 [v] [t] b.2[k])=(b.2.take (k+1)).map (q02 [v] [t])++b.2.drop (k+1):=by
    have e1:b.2.take (k+1)=b.2.take k++[b.2[k]]:=(gAP hkl).symm;rw[hM,e1,List.map_append,List.set_append_right _ _ (by simp;omega)];rw[show k-((b.2.take k).map (q02 [v] [t])).length=0 by simp;omega,gH hkl,List.set_cons_zero];simp
   rw[<- hM,gH hkl,List.any_cons];have hin:inB (k:Int) ((cells M).length/1)=true:=by rw[q61];simp[q0m,show Enc.sz (List Int)=1 from rfl];omega
   by_cases h24:24<(q02 [v] [t] b.2[k]).length
   ·have h24':((q02 [v] [t] b.2[k]).length:Int)>24:=by omega
    simp only[q0g.next5,q0g.round5,gR,hget,hin,List.set_set,List.length_set,List.getElem?_set_self hkc,hkc,evz,Nat.reduceLT,hkl,happ,hkM,h24',h24,Bool.true_or];rfl
   ·have h24':¬((q02 [v] [t] b.2[k]).length:Int)>24:=by omega
    simp only[q0g.next5,q0g.round5,gR,hget,hin,List.set_set,List.length_set,List.getElem?_set_self hkc,hkc,evz,Nat.reduceLT,hkl,happ,hkM,h24',h24,Bool.false_or,qbd (k:=1) (l:=q02 [v] [t] b.2[k]) rfl,hset,hnext];rw[q0k (by omega)];exact ih (k+1) f (by omega) (by omega)
 have:=loop b.2.length 0 N (by omega) (by omega);rw[List.take_zero,List.map_nil,List.nil_append,List.drop_zero]at this;rw[this];unfold q5g;by_cases h:(b.2.any fun x=>decide (24<(q02 [v] [t] x).length))=true
 ·rw[if_pos h,if_pos h]
 ·rw[if_neg h,if_neg h]
theorem qnm{b:Bnd}{ps:List Pr}(hps:ps.length<=400){x y:List Int}(hx:TermOk l x)(hy:TermOk l y)(he:x.getD 0 0=y.getD 0 0){N:Nat}(hN:20<=N)(L0:St->R) :
 q0g.at3 N L0 N (q0g.st3 (cells ps) (cells x) (cells y) (q34 l x 0).length (0:Nat) (cells l) (cells b.1) (cells b.2) (cells (ints (q34 l y 0))) (cells (ints (q34 l x 0))) (cells ([]:List Pr)))=
  L0 (q0g.st0 (cells (q6u l x y++ps)) (cells l) (cells b.1) (cells b.2)):=by
 have hl:(q34 l x 0).length=(q34 l y 0).length:=by unfold q34;rw[q6c,q6c,he]
 have h2:=qb1 ok x 0;have hmx:∀q∈q34 l x 0,q<x.length:=fun q hq=>(q5a hx (p:=0) (by have:=hx.pos;omega) hq).2;have hmy:∀q∈q34 l y 0,q<y.length:=fun q hq=>(q5a hy (p:=0) (by have:=hy.pos;omega) hq).2;have hzl:((q34 l x 0).zip (q34 l y 0)).length=(q34 l x 0).length:=by rw[List.length_zip];omega
 have key:=q9p (n:=(q34 l x 0).length) (f:=N) (S:=fun m k (o:List Pr)=>q0g.at3 N L0 m (q0g.st3 (cells ps) (cells x) (cells y) (q34 l x 0).length (k:Nat) (cells l) (cells b.1) (cells b.2) (cells (ints (q34 l y 0))) (cells (ints (q34 l x 0))) (cells o)))
  (st:=fun k=>(q6u l x y).take k) (z:=L0 (q0g.st0 (cells (q6u l x y++ps)) (cells l) (cells b.1) (cells b.2))) (fun m k h=>?_) (fun m=>?_) (by omega)
 ·exact key
 ·have hky:k<(q34 l y 0).length:=by omega
  have hax:(ints (q34 l x 0))[k]?=some (((q34 l x 0)[k]:Nat):Int):=q7n h;have hay:(ints (q34 l y 0))[k]?=some (((q34 l y 0)[k]:Nat):Int):=q7n hky;have hsx:=(q35 ok hx (hmx _ (gG h))).eq;have hsy:=(q35 ok hy (hmy _ (gG hky))).eq;have hal:k<(q6u l x y).length:=by unfold q6u;rw[gAG,hzl];exact h
  have hak:(q6u l x y)[k]=⟨q1i l x (q34 l x 0)[k],q1i l y (q34 l y 0)[k]⟩:=by simp[q6u]
  have e1:(q6u l x y).take (k+1)=(q6u l x y).take k++[⟨q1i l x (q34 l x 0)[k],q1i l y (q34 l y 0)[k]⟩]:=by rw[<- hak];exact(gAP hal).symm
  have e2:∀(A:List Pr)(p q:List Int),cells A++[slc p,slc q]=cells (A++[⟨p,q⟩]):=fun A p q=>by rw[q2s];rfl
  rw[e1];simp only[q0g.next3,q0g.round3,evz,Nat.reduceLT,h,hky,q3l,hax,hay,q1r,hsx,hsy,e2];rw[q0k (by omega),q1o (q41 (by rw[q0m,q49];simp;omega))]
 ·rw[List.take_of_length_le (by unfold q6u;rw[gAG,hzl];exact gAI _)];have hal:(q6u l x y).length<=2:=by unfold q6u;rw[gAG,hzl];exact h2
  simp only[q0g.next3,q0g.round3,evz,Nat.reduceLT,gAK,<- q2s];rw[q1o (q41 (by rw[q0m,q0m,q49];omega))]
theorem q0g{a b:List Int}(ha:TermOk l a)(hb:TermOk l b):LIM F.q0g [.agg [slc l],slc a,slc b]=uT (qes l a b):=by
 obtain⟨⟨n,hn⟩,_⟩:=q8x ha hb
 have hcall:∀r,q1j prog Ev.A H LIM (n+20) F.q0g [.agg [slc l],slc a,slc b]=uT r->LIM F.q0g [.agg [slc l],slc a,slc b]=uT r:=fun r h=>by
  cases r with
  |inl x=>exact q0q rfl _ h
  |inr x=>exact q0q rfl _ h
 refine hcall _ ((q0g.ev _ _ _ _).trans ?_)
 have loop:=qik (l:=l) (S:=fun f (b:Bnd) (ps:List Pr)=>q0g.at0 (n+20) f (q0g.st0 (cells ps) (cells l) (cells b.1) (cells b.2))) (out:=uT)
  (fun f b=>by
   simp only[q0g.next0,q0g.round0,qf0,List.length_nil];rfl)
  (fun f b p ps hb h1 h2 hps hl=>?_) n (n+20) ([],[]) [⟨a,b⟩] _ (by omega) (UB.nil l) (fun p hp=>by rw[gD.1 hp];exact⟨ha,hb⟩) ⟨[],_,rfl,by simp[q8i],by simp⟩ hn
 ·exact loop
 ·have hbo:=hb.mb.ok (by omega);have hl1:=h1.le;have hl2:=h2.le;have a1:=(q0i b.1 b.2 hbo p.left (by omega) (h1.range ok)).eq;have a2:=(q0i b.1 b.2 hbo p.right (by omega) (h2.range ok)).eq;have g0:(cells (p::ps))[0]?=some (slc p.left):=rfl;have g1:(cells (p::ps))[1]?=some (slc p.right):=rfl;have hpl:((p::ps).length:Int)>0:=by simp
  have hin:inB (0:Int) (p::ps).length=true:=(q61 0 _).trans (by simp);have hfx:=hb.applied_free p.left;have hfy:=hb.applied_free p.right;have hox:=fun h=>hb.applied_ok h1 h;have hoy:=fun h=>hb.applied_ok h2 h;have hhx:=fun h h'=>hb.head_var (hox h) h';have hhy:=fun h h'=>hb.head_var (hoy h) h';have hb1:decide (0<=(1:Int))=true:=rfl;have hb2:(1:Int)<=((p::ps).length:Int):=by simp only[gAB];omega
  have hlx:=q7e hbo p.left;have hly:=q7e hbo p.right;obtain⟨Z,hZ⟩:∃Z,Z=qmp l b p ps uT (fun(b:Bnd)(ps:List Pr)=>q0g.at0 (n+20) f (q0g.st0 (cells ps) (cells l) (cells b.1) (cells b.2))):=⟨_,rfl⟩;show _=qmp l b p ps uT (fun(b:Bnd)(ps:List Pr)=>q0g.at0 (n+20) f (q0g.st0 (cells ps) (cells l) (cells b.1) (cells b.2)));rw[<- hZ];unfold qmp at hZ;simp only[q0g.next0,q0g.round0,evz,Nat.reduceLT,hpl,hin,g0,g1,a1,a2,hb1,hb2,Int.le_refl,Bool.and_self,qjf];generalize q02 b.1 b.2 p.left=x at *;generalize q02 b.1 b.2 p.right=y at *;by_cases c1:24<x.length
  ·have c1':(x.length:Int)>24:=by omega
   rw[if_pos (.inl c1)]at hZ;simp only[c1',evz,Nat.reduceLT];rw[hZ];rfl
  by_cases c1b:24<y.length
  ·have c1':¬(x.length:Int)>24:=by omega
   have c1b':(y.length:Int)>24:=by omega
   rw[if_pos (.inr c1b)]at hZ;simp only[c1',c1b',evz,Nat.reduceLT];rw[hZ];rfl
  have c1':¬(x.length:Int)>24:=by omega
  have c1b':¬(y.length:Int)>24:=by omega
  have hx:=hox (by omega);have hy:=hoy (by omega);have hxp:=hx.pos;have hyp:=hy.pos;have heq:=(q0p x y ⟨by omega,fun _ _=>trivial⟩).eq;rw[if_neg (by omega)]at hZ;by_cases c2:x=y
  ·rw[if_pos c2]at hZ;rw[decide_eq_true c2]at heq;simp only[c1',c1b',evz,Nat.reduceLT,heq];rw[hZ]
  rw[if_neg c2]at hZ;rw[decide_eq_false c2]at heq;have x0:=qa0 hx;have y0:=qa0 hy;have inx:inB (0:Int) x.length=true:=(q61 0 _).trans (by simp;omega);have iny:inB (0:Int) y.length=true:=(q61 0 _).trans (by simp;omega);by_cases c3:x.getD 0 0<0
  ·have c3':¬ x.getD 0 0>=0:=by omega
   obtain⟨hv,_⟩:=hhx (by omega) c3;have hct:=(q1h y (x.getD 0 0) (by omega)).eq;have h5:=qia ok hb (ps:=ps) hx hy hv (N:=n+20) (by omega) (q0g.at0 (n+20) f);rw[if_pos c3]at hZ;by_cases c4:x.getD 0 0∈y
   ·rw[if_pos c4]at hZ;rw[decide_eq_true c4]at hct;simp only[c1',c1b',evz,Nat.reduceLT,heq,inx,x0,c3,c3',hct];rw[hZ];rfl
   ·rw[if_neg c4]at hZ;rw[decide_eq_false c4]at hct;simp only[c1',c1b',evz,Nat.reduceLT,heq,inx,x0,c3,c3',hct,q2y (x := -1-x.getD 0 0) (by omega),qbd (k:=1) (l:=y) rfl];rw[hZ];exact h5
  rw[if_neg c3]at hZ;have c3':x.getD 0 0>=0:=by omega
  by_cases c5:y.getD 0 0<0
  ·obtain⟨hv,_⟩:=hhy (by omega) c5;have hct:=(q1h x (y.getD 0 0) (by omega)).eq;have h5:=qia ok hb (ps:=ps) hy hx hv (N:=n+20) (by omega) (q0g.at0 (n+20) f);rw[if_pos c5]at hZ;by_cases c4:y.getD 0 0∈x
   ·rw[if_pos c4]at hZ;rw[decide_eq_true c4]at hct;simp only[c1',c1b',evz,Nat.reduceLT,heq,inx,iny,x0,y0,c3,c3',c5,hct];rw[hZ];rfl
   ·rw[if_neg c4]at hZ;rw[decide_eq_false c4]at hct;simp only[c1',c1b',evz,Nat.reduceLT,heq,inx,iny,x0,y0,c3,c3',c5,hct,q2y (x := -1-y.getD 0 0) (by omega),qbd (k:=1) (l:=x) rfl];rw[hZ];exact h5
  rw[if_neg c5]at hZ;by_cases c6:x.getD 0 0=y.getD 0 0
  ·rw[if_neg (by simpa using c6)]at hZ;have h3:=qnm ok (b:=b) (ps:=ps) hl hx hy c6 (N:=n+20) (by omega) (q0g.at0 (n+20) f);have sx:=(q0w ok hx (p:=0) (by omega)).eq;have sy:=(q0w ok hy (p:=0) (by omega)).eq;simp only[c1',c1b',evz,Nat.reduceLT,heq,inx,iny,x0,y0,c3,c5,c6];rw[c6]at c3;have sx':LIM F.q0w [.agg [slc l],slc x,.int .i64 0]=some (slc (ints (q34 l x 0)),[]):=sx;have sy':LIM F.q0w [.agg [slc l],slc y,.int .i64 0]=some (slc (ints (q34 l y 0)),[]):=sy;simp only[c5,evz,Nat.reduceLT,sx',sy',q3l];rw[hZ];exact h3
  ·rw[if_pos c6]at hZ;simp only[c1',c1b',evz,Nat.reduceLT,heq,inx,iny,x0,y0,c3,c5,c6];rw[hZ];rfl
end
def qq5(b:Bnd)(v:Int)(t:List Int):Bnd ⊕ Int:=if -1-v∈t then .inr 4 else match q5g b v t with
 |none=>.inr 2
 |some b'=>.inl b'
section
variable {l:List Symbol}(ok:SigOk ⟨l⟩)
include ok
theorem q25{b:Bnd}(hb:UB l b){v:Int}(hv:0<=v/\v<=11)(hnb:v∉b.1){t:List Int}(ht:TermOk l t) :
 LIM F.q25 [.rref [slc b.1,slc b.2] 0,.int .i64 v,slc t]=uT (qq5 b v t):=by
 have hcall:∀r,q1j prog Ev.A H LIM 20 F.q25 [.rref [slc b.1,slc b.2] 0,.int .i64 v,slc t]=uT r->LIM F.q25 [.rref [slc b.1,slc b.2] 0,.int .i64 v,slc t]=uT r:=fun r h=>by
  cases r with
  |inl x=>exact q0q rfl _ h
  |inr x=>exact q0q rfl _ h
 have hbl:=hb.le;have hlen:=hb.mb.len;have htl:=ht.le;have hone:=qt3 (l:=l) hv ht;have hbo:=hone.ok (by omega);refine hcall _ ((q25.ev _ _ _ _ _).trans ?_);have hc:=(q1t t (-1-v) (by omega)).eq;have hi:=(q5e b.1 (by omega)).eq;unfold qq5;by_cases hm : -1-v∈t
 ·have h0:((t.count (-1-v):Nat):Int)>0:=by have:=List.count_pos_iff.2 hm;omega
  rw[if_pos hm];simp only[evz,Nat.reduceLT,q2y (x := -1-v) (by omega),hc,h0];rfl
 have h0:¬((t.count (-1-v):Nat):Int)>0:=by rw[List.count_eq_zero.2 hm];omega
 rw[if_neg hm];simp only[evz,Nat.reduceLT,q2y (x := -1-v) (by omega),hc,h0,hi]
 have loop:∀n k f,k+n=b.2.length->n<f->(∀x∈b.2.take k,(q02 [v] [t] x).length<=24)->
  q25.at0 20 f (q25.st0 (cells b.1) (cells b.2) v (cells t) (k:Nat) [.int .i64 v] [slc t] (cells b.1) (cells ((b.2.take k).map (q02 [v] [t]))))=
   if((b.2.drop k).any fun x=>decide (24<(q02 [v] [t] x).length))=true then uT (.inr 2)else uT (.inl (bput (b.1,b.2.map (q02 [v] [t])) v t)):=by
  intro n;induction n with
  |zero=>
   intro k f hk hf hq;obtain⟨f,rfl⟩:∃x,f=x+1:=⟨f-1,by omega⟩;obtain rfl:k=b.2.length:=by omega
   rw[List.take_length]at hq ⊢;rw[gU (gAI _)]
   have hw:=(q1u b.1 (b.2.map (q02 [v] [t])) v t (by simp;omega) (by omega) (by omega) hnb (fun x hx=>by
    obtain⟨y,hy,rfl⟩:=List.mem_map.1 hx;have:=hq y hy;omega)).eq
   simp only[q25.next0,q25.round0,evz,Nat.reduceLT,gAK,hw,List.any_nil,Bool.false_eq_true,if_false];rfl
  |succ n ih=>
   intro k f hk hf hq;obtain⟨f,rfl⟩:∃x,f=x+1:=⟨f-1,by omega⟩;have hkl:k<b.2.length:=by omega
   have hto:=hb.mb.tm _ (gG hkl);have htol:=hto.le;have happ:LIM F.q1b [.rref [.sl 1 [.int .i64 v],.sl 1 [slc t]] 0,slc b.2[k]]=some (slc (q02 [v] [t] b.2[k]),[]):=(q1b [v] [t] hbo b.2[k] (by omega) (hto.range ok)).eq;have hg:b.2[k]?=some b.2[k]:=gA hkl;have he:∀x:List Int,(enc x)[0]?=some (slc x):=fun _=>rfl;rw[gH hkl,List.any_cons];have e1:(b.2.take (k+1)).map (q02 [v] [t])=(b.2.take k).map (q02 [v] [t])++[q02 [v] [t] b.2[k]]:=by rw[<- gAP hkl,List.map_append];rfl
   by_cases h24:24<(q02 [v] [t] b.2[k]).length
   ·have h24':((q02 [v] [t] b.2[k]).length:Int)>24:=by omega
    simp only[q25.next0,q25.round0,evz,Nat.reduceLT,hkl,hg,he,happ,h24',h24,Bool.true_or];rfl
   ·have h24':¬((q02 [v] [t] b.2[k]).length:Int)>24:=by omega
    simp only[q25.next0,q25.round0,evz,Nat.reduceLT,hkl,hg,he,happ,h24',h24,Bool.false_or];rw[q0k (by omega),q1o (q41 (by rw[q0m,show Enc.sz (List Int)=1 from rfl];simp;omega))]
    have:=ih (k+1) f (by omega) (by omega) (fun x hx=>by
     rw[<- gAP hkl]at hx;rcases gO.1 hx with hx|hx
     ·exact hq x hx
     ·rw[gD.1 hx];omega)
    rw[e1,q2s]at this;exact this
 have:=loop b.2.length 0 20 (by omega) (by omega) (by simp);rw[List.take_zero,List.map_nil,List.drop_zero]at this;refine this.trans ?_;unfold q5g;by_cases h:(b.2.any fun x=>decide (24<(q02 [v] [t] x).length))=true
 ·rw[if_pos h,if_pos h]
 ·rw[if_neg h,if_neg h]
theorem q2p{x y:List Int}(hx:TermOk l x)(hy:TermOk l y)(h0:0<=x.getD 0 0)(he:x.getD 0 0=y.getD 0 0):Call F.q2p [.rref [slc l] 0,slc x,slc y] (slc (q6u l x y)):=by
 have hlx:=hx.le;have hly:=hy.le;have hxp:=hx.pos;have hyp:=hy.pos;have hdx:x.getD 0 0=x[0]:=q6v (by omega);have hdy:y.getD 0 0=y[0]:=q6v (by omega);have har:=qon (l:=l) ok x[0];have hnode:=q4j.1 (hx.node _ (gG (n:=0) (by omega)));have hls:l.length<=6:=ok.le;obtain⟨u,hu⟩:∃u:Nat,x[0]=u:=⟨x[0].toNat,by omega⟩;have hul:u<l.length:=by omega
 have hare:(l[u]).arity=(ar l x[0]:Nat):=by
  have:=qru ok (n:=x[0]) (by omega) (by rw[hu];simpa using hul);simpa[hu]using this
 have hin:inB (0:Int) x.length=true:=(q61 0 _).trans (by simp;omega);have hx0:=qa0 hx;rw[hdx,hu]at hx0;have hlu:l[u]?=some l[u]:=gA hul;refine q0q rfl 4 ((q2p.ev _ _ _ _).trans ?_)
 have loop:∀n k q r f (out:List Pr) rx ry,k+n=ar l x[0]->n<f->skip (ar l) n (x.drop q)=some rx->skip (ar l) n (y.drop r)=some ry->out.length=k->
  q2p.at0 4 f (q2p.st0 (cells l) (cells x) (cells y) (q:Nat) (r:Nat) (k:Nat) (cells out))=
   some (slc (out++((q5i l x n q).zip (q5i l y n r)).map fun p=>(⟨q1i l x p.1,q1i l y p.2⟩:Pr)),[]):=by
  intro n;induction n with
  |zero=>
   intro k q r f out rx ry hk hf h1 h2 ho;obtain⟨f,rfl⟩:∃x,f=x+1:=⟨f-1,by omega⟩;have:¬ k<ar l x[0]:=by omega
   rw[hu]at this;simp only[q2p.next0,q2p.round0,evz,Nat.reduceLT,hin,hx0,hlu,hul,q33,hare,q5i,List.zip_nil_left,List.map_nil,gAD,hu,this]
  |succ n ih=>
   intro k q r f out rx ry hk hf h1 h2 ho;obtain⟨f,rfl⟩:∃x,f=x+1:=⟨f-1,by omega⟩;obtain⟨a1,a2,a3,a4⟩:=qbr h1;obtain⟨b1,b2,b3,b4⟩:=qbr h2;have hlt:k<ar l x[0]:=by omega
   rw[hu]at hlt;have sx:=(q6g ok hx a1).eq;have sy:=(q6g ok hy b1).eq;have ex:q+(q1i l x q).length=q3v l x q:=by unfold q1i;simp;omega
   have ey:r+(q1i l y r).length=q3v l y r:=by unfold q1i;simp;omega
   have ic:=ih (k+1) (q3v l x q) (q3v l y r) f (out++[⟨q1i l x q,q1i l y r⟩]) rx ry (by omega) (by omega) a2 b2 (by simp[ho]);simp only[q2p.next0,q2p.round0,evz,Nat.reduceLT,hin,hx0,hlu,hul,q33,hare,hu,hlt,sx,sy];rw[q2y (x:=(q:Int)+_) (by omega),q2y (x:=(r:Int)+_) (by omega),q0k (by omega),q1o (q41 (by rw[q0m,q49];omega))];rw[show(q:Int)+((q1i l x q).length:Nat)=(q3v l x q:Nat) by omega,show(r:Int)+((q1i l y r).length:Nat)=(q3v l y r:Nat) by omega];rw[q2s]at ic;refine Eq.trans ?_ (ic.trans ?_)
   ·rfl
   ·rw[q5i,q5i,List.zip_cons_cons,List.map_cons,gZ];rfl
 obtain⟨rx,hrx⟩:=qa7 hx (p:=0) (by omega);obtain⟨ry,hry⟩:=qa7 hy (p:=0) (by omega);have hay:ar l y[0]=ar l x[0]:=by rw[<- hdx,<- hdy,he]
 rw[hay]at hry;have:=loop (ar l x[0]) 0 1 1 4 [] rx ry (by omega) (by omega) hrx hry rfl;unfold q6u q34;rw[hdx,hdy,hay];exact this
theorem q1l{a b:List Int}(ha:TermOk l a)(hb:TermOk l b):LIM F.q1l [.rref [slc l] 0,slc a,slc b]=uT (qes l a b):=by
 obtain⟨⟨n,hn⟩,_⟩:=q8x ha hb;have hal:=ha.le;have hbl:=hb.le
 have hcall:∀r,q1j prog Ev.A H LIM (n+20) F.q1l [.rref [slc l] 0,slc a,slc b]=uT r->LIM F.q1l [.rref [slc l] 0,slc a,slc b]=uT r:=fun r h=>by
  cases r with
  |inl x=>exact q0q rfl _ h
  |inr x=>exact q0q rfl _ h
 refine hcall _ ((q1l.ev _ _ _ _).trans ?_);have i1:=(q5e a (by omega)).eq;have i2:=(q5e b (by omega)).eq;simp only[evz,Nat.reduceLT,i1,i2]
 have loop:=qik (l:=l) (S:=fun f (b:Bnd) (ps:List Pr)=>q1l.at0 (n+20) f (q1l.st0 (cells l) (cells ps) (cells b.1) (cells b.2))) (out:=uT)
  (fun f b=>by
   simp only[q1l.next0,q1l.round0,qf0,List.length_nil];rfl)
  (fun f b p ps hb h1 h2 hps hl=>?_) n (n+20) ([],[]) [⟨a,b⟩] _ (by omega) (UB.nil l) (fun p hp=>by rw[gD.1 hp];exact⟨ha,hb⟩) ⟨[],_,rfl,by simp[q8i],by simp⟩ hn
 ·exact loop
 ·have hbo:=hb.mb.ok (by omega);have hl1:=h1.le;have hl2:=h2.le;have a1:=(q1b b.1 b.2 hbo p.left (by omega) (h1.range ok)).eq;have a2:=(q1b b.1 b.2 hbo p.right (by omega) (h2.range ok)).eq;have g0:(cells (p::ps))[0]?=some (slc p.left):=rfl;have g1:(cells (p::ps))[1]?=some (slc p.right):=rfl;have hpl:((p::ps).length:Int)>0:=by simp
  have hin:inB (0:Int) (p::ps).length=true:=(q61 0 _).trans (by simp);have hfx:=hb.applied_free p.left;have hfy:=hb.applied_free p.right;have hox:=fun h=>hb.applied_ok h1 h;have hoy:=fun h=>hb.applied_ok h2 h;have hhx:=fun h h'=>hb.head_var (hox h) h';have hhy:=fun h h'=>hb.head_var (hoy h) h';have hb1:decide (0<=(1:Int))=true:=rfl;have hb2:(1:Int)<=((p::ps).length:Int):=by simp only[gAB];omega
  have hlx:=q7e hbo p.left;have hly:=q7e hbo p.right;obtain⟨Z,hZ⟩:∃Z,Z=qmp l b p ps uT (fun(b:Bnd)(ps:List Pr)=>q1l.at0 (n+20) f (q1l.st0 (cells l) (cells ps) (cells b.1) (cells b.2))):=⟨_,rfl⟩;show _=qmp l b p ps uT (fun(b:Bnd)(ps:List Pr)=>q1l.at0 (n+20) f (q1l.st0 (cells l) (cells ps) (cells b.1) (cells b.2)));rw[<- hZ];unfold qmp at hZ;simp only[q1l.next0,q1l.round0,evz,Nat.reduceLT,hpl,hin,g0,g1,a1,a2,hb1,hb2,Int.le_refl,Bool.and_self,qjf];generalize q02 b.1 b.2 p.left=x at *;generalize q02 b.1 b.2 p.right=y at *;by_cases c1:24<x.length
  ·have c1':(x.length:Int)>24:=by omega
   rw[if_pos (.inl c1)]at hZ;simp only[c1',evz,Nat.reduceLT];rw[hZ];rfl
  by_cases c1b:24<y.length
  ·have c1':¬(x.length:Int)>24:=by omega
   have c1b':(y.length:Int)>24:=by omega
   rw[if_pos (.inr c1b)]at hZ;simp only[c1',c1b',evz,Nat.reduceLT];rw[hZ];rfl
  have c1':¬(x.length:Int)>24:=by omega
  have c1b':¬(y.length:Int)>24:=by omega
  have hx:=hox (by omega);have hy:=hoy (by omega);have hxp:=hx.pos;have hyp:=hy.pos;have heq:=(q20 x y ⟨by omega,fun _ _=>trivial⟩).eq;rw[if_neg (by omega)]at hZ;by_cases c2:x=y
  ·rw[if_pos c2]at hZ;rw[decide_eq_true c2]at heq;simp only[c1',c1b',evz,Nat.reduceLT,heq];rw[hZ]
  rw[if_neg c2]at hZ;rw[decide_eq_false c2]at heq;have x0:=qa0 hx;have y0:=qa0 hy;have inx:inB (0:Int) x.length=true:=(q61 0 _).trans (by simp;omega);have iny:inB (0:Int) y.length=true:=(q61 0 _).trans (by simp;omega);by_cases c3:x.getD 0 0<0
  ·obtain⟨hv,hnb⟩:=hhx (by omega) c3;have h5:=q25 ok hb hv hnb hy;unfold qq5 at h5;rw[show -1-(-1-x.getD 0 0)=x.getD 0 0 by omega]at h5;rw[if_pos c3]at hZ;by_cases c4:x.getD 0 0∈y
   ·rw[if_pos c4]at hZ h5;simp only[c1',c1b',evz,Nat.reduceLT,heq,inx,x0,c3,q2y (x := -1-x.getD 0 0) (by omega),h5];rw[hZ];rfl
   ·rw[if_neg c4]at hZ h5;simp only[c1',c1b',evz,Nat.reduceLT,heq,inx,x0,c3,q2y (x := -1-x.getD 0 0) (by omega),h5];rw[hZ];cases q5g b (-1-x.getD 0 0) y with
    |none=>rfl
    |some b'=>rfl
  rw[if_neg c3]at hZ;by_cases c5:y.getD 0 0<0
  ·obtain⟨hv,hnb⟩:=hhy (by omega) c5;have h5:=q25 ok hb hv hnb hx;unfold qq5 at h5;rw[show -1-(-1-y.getD 0 0)=y.getD 0 0 by omega]at h5;rw[if_pos c5]at hZ;by_cases c4:y.getD 0 0∈x
   ·rw[if_pos c4]at hZ h5;simp only[c1',c1b',evz,Nat.reduceLT,heq,inx,iny,x0,y0,c3,c5,q2y (x := -1-y.getD 0 0) (by omega),h5];rw[hZ];rfl
   ·rw[if_neg c4]at hZ h5;simp only[c1',c1b',evz,Nat.reduceLT,heq,inx,iny,x0,y0,c3,c5,q2y (x := -1-y.getD 0 0) (by omega),h5];rw[hZ];cases q5g b (-1-y.getD 0 0) x with
    |none=>rfl
    |some b'=>rfl
  rw[if_neg c5]at hZ;by_cases c6:x.getD 0 0=y.getD 0 0
  ·rw[if_neg (by simpa using c6)]at hZ;have h3:=(q2p ok hx hy (by omega) c6).eq
   have hal:(q6u l x y).length<=2:=by
    have:=qb1 ok x 0;unfold q6u;rw[gAG,List.length_zip];omega
   rw[c6]at x0 c3;simp only[c1',c1b',evz,Nat.reduceLT,heq,inx,iny,x0,y0,c3,c5,eq_self,h3];rw[q1o (q41 (by rw[q0m,q0m,q49];omega)),<- q2s];rw[hZ]
  ·rw[if_pos c6]at hZ;simp only[c1',c1b',evz,Nat.reduceLT,heq,inx,iny,x0,y0,c3,c5,c6];rw[hZ];rfl
end
theorem q5p(t:List Int)(b:Int):(q4b t b).length=t.length:=by simp[q4b]
theorem qh5{t:List Int}{b:Int}{k:Nat}(h:k<t.length):q4b (t.take (k+1)) b=q4b (t.take k) b++[if t[k]<0 then t[k]-b else t[k]]:=by
 rw[<- gAP h];unfold q4b;rw[List.map_append];rfl
theorem q22(t:List Int)(ht:t.length<=4096)(hr:∀n∈t,-4611686018427387904<=n):Call F.q22 [slc t,.int .i64 6] (slc (q4b t 6)):=by
 refine q0q rfl (t.length+1) ((q22.ev _ _ _).trans ?_);simp only[evz,Nat.reduceLT,(q2v t (by omega)).eq]
 have key:=q9p (n:=t.length) (f:=t.length+1) (S:=fun m k (o:List Int)=>q22.at0 (t.length+1) m (q22.st0 6 t.length (k:Nat) (cells o)))
  (st:=fun k=>q4b (t.take k) 6++t.drop k) (z:=some (slc (q4b t 6),[])) (fun m k h=>?_) (fun m=>?_) (by omega)
 ·exact key
 ·have hn:=hr t[k] (gG h)
  have e1:q4b (t.take (k+1)) 6++t.drop (k+1)=(q4b (t.take k) 6++t.drop k).set k (if t[k]<0 then t[k]-6 else t[k]):=by
   rw[qh5 h,List.set_append_right _ _ (by rw[q5p];simp;omega),gH h];rw[show k-(q4b (t.take k) 6).length=0 by rw[q5p];simp;omega,List.set_cons_zero];simp
  obtain⟨M,hM⟩:∃M,M=q4b (t.take k) 6++t.drop k:=⟨_,rfl⟩;have hMl:M.length=t.length:=by rw[hM];simp[q5p];omega
  have hMk:M[k]?=some t[k]:=by
   rw[hM,List.getElem?_append_right (by rw[q5p];simp;omega)];simp[q5p,Nat.min_eq_left (Nat.le_of_lt h),gA h]
  rw[e1,<- hM];have hkM:k<M.length:=by omega
  have hkc:k*1+1<=(cells M).length:=by rw[q0m,q3o];omega
  simp only[q22.next0,q22.round0,evz,Nat.reduceLT,h,hMk,hkM,q1r];by_cases hneg:t[k]<0
  ·rw[q2y (x:=t[k]-6) (by omega)];have:=qaa hkM (t[k]-6);simp only[hneg,evz,Nat.reduceLT,this,hkc];rw[q0k (by omega)]
  ·have hs:M.set k t[k]=M:=qgq hMk;simp only[hneg,evz,Nat.reduceLT,hs];rw[q0k (by omega)]
 ·rw[List.take_length,gU (gAI _),gAD];simp only[q22.next0,q22.round0,evz,Nat.reduceLT,gAK]
theorem q23(t:List Int)(ht:t.length<=4096)(hr:∀n∈t,-4611686018427387904<=n):Call F.q23 [slc t,.int .i64 6] (slc (q4b t 6)):=by
 refine q0q rfl (t.length+1) ((q23.ev _ _ _).trans ?_)
 have key:=q9p (n:=t.length) (f:=t.length+1) (S:=fun m k (o:List Int)=>q23.at0 (t.length+1) m (q23.st0 (cells t) 6 (k:Nat) (cells o)))
  (st:=fun k=>q4b (t.take k) 6) (z:=some (slc (q4b t 6),[])) (fun m k h=>?_) (fun m=>?_) (by omega)
 ·exact key
 ·have hn:=hr t[k] (gG h);have hlk:t[k]?=some t[k]:=gA h;have hb:Nat.ble (((cells (q4b (t.take k) 6)).length+1)*8) (140737488355328*1)=true:=q41 (by rw[q0m,q3o,q5p];simp;omega);rw[qh5 h];simp only[q23.next0,q23.round0,evz,Nat.reduceLT,h,hlk,q1r];by_cases hneg:t[k]<0
  ·rw[q2y (x:=t[k]-6) (by omega)];simp only[hneg,evz,Nat.reduceLT,q2w];rw[q0k (by omega),q1o hb]
  ·simp only[hneg,evz,Nat.reduceLT,q2w];rw[q0k (by omega),q1o hb]
 ·rw[List.take_length];simp only[q23.next0,q23.round0,evz,Nat.reduceLT,gAK]
theorem qa4{s:List Int}{n:Int}:idx (fun x=>decide (x=n)) s<0<->n∉s:=by
 rcases q6s (fun x:Int=>decide (x=n)) s with⟨h1,h2⟩|⟨i,hi,h1,h2,_⟩
 ·exact⟨fun _ hm=>by have:=h2 n hm;simp at this,fun _=>by omega⟩
 ·exact⟨fun h=>by omega,fun h=>absurd ((show s[i]=n by simpa using h2)▸gG hi) h⟩
theorem qkd{s:List Int}{n:Int}(h:n∉s):idx (fun x=>decide (x=n)) (s++[n])=s.length:=by
 unfold idx
 have:(s++[n]).findIdx? (fun x=>decide (x=n))=some s.length:=by
  rw[List.findIdx?_append]
  have h0:s.findIdx? (fun x=>decide (x=n))=none:=by
   rw[List.findIdx?_eq_none_iff];intro x hx;have:x≠n:=fun e=>h (e▸hx);simpa using this
  rw[h0];simp[List.findIdx?_cons]
 rw[this]
theorem qi2(s:List Int)(n:Int) : -1<=idx (fun x=>decide (x=n)) s/\idx (fun x=>decide (x=n)) s<s.length+1:=by
 rcases q6s (fun x:Int=>decide (x=n)) s with⟨h1,_⟩|⟨i,hi,h1,_,_⟩ <;> omega
def plSt(seen t:List Int)(k:Nat):List Int×List Int:=((q2t seen (t.take k)).1++t.drop k,(q2t seen (t.take k)).2)
theorem qkf(seen t:List Int){k:Nat}(hk:k<=t.length):(plSt seen t k).1.length=t.length:=by
 have:=(q43 seen (t.take k)).1;unfold plSt;simp only[gM,this];simp;omega
theorem qgo(seen t:List Int){k:Nat}(h:k<t.length):(plSt seen t k).1[k]?=some t[k]:=by
 have hl:=(q43 seen (t.take k)).1;rw[gAF,Nat.min_eq_left (Nat.le_of_lt h)]at hl;unfold plSt;simp only;rw[List.getElem?_append_right (by omega),hl,Nat.sub_self,gH h];rfl
theorem qim(seen t:List Int)(k:Nat):(plSt seen t k).2.length<=seen.length+k:=by
 have:=(q43 seen (t.take k)).2.1;unfold plSt;simp at this ⊢;omega
theorem qha(seen t:List Int){k:Nat}(h:k<t.length):plSt seen t (k+1)=((plSt seen t k).1.set k (q94 (plSt seen t k).2 t[k]).1,(q94 (plSt seen t k).2 t[k]).2):=by
 have hl:=(q43 seen (t.take k)).1;rw[gAF,Nat.min_eq_left (Nat.le_of_lt h)]at hl;unfold plSt;simp only;rw[<- gAP h,qbo,List.set_append_right _ _ (by omega),hl,Nat.sub_self,gH h,List.set_cons_zero];simp[q2t]
theorem qhd(seen t:List Int):plSt seen t 0=(t,seen):=by simp[plSt,q2t]
theorem qkj(seen t:List Int):plSt seen t t.length=q2t seen t:=by simp[plSt]
theorem qkr(seen t:List Int){k:Nat}(h:k<t.length)(h0:0<=t[k]):plSt seen t (k+1)=plSt seen t k:=by
 have e:=qha seen t h;have:q94 (plSt seen t k).2 t[k]=(t[k],(plSt seen t k).2):=by unfold q94;rw[if_pos h0]
 rw[e,this,qgq (qgo seen t h)]
theorem qkc(seen t:List Int){k:Nat}(h:k<t.length)(h0:¬ 0<=t[k])(hn:t[k]∉(plSt seen t k).2) :
 plSt seen t (k+1)=((plSt seen t k).1.set k (-1-((plSt seen t k).2.length:Int)),(plSt seen t k).2++[t[k]]):=by
 rw[qha seen t h];unfold q94;rw[if_neg h0,if_pos (qa4.2 hn)]
theorem qkw(seen t:List Int){k:Nat}(h:k<t.length)(h0:¬ 0<=t[k])(hn:t[k]∈(plSt seen t k).2) :
 plSt seen t (k+1)=((plSt seen t k).1.set k (-1-idx (fun x=>decide (x=t[k])) (plSt seen t k).2),(plSt seen t k).2):=by
 rw[qha seen t h];unfold q94;rw[if_neg h0,if_neg (fun e=>qa4.1 e hn)]
theorem qp7(seen t r:List Int)(hs:seen.length<=4096)(ht:t.length<=4096){N:Nat}(hN:t.length<N)(L0:St->R) :
 q0c.at2 N L0 N (q0c.st2 2 (0:Nat) t.length (0:Nat) (cells seen) (cells t) (cells r))=L0 (q0c.st0 2 (1:Nat) (cells (q2t seen t).2) (cells (q2t seen t).1) (cells r)):=by
 have key:=q9p (n:=t.length) (f:=N) (S:=fun m k (o:List Int×List Int)=>q0c.at2 N L0 m (q0c.st2 2 (0:Nat) t.length (k:Nat) (cells o.2) (cells o.1) (cells r)))
  (st:=fun k=>plSt seen t k) (z:=L0 (q0c.st0 2 (1:Nat) (cells (q2t seen t).2) (cells (q2t seen t).1) (cells r))) (fun m k h=>?_) (fun m=>?_) (by omega)
 ·rw[qhd]at key;exact key
 ·have hl:=qkf seen t (Nat.le_of_lt h);have hg:=qgo seen t h;have hsl:=qim seen t k;have hp:=qkr seen t h;have hnw:=qkc seen t h;have hod:=qkw seen t h;generalize plSt seen t (k+1)=P at *;generalize plSt seen t k=Q at *;obtain⟨M,s⟩:=Q;simp only at hl hg hsl hp hnw hod;have hkM:k<M.length:=by omega
  have hkc:k*1+1<=(cells M).length:=by rw[q0m,q3o];omega
  have hct:=(q1h s t[k] (by omega)).eq;have hix:=(q0d s t[k] (by omega)).eq;have hix':=(q0d (s++[t[k]]) t[k] (by simp;omega)).eq;have hrg:=qi2 s t[k];by_cases h0:0<=t[k]
  ·have h0':t[k]>=0:=h0;rw[hp h0];simp only[q0c.next2,q0c.round2,evz,Nat.reduceLT,h,hg,hkM,q1r,h0'];rw[q0k (by omega)]
  ·have h0':¬ t[k]>=0:=h0;by_cases hm:t[k]∈s
   ·rw[hod h0 hm];rw[decide_eq_true hm]at hct;have:=qaa hkM (-1-idx (fun x=>decide (x=t[k])) s);simp only[q0c.next2,q0c.round2,evz,Nat.reduceLT,h,hg,hkM,q1r,h0',hct,hix,q2y (x := -1-idx (fun x=>decide (x=t[k])) s) (by omega),this,hkc];rw[q0k (by omega)]
   ·rw[hnw h0 hm];rw[decide_eq_false hm]at hct;rw[qkd hm]at hix';have:=qaa hkM (-1-(s.length:Int));simp only[q0c.next2,q0c.round2,evz,Nat.reduceLT,h,hg,hkM,q1r,h0',hct,q2w,hix',q2y (x := -1-(s.length:Int)) (by omega),this,hkc];rw[q0k (by omega),q1o (q41 (by rw[q0m,q3o];omega))]
 ·rw[qkj];simp only[q0c.next2,q0c.round2,evz,Nat.reduceLT,gAK];rw[q0k (by omega)]
theorem qot(seen t r:List Int)(hs:seen.length<=4096)(ht:t.length<=4096){N:Nat}(hN:t.length<N)(L0:St->R) :
 q0c.at1002 N L0 N (q0c.st1002 2 (1:Nat) t.length (0:Nat) (cells seen) (cells r) (cells t))=L0 (q0c.st0 2 (2:Nat) (cells (q2t seen t).2) (cells r) (cells (q2t seen t).1)):=by
 have key:=q9p (n:=t.length) (f:=N) (S:=fun m k (o:List Int×List Int)=>q0c.at1002 N L0 m (q0c.st1002 2 (1:Nat) t.length (k:Nat) (cells o.2) (cells r) (cells o.1)))
  (st:=fun k=>plSt seen t k) (z:=L0 (q0c.st0 2 (2:Nat) (cells (q2t seen t).2) (cells r) (cells (q2t seen t).1))) (fun m k h=>?_) (fun m=>?_) (by omega)
 ·rw[qhd]at key;exact key
 ·have hl:=qkf seen t (Nat.le_of_lt h);have hg:=qgo seen t h;have hsl:=qim seen t k;have hp:=qkr seen t h;have hnw:=qkc seen t h;have hod:=qkw seen t h;generalize plSt seen t (k+1)=P at *;generalize plSt seen t k=Q at *;obtain⟨M,s⟩:=Q;simp only at hl hg hsl hp hnw hod;have hkM:k<M.length:=by omega
  have hkc:k*1+1<=(cells M).length:=by rw[q0m,q3o];omega
  have hct:=(q1h s t[k] (by omega)).eq;have hix:=(q0d s t[k] (by omega)).eq;have hix':=(q0d (s++[t[k]]) t[k] (by simp;omega)).eq;have hrg:=qi2 s t[k];by_cases h0:0<=t[k]
  ·have h0':t[k]>=0:=h0;rw[hp h0];simp only[q0c.next1002,q0c.round1002,evz,Nat.reduceLT,h,hg,hkM,q1r,h0'];rw[q0k (by omega)]
  ·have h0':¬ t[k]>=0:=h0;by_cases hm:t[k]∈s
   ·rw[hod h0 hm];rw[decide_eq_true hm]at hct;have:=qaa hkM (-1-idx (fun x=>decide (x=t[k])) s);simp only[q0c.next1002,q0c.round1002,evz,Nat.reduceLT,h,hg,hkM,q1r,h0',hct,hix,q2y (x := -1-idx (fun x=>decide (x=t[k])) s) (by omega),this,hkc];rw[q0k (by omega)]
   ·rw[hnw h0 hm];rw[decide_eq_false hm]at hct;rw[qkd hm]at hix';have:=qaa hkM (-1-(s.length:Int));simp only[q0c.next1002,q0c.round1002,evz,Nat.reduceLT,h,hg,hkM,q1r,h0',hct,q2w,hix',q2y (x := -1-(s.length:Int)) (by omega),this,hkc];rw[q0k (by omega),q1o (q41 (by rw[q0m,q3o];omega))]
 ·rw[qkj];simp only[q0c.next1002,q0c.round1002,evz,Nat.reduceLT,gAK];rw[q0k (by omega)]
theorem qnl(a b:List Int)(ha:a.length<=1024){N:Nat}(hN:1100<=N)(f:Nat) :
 q0c.at0 N (f+1) (q0c.st0 2 (0:Int) [] (cells a) (cells b))=q0c.at0 N f (q0c.st0 2 (1:Nat) (cells (q2t [] a).2) (cells (q2t [] a).1) (cells b)):=by
 have h2:=qp7 [] a b (by simp) (by omega) (N:=N) (by omega) (q0c.at0 N f);rw[show((0:Nat):Int)=0 from rfl,qf0]at h2;rw[q0c.next0,q0c.round0];simp only[q53,q3o];rw[q1o (by decide),q1o (by decide),q1o (by decide)];exact h2
theorem qoj(seen a b:List Int)(hs:seen.length<=4096)(hb:b.length<=1024){N:Nat}(hN:1100<=N)(f:Nat) :
 q0c.at0 N (f+1) (q0c.st0 2 (1:Nat) (cells seen) (cells a) (cells b))=q0c.at0 N f (q0c.st0 2 (2:Nat) (cells (q2t seen b).2) (cells a) (cells (q2t seen b).1)):=by
 have h3:=qot seen b a hs (by omega) (N:=N) (by omega) (q0c.at0 N f);rw[show((0:Nat):Int)=0 from rfl]at h3;rw[q0c.next0,q0c.round0];simp only[q53,q3o];rw[q1o (by decide),q1o (by decide),qgg (by decide),q1o (by decide)];exact h3
theorem qoa(s a b:List Int){N:Nat}(f:Nat):q0c.at0 N (f+1) (q0c.st0 2 (2:Nat) (cells s) (cells a) (cells b))=some (.tup [.agg [slc a,slc b],.bool (decide (s.length<=6))],[]):=by
 rw[q0c.next0,q0c.round0];simp only[q53,q3o];rw[qgg (by decide),show decide (((s.length:Nat):Int)<=6)=decide (s.length<=6)from decide_eq_decide.2 (by omega)];rfl
theorem q0c(a b:List Int)(ha:a.length<=1024)(hb:b.length<=1024):Call F.q0c [.agg [slc a,slc b]] (.tup [.agg [slc (q9n ⟨a,b⟩).left,slc (q9n ⟨a,b⟩).right],.bool (decide ((qb5 ⟨a,b⟩).length<=6))]):=by
 obtain⟨m,hm⟩:∃m,1100<=m:=⟨1100,gAI _⟩;refine q0q rfl (m+1+1+1) ((q0c.ev _ _ _).trans ?_)
 have ho:Call F.q7q [.agg [slc a,slc b]] (.agg [slc a,slc b]):=by
  refine q0q rfl 0 ((q7q.ev _ _ _).trans ?_);simp only[evz,Nat.reduceLT,(q2v a (by omega)).eq,(q2v b (by omega)).eq]
 simp only[evz,Nat.reduceLT,ho.eq];have hs1:=(q43 [] a).2.1;have e0:=qnl a b ha (N:=m+1+1+1) (by omega) (m+1+1);have e1:=qoj (q2t [] a).2 (q2t [] a).1 b (by simp at hs1;omega) hb (N:=m+1+1+1) (by omega) (m+1);exact e0.trans (e1.trans (qoa _ _ _ m))
theorem q1p(a b:List Int)(ha:a.length<=1024)(hb:b.length<=1024):Call F.q1p [.rref [slc a,slc b] 0]
 (.tup [.agg [slc (if(qb5 ⟨a,b⟩).length<=6 then(q9n ⟨a,b⟩).left else[]),slc (if(qb5 ⟨a,b⟩).length<=6 then(q9n ⟨a,b⟩).right else[])],.bool (decide ((qb5 ⟨a,b⟩).length<=6))]):=by
 refine q0q rfl 3000 ((q1p.ev _ _ _).trans ?_);simp only[evz,Nat.reduceLT,(q5e a (by omega)).eq,q4t,<- q2s];rw[q1o (q41 (by rw[q0m,q0m,q3o];omega))];have htl:(a++b).length<=2048:=by simp;omega
 obtain⟨t,hte⟩:∃t,t=a++b:=⟨_,rfl⟩;rw[<- hte]at htl ⊢
 have key:=q9p (n:=t.length) (f:=3000) (S:=fun m k (o:List Int×List Int)=>q1p.at0 3000 m (q1p.st0 (cells a) (cells b) (k:Nat) (cells o.1) (cells o.2)))
  (st:=fun k=>plSt [] t k) (z:=some (.tup [.agg [slc (if(qb5 ⟨a,b⟩).length<=6 then(q9n ⟨a,b⟩).left else[]),slc (if(qb5 ⟨a,b⟩).length<=6 then(q9n ⟨a,b⟩).right else[])],.bool (decide ((qb5 ⟨a,b⟩).length<=6))],[])) (fun m k h=>?_) (fun m=>?_) (by omega)
 ·rw[qhd]at key;exact key
 ·have hl:=qkf [] t (Nat.le_of_lt h);have hg:=qgo [] t h;have hsl:=qim [] t k;have hp:=qkr [] t h;have hnw:=qkc [] t h;have hod:=qkw [] t h;generalize plSt [] t (k+1)=P at *;generalize plSt [] t k=Q at *;obtain⟨M,s⟩:=Q;simp only at hl hg hsl hp hnw hod;have hkM:k<M.length:=by omega
  have hkc:k*1+1<=(cells M).length:=by rw[q0m,q3o];omega
  have hix:=(q2b s t[k] (by simp at hsl;omega)).eq;unfold rank at hix;have hrg:=qi2 s t[k];have hsl':s.length<=2048:=by simp at hsl;omega
  by_cases h0:0<=t[k]
  ·have h0':t[k]>=0:=h0;rw[hp h0];simp only[q1p.next0,q1p.round0,evz,Nat.reduceLT,h,hg,hkM,q1r,h0'];rw[q0k (by omega)]
  ·have h0':¬ t[k]>=0:=h0;by_cases hm:t[k]∈s
   ·rw[hod h0 hm];have:=qaa hkM (-1-idx (fun x=>decide (x=t[k])) s);have hi:¬ idx (fun x=>decide (x=t[k])) s<0:=fun e=>qa4.1 e hm;simp only[q1p.next0,q1p.round0,evz,Nat.reduceLT,h,hg,hkM,q1r,h0',hix,hi,q2y (x := -1-idx (fun x=>decide (x=t[k])) s) (by omega),this,hkc];rw[q0k (by omega)]
   ·rw[hnw h0 hm];have:=qaa hkM (-1-(s.length:Int));have hi:idx (fun x=>decide (x=t[k])) s<0:=qa4.2 hm;simp only[q1p.next0,q1p.round0,evz,Nat.reduceLT,h,hg,hkM,q1r,h0',hix,hi,q2w,q2y (x := -1-(s.length:Int)) (by omega),this,hkc];rw[q0k (by omega),q1o (q41 (by rw[q0m,q3o];omega))]
 ·rw[qkj,hte,qbo];have hl1:=(q43 [] a).1;have hl2:=(q43 (q2t [] a).2 b).1;have es:qb5 ⟨a,b⟩=(q2t (q2t [] a).2 b).2:=rfl;simp only[q1p.next0,q1p.round0,evz,Nat.reduceLT,gM,hl1,hl2,gAK,es];by_cases h6:(q2t (q2t [] a).2 b).2.length<=6
  ·have h6':¬(((q2t (q2t [] a).2 b).2.length:Nat):Int)>6:=by omega
   have c1:((((q2t [] a).1++(q2t (q2t [] a).2 b).1).take a.length).drop 0)=(q2t [] a).1:=by rw[List.drop_zero,<- hl1,List.take_left]
   have c2:((((q2t [] a).1++(q2t (q2t [] a).2 b).1).take (a.length+b.length)).drop a.length)=(q2t (q2t [] a).2 b).1:=by
    rw[List.take_of_length_le (by rw[gM];omega),<- hl1,List.drop_left]
   simp only[h6,h6',evz,Nat.reduceLT];rw[q1o (by simp;omega),qbi,c1,(q5e _ (by omega)).eq];simp only[evz,Nat.reduceLT];rw[q1o (by simp;omega),qbi,c2,(q5e _ (by omega)).eq];simp only[evz,Nat.reduceLT];rfl
  ·have h6':(((q2t (q2t [] a).2 b).2.length:Nat):Int)>6:=by omega
   simp only[h6,h6',evz,Nat.reduceLT,q65]
theorem qcn{l:List Symbol}:∀{n:Nat}{b:Bnd}{ps:List Pr}{c:Int},unif l n b ps=some (.inr c)->c=2\/c=4
 |0,b,ps,c,h=>by cases h
 |n+1,b,[],c,h=>by cases h
 |n+1,b,p::ps,c,h=>by
  rw[unif]at h;split at h
  ·cases h;exact .inl rfl
  split at h
  ·exact qcn h
  split at h
  ·split at h
   ·cases h;exact .inr rfl
   split at h
   ·cases h;exact .inl rfl
   ·exact qcn h
  split at h
  ·split at h
   ·cases h;exact .inr rfl
   split at h
   ·cases h;exact .inl rfl
   ·exact qcn h
  split at h
  ·cases h;exact .inr rfl
  ·exact qcn h
theorem qfk{l:List Symbol}{a b:List Int}(ha:TermOk l a)(hb:TermOk l b){c:Int}(h:qes l a b=.inr c):c=2\/c=4:=by
 obtain⟨⟨n,hn⟩,_⟩:=q8x ha hb;rw[h]at hn;exact qcn hn
theorem qg5{l:List Symbol}(ok:SigOk ⟨l⟩){t u:List Int}(ht:TermOk l t)(hu:TermOk l u)(p:Nat):∀n∈q42 l t p u,-4611686018427387904<=n/\n<=4611686018427387904:=fun n hn=>by
 unfold q42 at hn;rcases gO.1 hn with hn|hn
 ·rcases gO.1 hn with hn|hn
  ·exact ht.range ok n (List.mem_of_mem_take hn)
  ·exact hu.range ok n hn
 ·exact ht.range ok n (List.mem_of_mem_drop hn)
section
variable {l:List Symbol}(ok:SigOk ⟨l⟩)
include ok
theorem q81{o i:Equation}(ho:EqOk l o)(hi:EqOk l i){p:Nat}(hp:p<o.left.length):Call F.q81 [.agg [slc l],.agg [slc o.left,slc o.right],.agg [slc i.left,slc i.right],.int .i64 p] (.agg (enc (q6l l o i p))):=by
 refine q0q rfl 0 ((q81.ev _ _ _ _ _ _ _).trans ?_);have l1:=ho.left.le;have l2:=ho.right.le;have l3:=hi.left.le;have l4:=hi.right.le;have s1:=(q22 i.left (by omega) (fun n hn=>(hi.left.range ok n hn).1)).eq;have s2:=(q22 i.right (by omega) (fun n hn=>(hi.right.range ok n hn).1)).eq;have o1:=qaj hi.left hi.lowL;have o2:=qaj hi.right hi.lowR;have os:=q6b ho.left hp;have hsub:=(q35 ok ho.left hp).eq;have hu:=q0g ok os o1;have hrp:=(q66 ok ho.left hp (q4b i.right 6) (by rw[q5p];omega)).eq;have hrl:=qeo (l:=l) (t:=o.left) (p:=p) (by_:=q4b i.right 6);rw[q5p]at hrl;simp only[evz,Nat.reduceLT,s1,s2,hsub,hu,q6l];have hsp:=q8x os o1;have hcd:=fun c=>qfk os o1 (c:=c);generalize qes l (q1i l o.left p) (q4b i.left 6)=u at *;cases u with
 |inr c=>
  have hc:¬ c=0:=by rcases hcd c rfl with h|h <;> omega
  simp only[uT,evz,Nat.reduceLT,hc,q3h,q65];rfl
 |inl b=>
  have hb:=hsp.2 b rfl;have hbl:=hb.le;have hbo:=hb.mb.ok (by omega);simp only[uT,evz,Nat.reduceLT,hrp];have hge:=q95 hb.mb (q42 l o.left p (q4b i.right 6));have a1:=(q0i b.1 b.2 hbo o.right (by omega) (ho.right.range ok)).eq;have a2:=(q0i b.1 b.2 hbo (q42 l o.left p (q4b i.right 6)) (by omega) (qg5 ok ho.left o2 p)).eq;generalize q42 l o.left p (q4b i.right 6)=w at *;generalize q02 b.1 b.2 o.right=x at *;generalize q02 b.1 b.2 w=y at *;by_cases c1:24<w.length
  ·have c1':(w.length:Int)>24:=by omega
   have c2:24<x.length\/24<y.length:=.inr (by omega);simp only[c1',c2,evz,Nat.reduceLT,q3h,q65]
  have c1':¬(w.length:Int)>24:=by omega
  simp only[c1',evz,Nat.reduceLT,a1,a2];by_cases c2:24<x.length
  ·have c2':(x.length:Int)>24:=by omega
   simp only[c2,c2',true_or,evz,Nat.reduceLT,q3h,q65]
  by_cases c3:24<y.length
  ·have c2':¬(x.length:Int)>24:=by omega
   have c3':(y.length:Int)>24:=by omega
   simp only[c3,c2',c3',or_true,evz,Nat.reduceLT,q3h,q65]
  have c2':¬(x.length:Int)>24:=by omega
  have c3':¬(y.length:Int)>24:=by omega
  have hpl:=(q0c x y (by omega) (by omega)).eq;simp only[c2,c3,c2',c3',or_self,evz,Nat.reduceLT,hpl];by_cases c4:(qb5 ⟨x,y⟩).length<=6
  ·have c4':¬ 6<(qb5 ⟨x,y⟩).length:=by omega
   simp only[c4,c4',evz,Nat.reduceLT,Bool.not_true,q3h]
  ·have c4':6<(qb5 ⟨x,y⟩).length:=by omega
   simp only[c4,c4',evz,Nat.reduceLT,Bool.not_false,q3h,q65]
theorem q77{o i:Equation}(ho:EqOk l o)(hi:EqOk l i){p:Nat}(hp:p<o.left.length):Call F.q77 [.rref [slc l] 0,.rref [slc o.left,slc o.right] 0,.rref [slc i.left,slc i.right] 0,.int .i64 p]
 (.tup [.agg [slc (q6l l o i p).equation.left,slc (q6l l o i p).equation.right],.int .i64 (q6l l o i p).code]):=by
 refine q0q rfl 0 ((q77.ev _ _ _ _ _ _ _).trans ?_);have l1:=ho.left.le;have l2:=ho.right.le;have l3:=hi.left.le;have l4:=hi.right.le;have s1:=(q23 i.left (by omega) (fun n hn=>(hi.left.range ok n hn).1)).eq;have s2:=(q23 i.right (by omega) (fun n hn=>(hi.right.range ok n hn).1)).eq;have o1:=qaj hi.left hi.lowL;have o2:=qaj hi.right hi.lowR;have os:=q6b ho.left hp;have hsub:=(q6g ok ho.left hp).eq;have hu:=q1l ok os o1;have hrp:=(q4v ok ho.left hp (q4b i.right 6) (by rw[q5p];omega)).eq;have hrl:=qeo (l:=l) (t:=o.left) (p:=p) (by_:=q4b i.right 6);rw[q5p]at hrl;simp only[evz,Nat.reduceLT,s1,s2,hsub,hu,q6l];have hsp:=q8x os o1;have hcd:=fun c=>qfk os o1 (c:=c);generalize qes l (q1i l o.left p) (q4b i.left 6)=u at *;cases u with
 |inr c=>
  have hc:¬ c=0:=by rcases hcd c rfl with h|h <;> omega
  simp only[uT,evz,Nat.reduceLT,hc,q3h,q65];rfl
 |inl b=>
  have hb:=hsp.2 b rfl;have hbl:=hb.le;have hbo:=hb.mb.ok (by omega);simp only[uT,evz,Nat.reduceLT,hrp];have hge:=q95 hb.mb (q42 l o.left p (q4b i.right 6));have a1:=(q1b b.1 b.2 hbo o.right (by omega) (ho.right.range ok)).eq;have a2:=(q1b b.1 b.2 hbo (q42 l o.left p (q4b i.right 6)) (by omega) (qg5 ok ho.left o2 p)).eq;generalize q42 l o.left p (q4b i.right 6)=w at *;generalize q02 b.1 b.2 o.right=x at *;generalize q02 b.1 b.2 w=y at *;simp only[evz,Nat.reduceLT,a1,a2];by_cases c2:24<x.length
  ·have c2':(x.length:Int)>24:=by omega
   simp only[c2,c2',true_or,evz,Nat.reduceLT,q3h,q65]
  by_cases c3:24<y.length
  ·have c2':¬(x.length:Int)>24:=by omega
   have c3':(y.length:Int)>24:=by omega
   simp only[c3,c2',c3',or_true,evz,Nat.reduceLT,q3h,q65]
  have c2':¬(x.length:Int)>24:=by omega
  have c3':¬(y.length:Int)>24:=by omega
  have hpl:=(q1p x y (by omega) (by omega)).eq;simp only[c2,c3,c2',c3',or_self,evz,Nat.reduceLT,hpl];by_cases c4:(qb5 ⟨x,y⟩).length<=6
  ·have c4':¬ 6<(qb5 ⟨x,y⟩).length:=by omega
   simp only[c4,c4',evz,Nat.reduceLT,Bool.not_true,q3h]
  ·have c4':6<(qb5 ⟨x,y⟩).length:=by omega
   simp only[c4,c4',evz,Nat.reduceLT,Bool.not_false,q3h,q65]
end
theorem quw{l:List Symbol}{o i:Equation}{p:Nat}:sm 67108864 (q6l l o i p):=by
 unfold q6l;split
 ·exact⟨⟨by simp,by simp⟩,⟨by simp,by simp⟩⟩
 split
 ·exact⟨⟨by simp,by simp⟩,⟨by simp,by simp⟩⟩
 split
 ·exact⟨⟨by simp,by simp⟩,⟨by simp,by simp⟩⟩
 ·rename_i b _ h _;refine⟨⟨?_,fun _ _=>trivial⟩,⟨?_,fun _ _=>trivial⟩⟩
  ·show(q2t _ _).1.length<=_;rw[(q43 _ _).1];show(q02 _ _ _).length<=_;omega
  ·show(q2t _ _).1.length<=_;rw[(q43 _ _).1];show(q02 _ _ _).length<=_;omega
noncomputable def q67(l:List Symbol)(o i:Equation)(same:Bool):Nat->Nat->List Nat ⊕ Int
 |0,_=>.inl []
 |n+1,k=>if o.left.getD k 0<0\/(same=true/\k=0)then q67 l o i same n (k+1)else if(q6l l o i k).code=4 then q67 l o i same n (k+1)else if(q6l l o i k).code=0 then
  match q67 l o i same n (k+1)with
  |.inl qs=>.inl (k::qs)
  |.inr c=>.inr c
  else .inr (q6l l o i k).code
noncomputable def qa8(l:List Symbol)(o i:Equation)(same:Bool):List Equation ⊕ Int:=match q67 l o i same o.left.length 0 with
 |.inl qs=>.inl (qs.map fun q=>(q6l l o i q).equation)
 |.inr c=>.inr c
theorem qc1{l:List Symbol}{o i:Equation}{same:Bool}:∀{n k:Nat}{qs:List Nat},q67 l o i same n k=.inl qs->qs.length<=n/\∀q∈qs,k<=q/\q<k+n
 |0,k,qs,h=>by cases h;exact⟨gAI _,by simp⟩
 |n+1,k,qs,h=>by
  have next:∀{qs},q67 l o i same n (k+1)=.inl qs->qs.length<=n/\∀q∈qs,k<=q/\q<k+(n+1):=fun h=>by
   obtain⟨h1,h2⟩:=qc1 h;exact⟨h1,fun q hq=>by have:=h2 q hq;omega⟩
  rw[q67]at h;split at h
  ·obtain⟨h1,h2⟩:=next h;exact⟨by omega,h2⟩
  split at h
  ·obtain⟨h1,h2⟩:=next h;exact⟨by omega,h2⟩
  split at h
  ·split at h
   ·rename_i ps hp;obtain⟨h1,h2⟩:=next hp
    cases h;refine⟨by simp;omega,fun q hq=>?_⟩;rcases gK.1 hq with rfl|hq
    ·omega
    ·exact h2 q hq
   ·cases h
  ·cases h
theorem qap{l:List Symbol}{o i:Equation}{same:Bool}:∀{n k:Nat}{c:Int},q67 l o i same n k=.inr c->c≠0
 |0,k,c,h=>by cases h
 |n+1,k,c,h=>by
  rw[q67]at h;split at h
  ·exact qap h
  split at h
  ·exact qap h
  split at h
  ·split at h
   ·cases h
   ·rename_i c' hp;cases h;exact qap hp
  ·rename_i h0;cases h;exact h0
def psT(out:List Equation):List Equation ⊕ Int->R
 |.inl ps=>some (.tup [slc (out++ps),.int .i64 0],[])
 |.inr c=>some (.tup [.sl 2 [],.int .i64 c],[])
section
variable {l:List Symbol}(ok:SigOk ⟨l⟩)
include ok
theorem q1k{o i:Equation}(ho:EqOk l o)(hi:EqOk l i)(same:Bool):LIM F.q1k [.agg [slc l],.agg [slc o.left,slc o.right],.agg [slc i.left,slc i.right],.bool same]=psT [] (qa8 l o i same):=by
 have hol:=ho.left.le
 have hcall:∀r,q1j prog Ev.A H LIM (o.left.length+1) F.q1k [.agg [slc l],.agg [slc o.left,slc o.right],.agg [slc i.left,slc i.right],.bool same]=psT [] r->LIM F.q1k [.agg [slc l],.agg [slc o.left,slc o.right],.agg [slc i.left,slc i.right],.bool same]=psT [] r:=fun r h=>by
  cases r with
  |inl x=>exact q0q rfl _ h
  |inr x=>exact q0q rfl _ h
 refine hcall _ ((q1k.ev _ _ _ _ _ _ _).trans ?_)
 have loop:∀n k f (out:List Equation),k+n=o.left.length->n<f->out.length<=k->
  q1k.at0 (o.left.length+1) f (q1k.st0 same (cells o.left) o.left.length (k:Nat) (cells l) (cells o.left) (cells o.right) (cells i.left) (cells i.right) (cells out))=
   psT out (match q67 l o i same n k with
    |.inl qs=>.inl (qs.map fun q=>(q6l l o i q).equation)
    |.inr c=>.inr c):=by
  intro n;induction n with
  |zero=>
   intro k f out hk hf hl;obtain⟨f,rfl⟩:∃x,f=x+1:=⟨f-1,by omega⟩;obtain rfl:k=o.left.length:=by omega
   simp only[q1k.next0,q1k.round0,evz,Nat.reduceLT,gAK,q67,List.map_nil,psT,gAD]
  |succ n ih=>
   intro k f out hk hf hl;obtain⟨f,rfl⟩:∃x,f=x+1:=⟨f-1,by omega⟩;have h:k<o.left.length:=by omega
   have hlk:o.left[k]?=some o.left[k]:=gA h;have hd:o.left.getD k 0=o.left[k]:=q6v h;have hpk:=(q81 ok ho hi h).eq;rw[q3h]at hpk;have i1:=ih (k+1) f out (by omega) (by omega) (by omega);have i2:=ih (k+1) f (out++[(q6l l o i k).equation]) (by omega) (by omega) (by simp;omega);rw[q67,hd];by_cases h1:o.left[k]<0
   ·rw[if_pos (.inl h1)];simp only[q1k.next0,q1k.round0,evz,Nat.reduceLT,h,hlk,q1r,h1];rw[q0k (by omega)];exact i1
   by_cases h2:same=true/\k=0
   ·rw[if_pos (.inr h2)]
    have e0:∀{α:Type}(a b:α),(bif ((k:Int)==0)then(bif same then a else b)else b)=a:=fun a b=>by
     rw[h2.1,h2.2];rfl
    rw[q1k.next0,q1k.round0,e0];simp only[evz,Nat.reduceLT,h,hlk,q1r,h1];rw[q0k (by omega)];exact i1
   rw[if_neg (by rintro(q|q);exact h1 q;exact h2 q)]
   have e0:∀{α:Type}(a b:α),(bif ((k:Int)==0)then(bif same then a else b)else b)=b:=fun a b=>by
    by_cases hk0:k=0
    ·subst hk0
     have hs:same=false:=by cases same with
      |false=>rfl
      |true=>exact absurd ⟨rfl,rfl⟩ h2
     rw[hs];rfl
    ·rw[show((k:Int)==0)=false by simp;omega];rfl
   rw[q1k.next0,q1k.round0,e0];simp only[evz,Nat.reduceLT,h,hlk,q1r,h1,hpk];rw[q0k (by omega)];by_cases c4:(q6l l o i k).code=4
   ·simp only[c4,evz,Nat.reduceLT,show ¬(4:Int)=0 by omega];exact i1
   by_cases c0:(q6l l o i k).code=0
   ·simp only[c4,c0,evz,Nat.reduceLT];rw[q1o (q41 (by rw[q0m,q49];omega))];rw[q2s]at i2;refine Eq.trans ?_ (i2.trans ?_)
    ·rfl
    ·cases q67 l o i same n (k+1)with
     |inl qs=>simp[psT]
     |inr c=>simp[psT]
   ·simp only[c4,c0,evz,Nat.reduceLT,psT]
 have:=loop o.left.length 0 (o.left.length+1) [] (by omega) (by omega) (by simp);refine Eq.trans ?_ this;simp only[evz,Nat.reduceLT];rfl
theorem q1e{o i:Equation}(ho:EqOk l o)(hi:EqOk l i)(same:Bool):Call F.q1e [.rref [slc l] 0,.rref [slc o.left,slc o.right] 0,.rref [slc i.left,slc i.right] 0,.bool same]
 (match q67 l o i same o.left.length 0 with
  |.inl qs=>.tup [slc (ints qs),.int .i64 0]
  |.inr c=>.tup [.sl 1 [],.int .i64 c]):=by
 have hol:=ho.left.le;refine q0q rfl (o.left.length+1) ((q1e.ev _ _ _ _ _ _ _).trans ?_)
 have loop:∀n k f (out:List Nat),k+n=o.left.length->n<f->out.length<=k->
  q1e.at0 (o.left.length+1) f (q1e.st0 (cells l) (cells o.left) (cells o.right) (cells i.left) (cells i.right) same (k:Nat) (cells (ints out)))=
   some (match q67 l o i same n k with
    |.inl qs=>.tup [slc (ints (out++qs)),.int .i64 0]
    |.inr c=>.tup [.sl 1 [],.int .i64 c],[]):=by
  intro n;induction n with
  |zero=>
   intro k f out hk hf hl;obtain⟨f,rfl⟩:∃x,f=x+1:=⟨f-1,by omega⟩;obtain rfl:k=o.left.length:=by omega
   simp only[q1e.next0,q1e.round0,evz,Nat.reduceLT,gAK,q67,gAD]
  |succ n ih=>
   intro k f out hk hf hl;obtain⟨f,rfl⟩:∃x,f=x+1:=⟨f-1,by omega⟩;have h:k<o.left.length:=by omega
   have hlk:o.left[k]?=some o.left[k]:=gA h;have hd:o.left.getD k 0=o.left[k]:=q6v h;have hpk:=(q77 ok ho hi h).eq;have i1:=ih (k+1) f out (by omega) (by omega) (by omega);have i2:=ih (k+1) f (out++[k]) (by omega) (by omega) (by simp;omega);rw[q67,hd];by_cases h1:o.left[k]<0
   ·rw[if_pos (.inl h1)];simp only[q1e.next0,q1e.round0,evz,Nat.reduceLT,h,hlk,q1r,h1];rw[q0k (by omega)];exact i1
   by_cases h2:same=true/\k=0
   ·rw[if_pos (.inr h2)]
    have e0:∀{α:Type}(a b:α),(bif same then(bif ((k:Int)==0)then a else b)else b)=a:=fun a b=>by
     rw[h2.1,h2.2];rfl
    rw[q1e.next0,q1e.round0,e0];simp only[evz,Nat.reduceLT,h,hlk,q1r,h1];rw[q0k (by omega)];exact i1
   rw[if_neg (by rintro(q|q);exact h1 q;exact h2 q)]
   have e0:∀{α:Type}(a b:α),(bif same then(bif ((k:Int)==0)then a else b)else b)=b:=fun a b=>by
    by_cases hk0:k=0
    ·subst hk0
     have hs:same=false:=by cases same with
      |false=>rfl
      |true=>exact absurd ⟨rfl,rfl⟩ h2
     rw[hs];rfl
    ·rw[show((k:Int)==0)=false by simp;omega];cases same <;> rfl
   rw[q1e.next0,q1e.round0,e0];simp only[evz,Nat.reduceLT,h,hlk,q1r,h1,hpk];rw[q0k (by omega)];by_cases c4:(q6l l o i k).code=4
   ·simp only[c4,evz,Nat.reduceLT,show ¬(4:Int)=0 by omega];exact i1
   by_cases c0:(q6l l o i k).code=0
   ·have e1:cells (ints out)++[.int .i64 (k:Int)]=cells (ints (out++[k])):=by rw[q2w];simp[ints]
    simp only[c4,c0,evz,Nat.reduceLT,show ¬(0:Int)=4 by omega,e1];rw[q1o (q41 (by rw[q0m,q3o,q3l];omega))];refine i2.trans ?_
    cases q67 l o i same n (k+1)with
     |inl qs=>simp
     |inr c=>simp
   ·simp only[c4,c0,evz,Nat.reduceLT]
 have:=loop o.left.length 0 (o.left.length+1) [] (by omega) (by omega) (by simp);exact this
theorem q1z{o i:Equation}(ho:EqOk l o)(hi:EqOk l i)(same:Bool):LIM F.q1z [.rref [slc l] 0,.rref [slc o.left,slc o.right] 0,.rref [slc i.left,slc i.right] 0,.bool same]=psT [] (qa8 l o i same):=by
 have hol:=ho.left.le
 have hcall:∀r,q1j prog Ev.A H LIM (o.left.length+1) F.q1z [.rref [slc l] 0,.rref [slc o.left,slc o.right] 0,.rref [slc i.left,slc i.right] 0,.bool same]=psT [] r->LIM F.q1z [.rref [slc l] 0,.rref [slc o.left,slc o.right] 0,.rref [slc i.left,slc i.right] 0,.bool same]=psT [] r:=fun r h=>by
  cases r with
  |inl x=>exact q0q rfl _ h
  |inr x=>exact q0q rfl _ h
 refine hcall _ ((q1z.ev _ _ _ _ _ _ _).trans ?_);have hp:=(q1e ok ho hi same).eq;unfold qa8;cases hpl:q67 l o i same o.left.length 0 with
 |inr c=>
  rw[hpl]at hp;simp only[evz,Nat.reduceLT,hp];simp only[q1z.next0,q1z.round0,evz,Nat.reduceLT,List.length_nil,psT,oSl];rfl
 |inl qs=>
  rw[hpl]at hp;obtain⟨hq1,hq2⟩:=qc1 hpl;simp only[evz,Nat.reduceLT,hp]
  have key:=q9p (n:=qs.length) (f:=o.left.length+1) (S:=fun m k (w:List Equation)=>q1z.at0 (o.left.length+1) m (q1z.st0 (cells l) (cells o.left) (cells o.right) (cells i.left) (cells i.right) 0 (k:Nat) (cells (ints qs)) (cells w)))
   (st:=fun k=>(qs.take k).map fun q=>(q6l l o i q).equation) (z:=psT [] (.inl (qs.map fun q=>(q6l l o i q).equation))) (fun m k h=>?_) (fun m=>?_) (by omega)
  ·exact key
  ·have hqk:=hq2 qs[k] (gG h);have hg:=q7n h;have hpk:=(q77 ok ho hi (p:=qs[k]) (by omega)).eq
   have e1:(qs.take (k+1)).map (fun q=>(q6l l o i q).equation)=(qs.take k).map (fun q=>(q6l l o i q).equation)++[(q6l l o i qs[k]).equation]:=by
    rw[<- gAP h,List.map_append];rfl
   have e2:∀(A:List Equation)(e:Equation),cells A++[slc e.left,slc e.right]=cells (A++[e]):=fun A e=>by rw[q2s];rfl
   rw[e1];simp only[q1z.next0,q1z.round0,evz,Nat.reduceLT,q3l,h,hg,q1r,hpk,e2];rw[q0k (by omega),q1o (q41 (by rw[q0m,q49];simp;omega))]
  ·rw[List.take_length];simp only[q1z.next0,q1z.round0,evz,Nat.reduceLT,q3l,gAK,psT,List.nil_append]
end
theorem qdr{l:List Symbol}{o i:Equation}{same:Bool}{c:Int}(h:qa8 l o i same=.inr c):c≠0:=by
 unfold qa8 at h;split at h
 ·cases h
 ·rename_i c' hp;cases h;exact qap hp
theorem qf4{l:List Symbol}{o i:Equation}{same:Bool}{ps:List Equation}(h:qa8 l o i same=.inl ps):ps.length<=o.left.length/\∀e∈ps,sm 67108864 e:=by
 unfold qa8 at h;split at h
 ·rename_i qs hp;cases h;refine⟨by rw[gAG];exact(qc1 hp).1,fun e he=>?_⟩;obtain⟨q,_,rfl⟩:=List.mem_map.1 he;exact quw
 ·cases h
noncomputable def rowN(l:List Symbol)(rs:List Equation)(i:Nat):Nat->Nat->List Equation->List Equation ⊕ Int
 |0,_,out=>.inl out
 |n+1,j,out=>match qa8 l (rs.getD i ⟨[],[]⟩) (rs.getD j ⟨[],[]⟩) (decide (i=j))with
  |.inr c=>.inr c
  |.inl ps=>if 200<(out++ps).length then .inr 2 else rowN l rs i n (j+1) (out++ps)
noncomputable def allN(l:List Symbol)(rs:List Equation):Nat->Nat->List Equation->List Equation ⊕ Int
 |0,_,out=>.inl out
 |n+1,i,out=>match rowN l rs i rs.length 0 out with
  |.inr c=>.inr c
  |.inl out'=>allN l rs n (i+1) out'
theorem qkn{l:List Symbol}{rs:List Equation}{i:Nat}:∀{n j:Nat}{out o':List Equation},out.length<=200->(∀e∈out,sm 67108864 e)->rowN l rs i n j out=.inl o'->o'.length<=200/\∀e∈o',sm 67108864 e
 |0,j,out,o',h,h2,e=>by cases e;exact⟨h,h2⟩
 |n+1,j,out,o',h,h2,e=>by
  rw[rowN]at e;split at e
  ·cases e
  ·rename_i ps hp;split at e
   ·cases e
   ·exact qkn (by omega) (fun e he=>by
     rcases gO.1 he with he|he
     ·exact h2 e he
     ·exact(qf4 hp).2 e he) e
theorem qne{l:List Symbol}{rs:List Equation}:∀{n i:Nat}{out o':List Equation},out.length<=200->(∀e∈out,sm 67108864 e)->allN l rs n i out=.inl o'->o'.length<=200/\∀e∈o',sm 67108864 e
 |0,i,out,o',h,h2,e=>by cases e;exact⟨h,h2⟩
 |n+1,i,out,o',h,h2,e=>by
  rw[allN]at e;split at e
  ·cases e
  ·rename_i o1 h1;obtain⟨q1,q2⟩:=qkn h h2 h1;exact qne q1 q2 e
theorem qcw{rs:List Equation}{k:Nat}(h:k<rs.length):(((cells rs).drop (k*2)).take 2)=[slc rs[k].left,slc rs[k].right]:=by
 rw[q9z rs 2 k rfl,gH h];rfl
def apT:List Equation ⊕ Int->R
 |.inl ps=>some (.tup [slc ps,.int .i64 0],[])
 |.inr c=>some (.tup [.sl 2 [],.int .i64 c],[])
section
variable {l:List Symbol}(ok:SigOk ⟨l⟩){rs:List Equation}(hr:∀e∈rs,EqOk l e)(hl:rs.length<=12)
include ok hr hl
theorem qfe{N:Nat}(hN:20<=N)(L0:St->R){i:Nat}(hi:i<rs.length):∀n j f (out:List Equation),j+n=rs.length->n<f->out.length<=200->
 q0n.at2 N L0 f (q0n.st2 (cells rs) (cells rs) rs.length (i:Nat) (i:Nat) (cells rs) rs.length (j:Nat) (cells l) (cells out) (cells rs[i].left) (cells rs[i].right))=
  match rowN l rs i n j out with
  |.inr c=>apT (.inr c)
  |.inl o'=>L0 (q0n.st0 (cells rs) (cells rs) rs.length ((i+1:Nat):Int) (cells l) (cells o')):=by
 intro n;induction n with
 |zero=>
  intro j f out hj hf ho;obtain⟨f,rfl⟩:∃x,f=x+1:=⟨f-1,by omega⟩;obtain rfl:j=rs.length:=by omega
  simp only[q0n.next2,q0n.round2,evz,Nat.reduceLT,gAK,rowN];rw[q0k (by omega)]
 |succ n ih=>
  intro j f out hj hf ho;obtain⟨f,rfl⟩:∃x,f=x+1:=⟨f-1,by omega⟩;have h:j<rs.length:=by omega
  have hlk:rs[j]?=some rs[j]:=gA h;have hpk:=q1k ok (hr _ (gG hi)) (hr _ (gG h)) (decide (i=j));have hlo:=(hr _ (gG hi)).left.le;have eb:decide ((i:Int)=(j:Int))=decide (i=j):=decide_eq_decide.2 (by omega);have on:oSl 2 (T.sl 2 [])=some []:=rfl;rw[rowN,getE hi,getE h];cases hp:qa8 l rs[i] rs[j] (decide (i=j))with
  |inr c=>
   rw[hp]at hpk;have hc:=qdr hp;simp only[q0n.next2,q0n.round2,evz,Nat.reduceLT,h,hlk,q3w,eb,hpk,psT,hc,on,apT]
  |inl ps=>
   rw[hp]at hpk;have hpl:=(qf4 hp).1;have i1:=ih (j+1) f (out++ps) (by omega) (by omega);rw[q2s]at i1;simp only[q0n.next2,q0n.round2,evz,Nat.reduceLT,h,hlk,q3w,eb,hpk,psT,List.nil_append];rw[q1o (q41 (by rw[q0m,q0m,q49];omega)),q0k (by omega)];have hlen:(cells out++cells ps).length/2=(out++ps).length:=by rw[<- q2s,q53];rfl
   rw[hlen];by_cases h2:200<(out++ps).length
   ·have h2':(((out++ps).length:Nat):Int)>200:=by omega
    simp only[h2,h2',evz,Nat.reduceLT,apT]
   ·have h2':¬(((out++ps).length:Nat):Int)>200:=by omega
    simp only[h2,h2',evz,Nat.reduceLT];exact i1 (by omega)
theorem q0n:LIM F.q0n [.agg [slc l],slc rs]=apT (allN l rs rs.length 0 []):=by
 have hcall:∀r,q1j prog Ev.A H LIM 20 F.q0n [.agg [slc l],slc rs]=apT r->LIM F.q0n [.agg [slc l],slc rs]=apT r:=fun r h=>by
  cases r with
  |inl x=>exact q0q rfl _ h
  |inr x=>exact q0q rfl _ h
 refine hcall _ ((q0n.ev _ _ _).trans ?_)
 have loop:∀n i f (out:List Equation),i+n=rs.length->n<f->out.length<=200->(∀e∈out,sm 67108864 e)->
  q0n.at0 20 f (q0n.st0 (cells rs) (cells rs) rs.length (i:Nat) (cells l) (cells out))=apT (allN l rs n i out):=by
  intro n;induction n with
  |zero=>
   intro i f out hj hf ho hso;obtain⟨f,rfl⟩:∃x,f=x+1:=⟨f-1,by omega⟩;obtain rfl:i=rs.length:=by omega
   simp only[q0n.next0,q0n.round0,evz,Nat.reduceLT,gAK,allN,apT]
  |succ n ih=>
   intro i f out hj hf ho hso;obtain⟨f,rfl⟩:∃x,f=x+1:=⟨f-1,by omega⟩;have h:i<rs.length:=by omega
   have hlk:rs[i]?=some rs[i]:=gA h;have hrow:=qfe ok hr hl (N:=20) (by omega) (q0n.at0 20 f) h rs.length 0 20 out (by omega) (by omega) ho;simp only[q0n.next0,q0n.round0,evz,Nat.reduceLT,h,hlk,q3w];refine hrow.trans ?_;rw[allN];cases hro:rowN l rs i rs.length 0 out with
   |inr c=>rfl
   |inl o'=>
    obtain⟨q1,q2⟩:=qkn ho hso hro;exact ih (i+1) f o' (by omega) (by omega) q1 q2
 have:=loop rs.length 0 20 [] (by omega) (by omega) (by simp) (by simp);simp only[evz,Nat.reduceLT];exact this
theorem qj5{N:Nat}(hN:20<=N)(L0:St->R){i:Nat}(hi:i<rs.length):∀n j f (out:List Equation),j+n=rs.length->n<f->out.length<=200->
 q18.at2 N L0 f (q18.st2 (cells l) (cells rs) (i:Nat) (j:Nat) (cells out))=
  match rowN l rs i n j out with
  |.inr c=>apT (.inr c)
  |.inl o'=>L0 (q18.st0 (cells l) (cells rs) ((i+1:Nat):Int) (cells o')):=by
 intro n;induction n with
 |zero=>
  intro j f out hj hf ho;obtain⟨f,rfl⟩:∃x,f=x+1:=⟨f-1,by omega⟩;obtain rfl:j=rs.length:=by omega
  simp only[q18.next2,q18.round2,evz,Nat.reduceLT,gAK,rowN];rw[q0k (by omega)]
 |succ n ih=>
  intro j f out hj hf ho;obtain⟨f,rfl⟩:∃x,f=x+1:=⟨f-1,by omega⟩;have h:j<rs.length:=by omega
  have hpk:=q1z ok (hr _ (gG hi)) (hr _ (gG h)) (decide (i=j));have hlo:=(hr _ (gG hi)).left.le;have eb:decide ((i:Int)=(j:Int))=decide (i=j):=decide_eq_decide.2 (by omega);have on:oSl 2 (T.sl 2 [])=some []:=rfl;rw[rowN,getE hi,getE h];cases hp:qa8 l rs[i] rs[j] (decide (i=j))with
  |inr c=>
   rw[hp]at hpk;have hc:=qdr hp;simp only[q18.next2,q18.round2,evz,Nat.reduceLT,h,hi,qcw h,qcw hi,eb,hpk,psT,hc,on,apT]
  |inl ps=>
   rw[hp]at hpk;have hpl:=(qf4 hp).1;have i1:=ih (j+1) f (out++ps) (by omega) (by omega);rw[q2s]at i1;simp only[q18.next2,q18.round2,evz,Nat.reduceLT,h,hi,qcw h,qcw hi,eb,hpk,psT,List.nil_append];rw[q1o (q41 (by rw[q0m,q0m,q49];omega)),q0k (by omega)];have hlen:(cells out++cells ps).length/2=(out++ps).length:=by rw[<- q2s,q53];rfl
   rw[hlen];by_cases h2:200<(out++ps).length
   ·have h2':(((out++ps).length:Nat):Int)>200:=by omega
    simp only[h2,h2',evz,Nat.reduceLT,apT]
   ·have h2':¬(((out++ps).length:Nat):Int)>200:=by omega
    simp only[h2,h2',evz,Nat.reduceLT];exact i1 (by omega)
theorem q18:LIM F.q18 [.rref [slc l] 0,slc rs]=apT (allN l rs rs.length 0 []):=by
 have hcall:∀r,q1j prog Ev.A H LIM 20 F.q18 [.rref [slc l] 0,slc rs]=apT r->LIM F.q18 [.rref [slc l] 0,slc rs]=apT r:=fun r h=>by
  cases r with
  |inl x=>exact q0q rfl _ h
  |inr x=>exact q0q rfl _ h
 refine hcall _ ((q18.ev _ _ _).trans ?_)
 have loop:∀n i f (out:List Equation),i+n=rs.length->n<f->out.length<=200->(∀e∈out,sm 67108864 e)->
  q18.at0 20 f (q18.st0 (cells l) (cells rs) (i:Nat) (cells out))=apT (allN l rs n i out):=by
  intro n;induction n with
  |zero=>
   intro i f out hj hf ho hso;obtain⟨f,rfl⟩:∃x,f=x+1:=⟨f-1,by omega⟩;obtain rfl:i=rs.length:=by omega
   simp only[q18.next0,q18.round0,evz,Nat.reduceLT,gAK,allN,apT]
  |succ n ih=>
   intro i f out hj hf ho hso;obtain⟨f,rfl⟩:∃x,f=x+1:=⟨f-1,by omega⟩;have h:i<rs.length:=by omega
   have hrow:=qj5 ok hr hl (N:=20) (by omega) (q18.at0 20 f) h rs.length 0 20 out (by omega) (by omega) ho;simp only[q18.next0,q18.round0,evz,Nat.reduceLT,h];refine hrow.trans ?_;rw[allN];cases hro:rowN l rs i rs.length 0 out with
   |inr c=>rfl
   |inl o'=>
    obtain⟨q1,q2⟩:=qkn ho hso hro;exact ih (i+1) f o' (by omega) (by omega) q1 q2
 exact loop rs.length 0 20 [] (by omega) (by omega) (by simp) (by simp)
end
def q99(l:List Symbol)(rs:List Equation)(fuel:Nat)(e:Equation):IntResult:=
 if(norm l rs fuel 0 e.left).code≠0 then⟨(norm l rs fuel 0 e.left).code,0⟩else if(norm l rs fuel 0 e.right).code≠0 then⟨(norm l rs fuel 0 e.right).code,0⟩else
  if(norm l rs fuel 0 e.left).term=(norm l rs fuel 0 e.right).term then⟨0,1⟩else⟨0,0⟩
theorem quu{l:List Symbol}{rs:List Equation}(h:q4i ⟨l⟩ rs=0){e:Equation}(ha:TermOk l e.left)(hb:TermOk l e.right){fuel:Nat}(hf:fuel<=200):qd4 ⟨l⟩ rs e.left e.right fuel=q99 l rs fuel e:=by
 have e1:∀t,TermOk l t->q38 ⟨l⟩ rs t fuel=norm l rs fuel 0 t:=fun t ht=>by
  unfold q38
  have h0:q3x ⟨l⟩ rs t=0:=by
   unfold q3x;rw[if_neg (by simpa using h)];exact(q5w _ _).2 ht
  have hr:inR (fuel:Int) 0 200=true:=q8r.2 (by omega);rw[if_neg (by simpa using h0),if_neg (by simp[hr]),gR]
 unfold qd4 q99;rw[e1 _ ha,e1 _ hb]
def unjN(l:List Symbol)(rs:List Equation)(fuel:Nat):List Equation->List Equation->List Equation ⊕ Int
 |[],out=>.inl out
 |e::es,out=>if(q99 l rs fuel e).code=0 then if(q99 l rs fuel e).value=0 then unjN l rs fuel es (out++[e])else unjN l rs fuel es out else .inr (q99 l rs fuel e).code
theorem qss{l:List Symbol}{rs:List Equation}{fuel:Nat}{e:Equation}:(if(norm l rs fuel 0 e.left).code≠0 then T.tup [.int .i64 0,.int .i64 (norm l rs fuel 0 e.left).code]else if(norm l rs fuel 0 e.right).code≠0 then .tup [.int .i64 0,.int .i64 (norm l rs fuel 0 e.right).code]
 else if(norm l rs fuel 0 e.left).term=(norm l rs fuel 0 e.right).term then .tup [.int .i64 1,.int .i64 0]else .tup [.int .i64 0,.int .i64 0])=.tup [.int .i64 (q99 l rs fuel e).value,.int .i64 (q99 l rs fuel e).code]:=by
 unfold q99;split
 ·rfl
 split
 ·rfl
 split <;> rfl
theorem qtq{l:List Symbol}{t u:List Int}(ht:TermOk l t){p:Nat}(hp:p<t.length)(hu:TermOk l u)(h:(q42 l t p u).length<=24):TermOk l (q42 l t p u):=by
 obtain⟨h1,h2,h3⟩:=q56 ht hp
 have hs:skip (ar l) 1 (q42 l t p u)=some []:=by
  unfold q42;rw[gZ];refine qip (y:=q1i l t p) (by rw[<- h1];exact h3) (by have:=qbf (r:=t.drop (q3v l t p)) hu.skip;simpa using this) (t.take p) 1 ?_;rw[<- h1,List.take_append_drop];exact ht.skip
 refine⟨?_,h,fun n hn=>?_,hs⟩
 ·rcases Nat.eq_zero_or_pos (q42 l t p u).length with h|h
  ·rw[gL h]at hs;cases hs
  ·exact h
 ·unfold q42 at hn;rcases gO.1 hn with hn|hn
  ·rcases gO.1 hn with hn|hn
   ·exact ht.node n (List.mem_of_mem_take hn)
   ·exact hu.node n hn
  ·exact ht.node n (List.mem_of_mem_drop hn)
theorem qv6{l:List Symbol}(ok:SigOk ⟨l⟩){o i:Equation}(ho:EqOk l o)(hi:EqOk l i){p:Nat}(hp:p<o.left.length)(h0:(q6l l o i p).code=0):EqOk l (q6l l o i p).equation:=by
 have o1:=qaj hi.left hi.lowL;have o2:=qaj hi.right hi.lowR;have os:=q6b ho.left hp;have hsp:=q8x os o1;have hcd:=fun c=>qfk os o1 (c:=c);unfold q6l at h0 ⊢;split
 ·rename_i c hc;rw[hc]at h0;have:=hcd c hc;simp only at h0;omega
 ·rename_i b hb;rw[hb]at h0;simp only at h0;split at h0
  ·cases h0
  rename_i c1;split at h0
  ·cases h0
  rename_i c2;rw[if_neg c1,if_neg c2];have hub:=hsp.2 b hb;have hwl:=q95 hub.mb (q42 l o.left p (q4b i.right 6));exact qlc (hub.applied_ok ho.right (by omega)) (hub.applied_ok (qtq ho.left hp o2 (by omega)) (by omega)) (by omega)
theorem qda{l:List Symbol}{o i:Equation}{same:Bool}:∀{n k:Nat}{qs:List Nat},q67 l o i same n k=.inl qs->∀q∈qs,(q6l l o i q).code=0
 |0,k,qs,h=>by cases h;simp
 |n+1,k,qs,h=>by
  rw[q67]at h;split at h
  ·exact qda h
  split at h
  ·exact qda h
  split at h
  ·rename_i h0;split at h
   ·rename_i ps hp;cases h;intro q hq;rcases gK.1 hq with rfl|hq
    ·exact h0
    ·exact qda hp q hq
   ·cases h
  ·cases h
theorem qsd{l:List Symbol}(ok:SigOk ⟨l⟩){o i:Equation}(ho:EqOk l o)(hi:EqOk l i){same:Bool}{ps:List Equation}(h:qa8 l o i same=.inl ps):∀e∈ps,EqOk l e:=by
 unfold qa8 at h;split at h
 ·rename_i qs hp;cases h;intro e he;obtain⟨q,hq,rfl⟩:=List.mem_map.1 he;have:=(qc1 hp).2 q hq;exact qv6 ok ho hi (by omega) (qda hp q hq)
 ·cases h
theorem qt0{l:List Symbol}(ok:SigOk ⟨l⟩){rs:List Equation}(hr:∀e∈rs,EqOk l e){i:Nat}(hi:i<rs.length):∀{n j:Nat}{out o':List Equation},j+n=rs.length->(∀e∈out,EqOk l e)->rowN l rs i n j out=.inl o'->∀e∈o',EqOk l e
 |0,j,out,o',hj,h2,e=>by cases e;exact h2
 |n+1,j,out,o',hj,h2,e=>by
  have hjl:j<rs.length:=by omega
  rw[rowN,getE hi,getE hjl]at e;split at e
  ·cases e
  ·rename_i ps hp;split at e
   ·cases e
   ·exact qt0 ok hr hi (by omega) (fun e he=>by
     rcases gO.1 he with he|he
     ·exact h2 e he
     ·exact qsd ok (hr _ (gG hi)) (hr _ (gG hjl)) hp e he) e
theorem qo0{l:List Symbol}(ok:SigOk ⟨l⟩){rs:List Equation}(hr:∀e∈rs,EqOk l e):∀{n i:Nat}{out o':List Equation},i+n=rs.length->(∀e∈out,EqOk l e)->allN l rs n i out=.inl o'->∀e∈o',EqOk l e
 |0,i,out,o',hi,h2,e=>by cases e;exact h2
 |n+1,i,out,o',hi,h2,e=>by
  rw[allN]at e;split at e
  ·cases e
  ·rename_i o1 h1;exact qo0 ok hr (by omega) (qt0 ok hr (by omega) (by omega) h2 h1) e
def unT:List Equation ⊕ Int->R
 |.inl ps=>some (.agg [.int .i64 0,slc ps],[])
 |.inr c=>some (.agg [.int .i64 c,.sl 2 []],[])
section
variable {l:List Symbol}{rs:List Equation}(hrf:q4i ⟨l⟩ rs=0)(hls:sm 1048576 (Signature.mk l))(hrs:sm 1048576 rs){fuel:Nat}(hf:fuel<=200)
include hrf hls hrs hf
theorem qoc{e:Equation}(he:EqOk l e):Call F.q5m [.agg [slc l],slc rs,slc e.left,slc e.right,.int .i64 fuel] (.agg [.int .i64 (q99 l rs fuel e).code,.int .i64 (q99 l rs fuel e).value]):=by
 have l1:=he.left.le;have l2:=he.right.le;have h:=q5m ⟨l⟩ rs e.left e.right fuel hls hrs ⟨by omega,fun _ _=>trivial⟩ ⟨by omega,fun _ _=>trivial⟩;rw[quu hrf he.left he.right hf,q90]at h;exact h
omit hls hrs in
theorem qok{e:Equation}(he:EqOk l e):Call F.q73 [.rref [slc l] 0,slc rs,slc e.left,slc e.right,.int .i64 fuel] (.tup [.int .i64 (q99 l rs fuel e).value,.int .i64 (q99 l rs fuel e).code]):=by
 obtain⟨_,ok,q1,q2⟩:=q6z hrf;have h:=q73 ok q2 q1 he.left he.right hf;rw[qss]at h;exact h
theorem quh{ps:List Equation}(hps:∀e∈ps,EqOk l e)(hpl:ps.length<=200):∀n k f (X:List T) (out:List Equation),k+n=ps.length->n<f->X.length=ps.length*2->(∀j,k*2<=j->X[j]?=(cells ps)[j]?)->out.length<=k->
 q14.at0 300 f (q14.st0 (cells rs) fuel ps.length (k:Nat) (cells l) 0 X (cells out))=unT (unjN l rs fuel (ps.drop k) out):=by
 intro n;induction n with
 |zero=>
  intro k f X out hk hfl hXl hX ho;obtain⟨f,rfl⟩:∃x,f=x+1:=⟨f-1,by omega⟩;obtain rfl:k=ps.length:=by omega
  rw[gU (gAI _)];simp only[q14.next0,q14.round0,evz,Nat.reduceLT,gAK,unjN,unT]
 |succ n ih=>
  intro k f X out hk hfl hXl hX ho;obtain⟨f,rfl⟩:∃x,f=x+1:=⟨f-1,by omega⟩;have h:k<ps.length:=by omega
  have g0:X[k*2]?=some (slc ps[k].left):=by
   rw[hX _ (gAI _),get0 (l:=ps) (k:=2) rfl,gA h];rfl
  have g1:X[k*2+1]?=some (slc ps[k].right):=by
   rw[hX _ (by omega),get1 (l:=ps) (k:=2) rfl (by decide),gA h];rfl
  have hj:=(qoc hrf hls hrs hf (hps _ (gG h))).eq;have hin:inB (k:Int) (X.length/2)=true:=by rw[hXl,Nat.mul_div_cancel _ (by omega),q61];simpa using h
  have next:∀u v (out':List Equation),out'.length<=k+1->q14.at0 300 f (q14.st0 (cells rs) fuel ps.length ((k+1:Nat):Int) (cells l) 0 ((X.set (k*2) u).set (k*2+1) v) (cells out'))=unT (unjN l rs fuel (ps.drop (k+1)) out'):=fun u v out' ho'=>
   ih (k+1) f _ out' (by omega) (by omega) (by simp[hXl]) (fun j hj=>by
    rw[List.getElem?_set_ne (by omega),List.getElem?_set_ne (by omega)];exact hX j (by omega)) ho'
  rw[gH h,unjN];simp only[q14.next0,q14.round0,evz,Nat.reduceLT,h,hin,g0,g1,hj,gR];rw[q0k (by omega)];by_cases c0:(q99 l rs fuel ps[k]).code=0
  case neg=>simp only[c0,evz,Nat.reduceLT,unT]
  by_cases c1:(q99 l rs fuel ps[k]).value=0
  ·simp only[c0,c1,evz,Nat.reduceLT];rw[q1o (q41 (by rw[q0m,q49];omega))];have:=next .hole .hole (out++[ps[k]]) (by simp;omega)
   rw[q2s]at this;exact this
  ·simp only[c0,c1,evz,Nat.reduceLT];exact next _ _ out (by omega)
theorem qvd{ps:List Equation}(hps:∀e∈ps,EqOk l e)(hpl:ps.length<=200):∀n k f (X:List T) (out:List Equation),k+n=ps.length->n<f->X.length=ps.length*2->(∀j,k*2<=j->X[j]?=(cells ps)[j]?)->out.length<=k->
 q17.at0 300 f (q17.st0 (cells l) (cells rs) fuel (k:Nat) X (cells out))=apT (unjN l rs fuel (ps.drop k) out):=by
 intro n;induction n with
 |zero=>
  intro k f X out hk hfl hXl hX ho;obtain⟨f,rfl⟩:∃x,f=x+1:=⟨f-1,by omega⟩;obtain rfl:k=ps.length:=by omega
  have hXd:X.length/2=ps.length:=by rw[hXl,Nat.mul_div_cancel _ (by omega)]
  rw[gU (gAI _)];simp only[q17.next0,q17.round0,evz,Nat.reduceLT,hXd,gAK,unjN,apT]
 |succ n ih=>
  intro k f X out hk hfl hXl hX ho;obtain⟨f,rfl⟩:∃x,f=x+1:=⟨f-1,by omega⟩;have h:k<ps.length:=by omega
  have hXd:X.length/2=ps.length:=by rw[hXl,Nat.mul_div_cancel _ (by omega)]
  have g0:X[k*2]?=some (slc ps[k].left):=by
   rw[hX _ (gAI _),get0 (l:=ps) (k:=2) rfl,gA h];rfl
  have g1:X[k*2+1]?=some (slc ps[k].right):=by
   rw[hX _ (by omega),get1 (l:=ps) (k:=2) rfl (by decide),gA h];rfl
  have hj:=(qok hrf hf (hps _ (gG h))).eq;have hin:inB (k:Int) ps.length=true:=by rw[q61];simpa using h
  have next:∀Y (out':List Equation),Y.length=X.length->(∀j,k*2+2<=j->Y[j]?=X[j]?)->out'.length<=k+1->q17.at0 300 f (q17.st0 (cells l) (cells rs) fuel ((k+1:Nat):Int) Y (cells out'))=apT (unjN l rs fuel (ps.drop (k+1)) out'):=fun Y out' hYl hY ho'=>
   ih (k+1) f _ out' (by omega) (by omega) (by omega) (fun j hj=>by
    rw[hY j (by omega)];exact hX j (by omega)) ho'
  rw[gH h,unjN];simp only[q17.next0,q17.round0,evz,Nat.reduceLT,hXd,h,hin,g0,g1,hj,gR];rw[q0k (by omega)];by_cases c0:(q99 l rs fuel ps[k]).code=0
  case neg=>simp only[c0,evz,Nat.reduceLT,apT]
  by_cases c1:(q99 l rs fuel ps[k]).value=0
  ·simp only[c0,c1,evz,Nat.reduceLT,g0,g1];rw[q1o (q41 (by rw[q0m,q49];omega))]
   have:=next ((X.set (k*2) .hole).set (k*2+1) .hole) (out++[ps[k]]) (by simp) (fun j hj=>by
    rw[List.getElem?_set_ne (by omega),List.getElem?_set_ne (by omega)]) (by simp;omega)
   rw[q2s]at this;exact this
  ·simp only[c0,c1,evz,Nat.reduceLT];exact next _ out rfl (fun j hj=>rfl) (by omega)
end
theorem qfd{l:List Symbol}{rs:List Equation}{fuel:Nat}:∀{es out:List Equation}{c:Int},unjN l rs fuel es out=.inr c->c≠0
 |[],out,c,h=>by cases h
 |e::es,out,c,h=>by
  rw[unjN]at h;split at h
  ·split at h
   ·exact qfd h
   ·exact qfd h
  ·rename_i h0;cases h;exact h0
noncomputable def unjR(l:List Symbol)(rs:List Equation)(fuel:Nat):List Equation ⊕ Int:=match allN l rs rs.length 0 []with
 |.inl ps=>unjN l rs fuel ps []
 |.inr c=>.inr c
theorem qn2{l:List Symbol}{rs:List Equation}{i:Nat}:∀{n j:Nat}{out:List Equation}{c:Int},rowN l rs i n j out=.inr c->c≠0
 |0,j,out,c,e=>by cases e
 |n+1,j,out,c,e=>by
  rw[rowN]at e;split at e
  ·rename_i c' hp;cases e;exact qdr hp
  ·split at e
   ·cases e;omega
   ·exact qn2 e
theorem qck{l:List Symbol}{rs:List Equation}:∀{n i:Nat}{out:List Equation}{c:Int},allN l rs n i out=.inr c->c≠0
 |0,i,out,c,e=>by cases e
 |n+1,i,out,c,e=>by
  rw[allN]at e;split at e
  ·rename_i c' hp;cases e;exact qn2 hp
  ·exact qck e
theorem qs1{l:List Symbol}{rs:List Equation}{fuel:Nat}{c:Int}(h:unjR l rs fuel=.inr c):c≠0:=by
 unfold unjR at h;split at h
 ·exact qfd h
 ·rename_i c' hp;cases h;exact qck hp
theorem q17{l:List Symbol}{rs:List Equation}(hrf:q4i ⟨l⟩ rs=0)(hls:sm 1048576 (Signature.mk l))(hrs:sm 1048576 rs){fuel:Nat}(hf:fuel<=200) :
 LIM F.q17 [.rref [slc l] 0,slc rs,.int .i64 fuel]=apT (unjR l rs fuel):=by
 have hcall:∀r,q1j prog Ev.A H LIM 300 F.q17 [.rref [slc l] 0,slc rs,.int .i64 fuel]=apT r->LIM F.q17 [.rref [slc l] 0,slc rs,.int .i64 fuel]=apT r:=fun r h=>by
  cases r with
  |inl x=>exact q0q rfl _ h
  |inr x=>exact q0q rfl _ h
 refine hcall _ ((q17.ev _ _ _ _).trans ?_);obtain⟨_,ok,q1,q2⟩:=q6z hrf;have ha:=q18 ok q2 q1;unfold unjR;cases hp:allN l rs rs.length 0 []with
 |inr c=>
  have hc:=qck hp;rw[hp]at ha;simp only[evz,Nat.reduceLT,ha,apT,hc,show oSl 2 (T.sl 2 [])=some []from rfl]
 |inl ps=>
  rw[hp]at ha;have hl:=qne (by simp) (by simp) hp;have hok:=qo0 ok q2 (by omega) (by simp) hp;simp only[evz,Nat.reduceLT,ha,apT];have:=qvd hrf hls hrs hf hok hl.1 ps.length 0 300 (cells ps) [] (by omega) (by omega) (by rw[q0m,q49]) (fun j _=>rfl) (by simp);rw[List.drop_zero]at this;exact this
noncomputable def q62(s:Signature)(rs:List Equation)(fuel:Int):EquationsResult:=
 if q4i s rs≠0 then⟨q4i s rs,[]⟩else if inR fuel 0 200=false then⟨3,[]⟩else match unjR s.symbols rs fuel.toNat with
  |.inl ps=>⟨0,ps⟩
  |.inr c=>⟨c,[]⟩
theorem q14(s:Signature)(rs:List Equation)(fuel:Int)(hs:sm 1048576 s)(hr:sm 1048576 rs):Call F.q14 [.agg (enc s),slc rs,.int .i64 fuel] (.agg (enc (q62 s rs fuel))):=by
 obtain⟨l⟩:=s;have hsl:l.length<=4294967296:=Nat.le_trans hs.1 (by omega);have hf:=(q57 l hsl rs (q3k (by omega) hr)).eq;show Call F.q14 [.agg [slc l],slc rs,.int .i64 fuel] _;refine q0q rfl 300 ((q14.ev _ _ _ _).trans ?_);simp only[evz,Nat.reduceLT,hf,q62,(q4s _ _ _).eq];by_cases h:q4i ⟨l⟩ rs=0
 case neg=>simp only[h,evz,Nat.reduceLT,ne_eq,gX,q6n,q65,q49]
 cases h1:inR fuel 0 200 with
 |false=>simp only[h,evz,Nat.reduceLT,ne_eq,gW,Bool.not_false,q6n,q65,q49]
 |true=>
  have hp1:=q8r.1 h1;obtain⟨k,rfl⟩:∃k:Nat,fuel=k:=⟨fuel.toNat,by omega⟩;obtain⟨_,ok,q1,q2⟩:=q6z h;have ha:=q0n ok q2 q1;simp only[h,evz,Nat.reduceLT,ne_eq,gW,Bool.not_true,reduceCtorEq,ha,gR];unfold unjR;cases hp:allN l rs rs.length 0 []with
  |inr c=>
   have hc:=qck hp;simp only[evz,Nat.reduceLT,apT,hc,q6n,q65,q49,show oSl 2 (T.sl 2 [])=some []from rfl]
  |inl ps=>
   have hl:=qne (by simp) (by simp) hp;have hok:=qo0 ok q2 (by omega) (by simp) hp;simp only[evz,Nat.reduceLT,apT];have:=quh h hs hr (fuel:=k) (by omega) hok hl.1 ps.length 0 300 (cells ps) [] (by omega) (by omega) (by rw[q0m,q49]) (fun j _=>rfl) (by simp);rw[List.drop_zero]at this;refine Eq.trans this ?_;cases unjN l rs k ps []with
   |inl o=>rfl
   |inr c=>rfl
theorem qeg{l:List Symbol}{t:List Int}:∀{n q:Nat}{r:List Int},skip (ar l) n (t.drop q)=some r->(∀m,q<=m->m<t.length-r.length->∃s∈q5i l t n q,s<=m/\m<q3v l t s)/\∀s∈q5i l t n q,q<=s/\q3v l t s<=t.length-r.length
 |0,q,r,h=>by
  rw[q45]at h;have:=Option.some.inj h;subst this;refine⟨fun m h1 h2=>?_,fun s hs=>by simp[q5i]at hs⟩;simp at h2;omega
 |n+1,q,r,h=>by
  obtain⟨h1,h2,h3,h4⟩:=qbr h;obtain⟨i1,i2⟩:=qeg h2;have hr:=qh7 h2;refine⟨fun m a1 a2=>?_,fun s hs=>?_⟩
  ·rcases Nat.lt_or_ge m (q3v l t q)with hm|hm
   ·exact⟨q,by simp[q5i],a1,hm⟩
   ·obtain⟨s,b1,b2,b3⟩:=i1 m hm a2;exact⟨s,by rw[q5i];exact gF _ b1,b2,b3⟩
  ·rw[q5i]at hs;rcases gK.1 hs with rfl|hs
   ·exact⟨gAI _,by omega⟩
   ·have:=i2 s hs;exact⟨by omega,this.2⟩
theorem qef{l:List Symbol}{t:List Int}{p:Nat}{n:Int}:n∈q1i l t p<->∃m,p<=m/\m<q3v l t p/\t[m]?=some n:=by
 unfold q1i;rw[List.mem_iff_getElem?];constructor
 ·rintro⟨i,hi⟩;rw[gV,gT]at hi;split at hi
  ·exact⟨p+i,by omega,by omega,hi⟩
  ·cases hi
 ·rintro⟨m,h1,h2,h3⟩;refine⟨m-p,?_⟩;rw[gV,gT,if_pos (by omega),show p+(m-p)=m by omega,h3]
theorem qqe{l:List Symbol}{t:List Int}(ht:TermOk l t){p:Nat}(hp:p<t.length) :
 (∀n∈q1i l t p,n=t[p]\/∃q∈q34 l t p,n∈q1i l t q)/\∀q∈q34 l t p,∀n∈q1i l t q,n∈q1i l t p:=by
 obtain⟨r,hr⟩:=qa7 ht hp;have hd:t.getD p 0=t[p]:=q6v hp
 have he:q3v l t p=t.length-r.length:=by
  have h1:skip (ar l) 1 (t.drop p)=some r:=by rw[gH hp,skip,gAJ];exact hr
  unfold q3v;rw[h1]
 obtain⟨c1,c2⟩:=qeg hr;refine⟨fun n hn=>?_,fun q hq n hn=>?_⟩
 ·obtain⟨m,h1,h2,h3⟩:=qef.1 hn;rcases Nat.eq_or_lt_of_le h1 with rfl|h1
  ·left;rw[gA hp]at h3;exact(Option.some.inj h3).symm
  ·obtain⟨s,b1,b2,b3⟩:=c1 m h1 (by omega);exact .inr ⟨s,by unfold q34;rw[hd];exact b1,qef.2 ⟨m,b2,b3,h3⟩⟩
 ·unfold q34 at hq;rw[hd]at hq;obtain⟨m,h1,h2,h3⟩:=qef.1 hn;have:=c2 q hq;exact qef.2 ⟨m,by omega,by omega,h3⟩
theorem qwt{l:List Symbol}{o a b:List Int}(ha:TermOk l a)(hb:TermOk l b):∀(d i j:Nat)(hi:i<a.length)(hj:j<b.length),(a.length-i)+(b.length-j)<=d->gt l o a b i j=true->0<=a[i]/\∀n∈q1i l b j,n<0->n∈q1i l a i:=by
 intro d;induction d with
 |zero=>intros;omega
 |succ d ih=>
  intro i j hi hj hd h;rw[qqn ha hb hi hj]at h;have hai:a.getD i 0=a[i]:=q6v hi;have hbj:b.getD j 0=b[j]:=q6v hj;obtain⟨sa1,sa2⟩:=qqe ha hi;obtain⟨sb1,sb2⟩:=qqe hb hj;unfold cell at h;rw[hai,hbj]at h;split at h
  ·rename_i hv;rw[gC,decide_eq_true_iff,decide_eq_true_iff]at h;refine⟨h.1,fun n hn hneg=>?_⟩;rcases sb1 n hn with rfl|⟨q,hq,_⟩
   ·exact h.2
   ·unfold q34 at hq;rw[hbj,q9l l hv]at hq;simp[q5i]at hq
  rename_i hv;split at h
  ·cases h
  rename_i hav;refine⟨by omega,fun n hn hneg=>?_⟩;split at h
  ·rename_i hany;obtain⟨p,hp,h1⟩:=List.any_eq_true.1 hany;have hpl:=q5a ha hi hp;rw[Bool.or_eq_true,decide_eq_true_iff]at h1;rcases h1 with h1|h1
   ·exact sa2 p hp n (h1▸hn)
   ·exact sa2 p hp n ((ih p j hpl.2 hj (by omega) h1).2 n hn hneg)
  split at h
  ·cases h
  split at h
  ·cases h
  rename_i hall;rcases sb1 n hn with rfl|⟨q,hq,hnq⟩
  ·omega
  ·have hql:=q5a hb hj hq
   have hg:gt l o a b i q=true:=by
    cases hgq:gt l o a b i q with
    |true=>rfl
    |false=>exact absurd (List.any_eq_true.2 ⟨q,hq,by rw[hgq];rfl⟩) hall
   exact(ih i q hi hql.2 (by omega) hg).2 n hnq hneg
theorem qj8{l:List Symbol}{t:List Int}(ht:TermOk l t):q1i l t 0=t:=by
 have:q3v l t 0=t.length:=by unfold q3v;rw[List.drop_zero,ht.skip];simp
 unfold q1i;rw[this];simp
theorem qwi{l:List Symbol}{o:List Int}{e:Equation}(he:EqOk l e)(h:gt l o e.left e.right 0 0=true):q9e e=true:=by
 have hl:=he.left.pos;have hr:=he.right.pos;obtain⟨h1,h2⟩:=qwt he.left he.right _ 0 0 (by omega) (by omega) (gAI _) h;rw[qj8 he.left,qj8 he.right]at h2;unfold q9e;rw[gC,decide_eq_true_iff];refine⟨?_,?_⟩
 ·have hh:∀(t:List Int)(ht:0<t.length),t.headD 0=t[0]:=fun t ht=>by
   cases t with
   |nil=>simp at ht
   |cons x r=>rfl
  rw[hh _ (by omega)];exact h1
 ·rw[Bool.not_eq_true',Bool.eq_false_iff];intro hany;obtain⟨n,hn,hx⟩:=List.any_eq_true.1 hany;rw[decide_eq_true_iff]at hx;exact hx.2 (h2 n hn hx.1)
theorem qal{s:Signature}{o:List Int}{rs:List Equation}(h:q4n s o rs=true):q4i s rs=0:=by
 unfold q4n at h;rw[gC,gC,decide_eq_true_iff,decide_eq_true_iff]at h;obtain⟨⟨h1,h2⟩,h3⟩:=h;obtain⟨q1,q2⟩:=q9f.1 h2
 have hs:q3y s=0:=by
  unfold q4e at h1;split at h1
  ·rename_i hx;exact absurd h1 hx
  ·rename_i hx;simpa using hx
 unfold q4i q8n;rw[if_neg (by simpa using hs),if_neg (by simpa using h2),if_neg];intro hany;obtain⟨e,he,hx⟩:=List.any_eq_true.1 hany;unfold qgz at h3;rw[Bool.not_eq_true',Bool.eq_false_iff]at h3;apply h3;refine List.any_eq_true.2 ⟨e,he,?_⟩;cases hg:gt s.symbols o e.left e.right 0 0 with
 |false=>rfl
 |true=>rw[qwi (q2 e he) hg]at hx;cases hx
noncomputable def q5d(s:Signature)(o:List Int)(rs:List Equation):Bool:=
 q4n s o rs&&(decide ((q62 s rs 200).code=0)&&decide ((q62 s rs 200).list.length=0))
theorem q4y(s:Signature)(o:List Int)(rs:List Equation)(hs:sm 1048576 s)(ho:sm 1048576 o)(hr:sm 1048576 rs):Call F.q4y [.agg (enc s),slc o,slc rs] (.bool (q5d s o rs)):=by
 have hu:=q14 s rs 200 hs hr;have hd:=q4q s o rs hs ho hr;obtain⟨l⟩:=s;have hu:Call F.q14 [.agg [slc l],slc rs,.int .i64 200] (.agg (enc (q62 ⟨l⟩ rs 200))):=hu;have hd:Call F.q4q [.agg [slc l],slc o,slc rs] (.bool (q4n ⟨l⟩ o rs)):=hd;show Call F.q4y [.agg [slc l],slc o,slc rs] _;refine q0q rfl 0 ((q4y.ev _ _ _ _).trans ?_);rw[q6n]at hu;simp only[evz,Nat.reduceLT,hu.eq,hd.eq,q5d];cases q4n ⟨l⟩ o rs with
 |false=>rfl
 |true=>
  by_cases hc:(q62 ⟨l⟩ rs 200).code=0
  ·have e:(((q62 ⟨l⟩ rs 200).list.length:Nat):Int)=0<->(q62 ⟨l⟩ rs 200).list.length=0:=by omega
   simp only[hc,evz,Nat.reduceLT,Bool.true_and,decide_eq_decide.2 e]
  ·simp only[hc,evz,Nat.reduceLT,Bool.true_and,Bool.false_and]
theorem q4m(s:Signature)(o:List Int)(rs:List Equation)(hs:sm 1048576 s)(ho:sm 1048576 o)(hr:sm 1048576 rs):Call F.q4m [.agg (enc s),slc o,slc rs] (.bool (q5d s o rs)):=by
 have hd:=q4p s o rs hs ho hr;obtain⟨l⟩:=s;have hd:Call F.q4p [.agg [slc l],slc o,slc rs] (.bool (q4n ⟨l⟩ o rs)):=hd;show Call F.q4m [.agg [slc l],slc o,slc rs] _;refine q0q rfl 0 ((q4m.ev _ _ _ _).trans ?_);simp only[evz,Nat.reduceLT,hd.eq,q5d];cases hdd:q4n ⟨l⟩ o rs with
 |false=>rfl
 |true=>
  have hrf:=qal hdd;have hu:=q17 hrf hs hr (fuel:=200) (by omega)
  have hx:q62 ⟨l⟩ rs 200=match unjR l rs 200 with
   |.inl ps=>⟨0,ps⟩
   |.inr c=>⟨c,[]⟩:=by
   unfold q62;rw[if_neg (by simpa using hrf),if_neg (by decide)];rfl
  rw[hx];have hu:LIM F.q17 [.rref [slc l] 0,slc rs,.int .i64 200]=apT (unjR l rs 200):=hu;cases hr:unjR l rs 200 with
  |inl ps=>
   rw[hr]at hu;have e:((ps.length:Nat):Int)=0<->ps.length=0:=by omega
   simp only[evz,Nat.reduceLT,hu,apT,Bool.true_and,Bool.not_true,decide_eq_decide.2 e]
  |inr c=>
   rw[hr]at hu;have hc:=qs1 hr;simp only[evz,Nat.reduceLT,hu,apT,hc,Bool.not_true,Bool.false_and,Bool.true_and,show oSl 2 (T.sl 2 [])=some []from rfl]
def rise(n:Nat):List Int:=(List.range n).map fun(i:Nat)=>(i:Int)
theorem qsa(n:Nat):rise (n+1)=rise n++[(n:Int)]:=by simp[rise,List.range_succ]
theorem q8p(n:Nat):(rise n).length=n:=by simp[rise]
theorem qsi{n:Nat}{S:Nat->Nat->List Int->R}{z:List Int->R}(step:∀m k,k<n->S (m+1) k (rise k)=S m (k+1) (rise (k+1)))(stop:∀m,S (m+1) n (rise n)=z (rise n)){f:Nat}(hf:n<f) :
 S f 0 []=z (rise n):=by
 have:∀m k,k<=n->n<m+k->S m k (rise k)=z (rise n):=by
  intro m;induction m with
  |zero=>intros;omega
  |succ m ih=>
   intro k hk hm;by_cases h:k<n
   ·rw[step m k h];exact ih (k+1) (by omega) (by omega)
   ·obtain rfl:k=n:=by omega
    exact stop m
 exact this f 0 (by omega) (by omega)
theorem q2r(n:Nat)(hs:n<=1048576):Call F.q2r [.int .i64 n] (slc (rise n)):=by
 refine q0q rfl (n+1) ((q2r.ev _ _).trans ?_);refine qsi (n:=n) (S:=fun m k o=>q2r.at0 (n+1) m (q2r.st0 n (k:Nat) (cells o))) (z:=fun o=>some (slc o,[])) (fun m k h=>?_) (fun m=>?_) (by omega)
 ·simp only[q2r.next0,q2r.round0,evz,Nat.reduceLT,h,q0m,q8p,q3o,q2w,<- qsa];rw[q0k (by omega),q1o (q41 (by omega))]
 ·simp only[q2r.next0,q2r.round0,evz,Nat.reduceLT,gAK]
end Ev.Ty
end
section
namespace Ev.Ty
open Go Ev
section
variable {l:List Symbol}(ok:SigOk ⟨l⟩)
include ok
end
end Ev.Ty
end
