/- Steps on the way to RowRedexes: TyUnifyP, TyPeakP, TyUnify, TyUnify2, TyPeak, TyPeak2, TyPeaks, TyAllPeaks, TyUnjoined, TyDeriveP, TyDerive, TyNewC, TyOrient, TyDraw8, TyRedexP, TyLParts, TyLRedexes. -/
import Derived.Test.YtcggahcabnaelaaGreatDoorM4
set_option linter.unusedSectionVars false
set_option linter.unusedVariables false
set_option linter.unusedSimpArgs false
section
namespace Ev.Ty
open Go Ev
open Enc (enc)
open Sm (sm)
set_option linter.unusedSimpArgs false
set_option linter.unusedVariables false
def Free (b:Bnd) (t:List Int):Prop:=∀ n∈t,(-1 - n)∉b.1
theorem bindOf_notMem {vs:List Int} {ts:List (List Int)} {v:Int} (h:v∉vs):bindOf vs ts v=none:=by
 unfold bindOf
 rcases idx_spec (fun x:Int=>decide (x=v)) vs with ⟨h1,_⟩ | ⟨i,hi,h1,hy,_⟩
 · rw [if_pos (by omega)]
 · have:vs[i]=v:=by simpa using hy
   exact absurd (this ▸ List.getElem_mem hi) h
theorem applied_free {b:Bnd}:∀ {t:List Int},Free b t→applied b.1 b.2 t=t
 | [],_=>rfl
 | n::t,h=>by
   have ih:=applied_free (b:=b) (t:=t) fun m hm=>h m (List.mem_cons_of_mem _ hm)
   have e:applied b.1 b.2 (n::t)=(bindOf b.1 b.2 (-1 - n)).getD [n]++applied b.1 b.2 t:=by simp [applied]
   rw [e,bindOf_notMem (h n (by simp)),ih]; rfl
theorem applied_nodes {vs:List Int} {ts:List (List Int)} {P:Int→Prop} (ht:∀ x∈ts,∀ n∈x,P n) {t:List Int} (h:∀ n∈t,bindOf vs ts (-1 - n)=none→P n):∀ n∈applied vs ts t,P n:=fun n hn=>by
 unfold applied at hn
 obtain ⟨m,hm,hn⟩:=List.mem_flatMap.1 hn
 cases ho:bindOf vs ts (-1 - m) with
 | none=>rw [ho] at hn; rw [List.mem_singleton.1 hn]; exact h m hm ho
 | some o=>rw [ho] at hn; exact ht o (bindOf_mem ho) n hn
structure UB (l:List Symbol) (b:Bnd):Prop where
 mb:MB l b 12
 nd:b.1.Nodup
 free:∀ t∈b.2,Free b t
theorem UB.nil (l:List Symbol):UB l ([],[]):=⟨(MB.nil l).up (by omega),List.nodup_nil,by simp⟩
theorem UB.le {l:List Symbol} {b:Bnd} (h:UB l b):b.1.length≤12:=h.mb.le
theorem UB.applied_free {l:List Symbol} {b:Bnd} (h:UB l b) (t:List Int):Free b (applied b.1 b.2 t):=applied_nodes h.free fun n _ hn=>bindOf_none h.mb.len hn
def one (v:Int) (t:List Int):Bnd:=([v],[t])
abbrev Pr:=Equation
def argsOf (l:List Symbol) (x y:List Int):List Pr:=((starts l x 0).zip (starts l y 0)).map fun p=>⟨subAt l x p.1,subAt l y p.2⟩
def psize (b:Bnd) (ps:List Pr):Nat:=(ps.map fun p=>(applied b.1 b.2 p.left).length+(applied b.1 b.2 p.right).length).sum
theorem sum_starts {l:List Symbol} {t:List Int} (ht:TermOk l t):∀ {n p:Nat} {r:List Int},skip (ar l) n (t.drop p)=some r→((startsN l t n p).map fun q=>(subAt l t q).length).sum+r.length=t.length - p
 | 0,p,r,h=>by
   rw [skip_zero] at h
   rw [← Option.some.inj h]
   simp [startsN]
 | n+1,p,r,h=>by
   obtain ⟨h1,h2,h3,h4⟩:=skip_one h
   have ih:=sum_starts ht h2
   have hs:=(sub_split ht h1).2.1
   rw [startsN,List.map_cons,List.sum_cons]
   omega
theorem sum_args {l:List Symbol} {t:List Int} (ht:TermOk l t):((starts l t 0).map fun q=>(subAt l t q).length).sum+1=t.length:=by
 have hp:=ht.pos
 obtain ⟨r,hr⟩:=args_skip ht (p:=0) (by omega)
 have hd:t.getD 0 0=t[0]:=getD_at (by omega)
 have h:=sum_starts ht hr
 have hw:=ht.skip
 have e:t=t[0]::t.drop 1:=by
  have:=List.drop_eq_getElem_cons (l:=t) (i:=0) (by omega)
  rwa [List.drop_zero] at this
 rw [e,skip,Nat.zero_add] at hw
 rw [Nat.zero_add,hw] at hr
 have:r=[]:=(Option.some.inj hr).symm
 subst this
 unfold starts
 rw [hd]
 simp at h ⊢
 omega
theorem zip_sum {α β:Type} (f:α→Nat) (g:β→Nat):∀ (A:List α) (B:List β),A.length=B.length→((A.zip B).map fun p=>f p.1+g p.2).sum=(A.map f).sum+(B.map g).sum
 | [],[],_=>rfl
 | a::A,b::B,h=>by
   have ih:=zip_sum f g A B (by simpa using h)
   simp only [List.zip_cons_cons,List.map_cons,List.sum_cons] at ih ⊢
   omega
 | [],_::_,h=>by simp at h
 | _::_,[],h=>by simp at h
theorem subAt_sub {l:List Symbol} {t:List Int} {p:Nat}:∀ n∈subAt l t p,n∈t:=fun n hn=>List.mem_of_mem_take (List.mem_of_mem_drop hn)
theorem args_size {l:List Symbol} {b:Bnd} {x y:List Int} (hx:TermOk l x) (hy:TermOk l y) (fx:Free b x) (fy:Free b y) (he:x.getD 0 0=y.getD 0 0):psize b (argsOf l x y)+2=x.length+y.length:=by
 have e:(argsOf l x y).map (fun p=>(applied b.1 b.2 p.left).length+(applied b.1 b.2 p.right).length)=((starts l x 0).zip (starts l y 0)).map fun p=>(subAt l x p.1).length+(subAt l y p.2).length:=by
  unfold argsOf
  rw [List.map_map]
  refine List.map_congr_left fun p hp => ?_
  show (applied b.1 b.2 (subAt l x p.1)).length+(applied b.1 b.2 (subAt l y p.2)).length=_
  rw [applied_free fun n hn=>fx n (subAt_sub n hn),applied_free fun n hn=>fy n (subAt_sub n hn)]
 have hl:(starts l x 0).length=(starts l y 0).length:=by unfold starts; rw [startsN_length,startsN_length,he]
 unfold psize
 rw [e,zip_sum (fun p=>(subAt l x p).length) (fun q=>(subAt l y q).length) _ _ hl]
 have:=sum_args hx
 have:=sum_args hy
 omega
end Ev.Ty
end
section
namespace Ev.Ty
open Go Ev
open Enc (enc)
open Sm (sm)
set_option linter.unusedSimpArgs false
set_option linter.unusedVariables false
theorem applied_ge {b:Bnd} {l:List Symbol} {k:Nat} (hb:MB l b k):∀ t:List Int,t.length≤(applied b.1 b.2 t).length
 | []=>by simp [applied]
 | n::t=>by
   have ih:=applied_ge hb t
   have e:applied b.1 b.2 (n::t)=(bindOf b.1 b.2 (-1 - n)).getD [n]++applied b.1 b.2 t:=by simp [applied]
   rw [e,List.length_append,List.length_cons]
   cases ho:bindOf b.1 b.2 (-1 - n) with
   | none=>simp; omega
   | some o =>
     have:=(hb.tm o (bindOf_mem ho)).pos
     simp; omega
def pstep (seen:List Int) (n:Int):Int × List Int :=
 if 0≤n then (n,seen) else if idx (fun x=>decide (x=n)) seen < 0 then (-1 - (seen.length:Int),seen++[n]) else (-1 - idx (fun x=>decide (x=n)) seen,seen)
def plainL:List Int→List Int→List Int × List Int
 | seen,[]=>([],seen)
 | seen,n::t=>((pstep seen n).1::(plainL (pstep seen n).2 t).1,(plainL (pstep seen n).2 t).2)
theorem plainL_append:∀ (seen a b:List Int),plainL seen (a++b)=((plainL seen a).1++(plainL (plainL seen a).2 b).1,(plainL (plainL seen a).2 b).2)
 | seen,[],b=>rfl
 | seen,n::a,b=>by
   rw [List.cons_append,plainL,plainL_append,plainL]; rfl
theorem plainL_length:∀ (seen t:List Int),(plainL seen t).1.length=t.length∧(plainL seen t).2.length≤seen.length+t.length∧seen.length≤(plainL seen t).2.length
 | seen,[]=>⟨rfl,by simp [plainL],by simp [plainL]⟩
 | seen,n::t=>by
   have ih:=plainL_length (pstep seen n).2 t
   have hp:(pstep seen n).2.length≤seen.length+1∧seen.length≤(pstep seen n).2.length:=by
    unfold pstep
    split
    · exact ⟨by simp,by simp⟩
    split
    · simp
    · exact ⟨by simp,by simp⟩
   rw [plainL]
   simp only [List.length_cons]
   omega
def plainE (e:Equation):Equation:=⟨(plainL [] e.left).1,(plainL (plainL [] e.left).2 e.right).1⟩
def seenE (e:Equation):List Int:=(plainL (plainL [] e.left).2 e.right).2
end Ev.Ty
end
section
namespace Ev.Ty
open Go Ev
open Enc (enc)
open Sm (sm)
set_option linter.unusedSimpArgs false
set_option linter.unusedVariables false
def StackOk (b:Bnd) (ps:List Pr):Prop:=∃ new old:List Pr,ps=new++old∧psize b new≤46∧old.length≤24*b.1.length+1
theorem psize_len {l:List Symbol} {b:Bnd} (hb:UB l b):∀ {ps:List Pr},(∀ p∈ps,TermOk l p.left∧TermOk l p.right)→2*ps.length≤psize b ps
 | [],_=>by simp [psize]
 | p::ps,h=>by
   have ih:=psize_len hb (ps:=ps) fun q hq=>h q (List.mem_cons_of_mem _ hq)
   have hp:=h p (by simp)
   have h1:=applied_ge hb.mb p.left
   have h2:=applied_ge hb.mb p.right
   have:=hp.1.pos
   have:=hp.2.pos
   simp only [psize,List.map_cons,List.sum_cons,List.length_cons] at ih ⊢
   omega
theorem StackOk.len {l:List Symbol} {b:Bnd} (hb:UB l b) {ps:List Pr} (hps:∀ p∈ps,TermOk l p.left∧TermOk l p.right) (h:StackOk b ps):ps.length≤400:=by
 obtain ⟨new,old,rfl,h1,h2⟩:=h
 have:=psize_len hb (ps:=new) fun q hq=>hps q (List.mem_append_left _ hq)
 have:=hb.le
 rw [List.length_append]
 omega
theorem psize_cons (b:Bnd) (p:Pr) (ps:List Pr):psize b (p::ps)=(applied b.1 b.2 p.left).length+(applied b.1 b.2 p.right).length+psize b ps:=by simp [psize]
theorem psize_append (b:Bnd) (ps qs:List Pr):psize b (ps++qs)=psize b ps+psize b qs:=by simp [psize]
theorem StackOk.tail {b:Bnd} {p:Pr} {ps:List Pr} (h:StackOk b (p::ps)):StackOk b ps:=by
 obtain ⟨new,old,e,h1,h2⟩:=h
 cases new with
 | nil =>
   rw [List.nil_append] at e
   subst e
   exact ⟨[],ps,rfl,by simp [psize],by simp at h2; omega⟩
 | cons q new =>
   rw [List.cons_append] at e
   injection e with e1 e2
   rw [psize_cons] at h1
   exact ⟨new,old,e2,by omega,h2⟩
theorem StackOk.bind {l:List Symbol} {b b':Bnd} (hb:UB l b) {p:Pr} {ps:List Pr} (hps:∀ q∈p::ps,TermOk l q.left∧TermOk l q.right) (h:StackOk b (p::ps)) (hl:b'.1.length=b.1.length+1):StackOk b' ps:=by
 obtain ⟨new,old,e,h1,h2⟩:=h.tail
 have:=psize_len hb (ps:=new) fun q hq=>hps q (List.mem_cons_of_mem _ (e ▸ List.mem_append_left _ hq))
 exact ⟨[],ps,rfl,by simp [psize],by rw [e,List.length_append]; omega⟩
theorem StackOk.args {b:Bnd} {p:Pr} {ps qs:List Pr} (h:StackOk b (p::ps)) (hq:psize b qs+2=(applied b.1 b.2 p.left).length+(applied b.1 b.2 p.right).length) (h1:(applied b.1 b.2 p.left).length≤24) (h2:(applied b.1 b.2 p.right).length≤24):StackOk b (qs++ps):=by
 obtain ⟨new,old,e,h3,h4⟩:=h
 cases new with
 | nil =>
   rw [List.nil_append] at e
   subst e
   exact ⟨qs,ps,rfl,by omega,by simp at h4; omega⟩
 | cons q new =>
   rw [List.cons_append] at e
   injection e with e1 e2
   subst e1
   rw [psize_cons] at h3
   exact ⟨qs++new,old,by rw [e2,List.append_assoc],by rw [psize_append]; omega,h4⟩
section
variable {l:List Symbol} (ok:SigOk ⟨l⟩)
include ok
end
end Ev.Ty
end
section
namespace Ev.Ty
open Go Ev
open Enc (enc)
open Sm (sm)
set_option linter.unusedSimpArgs false
set_option linter.unusedVariables false
section
variable {l:List Symbol} (ok:SigOk ⟨l⟩)
include ok
end
end Ev.Ty
end
section
namespace Ev.Ty
open Go Ev
open Enc (enc)
open Sm (sm)
set_option linter.unusedSimpArgs false
set_option linter.unusedVariables false
theorem idx_neg_iff {s:List Int} {n:Int}:idx (fun x=>decide (x=n)) s < 0↔n∉s:=by
 rcases idx_spec (fun x:Int=>decide (x=n)) s with ⟨h1,h2⟩ | ⟨i,hi,h1,h2,_⟩
 · exact ⟨fun _ hm=>by have:=h2 n hm; simp at this,fun _=>by omega⟩
 · exact ⟨fun h=>by omega,fun h=>absurd ((show s[i]=n by simpa using h2) ▸ List.getElem_mem hi) h⟩
theorem idx_range (s:List Int) (n:Int) : -1≤idx (fun x=>decide (x=n)) s∧idx (fun x=>decide (x=n)) s < s.length+1:=by
 rcases idx_spec (fun x:Int=>decide (x=n)) s with ⟨h1,_⟩ | ⟨i,hi,h1,_,_⟩ <;> omega
def plSt (seen t:List Int) (k:Nat):List Int × List Int:=((plainL seen (t.take k)).1++t.drop k,(plainL seen (t.take k)).2)
theorem plSt_len (seen t:List Int) {k:Nat} (hk:k≤t.length):(plSt seen t k).1.length=t.length:=by
 have:=(plainL_length seen (t.take k)).1
 unfold plSt; simp only [List.length_append,this]; simp; omega
theorem plSt_get (seen t:List Int) {k:Nat} (h:k < t.length):(plSt seen t k).1[k]?=some t[k]:=by
 have hl:=(plainL_length seen (t.take k)).1
 rw [List.length_take,Nat.min_eq_left (Nat.le_of_lt h)] at hl
 unfold plSt
 simp only
 rw [List.getElem?_append_right (by omega),hl,Nat.sub_self,List.drop_eq_getElem_cons h]; rfl
theorem plSt_seen (seen t:List Int) (k:Nat):(plSt seen t k).2.length≤seen.length+k:=by
 have:=(plainL_length seen (t.take k)).2.1
 unfold plSt
 simp at this ⊢
 omega
theorem plSt_succ (seen t:List Int) {k:Nat} (h:k < t.length):plSt seen t (k+1)=((plSt seen t k).1.set k (pstep (plSt seen t k).2 t[k]).1,(pstep (plSt seen t k).2 t[k]).2):=by
 have hl:=(plainL_length seen (t.take k)).1
 rw [List.length_take,Nat.min_eq_left (Nat.le_of_lt h)] at hl
 unfold plSt
 simp only
 rw [← List.take_append_getElem h,plainL_append,List.set_append_right _ _ (by omega),hl,Nat.sub_self,List.drop_eq_getElem_cons h,List.set_cons_zero]
 simp [plainL]
theorem plSt_zero (seen t:List Int):plSt seen t 0=(t,seen):=by simp [plSt,plainL]
theorem plSt_end (seen t:List Int):plSt seen t t.length=plainL seen t:=by simp [plSt]
theorem plSt_pos (seen t:List Int) {k:Nat} (h:k < t.length) (h0:0≤t[k]):plSt seen t (k+1)=plSt seen t k:=by
 have e:=plSt_succ seen t h
 have:pstep (plSt seen t k).2 t[k]=(t[k],(plSt seen t k).2):=by unfold pstep; rw [if_pos h0]
 rw [e,this,set_same (plSt_get seen t h)]
theorem plSt_new (seen t:List Int) {k:Nat} (h:k < t.length) (h0:¬ 0≤t[k]) (hn:t[k]∉(plSt seen t k).2) :
 plSt seen t (k+1)=((plSt seen t k).1.set k (-1 - ((plSt seen t k).2.length:Int)),(plSt seen t k).2++[t[k]]):=by
 rw [plSt_succ seen t h]
 unfold pstep
 rw [if_neg h0,if_pos (idx_neg_iff.2 hn)]
theorem plSt_old (seen t:List Int) {k:Nat} (h:k < t.length) (h0:¬ 0≤t[k]) (hn:t[k]∈(plSt seen t k).2) :
 plSt seen t (k+1)=((plSt seen t k).1.set k (-1 - idx (fun x=>decide (x=t[k])) (plSt seen t k).2),(plSt seen t k).2):=by
 rw [plSt_succ seen t h]
 unfold pstep
 rw [if_neg h0,if_neg (fun e=>idx_neg_iff.1 e hn)]
theorem spec_l4Plain (a b:List Int) (ha:a.length≤1024) (hb:b.length≤1024):Call F.spec_l4Plain [.rref [slc a,slc b] 0]
 (.tup [.agg [slc (if (seenE ⟨a,b⟩).length≤6 then (plainE ⟨a,b⟩).left else []),slc (if (seenE ⟨a,b⟩).length≤6 then (plainE ⟨a,b⟩).right else [])],.bool (decide ((seenE ⟨a,b⟩).length≤6))]):=by
 refine call_of rfl 3000 ((spec_l4Plain.ev _ _ _).trans ?_)
 simp only [evz,Nat.reduceLT,(spec_l1Ints' a (by omega)).eq,scalars_int,← cells_append]
 rw [cond_pos (ble_ok (by rw [cells_length,cells_length,sz_int]; omega))]
 have htl:(a++b).length≤2048:=by simp; omega
 obtain ⟨t,hte⟩:∃ t,t=a++b:=⟨_,rfl⟩
 rw [← hte] at htl ⊢
 have key:=run_loop (n:=t.length) (f:=3000) (S:=fun m k (o:List Int × List Int)=>spec_l4Plain.at0 3000 m (spec_l4Plain.st0 (cells a) (cells b) (k:Nat) (cells o.1) (cells o.2)))
  (st:=fun k=>plSt [] t k) (z:=some (.tup [.agg [slc (if (seenE ⟨a,b⟩).length≤6 then (plainE ⟨a,b⟩).left else []),slc (if (seenE ⟨a,b⟩).length≤6 then (plainE ⟨a,b⟩).right else [])],.bool (decide ((seenE ⟨a,b⟩).length≤6))],[])) (fun m k h => ?_) (fun m => ?_) (by omega)
 · rw [plSt_zero] at key; exact key
 · have hl:=plSt_len [] t (Nat.le_of_lt h)
   have hg:=plSt_get [] t h
   have hsl:=plSt_seen [] t k
   have hp:=plSt_pos [] t h
   have hnw:=plSt_new [] t h
   have hod:=plSt_old [] t h
   generalize plSt [] t (k+1)=P at *
   generalize plSt [] t k=Q at *
   obtain ⟨M,s⟩:=Q
   simp only at hl hg hsl hp hnw hod
   have hkM:k < M.length:=by omega
   have hkc:k*1+1≤(cells M).length:=by rw [cells_length,sz_int]; omega
   have hix:=(spec_l2Rank s t[k] (by simp at hsl; omega)).eq
   unfold rank at hix
   have hrg:=idx_range s t[k]
   have hsl':s.length≤2048:=by simp at hsl; omega
   by_cases h0:0≤t[k]
   · have h0':t[k] ≥ 0:=h0
     rw [hp h0]
     simp only [spec_l4Plain.next0,spec_l4Plain.round0,evz,Nat.reduceLT,h,hg,hkM,enc_int,h0']
     rw [wrap_succ (by omega)]
   · have h0':¬ t[k] ≥ 0:=h0
     by_cases hm:t[k]∈s
     · rw [hod h0 hm]
       have:=set_Int hkM (-1 - idx (fun x=>decide (x=t[k])) s)
       have hi:¬ idx (fun x=>decide (x=t[k])) s < 0:=fun e=>idx_neg_iff.1 e hm
       simp only [spec_l4Plain.next0,spec_l4Plain.round0,evz,Nat.reduceLT,h,hg,hkM,enc_int,h0',hix,hi,wrap64 (x := -1 - idx (fun x=>decide (x=t[k])) s) (by omega),this,hkc]
       rw [wrap_succ (by omega)]
     · rw [hnw h0 hm]
       have:=set_Int hkM (-1 - (s.length:Int))
       have hi:idx (fun x=>decide (x=t[k])) s < 0:=idx_neg_iff.2 hm
       simp only [spec_l4Plain.next0,spec_l4Plain.round0,evz,Nat.reduceLT,h,hg,hkM,enc_int,h0',hix,hi,cells_snoc_int,wrap64 (x := -1 - (s.length:Int)) (by omega),this,hkc]
       rw [wrap_succ (by omega),cond_pos (ble_ok (by rw [cells_length,sz_int]; omega))]
 · rw [plSt_end,hte,plainL_append]
   have hl1:=(plainL_length [] a).1
   have hl2:=(plainL_length (plainL [] a).2 b).1
   have es:seenE ⟨a,b⟩=(plainL (plainL [] a).2 b).2:=rfl
   simp only [spec_l4Plain.next0,spec_l4Plain.round0,evz,Nat.reduceLT,List.length_append,hl1,hl2,Nat.lt_irrefl,es]
   by_cases h6:(plainL (plainL [] a).2 b).2.length≤6
   · have h6':¬ (((plainL (plainL [] a).2 b).2.length:Nat):Int) > 6:=by omega
     have c1:((((plainL [] a).1++(plainL (plainL [] a).2 b).1).take a.length).drop 0)=(plainL [] a).1:=by rw [List.drop_zero,← hl1,List.take_left]
     have c2:((((plainL [] a).1++(plainL (plainL [] a).2 b).1).take (a.length+b.length)).drop a.length)=(plainL (plainL [] a).2 b).1:=by
      rw [List.take_of_length_le (by rw [List.length_append]; omega),← hl1,List.drop_left]
     simp only [h6,h6',evz,Nat.reduceLT]
     rw [cond_pos (by simp; omega),slc_cut,c1,(spec_l1Ints' _ (by omega)).eq]
     simp only [evz,Nat.reduceLT]
     rw [cond_pos (by simp; omega),slc_cut,c2,(spec_l1Ints' _ (by omega)).eq]
     simp only [evz,Nat.reduceLT]
     rfl
   · have h6':(((plainL (plainL [] a).2 b).2.length:Nat):Int) > 6:=by omega
     simp only [h6,h6',evz,Nat.reduceLT,slc_nil]
end Ev.Ty
end
section
namespace Ev.Ty
open Go Ev
open Enc (enc)
open Sm (sm)
set_option linter.unusedSimpArgs false
set_option linter.unusedVariables false
section
variable {l:List Symbol} (ok:SigOk ⟨l⟩)
include ok
end
end Ev.Ty
end
section
namespace Ev.Ty
open Go Ev
open Enc (enc)
open Sm (sm)
set_option linter.unusedSimpArgs false
set_option linter.unusedVariables false
section
variable {l:List Symbol} (ok:SigOk ⟨l⟩)
include ok
end
end Ev.Ty
end
section
namespace Ev.Ty
open Go Ev
open Enc (enc)
open Sm (sm)
set_option linter.unusedSimpArgs false
set_option linter.unusedVariables false
section
variable {l:List Symbol} (ok:SigOk ⟨l⟩) {rs:List Equation} (hr:∀ e∈rs,EqOk l e) (hl:rs.length≤12)
include ok hr hl
end
end Ev.Ty
end
section
namespace Ev.Ty
open Go Ev
open Enc (enc)
open Sm (sm)
set_option linter.unusedSimpArgs false
set_option linter.unusedVariables false
section
variable {l:List Symbol} {rs:List Equation} (hrf:rulesFault ⟨l⟩ rs=0) (hls:sm 1048576 (Signature.mk l)) (hrs:sm 1048576 rs) {fuel:Nat} (hf:fuel≤200)
include hrf hls hrs hf
end
end Ev.Ty
end
section
namespace Ev.Ty
open Go Ev
open Enc (enc)
open Sm (sm)
set_option linter.unusedSimpArgs false
set_option linter.unusedVariables false
def two (e:Entry):Bool:=decide (e.kind=4)||decide (e.kind=5)
structure NumsOk (eqn enn:Nat) (e:Entry):Prop where
 kind:e.kind=1∨e.kind=2∨e.kind=3∨e.kind=4∨e.kind=5
 a0:0≤e.a
 given:e.kind=1→e.a.toNat < eqn
 other:e.kind≠1→e.a.toNat < enn
 b:e.kind=4∨e.kind=5→0≤e.b∧e.b.toNat < enn
 side:e.side=0∨(e.kind=4∧e.side=1)
 zero:e.kind≠4→e.kind≠5→e.b=0∧e.place=0
theorem nodup_sub:∀ {s t:List Int},s.Nodup→s ⊆ t→s.length≤t.length
 | [],t,_,_=>Nat.zero_le _
 | x::s,t,h,hs=>by
   have hx:x∈t:=hs (by simp)
   rw [List.nodup_cons] at h
   have h1:s ⊆ t.erase x:=fun y hy=>by
    refine (List.mem_erase_of_ne (fun (e:y=x)=>h.1 (by rw [← e]; exact hy))).2 (hs (List.mem_cons_of_mem _ hy))
   have h2:=nodup_sub h.2 h1
   rw [List.length_erase_of_mem hx] at h2
   have:=List.length_pos_of_mem hx
   rw [List.length_cons]
   omega
theorem six {s:List Int} (h1:s.Nodup) (h2:∀ m∈s,-6≤m∧m < 0):s.length≤6:=by
 have:s ⊆ [-6,-5,-4,-3,-2,-1]:=fun m hm=>by
  have:=h2 m hm
  simp only [List.mem_cons,List.not_mem_nil,or_false]
  omega
 exact nodup_sub h1 this
end Ev.Ty
end
section
namespace Ev.Ty
open Go Ev
open Enc (enc)
open Sm (sm)
set_option linter.unusedSimpArgs false
set_option linter.unusedVariables false
theorem EqOk.small {l:List Symbol} {e:Equation} (h:EqOk l e):sm 1048576 e:=⟨⟨by have:=h.left.le; omega,fun _ _=>trivial⟩,⟨by have:=h.right.le; omega,fun _ _=>trivial⟩⟩
section
variable {l:List Symbol} (ok:SigOk ⟨l⟩) (hs:sm 1048576 (Signature.mk l)) {eqs:List Equation} {ents:List Entry} (hq:∀ x∈eqs,EqOk l x) (he:∀ x∈ents,EqOk l (eqOf x)) (hql:eqs.length≤12) (hel:ents.length≤500)
include ok hs hq he hql hel
end
section
variable {l:List Symbol} (ok:SigOk ⟨l⟩) (hs:sm 1048576 (Signature.mk l)) {eqs:List Equation} (hq:∀ x∈eqs,EqOk l x) (hql:eqs.length≤12) {ents:List Entry} (hel:ents.length≤500)
include ok hs hq hql hel
end
end Ev.Ty
end
section
namespace Ev.Ty
open Go Ev
open Enc (enc)
open Sm (sm)
set_option linter.unusedSimpArgs false
set_option linter.unusedVariables false
section
variable {l:List Symbol} (ok:SigOk ⟨l⟩) (hs:sm 1048576 (Signature.mk l)) {eqs:List Equation} (hqs:sm 1048576 eqs) (hq:∀ x∈eqs,EqOk l x) (hql:eqs.length≤12) {o:List Int} (ho:sm 1048576 o)
include ok hs hqs hq hql ho
end
end Ev.Ty
end
section
namespace Ev.Ty
open Go Ev
open Enc (enc)
open Sm (sm)
set_option linter.unusedSimpArgs false
set_option linter.unusedVariables false
set_option maxHeartbeats 2000000
set_option maxRecDepth 10000
def orientC (s:Signature) (o a b:List Int):Int:=if cmpF s o a b=0 then if cmpV s.symbols o a b=1∨cmpV s.symbols o a b=2 then 0 else 10 else cmpF s o a b
def orientL (s:Signature) (o a b:List Int):List Int:=if cmpF s o a b=0 then if cmpV s.symbols o a b=1 then a else if cmpV s.symbols o a b=2 then b else [] else []
def orientE (s:Signature) (o a b:List Int):List Int:=if cmpF s o a b=0 then if cmpV s.symbols o a b=1 then b else if cmpV s.symbols o a b=2 then a else [] else []
theorem copy_eq (x y:List Int) (h1:x.length≤4294967296) (h2:y.length≤4294967296):Call F.spec_l4Copy [.rref [slc x,slc y] 0] (.agg [slc x,slc y]):=by
 refine call_of rfl 0 ((spec_l4Copy.ev _ _ _).trans ?_)
 simp only [evz,Nat.reduceLT,(spec_l1Ints x h1).eq,(spec_l1Ints y h2).eq]
theorem spec_OrientEquation (l:List Symbol) (hsl:l.length≤4294967296) (o:List Int) (hol:o.length≤4294967296) (a b:List Int) (ha:a.length≤4294967296) (hb:b.length≤4294967296) :
 Call F.spec_OrientEquation [.agg [slc l],slc o,.agg [slc a,slc b]] (.agg [.int .i64 (orientC ⟨l⟩ o a b),slc (orientL ⟨l⟩ o a b),slc (orientE ⟨l⟩ o a b)]):=by
 refine call_of rfl 0 ((spec_OrientEquation.ev _ _ _ _ _).trans ?_)
 simp only [evz,Nat.reduceLT,(spec_OrderFault l hsl o hol).eq]
 have bad:∀ c:Int,cmpF ⟨l⟩ o a b=c→¬ c=0→orientC ⟨l⟩ o a b=c∧orientL ⟨l⟩ o a b=[]∧orientE ⟨l⟩ o a b=[]:=fun c h1 h2=>by
  subst h1
  exact ⟨if_neg h2,if_neg h2,if_neg h2⟩
 by_cases h0:orderFault ⟨l⟩ o=0
 case neg =>
  obtain ⟨b1,b2,b3⟩:=bad (orderFault ⟨l⟩ o) (by unfold cmpF; rw [if_neg h0]) h0
  rw [b1,b2,b3]
  simp only [h0,evz,Nat.reduceLT,ne_eq,not_false_eq_true]
  rfl
 have h1:=(orderF_ok h0).1
 have ok:=sigOk_of h1
 simp only [h0,evz,Nat.reduceLT,ne_eq,not_true_eq_false,(spec_l3Fault l ok a ha).eq,(spec_l3Fault l ok b hb).eq]
 by_cases h2:termFault0 l a=0
 case neg =>
  obtain ⟨b1,b2,b3⟩:=bad (termFault0 l a) (by unfold cmpF; rw [if_pos h0,termFault_0 h1,termFault_0 h1,if_neg h2]) h2
  rw [b1,b2,b3]
  simp only [h2,evz,Nat.reduceLT,ne_eq,not_false_eq_true]
  rfl
 by_cases h3:termFault0 l b=0
 case neg =>
  obtain ⟨b1,b2,b3⟩:=bad (termFault0 l b) (by unfold cmpF; rw [if_pos h0,termFault_0 h1,termFault_0 h1,if_pos h2]) h3
  rw [b1,b2,b3]
  simp only [h2,h3,evz,Nat.reduceLT,ne_eq,not_false_eq_true,not_true_eq_false]
  rfl
 have h:cmpF ⟨l⟩ o a b=0:=by unfold cmpF; rw [if_pos h0,termFault_0 h1,termFault_0 h1,if_pos h2,h3]
 obtain ⟨_,q1,q2,q3,q4⟩:=cmpF_ok h
 rw [orientC,orientL,orientE]
 simp only [h,h2,h3,evz,Nat.reduceLT,ne_eq,not_true_eq_false,(spec_l7Compare ok q1 q2 q3 q4).eq]
 by_cases v1:cmpV l o a b=1
 · simp only [v1,evz,Nat.reduceLT,(copy_eq a b ha hb).eq,true_or]
 · by_cases v2:cmpV l o a b=2
   · simp only [v1,v2,evz,Nat.reduceLT,(spec_l1Ints a ha).eq,(spec_l1Ints b hb).eq,or_true,show ¬ (2:Int)=1 by decide]
   · simp only [v1,v2,evz,Nat.reduceLT,or_self,not_false_eq_true]
     rfl
theorem orient_small (l:List Symbol) (o a b:List Int) {n:Nat} (ha:a.length≤n) (hb:b.length≤n):(orientL ⟨l⟩ o a b).length≤n∧(orientE ⟨l⟩ o a b).length≤n:=by
 unfold orientL orientE
 split
 · split
   · exact ⟨ha,hb⟩
   · split
     · exact ⟨hb,ha⟩
     · exact ⟨Nat.zero_le _,Nat.zero_le _⟩
 · exact ⟨Nat.zero_le _,Nat.zero_le _⟩
def EqS (n:Nat) (es:List Equation):Prop:=es.length≤n∧∀ e∈es,e.left.length≤1001∧e.right.length≤1001
theorem EqS.sm {n:Nat} {es:List Equation} (h:EqS n es) (hn:n≤1001):Sm.sm 1048576 es:=⟨by have:=h.1; omega,fun e he=>⟨⟨by have:=(h.2 e he).1; omega,fun _ _=>trivial⟩,⟨by have:=(h.2 e he).2; omega,fun _ _=>trivial⟩⟩⟩
theorem EqS.snoc {n:Nat} {es:List Equation} (h:EqS n es) {a b:List Int} (ha:a.length≤1001) (hb:b.length≤1001):EqS (n+1) (es++[⟨a,b⟩]):=⟨by have:=h.1; simp; omega,fun e he=>by
 rcases List.mem_append.1 he with h1 | h1
 · exact h.2 e h1
 · rw [List.mem_singleton.1 h1]; exact ⟨ha,hb⟩⟩
theorem cells_eq (es:List Equation) (a b:List Int):cells es++[slc a,slc b]=cells (es++[⟨a,b⟩]):=by rw [cells_append]; rfl
section
variable {code:List UInt8} (hc:code.length≤2097152)
include hc
theorem spec_l7Rules {l:List Symbol} (ok:SigOk ⟨l⟩) (o:List Int) (ho:o.length≤1000) (p n:Int) (hn:0≤n∧n≤12) (hp:0≤p∧p≤1099400000000) :
 Drawn code p 100000 (fun x=>∃ es,x=slc es∧EqS n.toNat es) (LIM F.spec_l7Rules [.rref [slc code,.int .i64 p] 0,.rref [slc l] 0,slc o,.int .i64 n]):=by
 have hll:l.length≤6:=ok.le
 refine drawn_of rfl 20 ?_
 rw [show callK prog A H LIM 20 F.spec_l7Rules [.rref [slc code,.int .i64 p] 0,.rref [slc l] 0,slc o,.int .i64 n]=_ from spec_l7Rules.ev _ _ _ _ _ _]
 rw [show IntKind.wrap .i64 (n+1)=n+1 from wrap64 (by omega)]
 refine next_s hc (by omega) fun v h1 h2 => ?_
 have h2:=h2 (by omega)
 simp only [evz,Nat.reduceLT]
 refine draw_loop (σ:=Int × Int × List Equation) (S:=fun m s=>spec_l7Rules.at0 20 m (spec_l7Rules.st0 (cells l) (cells o) s.1 (cells code) s.2.1 (cells s.2.2))) (fun s=>0≤s.1∧s.1≤n∧p≤s.2.1∧s.2.1≤p+1+(n - s.1)*6300∧EqS (n - s.1).toNat s.2.2) (fun s=>s.1.toNat) (fun m s hs => ?_) _ (v,p+1,[]) ⟨h1,by simp only; omega,by simp only; omega,by simp only; omega,⟨by simp,by simp⟩⟩ (by simp only; omega)
 obtain ⟨k,q,es⟩:=s
 obtain ⟨g1,g2,g3,g4,g5⟩:=hs
 simp only at g1 g2 g3 g4 g5 ⊢
 have hes:=g5.1
 by_cases hk:k > 0
 case neg =>
  left
  simp only [spec_l7Rules.next0,spec_l7Rules.round0,evz,Nat.reduceLT,hk]
  exact drawn_end (by omega) ⟨es,rfl,by omega,g5.2⟩
 right
 have wk:IntKind.wrap .i64 (k - 1)=k - 1:=wrap64 (by omega)
 obtain ⟨_,q2,e1,c1,c2,a,b,rfl,heq⟩:=spec_l4Draw hc ok q (by omega)
 have hal:=heq.left.le
 have hbl:=heq.right.le
 simp only at hal hbl
 have e2:=(spec_OrientEquation l (by omega) o (by omega) a b (by omega) (by omega)).eq
 obtain ⟨s1,s2⟩:=orient_small l o a b hal hbl
 have skip:EqS (n - (k - 1)).toNat es:=⟨by omega,g5.2⟩
 by_cases h0:orientC ⟨l⟩ o a b=0
 · generalize hx:orientL ⟨l⟩ o a b=x at *
   generalize hy:orientE ⟨l⟩ o a b=y at *
   have e3:=(spec_l4Plain x y (by omega) (by omega)).eq
   have l1:=(plainL_length [] x).1
   have l2:=(plainL_length (plainL [] x).2 y).1
   by_cases h6:(seenE ⟨x,y⟩).length≤6
   · refine ⟨(k - 1,q2,es++[⟨(plainE ⟨x,y⟩).left,(plainE ⟨x,y⟩).right⟩]),?_,⟨by simp only; omega,by simp only; omega,by simp only; omega,by simp only; omega,?_⟩,by simp only; omega⟩
     · simp only [h6,if_true,decide_true] at e3
       simp only [spec_l7Rules.next0,spec_l7Rules.round0,evz,Nat.reduceLT,hk,wk,e1,e2,h0,e3]
       rw [cond_pos (ble_ok (by rw [cells_length]; simp only [sz_Equation]; omega)),cells_eq]
     · simp only
       have:=g5.snoc (a:=(plainE ⟨x,y⟩).left) (b:=(plainE ⟨x,y⟩).right) (by show (plainL [] x).1.length≤1001; omega) (by show (plainL (plainL [] x).2 y).1.length≤1001; omega)
       exact ⟨by have:=this.1; omega,this.2⟩
   · refine ⟨(k - 1,q2,es),?_,⟨by simp only; omega,by simp only; omega,by simp only; omega,by simp only; omega,skip⟩,by simp only; omega⟩
     simp only [h6,if_false,decide_false] at e3
     simp only [spec_l7Rules.next0,spec_l7Rules.round0,evz,Nat.reduceLT,hk,wk,e1,e2,h0,e3]
 · refine ⟨(k - 1,q2,es),?_,⟨by simp only; omega,by simp only; omega,by simp only; omega,by simp only; omega,skip⟩,by simp only; omega⟩
   simp only [spec_l7Rules.next0,spec_l7Rules.round0,evz,Nat.reduceLT,hk,wk,e1,e2,h0]
omit hc in
theorem fill_rules (o:List Int) (p2 p n:Int) (hp:p≤p2∧p2≤p+200000) (hn:n≤13) (es:List Equation) (h0:0 < es.length) (he:EqS 13 es) :
 Drawn code p 200000 (fun x=>∃ es,x=slc es∧EqS 13 es) (spec_l7BentRules.at0 20 20 (spec_l7BentRules.st0 n (cells code) p2 (cells es))):=by
 refine draw_loop (σ:=List Equation) (S:=fun m s=>spec_l7BentRules.at0 20 m (spec_l7BentRules.st0 n (cells code) p2 (cells s))) (fun s=>0 < s.length∧EqS 13 s) (fun s=>13 - s.length) (fun m s hs => ?_) _ es ⟨h0,he⟩ (by omega)
 obtain ⟨g1,g2⟩:=hs
 have hs:=g2.1
 by_cases hk:((s.length:Nat):Int) < n
 case neg =>
  left
  simp only [spec_l7BentRules.next0,spec_l7BentRules.round0,evz,Nat.reduceLT,hk]
  exact drawn_end hp ⟨s,rfl,g2⟩
 right
 match s,g1 with
 | e::r,_ =>
   have hem:=g2.2 e (List.mem_cons_self ..)
   have e0:inB 0 (e::r).length=true:=(inB_nat 0 _).trans (by simp)
   have ew:((cells (e::r)).drop 0).take 2=[slc e.left,slc e.right]:=by rw [cells_cons]; rfl
   have ec:=(copy_eq e.left e.right (by omega) (by omega)).eq
   refine ⟨(e::r)++[⟨e.left,e.right⟩],?_,⟨by simp,?_⟩,by simp only [List.length_append,List.length_cons,List.length_nil] at hk ⊢; omega⟩
   · simp only [spec_l7BentRules.next0,spec_l7BentRules.round0,evz,Nat.reduceLT,hk,e0,ew,ec]
     rw [cond_pos (ble_ok (by rw [cells_length]; simp only [sz_Equation]; omega)),cells_eq]
   · exact ⟨by simp only [List.length_append,List.length_cons,List.length_nil] at hk ⊢; omega,fun x hx=>by
      rcases List.mem_append.1 hx with h | h
      · exact g2.2 x h
      · rw [List.mem_singleton.1 h]; exact hem⟩
theorem spec_l7BentRules {l:List Symbol} (hl:l.length≤1000) (o:List Int) (ho:o.length≤1000) (p:Int) (hp:0≤p∧p≤1099300000000) :
 Drawn code p 200000 (fun x=>∃ es,x=slc es∧EqS 13 es∧(0 < es.length→SigOk ⟨l⟩)) (LIM F.spec_l7BentRules [.rref [slc code,.int .i64 p] 0,.rref [slc l] 0,slc o]):=by
 refine drawn_of rfl 20 ?_
 rw [show callK prog A H LIM 20 F.spec_l7BentRules [.rref [slc code,.int .i64 p] 0,.rref [slc l] 0,slc o]=_ from spec_l7BentRules.ev _ _ _ _ _]
 have leaf:∀ (es:List Equation) (p2:Int),p≤p2∧p2≤p+200000→EqS 13 es→(0 < es.length→SigOk ⟨l⟩)→Drawn code p 200000 (fun x=>∃ es,x=slc es∧EqS 13 es∧(0 < es.length→SigOk ⟨l⟩)) (some (slc es,[.agg [slc code,.int .i64 p2]])):=fun es p2 h he hs=>drawn_end h ⟨es,rfl,he,hs⟩
 simp only [evz,Nat.reduceLT,(spec_OrderFault l (by omega) o (by omega)).eq]
 by_cases h0:orderFault ⟨l⟩ o=0
 case neg =>
  simp only [h0,evz,Nat.reduceLT,ne_eq,not_false_eq_true]
  exact leaf [] p (by omega) ⟨by simp,by simp⟩ (fun h=>absurd h (by simp))
 have ok:=sigOk_of (orderF_ok h0).1
 simp only [h0,evz,Nat.reduceLT,ne_eq,not_true_eq_false]
 refine drawn_s (spec_l7Rules hc ok o ho p 5 (by omega) (by omega)) ?_
 rintro _ p1 a1 b1 ⟨es,rfl,hes⟩
 have hes:EqS 5 es:=hes
 have hel:=hes.1
 simp only [evz,Nat.reduceLT]
 refine chance_s hc (by omega) fun b => ?_
 simp only [evz,Nat.reduceLT]
 cases b with
 | true =>
   simp only [evz,Nat.reduceLT]
   refine drawn_s (spec_l4BentEquation hc (l:=l) hl _ (by omega)) ?_
   rintro _ p2 a2 b2 ⟨a,b,rfl,ha,hb⟩
   simp only [evz,Nat.reduceLT]
   rw [cond_pos (ble_ok (by rw [cells_length]; simp only [sz_Equation]; omega))]
   refine chance_s hc (by omega) fun b => ?_
   simp only [evz,Nat.reduceLT,cells_eq]
   have h6:=hes.snoc ha hb
   cases b with
   | false=>simp only [evz,Nat.reduceLT]; exact leaf _ _ (by omega) ⟨by have:=h6.1; omega,h6.2⟩ (fun _=>ok)
   | true =>
     simp only [evz,Nat.reduceLT]
     split
     · rename_i hpos
       refine pick_s hc [12,13] rfl (by simp) (by omega) fun v hv => ?_
       have hv':v≤13:=by
        simp only [List.mem_cons,List.not_mem_nil,or_false] at hv; omega
       simp only [evz,Nat.reduceLT]
       exact (fill_rules o _ p v (by omega) hv' _ (by omega) ⟨by have:=h6.1; omega,h6.2⟩).more (Int.le_refl _) (Int.le_refl _) fun x ⟨es,e,h⟩=>⟨es,e,h,fun _=>ok⟩
     · exact leaf _ _ (by omega) ⟨by have:=h6.1; omega,h6.2⟩ (fun _=>ok)
 | false =>
   simp only [evz,Nat.reduceLT]
   refine chance_s hc (by omega) fun b => ?_
   simp only [evz,Nat.reduceLT]
   cases b with
   | false=>simp only [evz,Nat.reduceLT]; exact leaf es _ (by omega) ⟨by omega,hes.2⟩ (fun _=>ok)
   | true =>
     simp only [evz,Nat.reduceLT]
     split
     · rename_i hpos
       refine pick_s hc [12,13] rfl (by simp) (by omega) fun v hv => ?_
       have hv':v≤13:=by
        simp only [List.mem_cons,List.not_mem_nil,or_false] at hv; omega
       simp only [evz,Nat.reduceLT]
       exact (fill_rules o _ p v (by omega) hv' es (by omega) ⟨by omega,hes.2⟩).more (Int.le_refl _) (Int.le_refl _) fun x ⟨es,e,h⟩=>⟨es,e,h,fun _=>ok⟩
     · exact leaf es _ (by omega) ⟨by omega,hes.2⟩ (fun _=>ok)
end
end Ev.Ty
end
section
namespace Ev.Ty
open Go Ev
open Enc (enc)
open Sm (sm)
set_option linter.unusedSimpArgs false
set_option linter.unusedVariables false
set_option maxHeartbeats 4000000
set_option maxRecDepth 10000
section
variable {code:List UInt8} (hc:code.length≤2097152)
include hc
def Draw8Q (code:List UInt8) (r:R):Prop:=∃ (l:List Symbol) (rs:List Equation) (t:List Int) (p:Int),r=some (.tup [.agg [slc l],slc rs,slc t,.bx [slc code,.int .i64 p]],[])∧sm 7 (Signature.mk l)∧EqS 13 rs∧t.length≤1001∧0≤p∧p≤400000
theorem spec_l8Draw:∃ (l:List Symbol) (rs:List Equation) (t:List Int) (p:Int),Call F.spec_l8Draw [slc code] (.tup [.agg [slc l],slc rs,slc t,.bx [slc code,.int .i64 p]])∧sm 7 (Signature.mk l)∧EqS 13 rs∧t.length≤1001∧0≤p∧p≤400000:=by
 suffices h:∃ r,callK prog A H LIM 0 F.spec_l8Draw [slc code]=r∧Draw8Q code r by
  obtain ⟨_,e,l,rs,t,p,rfl,h⟩:=h
  exact ⟨l,rs,t,p,call_of rfl 0 e,h⟩
 refine ⟨_,spec_l8Draw.ev _ _,?_⟩
 rw [show LIM F.spec_l1Source [.sl 1 (cells code)]=_ from spec_l1Source]
 simp only [evz,Nat.reduceLT,oBx_bx]
 refine drawn_s (Q:=Draw8Q code) (spec_l2Bent hc 0 (by omega)) ?_
 rintro _ p1 a1 b1 ⟨l,rfl,hl⟩
 have hll:l.length≤7:=hl.1
 simp only [evz,Nat.reduceLT]
 refine drawn_s (Q:=Draw8Q code) (spec_l2DrawOrder hc p1 (by omega) l (by omega)) ?_
 rintro _ p2 a2 b2 ⟨o,rfl,ho⟩
 have hol:o.length≤1000:=by have:=ho.length_eq; rw [rise_length] at this; omega
 simp only [evz,Nat.reduceLT]
 refine drawn_s (Q:=Draw8Q code) (spec_l7BentRules hc (l:=l) (by omega) o hol p2 (by omega)) ?_
 rintro _ p3 a3 b3 ⟨rs,rfl,hrs,hok⟩
 have hrl:=hrs.1
 simp only [evz,Nat.reduceLT]
 refine pick_s (Q:=Draw8Q code) hc [4,8,12,20] rfl (by simp) (by omega) fun v hv => ?_
 have hv':4≤v∧v≤20:=by
  simp only [List.mem_cons,List.not_mem_nil,or_false] at hv; omega
 simp only [evz,Nat.reduceLT]
 refine pick_s (Q:=Draw8Q code) hc [0,0,3] rfl (by simp) (by omega) fun w hw => ?_
 have hw':0≤w∧w≤3:=by
  simp only [List.mem_cons,List.not_mem_nil,or_false] at hw; omega
 simp only [evz,Nat.reduceLT]
 refine drawn_s (Q:=Draw8Q code) (spec_l3BentTerm hc _ v w l (by omega) (by omega) (by omega) (by omega)) ?_
 rintro _ p4 a4 b4 ⟨t,rfl,ht⟩
 have leaf:∀ (t:List Int) (p:Int),0≤p∧p≤400000→t.length≤1001→Draw8Q code (some (.tup [.agg [slc l],slc rs,slc t,.bx [slc code,.int .i64 p]],[])):=fun t p hp ht=>⟨l,rs,t,p,rfl,hl,hrs,ht,hp⟩
 simp only [evz,Nat.reduceLT]
 split
 case isFalse=>exact leaf t _ (by omega) ht
 rename_i hpos
 have hpos:0 < rs.length:=by omega
 have ok:=hok hpos
 refine chance_s (Q:=Draw8Q code) hc (by omega) fun b => ?_
 simp only [evz,Nat.reduceLT]
 cases b with
 | false=>simp only [evz,Nat.reduceLT]; exact leaf t _ (by omega) ht
 | true =>
   simp only [evz,Nat.reduceLT,(spec_l3Fault l ok t (by omega)).eq]
   split
   case isFalse=>exact leaf t _ (by omega) ht
   rename_i h3
   simp only [evz,Nat.reduceLT,(spec_l5Fault l ok rs (sm_mono (by omega) (hrs.sm (by omega)))).eq]
   split
   case isFalse=>exact leaf t _ (by omega) ht
   rename_i h5
   refine drawn_s (Q:=Draw8Q code) (spec_l6Draw hc ok _ 3 (by omega) (by omega)) ?_
   rintro _ p5 a5 b5 ⟨vs,ts,rfl,hb,hbo⟩
   simp only [evz,Nat.reduceLT]
   refine next_s (Q:=Draw8Q code) hc (by omega) fun x hx1 hx2 => ?_
   match rs,hpos with
   | e::r,_ =>
     have e0:inB 0 (e::r).length=true:=(inB_nat 0 _).trans (by simp)
     have eL:EqOk l e:=(eqsOk_iff.1 h5).2 e (List.mem_cons_self ..)
     have ell:=eL.left.le
     have hr:∀ n∈e.left,-4611686018427387904≤n∧n≤4611686018427387904:=fun n hn=>by
      rcases nodeOk_iff.1 (eL.left.node n hn) with h | h <;> omega
     have ea:=(spec_l6Apply vs ts hbo e.left (by omega) hr).eq
     have hal:=applied_length hbo e.left
     obtain ⟨c,u,er,hu⟩:=spec_ReplaceAt l (by omega) t (by omega) x (applied vs ts e.left) (by omega)
     have g0:(cells (e::r))[0]?=some (slc e.left):=rfl
     have es:List.set (cells (e::r)) 0 (slc e.left)=cells (e::r):=rfl
     simp only [evz,Nat.reduceLT,e0,g0,ea,er.eq,es]
     split
     · exact leaf u _ (by omega) (by omega)
     · exact leaf t _ (by omega) ht
theorem spec_DrawFindRedex:∃ (l:List Symbol) (rs:List Equation) (t:List Int),Call F.spec_DrawFindRedex [slc code] (.tup [.agg [slc l],slc rs,slc t])∧sm 7 (Signature.mk l)∧EqS 13 rs∧t.length≤1001:=by
 obtain ⟨l,rs,t,p,e,h1,h2,h3,_⟩:=spec_l8Draw hc
 refine ⟨l,rs,t,call_of rfl 0 ((spec_DrawFindRedex.ev _ _).trans ?_),h1,h2,h3⟩
 simp only [evz,Nat.reduceLT,e.eq,oBx_bx]
end
end Ev.Ty
end
section
namespace Ev.Ty
open Go Ev
set_option linter.unusedSimpArgs false
set_option linter.unusedVariables false
theorem idx_congr {α:Type} {p q:α→Bool}:∀ {xs:List α},(∀ x∈xs,p x=q x)→idx p xs=idx q xs:=by
 intro xs h
 have:xs.findIdx? p=xs.findIdx? q:=by
  induction xs with
  | nil=>rfl
  | cons x xs ih =>
    rw [List.findIdx?_cons,List.findIdx?_cons,h x (List.mem_cons_self ..),ih fun y hy=>h y (List.mem_cons_of_mem _ hy)]
 unfold idx
 rw [this]
section
variable {l:List Symbol} {rs:List Equation}
theorem redex_best (t:List Int):IsBest (endAt l t) (fits l rs t) 0 t.length (redex l rs t) :=
 down_best _ _ t.length t.length (-1,-1) (Nat.le_refl _) (.inl ⟨rfl,fun a h1 h2=>by omega⟩)
theorem normal_iff {t:List Int}:(redex l rs t).1 < 0↔∀ a,a < t.length→fits l rs t a < 0:=by
 rcases redex_best (l:=l) (rs:=rs) t with ⟨h,hn⟩ | ⟨a,_,ha,h,hf,_⟩
 · rw [h]; exact ⟨fun _ a ha=>hn a (Nat.zero_le _) ha,fun _=>by decide⟩
 · rw [h]
   refine ⟨fun h => ?_,fun h => ?_⟩
   · simp only at h; omega
   · have:=h a ha; omega
variable (hr:∀ e∈rs,EqOk l e)
include hr
omit hr in
theorem matchAt_in {q t:List Int} (hq:TermOk l q) (ht:TermOk l t) {p:Nat} (hp:p < t.length) {i:Nat} (hi:i < (subAt l t p).length):matchAt l q (subAt l t p) i=matchAt l q t (p+i):=by
 obtain ⟨h1,_,_,h4⟩:=sub_place ht hp hi
 rw [← matchAt_sub hq (subAt_ok ht hp) hi,h4,matchAt_sub hq ht h1]
theorem fits_sub {t:List Int} (ht:TermOk l t) {p:Nat} (hp:p < t.length) {i:Nat} (hi:i < (subAt l t p).length):fits l rs (subAt l t p) i=fits l rs t (p+i) :=
 idx_congr fun e he=>by rw [matchAt_in (hr e he).left ht hp hi]
theorem redex_inner {t:List Int} (ht:TermOk l t) (h:¬ (redex l rs t).1 < 0):∃ a k:Nat,∃ _:k < rs.length,redex l rs t=((a:Int),(k:Int))∧a < t.length∧(matchAt l rs[k].left t a).isSome=true ∧
 ¬ (redex l rs (subAt l t a)).1 < 0∧∀ i,0 < i→i < (subAt l t a).length→(redex l rs (subAt l (subAt l t a) i)).1 < 0:=by
 rcases redex_best (l:=l) (rs:=rs) t with ⟨e,_⟩ | ⟨a,_,ha,e,hf,hbest⟩
 · rw [e] at h; exact absurd (by decide) h
 have hsub:=subAt_ok ht ha
 have hs0:0 < (subAt l t a).length:=hsub.pos
 have f0:=fits_sub hr ht ha hs0
 rw [Nat.add_zero] at f0
 have hspec:=idx_spec (fun e:Equation=>(matchAt l e.left t a).isSome) rs
 obtain ⟨k,hk,ek,hm⟩:∃ k,∃ h:k < rs.length,fits l rs t a=(k:Nat)∧(matchAt l rs[k].left t a).isSome=true:=by
  rcases hspec with ⟨h1,_⟩ | h2
  · unfold fits at hf; rw [h1] at hf; omega
  · obtain ⟨k,hk,e1,e2,_⟩:=h2
    exact ⟨k,hk,e1,e2⟩
 refine ⟨a,k,hk,by rw [e,ek],ha,hm,fun hn => ?_,fun i hi0 hi=>normal_iff.2 fun q hq => ?_⟩
 · have:=normal_iff.1 hn 0 hs0
   omega
 · obtain ⟨s1,_,s3,s4⟩:=sub_place ht ha hi
   rw [s4] at hq ⊢
   rw [fits_sub hr ht s1 hq]
   apply Classical.byContradiction
   intro hge
   obtain ⟨p1,_,p3,_⟩:=sub_place ht s1 hq
   have hb:=hbest (a+i+q) (Nat.zero_le _) p1 (by omega)
   obtain ⟨_,hlen,_⟩:=sub_split ht ha
   obtain ⟨_,hlen2,_⟩:=sub_split ht s1
   obtain ⟨g1,g2,_⟩:=endAt_spec ht ha
   obtain ⟨g3,g4,_⟩:=endAt_spec ht s1
   have he1:=(endAt_spec hsub hi).2.1
   have he2:=(endAt_spec (subAt_ok ht s1) hq).2.1
   omega
end
section
variable {l:List Symbol} {rs:List Equation}
end
end Ev.Ty
end
section
namespace Ev.Ty
open Go Ev
open Enc (enc)
open Sm (sm)
set_option linter.unusedSimpArgs false
set_option linter.unusedVariables false
set_option maxHeartbeats 1000000
theorem impl_SubtermAt {l:List Symbol} (hl:l.length≤1000) {t:List Int} (ok:SigOk ⟨l⟩) (ht:TermOk l t) {p:Nat} (hp:p < t.length):Call F.impl_SubtermAt [.agg [slc l],slc t,.int .i64 p] (.agg [.int .i64 0,slc (subAt l t p)]):=by
 have hle:=ht.le
 have hsl:=(subAt_ok ht hp).le
 have ef:=(impl_TermFault l (by omega) t (by omega)).eq
 rw [termFault_0 ((sigOk_iff _).2 ok),(termOk_iff l t).2 ht] at ef
 have w:IntKind.wrap .i64 (((t.length:Nat):Int) - 1)=((t.length:Nat):Int) - 1:=wrap64 (by omega)
 have hin:inR (p:Int) 0 (((t.length:Nat):Int) - 1)=true:=by unfold inR; simp; omega
 have ew:=(impl_within (p:Int) 0 (((t.length:Nat):Int) - 1)).eq
 rw [hin] at ew
 have ep:LIM F.impl_placeFault [.agg [slc l],slc t,.int .i64 p]=some (.int .i64 0,[]):=by
  refine lim_of rfl 0 ((impl_placeFault.ev _ _ _ _).trans ?_)
  simp only [evz,Nat.reduceLT,ef,ew,w,bne_self_eq_false,ne_eq,not_true_eq_false,Bool.not_true]
 refine call_of rfl 0 ((impl_SubtermAt.ev _ _ _ _).trans ?_)
 simp only [evz,Nat.reduceLT,ep,(impl_subterm ok ht hp).eq,(slices_Clone_Sint64 (subAt l t p) (by omega)).eq,bne_self_eq_false,ne_eq,not_true_eq_false]
end Ev.Ty
end
section
namespace Ev.Ty
open Go Ev
open Enc (enc)
open Sm (sm)
set_option linter.unusedSimpArgs false
set_option linter.unusedVariables false
set_option maxHeartbeats 4000000
set_option maxRecDepth 10000
theorem rewriteFault_sub {l:List Symbol} {rs:List Equation} {t u:List Int} (h:rewriteFault ⟨l⟩ rs t=0) (hu:TermOk l u):rewriteFault ⟨l⟩ rs u=0:=by
 unfold rewriteFault at h ⊢
 by_cases h1:rulesFault ⟨l⟩ rs≠0
 · rw [if_pos h1] at h; exact absurd h h1
 · rw [if_neg h1]; exact (termOk_iff l u).2 hu
theorem isNormalR_iff {l:List Symbol} {rs:List Equation} {t u:List Int} (h:rewriteFault ⟨l⟩ rs t=0) (hu:TermOk l u):isNormalR ⟨l⟩ rs u=decide ((redex l rs u).1 < 0):=by
 unfold isNormalR findRedexR
 rw [if_neg (by simpa using rewriteFault_sub h hu)]
 by_cases h1:(redex l rs u).1 < 0
 · rw [if_pos h1,decide_eq_true h1]; rfl
 · rw [if_neg h1,decide_eq_false h1]; rfl
theorem laws_FnRedexes (code:List UInt8) (h:sm maxLen code):Call F.laws_FnRedexes [slc code] (.bool true):=by
 by_cases hbig:(code.length:Int) > 1048576
 · exact call_of rfl 0 ((laws_FnRedexes.ev _ _).trans (by simp only [evz,Nat.reduceLT,(laws_lwBig (code:=code)).eq,hbig]))
 have hc:code.length≤2097152:=by omega
 obtain ⟨l,rs,t,ed,hl,hrs,ht⟩:=spec_DrawFindRedex hc
 have hll:l.length≤7:=hl.1
 have s1:sm 1048576 (Signature.mk l):=sm_mono (by omega) hl
 have s2:sm 1048576 rs:=hrs.sm (by omega)
 have s3:∀ {u:List Int},u.length≤1001→sm 1048576 u:=fun h=>⟨by omega,fun _ _=>trivial⟩
 have eF:LIM F.impl_FindRedex [.agg [slc l],slc rs,slc t]=_:=(impl_FindRedex ⟨l⟩ rs t s1 s2 (s3 ht)).eq
 have eF':LIM F.spec_FindRedex [.agg [slc l],slc rs,slc t]=_:=(spec_FindRedex ⟨l⟩ rs t s1 s2 (s3 ht)).eq
 have eN:∀ u:List Int,u.length≤1001→LIM F.impl_IsNormal [.agg [slc l],slc rs,slc u]=some (.bool (isNormalR ⟨l⟩ rs u),[]):=fun u hu=>(impl_IsNormal ⟨l⟩ rs u s1 s2 (s3 hu)).eq
 have eR:=(impl_RulesFault l (by omega) rs (sm_mono (by omega) s2)).eq
 have eR':=(spec_RulesFault l (by omega) rs (sm_mono (by omega) s2)).eq
 have eN0:=eN t ht
 have hN0:isNormalR ⟨l⟩ rs t=decide ((findRedexR ⟨l⟩ rs t).code=4):=rfl
 rw [hN0] at eN0
 rw [enc_RedexResult] at eF eF'
 by_cases h0:(findRedexR ⟨l⟩ rs t).code=0
 case neg =>
  refine call_of rfl 0 ((laws_FnRedexes.ev _ _).trans ?_)
  simp only [evz,Nat.reduceLT,(laws_lwBig (code:=code)).eq,hbig,ed.eq,eF,eF',eN0,eR,eR',bne_self_eq_false,ne_eq,not_true_eq_false,beq_self_eq_true,Bool.not_true,h0,not_false_eq_true,decide_true]
 have hrf:rewriteFault ⟨l⟩ rs t=0:=Classical.byContradiction fun hne=>by
  unfold findRedexR at h0; rw [if_pos hne] at h0; exact hne h0
 obtain ⟨ok,hn,hr,tt⟩:=rewriteFault_ok hrf
 have hx:¬ (redex l rs t).1 < 0:=fun hlt=>by
  unfold findRedexR at h0; rw [if_neg (by simpa using hrf),if_pos hlt] at h0; cases h0
 obtain ⟨a,k,hk,er,ha,hm,hnn,hin⟩:=redex_inner hr tt hx
 have hfr:findRedexR ⟨l⟩ rs t=⟨0,(a:Int),(k:Int)⟩:=by
  unfold findRedexR; rw [if_neg (by simpa using hrf),if_neg hx,er]
 rw [hfr] at eF eF' eN0
 have eW:LIM F.impl_RewriteAt [.agg [slc l],slc rs,.int .i64 (k:Int),.int .i64 (a:Int),slc t]=_:=(impl_RewriteAt ⟨l⟩ rs k a t s1 s2 (s3 ht)).eq
 have i1:inR (k:Int) 0 (((rs.length:Nat):Int) - 1)=true:=by unfold inR; simp; omega
 have i2:inR (a:Int) 0 (((t.length:Nat):Int) - 1)=true:=by unfold inR; simp; omega
 have hW:rewriteAtR ⟨l⟩ rs k a t=stepAt l rs[k] t a:=by
  unfold rewriteAtR
  rw [if_neg (by simpa using hrf),if_neg (by rw [i1,i2]; simp)]
  simp [hk]
 rw [hW,enc_TermResult] at eW
 have hcW:(stepAt l rs[k] t a).code=0∨(stepAt l rs[k] t a).code=2:=by
  unfold stepAt
  cases e:matchAt l rs[k].left t a with
  | none=>rw [e] at hm; cases hm
  | some b =>
    simp only
    split
    · exact .inr rfl
    · exact .inl rfl
 have hs:=subAt_ok tt ha
 have hsl:=hs.le
 have hsp:=hs.pos
 have eS:=(impl_SubtermAt (by omega) ok tt ha).eq
 have eN1:=eN (subAt l t a) (by omega)
 rw [isNormalR_iff hrf hs,decide_eq_false hnn] at eN1
 generalize hu:subAt l t a=u at *
 have key:∀ (d i f:Nat) (c:Int),i+1+d=u.length→d < f→laws_FnRedexes.at0 (u.length+1) f (laws_FnRedexes.st0 ((i+1:Nat):Int) (cells l) (cells rs) (cells u) c)=some (.bool true,[]):=by
  intro d
  induction d with
  | zero =>
    intro i f c hk hf
    obtain ⟨f,rfl⟩:∃ g,f=g+1:=⟨f - 1,by omega⟩
    have n1:¬ i+1 < u.length:=by omega
    simp only [laws_FnRedexes.next0,laws_FnRedexes.round0,evz,Nat.reduceLT,n1]
  | succ d ih =>
    intro i f c hk hf
    obtain ⟨f,rfl⟩:∃ g,f=g+1:=⟨f - 1,by omega⟩
    have n1:i+1 < u.length:=by omega
    have hs2:=subAt_ok hs n1
    have e1:=(impl_SubtermAt (by omega) ok hs n1).eq
    have e2:=eN (subAt l u (i+1)) (by have:=hs2.le; omega)
    rw [isNormalR_iff hrf hs2,decide_eq_true (hin (i+1) (by omega) n1)] at e2
    simp only [laws_FnRedexes.next0,laws_FnRedexes.round0,evz,Nat.reduceLT,n1,e1,e2,Bool.not_true]
    rw [wrap_succ (by omega)]
    exact ih (i+1) f c (by omega) (by omega)
 have fin:∀ c,laws_FnRedexes.at0 (u.length+1) (u.length+1) (laws_FnRedexes.st0 1 (cells l) (cells rs) (cells u) c)=some (.bool true,[]):=fun c=>key (u.length - 1) 0 (u.length+1) c (by omega) (by omega)
 refine call_of rfl (u.length+1) ((laws_FnRedexes.ev _ _).trans ?_)
 generalize hcw:(stepAt l rs[k] t a).code=cw at *
 rcases hcW with rfl | rfl
 · simp only [evz,Nat.reduceLT,(laws_lwBig (code:=code)).eq,hbig,ed.eq,eF,eF',eN0,eN1,eW,eS,bne_self_eq_false,ne_eq,not_true_eq_false,beq_self_eq_true,Bool.not_true,not_false_eq_true,decide_true,show ¬ (0:Int)=4 by decide,decide_false,Bool.not_false]
   exact fin _
 · simp only [evz,Nat.reduceLT,(laws_lwBig (code:=code)).eq,hbig,ed.eq,eF,eF',eN0,eN1,eW,eS,bne_self_eq_false,ne_eq,not_true_eq_false,beq_self_eq_true,Bool.not_true,not_false_eq_true,decide_true,show ¬ (0:Int)=4 by decide,show ¬ (2:Int)=0 by decide,decide_false,Bool.not_false]
   exact fin _
end Ev.Ty
end
