/- Steps on the way to RowSteps: TyUnify, TyUnify2, TyPeak, TyPeak2, TyPeaks, TyAllPeaks, TyUnjoined, TyDeriveP, TyDerive, TyNewC, TyOrient, TyDraw8, TyRedexP, TyLParts, TyLRedexes, TySoundP, TyStabP, TyLSteps. -/
import Derived.Test.YtgmpnljofoadnaaGreatDoorM5
set_option linter.unusedSectionVars false
set_option linter.unusedVariables false
set_option linter.unusedSimpArgs false
section
namespace Ev.Ty
open Go Ev
open Enc (enc)
open Sm (sm)
set_option linter.unusedSimpArgs false
set_option linter.unusedVariables false
def StackOk (b:Bnd) (ps:List Pr):Prop:=∃ new old:List Pr,ps=new++old∧psize b new≤46∧old.length≤24*b.1.length+1
theorem psize_len {l:List Symbol} {b:Bnd} (hb:UB l b):∀ {ps:List Pr},(∀ p∈ps,TermOk l p.left∧TermOk l p.right)→2*ps.length≤psize b ps
 | [],_=>by simp [psize]
 | p::ps,h=>by
   have ih:=psize_len hb (ps:=ps) fun q hq=>h q (List.mem_cons_of_mem _ hq)
   have hp:=h p (by simp)
   have h1:=applied_ge hb.mb p.left
   have h2:=applied_ge hb.mb p.right
   have:=hp.1.pos
   have:=hp.2.pos
   simp only [psize,List.map_cons,List.sum_cons,List.length_cons] at ih ⊢
   omega
theorem StackOk.len {l:List Symbol} {b:Bnd} (hb:UB l b) {ps:List Pr} (hps:∀ p∈ps,TermOk l p.left∧TermOk l p.right) (h:StackOk b ps):ps.length≤400:=by
 obtain ⟨new,old,rfl,h1,h2⟩:=h
 have:=psize_len hb (ps:=new) fun q hq=>hps q (List.mem_append_left _ hq)
 have:=hb.le
 rw [List.length_append]
 omega
theorem psize_cons (b:Bnd) (p:Pr) (ps:List Pr):psize b (p::ps)=(q1q b.1 b.2 p.left).length+(q1q b.1 b.2 p.right).length+psize b ps:=by simp [psize]
theorem psize_append (b:Bnd) (ps qs:List Pr):psize b (ps++qs)=psize b ps+psize b qs:=by simp [psize]
theorem StackOk.tail {b:Bnd} {p:Pr} {ps:List Pr} (h:StackOk b (p::ps)):StackOk b ps:=by
 obtain ⟨new,old,e,h1,h2⟩:=h
 cases new with
 | nil =>
   rw [List.nil_append] at e
   subst e
   exact ⟨[],ps,rfl,by simp [psize],by simp at h2; omega⟩
 | cons q new =>
   rw [List.cons_append] at e
   injection e with e1 e2
   rw [psize_cons] at h1
   exact ⟨new,old,e2,by omega,h2⟩
theorem StackOk.bind {l:List Symbol} {b b':Bnd} (hb:UB l b) {p:Pr} {ps:List Pr} (hps:∀ q∈p::ps,TermOk l q.left∧TermOk l q.right) (h:StackOk b (p::ps)) (hl:b'.1.length=b.1.length+1):StackOk b' ps:=by
 obtain ⟨new,old,e,h1,h2⟩:=h.tail
 have:=psize_len hb (ps:=new) fun q hq=>hps q (List.mem_cons_of_mem _ (e ▸ List.mem_append_left _ hq))
 exact ⟨[],ps,rfl,by simp [psize],by rw [e,List.length_append]; omega⟩
theorem StackOk.args {b:Bnd} {p:Pr} {ps qs:List Pr} (h:StackOk b (p::ps)) (hq:psize b qs+2=(q1q b.1 b.2 p.left).length+(q1q b.1 b.2 p.right).length) (h1:(q1q b.1 b.2 p.left).length≤24) (h2:(q1q b.1 b.2 p.right).length≤24):StackOk b (qs++ps):=by
 obtain ⟨new,old,e,h3,h4⟩:=h
 cases new with
 | nil =>
   rw [List.nil_append] at e
   subst e
   exact ⟨qs,ps,rfl,by omega,by simp at h4; omega⟩
 | cons q new =>
   rw [List.cons_append] at e
   injection e with e1 e2
   subst e1
   rw [psize_cons] at h3
   exact ⟨qs++new,old,by rw [e2,List.append_assoc],by rw [psize_append]; omega,h4⟩
section
variable {l:List Symbol} (ok:SigOk ⟨l⟩)
include ok
end
end Ev.Ty
end
section
namespace Ev.Ty
open Go Ev
open Enc (enc)
open Sm (sm)
set_option linter.unusedSimpArgs false
set_option linter.unusedVariables false
section
variable {l:List Symbol} (ok:SigOk ⟨l⟩)
include ok
end
end Ev.Ty
end
section
namespace Ev.Ty
open Go Ev
open Enc (enc)
open Sm (sm)
set_option linter.unusedSimpArgs false
set_option linter.unusedVariables false
theorem q8v {s:List Int} {n:Int}:idx (fun x=>decide (x=n)) s < 0↔n∉s:=by
 rcases q60 (fun x:Int=>decide (x=n)) s with ⟨h1,h2⟩ | ⟨i,hi,h1,h2,_⟩
 · exact ⟨fun _ hm=>by have:=h2 n hm; simp at this,fun _=>by omega⟩
 · exact ⟨fun h=>by omega,fun h=>absurd ((show s[i]=n by simpa using h2) ▸ List.getElem_mem hi) h⟩
theorem idx_range (s:List Int) (n:Int) : -1≤idx (fun x=>decide (x=n)) s∧idx (fun x=>decide (x=n)) s < s.length+1:=by
 rcases q60 (fun x:Int=>decide (x=n)) s with ⟨h1,_⟩ | ⟨i,hi,h1,_,_⟩ <;> omega
def plSt (seen t:List Int) (k:Nat):List Int × List Int:=((q3f seen (t.take k)).1++t.drop k,(q3f seen (t.take k)).2)
theorem plSt_len (seen t:List Int) {k:Nat} (hk:k≤t.length):(plSt seen t k).1.length=t.length:=by
 have:=(q4z seen (t.take k)).1
 unfold plSt; simp only [List.length_append,this]; simp; omega
theorem plSt_get (seen t:List Int) {k:Nat} (h:k < t.length):(plSt seen t k).1[k]?=some t[k]:=by
 have hl:=(q4z seen (t.take k)).1
 rw [List.length_take,Nat.min_eq_left (Nat.le_of_lt h)] at hl
 unfold plSt
 simp only
 rw [List.getElem?_append_right (by omega),hl,Nat.sub_self,List.drop_eq_getElem_cons h]; rfl
theorem plSt_seen (seen t:List Int) (k:Nat):(plSt seen t k).2.length≤seen.length+k:=by
 have:=(q4z seen (t.take k)).2.1
 unfold plSt
 simp at this ⊢
 omega
theorem plSt_succ (seen t:List Int) {k:Nat} (h:k < t.length):plSt seen t (k+1)=((plSt seen t k).1.set k (pstep (plSt seen t k).2 t[k]).1,(pstep (plSt seen t k).2 t[k]).2):=by
 have hl:=(q4z seen (t.take k)).1
 rw [List.length_take,Nat.min_eq_left (Nat.le_of_lt h)] at hl
 unfold plSt
 simp only
 rw [← List.take_append_getElem h,q99,List.set_append_right _ _ (by omega),hl,Nat.sub_self,List.drop_eq_getElem_cons h,List.set_cons_zero]
 simp [q3f]
theorem plSt_zero (seen t:List Int):plSt seen t 0=(t,seen):=by simp [plSt,q3f]
theorem plSt_end (seen t:List Int):plSt seen t t.length=q3f seen t:=by simp [plSt]
theorem plSt_pos (seen t:List Int) {k:Nat} (h:k < t.length) (h0:0≤t[k]):plSt seen t (k+1)=plSt seen t k:=by
 have e:=plSt_succ seen t h
 have:pstep (plSt seen t k).2 t[k]=(t[k],(plSt seen t k).2):=by unfold pstep; rw [if_pos h0]
 rw [e,this,set_same (plSt_get seen t h)]
theorem plSt_new (seen t:List Int) {k:Nat} (h:k < t.length) (h0:¬ 0≤t[k]) (hn:t[k]∉(plSt seen t k).2) :
 plSt seen t (k+1)=((plSt seen t k).1.set k (-1 - ((plSt seen t k).2.length:Int)),(plSt seen t k).2++[t[k]]):=by
 rw [plSt_succ seen t h]
 unfold pstep
 rw [if_neg h0,if_pos (q8v.2 hn)]
theorem plSt_old (seen t:List Int) {k:Nat} (h:k < t.length) (h0:¬ 0≤t[k]) (hn:t[k]∈(plSt seen t k).2) :
 plSt seen t (k+1)=((plSt seen t k).1.set k (-1 - idx (fun x=>decide (x=t[k])) (plSt seen t k).2),(plSt seen t k).2):=by
 rw [plSt_succ seen t h]
 unfold pstep
 rw [if_neg h0,if_neg (fun e=>q8v.1 e hn)]
theorem q18 (a b:List Int) (ha:a.length≤1024) (hb:b.length≤1024):Call F.q18 [.rref [slc a,slc b] 0]
 (.tup [.agg [slc (if (seenE ⟨a,b⟩).length≤6 then (plainE ⟨a,b⟩).left else []),slc (if (seenE ⟨a,b⟩).length≤6 then (plainE ⟨a,b⟩).right else [])],.bool (decide ((seenE ⟨a,b⟩).length≤6))]):=by
 refine q0v rfl 3000 ((q18.ev _ _ _).trans ?_)
 simp only [evz,Nat.reduceLT,(q5w a (by omega)).eq,q3n,← q36]
 rw [q22 (q3v (by rw [q0t,q0t,q39]; omega))]
 have htl:(a++b).length≤2048:=by simp; omega
 obtain ⟨t,hte⟩:∃ t,t=a++b:=⟨_,rfl⟩
 rw [← hte] at htl ⊢
 have key:=run_loop (n:=t.length) (f:=3000) (S:=fun m k (o:List Int × List Int)=>q18.at0 3000 m (q18.st0 (cells a) (cells b) (k:Nat) (cells o.1) (cells o.2)))
  (st:=fun k=>plSt [] t k) (z:=some (.tup [.agg [slc (if (seenE ⟨a,b⟩).length≤6 then (plainE ⟨a,b⟩).left else []),slc (if (seenE ⟨a,b⟩).length≤6 then (plainE ⟨a,b⟩).right else [])],.bool (decide ((seenE ⟨a,b⟩).length≤6))],[])) (fun m k h => ?_) (fun m => ?_) (by omega)
 · rw [plSt_zero] at key; exact key
 · have hl:=plSt_len [] t (Nat.le_of_lt h)
   have hg:=plSt_get [] t h
   have hsl:=plSt_seen [] t k
   have hp:=plSt_pos [] t h
   have hnw:=plSt_new [] t h
   have hod:=plSt_old [] t h
   generalize plSt [] t (k+1)=P at *
   generalize plSt [] t k=Q at *
   obtain ⟨M,s⟩:=Q
   simp only at hl hg hsl hp hnw hod
   have hkM:k < M.length:=by omega
   have hkc:k*1+1≤(cells M).length:=by rw [q0t,q39]; omega
   have hix:=(q1n s t[k] (by simp at hsl; omega)).eq
   unfold rank at hix
   have hrg:=idx_range s t[k]
   have hsl':s.length≤2048:=by simp at hsl; omega
   by_cases h0:0≤t[k]
   · have h0':t[k] ≥ 0:=h0
     rw [hp h0]
     simp only [q18.next0,q18.round0,evz,Nat.reduceLT,h,hg,hkM,q1r,h0']
     rw [q0l (by omega)]
   · have h0':¬ t[k] ≥ 0:=h0
     by_cases hm:t[k]∈s
     · rw [hod h0 hm]
       have:=set_Int hkM (-1 - idx (fun x=>decide (x=t[k])) s)
       have hi:¬ idx (fun x=>decide (x=t[k])) s < 0:=fun e=>q8v.1 e hm
       simp only [q18.next0,q18.round0,evz,Nat.reduceLT,h,hg,hkM,q1r,h0',hix,hi,q2u (x := -1 - idx (fun x=>decide (x=t[k])) s) (by omega),this,hkc]
       rw [q0l (by omega)]
     · rw [hnw h0 hm]
       have:=set_Int hkM (-1 - (s.length:Int))
       have hi:idx (fun x=>decide (x=t[k])) s < 0:=q8v.2 hm
       simp only [q18.next0,q18.round0,evz,Nat.reduceLT,h,hg,hkM,q1r,h0',hix,hi,q2d,q2u (x := -1 - (s.length:Int)) (by omega),this,hkc]
       rw [q0l (by omega),q22 (q3v (by rw [q0t,q39]; omega))]
 · rw [plSt_end,hte,q99]
   have hl1:=(q4z [] a).1
   have hl2:=(q4z (q3f [] a).2 b).1
   have es:seenE ⟨a,b⟩=(q3f (q3f [] a).2 b).2:=rfl
   simp only [q18.next0,q18.round0,evz,Nat.reduceLT,List.length_append,hl1,hl2,Nat.lt_irrefl,es]
   by_cases h6:(q3f (q3f [] a).2 b).2.length≤6
   · have h6':¬ (((q3f (q3f [] a).2 b).2.length:Nat):Int) > 6:=by omega
     have c1:((((q3f [] a).1++(q3f (q3f [] a).2 b).1).take a.length).drop 0)=(q3f [] a).1:=by rw [List.drop_zero,← hl1,List.take_left]
     have c2:((((q3f [] a).1++(q3f (q3f [] a).2 b).1).take (a.length+b.length)).drop a.length)=(q3f (q3f [] a).2 b).1:=by
      rw [List.take_of_length_le (by rw [List.length_append]; omega),← hl1,List.drop_left]
     simp only [h6,h6',evz,Nat.reduceLT]
     rw [q22 (by simp; omega),q8x,c1,(q5w _ (by omega)).eq]
     simp only [evz,Nat.reduceLT]
     rw [q22 (by simp; omega),q8x,c2,(q5w _ (by omega)).eq]
     simp only [evz,Nat.reduceLT]
     rfl
   · have h6':(((q3f (q3f [] a).2 b).2.length:Nat):Int) > 6:=by omega
     simp only [h6,h6',evz,Nat.reduceLT,q7b]
end Ev.Ty
end
section
namespace Ev.Ty
open Go Ev
open Enc (enc)
open Sm (sm)
set_option linter.unusedSimpArgs false
set_option linter.unusedVariables false
section
variable {l:List Symbol} (ok:SigOk ⟨l⟩)
include ok
end
end Ev.Ty
end
section
namespace Ev.Ty
open Go Ev
open Enc (enc)
open Sm (sm)
set_option linter.unusedSimpArgs false
set_option linter.unusedVariables false
section
variable {l:List Symbol} (ok:SigOk ⟨l⟩)
include ok
end
end Ev.Ty
end
section
namespace Ev.Ty
open Go Ev
open Enc (enc)
open Sm (sm)
set_option linter.unusedSimpArgs false
set_option linter.unusedVariables false
section
variable {l:List Symbol} (ok:SigOk ⟨l⟩) {rs:List Equation} (hr:∀ e∈rs,EqOk l e) (hl:rs.length≤12)
include ok hr hl
end
end Ev.Ty
end
section
namespace Ev.Ty
open Go Ev
open Enc (enc)
open Sm (sm)
set_option linter.unusedSimpArgs false
set_option linter.unusedVariables false
section
variable {l:List Symbol} {rs:List Equation} (hrf:q5d ⟨l⟩ rs=0) (hls:sm 1048576 (Signature.mk l)) (hrs:sm 1048576 rs) {fuel:Nat} (hf:fuel≤200)
include hrf hls hrs hf
end
end Ev.Ty
end
section
namespace Ev.Ty
open Go Ev
open Enc (enc)
open Sm (sm)
set_option linter.unusedSimpArgs false
set_option linter.unusedVariables false
def two (e:Entry):Bool:=decide (e.kind=4)||decide (e.kind=5)
structure NumsOk (eqn enn:Nat) (e:Entry):Prop where
 kind:e.kind=1∨e.kind=2∨e.kind=3∨e.kind=4∨e.kind=5
 a0:0≤e.a
 given:e.kind=1→e.a.toNat < eqn
 other:e.kind≠1→e.a.toNat < enn
 b:e.kind=4∨e.kind=5→0≤e.b∧e.b.toNat < enn
 side:e.side=0∨(e.kind=4∧e.side=1)
 zero:e.kind≠4→e.kind≠5→e.b=0∧e.place=0
theorem nodup_sub:∀ {s t:List Int},s.Nodup→s ⊆ t→s.length≤t.length
 | [],t,_,_=>Nat.zero_le _
 | x::s,t,h,hs=>by
   have hx:x∈t:=hs (by simp)
   rw [List.nodup_cons] at h
   have h1:s ⊆ t.erase x:=fun y hy=>by
    refine (List.mem_erase_of_ne (fun (e:y=x)=>h.1 (by rw [← e]; exact hy))).2 (hs (List.mem_cons_of_mem _ hy))
   have h2:=nodup_sub h.2 h1
   rw [List.length_erase_of_mem hx] at h2
   have:=List.length_pos_of_mem hx
   rw [List.length_cons]
   omega
theorem six {s:List Int} (h1:s.Nodup) (h2:∀ m∈s,-6≤m∧m < 0):s.length≤6:=by
 have:s ⊆ [-6,-5,-4,-3,-2,-1]:=fun m hm=>by
  have:=h2 m hm
  simp only [List.mem_cons,List.not_mem_nil,or_false]
  omega
 exact nodup_sub h1 this
end Ev.Ty
end
section
namespace Ev.Ty
open Go Ev
open Enc (enc)
open Sm (sm)
set_option linter.unusedSimpArgs false
set_option linter.unusedVariables false
theorem EqOk.small {l:List Symbol} {e:Equation} (h:EqOk l e):sm 1048576 e:=⟨⟨by have:=h.left.le; omega,fun _ _=>trivial⟩,⟨by have:=h.right.le; omega,fun _ _=>trivial⟩⟩
section
variable {l:List Symbol} (ok:SigOk ⟨l⟩) (hs:sm 1048576 (Signature.mk l)) {eqs:List Equation} {ents:List Entry} (hq:∀ x∈eqs,EqOk l x) (he:∀ x∈ents,EqOk l (eqOf x)) (hql:eqs.length≤12) (hel:ents.length≤500)
include ok hs hq he hql hel
end
section
variable {l:List Symbol} (ok:SigOk ⟨l⟩) (hs:sm 1048576 (Signature.mk l)) {eqs:List Equation} (hq:∀ x∈eqs,EqOk l x) (hql:eqs.length≤12) {ents:List Entry} (hel:ents.length≤500)
include ok hs hq hql hel
end
end Ev.Ty
end
section
namespace Ev.Ty
open Go Ev
open Enc (enc)
open Sm (sm)
set_option linter.unusedSimpArgs false
set_option linter.unusedVariables false
section
variable {l:List Symbol} (ok:SigOk ⟨l⟩) (hs:sm 1048576 (Signature.mk l)) {eqs:List Equation} (hqs:sm 1048576 eqs) (hq:∀ x∈eqs,EqOk l x) (hql:eqs.length≤12) {o:List Int} (ho:sm 1048576 o)
include ok hs hqs hq hql ho
end
end Ev.Ty
end
section
namespace Ev.Ty
open Go Ev
open Enc (enc)
open Sm (sm)
set_option linter.unusedSimpArgs false
set_option linter.unusedVariables false
set_option maxHeartbeats 2000000
set_option maxRecDepth 10000
def orientC (s:Signature) (o a b:List Int):Int:=if cmpF s o a b=0 then if cmpV s.symbols o a b=1∨cmpV s.symbols o a b=2 then 0 else 10 else cmpF s o a b
def orientL (s:Signature) (o a b:List Int):List Int:=if cmpF s o a b=0 then if cmpV s.symbols o a b=1 then a else if cmpV s.symbols o a b=2 then b else [] else []
def orientE (s:Signature) (o a b:List Int):List Int:=if cmpF s o a b=0 then if cmpV s.symbols o a b=1 then b else if cmpV s.symbols o a b=2 then a else [] else []
theorem copy_eq (x y:List Int) (h1:x.length≤4294967296) (h2:y.length≤4294967296):Call F.q7c [.rref [slc x,slc y] 0] (.agg [slc x,slc y]):=by
 refine q0v rfl 0 ((q7c.ev _ _ _).trans ?_)
 simp only [evz,Nat.reduceLT,(q2e x h1).eq,(q2e y h2).eq]
theorem q3t (l:List Symbol) (hsl:l.length≤4294967296) (o:List Int) (hol:o.length≤4294967296) (a b:List Int) (ha:a.length≤4294967296) (hb:b.length≤4294967296) :
 Call F.q3t [.agg [slc l],slc o,.agg [slc a,slc b]] (.agg [.int .i64 (orientC ⟨l⟩ o a b),slc (orientL ⟨l⟩ o a b),slc (orientE ⟨l⟩ o a b)]):=by
 refine q0v rfl 0 ((q3t.ev _ _ _ _ _).trans ?_)
 simp only [evz,Nat.reduceLT,(q3h l hsl o hol).eq]
 have bad:∀ c:Int,cmpF ⟨l⟩ o a b=c→¬ c=0→orientC ⟨l⟩ o a b=c∧orientL ⟨l⟩ o a b=[]∧orientE ⟨l⟩ o a b=[]:=fun c h1 h2=>by
  subst h1
  exact ⟨if_neg h2,if_neg h2,if_neg h2⟩
 by_cases h0:q3m ⟨l⟩ o=0
 case neg =>
  obtain ⟨b1,b2,b3⟩:=bad (q3m ⟨l⟩ o) (by unfold cmpF; rw [if_neg h0]) h0
  rw [b1,b2,b3]
  simp only [h0,evz,Nat.reduceLT,ne_eq,not_false_eq_true]
  rfl
 have h1:=(q8o h0).1
 have ok:=q6k h1
 simp only [h0,evz,Nat.reduceLT,ne_eq,not_true_eq_false,(q0u l ok a ha).eq,(q0u l ok b hb).eq]
 by_cases h2:q2s l a=0
 case neg =>
  obtain ⟨b1,b2,b3⟩:=bad (q2s l a) (by unfold cmpF; rw [if_pos h0,q5o h1,q5o h1,if_neg h2]) h2
  rw [b1,b2,b3]
  simp only [h2,evz,Nat.reduceLT,ne_eq,not_false_eq_true]
  rfl
 by_cases h3:q2s l b=0
 case neg =>
  obtain ⟨b1,b2,b3⟩:=bad (q2s l b) (by unfold cmpF; rw [if_pos h0,q5o h1,q5o h1,if_pos h2]) h3
  rw [b1,b2,b3]
  simp only [h2,h3,evz,Nat.reduceLT,ne_eq,not_false_eq_true,not_true_eq_false]
  rfl
 have h:cmpF ⟨l⟩ o a b=0:=by unfold cmpF; rw [if_pos h0,q5o h1,q5o h1,if_pos h2,h3]
 obtain ⟨_,q1,q2,q3,q4⟩:=cmpF_ok h
 rw [orientC,orientL,orientE]
 simp only [h,h2,h3,evz,Nat.reduceLT,ne_eq,not_true_eq_false,(q5s ok q1 q2 q3 q4).eq]
 by_cases v1:cmpV l o a b=1
 · simp only [v1,evz,Nat.reduceLT,(copy_eq a b ha hb).eq,true_or]
 · by_cases v2:cmpV l o a b=2
   · simp only [v1,v2,evz,Nat.reduceLT,(q2e a ha).eq,(q2e b hb).eq,or_true,show ¬ (2:Int)=1 by decide]
   · simp only [v1,v2,evz,Nat.reduceLT,or_self,not_false_eq_true]
     rfl
theorem orient_small (l:List Symbol) (o a b:List Int) {n:Nat} (ha:a.length≤n) (hb:b.length≤n):(orientL ⟨l⟩ o a b).length≤n∧(orientE ⟨l⟩ o a b).length≤n:=by
 unfold orientL orientE
 split
 · split
   · exact ⟨ha,hb⟩
   · split
     · exact ⟨hb,ha⟩
     · exact ⟨Nat.zero_le _,Nat.zero_le _⟩
 · exact ⟨Nat.zero_le _,Nat.zero_le _⟩
def EqS (n:Nat) (es:List Equation):Prop:=es.length≤n∧∀ e∈es,e.left.length≤1001∧e.right.length≤1001
theorem EqS.sm {n:Nat} {es:List Equation} (h:EqS n es) (hn:n≤1001):Sm.sm 1048576 es:=⟨by have:=h.1; omega,fun e he=>⟨⟨by have:=(h.2 e he).1; omega,fun _ _=>trivial⟩,⟨by have:=(h.2 e he).2; omega,fun _ _=>trivial⟩⟩⟩
theorem EqS.snoc {n:Nat} {es:List Equation} (h:EqS n es) {a b:List Int} (ha:a.length≤1001) (hb:b.length≤1001):EqS (n+1) (es++[⟨a,b⟩]):=⟨by have:=h.1; simp; omega,fun e he=>by
 rcases List.mem_append.1 he with h1 | h1
 · exact h.2 e h1
 · rw [List.mem_singleton.1 h1]; exact ⟨ha,hb⟩⟩
theorem cells_eq (es:List Equation) (a b:List Int):cells es++[slc a,slc b]=cells (es++[⟨a,b⟩]):=by rw [q36]; rfl
section
variable {code:List UInt8} (hc:code.length≤2097152)
include hc
theorem q15 {l:List Symbol} (ok:SigOk ⟨l⟩) (o:List Int) (ho:o.length≤1000) (p n:Int) (hn:0≤n∧n≤12) (hp:0≤p∧p≤1099400000000) :
 Drawn code p 100000 (fun x=>∃ es,x=slc es∧EqS n.toNat es) (LIM F.q15 [.rref [slc code,.int .i64 p] 0,.rref [slc l] 0,slc o,.int .i64 n]):=by
 have hll:l.length≤6:=ok.le
 refine q76 rfl 20 ?_
 rw [show callK prog A H LIM 20 F.q15 [.rref [slc code,.int .i64 p] 0,.rref [slc l] 0,slc o,.int .i64 n]=_ from q15.ev _ _ _ _ _ _]
 rw [show IntKind.wrap .i64 (n+1)=n+1 from q2u (by omega)]
 refine q8t hc (by omega) fun v h1 h2 => ?_
 have h2:=h2 (by omega)
 simp only [evz,Nat.reduceLT]
 refine q64 (σ:=Int × Int × List Equation) (S:=fun m s=>q15.at0 20 m (q15.st0 (cells l) (cells o) s.1 (cells code) s.2.1 (cells s.2.2))) (fun s=>0≤s.1∧s.1≤n∧p≤s.2.1∧s.2.1≤p+1+(n - s.1)*6300∧EqS (n - s.1).toNat s.2.2) (fun s=>s.1.toNat) (fun m s hs => ?_) _ (v,p+1,[]) ⟨h1,by simp only; omega,by simp only; omega,by simp only; omega,⟨by simp,by simp⟩⟩ (by simp only; omega)
 obtain ⟨k,q,es⟩:=s
 obtain ⟨g1,g2,g3,g4,g5⟩:=hs
 simp only at g1 g2 g3 g4 g5 ⊢
 have hes:=g5.1
 by_cases hk:k > 0
 case neg =>
  left
  simp only [q15.next0,q15.round0,evz,Nat.reduceLT,hk]
  exact q4l (by omega) ⟨es,rfl,by omega,g5.2⟩
 right
 have wk:IntKind.wrap .i64 (k - 1)=k - 1:=q2u (by omega)
 obtain ⟨_,q2,e1,c1,c2,a,b,rfl,heq⟩:=q5r hc ok q (by omega)
 have hal:=heq.left.le
 have hbl:=heq.right.le
 simp only at hal hbl
 have e2:=(q3t l (by omega) o (by omega) a b (by omega) (by omega)).eq
 obtain ⟨s1,s2⟩:=orient_small l o a b hal hbl
 have skip:EqS (n - (k - 1)).toNat es:=⟨by omega,g5.2⟩
 by_cases h0:orientC ⟨l⟩ o a b=0
 · generalize hx:orientL ⟨l⟩ o a b=x at *
   generalize hy:orientE ⟨l⟩ o a b=y at *
   have e3:=(q18 x y (by omega) (by omega)).eq
   have l1:=(q4z [] x).1
   have l2:=(q4z (q3f [] x).2 y).1
   by_cases h6:(seenE ⟨x,y⟩).length≤6
   · refine ⟨(k - 1,q2,es++[⟨(plainE ⟨x,y⟩).left,(plainE ⟨x,y⟩).right⟩]),?_,⟨by simp only; omega,by simp only; omega,by simp only; omega,by simp only; omega,?_⟩,by simp only; omega⟩
     · simp only [h6,if_true,decide_true] at e3
       simp only [q15.next0,q15.round0,evz,Nat.reduceLT,hk,wk,e1,e2,h0,e3]
       rw [q22 (q3v (by rw [q0t]; simp only [q96]; omega)),cells_eq]
     · simp only
       have:=g5.snoc (a:=(plainE ⟨x,y⟩).left) (b:=(plainE ⟨x,y⟩).right) (by show (q3f [] x).1.length≤1001; omega) (by show (q3f (q3f [] x).2 y).1.length≤1001; omega)
       exact ⟨by have:=this.1; omega,this.2⟩
   · refine ⟨(k - 1,q2,es),?_,⟨by simp only; omega,by simp only; omega,by simp only; omega,by simp only; omega,skip⟩,by simp only; omega⟩
     simp only [h6,if_false,decide_false] at e3
     simp only [q15.next0,q15.round0,evz,Nat.reduceLT,hk,wk,e1,e2,h0,e3]
 · refine ⟨(k - 1,q2,es),?_,⟨by simp only; omega,by simp only; omega,by simp only; omega,by simp only; omega,skip⟩,by simp only; omega⟩
   simp only [q15.next0,q15.round0,evz,Nat.reduceLT,hk,wk,e1,e2,h0]
omit hc in
theorem fill_rules (o:List Int) (p2 p n:Int) (hp:p≤p2∧p2≤p+200000) (hn:n≤13) (es:List Equation) (h0:0 < es.length) (he:EqS 13 es) :
 Drawn code p 200000 (fun x=>∃ es,x=slc es∧EqS 13 es) (q0p.at0 20 20 (q0p.st0 n (cells code) p2 (cells es))):=by
 refine q64 (σ:=List Equation) (S:=fun m s=>q0p.at0 20 m (q0p.st0 n (cells code) p2 (cells s))) (fun s=>0 < s.length∧EqS 13 s) (fun s=>13 - s.length) (fun m s hs => ?_) _ es ⟨h0,he⟩ (by omega)
 obtain ⟨g1,g2⟩:=hs
 have hs:=g2.1
 by_cases hk:((s.length:Nat):Int) < n
 case neg =>
  left
  simp only [q0p.next0,q0p.round0,evz,Nat.reduceLT,hk]
  exact q4l hp ⟨s,rfl,g2⟩
 right
 match s,g1 with
 | e::r,_ =>
   have hem:=g2.2 e (List.mem_cons_self ..)
   have e0:inB 0 (e::r).length=true:=(q7a 0 _).trans (by simp)
   have ew:((cells (e::r)).drop 0).take 2=[slc e.left,slc e.right]:=by rw [q6e]; rfl
   have ec:=(copy_eq e.left e.right (by omega) (by omega)).eq
   refine ⟨(e::r)++[⟨e.left,e.right⟩],?_,⟨by simp,?_⟩,by simp only [List.length_append,List.length_cons,List.length_nil] at hk ⊢; omega⟩
   · simp only [q0p.next0,q0p.round0,evz,Nat.reduceLT,hk,e0,ew,ec]
     rw [q22 (q3v (by rw [q0t]; simp only [q96]; omega)),cells_eq]
   · exact ⟨by simp only [List.length_append,List.length_cons,List.length_nil] at hk ⊢; omega,fun x hx=>by
      rcases List.mem_append.1 hx with h | h
      · exact g2.2 x h
      · rw [List.mem_singleton.1 h]; exact hem⟩
theorem q0p {l:List Symbol} (hl:l.length≤1000) (o:List Int) (ho:o.length≤1000) (p:Int) (hp:0≤p∧p≤1099300000000) :
 Drawn code p 200000 (fun x=>∃ es,x=slc es∧EqS 13 es∧(0 < es.length→SigOk ⟨l⟩)) (LIM F.q0p [.rref [slc code,.int .i64 p] 0,.rref [slc l] 0,slc o]):=by
 refine q76 rfl 20 ?_
 rw [show callK prog A H LIM 20 F.q0p [.rref [slc code,.int .i64 p] 0,.rref [slc l] 0,slc o]=_ from q0p.ev _ _ _ _ _]
 have leaf:∀ (es:List Equation) (p2:Int),p≤p2∧p2≤p+200000→EqS 13 es→(0 < es.length→SigOk ⟨l⟩)→Drawn code p 200000 (fun x=>∃ es,x=slc es∧EqS 13 es∧(0 < es.length→SigOk ⟨l⟩)) (some (slc es,[.agg [slc code,.int .i64 p2]])):=fun es p2 h he hs=>q4l h ⟨es,rfl,he,hs⟩
 simp only [evz,Nat.reduceLT,(q3h l (by omega) o (by omega)).eq]
 by_cases h0:q3m ⟨l⟩ o=0
 case neg =>
  simp only [h0,evz,Nat.reduceLT,ne_eq,not_false_eq_true]
  exact leaf [] p (by omega) ⟨by simp,by simp⟩ (fun h=>absurd h (by simp))
 have ok:=q6k (q8o h0).1
 simp only [h0,evz,Nat.reduceLT,ne_eq,not_true_eq_false]
 refine q5p (q15 hc ok o ho p 5 (by omega) (by omega)) ?_
 rintro _ p1 a1 b1 ⟨es,rfl,hes⟩
 have hes:EqS 5 es:=hes
 have hel:=hes.1
 simp only [evz,Nat.reduceLT]
 refine q6r hc (by omega) fun b => ?_
 simp only [evz,Nat.reduceLT]
 cases b with
 | true =>
   simp only [evz,Nat.reduceLT]
   refine q5p (q3g hc (l:=l) hl _ (by omega)) ?_
   rintro _ p2 a2 b2 ⟨a,b,rfl,ha,hb⟩
   simp only [evz,Nat.reduceLT]
   rw [q22 (q3v (by rw [q0t]; simp only [q96]; omega))]
   refine q6r hc (by omega) fun b => ?_
   simp only [evz,Nat.reduceLT,cells_eq]
   have h6:=hes.snoc ha hb
   cases b with
   | false=>simp only [evz,Nat.reduceLT]; exact leaf _ _ (by omega) ⟨by have:=h6.1; omega,h6.2⟩ (fun _=>ok)
   | true =>
     simp only [evz,Nat.reduceLT]
     split
     · rename_i hpos
       refine pick_s hc [12,13] rfl (by simp) (by omega) fun v hv => ?_
       have hv':v≤13:=by
        simp only [List.mem_cons,List.not_mem_nil,or_false] at hv; omega
       simp only [evz,Nat.reduceLT]
       exact (fill_rules o _ p v (by omega) hv' _ (by omega) ⟨by have:=h6.1; omega,h6.2⟩).more (Int.le_refl _) (Int.le_refl _) fun x ⟨es,e,h⟩=>⟨es,e,h,fun _=>ok⟩
     · exact leaf _ _ (by omega) ⟨by have:=h6.1; omega,h6.2⟩ (fun _=>ok)
 | false =>
   simp only [evz,Nat.reduceLT]
   refine q6r hc (by omega) fun b => ?_
   simp only [evz,Nat.reduceLT]
   cases b with
   | false=>simp only [evz,Nat.reduceLT]; exact leaf es _ (by omega) ⟨by omega,hes.2⟩ (fun _=>ok)
   | true =>
     simp only [evz,Nat.reduceLT]
     split
     · rename_i hpos
       refine pick_s hc [12,13] rfl (by simp) (by omega) fun v hv => ?_
       have hv':v≤13:=by
        simp only [List.mem_cons,List.not_mem_nil,or_false] at hv; omega
       simp only [evz,Nat.reduceLT]
       exact (fill_rules o _ p v (by omega) hv' es (by omega) ⟨by omega,hes.2⟩).more (Int.le_refl _) (Int.le_refl _) fun x ⟨es,e,h⟩=>⟨es,e,h,fun _=>ok⟩
     · exact leaf es _ (by omega) ⟨by omega,hes.2⟩ (fun _=>ok)
def DecQ (r:R):Prop:=∃ (l:List Symbol) (o:List Int) (es:List Equation),r=some (.tup [.agg [slc l],slc o,slc es],[])∧sm 7 (Signature.mk l)∧o.length≤1000∧EqS 13 es
theorem q35:∃ (l:List Symbol) (o:List Int) (es:List Equation),Call F.q35 [slc code] (.tup [.agg [slc l],slc o,slc es])∧sm 7 (Signature.mk l)∧o.length≤1000∧EqS 13 es:=by
 suffices h:∃ r,callK prog A H LIM 0 F.q35 [slc code]=r∧DecQ r by
  obtain ⟨_,e,l,o,es,rfl,h⟩:=h
  exact ⟨l,o,es,q0v rfl 0 e,h⟩
 refine ⟨_,q35.ev _ _,?_⟩
 rw [show LIM F.q44 [.sl 1 (cells code)]=_ from q44]
 simp only [evz,Nat.reduceLT,oBx_bx]
 refine q5p (Q:=DecQ) (q0q hc 0 (by omega)) ?_
 rintro _ p1 a1 b1 ⟨l,rfl,hl⟩
 have hll:l.length≤7:=hl.1
 simp only [evz,Nat.reduceLT]
 refine q5p (Q:=DecQ) (q46 hc p1 (by omega) l (by omega)) ?_
 rintro _ p2 a2 b2 ⟨o,rfl,ho⟩
 simp only [evz,Nat.reduceLT]
 refine q5p (Q:=DecQ) (q0p hc (l:=l) (by omega) o (by omega) p2 (by omega)) ?_
 rintro _ p3 a3 b3 ⟨es,rfl,he,_⟩
 simp only [evz,Nat.reduceLT]
 exact ⟨l,o,es,rfl,hl,by omega,he⟩
end
end Ev.Ty
end
section
namespace Ev.Ty
open Go Ev
open Enc (enc)
open Sm (sm)
set_option linter.unusedSimpArgs false
set_option linter.unusedVariables false
set_option maxHeartbeats 4000000
set_option maxRecDepth 10000
section
variable {code:List UInt8} (hc:code.length≤2097152)
include hc
def Draw8Q (code:List UInt8) (r:R):Prop:=∃ (l:List Symbol) (rs:List Equation) (t:List Int) (p:Int),r=some (.tup [.agg [slc l],slc rs,slc t,.bx [slc code,.int .i64 p]],[])∧sm 7 (Signature.mk l)∧EqS 13 rs∧t.length≤1001∧0≤p∧p≤400000
theorem q6b:∃ (l:List Symbol) (rs:List Equation) (t:List Int) (p:Int),Call F.q6b [slc code] (.tup [.agg [slc l],slc rs,slc t,.bx [slc code,.int .i64 p]])∧sm 7 (Signature.mk l)∧EqS 13 rs∧t.length≤1001∧0≤p∧p≤400000:=by
 suffices h:∃ r,callK prog A H LIM 0 F.q6b [slc code]=r∧Draw8Q code r by
  obtain ⟨_,e,l,rs,t,p,rfl,h⟩:=h
  exact ⟨l,rs,t,p,q0v rfl 0 e,h⟩
 refine ⟨_,q6b.ev _ _,?_⟩
 rw [show LIM F.q44 [.sl 1 (cells code)]=_ from q44]
 simp only [evz,Nat.reduceLT,oBx_bx]
 refine q5p (Q:=Draw8Q code) (q0q hc 0 (by omega)) ?_
 rintro _ p1 a1 b1 ⟨l,rfl,hl⟩
 have hll:l.length≤7:=hl.1
 simp only [evz,Nat.reduceLT]
 refine q5p (Q:=Draw8Q code) (q0r hc p1 (by omega) l (by omega)) ?_
 rintro _ p2 a2 b2 ⟨o,rfl,ho⟩
 have hol:o.length≤1000:=by have:=ho.length_eq; rw [q81] at this; omega
 simp only [evz,Nat.reduceLT]
 refine q5p (Q:=Draw8Q code) (q0p hc (l:=l) (by omega) o hol p2 (by omega)) ?_
 rintro _ p3 a3 b3 ⟨rs,rfl,hrs,hok⟩
 have hrl:=hrs.1
 simp only [evz,Nat.reduceLT]
 refine pick_s (Q:=Draw8Q code) hc [4,8,12,20] rfl (by simp) (by omega) fun v hv => ?_
 have hv':4≤v∧v≤20:=by
  simp only [List.mem_cons,List.not_mem_nil,or_false] at hv; omega
 simp only [evz,Nat.reduceLT]
 refine pick_s (Q:=Draw8Q code) hc [0,0,3] rfl (by simp) (by omega) fun w hw => ?_
 have hw':0≤w∧w≤3:=by
  simp only [List.mem_cons,List.not_mem_nil,or_false] at hw; omega
 simp only [evz,Nat.reduceLT]
 refine q5p (Q:=Draw8Q code) (q0y hc _ v w l (by omega) (by omega) (by omega) (by omega)) ?_
 rintro _ p4 a4 b4 ⟨t,rfl,ht⟩
 have leaf:∀ (t:List Int) (p:Int),0≤p∧p≤400000→t.length≤1001→Draw8Q code (some (.tup [.agg [slc l],slc rs,slc t,.bx [slc code,.int .i64 p]],[])):=fun t p hp ht=>⟨l,rs,t,p,rfl,hl,hrs,ht,hp⟩
 simp only [evz,Nat.reduceLT]
 split
 case isFalse=>exact leaf t _ (by omega) ht
 rename_i hpos
 have hpos:0 < rs.length:=by omega
 have ok:=hok hpos
 refine q6r (Q:=Draw8Q code) hc (by omega) fun b => ?_
 simp only [evz,Nat.reduceLT]
 cases b with
 | false=>simp only [evz,Nat.reduceLT]; exact leaf t _ (by omega) ht
 | true =>
   simp only [evz,Nat.reduceLT,(q0u l ok t (by omega)).eq]
   split
   case isFalse=>exact leaf t _ (by omega) ht
   rename_i h3
   simp only [evz,Nat.reduceLT,(q1e l ok rs (q2l (by omega) (hrs.sm (by omega)))).eq]
   split
   case isFalse=>exact leaf t _ (by omega) ht
   rename_i h5
   refine q5p (Q:=Draw8Q code) (q1o hc ok _ 3 (by omega) (by omega)) ?_
   rintro _ p5 a5 b5 ⟨vs,ts,rfl,hb,hbo⟩
   simp only [evz,Nat.reduceLT]
   refine q8t (Q:=Draw8Q code) hc (by omega) fun x hx1 hx2 => ?_
   match rs,hpos with
   | e::r,_ =>
     have e0:inB 0 (e::r).length=true:=(q7a 0 _).trans (by simp)
     have eL:EqOk l e:=(eqsOk_iff.1 h5).2 e (List.mem_cons_self ..)
     have ell:=eL.left.le
     have hr:∀ n∈e.left,-4611686018427387904≤n∧n≤4611686018427387904:=fun n hn=>by
      rcases q4o.1 (eL.left.node n hn) with h | h <;> omega
     have ea:=(q17 vs ts hbo e.left (by omega) hr).eq
     have hal:=q8j hbo e.left
     obtain ⟨c,u,er,hu⟩:=q53 l (by omega) t (by omega) x (q1q vs ts e.left) (by omega)
     have g0:(cells (e::r))[0]?=some (slc e.left):=rfl
     have es:List.set (cells (e::r)) 0 (slc e.left)=cells (e::r):=rfl
     simp only [evz,Nat.reduceLT,e0,g0,ea,er.eq,es]
     split
     · exact leaf u _ (by omega) (by omega)
     · exact leaf t _ (by omega) ht
end
end Ev.Ty
end
section
namespace Ev.Ty
open Go Ev
set_option linter.unusedSimpArgs false
set_option linter.unusedVariables false
theorem idx_congr {α:Type} {p q:α→Bool}:∀ {xs:List α},(∀ x∈xs,p x=q x)→idx p xs=idx q xs:=by
 intro xs h
 have:xs.findIdx? p=xs.findIdx? q:=by
  induction xs with
  | nil=>rfl
  | cons x xs ih =>
    rw [List.findIdx?_cons,List.findIdx?_cons,h x (List.mem_cons_self ..),ih fun y hy=>h y (List.mem_cons_of_mem _ hy)]
 unfold idx
 rw [this]
section
variable {l:List Symbol} {rs:List Equation}
theorem redex_best (t:List Int):IsBest (endAt l t) (fits l rs t) 0 t.length (redex l rs t) :=
 down_best _ _ t.length t.length (-1,-1) (Nat.le_refl _) (.inl ⟨rfl,fun a h1 h2=>by omega⟩)
theorem normal_iff {t:List Int}:(redex l rs t).1 < 0↔∀ a,a < t.length→fits l rs t a < 0:=by
 rcases redex_best (l:=l) (rs:=rs) t with ⟨h,hn⟩ | ⟨a,_,ha,h,hf,_⟩
 · rw [h]; exact ⟨fun _ a ha=>hn a (Nat.zero_le _) ha,fun _=>by decide⟩
 · rw [h]
   refine ⟨fun h => ?_,fun h => ?_⟩
   · simp only at h; omega
   · have:=h a ha; omega
variable (hr:∀ e∈rs,EqOk l e)
include hr
omit hr in
theorem matchAt_in {q t:List Int} (hq:TermOk l q) (ht:TermOk l t) {p:Nat} (hp:p < t.length) {i:Nat} (hi:i < (subAt l t p).length):q41 l q (subAt l t p) i=q41 l q t (p+i):=by
 obtain ⟨h1,_,_,h4⟩:=sub_place ht hp hi
 rw [← q93 hq (q6f ht hp) hi,h4,q93 hq ht h1]
theorem fits_sub {t:List Int} (ht:TermOk l t) {p:Nat} (hp:p < t.length) {i:Nat} (hi:i < (subAt l t p).length):fits l rs (subAt l t p) i=fits l rs t (p+i) :=
 idx_congr fun e he=>by rw [matchAt_in (hr e he).left ht hp hi]
theorem redex_inner {t:List Int} (ht:TermOk l t) (h:¬ (redex l rs t).1 < 0):∃ a k:Nat,∃ _:k < rs.length,redex l rs t=((a:Int),(k:Int))∧a < t.length∧(q41 l rs[k].left t a).isSome=true ∧
 ¬ (redex l rs (subAt l t a)).1 < 0∧∀ i,0 < i→i < (subAt l t a).length→(redex l rs (subAt l (subAt l t a) i)).1 < 0:=by
 rcases redex_best (l:=l) (rs:=rs) t with ⟨e,_⟩ | ⟨a,_,ha,e,hf,hbest⟩
 · rw [e] at h; exact absurd (by decide) h
 have hsub:=q6f ht ha
 have hs0:0 < (subAt l t a).length:=hsub.pos
 have f0:=fits_sub hr ht ha hs0
 rw [Nat.add_zero] at f0
 have hspec:=q60 (fun e:Equation=>(q41 l e.left t a).isSome) rs
 obtain ⟨k,hk,ek,hm⟩:∃ k,∃ h:k < rs.length,fits l rs t a=(k:Nat)∧(q41 l rs[k].left t a).isSome=true:=by
  rcases hspec with ⟨h1,_⟩ | h2
  · unfold fits at hf; rw [h1] at hf; omega
  · obtain ⟨k,hk,e1,e2,_⟩:=h2
    exact ⟨k,hk,e1,e2⟩
 refine ⟨a,k,hk,by rw [e,ek],ha,hm,fun hn => ?_,fun i hi0 hi=>normal_iff.2 fun q hq => ?_⟩
 · have:=normal_iff.1 hn 0 hs0
   omega
 · obtain ⟨s1,_,s3,s4⟩:=sub_place ht ha hi
   rw [s4] at hq ⊢
   rw [fits_sub hr ht s1 hq]
   apply Classical.byContradiction
   intro hge
   obtain ⟨p1,_,p3,_⟩:=sub_place ht s1 hq
   have hb:=hbest (a+i+q) (Nat.zero_le _) p1 (by omega)
   obtain ⟨_,hlen,_⟩:=q48 ht ha
   obtain ⟨_,hlen2,_⟩:=q48 ht s1
   obtain ⟨g1,g2,_⟩:=q2o ht ha
   obtain ⟨g3,g4,_⟩:=q2o ht s1
   have he1:=(q2o hsub hi).2.1
   have he2:=(q2o (q6f ht s1) hq).2.1
   omega
end
section
variable {l:List Symbol} {rs:List Equation}
theorem q95 {t:List Int} (h:(redex l rs t).1 < 0) (m k:Nat):norm l rs m k t=⟨0,t,k⟩:=by
 cases m <;> (unfold norm; rw [if_pos h])
theorem norm_end:∀ (m k:Nat) (t:List Int),(norm l rs m k t).code=0→∃ s u,s≤m∧norm l rs m k t=⟨0,u,((k+s:Nat):Int)⟩∧(redex l rs u).1 < 0∧norm l rs s k t=⟨0,u,((k+s:Nat):Int)⟩∧(0 < s→(norm l rs (s - 1) k t).code=9)∧(s=0→u=t)
 | 0,k,t,h=>by
   unfold norm at h
   by_cases hn:(redex l rs t).1 < 0
   · exact ⟨0,t,Nat.le_refl _,q95 hn 0 k,hn,q95 hn 0 k,fun h=>by omega,fun _=>rfl⟩
   · rw [if_neg hn] at h; cases h
 | m+1,k,t,h=>by
   by_cases hn:(redex l rs t).1 < 0
   · exact ⟨0,t,Nat.zero_le _,q95 hn _ k,hn,q95 hn 0 k,fun h=>by omega,fun _=>rfl⟩
   · have step:∀ n,norm l rs (n+1) k t=if (q5x l (rs.getD (redex l rs t).2.toNat ⟨[],[]⟩) t (redex l rs t).1.toNat).code≠0 then ⟨(q5x l (rs.getD (redex l rs t).2.toNat ⟨[],[]⟩) t (redex l rs t).1.toNat).code,[],0⟩
      else norm l rs n (k+1) (q5x l (rs.getD (redex l rs t).2.toNat ⟨[],[]⟩) t (redex l rs t).1.toNat).term:=fun n=>by rw [norm,if_neg hn]
     rw [step] at h
     by_cases hc:(q5x l (rs.getD (redex l rs t).2.toNat ⟨[],[]⟩) t (redex l rs t).1.toNat).code≠0
     · rw [if_pos hc] at h; exact absurd h hc
     · rw [if_neg hc] at h
       obtain ⟨s,u,h1,h2,h3,h4,h5,h6⟩:=norm_end m (k+1) _ h
       refine ⟨s+1,u,by omega,?_,h3,?_,fun _ => ?_,fun h=>by omega⟩
       · rw [step,if_neg hc,h2]; congr 2; omega
       · rw [step,if_neg hc,h4]; congr 2; omega
       · rw [Nat.add_sub_cancel]
         cases s with
         | zero=>unfold norm; rw [if_neg hn]
         | succ s=>rw [step,if_neg hc]; exact h5 (by omega)
theorem norm_shift:∀ (m k:Nat) (t:List Int),(norm l rs m (k+1) t).code=(norm l rs m k t).code∧(norm l rs m (k+1) t).term=(norm l rs m k t).term∧((norm l rs m k t).code=0→(norm l rs m (k+1) t).steps=(norm l rs m k t).steps+1)
 | 0,k,t=>by
   unfold norm
   split
   · exact ⟨rfl,rfl,fun _=>by simp⟩
   · exact ⟨rfl,rfl,fun h=>by cases h⟩
 | m+1,k,t=>by
   rw [norm,norm]
   split
   · exact ⟨rfl,rfl,fun _=>by simp⟩
   · split
     · rename_i h
       exact ⟨rfl,rfl,fun h'=>absurd h' h⟩
     · exact norm_shift m (k+1) _
end
end Ev.Ty
end
section
namespace Ev.Ty
open Go Ev
open Enc (enc)
open Sm (sm)
set_option linter.unusedSimpArgs false
set_option linter.unusedVariables false
set_option maxHeartbeats 1000000
end Ev.Ty
end
section
namespace Ev.Ty
open Go Ev
open Enc (enc)
open Sm (sm)
set_option linter.unusedSimpArgs false
set_option linter.unusedVariables false
set_option maxHeartbeats 4000000
set_option maxRecDepth 10000
theorem rewriteFault_sub {l:List Symbol} {rs:List Equation} {t u:List Int} (h:q2h ⟨l⟩ rs t=0) (hu:TermOk l u):q2h ⟨l⟩ rs u=0:=by
 unfold q2h at h ⊢
 by_cases h1:q5d ⟨l⟩ rs≠0
 · rw [if_pos h1] at h; exact absurd h h1
 · rw [if_neg h1]; exact (q4r l u).2 hu
end Ev.Ty
end
section
namespace Ev.Ty
open Go Ev
set_option linter.unusedSimpArgs false
set_option linter.unusedVariables false
theorem bindOf_cons (x:Int) (vs:List Int) (t:List Int) (ts:List (List Int)) (v:Int):q3d (x::vs) (t::ts) v=if x=v then some t else q3d vs ts v:=by
 unfold q3d idx
 rw [List.findIdx?_cons]
 by_cases h:x=v
 · simp [h]
 · simp only [h,decide_false,Bool.false_eq_true,if_false]
   cases e:vs.findIdx? (fun y=>decide (y=v)) with
   | none=>simp
   | some i =>
     have h1:¬ ((i+1:Nat):Int) < 0:=by omega
     have h2:¬ ((i:Nat):Int) < 0:=by omega
     simp only [Option.map_some,h1,h2,if_false,Int.toNat_natCast,List.getElem?_cons_succ]
theorem bindOf_ins {v:Int} {t:List Int} (w:Int):∀ (i:Nat) (vs:List Int) (ts:List (List Int)),vs.length=ts.length→i≤vs.length→v∉vs→q3d (ins vs i v) (ins ts i t) w=if v=w then some t else q3d vs ts w
 | 0,vs,ts,_,_,_=>bindOf_cons v vs t ts w
 | i+1,[],ts,_,hi,_=>by simp at hi
 | i+1,x::vs,[],hl,_,_=>by simp at hl
 | i+1,x::vs,y::ts,hl,hi,hv=>by
   have hx:¬ v=x:=fun e=>hv (by rw [e]; exact List.mem_cons_self ..)
   have ih:=bindOf_ins (t:=t) w i vs ts (by simpa using hl) (by simpa using hi) (fun h=>hv (List.mem_cons_of_mem _ h))
   show q3d (x::ins vs i v) (y::ins ts i t) w=_
   rw [bindOf_cons,bindOf_cons,ih]
   by_cases h:x=w
   · rw [if_pos h,if_pos h,if_neg (fun e=>hx (by rw [e,h]))]
   · rw [if_neg h,if_neg h]
theorem bindOf_put {b:Bnd} {v:Int} {t:List Int} (hl:b.1.length=b.2.length) (hv:v∉b.1) (w:Int):q3d (bput b v t).1 (bput b v t).2 w=if v=w then some t else q3d b.1 b.2 w :=
 bindOf_ins w _ _ _ hl (insAt_le b.1 v) hv
theorem notMem_of_none {vs:List Int} {ts:List (List Int)} (hl:vs.length=ts.length) {v:Int} (h:q3d vs ts v=none):v∉vs:=bindOf_none hl h
theorem mgo_sound {l:List Symbol} {t:List Int} (ht:TermOk l t) {r:List Int}:∀ (q:List Int) (b:Bnd) (p k:Nat),Both l t q p r→p≤t.length→MB l b k→k+q.length≤24→(∀ n∈q,q4x l n=true)→∀ x,mgo l t q b p=some x →
 p≤x.2∧x.2≤t.length∧(∃ k',MB l x.1 k'∧k'≤24)∧(∀ v o,q3d b.1 b.2 v=some o→q3d x.1.1 x.1.2 v=some o)∧q1q x.1.1 x.1.2 q=(t.drop p).take (x.2 - p)∧∀ n∈q,n < 0→∃ o,q3d x.1.1 x.1.2 (-1 - n)=some o
 | [],b,p,k,h,hp,hb,hk,hq,x,hx=>by
   cases hx
   exact ⟨Nat.le_refl _,hp,⟨k,hb,by simpa using hk⟩,fun _ _ h=>h,by simp [q1q],fun n hn=>by cases hn⟩
 | n::q,b,p,k,h,hp,hb,hk,hq,x,hx=>by
   have hlt:=h.lt
   obtain ⟨h6,h7,_⟩:=q2o ht hlt
   obtain ⟨s1,hs,_⟩:=q48 ht hlt
   rw [mgo,if_neg (by omega)] at hx
   rw [List.length_cons] at hk
   have hnode:=q4o.1 (hq n (by simp))
   have hq':∀ n∈q,q4x l n=true:=fun n hn=>hq n (List.mem_cons_of_mem _ hn)
   by_cases hn:0≤n
   · rw [if_pos hn] at hx
     split at hx
     · rename_i e
       obtain ⟨a1,a2,⟨k',mb,hk'⟩,a3,a4,a5⟩:=mgo_sound ht q b (p+1) (k+1) (h.node e) (by omega) (hb.up (by omega)) (by omega) hq' x hx
       refine ⟨by omega,a2,⟨k',mb,hk'⟩,a3,?_,fun m hm h0 => ?_⟩
       · show (n::q).flatMap _=_
         have e1:(q3d x.1.1 x.1.2 (-1 - n)).getD [n]=[n]:=by rw [bindOf_neg (mb.ok hk') (by omega)]; rfl
         have e2:t.drop p=n::t.drop (p+1):=by
          rw [List.drop_eq_getElem_cons hlt]
          rw [List.getD_eq_getElem?_getD,List.getElem?_eq_getElem hlt] at e
          have e:t[p]=n:=e
          rw [e]
         rw [List.flatMap_cons,e1,e2,show x.2 - p=(x.2 - (p+1))+1 by omega,List.take_succ_cons,← a4]
         rfl
       · rcases List.mem_cons.1 hm with rfl | hm
         · omega
         · exact a5 m hm h0
     · cases hx
   · rw [if_neg hn] at hx
     have glue:∀ z:Bnd × Nat,p+(subAt l t p).length≤z.2→z.2≤t.length→q3d z.1.1 z.1.2 (-1 - n)=some (subAt l t p)→q1q z.1.1 z.1.2 q=(t.drop (p+(subAt l t p).length)).take (z.2 - (p+(subAt l t p).length))→q1q z.1.1 z.1.2 (n::q)=(t.drop p).take (z.2 - p):=fun z g1 gt g2 g3=>by
      show (n::q).flatMap _=_
      rw [List.flatMap_cons,g2]
      show subAt l t p++q1q z.1.1 z.1.2 q=_
      have ee:t.drop p=subAt l t p++t.drop (p+(subAt l t p).length):=by rw [hs,show p+(endAt l t p - p)=endAt l t p by omega]; exact s1
      rw [ee,List.take_append,List.take_of_length_le (by omega:(subAt l t p).length≤z.2 - p),show z.2 - p - (subAt l t p).length=z.2 - (p+(subAt l t p).length) by omega,← g3]
     split at hx
     · rename_i hnone
       obtain ⟨a1,a2,⟨k',mb,hk'⟩,a3,a4,a5⟩:=mgo_sound ht q _ _ (k+1) (h.var ht (by omega)) (by omega) (hb.put (v := -1 - n) (by omega) (q6f ht hlt)) (by omega) hq' x hx
       have hput:=fun w=>bindOf_put (t:=subAt l t p) hb.len (notMem_of_none hb.len hnone) w
       have here:=a3 (-1 - n) (subAt l t p) (by rw [hput,if_pos rfl])
       refine ⟨by omega,a2,⟨k',mb,hk'⟩,fun v o hv=>a3 v o ?_,glue x a1 a2 here a4,fun m hm h0 => ?_⟩
       · rw [hput,if_neg (fun e=>by rw [← e,hnone] at hv; cases hv)]; exact hv
       · rcases List.mem_cons.1 hm with rfl | hm
         · exact ⟨_,here⟩
         · exact a5 m hm h0
     · rename_i o ho
       split at hx
       · rename_i e
         obtain ⟨a1,a2,⟨k',mb,hk'⟩,a3,a4,a5⟩:=mgo_sound ht q b _ (k+1) (h.var ht (by omega)) (by omega) (hb.up (by omega)) (by omega) hq' x hx
         have here:=a3 (-1 - n) o ho
         rw [e] at here
         refine ⟨by omega,a2,⟨k',mb,hk'⟩,a3,glue x a1 a2 here a4,fun m hm h0 => ?_⟩
         rcases List.mem_cons.1 hm with rfl | hm
         · exact ⟨_,here⟩
         · exact a5 m hm h0
       · cases hx
theorem match_sound {l:List Symbol} {q t:List Int} (hq:TermOk l q) (ht:TermOk l t) {p:Nat} (hp:p < t.length) {b:Bnd} (h:q41 l q t p=some b) :
 q1q b.1 b.2 q=subAt l t p∧∀ n∈q,n < 0→∃ o,q3d b.1 b.2 (-1 - n)=some o:=by
 unfold q41 at h
 rw [Option.map_eq_some_iff] at h
 obtain ⟨x,hx,rfl⟩:=h
 have hB:=Both.start ht hq hp
 obtain ⟨e1,e2,_⟩:=mgo_end ht q ([],[]) p 0 hB (by omega) (MB.nil l) (by have:=hq.le; omega) hq.node x hx
 obtain ⟨a1,a2,_,_,a4,a5⟩:=mgo_sound ht q ([],[]) p 0 hB (by omega) (MB.nil l) (by have:=hq.le; omega) hq.node x hx
 obtain ⟨h6,h7,_⟩:=q2o ht hp
 have he:x.2=endAt l t p:=by
  have:=congrArg List.length e1
  rw [List.length_drop,List.length_drop] at this
  omega
 refine ⟨?_,a5⟩
 rw [a4,he]
 unfold subAt
 rw [List.drop_take]
theorem replAt_same {l:List Symbol} {t:List Int} (ht:TermOk l t) {p:Nat} (hp:p < t.length):q4m l t p (subAt l t p)=t:=by
 unfold q4m
 rw [List.append_assoc,← (q48 ht hp).1,List.take_append_drop]
end Ev.Ty
end
section
namespace Ev.Ty
open Go Ev
open Tm
set_option linter.unusedSimpArgs false
set_option linter.unusedVariables false
theorem place_of {r:Int→Int} {a:Int→Nat}:∀ (x:Tm) (q:Nat),x.ok a→q < x.flat.length→∃ (y:Tm) (C:Tm→Tm),y.ok a∧(∃ rest,x.flat.drop q=y.flat++rest) ∧
 (∀ u:Tm,u.ok a→(C u).ok a∧(C u).flat=x.flat.take q++u.flat++x.flat.drop (q+y.flat.length))∧∀ u v:Tm,G r u v→G r (C u) (C v):=by
 have here:∀ x:Tm,x.ok a→∃ (y:Tm) (C:Tm→Tm),y.ok a∧(∃ rest,x.flat.drop 0=y.flat++rest) ∧
  (∀ u:Tm,u.ok a→(C u).ok a∧(C u).flat=x.flat.take 0++u.flat++x.flat.drop (0+y.flat.length))∧∀ u v:Tm,G r u v→G r (C u) (C v):=fun x hx =>
  ⟨x,id,hx,⟨[],by simp⟩,fun u hu=>⟨hu,by simp⟩,fun u v h=>h⟩
 intro x
 induction x with
 | v n=>intro q hx hq; have:q=0:=by simp [Tm.flat] at hq; omega
        subst this; exact here _ hx
 | k n=>intro q hx hq; have:q=0:=by simp [Tm.flat] at hq; omega
        subst this; exact here _ hx
 | u n x ih =>
   intro q hx hq
   match q,hq with
   | 0,_=>exact here _ hx
   | q+1,hq =>
     obtain ⟨y,C,h1,⟨rest,h2⟩,h3,h4⟩:=ih q hx.2.2 (by simp only [Tm.flat,List.length_cons] at hq; omega)
     refine ⟨y,fun w => .u n (C w),h1,⟨rest,h2⟩,fun w hw=>⟨⟨hx.1,hx.2.1,(h3 w hw).1⟩,?_⟩,fun w v h=>G.ctx (s := .u n (C w)) (t := .u n (C v)) (A:=[]) (B:=[]) hx.1 rfl rfl rfl (h4 w v h)⟩
     show n::(C w).flat=(n::x.flat).take (q+1)++w.flat++(n::x.flat).drop (q+1+y.flat.length)
     rw [(h3 w hw).2,Nat.add_right_comm]
     rfl
 | b n x z ihx ihz =>
   intro q hx hq
   match q,hq with
   | 0,_=>exact here _ hx
   | q+1,hq =>
     simp only [Tm.flat,List.length_cons,List.length_append] at hq
     by_cases hl:q < x.flat.length
     · obtain ⟨y,C,h1,⟨rest,h2⟩,h3,h4⟩:=ihx q hx.2.2.1 hl
       have hy:q+y.flat.length≤x.flat.length:=by
        have:=congrArg List.length h2
        rw [List.length_drop,List.length_append] at this
        have:=y.flat_pos
        omega
       refine ⟨y,fun w => .b n (C w) z,h1,⟨rest++z.flat,?_⟩,fun w hw=>⟨⟨hx.1,hx.2.1,(h3 w hw).1,hx.2.2.2⟩,?_⟩,fun w v h=>G.ctx (s := .b n (C w) z) (t := .b n (C v) z) (A:=[]) (B:=[z]) hx.1 rfl rfl rfl (h4 w v h)⟩
       · show (x.flat++z.flat).drop q=_
         rw [List.drop_append_of_le_length (by omega),h2,List.append_assoc]
       · show n::((C w).flat++z.flat)=(n::(x.flat++z.flat)).take (q+1)++w.flat++(n::(x.flat++z.flat)).drop (q+1+y.flat.length)
         rw [(h3 w hw).2,Nat.add_right_comm]
         show n::(x.flat.take q++w.flat++x.flat.drop (q+y.flat.length)++z.flat)=n::((x.flat++z.flat).take q++w.flat++(x.flat++z.flat).drop (q+y.flat.length))
         rw [List.take_append_of_le_length (by omega),List.drop_append_of_le_length hy]
         simp
     · obtain ⟨y,C,h1,⟨rest,h2⟩,h3,h4⟩:=ihz (q - x.flat.length) hx.2.2.2 (by omega)
       refine ⟨y,fun w => .b n x (C w),h1,⟨rest,?_⟩,fun w hw=>⟨⟨hx.1,hx.2.1,hx.2.2.1,(h3 w hw).1⟩,?_⟩,fun w v h=>G.ctx (s := .b n x (C w)) (t := .b n x (C v)) (A:=[x]) (B:=[]) hx.1 rfl rfl rfl (h4 w v h)⟩
       · show (x.flat++z.flat).drop q=_
         rw [List.drop_append,List.drop_eq_nil_of_le (by omega),h2]
         rfl
       · show n::(x.flat++(C w).flat)=(n::(x.flat++z.flat)).take (q+1)++w.flat++(n::(x.flat++z.flat)).drop (q+1+y.flat.length)
         rw [(h3 w hw).2,Nat.add_right_comm]
         show n::(x.flat++(z.flat.take (q - x.flat.length)++w.flat++z.flat.drop (q - x.flat.length+y.flat.length)))=n::((x.flat++z.flat).take q++w.flat++(x.flat++z.flat).drop (q+y.flat.length))
         rw [List.take_append,List.drop_append,List.take_of_length_le (by omega:x.flat.length≤q),List.drop_eq_nil_of_le (by omega:x.flat.length≤q+y.flat.length),show q+y.flat.length - x.flat.length=q - x.flat.length+y.flat.length by omega]
         simp
section
variable {l:List Symbol} (ok:SigOk ⟨l⟩) {o:List Int} (ho:∀ n:Int,0≤n→n < l.length→n∈o)
noncomputable def treeB (l:List Symbol) (t:List Int):Tm:=open Classical in if h:∃ x:Tm,x.ok (ar l)∧t=x.flat then h.choose else .v (-1)
noncomputable def subB (l:List Symbol) (vs:List Int) (ts:List (List Int)) (n:Int):Tm:=match q3d vs ts (-1 - n) with | some t=>treeB l t | none => .v n
include ok
theorem treeB_ok {t:List Int} (h:TermOk l t):(treeB l t).ok (ar l)∧t=(treeB l t).flat:=by
 have e:∃ x:Tm,x.ok (ar l)∧t=x.flat:=h.tree ok
 unfold treeB
 rw [dif_pos e]
 exact e.choose_spec
theorem subB_ok {vs:List Int} {ts:List (List Int)} (h:BindOk vs ts∧∀ t∈ts,TermOk l t) (n:Int) (hn:n < 0):(subB l vs ts n).ok (ar l):=by
 unfold subB
 cases e:q3d vs ts (-1 - n) with
 | none=>exact hn
 | some t=>exact (treeB_ok ok (h.2 t (q5e e))).1
theorem applied_inst {vs:List Int} {ts:List (List Int)} (h:BindOk vs ts∧∀ t∈ts,TermOk l t):∀ x:Tm,x.ok (ar l)→q1q vs ts x.flat=(x.inst (subB l vs ts)).flat:=by
 have hb:=h
 have one:∀ n:Int,0≤n→(q3d vs ts (-1 - n)).getD [n]=[n]:=fun n hn=>by rw [bindOf_neg hb.1 (by omega)]; rfl
 intro x
 induction x with
 | v n =>
   intro _
   show [n].flatMap _=(subB l vs ts n).flat
   rw [List.flatMap_cons,List.flatMap_nil,List.append_nil]
   unfold subB
   cases e:q3d vs ts (-1 - n) with
   | none=>rfl
   | some t=>exact (treeB_ok ok (hb.2 t (q5e e))).2
 | k n =>
   intro hx
   show [n].flatMap _=[n]
   rw [List.flatMap_cons,List.flatMap_nil,List.append_nil,one n hx.1]
 | u n x ih =>
   intro hx
   show (n::x.flat).flatMap _=n::(x.inst (subB l vs ts)).flat
   rw [List.flatMap_cons,one n hx.1,← ih hx.2.2]
   rfl
 | b n x y ihx ihy =>
   intro hx
   show (n::(x.flat++y.flat)).flatMap _=n::((x.inst (subB l vs ts)).flat++(y.inst (subB l vs ts)).flat)
   rw [List.flatMap_cons,one n hx.1,← ihx hx.2.2.1,← ihy hx.2.2.2,List.flatMap_append]
   rfl
omit ok in
theorem termOk_tree {t:List Int} {x:Tm} (hx:x.ok (ar l)) (e:t=x.flat) (hn:∀ n∈t,q4x l n=true) (hl:t.length≤24):TermOk l t:=by
 refine ⟨?_,hl,hn,?_⟩
 · rw [e]; exact x.flat_pos
 · have:=Tm.skip_flat (a:=ar l) (fun n hn=>ar_neg l hn) x [] 0 hx
   rw [e]; rwa [List.append_nil] at this
theorem applied_ok {vs:List Int} {ts:List (List Int)} (h:BindOk vs ts∧∀ t∈ts,TermOk l t) {a:List Int} (ha:TermOk l a) (hl:(q1q vs ts a).length≤24):TermOk l (q1q vs ts a):=by
 obtain ⟨x,hx,e⟩:=ha.tree ok
 refine termOk_tree (inst_ok (subB_ok ok h) hx) (by rw [e]; exact applied_inst ok h x hx) (fun n hn => ?_) hl
 obtain ⟨m,hm,hn⟩:=List.mem_flatMap.1 hn
 cases eb:q3d vs ts (-1 - m) with
 | none=>rw [eb] at hn; rw [List.mem_singleton.1 hn]; exact ha.node m hm
 | some t=>rw [eb] at hn; exact (h.2 t (q5e eb)).node n hn
include ho
theorem gt_applied {vs:List Int} {ts:List (List Int)} (h:BindOk vs ts∧∀ t∈ts,TermOk l t) {a b:List Int} (ha:TermOk l a) (hb:TermOk l b) (hla:(q1q vs ts a).length≤24) (hlb:(q1q vs ts b).length≤24)
 (hg:gt l o a b 0 0=true):gt l o (q1q vs ts a) (q1q vs ts b) 0 0=true:=by
 obtain ⟨x,hx,ex⟩:=ha.tree ok
 obtain ⟨y,hy,ey⟩:=hb.tree ok
 exact (q97 ok ho (applied_ok ok h ha hla) (applied_ok ok h hb hlb) (inst_ok (subB_ok ok h) hx) (inst_ok (subB_ok ok h) hy) (by rw [ex]; exact applied_inst ok h x hx) (by rw [ey]; exact applied_inst ok h y hy)).2
  (G.stable ((q97 ok ho ha hb hx hy ex ey).1 hg) hx hy)
theorem gt_placed {t a b:List Int} (ht:TermOk l t) (ha:TermOk l a) (hb:TermOk l b) {p:Nat} (hp:p < t.length) (hla:(q4m l t p a).length≤24) (hlb:(q4m l t p b).length≤24)
 (hg:gt l o a b 0 0=true):TermOk l (q4m l t p a)∧TermOk l (q4m l t p b)∧gt l o (q4m l t p a) (q4m l t p b) 0 0=true:=by
 obtain ⟨x,hx,ex⟩:=ht.tree ok
 obtain ⟨xa,hxa,exa⟩:=ha.tree ok
 obtain ⟨xb,hxb,exb⟩:=hb.tree ok
 obtain ⟨y,C,h1,⟨rest,h2⟩,h3,h4⟩:=place_of (r:=rank o) x p hx (by rw [← ex]; exact hp)
 have hat:At l t p y:=⟨h1,rest,by rw [ex]; exact h2⟩
 have he:=hat.facts.2.2.1
 have ea:q4m l t p a=(C xa).flat:=by unfold q4m; rw [(h3 xa hxa).2,he,ex,exa]
 have eb:q4m l t p b=(C xb).flat:=by unfold q4m; rw [(h3 xb hxb).2,he,ex,exb]
 have node:∀ u:List Int,TermOk l u→∀ n∈q4m l t p u,q4x l n=true:=fun u hu n hn=>by
  unfold q4m at hn
  rcases List.mem_append.1 hn with hn | hn
  · rcases List.mem_append.1 hn with hn | hn
    · exact ht.node n (List.mem_of_mem_take hn)
    · exact hu.node n hn
  · exact ht.node n (List.mem_of_mem_drop hn)
 have ta:=termOk_tree (h3 xa hxa).1 ea (node a ha) hla
 have tb:=termOk_tree (h3 xb hxb).1 eb (node b hb) hlb
 exact ⟨ta,tb,(q97 ok ho ta tb (h3 xa hxa).1 (h3 xb hxb).1 ea eb).2 (h4 _ _ ((q97 ok ho ha hb hxa hxb exa exb).1 hg))⟩
theorem gt_asym {a b:List Int} (ha:TermOk l a) (hb:TermOk l b) (hg:gt l o a b 0 0=true):gt l o b a 0 0=false:=by
 obtain ⟨x,hx,ex⟩:=ha.tree ok
 obtain ⟨y,hy,ey⟩:=hb.tree ok
 cases e:gt l o b a 0 0
 · rfl
 · exact absurd (G.trans _ (Nat.le_refl _) ((q97 ok ho ha hb hx hy ex ey).1 hg) ((q97 ok ho hb ha hy hx ey ex).1 e)) (G.irrefl _ (Nat.le_refl _))
theorem cmpV_gt {a b:List Int} (ha:TermOk l a) (hb:TermOk l b) (hg:gt l o a b 0 0=true):cmpV l o a b=1∧cmpV l o b a=2:=by
 have hne:¬ a=b:=fun e=>by subst e; rw [not_self ok ho ha] at hg; cases hg
 unfold cmpV
 rw [if_neg hne,if_pos hg,if_neg (fun e=>hne e.symm),gt_asym ok ho ha hb hg,if_neg (by decide),if_pos hg]
 exact ⟨rfl,rfl⟩
end
end Ev.Ty
end
section
namespace Ev.Ty
open Go Ev
open Enc (enc)
open Sm (sm)
set_option linter.unusedSimpArgs false
set_option linter.unusedVariables false
set_option maxHeartbeats 4000000
set_option maxRecDepth 10000
theorem step_parts {l:List Symbol} {e:Equation} {t:List Int} (he:EqOk l e) (ht:TermOk l t) {p:Nat} (hp:p < t.length) (h:(q5x l e t p).code=0) (ok:SigOk ⟨l⟩) :
 ∃ b:Bnd,q41 l e.left t p=some b∧(BindOk b.1 b.2∧∀ t∈b.2,TermOk l t)∧q1q b.1 b.2 e.left=subAt l t p∧(q1q b.1 b.2 e.right).length≤24∧(q5x l e t p).term=q4m l t p (q1q b.1 b.2 e.right)∧(q4m l t p (q1q b.1 b.2 e.right)).length≤24:=by
 unfold q5x at h ⊢
 cases hm:q41 l e.left t p with
 | none=>rw [hm] at h; cases h
 | some b =>
   rw [hm] at h
   simp only at h ⊢
   split at h
   · cases h
   · rename_i h24
     rw [if_neg h24]
     have hb:=matchAt_ok he.left ht hp hm
     refine ⟨b,rfl,⟨hb.ok he.left.le,hb.tm⟩,(match_sound he.left ht hp hm).1,?_,rfl,by omega⟩
     have:(q1q b.1 b.2 e.right).length≤(q4m l t p (q1q b.1 b.2 e.right)).length:=by
      unfold q4m; simp only [List.length_append]; omega
     omega
theorem step_less {l:List Symbol} {o:List Int} (ok:SigOk ⟨l⟩) (ho:∀ n:Int,0≤n→n < l.length→n∈o) {e:Equation} {t:List Int} (he:EqOk l e) (hg:gt l o e.left e.right 0 0=true) (ht:TermOk l t) {p:Nat} (hp:p < t.length) (h:(q5x l e t p).code=0) :
 gt l o t (q5x l e t p).term 0 0=true:=by
 obtain ⟨b,_,hb,h1,h2,h3,h4⟩:=step_parts he ht hp h ok
 have hs:=q6f ht hp
 have hl:(q1q b.1 b.2 e.left).length≤24:=by rw [h1]; exact hs.le
 have ha:TermOk l (q1q b.1 b.2 e.left):=by rw [h1]; exact hs
 have hr:=applied_ok ok hb he.right h2
 have:=(gt_placed ok ho ht ha hr hp (by rw [h1,replAt_same ht hp]; exact ht.le) h4 (gt_applied ok ho hb he.left he.right hl h2 hg)).2.2
 rw [h1,replAt_same ht hp] at this
 rw [h3]; exact this
section
variable {code:List UInt8} (hc:code.length≤2097152)
include hc
theorem q78 (p:Int) (hp:0≤p∧p≤1099511000000) (t:List Int) (ht:t.length≤4294967296):∃ v:Int,LIM F.q78 [.rref [slc code,.int .i64 p] 0,slc t]=some (.int .i64 v,[.agg [slc code,.int .i64 (p+1+1+1+1)]]):=by
 obtain ⟨a,ea,_⟩:=q1c hc p (t.length:Int) (by omega)
 obtain ⟨b,eb,_⟩:=q1c hc (p+1) (t.length:Int) (by omega)
 obtain ⟨c,ec,_⟩:=q1c hc (p+1+1) (t.length:Int) (by omega)
 have w:IntKind.wrap .i64 (((t.length:Nat):Int) - 1)=((t.length:Nat):Int) - 1:=q2u (by omega)
 obtain ⟨v,_,ev⟩:=q29 hc (p+1+1+1) [0,(t.length:Int) - 1,a,b,c,(t.length:Int),-1] (ts:=[.int .i64 0,.int .i64 ((t.length:Int) - 1),.int .i64 a,.int .i64 b,.int .i64 c,.int .i64 (t.length:Int),.int .i64 (-1)]) rfl (by simp) (by omega)
 refine ⟨v,q51 rfl 0 ((q78.ev _ _ _ _).trans ?_)⟩
 simp only [evz,Nat.reduceLT,ea,eb,ec,w,ev]
theorem q3o:∃ (l:List Symbol) (rs:List Equation) (r p:Int) (t:List Int),Call F.q3o [slc code] (.tup [.agg [slc l],slc rs,.int .i64 r,.int .i64 p,slc t])∧sm 7 (Signature.mk l)∧EqS 13 rs∧t.length≤1001:=by
 obtain ⟨l,rs,t,q,e,h1,h2,h3,h4,h5⟩:=q6b hc
 have hll:l.length≤7:=h1.1
 have s1:sm 1048576 (Signature.mk l):=q2l (by omega) h1
 have s2:sm 1048576 rs:=h2.sm (by omega)
 have s3:sm 1048576 t:=⟨by omega,fun _ _=>trivial⟩
 have eF:LIM F.q4f [.agg [slc l],slc rs,slc t]=_:=(q4f ⟨l⟩ rs t s1 s2 s3).eq
 rw [q4j] at eF
 let Q:R→Prop:=fun x=>∃ (r p:Int),x=some (.tup [.agg [slc l],slc rs,.int .i64 r,.int .i64 p,slc t],[])
 suffices h:∃ x,callK prog A H LIM 0 F.q3o [slc code]=x∧Q x by
  obtain ⟨_,e,r,p,rfl⟩:=h
  exact ⟨l,rs,r,p,t,q0v rfl 0 e,h1,h2,h3⟩
 refine ⟨_,q3o.ev _ _,?_⟩
 have rest:∀ q:Int,0≤q∧q≤500000→∃ (v w:Int),LIM F.q29 [.rref [slc code,.int .i64 q] 0,.sl 1 [.int .i64 0,.int .i64 1,.int .i64 (-1),.int .i64 (rs.length:Int)]]=some (.int .i64 v,[.agg [slc code,.int .i64 (q+1)]])∧LIM F.q78 [.rref [slc code,.int .i64 (q+1)] 0,slc t]=some (.int .i64 w,[.agg [slc code,.int .i64 (q+1+1+1+1+1)]]):=fun q hq=>by
  obtain ⟨v,_,ev⟩:=q29 hc q [0,1,-1,(rs.length:Int)] (ts:=[.int .i64 0,.int .i64 1,.int .i64 (-1),.int .i64 (rs.length:Int)]) rfl (by simp) (by omega)
  obtain ⟨w,ew⟩:=q78 hc (q+1) (by omega) t (by omega)
  exact ⟨v,w,ev,ew⟩
 simp only [evz,Nat.reduceLT,e.eq,oBx_bx,eF]
 split
 · refine q6r (Q:=Q) hc (by omega) fun b => ?_
   simp only [evz,Nat.reduceLT]
   cases b with
   | false=>simp only [evz,Nat.reduceLT,Bool.not_false]; exact ⟨_,_,rfl⟩
   | true =>
     obtain ⟨v,w,ev,ew⟩:=rest (q+1) (by omega)
     simp only [evz,Nat.reduceLT,Bool.not_true,ev,ew]
     exact ⟨_,_,rfl⟩
 · obtain ⟨v,w,ev,ew⟩:=rest q (by omega)
   simp only [evz,Nat.reduceLT,ev,ew]
   exact ⟨_,_,rfl⟩
end
theorem q89 {l:List Symbol} {o:List Int} {rs:List Equation} (h:q5z ⟨l⟩ o rs=true):q3m ⟨l⟩ o=0∧(∀ n:Int,0≤n→n < l.length→n∈o)∧∀ e∈rs,gt l o e.left e.right 0 0=true:=by
 unfold q5z at h
 simp only [Bool.and_eq_true,decide_eq_true_eq] at h
 obtain ⟨⟨h1,_⟩,h3⟩:=h
 refine ⟨h1,(orderOk (q8o h1).2).2,fun e he => ?_⟩
 unfold falling at h3
 cases hg:gt l o e.left e.right 0 0
 · have:(rs.any fun e => !gt l o e.left e.right 0 0)=true:=List.any_eq_true.2 ⟨e,he,by rw [hg]; rfl⟩
   rw [this] at h3; cases h3
 · rfl
theorem q47 (code:List UInt8) (h:sm maxLen code):Call F.q47 [slc code] (.bool true):=by
 by_cases hbig:(code.length:Int) > 1048576
 · exact q0v rfl 0 ((q47.ev _ _).trans (by simp only [evz,Nat.reduceLT,(q45 (code:=code)).eq,hbig]))
 have hc:code.length≤2097152:=by omega
 obtain ⟨l,rs,r,p,t,ed,hl,hrs,ht⟩:=q3o hc
 obtain ⟨_,o,_,er,_,ho,_⟩:=q35 hc
 have hll:l.length≤7:=hl.1
 have s1:sm 1048576 (Signature.mk l):=q2l (by omega) hl
 have s2:sm 1048576 rs:=hrs.sm (by omega)
 have s3:∀ {u:List Int},u.length≤1001→sm 1048576 u:=fun h=>⟨by omega,fun _ _=>trivial⟩
 have eW:LIM F.q4b [.agg [slc l],slc rs,.int .i64 r,.int .i64 p,slc t]=_:=(q4b ⟨l⟩ rs r p t s1 s2 (s3 ht)).eq
 have eW':LIM F.q4d [.agg [slc l],slc rs,.int .i64 r,.int .i64 p,slc t]=_:=(q4d ⟨l⟩ rs r p t s1 s2 (s3 ht)).eq
 rw [q2v] at eW eW'
 by_cases h0:(q6h ⟨l⟩ rs r p t).code=0
 case neg =>
  refine q0v rfl 0 ((q47.ev _ _).trans ?_)
  simp only [evz,Nat.reduceLT,(q45 (code:=code)).eq,hbig,ed.eq,eW,eW',bne_self_eq_false,ne_eq,not_true_eq_false,h0,not_false_eq_true]
 have hrf:q2h ⟨l⟩ rs t=0:=Classical.byContradiction fun hne=>by
  unfold q6h at h0; rw [if_pos hne] at h0; exact hne h0
 obtain ⟨ok,hn,hr,tt⟩:=q5u hrf
 have hin:¬ (inR r 0 (rs.length - 1)=false∨inR p 0 (t.length - 1)=false):=fun hor=>by
  unfold q6h at h0; rw [if_neg (by simpa using hrf),if_pos hor] at h0; cases h0
 have hW:q6h ⟨l⟩ rs r p t=q5x l (rs.getD r.toNat ⟨[],[]⟩) t p.toNat:=by
  unfold q6h; rw [if_neg (by simpa using hrf),if_neg hin]
 have b1:0≤r∧r < rs.length:=by
  have:inR r 0 (rs.length - 1)=true:=by cases e:inR r 0 (rs.length - 1) <;> simp_all
  unfold inR at this; simp only [Bool.and_eq_true,decide_eq_true_eq] at this; omega
 have b2:0≤p∧p < t.length:=by
  have:inR p 0 (t.length - 1)=true:=by cases e:inR p 0 (t.length - 1) <;> simp_all
  unfold inR at this; simp only [Bool.and_eq_true,decide_eq_true_eq] at this; omega
 obtain ⟨k,rfl⟩:∃ k:Nat,r=k:=⟨r.toNat,by omega⟩
 obtain ⟨a,rfl⟩:∃ a:Nat,p=a:=⟨p.toNat,by omega⟩
 have hk:k < rs.length:=by omega
 have ha:a < t.length:=by omega
 have hgd:rs.getD k ⟨[],[]⟩=rs[k]:=by rw [List.getD_eq_getElem?_getD,List.getElem?_eq_getElem hk]; rfl
 rw [Int.toNat_natCast,Int.toNat_natCast,hgd] at hW
 rw [hW] at h0 eW eW'
 have he:=hr _ (List.getElem_mem hk)
 have tw:=stepAt_ok he tt ha h0
 have twl:=tw.le
 have twp:=tw.pos
 obtain ⟨b,hm,_⟩:=step_parts he tt ha h0 ok
 have hless:q5z ⟨l⟩ o rs=true→gt l o t (q5x l rs[k] t a).term 0 0=true:=fun hd=>by
  obtain ⟨_,d2,d3⟩:=q89 hd
  exact step_less ok d2 he (d3 _ (List.getElem_mem hk)) tt ha h0
 have hx:¬ (redex l rs t).1 < 0:=fun hlt=>by
  have:=normal_iff.1 hlt a ha
  rcases q60 (fun e:Equation=>(q41 l e.left t a).isSome) rs with ⟨_,h2⟩ | ⟨i,_,h2,_⟩
  · have:=h2 _ (List.getElem_mem hk)
    rw [hm] at this; cases this
  · unfold fits at this; rw [h2] at this; omega
 obtain ⟨a',k',hk',er',ha',_⟩:=redex_inner hr tt hx
 have hfr:q7x ⟨l⟩ rs t=⟨0,(a':Int),(k':Int)⟩:=by
  unfold q7x; rw [if_neg (by simpa using hrf),if_neg hx,er']
 have eF:LIM F.q40 [.agg [slc l],slc rs,slc t]=_:=(q40 ⟨l⟩ rs t s1 s2 (s3 ht)).eq
 rw [hfr,q4j] at eF
 have hnorm:((k':Int)=k∧(a':Int)=a)→q7h ⟨l⟩ rs t 30=norm l rs 29 1 (q5x l rs[k] t a).term:=fun ⟨e1,e2⟩=>by
  have e1:k'=k:=by omega
  have e2:a'=a:=by omega
  subst e1; subst e2
  unfold q7h
  rw [if_neg (by simpa using hrf),if_neg (by decide)]
  show norm l rs (29+1) 0 t=_
  rw [norm,if_neg hx,er']
  simp only [Int.toNat_natCast]
  rw [hgd,if_neg (by simpa using h0)]
 generalize hw:(q5x l rs[k] t a).term=w at *
 have hrest:q7h ⟨l⟩ rs w 29=norm l rs 29 0 w:=by
  unfold q7h
  rw [if_neg (by simpa using rewriteFault_sub hrf tw),if_neg (by decide)]
  rfl
 have eA:LIM F.q2t [.agg [slc l],slc rs,slc t,.int .i64 30]=_:=(q2t ⟨l⟩ rs t 30 s1 s2 (s3 ht)).eq
 have eB:LIM F.q2t [.agg [slc l],slc rs,slc w,.int .i64 29]=_:=(q2t ⟨l⟩ rs w 29 s1 s2 (s3 (by omega))).eq
 rw [hrest] at eB
 obtain ⟨n1,n2,n3⟩:=norm_shift (l:=l) (rs:=rs) 29 0 w
 have hend:=fun h=>norm_end (l:=l) (rs:=rs) 29 0 w h
 have hnl:(norm l rs 29 0 w).code=0→(norm l rs 29 0 w).term.length≤1001:=fun h=>by
  have:=((norm_sm hr 29 0 w tw).2 h).le; omega
 have hst:(norm l rs 29 0 w).code=0→0≤(norm l rs 29 0 w).steps∧(norm l rs 29 0 w).steps≤29:=fun h=>by
  obtain ⟨s,u,q1,q2,_⟩:=hend h
  rw [q2]; simp only; omega
 have e0:=(q1d w [] (by omega)).eq
 rw [decide_eq_false (fun e=>by rw [e] at twp; simp at twp)] at e0
 have e0:LIM F.q1d [slc w,.sl 1 []]=some (.bool false,[]):=e0
 have eD:LIM F.q3l [.agg [slc l],slc o,slc rs]=_:=(q3l ⟨l⟩ o rs s1 ⟨by omega,fun _ _=>trivial⟩ s2).eq
 have eC:q5z ⟨l⟩ o rs=true→LIM F.q3u [.agg [slc l],slc o,slc t,slc w]=some (.agg [.int .i64 0,.int .i64 1],[]):=fun hd=>by
  obtain ⟨d1,d2,d3⟩:=q89 hd
  have hF':cmpF ⟨l⟩ o t w=0:=by
   unfold cmpF; rw [if_pos d1,q5o (q8o d1).1,q5o (q8o d1).1,(q4r l t).2 tt,(q4r l w).2 tw]; rfl
  have:=(q3u l (by omega) o (by omega) t w (by omega) (by omega)).eq
  rw [hF',show cmpR ⟨l⟩ o t w=cmpV l o t w by unfold cmpR; rw [if_pos hF'],(cmpV_gt ok d2 tt tw (hless hd)).1] at this
  exact this
 rw [h0] at eW eW'
 generalize hd:q5z ⟨l⟩ o rs=d at *
 by_cases hkk:(k':Int)=k
 case neg =>
  refine q0v rfl 0 ((q47.ev _ _).trans ?_)
  cases d with
  | false=>simp only [evz,Nat.reduceLT,(q45 (code:=code)).eq,hbig,ed.eq,er.eq,eW,eW',eD,eF,bne_self_eq_false,ne_eq,not_true_eq_false,hkk,not_false_eq_true,e0,Bool.not_false,decide_true]
  | true=>simp only [evz,Nat.reduceLT,(q45 (code:=code)).eq,hbig,ed.eq,er.eq,eW,eW',eD,eC rfl,eF,bne_self_eq_false,ne_eq,not_true_eq_false,hkk,not_false_eq_true,e0,Bool.not_false,decide_true]
 by_cases haa:(a':Int)=a
 case neg =>
  refine q0v rfl 0 ((q47.ev _ _).trans ?_)
  cases d with
  | false=>simp only [evz,Nat.reduceLT,(q45 (code:=code)).eq,hbig,ed.eq,er.eq,eW,eW',eD,eF,bne_self_eq_false,ne_eq,not_true_eq_false,hkk,haa,not_false_eq_true,e0,Bool.not_false,decide_true]
  | true=>simp only [evz,Nat.reduceLT,(q45 (code:=code)).eq,hbig,ed.eq,er.eq,eW,eW',eD,eC rfl,eF,bne_self_eq_false,ne_eq,not_true_eq_false,hkk,haa,not_false_eq_true,e0,Bool.not_false,decide_true]
 rw [hnorm ⟨hkk,haa⟩,q3j,n1,n2] at eA
 rw [q3j] at eB
 by_cases hz:(norm l rs 29 0 w).code=0
 · have hst:=hst hz
   have eN:=(q1d (norm l rs 29 0 w).term (norm l rs 29 0 w).term (by have:=hnl hz; omega)).eq
   rw [decide_eq_true rfl] at eN
   rw [n3 hz,hz] at eA
   rw [hz] at eB
   have hwr:IntKind.wrap .i64 ((norm l rs 29 0 w).steps+1 - 1)=(norm l rs 29 0 w).steps:=by rw [q2u (by omega)]; omega
   refine q0v rfl 0 ((q47.ev _ _).trans ?_)
   cases d with
   | false=>simp only [evz,Nat.reduceLT,(q45 (code:=code)).eq,hbig,ed.eq,er.eq,eW,eW',eD,eF,bne_self_eq_false,ne_eq,not_true_eq_false,hkk,haa,not_false_eq_true,eA,eB,hwr,eN,decide_true]
   | true=>simp only [evz,Nat.reduceLT,(q45 (code:=code)).eq,hbig,ed.eq,er.eq,eW,eW',eD,eC rfl,eF,bne_self_eq_false,ne_eq,not_true_eq_false,hkk,haa,not_false_eq_true,eA,eB,hwr,eN,decide_true]
 · refine q0v rfl 0 ((q47.ev _ _).trans ?_)
   cases d with
   | false=>simp only [evz,Nat.reduceLT,(q45 (code:=code)).eq,hbig,ed.eq,er.eq,eW,eW',eD,eF,bne_self_eq_false,ne_eq,not_true_eq_false,hkk,haa,not_false_eq_true,eA,eB,hz,decide_true]
   | true=>simp only [evz,Nat.reduceLT,(q45 (code:=code)).eq,hbig,ed.eq,er.eq,eW,eW',eD,eC rfl,eF,bne_self_eq_false,ne_eq,not_true_eq_false,hkk,haa,not_false_eq_true,eA,eB,hz,decide_true]
end Ev.Ty
end
