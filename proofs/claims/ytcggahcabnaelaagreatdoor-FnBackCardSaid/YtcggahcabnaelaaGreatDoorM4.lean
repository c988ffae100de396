/- Steps on the way to RowBack: TyEqs, TySame, TyBind, TyRules, TyCmp, TyWalk, TyMatchP, TySortP, TyLpoP, TyLpo, TyDraw, TyDrawT, TyPigeon, TyOrd, TyTheory, TyAlgOf, TyDrawG, TyLpoS, TyPartP, TyRead, TyPool, TyDrawB, TyNormP, TyMatch, TyNorm, TyNormL, TyHasVar, TyHolds, TyAllHold, TyEntries, TySortT, TySortQ, TyGreat, TyUnifyP, TyPeakP, TyUnify, TyUnify2, TyPeak, TyPeak2, TyPeaks, TyAllPeaks, TyUnjoined, TyDeriveP, TyDerive, TyNewC, TyOrient, TyDraw8, TyDraw13, TyStabP, TySoundP, TyLBack. -/
import Derived.Test.YtcggahcabnaelaaGreatDoorM3
set_option linter.unusedSectionVars false
set_option linter.unusedVariables false
set_option linter.unusedSimpArgs false
section
namespace Ev.Ty
open Go Ev
open Enc (enc)
open Sm (sm)
set_option linter.unusedSimpArgs false
set_option linter.unusedVariables false
def low6 (t:List Int):Bool := !t.any fun n=>decide (n < -6)
theorem low6_iff {t:List Int}:low6 t=true↔∀ n∈t,-6≤n:=by
 unfold low6
 rw [Bool.not_eq_true',List.any_eq_false]
 constructor
 · intro h n hn; have:=h n hn; simpa using this
 · intro h n hn; simpa using h n hn
def eqFault (l:List Symbol) (e:Equation):Int :=
 if termFault0 l e.left≠0 then termFault0 l e.left else if termFault0 l e.right≠0 then termFault0 l e.right else if low6 e.left=true then (if low6 e.right=true then 0 else 3) else 3
def eqsFault (l:List Symbol) (es:List Equation):Int :=
 if 12 < es.length then 2 else (es.findSome? fun e=>if eqFault l e≠0 then some (eqFault l e) else none).getD 0
def ruleOk (e:Equation):Bool:=decide (0≤e.left.headD 0) && !e.right.any fun n=>decide (n < 0∧n∉e.left)
def rulesFault0 (l:List Symbol) (es:List Equation):Int:=if eqsFault l es≠0 then eqsFault l es else if (es.any fun e => !ruleOk e)=true then 1 else 0
def rulesFault (s:Signature) (es:List Equation):Int:=if sigFault s≠0 then sigFault s else rulesFault0 s.symbols es
structure EqOk (l:List Symbol) (e:Equation):Prop where
 left:TermOk l e.left
 right:TermOk l e.right
 lowL:∀ n∈e.left,-6≤n
 lowR:∀ n∈e.right,-6≤n
theorem eqOk_iff {l:List Symbol} {e:Equation}:eqFault l e=0↔EqOk l e:=by
 unfold eqFault
 constructor
 · intro h
   by_cases h1:termFault0 l e.left=0
   · by_cases h2:termFault0 l e.right=0
     · by_cases h3:low6 e.left=true
       · by_cases h4:low6 e.right=true
         · exact ⟨(termOk_iff _ _).1 h1,(termOk_iff _ _).1 h2,low6_iff.1 h3,low6_iff.1 h4⟩
         · simp [h1,h2,h3,h4] at h
       · simp [h1,h2,h3] at h
     · simp [h1,h2] at h
   · simp [h1] at h
 · intro h
   simp [(termOk_iff _ _).2 h.left,(termOk_iff _ _).2 h.right,low6_iff.2 h.lowL,low6_iff.2 h.lowR]
theorem eqsOk_iff {l:List Symbol} {es:List Equation}:eqsFault l es=0↔es.length≤12∧∀ e∈es,EqOk l e:=by
 unfold eqsFault
 by_cases h:12 < es.length
 · rw [if_pos h]
   constructor
   · intro h; cases h
   · intro h'; omega
 · rw [if_neg h]
   have:(es.findSome? fun e=>if eqFault l e≠0 then some (eqFault l e) else none).getD 0=0↔∀ e∈es,eqFault l e=0:=by
    cases hf:es.findSome? fun e=>if eqFault l e≠0 then some (eqFault l e) else none with
    | none =>
      rw [findSome_none] at hf
      refine ⟨fun _ e he => ?_,fun _=>rfl⟩
      have:=hf e he
      by_cases h:eqFault l e=0
      · exact h
      · simp [h] at this
    | some c =>
      obtain ⟨e,he,h1⟩:=List.exists_of_findSome?_eq_some hf
      by_cases h:eqFault l e=0
      · simp [h] at h1
      · simp [h] at h1
        subst h1
        exact ⟨fun h'=>absurd h' h,fun h'=>absurd (h' e he) h⟩
   rw [this]
   constructor
   · intro h'; exact ⟨by omega,fun e he=>eqOk_iff.1 (h' e he)⟩
   · intro h' e he; exact eqOk_iff.2 (h'.2 e he)
theorem TermOk.ge {l:List Symbol} {t:List Int} (h:TermOk l t):∀ n∈t,-12≤n:=fun n hn=>by
 rcases nodeOk_iff.1 (h.node n hn) with h | h <;> omega
theorem slices_ContainsFunc_Sint64_at1_impl_EquationFault_1 (t:List Int) (hs:t.length≤4294967296) :
 Call F.slices_ContainsFunc_Sint64 [slc t,.clo F.impl_EquationFault_1 []] (.bool (t.any fun n=>decide (n ≥ 6))):=by
 have hi:Call F.slices_IndexFunc_Sint64 [slc t,.clo F.impl_EquationFault_1 []] (.int .i64 (idx (fun n=>decide (n ≥ 6)) t)):=by
  refine call_of rfl (t.length+1) ((slices_IndexFunc_Sint64_at1_impl_EquationFault_1.ev _ _).trans ?_)
  refine idx_loop (S:=fun m k=>slices_IndexFunc_Sint64_at1_impl_EquationFault_1.at0 (t.length+1) m (slices_IndexFunc_Sint64_at1_impl_EquationFault_1.st0 (cells t) _ (k:Nat))) (fun m k h => ?_) (fun m => ?_) (Nat.lt_succ_self _)
  · have hlk:t[k]?=some t[k]:=List.getElem?_eq_getElem h
    have hc:Call F.impl_EquationFault_1 [.int .i64 t[k]] (.bool (decide (t[k] ≥ 6))):=call_of rfl 0 (impl_EquationFault_1.ev _ _)
    simp only [slices_IndexFunc_Sint64_at1_impl_EquationFault_1.next0,slices_IndexFunc_Sint64_at1_impl_EquationFault_1.round0,evz,Nat.reduceLT,h,hlk,enc_int,hc.eq]
    rw [wrap_succ (by omega)]
    by_cases e:t[k] ≥ 6 <;> simp [e]
  · simp only [slices_IndexFunc_Sint64_at1_impl_EquationFault_1.next0,slices_IndexFunc_Sint64_at1_impl_EquationFault_1.round0,evz,Nat.reduceLT,Nat.lt_irrefl]
 refine call_of rfl 0 ((slices_ContainsFunc_Sint64_at1_impl_EquationFault_1.ev _ _).trans ?_)
 simp only [evz,Nat.reduceLT,hi.eq,idx_nonneg]
theorem impl_EquationFault (l:List Symbol) (hs:l.length≤4294967296) (a b:List Int) (ha:a.length≤4294967296) (hb:b.length≤4294967296) :
 Call F.impl_EquationFault [.agg [slc l],.agg [slc a,slc b]] (.int .i64 (if sigFault ⟨l⟩≠0 then sigFault ⟨l⟩ else eqFault l ⟨a,b⟩)):=by
 refine call_of rfl 0 ((impl_EquationFault.ev _ _ _ _).trans ?_)
 simp only [evz,Nat.reduceLT,(impl_TermFault l hs a ha).eq,(impl_TermFault l hs b hb).eq,(impl_firstCode2 _ _).eq,termFault,eqFault]
 by_cases h1:sigFault ⟨l⟩=0
 case neg=>simp only [h1,evz,Nat.reduceLT,ne_eq,not_false_eq_true]
 simp only [h1,evz,Nat.reduceLT,ne_eq,not_true_eq_false]
 by_cases h2:termFault0 l a=0
 case neg=>simp only [h2,evz,Nat.reduceLT,not_false_eq_true]
 by_cases h3:termFault0 l b=0
 case neg=>simp only [h2,h3,evz,Nat.reduceLT,not_true_eq_false,not_false_eq_true]
 have ta:=(termOk_iff l a).1 h2
 have tb:=(termOk_iff l b).1 h3
 have hal:=ta.le
 have hbl:=tb.le
 have hv:=impl_varsOf [a,b] (by simp) (fun t ht=>by
  simp only [List.mem_cons,List.not_mem_nil,or_false] at ht
  rcases ht with rfl | rfl
  · exact ⟨ha,ta.ge⟩
  · exact ⟨hb,tb.ge⟩) (by simp; omega)
 have hvl:=varsOf_length [a,b]
 have hc:=slices_ContainsFunc_Sint64_at1_impl_EquationFault_1 (varsOf [a,b]) (by simp at hvl; omega)
 simp only [h2,h3,evz,Nat.reduceLT,not_true_eq_false,show LIM F.impl_varsOf [.sl 1 [slc a,slc b]]=_ from hv,hc.eq]
 have e1:((varsOf [a,b]).any fun n=>decide (n ≥ 6)) = !(low6 a&&low6 b):=by
  rw [Bool.eq_iff_iff,List.any_eq_true,Bool.not_eq_true',Bool.eq_false_iff,ne_eq,Bool.and_eq_true,low6_iff,low6_iff]
  constructor
  · rintro ⟨v,hv,h6⟩ ⟨q1,q2⟩
    rw [decide_eq_true_eq] at h6
    obtain ⟨_,t,ht,hm⟩:=mem_varsOf.1 hv
    simp only [List.mem_cons,List.not_mem_nil,or_false] at ht
    rcases ht with rfl | rfl
    · have:=q1 _ hm; omega
    · have:=q2 _ hm; omega
  · intro h
    by_cases q1:∀ n∈a,-6≤n
    · have q2:¬ ∀ n∈b,-6≤n:=fun q2=>h ⟨q1,q2⟩
      simp only [Classical.not_forall] at q2
      obtain ⟨n,hn,hlt⟩:=q2
      exact ⟨-1 - n,mem_varsOf.2 ⟨by omega,b,by simp,by rw [show -1 - (-1 - n)=n by omega]; exact hn⟩,by simp; omega⟩
    · simp only [Classical.not_forall] at q1
      obtain ⟨n,hn,hlt⟩:=q1
      exact ⟨-1 - n,mem_varsOf.2 ⟨by omega,a,by simp,by rw [show -1 - (-1 - n)=n by omega]; exact hn⟩,by simp; omega⟩
 rw [e1]
 cases low6 a <;> cases low6 b <;> rfl
theorem spec_l4Fault (l:List Symbol) (ok:SigOk ⟨l⟩) (a b:List Int) (ha:a.length≤4294967296) (hb:b.length≤4294967296) :
 Call F.spec_l4Fault [.rref [slc l] 0,.rref [slc a,slc b] 0] (.int .i64 (eqFault l ⟨a,b⟩)):=by
 have la:Call F.spec_l4Low [slc a] (.bool (low6 a)):=spec_l4Low a ha
 have lb:Call F.spec_l4Low [slc b] (.bool (low6 b)):=spec_l4Low b hb
 refine call_of rfl 0 ((spec_l4Fault.ev _ _ _ _).trans ?_)
 simp only [evz,Nat.reduceLT,(spec_l3Fault l ok a ha).eq,(spec_l3Fault l ok b hb).eq,la.eq,lb.eq,eqFault]
 by_cases h2:termFault0 l a=0
 case neg=>simp only [h2,evz,Nat.reduceLT,ne_eq,not_false_eq_true]
 by_cases h3:termFault0 l b=0
 case neg=>simp only [h2,h3,evz,Nat.reduceLT,ne_eq,not_true_eq_false,not_false_eq_true]
 simp only [h2,h3,evz,Nat.reduceLT,ne_eq,not_true_eq_false]
 cases low6 a <;> cases low6 b <;> rfl
theorem eqs_sm {es:List Equation} {k:Nat} (he:sm 4294967296 es) (h:k < es.length):es[k].left.length≤4294967296∧es[k].right.length≤4294967296:=by
 have:=he.2 es[k] (List.getElem_mem h)
 exact ⟨this.1.1,this.2.1⟩
theorem impl_EquationsFault (l:List Symbol) (hs:l.length≤4294967296) (es:List Equation) (he:sm 4294967296 es) :
 Call F.impl_EquationsFault [.agg [slc l],slc es] (.int .i64 (if sigFault ⟨l⟩≠0 then sigFault ⟨l⟩ else eqsFault l es)):=by
 refine call_of rfl (es.length+1) ((impl_EquationsFault.ev _ _ _).trans ?_)
 simp only [evz,Nat.reduceLT,(impl_SignatureFault l hs).eq,eqsFault,gt_iff_lt]
 by_cases h1:sigFault ⟨l⟩=0
 case neg=>simp only [h1,evz,Nat.reduceLT,ne_eq,not_false_eq_true]
 by_cases h2:12 < es.length
 · have h2':(12:Int) < es.length:=by omega
   simp only [h1,h2,h2',evz,Nat.reduceLT,ne_eq,not_true_eq_false]
 have h2':¬ (12:Int) < es.length:=by omega
 simp only [h1,h2,h2',evz,Nat.reduceLT,ne_eq,not_true_eq_false]
 refine (scan_loop (l:=es) (g:=fun e=>if eqFault l e≠0 then some (some (.int .i64 (eqFault l e),[])) else none) (z:=some (.int .i64 0,[])) (S:=fun m k=>impl_EquationsFault.at0 (es.length+1) m (impl_EquationsFault.st0 (cells es) es.length (k:Nat) (cells l)))
  (fun m k h => ?_) (fun m => ?_) (Nat.lt_succ_self _)).trans ?_
 · have hlk:es[k]?=some es[k]:=List.getElem?_eq_getElem h
   obtain ⟨q1,q2⟩:=eqs_sm he h
   have hc:=impl_EquationFault l hs es[k].left es[k].right q1 q2
   rw [if_neg (by simpa using h1)] at hc
   simp only [impl_EquationsFault.next0,impl_EquationsFault.round0,evz,Nat.reduceLT,h,hlk,enc_Equation,hc.eq]
   rw [wrap_succ (by omega)]
   by_cases e:eqFault l es[k]=0
   · simp [e]
   · simp [e]
 · simp only [impl_EquationsFault.next0,impl_EquationsFault.round0,evz,Nat.reduceLT,Nat.lt_irrefl]
 · have:=findSome_map (fun e=>if eqFault l e≠0 then some (eqFault l e) else none) (fun n=>(some (T.int .i64 n,[]):R)) es
   rw [show (fun e=>(if eqFault l e≠0 then some (eqFault l e) else none).map fun n=>(some (T.int .i64 n,[]):R))=fun e=>if eqFault l e≠0 then some (some (T.int .i64 (eqFault l e),[])) else none from funext fun e=>by by_cases h:eqFault l e=0 <;> simp [h]] at this
   rw [this]
   cases es.findSome? fun e=>if eqFault l e≠0 then some (eqFault l e) else none <;> rfl
theorem spec_l5Fault (l:List Symbol) (ok:SigOk ⟨l⟩) (es:List Equation) (he:sm 4294967296 es):Call F.spec_l5Fault [.rref [slc l] 0,slc es] (.int .i64 (eqsFault l es)):=by
 refine call_of rfl (es.length+1) ((spec_l5Fault.ev _ _ _).trans ?_)
 simp only [evz,Nat.reduceLT,eqsFault,gt_iff_lt]
 by_cases h2:12 < es.length
 · have h2':(12:Int) < es.length:=by omega
   simp only [h2,h2',evz,Nat.reduceLT]
 have h2':¬ (12:Int) < es.length:=by omega
 simp only [h2,h2',evz,Nat.reduceLT]
 refine (scan_loop (l:=es) (g:=fun e=>if eqFault l e≠0 then some (some (.int .i64 (eqFault l e),[])) else none) (z:=some (.int .i64 0,[])) (S:=fun m k=>spec_l5Fault.at0 (es.length+1) m (spec_l5Fault.st0 (cells l) (cells es) (k:Nat)))
  (fun m k h => ?_) (fun m => ?_) (Nat.lt_succ_self _)).trans ?_
 · have hlk:es[k]?=some es[k]:=List.getElem?_eq_getElem h
   obtain ⟨q1,q2⟩:=eqs_sm he h
   have hc:=spec_l4Fault l ok es[k].left es[k].right q1 q2
   simp only [spec_l5Fault.next0,spec_l5Fault.round0,evz,Nat.reduceLT,h,hlk,cells_window sz_Equation hlk,enc_Equation,hc.eq]
   rw [wrap_succ (by omega)]
   by_cases e:eqFault l es[k]=0
   · simp [e]
   · simp [e]
 · simp only [spec_l5Fault.next0,spec_l5Fault.round0,evz,Nat.reduceLT,Nat.lt_irrefl]
 · have:=findSome_map (fun e=>if eqFault l e≠0 then some (eqFault l e) else none) (fun n=>(some (T.int .i64 n,[]):R)) es
   rw [show (fun e=>(if eqFault l e≠0 then some (eqFault l e) else none).map fun n=>(some (T.int .i64 n,[]):R))=fun e=>if eqFault l e≠0 then some (some (T.int .i64 (eqFault l e),[])) else none from funext fun e=>by by_cases h:eqFault l e=0 <;> simp [h]] at this
   rw [this]
   cases es.findSome? fun e=>if eqFault l e≠0 then some (eqFault l e) else none <;> rfl
end Ev.Ty
end
section
namespace Ev.Ty
open Go Ev
open Enc (enc)
open Sm (sm)
set_option linter.unusedVariables false
set_option linter.unusedSimpArgs false
theorem spec_l1Same (l r:List Int) (hs:sm 4294967296 l):Call F.spec_l1Same [slc l,slc r] (.bool (decide (l=r))):=by
 refine call_of rfl (l.length+1) ((spec_l1Same.ev _ _ _).trans ?_)
 simp only [cells_div,sz_int]
 by_cases hl:l.length=r.length
 · have loop:=eq_loop hl (S:=fun m k=>spec_l1Same.at0 (l.length+1) m (spec_l1Same.st0 (cells l) (cells r) (k:Nat)))
    (fun m k h h'=>by
     have hlk:l[k]?=some l[k]:=List.getElem?_eq_getElem h
     have hrk:r[k]?=some r[k]:=List.getElem?_eq_getElem h'
     simp only [spec_l1Same.next0,spec_l1Same.round0,evz,Nat.reduceLT,h,h',hlk,hrk,cells_window (l:=l) sz_int hlk,cells_window (l:=r) sz_int hrk,enc_int,enc_u8]
     rw [wrap_succ (by have:=hs.1; omega)])
    (fun m=>by
     simp only [spec_l1Same.next0,spec_l1Same.round0,evz,Nat.reduceLT,Nat.lt_irrefl])
   rw [cond_neg (by rw [hl]; exact bne_self_eq_false _)]
   exact loop
 · rw [cond_pos (by simp; omega)]
   simp only [show (l=r)=False from eq_false fun e=>hl (e ▸ rfl),decide_false]
theorem slices_Equal_Sint64 (l r:List Int) (hs:sm 4294967296 l):Call F.slices_Equal_Sint64 [slc l,slc r] (.bool (decide (l=r))):=by
 refine call_of rfl (l.length+1) ((slices_Equal_Sint64.ev _ _ _).trans ?_)
 simp only [cells_div,sz_int]
 by_cases hl:l.length=r.length
 · have loop:=eq_loop hl (S:=fun m k=>slices_Equal_Sint64.at0 (l.length+1) m (slices_Equal_Sint64.st0 (cells l) (cells r) l.length (k:Nat)))
    (fun m k h h'=>by
     have hlk:l[k]?=some l[k]:=List.getElem?_eq_getElem h
     have hrk:r[k]?=some r[k]:=List.getElem?_eq_getElem h'
     simp only [slices_Equal_Sint64.next0,slices_Equal_Sint64.round0,evz,Nat.reduceLT,h,h',hlk,hrk,cells_window (l:=l) sz_int hlk,cells_window (l:=r) sz_int hrk,enc_int,enc_u8]
     rw [wrap_succ (by have:=hs.1; omega)])
    (fun m=>by
     simp only [slices_Equal_Sint64.next0,slices_Equal_Sint64.round0,evz,Nat.reduceLT,Nat.lt_irrefl])
   rw [cond_neg (by rw [hl]; exact bne_self_eq_false _)]
   exact loop
 · rw [cond_pos (by simp; omega)]
   simp only [show (l=r)=False from eq_false fun e=>hl (e ▸ rfl),decide_false]
end Ev.Ty
end
section
namespace Ev.Ty
open Go Ev
open Enc (enc)
open Sm (sm)
set_option linter.unusedSimpArgs false
set_option linter.unusedVariables false
theorem firstCode2 (a b:Int):Call F.impl_firstCode [.sl 1 [.int .i64 a,.int .i64 b]] (.int .i64 (if a=0 then b else a)):=impl_firstCode2 a b
theorem skip_inner {a:Int→Nat}:∀ {t r:List Int} {k p:Nat},skip a k t=some r→p+r.length < t.length→∃ q,skip a 1 (t.drop p)=some q
 | [],r,k,p,h,hp=>by simp at hp
 | n::t,r,0,p,h,hp=>by
   rw [skip_zero] at h; cases h; omega
 | n::t,r,k+1,0,h,hp=>by
   rw [show k+1=1+k by omega,skip_add] at h
   cases h1:skip a 1 (n::t) with
   | none=>rw [h1] at h; cases h
   | some q=>exact ⟨q,by simpa using h1⟩
 | n::t,r,k+1,p+1,h,hp=>by
   rw [skip] at h
   obtain ⟨q,hq⟩:=skip_inner (p:=p) h (by simp at hp; omega)
   exact ⟨q,by simpa using hq⟩
def endAt (l:List Symbol) (t:List Int) (p:Nat):Nat:=match skip (ar l) 1 (t.drop p) with
 | some r=>t.length - r.length
 | none=>t.length
theorem endAt_spec {l:List Symbol} {t:List Int} (ok:TermOk l t) {p:Nat} (hp:p < t.length) :
 p < endAt l t p∧endAt l t p≤t.length∧∀ z,endRes z t (skip (ar l) 1 (t.drop p))=(endAt l t p:Nat):=by
 obtain ⟨q,hq⟩:=skip_inner (p:=p) ok.skip (by simpa using hp)
 have h:=skip_at hq
 unfold endAt
 rw [hq]
 refine ⟨?_,by simp only; omega,fun z=>rfl⟩
 have:=h.2.2 (by omega)
 simp only
 omega
section
variable {l:List Symbol} (ok:SigOk ⟨l⟩)
include ok
theorem endOf_at {t:List Int} (ht:TermOk l t) {p:Nat} (hp:p < t.length):Call F.impl_endOf [.agg [slc l],slc t,.int .i64 p] (.int .i64 (endAt l t p:Nat)):=by
 have h:=impl_endOf ok t ht.node (by have:=ht.le; omega) p (Nat.le_of_lt hp)
 rwa [(endAt_spec ht hp).2.2] at h
theorem l3End_at {t:List Int} (ht:TermOk l t) {p:Nat} (hp:p < t.length):Call F.spec_l3End [.rref [slc l] 0,slc t,.int .i64 p] (.int .i64 (endAt l t p:Nat)):=by
 have h:=spec_l3End ok t ht.node (by have:=ht.le; omega) p (Nat.le_of_lt hp)
 rwa [(endAt_spec ht hp).2.2] at h
end
theorem cells_cut (t:List Int) (i j:Nat):((cells t).take (j*1)).drop (i*1)=cells ((t.take j).drop i):=by
 rw [cells_take t 1 j rfl,cells_drop _ 1 i rfl]
def subAt (l:List Symbol) (t:List Int) (p:Nat):List Int:=(t.take (endAt l t p)).drop p
theorem slc_cut (t:List Int) (i j:Nat):T.sl 1 (((cells t).take (j*1)).drop (i*1))=slc ((t.take j).drop i):=by rw [cells_cut]; rfl
theorem spec_l1Ints' (l:List Int) (h:l.length≤4294967296):Call F.spec_l1Ints [slc l] (slc l):=by
 refine call_of rfl 0 ((spec_l1Ints.ev _ _).trans ?_)
 rw [scalars_int,cond_pos rfl,cond_pos (ble_ok (by rw [cells_length,sz_int]; omega))]
 rfl
theorem slices_Clone_Sint64 (l:List Int) (h:l.length≤4294967296):Call F.slices_Clone_Sint64 [slc l] (slc l):=by
 refine lim_ext (e:=cloneE) rfl (Ev.of fun m => ?_)
 show (intsOf (cells l)).bind _=_
 rw [← intsT_cells,intsOf_intsT]
 show (bif _ then _ else _)=_
 rw [cond_pos (by rw [decide_eq_true_iff]; omega),intsT_cells]
 rfl
section
variable {l:List Symbol} (ok:SigOk ⟨l⟩)
include ok
theorem impl_subterm {t:List Int} (ht:TermOk l t) {p:Nat} (hp:p < t.length):Call F.impl_subterm [.agg [slc l],slc t,.int .i64 p] (slc (subAt l t p)):=by
 refine call_of rfl 0 ((impl_subterm.ev _ _ _ _).trans ?_)
 obtain ⟨h1,h2,_⟩:=endAt_spec ht hp
 simp only [evz,Nat.reduceLT,(endOf_at ok ht hp).eq]
 rw [cond_pos (by simp; omega),slc_cut]
 rfl
theorem spec_l3Sub {t:List Int} (ht:TermOk l t) {p:Nat} (hp:p < t.length):Call F.spec_l3Sub [.rref [slc l] 0,slc t,.int .i64 p] (slc (subAt l t p)):=by
 refine call_of rfl 0 ((spec_l3Sub.ev _ _ _ _).trans ?_)
 obtain ⟨h1,h2,_⟩:=endAt_spec ht hp
 have hle:=ht.le
 simp only [evz,Nat.reduceLT,(l3End_at ok ht hp).eq]
 rw [cond_pos (by simp; omega),slc_cut,(spec_l1Ints' _ (by simp; omega)).eq]
 simp only [evz,Nat.reduceLT]
 rfl
def replAt (l:List Symbol) (t:List Int) (p:Nat) (by_:List Int):List Int:=(t.take p++by_)++t.drop (endAt l t p)
theorem impl_replaced {t:List Int} (ht:TermOk l t) {p:Nat} (hp:p < t.length) (by_:List Int) (hb:by_.length≤1048576):Call F.impl_replaced [.agg [slc l],slc t,.int .i64 p,slc by_] (slc (replAt l t p by_)):=by
 refine call_of rfl 0 ((impl_replaced.ev _ _ _ _ _).trans ?_)
 obtain ⟨h1,h2,_⟩:=endAt_spec ht hp
 have hle:=ht.le
 simp only [cells_div,sz_int,Int.toNat_natCast]
 rw [cond_pos (by simp; omega),slc_cut,(slices_Clone_Sint64 _ (by simp; omega)).eq]
 simp only [evz,Nat.reduceLT,scalars_int,(endOf_at ok ht hp).eq,cells_cut,← cells_append,cells_div,sz_int,Int.toNat_natCast]
 rw [cond_pos (ble_ok (by rw [cells_length,cells_length,sz_int]; simp; omega)),cond_pos (by simp; omega),cond_pos (ble_ok (by rw [cells_length,cells_length,sz_int]; simp; omega))]
 simp [replAt,slc]
theorem spec_l3Replace {t:List Int} (ht:TermOk l t) {p:Nat} (hp:p < t.length) (by_:List Int) (hb:by_.length≤1048576):Call F.spec_l3Replace [.rref [slc l] 0,slc t,.int .i64 p,slc by_] (slc (replAt l t p by_)):=by
 refine call_of rfl 0 ((spec_l3Replace.ev _ _ _ _ _).trans ?_)
 obtain ⟨h1,h2,_⟩:=endAt_spec ht hp
 have hle:=ht.le
 simp only [cells_div,sz_int,Int.toNat_natCast]
 rw [cond_pos (by simp; omega),slc_cut,(spec_l1Ints' _ (by simp; omega)).eq]
 simp only [evz,Nat.reduceLT,scalars_int,(l3End_at ok ht hp).eq,cells_cut,← cells_append,cells_div,sz_int,Int.toNat_natCast]
 rw [cond_pos (ble_ok (by rw [cells_length,cells_length,sz_int]; simp; omega)),cond_pos (by simp; omega),cond_pos (ble_ok (by rw [cells_length,cells_length,sz_int]; simp; omega))]
 simp [replAt,slc]
end
def bindOf (vs:List Int) (ts:List (List Int)) (v:Int):Option (List Int):=if idx (fun x=>decide (x=v)) vs < 0 then none else ts[(idx (fun x=>decide (x=v)) vs).toNat]?
theorem slices_Index_Sint64 (l:List Int) (x:Int) (hl:l.length≤4294967296):Call F.slices_Index_Sint64 [slc l,.int .i64 x] (.int .i64 (idx (fun y=>decide (y=x)) l)):=by
 refine call_of rfl (l.length+1) ((slices_Index_Sint64.ev _ _ _).trans ?_)
 simp only [evz,Nat.reduceLT]
 refine idx_loop (S:=fun m k=>slices_Index_Sint64.at0 (l.length+1) m (slices_Index_Sint64.st0 (cells l) x l.length (k:Nat))) (fun m k h => ?_) (fun m => ?_) (Nat.lt_succ_self _)
 · have hlk:l[k]?=some l[k]:=List.getElem?_eq_getElem h
   simp only [slices_Index_Sint64.next0,slices_Index_Sint64.round0,evz,Nat.reduceLT,h,hlk,enc_int]
   rw [wrap_succ (by omega)]
   by_cases e:x=l[k]
   · simp [e]
   · have e':¬ l[k]=x:=fun h=>e h.symm
     simp [e,e']
 · simp only [slices_Index_Sint64.next0,slices_Index_Sint64.round0,evz,Nat.reduceLT,Nat.lt_irrefl]
def ofT:Option (List Int)→T
 | some t => .tup [slc t,.bool true]
 | none => .tup [slc ([]:List Int),.bool false]
theorem impl_Binding_of (vs:List Int) (ts:List (List Int)) (v:Int) (hl:vs.length=ts.length) (hs:vs.length≤4294967296):Call F.impl_Binding_of [.agg [slc vs,slc ts],.int .i64 v] (ofT (bindOf vs ts v)):=by
 refine call_of rfl 0 ((impl_Binding_of.ev _ _ _ _).trans ?_)
 simp only [evz,Nat.reduceLT,(slices_Index_Sint64 vs v hs).eq,bindOf]
 rcases idx_spec (fun x:Int=>decide (x=v)) vs with ⟨h,_⟩ | ⟨i,hi,h,_,_⟩
 · simp only [h,evz,Nat.reduceLT,ofT,slc_nil,show ((-1:Int) < 0)=True from by simp]
 · have hn:¬ ((i:Nat):Int) < 0:=by omega
   have hit:i < ts.length:=by omega
   simp only [h,hn,evz,Nat.reduceLT,hit,List.getElem?_eq_getElem,enc_list,ofT]
theorem spec_l6Term (vs:List Int) (ts:List (List Int)) (v:Int) (hl:vs.length=ts.length) (hs:vs.length≤4294967296):Call F.spec_l6Term [.rref [slc vs,slc ts] 0,.int .i64 v] (slc ((bindOf vs ts v).getD [])):=by
 refine call_of rfl (vs.length+1) ((spec_l6Term.ev _ _ _ _).trans ?_)
 have loop:=scan_loop (l:=List.range vs.length) (g:=fun k=>if vs[k]?=some v then some (some (slc (ts[k]?.getD []),[])) else none) (z:=some (slc ([]:List Int),[]))
  (S:=fun m k=>spec_l6Term.at0 (vs.length+1) m (spec_l6Term.st0 (cells vs) (cells ts) v (k:Nat))) (fun m k h => ?_) (fun m => ?_) (f:=vs.length+1) (by simp)
 · refine loop.trans ?_
   unfold bindOf
   rcases idx_spec (fun x:Int=>decide (x=v)) vs with ⟨h,hno⟩ | ⟨i,hi,h,hyes,hno⟩
   · rw [h,if_pos (by omega)]
     have:(List.range vs.length).findSome? (fun k=>if vs[k]?=some v then some ((some (slc (ts[k]?.getD []),[]):R)) else none)=none:=by
      rw [List.findSome?_eq_none_iff]
      intro k hk
      rw [List.mem_range] at hk
      rw [if_neg]
      rw [List.getElem?_eq_getElem hk]
      intro e
      have:=hno _ (List.getElem_mem hk)
      simp at this e
      exact this e
     rw [this]; rfl
   · rw [h,if_neg (by omega)]
     have hit:i < ts.length:=by omega
     have:(List.range vs.length).findSome? (fun k=>if vs[k]?=some v then some ((some (slc (ts[k]?.getD []),[]):R)) else none)=some (some (slc ts[i],[])):=by
      rw [List.findSome?_eq_some_iff]
      refine ⟨List.range i,i,(List.range' (i+1) (vs.length - i - 1)),?_,?_,?_⟩
      · rw [List.range_eq_range',List.range_eq_range',← List.range'_succ,show vs.length - i - 1+1=vs.length - i by omega]
        have:=List.range'_append (s:=0) (m:=i) (n:=vs.length - i) (step:=1)
        simp only [Nat.one_mul,Nat.zero_add] at this
        rw [this,Nat.add_sub_cancel' (Nat.le_of_lt hi)]
      · have e1:vs[i]?=some v:=(List.getElem?_eq_getElem hi).trans (congrArg some (of_decide_eq_true hyes))
        have e2:ts[i]?=some ts[i]:=List.getElem?_eq_getElem hit
        simp only [e1,e2,if_true,Option.getD_some]
      · intro k hk
        rw [List.mem_range] at hk
        rw [if_neg]
        rw [List.getElem?_eq_getElem (by omega)]
        intro e
        have:=hno k hk
        simp at this e
        exact this e
     rw [this,Int.toNat_natCast,List.getElem?_eq_getElem hit]; rfl
 · rw [List.length_range] at h
   have hlk:vs[k]?=some vs[k]:=List.getElem?_eq_getElem h
   have hkt:k < ts.length:=by omega
   simp only [spec_l6Term.next0,spec_l6Term.round0,evz,Nat.reduceLT,h,hkt,hlk,List.getElem?_eq_getElem,enc_int,enc_list,List.getElem_range,Option.getD_some,Option.some.injEq]
   rw [wrap_succ (by omega)]
   by_cases e:vs[k]=v <;> simp [e]
 · rw [List.length_range]
   simp only [spec_l6Term.next0,spec_l6Term.round0,evz,Nat.reduceLT,Nat.lt_irrefl,slc_nil]
def applied (vs:List Int) (ts:List (List Int)) (t:List Int):List Int:=t.flatMap fun n=>(bindOf vs ts (-1 - n)).getD [n]
structure BindOk (vs:List Int) (ts:List (List Int)):Prop where
 len:vs.length=ts.length
 le:vs.length≤1000
 nn:∀ v∈vs,0≤v
 tm:∀ t∈ts,1≤t.length∧t.length≤4096
theorem bindOf_neg {vs:List Int} {ts:List (List Int)} (ok:BindOk vs ts) {v:Int} (hv:v < 0):bindOf vs ts v=none:=by
 unfold bindOf
 rcases idx_spec (fun x:Int=>decide (x=v)) vs with ⟨h,_⟩ | ⟨i,hi,h,hy,_⟩
 · rw [if_pos (by omega)]
 · have:=ok.nn _ (List.getElem_mem hi)
   simp at hy; omega
theorem bindOf_mem {vs:List Int} {ts:List (List Int)} {v:Int} {t:List Int} (h:bindOf vs ts v=some t):t∈ts:=by
 unfold bindOf at h
 split at h
 · cases h
 · exact List.mem_of_getElem? h
def appStep (vs:List Int) (ts:List (List Int)) (o:List Int) (n:Int):List Int:=o++(bindOf vs ts (-1 - n)).getD [n]
theorem app_fold (vs:List Int) (ts:List (List Int)):∀ (t o:List Int),t.foldl (appStep vs ts) o=o++applied vs ts t
 | [],o=>by simp [applied]
 | n::t,o=>by
   rw [List.foldl_cons,app_fold vs ts t]
   simp [appStep,applied]
def appI (k:Nat) (o:List Int):Prop:=o.length≤k*4096
theorem appI_step {vs:List Int} {ts:List (List Int)} (ok:BindOk vs ts) {k:Nat} {o:List Int} {n:Int} (h:appI k o):appI (k+1) (appStep vs ts o n):=by
 unfold appI appStep at *
 rw [List.length_append]
 cases hb:bindOf vs ts (-1 - n) with
 | none=>simp; omega
 | some t=>have:=(ok.tm t (bindOf_mem hb)).2; simp; omega
theorem applied_length {vs:List Int} {ts:List (List Int)} (ok:BindOk vs ts) (t:List Int):(applied vs ts t).length≤t.length*4096:=by
 have:=fold_inv (l:=t) (g:=appStep vs ts) appI (fun k o _ h=>appI_step ok h) [] (by simp [appI])
 rw [app_fold] at this
 simpa [appI] using this
theorem impl_Binding_applied (vs:List Int) (ts:List (List Int)) (ok:BindOk vs ts) (t:List Int) (ht:t.length≤4096) (hr:∀ n∈t,-4611686018427387904≤n∧n≤4611686018427387904):Call F.impl_Binding_applied [.agg [slc vs,slc ts],slc t] (slc (applied vs ts t)):=by
 have hle:=ok.le
 refine call_of rfl (t.length+1) ((impl_Binding_applied.ev _ _ _ _).trans ?_)
 simp only [cells_div,sz_int]
 have key:=fold_loop (l:=t) (f:=t.length+1) (S:=fun m k (o:List Int)=>impl_Binding_applied.at0 (t.length+1) m (impl_Binding_applied.st0 (cells t) t.length (k:Nat) (cells vs) (cells ts) (cells o))) (g:=appStep vs ts) (z:=fun (o:List Int)=>some (slc o,[])) appI
  (fun m k o h ho => ?_) (fun k o h ho=>appI_step ok ho) (fun m o ho => ?_) [] (by simp [appI]) (by omega)
 · rw [app_fold] at key; exact key
 · have hn:=hr _ (List.getElem_mem h)
   have ho:o.length≤k*4096:=ho
   simp only [impl_Binding_applied.next0,impl_Binding_applied.round0,evz,Nat.reduceLT,h,List.getElem?_eq_getElem,enc_int,wrap64 (x := -1 - t[k]) (by omega),(impl_Binding_of vs ts (-1 - t[k]) ok.len (by omega)).eq,appStep]
   cases hb:bindOf vs ts (-1 - t[k]) with
   | none =>
     simp only [ofT,evz,Nat.reduceLT,scalars_int,Option.getD_none,← cells_append]
     rw [cond_pos (ble_ok (by rw [cells_length,sz_int]; omega)),cells_snoc_int,wrap_succ (by omega)]
   | some x =>
     have hx:=(ok.tm x (bindOf_mem hb)).2
     simp only [ofT,evz,Nat.reduceLT,scalars_int,Option.getD_some,← cells_append]
     rw [cond_pos (ble_ok (by rw [cells_length,cells_length,sz_int]; omega)),wrap_succ (by omega)]
 · simp only [impl_Binding_applied.next0,impl_Binding_applied.round0,evz,Nat.reduceLT,Nat.lt_irrefl]
theorem spec_l6Apply (vs:List Int) (ts:List (List Int)) (ok:BindOk vs ts) (t:List Int) (ht:t.length≤4096) (hr:∀ n∈t,-4611686018427387904≤n∧n≤4611686018427387904):Call F.spec_l6Apply [.rref [slc vs,slc ts] 0,slc t] (slc (applied vs ts t)):=by
 have hle:=ok.le
 refine call_of rfl (t.length+1) ((spec_l6Apply.ev _ _ _ _).trans ?_)
 have key:=fold_loop (l:=t) (f:=t.length+1) (S:=fun m k (o:List Int)=>spec_l6Apply.at0 (t.length+1) m (spec_l6Apply.st0 (cells vs) (cells ts) (cells t) (k:Nat) (cells o))) (g:=appStep vs ts) (z:=fun (o:List Int)=>some (slc o,[])) appI
  (fun m k o h ho => ?_) (fun k o h ho=>appI_step ok ho) (fun m o ho => ?_) [] (by simp [appI]) (by omega)
 · rw [app_fold] at key; exact key
 · have hn:=hr _ (List.getElem_mem h)
   have ho:o.length≤k*4096:=ho
   by_cases hneg:t[k] < 0
   · simp only [spec_l6Apply.next0,spec_l6Apply.round0,evz,Nat.reduceLT,h,List.getElem?_eq_getElem,enc_int,hneg,wrap64 (x := -1 - t[k]) (by omega),(spec_l6Term vs ts (-1 - t[k]) ok.len (by omega)).eq,appStep]
     cases hb:bindOf vs ts (-1 - t[k]) with
     | none =>
       simp only [slc_nil,evz,Nat.reduceLT,List.all_nil,Option.getD_none,cells_nil,List.length_nil,← cells_append,Int.natCast_zero,Nat.zero_div,Int.ofNat_zero]
       rw [cond_pos (ble_ok (by rw [cells_length,sz_int]; omega)),cells_snoc_int,wrap_succ (by omega)]
     | some x =>
       have hx:=ok.tm x (bindOf_mem hb)
       have hx0:¬ ((x.length:Int)=0):=by omega
       simp only [evz,Nat.reduceLT,scalars_int,Option.getD_some,hx0,← cells_append]
       rw [cond_pos (ble_ok (by rw [cells_length,cells_length,sz_int]; omega)),wrap_succ (by omega)]
   · simp only [spec_l6Apply.next0,spec_l6Apply.round0,evz,Nat.reduceLT,h,List.getElem?_eq_getElem,enc_int,hneg,appStep,bindOf_neg ok (v := -1 - t[k]) (by omega),Option.getD_none]
     rw [cond_pos (ble_ok (by rw [cells_length,sz_int]; omega)),cells_snoc_int,wrap_succ (by omega)]
 · simp only [spec_l6Apply.next0,spec_l6Apply.round0,evz,Nat.reduceLT,Nat.lt_irrefl]
def pairFault (l:List Symbol) (x:Int × List Int):Option Int:=if inR x.1 0 11=false then some 3 else if termFault0 l x.2≠0 then some (termFault0 l x.2) else none
def falls (vs:List Int):Bool:=(List.range (vs.length - 1)).any fun i=>decide (vs.getD (i+1) 0≤vs.getD i 0)
def bindFault0 (l:List Symbol) (vs:List Int) (ts:List (List Int)):Int :=
 if vs.length≠ts.length∨12 < vs.length then 2 else match (vs.zip ts).findSome? (pairFault l) with
  | some c=>c
  | none=>if falls vs=true then 1 else 0
theorem bindOk_of {l:List Symbol} {vs:List Int} {ts:List (List Int)} (h:bindFault0 l vs ts=0):BindOk vs ts:=by
 unfold bindFault0 at h
 split at h
 · cases h
 · rename_i h1
   have hlen:vs.length=ts.length:=by omega
   split at h
   · rename_i c hc
     obtain ⟨x,_,hx⟩:=List.exists_of_findSome?_eq_some hc
     unfold pairFault at hx
     split at hx
     · cases hx; cases h
     · split at hx
       · rename_i hne; cases hx; exact absurd h hne
       · cases hx
   · rename_i hn
     have hp:∀ k (hk:k < vs.length),(inR vs[k] 0 11=true)∧TermOk l (ts[k]'(by omega)):=fun k hk=>by
      have hz:k < (vs.zip ts).length:=by rw [List.length_zip]; omega
      have:=List.findSome?_eq_none_iff.1 hn _ (List.getElem_mem hz)
      rw [List.getElem_zip] at this
      unfold pairFault at this
      split at this
      · cases this
      · rename_i q1
        split at this
        · cases this
        · rename_i q2
          exact ⟨by simpa using q1,(termOk_iff _ _).1 (by simpa using q2)⟩
     refine ⟨hlen,by omega,fun v hv => ?_,fun t ht => ?_⟩
     · obtain ⟨k,hk,rfl⟩:=List.getElem_of_mem hv
       exact (inR_iff.1 (hp k hk).1).1
     · obtain ⟨k,hk,rfl⟩:=List.getElem_of_mem ht
       have ok:=(hp k (by omega)).2
       exact ⟨ok.pos,by have:=ok.le; omega⟩
theorem getD_at {vs:List Int} {k:Nat} (h:k < vs.length):vs.getD k 0=vs[k]:=by rw [List.getD_eq_getElem?_getD,List.getElem?_eq_getElem h]; rfl
theorem spec_l1Rise (vs:List Int) (hl:vs.length≤4294967296):Call F.spec_l1Rise [slc vs] (.bool (!falls vs)):=by
 refine call_of rfl (vs.length+1) ((spec_l1Rise.ev _ _).trans ?_)
 refine (any_loop (n:=vs.length - 1) (bad:=fun i=>decide (vs.getD (i+1) 0≤vs.getD i 0)) (r:=some (.bool false,[])) (z:=some (.bool true,[])) (S:=fun m k=>spec_l1Rise.at0 (vs.length+1) m (spec_l1Rise.st0 (cells vs) ((k+1:Nat):Int))) (fun m k h => ?_) (fun m => ?_) (f:=vs.length+1) (by omega)).trans ?_
 · have h1:k+1 < vs.length:=by omega
   have h0:k < vs.length:=by omega
   have hw:IntKind.wrap .i64 (((k+1:Nat):Int) - 1)=(k:Nat):=by rw [wrap64 (by omega)]; omega
   simp only [spec_l1Rise.next0,spec_l1Rise.round0,evz,Nat.reduceLT,h1,h0,hw,List.getElem?_eq_getElem,enc_int,getD_at h1,getD_at h0,decide_eq_true_eq]
   rw [wrap_succ (by omega)]
 · have h1:¬ vs.length - 1+1 < vs.length:=by omega
   simp only [spec_l1Rise.next0,spec_l1Rise.round0,evz,Nat.reduceLT,h1]
 · unfold falls
   cases (List.range (vs.length - 1)).any fun i=>decide (vs.getD (i+1) 0≤vs.getD i 0) <;> rfl
theorem falls_impl (vs:List Int) (ts:List (List Int)) (n:Nat) (hn:vs.length < n) (hl:vs.length≤4294967296):impl_BindingFault.at2 n n (impl_BindingFault.st2 1 (cells vs) (cells ts))=some (.int .i64 (if falls vs=true then 1 else 0),[]):=by
 refine (any_loop (n:=vs.length - 1) (bad:=fun i=>decide (vs.getD (i+1) 0≤vs.getD i 0)) (r:=some (.int .i64 1,[])) (z:=some (.int .i64 0,[])) (S:=fun m k=>impl_BindingFault.at2 n m (impl_BindingFault.st2 ((k+1:Nat):Int) (cells vs) (cells ts))) (fun m k h => ?_) (fun m => ?_) (f:=n) (by omega)).trans ?_
 · have h1:k+1 < vs.length:=by omega
   have h0:k < vs.length:=by omega
   have hw:IntKind.wrap .i64 (((k+1:Nat):Int) - 1)=(k:Nat):=by rw [wrap64 (by omega)]; omega
   simp only [impl_BindingFault.next2,impl_BindingFault.round2,evz,Nat.reduceLT,h1,h0,hw,List.getElem?_eq_getElem,enc_int,getD_at h1,getD_at h0,decide_eq_true_eq]
   rw [wrap_succ (by omega)]
 · have h1:¬ vs.length - 1+1 < vs.length:=by omega
   simp only [impl_BindingFault.next2,impl_BindingFault.round2,evz,Nat.reduceLT,h1]
 · unfold falls
   cases (List.range (vs.length - 1)).any fun i=>decide (vs.getD (i+1) 0≤vs.getD i 0) <;> rfl
theorem impl_BindingFault (l:List Symbol) (hs:l.length≤4294967296) (vs:List Int) (ts:List (List Int)) (hv:vs.length≤4294967296) (ht:sm 4294967296 ts) :
 Call F.impl_BindingFault [.agg [slc l],.agg [slc vs,slc ts]] (.int .i64 (if sigFault ⟨l⟩≠0 then sigFault ⟨l⟩ else bindFault0 l vs ts)):=by
 refine call_of rfl (vs.length+1) ((impl_BindingFault.ev _ _ _ _).trans ?_)
 have htl:=ht.1
 simp only [evz,Nat.reduceLT,(impl_SignatureFault l hs).eq,bindFault0,gt_iff_lt]
 by_cases h1:sigFault ⟨l⟩=0
 case neg=>simp only [h1,evz,Nat.reduceLT,ne_eq,not_false_eq_true]
 by_cases h2:vs.length=ts.length
 case neg =>
  have h2':¬ ((ts.length:Int)=(vs.length:Int)):=by omega
  simp only [h1,h2,h2',evz,Nat.reduceLT,ne_eq,not_true_eq_false,not_false_eq_true,true_or]
 by_cases h3:12 < vs.length
 · have h3':(12:Int) < vs.length:=by omega
   simp only [h1,← h2,h3,h3',evz,Nat.reduceLT,ne_eq,not_true_eq_false,or_true]
 have h3':¬ (12:Int) < vs.length:=by omega
 simp only [h1,← h2,h3,h3',evz,Nat.reduceLT,ne_eq,not_true_eq_false,or_self]
 have hz:(vs.zip ts).length=vs.length:=by rw [List.length_zip]; omega
 refine (scan_loop (l:=vs.zip ts) (g:=fun x=>(pairFault l x).map fun n=>(some (T.int .i64 n,[]):R)) (z:=some (.int .i64 (if falls vs=true then 1 else 0),[]))
  (S:=fun m k=>impl_BindingFault.at0 (vs.length+1) m (impl_BindingFault.st0 (cells vs) vs.length (k:Nat) (cells l) (cells vs) (cells ts))) (fun m k h => ?_) (fun m => ?_) (f:=vs.length+1) (by omega)).trans ?_
 · have hk:k < vs.length:=by omega
   have hkt:k < ts.length:=by omega
   have hc:=impl_TermFault l hs ts[k] (ht.2 _ (List.getElem_mem hkt)).1
   unfold termFault at hc
   rw [if_neg (by simpa using h1)] at hc
   have hc:Call F.impl_TermFault [.agg [slc l],slc ts[k]] (.int .i64 (termFault0 l ts[k])):=hc
   simp only [impl_BindingFault.next0,impl_BindingFault.round0,evz,Nat.reduceLT,hk,hkt,List.getElem?_eq_getElem,enc_int,enc_list,(impl_within _ _ _).eq,List.getElem_zip,pairFault,hc.eq]
   rw [wrap_succ (by omega)]
   cases inR vs[k] 0 11 with
   | false=>simp
   | true =>
     by_cases e:termFault0 l ts[k]=0
     · simp [e]
     · simp [e]
 · rw [hz]
   simp only [impl_BindingFault.next0,impl_BindingFault.round0,evz,Nat.reduceLT,Nat.lt_irrefl,falls_impl vs ts (vs.length+1) (by omega) hv]
 · rw [findSome_map]
   cases (vs.zip ts).findSome? (pairFault l) <;> rfl
theorem spec_l6Fault (l:List Symbol) (ok:SigOk ⟨l⟩) (vs:List Int) (ts:List (List Int)) (hv:vs.length≤4294967296) (ht:sm 4294967296 ts) :
 Call F.spec_l6Fault [.rref [slc l] 0,.rref [slc vs,slc ts] 0] (.int .i64 (bindFault0 l vs ts)):=by
 refine call_of rfl (vs.length+1) ((spec_l6Fault.ev _ _ _ _).trans ?_)
 have htl:=ht.1
 simp only [evz,Nat.reduceLT,bindFault0,gt_iff_lt]
 by_cases h2:vs.length=ts.length
 case neg =>
  have h2':¬ ((vs.length:Int)=(ts.length:Int)):=by omega
  simp only [h2,h2',evz,Nat.reduceLT,ne_eq,not_true_eq_false,not_false_eq_true,true_or]
 by_cases h3:12 < vs.length
 · have h3':(12:Int) < vs.length:=by omega
   simp only [← h2,h3,h3',evz,Nat.reduceLT,ne_eq,not_true_eq_false,or_true]
 have h3':¬ (12:Int) < vs.length:=by omega
 simp only [← h2,h3,h3',evz,Nat.reduceLT,ne_eq,not_true_eq_false,or_self]
 have hz:(vs.zip ts).length=vs.length:=by rw [List.length_zip]; omega
 refine (scan_loop (l:=vs.zip ts) (g:=fun x=>(pairFault l x).map fun n=>(some (T.int .i64 n,[]):R)) (z:=some (.int .i64 (if falls vs=true then 1 else 0),[]))
  (S:=fun m k=>spec_l6Fault.at0 (vs.length+1) m (spec_l6Fault.st0 (cells l) (cells vs) (cells ts) (k:Nat))) (fun m k h => ?_) (fun m => ?_) (f:=vs.length+1) (by omega)).trans ?_
 · have hk:k < vs.length:=by omega
   have hkt:k < ts.length:=by omega
   have hc:=spec_l3Fault l ok ts[k] (ht.2 _ (List.getElem_mem hkt)).1
   simp only [spec_l6Fault.next0,spec_l6Fault.round0,evz,Nat.reduceLT,hk,hkt,List.getElem?_eq_getElem,enc_int,enc_list,(spec_l1In _ _ _).eq,List.getElem_zip,pairFault,hc.eq]
   rw [wrap_succ (by omega)]
   cases inR vs[k] 0 11 with
   | false=>simp
   | true =>
     by_cases e:termFault0 l ts[k]=0
     · simp [e]
     · simp [e]
 · rw [hz]
   simp only [spec_l6Fault.next0,spec_l6Fault.round0,evz,Nat.reduceLT,Nat.lt_irrefl,(spec_l1Rise vs hv).eq]
   cases falls vs <;> rfl
 · rw [findSome_map]
   cases (vs.zip ts).findSome? (pairFault l) <;> rfl
end Ev.Ty
end
section
namespace Ev.Ty
open Go Ev
open Enc (enc)
open Sm (sm)
set_option linter.unusedSimpArgs false
set_option linter.unusedVariables false
end Ev.Ty
end
section
namespace Ev.Ty
open Go Ev
open Enc (enc)
open Sm (sm)
set_option linter.unusedSimpArgs false
set_option linter.unusedVariables false
def startsN (l:List Symbol) (t:List Int):Nat→Nat→List Nat
 | 0,_=>[]
 | n+1,p=>p::startsN l t n (endAt l t p)
def starts (l:List Symbol) (t:List Int) (p:Nat):List Nat:=startsN l t (ar l (t.getD p 0)) (p+1)
theorem startsN_length (l:List Symbol) (t:List Int):∀ n p,(startsN l t n p).length=n
 | 0,_=>rfl
 | n+1,p=>by rw [startsN,List.length_cons,startsN_length l t n]
theorem skip_one {l:List Symbol} {t:List Int} {p n:Nat} {r:List Int} (h:skip (ar l) (n+1) (t.drop p)=some r):p < t.length∧skip (ar l) n (t.drop (endAt l t p))=some r∧p < endAt l t p∧endAt l t p≤t.length:=by
 have hp:p < t.length:=by
  rcases Nat.lt_or_ge p t.length with h1 | h1
  · exact h1
  · rw [List.drop_of_length_le h1] at h; cases h
 rw [show n+1=1+n by omega,skip_add] at h
 cases h1:skip (ar l) 1 (t.drop p) with
 | none=>rw [h1] at h; cases h
 | some q =>
   rw [h1] at h
   have h2:=skip_at h1
   have e:endAt l t p=t.length - q.length:=by unfold endAt; rw [h1]
   have h3:=h2.2.2 (by omega)
   refine ⟨hp,?_,by rw [e]; omega,by rw [e]; omega⟩
   rw [e,← h2.1]
   exact h
theorem startsN_mem {l:List Symbol} {t:List Int}:∀ {n p:Nat} {r:List Int},skip (ar l) n (t.drop p)=some r→∀ q∈startsN l t n p,p≤q∧q < t.length
 | 0,p,r,h,q,hq=>by cases hq
 | n+1,p,r,h,q,hq=>by
   obtain ⟨h1,h2,h3,h4⟩:=skip_one h
   rcases List.mem_cons.1 hq with rfl | hq
   · exact ⟨Nat.le_refl _,h1⟩
   · have:=startsN_mem h2 q hq
     exact ⟨by omega,this.2⟩
theorem args_skip {l:List Symbol} {t:List Int} (ok:TermOk l t) {p:Nat} (hp:p < t.length):∃ r,skip (ar l) (ar l t[p]) (t.drop (p+1))=some r:=by
 obtain ⟨q,hq⟩:=skip_inner (p:=p) ok.skip (by simpa using hp)
 rw [List.drop_eq_getElem_cons hp,skip] at hq
 exact ⟨q,by simpa using hq⟩
theorem starts_mem {l:List Symbol} {t:List Int} (ok:TermOk l t) {p:Nat} (hp:p < t.length) {q:Nat} (hq:q∈starts l t p):p < q∧q < t.length:=by
 obtain ⟨r,hr⟩:=args_skip ok hp
 have hd:t.getD p 0=t[p]:=getD_at hp
 unfold starts at hq
 rw [hd] at hq
 have:=startsN_mem hr q hq
 exact ⟨by omega,this.2⟩
def rank (o:List Int) (n:Int):Int:=idx (fun x=>decide (x=n)) o
def cell (l:List Symbol) (o a b:List Int) (above:Nat→Nat→Bool) (i j:Nat):Bool :=
 if b.getD j 0 < 0 then decide (0≤a.getD i 0)&&decide (b.getD j 0∈subAt l a i)
 else if a.getD i 0 < 0 then false
 else if (starts l a i).any (fun p=>decide (subAt l a p=subAt l b j)||above p j) then true
 else if rank o (a.getD i 0) < rank o (b.getD j 0) then false
 else if (starts l b j).any (fun q => !above i q) then false
 else if rank o (b.getD j 0) < rank o (a.getD i 0) then true
 else match ((starts l a i).zip (starts l b j)).find? fun x => !decide (subAt l a x.1=subAt l b x.2) with
  | some x=>above x.1 x.2
  | none=>false
theorem cell_congr {l:List Symbol} {o a b:List Int} (ha:TermOk l a) (hb:TermOk l b) {f g:Nat→Nat→Bool} {i j:Nat} (hi:i < a.length) (hj:j < b.length)
 (h:∀ p q,i≤p→j≤q→p < a.length→q < b.length→(i < p∨j < q)→f p q=g p q):cell l o a b f i j=cell l o a b g i j:=by
 have h1:(starts l a i).any (fun p=>decide (subAt l a p=subAt l b j)||f p j)=(starts l a i).any (fun p=>decide (subAt l a p=subAt l b j)||g p j):=by
  rw [Bool.eq_iff_iff,List.any_eq_true,List.any_eq_true]
  constructor
  · rintro ⟨p,hp,h1⟩
    have:=starts_mem ha hi hp
    exact ⟨p,hp,by rw [← h p j (by omega) (Nat.le_refl _) this.2 hj (.inl this.1)]; exact h1⟩
  · rintro ⟨p,hp,h1⟩
    have:=starts_mem ha hi hp
    exact ⟨p,hp,by rw [h p j (by omega) (Nat.le_refl _) this.2 hj (.inl this.1)]; exact h1⟩
 have h2:(starts l b j).any (fun q => !f i q)=(starts l b j).any (fun q => !g i q):=by
  rw [Bool.eq_iff_iff,List.any_eq_true,List.any_eq_true]
  constructor
  · rintro ⟨p,hp,h1⟩
    have:=starts_mem hb hj hp
    exact ⟨p,hp,by rw [← h i p (Nat.le_refl _) (by omega) hi this.2 (.inr this.1)]; exact h1⟩
  · rintro ⟨p,hp,h1⟩
    have:=starts_mem hb hj hp
    exact ⟨p,hp,by rw [h i p (Nat.le_refl _) (by omega) hi this.2 (.inr this.1)]; exact h1⟩
 unfold cell
 rw [h1,h2]
 cases hf:((starts l a i).zip (starts l b j)).find? fun x => !decide (subAt l a x.1=subAt l b x.2) with
 | none=>rfl
 | some x =>
   have hm:=List.mem_of_find?_eq_some hf
   have hm1:=starts_mem ha hi (List.of_mem_zip hm).1
   have hm2:=starts_mem hb hj (List.of_mem_zip hm).2
   simp only [h x.1 x.2 (by omega) (by omega) hm1.2 hm2.2 (.inl hm1.1)]
def gtN (l:List Symbol) (o a b:List Int):Nat→Nat→Nat→Bool
 | 0,_,_=>false
 | n+1,i,j=>cell l o a b (gtN l o a b n) i j
def gt (l:List Symbol) (o a b:List Int) (i j:Nat):Bool:=gtN l o a b (a.length+b.length+1) i j
theorem gtN_stable {l:List Symbol} {o a b:List Int} (ha:TermOk l a) (hb:TermOk l b):∀ (d n m i j:Nat),i < a.length→j < b.length→(a.length - i)+(b.length - j)≤d→d < n→d < m→gtN l o a b n i j=gtN l o a b m i j:=by
 intro d
 induction d with
 | zero=>intros; omega
 | succ d ih =>
   intro n m i j hi hj hd hn hm
   obtain ⟨n,rfl⟩:∃ q,n=q+1:=⟨n - 1,by omega⟩
   obtain ⟨m,rfl⟩:∃ q,m=q+1:=⟨m - 1,by omega⟩
   rw [gtN,gtN]
   exact cell_congr ha hb hi hj fun p q h1 h2 h3 h4 h5=>ih n m p q h3 h4 (by omega) (by omega) (by omega)
theorem gt_eq {l:List Symbol} {o a b:List Int} (ha:TermOk l a) (hb:TermOk l b) {i j:Nat} (hi:i < a.length) (hj:j < b.length):gt l o a b i j=cell l o a b (gt l o a b) i j:=by
 show gtN l o a b (a.length+b.length+1) i j=_
 rw [gtN]
 exact cell_congr ha hb hi hj fun p q h1 h2 h3 h4 h5=>gtN_stable ha hb ((a.length - p)+(b.length - q)) _ _ p q h3 h4 (Nat.le_refl _) (by omega) (by omega)
section
variable {l:List Symbol} (ok:SigOk ⟨l⟩)
include ok
end
theorem mpAt_map:∀ (l:List (Int × Int × Bool)) (a b:Int) (i j:Nat),(mpAt l a b i).map (·.2)=(mpAt l a b j).map (·.2)
 | [],_,_,_,_=>rfl
 | (x,y,v)::r,a,b,i,j=>by
   rw [mpAt,mpAt]
   cases (a == x&&b == y) with
   | true=>rfl
   | false=>exact mpAt_map r a b (i+1) (j+1)
theorem mpFind_cons (x y:Int) (v:Bool) (r:List (Int × Int × Bool)) (a b:Int):mpFind ((x,y,v)::r) a b=bif a == x&&b == y then some v else mpFind r a b:=by
 unfold mpFind
 rw [mpAt]
 cases (a == x&&b == y) with
 | true=>rfl
 | false=>exact mpAt_map r a b 1 0
theorem mpFind_put:∀ (l:List (Int × Int × Bool)) (x y:Int) (v:Bool) (a b:Int),mpFind (mpPut l x y v) a b=bif a == x&&b == y then some v else mpFind l a b
 | [],x,y,v,a,b=>by rw [mpPut,mpFind_cons]
 | (x',y',v')::r,x,y,v,a,b=>by
   rw [mpPut]
   cases h:(x == x'&&y == y') with
   | true =>
     simp only [Bool.and_eq_true,beq_iff_eq] at h
     obtain ⟨rfl,rfl⟩:=h
     rw [cond_true,mpFind_cons,mpFind_cons]
     cases (a == x&&b == y) <;> rfl
   | false =>
     rw [cond_false,mpFind_cons,mpFind_cons,mpFind_put r]
     cases h1:(a == x'&&b == y') with
     | false=>rfl
     | true =>
       cases h2:(a == x&&b == y) with
       | false=>rfl
       | true =>
         simp only [Bool.and_eq_true,beq_iff_eq] at h1 h2
         obtain ⟨rfl,rfl⟩:=h1
         obtain ⟨rfl,rfl⟩:=h2
         simp at h
def Good (l:List Symbol) (o a b:List Int) (m:List (Int × Int × Bool)):Prop:=∀ (p q:Nat) (v:Bool),mpFind m p q=some v→v=gt l o a b p q
theorem Good.put {l:List Symbol} {o a b:List Int} {m:List (Int × Int × Bool)} (h:Good l o a b m) (i j:Nat):Good l o a b (mpPut m i j (gt l o a b i j)):=fun p q v hv=>by
 rw [mpFind_put] at hv
 cases hc:(((p:Int) == (i:Int))&&((q:Int) == (j:Int))) with
 | true =>
   rw [hc,cond_true] at hv
   simp only [Bool.and_eq_true,beq_iff_eq,Int.ofNat_inj] at hc
   obtain ⟨rfl,rfl⟩:=hc
   exact (Option.some.inj hv).symm
 | false=>rw [hc,cond_false] at hv; exact h p q v hv
section
variable {l:List Symbol} (ok:SigOk ⟨l⟩) {o a b:List Int} (ha:TermOk l a) (hb:TermOk l b)
include ok ha hb
end
section
variable {l:List Symbol} (ok:SigOk ⟨l⟩)
include ok
omit ok in
theorem at_bound {i j la lb:Nat} (hi:i < la) (hj:j < lb):i*lb+j < la*lb:=by
 have:i*lb+lb≤la*lb:=by rw [← Nat.succ_mul]; exact Nat.mul_le_mul_right _ hi
 omega
section
variable {o a b:List Int} (ha:TermOk l a) (hb:TermOk l b) {T:List Bool} (hT:T.length=a.length*b.length)
include ha hb hT
end
def Done (l:List Symbol) (o a b:List Int) (T:List Bool) (n:Nat):Prop :=
 T.length=a.length*b.length∧∀ p q,p < a.length→q < b.length→n≤p*b.length+q→T.getD (p*b.length+q) false=gt l o a b p q
omit ok in
theorem at_inj {n p q i j:Nat} (hq:q < n) (hj:j < n) (h:p*n+q=i*n+j):p=i∧q=j:=by
 rcases Nat.lt_trichotomy p i with h1 | h1 | h1
 · have:(p+1)*n≤i*n:=Nat.mul_le_mul_right _ h1
   rw [Nat.succ_mul] at this; omega
 · subst h1; exact ⟨rfl,by omega⟩
 · have:(i+1)*n≤p*n:=Nat.mul_le_mul_right _ h1
   rw [Nat.succ_mul] at this; omega
omit ok in
theorem Done.cell {o a b:List Int} (ha:TermOk l a) (hb:TermOk l b) {T:List Bool} {i j:Nat} (hi:i < a.length) (hj:j < b.length) (h:Done l o a b T (i*b.length+(j+1))) :
 cell l o a b (fun p q=>T.getD (p*b.length+q) false) i j=gt l o a b i j:=by
 rw [gt_eq ha hb hi hj]
 refine cell_congr ha hb hi hj fun p q h1 h2 h3 h4 h5=>h.2 p q h3 h4 ?_
 have h6:i*b.length≤p*b.length:=Nat.mul_le_mul_right _ h1
 rcases h5 with h5 | h5
 · have:(i+1)*b.length≤p*b.length:=Nat.mul_le_mul_right _ h5
   rw [Nat.succ_mul] at this; omega
 · omega
omit ok in
theorem Done.set {o a b:List Int} {T:List Bool} {i j:Nat} (hi:i < a.length) (hj:j < b.length) (h:Done l o a b T (i*b.length+(j+1))):Done l o a b (T.set (i*b.length+j) (gt l o a b i j)) (i*b.length+j):=by
 have hin:=at_bound hi hj
 refine ⟨by rw [List.length_set]; exact h.1,fun p q hp hq hle => ?_⟩
 by_cases e:i*b.length+j=p*b.length+q
 · obtain ⟨rfl,rfl⟩:=at_inj hq hj e.symm
   simp [List.getD_eq_getElem?_getD,h.1,hin]
 · have:=h.2 p q hp hq (by omega)
   rw [← this,List.getD_eq_getElem?_getD,List.getD_eq_getElem?_getD,List.getElem?_set_ne e]
end
end Ev.Ty
end
section
namespace Ev.Ty
open Go Ev
open Enc (enc)
open Sm (sm)
set_option linter.unusedSimpArgs false
set_option linter.unusedVariables false
theorem TermOk.range {l:List Symbol} (ok:SigOk ⟨l⟩) {t:List Int} (h:TermOk l t):∀ n∈t,-4611686018427387904≤n∧n≤4611686018427387904:=fun n hn=>by
 have:=nodeOk_iff.1 (h.node n hn)
 have hle:l.length≤6:=ok.le
 omega
theorem spec_EquationsFault (l:List Symbol) (hs:l.length≤4294967296) (es:List Equation) (he:sm 4294967296 es) :
 Call F.spec_EquationsFault [.agg [slc l],slc es] (.int .i64 (if sigFault ⟨l⟩≠0 then sigFault ⟨l⟩ else eqsFault l es)):=by
 refine call_of rfl 0 ((spec_EquationsFault.ev _ _ _).trans ?_)
 simp only [evz,Nat.reduceLT,(spec_SignatureFault l hs).eq]
 by_cases h1:sigFault ⟨l⟩=0
 case neg=>simp only [h1,evz,Nat.reduceLT,ne_eq,not_false_eq_true]
 simp only [h1,evz,Nat.reduceLT,ne_eq,not_true_eq_false,(spec_l5Fault l ((sigOk_iff _).1 h1) es he).eq]
theorem impl_fitting (t:List Int):Call F.impl_fitting [slc t] (.agg (enc (if 24 < t.length then (⟨2,[]⟩:TermResult) else ⟨0,t⟩))):=by
 refine call_of rfl 0 ((impl_fitting.ev _ _).trans ?_)
 simp only [evz,Nat.reduceLT,gt_iff_lt]
 by_cases h:24 < t.length
 · have h':(24:Int) < t.length:=by omega
   simp only [h,h',evz,Nat.reduceLT,enc_TermResult,slc_nil]
 · have h':¬ (24:Int) < t.length:=by omega
   simp only [h,h',evz,Nat.reduceLT,enc_TermResult]
theorem spec_l3Place (t:List Int) (n:Int) (hl:t.length≤4294967296):Call F.spec_l3Place [slc t,.int .i64 n] (.bool (inR n 0 (t.length - 1))):=by
 refine call_of rfl 0 ((spec_l3Place.ev _ _ _).trans ?_)
 simp only [evz,Nat.reduceLT,wrap64 (x:=(t.length:Int) - 1) (by omega),(spec_l1In _ _ _).eq]
def stepR (l:List Symbol) (t:List Int) (vs:List Int) (ts:List (List Int)) (p:Nat) (a b:List Int):TermResult :=
 if applied vs ts a=subAt l t p then if 24 < (applied vs ts b).length then ⟨2,[]⟩ else if 24 < (replAt l t p (applied vs ts b)).length then ⟨2,[]⟩ else ⟨0,replAt l t p (applied vs ts b)⟩ else ⟨4,[]⟩
def walkStepR (s:Signature) (es:List Equation) (t:List Int) (n:Int) (back:Bool) (b:Binding) (p:Int):TermResult :=
 if sigFault s≠0 then ⟨sigFault s,[]⟩ else if eqsFault s.symbols es≠0 then ⟨eqsFault s.symbols es,[]⟩ else if termFault0 s.symbols t≠0 then ⟨termFault0 s.symbols t,[]⟩
 else if inR n 0 (es.length - 1)=false then ⟨3,[]⟩ else if bindFault0 s.symbols b.vars b.terms≠0 then ⟨bindFault0 s.symbols b.vars b.terms,[]⟩
 else if inR p 0 (t.length - 1)=false then ⟨3,[]⟩
 else stepR s.symbols t b.vars b.terms p.toNat (bif back then (es.getD n.toNat ⟨[],[]⟩).right else (es.getD n.toNat ⟨[],[]⟩).left) (bif back then (es.getD n.toNat ⟨[],[]⟩).left else (es.getD n.toNat ⟨[],[]⟩).right)
theorem getE {es:List Equation} {k:Nat} (h:k < es.length):es.getD k ⟨[],[]⟩=es[k]:=by rw [List.getD_eq_getElem?_getD,List.getElem?_eq_getElem h]; rfl
theorem sm_int {n:Nat} {t:List Int} (h:t.length≤n):sm n t:=⟨h,fun _ _=>trivial⟩
theorem impl_WalkStep (s:Signature) (es:List Equation) (t:List Int) (n:Int) (back:Bool) (b:Binding) (p:Int) (hs:sm 1048576 s) (he:sm 1048576 es) (ht:sm 1048576 t) (hb:sm 1048576 b) :
 Call F.impl_WalkStep [.agg [slc s.symbols],slc es,slc t,.int .i64 n,.bool back,.agg [slc b.vars,slc b.terms],.int .i64 p] (.agg (enc (walkStepR s es t n back b p))):=by
 obtain ⟨l⟩:=s
 obtain ⟨vs,ts⟩:=b
 have hl:l.length≤4294967296:=Nat.le_trans hs.1 (by omega)
 have he4:=sm_mono (show 1048576≤4294967296 by omega) he
 have hts:=sm_mono (show 1048576≤4294967296 by omega) hb.2
 have htl:t.length≤1048576:=ht.1
 have hel:es.length≤1048576:=he.1
 have hv:vs.length≤4294967296:=Nat.le_trans hb.1.1 (by omega)
 refine call_of rfl 0 ((impl_WalkStep.ev _ _ _ _ _ _ _ _ _).trans ?_)
 simp only [evz,Nat.reduceLT,(impl_EquationsFault l hl es he4).eq,(impl_TermFault l hl t (by omega)).eq,(firstCode2 _ _).eq,wrap64 (x:=(es.length:Int) - 1) (by omega),wrap64 (x:=(t.length:Int) - 1) (by omega),(impl_within _ _ _).eq,(impl_BindingFault l hl vs ts hv hts).eq,walkStepR,termFault]
 by_cases h1:sigFault ⟨l⟩=0
 case neg=>simp only [h1,evz,Nat.reduceLT,ne_eq,not_false_eq_true,enc_TermResult,slc_nil]
 have ok:=(sigOk_iff _).1 h1
 simp only [h1,evz,Nat.reduceLT,ne_eq,not_true_eq_false]
 by_cases h2:eqsFault l es=0
 case neg=>simp only [h2,evz,Nat.reduceLT,ne_eq,not_false_eq_true,enc_TermResult,slc_nil]
 simp only [h2,evz,Nat.reduceLT,ne_eq,not_true_eq_false]
 by_cases h3:termFault0 l t=0
 case neg=>simp only [h3,evz,Nat.reduceLT,ne_eq,not_false_eq_true,enc_TermResult,slc_nil]
 simp only [h3,evz,Nat.reduceLT,ne_eq,not_true_eq_false]
 cases h4:inR n 0 (es.length - 1) with
 | false=>simp only [evz,Nat.reduceLT,enc_TermResult,slc_nil,Bool.not_false]
 | true =>
 simp only [evz,Nat.reduceLT,Bool.not_true,Bool.true_eq_false]
 by_cases h5:bindFault0 l vs ts=0
 case neg=>simp only [h5,evz,Nat.reduceLT,ne_eq,not_false_eq_true,enc_TermResult,slc_nil]
 simp only [h5,evz,Nat.reduceLT,ne_eq,not_true_eq_false]
 cases h6:inR p 0 (t.length - 1) with
 | false=>simp only [evz,Nat.reduceLT,enc_TermResult,slc_nil,Bool.not_false]
 | true =>
 simp only [evz,Nat.reduceLT,Bool.not_true,Bool.true_eq_false]
 have hn:=inR_iff.1 h4
 have hp:=inR_iff.1 h6
 obtain ⟨k,rfl⟩:∃ k:Nat,n=k:=⟨n.toNat,by omega⟩
 obtain ⟨q,rfl⟩:∃ k:Nat,p=k:=⟨p.toNat,by omega⟩
 have hk:k < es.length:=by omega
 have hq:q < t.length:=by omega
 have tok:=(termOk_iff _ _).1 h3
 have bok:=bindOk_of h5
 have eok:=(eqsOk_iff.1 h2).2 _ (List.getElem_mem hk)
 have body:∀ a b:List Int,TermOk l a→TermOk l b →
  ((LIM F.impl_Binding_applied [(.agg [slc vs,slc ts]),slc a])=some (slc (applied vs ts a),[]))∧(LIM F.slices_Equal_Sint64 [slc (applied vs ts a),slc (subAt l t q)]=some (.bool (decide (applied vs ts a=subAt l t q)),[])) ∧
  ((applied vs ts b).length≤1048576)∧(LIM F.impl_replaced [.agg [slc l],slc t,.int .i64 (q:Nat),slc (applied vs ts b)]=some (slc (replAt l t q (applied vs ts b)),[])):=fun a b ha hb=>by
  have h1:=applied_length bok a
  have h2:=applied_length bok b
  have h3:=ha.le
  have h4:=hb.le
  exact ⟨(impl_Binding_applied vs ts bok a (by omega) (ha.range ok)).eq,(slices_Equal_Sint64 _ _ (sm_int (by omega))).eq,by omega,(impl_replaced ok tok hq _ (by omega)).eq⟩
 obtain ⟨l1,l2,l3,l4⟩:=body _ _ eok.left eok.right
 obtain ⟨r1,r2,r3,r4⟩:=body _ _ eok.right eok.left
 have hsub:=(impl_subterm ok tok hq).eq
 cases back with
 | false =>
   simp only [evz,Nat.reduceLT,hk,List.getElem?_eq_getElem,enc_Equation,l1,l2,r1,l4,hsub,getE hk,stepR,(impl_fitting _).eq,gt_iff_lt]
   by_cases e1:applied vs ts es[k].left=subAt l t q
   case neg=>simp only [e1,evz,Nat.reduceLT,enc_TermResult,slc_nil,Bool.not_false]
   by_cases e2:24 < (applied vs ts es[k].right).length
   · have e2':(24:Int) < (applied vs ts es[k].right).length:=by omega
     simp only [e1,e2,e2',evz,Nat.reduceLT,enc_TermResult,slc_nil]
   have e2':¬ (24:Int) < (applied vs ts es[k].right).length:=by omega
   by_cases e3:24 < (replAt l t q (applied vs ts es[k].right)).length <;> simp only [e1,e2,e2',e3,evz,Nat.reduceLT,enc_TermResult]
 | true =>
   simp only [evz,Nat.reduceLT,hk,List.getElem?_eq_getElem,enc_Equation,r1,r2,l1,r4,hsub,getE hk,stepR,(impl_fitting _).eq,gt_iff_lt]
   by_cases e1:applied vs ts es[k].right=subAt l t q
   case neg=>simp only [e1,evz,Nat.reduceLT,enc_TermResult,slc_nil,Bool.not_false]
   by_cases e2:24 < (applied vs ts es[k].left).length
   · have e2':(24:Int) < (applied vs ts es[k].left).length:=by omega
     simp only [e1,e2,e2',evz,Nat.reduceLT,enc_TermResult,slc_nil]
   have e2':¬ (24:Int) < (applied vs ts es[k].left).length:=by omega
   by_cases e3:24 < (replAt l t q (applied vs ts es[k].left)).length <;> simp only [e1,e2,e2',e3,evz,Nat.reduceLT,enc_TermResult]
theorem spec_WalkStep (s:Signature) (es:List Equation) (t:List Int) (n:Int) (back:Bool) (b:Binding) (p:Int) (hs:sm 1048576 s) (he:sm 1048576 es) (ht:sm 1048576 t) (hb:sm 1048576 b) :
 Call F.spec_WalkStep [.agg [slc s.symbols],slc es,slc t,.int .i64 n,.bool back,.agg [slc b.vars,slc b.terms],.int .i64 p] (.agg (enc (walkStepR s es t n back b p))):=by
 obtain ⟨l⟩:=s
 obtain ⟨vs,ts⟩:=b
 have hl:l.length≤4294967296:=Nat.le_trans hs.1 (by omega)
 have he4:=sm_mono (show 1048576≤4294967296 by omega) he
 have hts:=sm_mono (show 1048576≤4294967296 by omega) hb.2
 have htl:t.length≤1048576:=ht.1
 have hel:es.length≤1048576:=he.1
 have hv:vs.length≤4294967296:=Nat.le_trans hb.1.1 (by omega)
 refine call_of rfl 0 ((spec_WalkStep.ev _ _ _ _ _ _ _ _ _).trans ?_)
 simp only [evz,Nat.reduceLT,(spec_EquationsFault l hl es he4).eq,wrap64 (x:=(es.length:Int) - 1) (by omega),wrap64 (x:=(t.length:Int) - 1) (by omega),(spec_l1In _ _ _).eq,(spec_l3Place t p (by omega)).eq,walkStepR]
 by_cases h1:sigFault ⟨l⟩=0
 case neg=>simp only [h1,evz,Nat.reduceLT,ne_eq,not_false_eq_true,enc_TermResult,slc_nil]
 have ok:=(sigOk_iff _).1 h1
 simp only [h1,evz,Nat.reduceLT,ne_eq,not_true_eq_false,(spec_l3Fault l ok t (by omega)).eq,(spec_l6Fault l ok vs ts hv hts).eq]
 by_cases h2:eqsFault l es=0
 case neg=>simp only [h2,evz,Nat.reduceLT,ne_eq,not_false_eq_true,enc_TermResult,slc_nil]
 simp only [h2,evz,Nat.reduceLT,ne_eq,not_true_eq_false]
 by_cases h3:termFault0 l t=0
 case neg=>simp only [h3,evz,Nat.reduceLT,ne_eq,not_false_eq_true,enc_TermResult,slc_nil]
 simp only [h3,evz,Nat.reduceLT,ne_eq,not_true_eq_false]
 cases h4:inR n 0 (es.length - 1) with
 | false=>simp only [evz,Nat.reduceLT,enc_TermResult,slc_nil,Bool.not_false]
 | true =>
 simp only [evz,Nat.reduceLT,Bool.not_true,Bool.true_eq_false]
 by_cases h5:bindFault0 l vs ts=0
 case neg=>simp only [h5,evz,Nat.reduceLT,ne_eq,not_false_eq_true,enc_TermResult,slc_nil]
 simp only [h5,evz,Nat.reduceLT,ne_eq,not_true_eq_false]
 cases h6:inR p 0 (t.length - 1) with
 | false=>simp only [evz,Nat.reduceLT,enc_TermResult,slc_nil,Bool.not_false]
 | true =>
 simp only [evz,Nat.reduceLT,Bool.not_true,Bool.true_eq_false]
 have hn:=inR_iff.1 h4
 have hp:=inR_iff.1 h6
 obtain ⟨k,rfl⟩:∃ k:Nat,n=k:=⟨n.toNat,by omega⟩
 obtain ⟨q,rfl⟩:∃ k:Nat,p=k:=⟨p.toNat,by omega⟩
 have hk:k < es.length:=by omega
 have hq:q < t.length:=by omega
 have tok:=(termOk_iff _ _).1 h3
 have bok:=bindOk_of h5
 have eok:=(eqsOk_iff.1 h2).2 _ (List.getElem_mem hk)
 have body:∀ a b:List Int,TermOk l a→TermOk l b →
  ((LIM F.spec_l6Apply [(.rref [slc vs,slc ts] 0),slc a])=some (slc (applied vs ts a),[]))∧(LIM F.spec_l1Same [slc (applied vs ts a),slc (subAt l t q)]=some (.bool (decide (applied vs ts a=subAt l t q)),[])) ∧
  ((applied vs ts b).length≤1048576)∧(LIM F.spec_l3Replace [.rref [slc l] 0,slc t,.int .i64 (q:Nat),slc (applied vs ts b)]=some (slc (replAt l t q (applied vs ts b)),[])):=fun a b ha hb=>by
  have h1:=applied_length bok a
  have h2:=applied_length bok b
  have h3:=ha.le
  have h4:=hb.le
  exact ⟨(spec_l6Apply vs ts bok a (by omega) (ha.range ok)).eq,(spec_l1Same _ _ (sm_int (by omega))).eq,by omega,(spec_l3Replace ok tok hq _ (by omega)).eq⟩
 obtain ⟨l1,l2,l3,l4⟩:=body _ _ eok.left eok.right
 obtain ⟨r1,r2,r3,r4⟩:=body _ _ eok.right eok.left
 have hsub:=(spec_l3Sub ok tok hq).eq
 cases back with
 | false =>
   simp only [evz,Nat.reduceLT,hk,List.getElem?_eq_getElem,enc_Equation,l1,l2,r1,l4,hsub,getE hk,stepR,gt_iff_lt]
   by_cases e1:applied vs ts es[k].left=subAt l t q
   case neg=>simp only [e1,evz,Nat.reduceLT,enc_TermResult,slc_nil,Bool.not_false]
   by_cases e2:24 < (applied vs ts es[k].right).length
   · have e2':(24:Int) < (applied vs ts es[k].right).length:=by omega
     simp only [e1,e2,e2',evz,Nat.reduceLT,enc_TermResult,slc_nil]
   have e2':¬ (24:Int) < (applied vs ts es[k].right).length:=by omega
   by_cases e3:24 < (replAt l t q (applied vs ts es[k].right)).length
   · have e3':(24:Int) < (replAt l t q (applied vs ts es[k].right)).length:=by omega
     simp only [e1,e2,e2',e3,e3',evz,Nat.reduceLT,enc_TermResult,slc_nil]
   · have e3':¬ (24:Int) < (replAt l t q (applied vs ts es[k].right)).length:=by omega
     simp only [e1,e2,e2',e3,e3',evz,Nat.reduceLT,enc_TermResult]
 | true =>
   simp only [evz,Nat.reduceLT,hk,List.getElem?_eq_getElem,enc_Equation,r1,r2,l1,r4,hsub,getE hk,stepR,gt_iff_lt]
   by_cases e1:applied vs ts es[k].right=subAt l t q
   case neg=>simp only [e1,evz,Nat.reduceLT,enc_TermResult,slc_nil,Bool.not_false]
   by_cases e2:24 < (applied vs ts es[k].left).length
   · have e2':(24:Int) < (applied vs ts es[k].left).length:=by omega
     simp only [e1,e2,e2',evz,Nat.reduceLT,enc_TermResult,slc_nil]
   have e2':¬ (24:Int) < (applied vs ts es[k].left).length:=by omega
   by_cases e3:24 < (replAt l t q (applied vs ts es[k].left)).length
   · have e3':(24:Int) < (replAt l t q (applied vs ts es[k].left)).length:=by omega
     simp only [e1,e2,e2',e3,e3',evz,Nat.reduceLT,enc_TermResult,slc_nil]
   · have e3':¬ (24:Int) < (replAt l t q (applied vs ts es[k].left)).length:=by omega
     simp only [e1,e2,e2',e3,e3',evz,Nat.reduceLT,enc_TermResult]
end Ev.Ty
end
section
namespace Ev.Ty
open Go Ev
open Enc (enc)
open Sm (sm)
set_option linter.unusedSimpArgs false
set_option linter.unusedVariables false
theorem skip_append {a:Int→Nat}:∀ {x r q:List Int} {k:Nat},skip a k x=some q→skip a k (x++r)=some (q++r)
 | x,r,q,0,h=>by rw [skip_zero] at h; cases h; rw [skip_zero]
 | [],r,q,k+1,h=>by cases h
 | n::x,r,q,k+1,h=>by
   rw [skip] at h
   rw [List.cons_append,skip]
   exact skip_append h
theorem skip_cut {a:Int→Nat}:∀ {x r:List Int} {k:Nat},skip a k (x++r)=some r→skip a k x=some []
 | x,r,0,h=>by
   rw [skip_zero] at h
   have:=congrArg List.length (Option.some.inj h)
   rw [List.length_append] at this
   have:x=[]:=List.eq_nil_of_length_eq_zero (by omega)
   subst this; rfl
 | [],r,k+1,h=>by
   obtain ⟨p,hp,hk⟩:=skip_suffix h
   have h1:=congrArg List.length hp
   rw [List.nil_append,List.length_append] at h1
   have h2:=hk (by omega)
   omega
 | n::x,r,k+1,h=>by
   rw [List.cons_append,skip] at h
   rw [skip]
   exact skip_cut h
theorem skip_nil {a:Int→Nat} {m:Nat} {r:List Int} (h:skip a m []=some r):m=0∧r=[]:=by
 cases m with
 | zero=>rw [skip_zero] at h; cases h; exact ⟨rfl,rfl⟩
 | succ m=>cases h
theorem sub_split {l:List Symbol} {t:List Int} (ht:TermOk l t) {p:Nat} (hp:p < t.length):t.drop p=subAt l t p++t.drop (endAt l t p)∧(subAt l t p).length=endAt l t p - p∧skip (ar l) 1 (t.drop p)=some (t.drop (endAt l t p)):=by
 obtain ⟨h1,h2,_⟩:=endAt_spec ht hp
 have hl:(subAt l t p).length=endAt l t p - p:=by simp [subAt]; omega
 refine ⟨?_,hl,?_⟩
 · have e:t.drop (endAt l t p)=(t.drop p).drop (endAt l t p - p):=by rw [List.drop_drop]; congr 1; omega
   have e2:subAt l t p=(t.drop p).take (endAt l t p - p):=by unfold subAt; rw [List.drop_take]
   rw [e,e2,List.take_append_drop]
 · obtain ⟨q,hq⟩:=skip_inner (p:=p) ht.skip (by simpa using hp)
   have:=(skip_at hq).1
   rw [hq]
   unfold endAt
   rw [hq]
   exact congrArg some this
theorem subAt_ok {l:List Symbol} {t:List Int} (ht:TermOk l t) {p:Nat} (hp:p < t.length):TermOk l (subAt l t p):=by
 obtain ⟨h1,h2,h3⟩:=sub_split ht hp
 obtain ⟨h4,h5,_⟩:=endAt_spec ht hp
 have:=ht.le
 refine ⟨by omega,by omega,fun n hn=>ht.node n ?_,?_⟩
 · exact List.mem_of_mem_drop (h1 ▸ List.mem_append_left _ hn)
 · rw [h1] at h3; exact skip_cut h3
abbrev Bnd:=List Int × List (List Int)
def insAt (vs:List Int) (v:Int):Nat:=(vs.takeWhile fun x=>decide (x < v)).length
def ins {α:Type} (l:List α) (i:Nat) (x:α):List α:=l.take i++x::l.drop i
def bput (b:Bnd) (v:Int) (t:List Int):Bnd:=(ins b.1 (insAt b.1 v) v,ins b.2 (insAt b.1 v) t)
theorem insAt_le (vs:List Int) (v:Int):insAt vs v≤vs.length:=by
 have:=(List.takeWhile_sublist (l:=vs) (p:=fun x=>decide (x < v))).length_le
 exact this
theorem insAt_lt:∀ (vs:List Int) (v:Int) (i:Nat) (h:i < insAt vs v) (h':i < vs.length),vs[i] < v
 | [],v,i,h,h'=>by simp at h'
 | x::vs,v,i,h,h'=>by
   unfold insAt at h
   rw [List.takeWhile_cons] at h
   by_cases hx:x < v
   · rw [if_pos (by simpa using hx)] at h
     cases i with
     | zero=>exact hx
     | succ i=>exact insAt_lt vs v i (by simpa [insAt] using h) (by simpa using h')
   · rw [if_neg (by simpa using hx)] at h; simp at h
theorem insAt_stop:∀ (vs:List Int) (v:Int) (h':insAt vs v < vs.length),¬ vs[insAt vs v] < v
 | [],v,h'=>by simp at h'
 | x::vs,v,h'=>by
   by_cases hx:x < v
   · have e:insAt (x::vs) v=insAt vs v+1:=by unfold insAt; rw [List.takeWhile_cons,if_pos (by simpa using hx)]; rfl
     have:=insAt_stop vs v (by rw [e] at h'; simpa using h')
     simpa [e] using this
   · have e:insAt (x::vs) v=0:=by unfold insAt; rw [List.takeWhile_cons,if_neg (by simpa using hx)]; rfl
     simpa [e] using hx
theorem ins_length {α:Type} (l:List α) (i:Nat) (x:α) (h:i≤l.length):(ins l i x).length=l.length+1:=by simp [ins]; omega
theorem mem_ins {α:Type} {l:List α} {i:Nat} {x y:α} (h:y∈ins l i x):y=x∨y∈l:=by
 unfold ins at h
 rcases List.mem_append.1 h with h | h
 · exact .inr (List.mem_of_mem_take h)
 · rcases List.mem_cons.1 h with h | h
   · exact .inl h
   · exact .inr (List.mem_of_mem_drop h)
structure MB (l:List Symbol) (b:Bnd) (k:Nat):Prop where
 len:b.1.length=b.2.length
 le:b.1.length≤k
 var:∀ v∈b.1,0≤v∧v≤11
 tm:∀ t∈b.2,TermOk l t
theorem MB.nil (l:List Symbol):MB l ([],[]) 0:=⟨rfl,Nat.le_refl _,by simp,by simp⟩
theorem MB.up {l:List Symbol} {b:Bnd} {k k':Nat} (h:MB l b k) (hk:k≤k'):MB l b k':=⟨h.len,Nat.le_trans h.le hk,h.var,h.tm⟩
theorem MB.put {l:List Symbol} {b:Bnd} {k:Nat} (h:MB l b k) {v:Int} (hv:0≤v∧v≤11) {t:List Int} (ht:TermOk l t):MB l (bput b v t) (k+1):=by
 have hi:=insAt_le b.1 v
 have hlen:=h.len
 have:=h.le
 refine ⟨?_,?_,fun x hx => ?_,fun x hx => ?_⟩
 · unfold bput; rw [ins_length _ _ _ hi,ins_length _ _ _ (by omega)]; omega
 · unfold bput; rw [ins_length _ _ _ hi]; omega
 · rcases mem_ins hx with rfl | hx
   · exact hv
   · exact h.var x hx
 · rcases mem_ins hx with rfl | hx
   · exact ht
   · exact h.tm x hx
theorem MB.ok {l:List Symbol} {b:Bnd} {k:Nat} (h:MB l b k) (hk:k≤24):BindOk b.1 b.2 :=
 ⟨h.len,by have:=h.le; omega,fun v hv=>(h.var v hv).1,fun t ht=>⟨(h.tm t ht).pos,by have:=(h.tm t ht).le; omega⟩⟩
theorem bindOf_none {vs:List Int} {ts:List (List Int)} (hl:vs.length=ts.length) {v:Int} (h:bindOf vs ts v=none):v∉vs:=fun hv=>by
 unfold bindOf at h
 rcases idx_spec (fun x:Int=>decide (x=v)) vs with ⟨h1,hno⟩ | ⟨i,hi,h1,_,_⟩
 · have:=hno v hv; simp at this
 · rw [h1,if_neg (by omega),Int.toNat_natCast,List.getElem?_eq_getElem (by omega)] at h
   cases h
def mgo (l:List Symbol) (t:List Int):List Int→Bnd→Nat→Option (Bnd × Nat)
 | [],b,p=>some (b,p)
 | n::q,b,p =>
   if t.length≤p then none
   else if 0≤n then (if t.getD p 0=n then mgo l t q b (p+1) else none)
   else match bindOf b.1 b.2 (-1 - n) with
    | none=>mgo l t q (bput b (-1 - n) (subAt l t p)) (p+(subAt l t p).length)
    | some o=>if o=subAt l t p then mgo l t q b (p+(subAt l t p).length) else none
structure Both (l:List Symbol) (t q:List Int) (p:Nat) (r:List Int):Prop where
 both:∃ m,skip (ar l) m q=some []∧skip (ar l) m (t.drop p)=some r
theorem Both.start {l:List Symbol} {t q:List Int} (ht:TermOk l t) (hq:TermOk l q) {p:Nat} (hp:p < t.length):Both l t q p (t.drop (endAt l t p)):=⟨1,hq.skip,(sub_split ht hp).2.2⟩
theorem Both.stop {l:List Symbol} {t:List Int} {p:Nat} {r:List Int} (h:Both l t [] p r):t.drop p=r:=by
 obtain ⟨m,h1,h2⟩:=h.both
 obtain ⟨rfl,_⟩:=skip_nil h1
 rw [skip_zero] at h2
 exact Option.some.inj h2
theorem Both.lt {l:List Symbol} {t q:List Int} {n:Int} {p:Nat} {r:List Int} (h:Both l t (n::q) p r):p < t.length:=by
 obtain ⟨m,h1,h2⟩:=h.both
 cases m with
 | zero=>rw [skip_zero] at h1; cases h1
 | succ m =>
   rcases Nat.lt_or_ge p t.length with h | h
   · exact h
   · rw [List.drop_of_length_le h] at h2; cases h2
theorem Both.node {l:List Symbol} {t q:List Int} {n:Int} {p:Nat} {r:List Int} (h:Both l t (n::q) p r) (hn:t.getD p 0=n):Both l t q (p+1) r:=by
 have hp:=h.lt
 obtain ⟨m,h1,h2⟩:=h.both
 cases m with
 | zero=>rw [skip_zero] at h1; cases h1
 | succ m =>
   rw [List.drop_eq_getElem_cons hp,skip,← getD_at hp,hn] at h2
   rw [skip] at h1
   exact ⟨_,h1,h2⟩
theorem Both.var {l:List Symbol} {t q:List Int} {n:Int} {p:Nat} {r:List Int} (ht:TermOk l t) (h:Both l t (n::q) p r) (hn:n < 0):Both l t q (p+(subAt l t p).length) r:=by
 have hp:=h.lt
 obtain ⟨h3,h4,h5⟩:=sub_split ht hp
 obtain ⟨h6,h7,_⟩:=endAt_spec ht hp
 obtain ⟨m,h1,h2⟩:=h.both
 cases m with
 | zero=>rw [skip_zero] at h1; cases h1
 | succ m =>
   rw [skip,ar_neg l hn,Nat.add_zero] at h1
   rw [show m+1=1+m by omega,skip_add,h5] at h2
   refine ⟨m,h1,?_⟩
   rw [h4,show p+(endAt l t p - p)=endAt l t p by omega]
   exact h2
theorem mgo_end {l:List Symbol} {t:List Int} (ht:TermOk l t) {r:List Int}:∀ (q:List Int) (b:Bnd) (p k:Nat),Both l t q p r→p≤t.length→MB l b k→k+q.length≤24→(∀ n∈q,nodeOk l n=true)→∀ x,mgo l t q b p=some x→t.drop x.2=r∧x.2≤t.length∧MB l x.1 (k+q.length)
 | [],b,p,k,h,hp,hb,hk,hq,x,hx=>by
   cases hx
   exact ⟨h.stop,hp,by simpa using hb⟩
 | n::q,b,p,k,h,hp,hb,hk,hq,x,hx=>by
   have hlt:=h.lt
   obtain ⟨h6,h7,_⟩:=endAt_spec ht hlt
   have hs:=(sub_split ht hlt).2.1
   rw [mgo,if_neg (by omega)] at hx
   rw [List.length_cons] at hk ⊢
   have e0:k+1+q.length=k+(q.length+1):=by omega
   by_cases hn:0≤n
   · rw [if_pos hn] at hx
     split at hx
     · rename_i e
       have:=mgo_end ht q b (p+1) (k+1) (h.node e) (by omega) (hb.up (by omega)) (by omega) (fun n hn=>hq n (List.mem_cons_of_mem _ hn)) x hx
       rw [e0] at this; exact this
     · cases hx
   · rw [if_neg hn] at hx
     have hnode:=nodeOk_iff.1 (hq n (by simp))
     split at hx
     · have:=mgo_end ht q _ _ (k+1) (h.var ht (by omega)) (by omega) (hb.put (v := -1 - n) (by omega) (subAt_ok ht hlt)) (by omega) (fun n hn=>hq n (List.mem_cons_of_mem _ hn)) x hx
       rw [e0] at this; exact this
     · split at hx
       · have:=mgo_end ht q b _ (k+1) (h.var ht (by omega)) (by omega) (hb.up (by omega)) (by omega) (fun n hn=>hq n (List.mem_cons_of_mem _ hn)) x hx
         rw [e0] at this; exact this
       · cases hx
def matchAt (l:List Symbol) (q t:List Int) (p:Nat):Option Bnd:=(mgo l t q ([],[]) p).map (·.1)
theorem matchAt_ok {l:List Symbol} {q t:List Int} (hq:TermOk l q) (ht:TermOk l t) {p:Nat} (hp:p < t.length) {b:Bnd} (h:matchAt l q t p=some b):MB l b q.length:=by
 unfold matchAt at h
 rw [Option.map_eq_some_iff] at h
 obtain ⟨x,hx,rfl⟩:=h
 have:=(mgo_end ht q ([],[]) p 0 (Both.start ht hq hp) (by omega) (MB.nil l) (by have:=hq.le; omega) hq.node x hx).2.2
 simpa using this
end Ev.Ty
end
section
namespace Ev.Ty
section
variable {α:Type} (lt:α→α→Bool)
variable {lt}
end
end Ev.Ty
end
section
namespace Ev.Ty
open Go Ev
set_option linter.unusedSimpArgs false
set_option linter.unusedVariables false
namespace Tm
def args:Tm→List Tm
 | v _=>[]
 | k _=>[]
 | u _ x=>[x]
 | b _ x y=>[x,y]
def size:Tm→Nat
 | v _=>1
 | k _=>1
 | u _ x=>x.size+1
 | b _ x y=>x.size+y.size+1
theorem args_size {p t:Tm} (h:p∈t.args):p.size < t.size:=by
 cases t with
 | v n=>cases h
 | k n=>cases h
 | u n x=>rw [List.mem_singleton.1 h]; exact Nat.lt_succ_self _
 | b n x y =>
   rcases List.mem_cons.1 h with rfl | h
   · show p.size < p.size+y.size+1; omega
   · rw [List.mem_singleton.1 h]; show y.size < x.size+y.size+1; omega
def gr (a:Int→Nat):Tm→Prop
 | v _=>False
 | k n=>0≤n∧a n=0
 | u n x=>0≤n∧a n=1∧x.gr a
 | b n x y=>0≤n∧a n=2∧x.gr a∧y.gr a
variable {a:Int→Nat}
theorem gr.args {t p:Tm} (h:t.gr a) (hp:p∈t.args):p.gr a:=by
 cases t with
 | v n=>cases h
 | k n=>cases hp
 | u n x=>rw [List.mem_singleton.1 hp]; exact h.2.2
 | b n x y =>
   rcases List.mem_cons.1 hp with rfl | hp
   · exact h.2.2.1
   · rw [List.mem_singleton.1 hp]; exact h.2.2.2
theorem gr.ok:∀ {t:Tm},t.gr a→t.ok a
 | .v _,h=>h.elim
 | .k _,h=>h
 | .u _ _,h=>⟨h.1,h.2.1,h.2.2.ok⟩
 | .b _ _ _,h=>⟨h.1,h.2.1,h.2.2.1.ok,h.2.2.2.ok⟩
theorem gr.head {t:Tm} (h:t.gr a):0≤t.head∧t.args.length=a t.head:=by
 cases t with
 | v n=>cases h
 | k n=>exact ⟨h.1,h.2.symm⟩
 | u n x=>exact ⟨h.1,h.2.1.symm⟩
 | b n x y=>exact ⟨h.1,h.2.1.symm⟩
theorem ok.args {t p:Tm} (h:t.ok a) (hp:p∈t.args):p.ok a:=by
 cases t with
 | v n=>cases hp
 | k n=>cases hp
 | u n x=>rw [List.mem_singleton.1 hp]; exact h.2.2
 | b n x y =>
   rcases List.mem_cons.1 hp with rfl | hp
   · exact h.2.2.1
   · rw [List.mem_singleton.1 hp]; exact h.2.2.2
theorem ok.len {t:Tm} (ha:∀ n,n < 0→a n=0) (h:t.ok a):t.args.length=a t.head:=by
 cases t with
 | v n=>exact (ha n h).symm
 | k n=>exact h.2.symm
 | u n x=>exact h.2.1.symm
 | b n x y=>exact h.2.1.symm
theorem ok.head {t p:Tm} (h:t.ok a) (hp:p∈t.args):0≤t.head:=by
 cases t with
 | v n=>cases hp
 | k n=>cases hp
 | u n x=>exact h.1
 | b n x y=>exact h.1
theorem args_flat {t p:Tm} (hp:p∈t.args) {n:Int} (hn:n∈p.flat):n∈t.flat:=by
 cases t with
 | v m=>cases hp
 | k m=>cases hp
 | u m x=>rw [List.mem_singleton.1 hp] at hn; exact List.mem_cons_of_mem _ hn
 | b m x y =>
   rcases List.mem_cons.1 hp with rfl | hp
   · exact List.mem_cons_of_mem _ (List.mem_append_left _ hn)
   · rw [List.mem_singleton.1 hp] at hn; exact List.mem_cons_of_mem _ (List.mem_append_right _ hn)
end Tm
open Tm
inductive G (r:Int→Int):Tm→Tm→Prop
 | eq {s p}:p∈s.args→G r s p
 | sub {s t p}:p∈s.args→G r p t→G r s t
 | big {s t}:0≤s.head→0≤t.head→r t.head < r s.head→(∀ q,q∈t.args→G r s q)→G r s t
 | lex {s t A B C x y}:0≤s.head→s.head=t.head→(∀ q,q∈t.args→G r s q)→s.args=A++x::B→t.args=A++y::C→G r x y→G r s t
namespace G
variable {r:Int→Int}
theorem arg {s t q:Tm} (h:G r s t) (hq:q∈t.args):G r s q:=by
 induction h with
 | eq hp=>exact .sub hp (.eq hq)
 | sub hp _ ih=>exact .sub hp (ih hq)
 | big _ _ _ h=>exact h q hq
 | lex _ _ h _ _ _=>exact h q hq
theorem trans:∀ (n:Nat) {s t u:Tm},s.size+t.size+u.size≤n→G r s t→G r t u→G r s u:=by
 intro n
 induction n with
 | zero=>intro s t u hn h1 h2; cases s <;> simp [Tm.size] at hn
 | succ n ih =>
   intro s t u hn h1 h2
   cases h1 with
   | eq hp=>exact .sub hp h2
   | sub hp h1 =>
     have:=args_size hp
     exact .sub hp (ih (by omega) h1 h2)
   | big z1 z2 hr hq =>
     have h1:G r s t := .big z1 z2 hr hq
     cases h2 with
     | eq hu=>exact hq _ hu
     | sub hp h2 =>
       have:=args_size hp
       exact ih (by omega) (hq _ hp) h2
     | big _ z3 hr2 hq2=>exact .big z1 z3 (Int.lt_trans hr2 hr) fun w hw=>ih (by have:=args_size hw; omega) h1 (hq2 w hw)
     | lex z3 he hq2 _ _ _=>exact .big z1 (he ▸ z3) (he ▸ hr) fun w hw=>ih (by have:=args_size hw; omega) h1 (hq2 w hw)
   | @lex _ _ A B C x y z1 he hq e1 e2 hxy =>
     have h1:G r s t := .lex z1 he hq e1 e2 hxy
     cases h2 with
     | eq hu=>exact hq _ hu
     | sub hp h2 =>
       have:=args_size hp
       exact ih (by omega) (hq _ hp) h2
     | big _ z3 hr2 hq2=>exact .big z1 z3 (by rw [he]; exact hr2) fun w hw=>ih (by have:=args_size hw; omega) h1 (hq2 w hw)
     | @lex _ _ A' B' C' x' y' z3 he2 hq2 e3 e4 hxy2 =>
       have hall:∀ w,w∈u.args→G r s w:=fun w hw=>ih (by have:=args_size hw; omega) h1 (hq2 w hw)
       have hx:x.size < s.size:=args_size (by rw [e1]; simp)
       have hy:y.size < t.size:=args_size (by rw [e2]; simp)
       have hy':y'.size < u.size:=args_size (by rw [e4]; simp)
       rcases List.append_eq_append_iff.1 (e2.symm.trans e3) with ⟨D,hA,hD⟩ | ⟨D,hA,hD⟩
       · cases D with
         | nil =>
           rw [List.append_nil] at hA
           have hD:y=x'∧C=B':=by simpa using hD
           subst hA
           refine .lex z1 (he.trans he2) hall e1 e4 (ih (by omega) hxy (hD.1 ▸ hxy2))
         | cons d D =>
           have hD:y=d∧C=D++x'::B':=by simpa using hD
           rw [hA,List.append_assoc] at e4
           rw [← hD.1] at e4
           exact .lex z1 (he.trans he2) hall e1 e4 hxy
       · cases D with
         | nil =>
           rw [List.append_nil] at hA
           have hD:x'=y∧B'=C:=by simpa using hD
           subst hA
           refine .lex z1 (he.trans he2) hall e1 e4 (ih (by omega) hxy (hD.1 ▸ hxy2))
         | cons d D =>
           have hD:x'=d∧B'=D++y::C:=by simpa using hD
           rw [hA,List.append_assoc] at e1
           rw [← hD.1] at e1
           exact .lex z1 (he.trans he2) hall e1 e4 hxy2
theorem var {a:Int→Nat} {n:Int} (hn:n < 0):∀ (m:Nat) {x:Tm},x.size≤m→x.ok a→(G r x (.v n)↔0≤x.head∧n∈x.flat):=by
 intro m
 induction m with
 | zero=>intro x hm _; cases x <;> simp [Tm.size] at hm
 | succ m ih =>
   intro x hm hx
   have up:∀ p,p∈x.args→n∈p.flat→G r x (.v n):=fun p hp hnp=>by
    have hpo:=hx.args hp
    by_cases h0:0≤p.head
    · exact .sub hp ((ih (by have:=args_size hp; omega) hpo).2 ⟨h0,hnp⟩)
    · cases p with
      | v k=>rw [List.mem_singleton.1 hnp]; exact .eq hp
      | k k=>exact absurd hpo.1 h0
      | u k y=>exact absurd hpo.1 h0
      | b k y z=>exact absurd hpo.1 h0
   constructor
   · intro h
     cases h with
     | eq hp=>exact ⟨hx.head hp,args_flat hp (List.mem_singleton.2 rfl)⟩
     | sub hp h=>exact ⟨hx.head hp,args_flat hp ((ih (by have:=args_size hp; omega) (hx.args hp)).1 h).2⟩
     | big _ z _ _=>exact absurd z (by show ¬ 0≤n; omega)
     | lex z e _ _ _ _ =>
       have e:x.head=n:=e
       omega
   · rintro ⟨h1,h2⟩
     cases x with
     | v k=>have h1:0≤k:=h1; have hx:k < 0:=hx; omega
     | k k =>
       have h1:0≤k:=h1
       have:=List.mem_singleton.1 h2
       omega
     | u k y =>
       have h1:0≤k:=h1
       rcases List.mem_cons.1 h2 with e | h2
       · omega
       · exact up y (List.mem_singleton.2 rfl) h2
     | b k y z =>
       have h1:0≤k:=h1
       rcases List.mem_cons.1 h2 with e | h2
       · omega
       · rcases List.mem_append.1 h2 with h2 | h2
         · exact up y (List.mem_cons_self ..) h2
         · exact up z (List.mem_cons_of_mem _ (List.mem_singleton.2 rfl)) h2
variable {a:Int→Nat}
end G
end Ev.Ty
end
section
namespace Ev.Ty
open Go Ev
open Tm
set_option linter.unusedSimpArgs false
set_option linter.unusedVariables false
inductive F2 {α β:Type} (R:α→β→Prop):List α→List β→Prop
 | nil:F2 R [] []
 | cons {a b A B}:R a b→F2 R A B→F2 R (a::A) (b::B)
theorem F2.any {α β:Type} {R:α→β→Prop} {f:α→Bool} {P:β→Prop} {A:List α} {B:List β} (h:F2 R A B) (hf:∀ a b,R a b→b∈B→(f a=true↔P b)):A.any f=true↔∃ b,b∈B∧P b:=by
 induction h with
 | nil=>simp
 | @cons a b A B hr _ ih =>
   rw [List.any_cons,Bool.or_eq_true,hf a b hr (List.mem_cons_self ..),ih fun a b hr hb=>hf a b hr (List.mem_cons_of_mem _ hb)]
   constructor
   · rintro (h | ⟨b',h1,h2⟩)
     · exact ⟨b,List.mem_cons_self .., h⟩
     · exact ⟨b',List.mem_cons_of_mem _ h1,h2⟩
   · rintro ⟨b',h1,h2⟩
     rcases List.mem_cons.1 h1 with rfl | h1
     · exact .inl h2
     · exact .inr ⟨b',h1,h2⟩
def At (l:List Symbol) (t:List Int) (i:Nat) (x:Tm):Prop:=x.ok (ar l)∧∃ r,t.drop i=x.flat++r
theorem At.facts {l:List Symbol} {t:List Int} {i:Nat} {x:Tm} (h:At l t i x):i < t.length∧t.getD i 0=x.head∧endAt l t i=i+x.flat.length∧subAt l t i=x.flat:=by
 obtain ⟨hx,r,h⟩:=h
 obtain ⟨h1,h2,h3⟩:=at_head h
 have hs:skip (ar l) 1 (t.drop i)=some r:=by
  rw [h,skip_flat (fun n hn=>ar_neg l hn) x r 0 hx,skip_zero]
 have hl:(t.drop i).length=x.flat.length+r.length:=by rw [h,List.length_append]
 rw [List.length_drop] at hl
 have he:endAt l t i=i+x.flat.length:=by
  unfold endAt
  rw [hs]
  show t.length - r.length=_
  omega
 refine ⟨h1,?_,he,?_⟩
 · rw [List.getD_eq_getElem?_getD,h2]; rfl
 · unfold subAt
   rw [he,List.drop_take,Nat.add_sub_cancel_left,h,List.take_left]
theorem At.next {l:List Symbol} {t:List Int} {i:Nat} {n:Int} {x:Tm} {r:List Int} (hx:x.ok (ar l)) (h:t.drop i=n::(x.flat++r)):At l t (i+1) x:=⟨hx,r,by
 rw [← List.drop_drop,h]; rfl⟩
theorem At.args {l:List Symbol} {t:List Int} {i:Nat} {x:Tm} (h:At l t i x):F2 (At l t) (starts l t i) x.args:=by
 obtain ⟨_,h2,_,_⟩:=h.facts
 obtain ⟨hx,r,h⟩:=h
 unfold starts
 rw [h2,← hx.len (fun n hn=>ar_neg l hn)]
 cases x with
 | v n=>exact .nil
 | k n=>exact .nil
 | u n x=>exact .cons (At.next hx.2.2 h) .nil
 | b n x y =>
   have h:t.drop i=n::(x.flat++(y.flat++r)):=by rw [h]; simp [Tm.flat]
   have a1:=At.next hx.2.2.1 h
   refine .cons a1 (.cons ⟨hx.2.2.2,r,?_⟩ .nil)
   rw [a1.facts.2.2.1,← List.drop_drop,← List.drop_drop,h]
   show (x.flat++(y.flat++r)).drop _=_
   rw [List.drop_left]
section
variable {l:List Symbol} {o a b:List Int}
end
def Closed (l:List Symbol) (t:List Int):Prop:=TermOk l t∧∀ n∈t,0≤n
theorem gr_of {a:Int→Nat}:∀ x:Tm,x.ok a→(∀ n∈x.flat,0≤n)→x.gr a
 | .v n,h,h2=>by have h:n < 0:=h; have:=h2 n (List.mem_singleton.2 rfl); omega
 | .k n,h,_=>h
 | .u n x,h,h2=>⟨h.1,h.2.1,gr_of x h.2.2 fun m hm=>h2 m (List.mem_cons_of_mem _ hm)⟩
 | .b n x y,h,h2=>⟨h.1,h.2.1,gr_of x h.2.2.1 fun m hm=>h2 m (List.mem_cons_of_mem _ (List.mem_append_left _ hm)),gr_of y h.2.2.2 fun m hm=>h2 m (List.mem_cons_of_mem _ (List.mem_append_right _ hm))⟩
theorem Closed.at {l:List Symbol} (ok:SigOk ⟨l⟩) {t:List Int} (h:Closed l t):∃ x,At l t 0 x∧t=x.flat∧x.gr (ar l):=by
 obtain ⟨x,hx,e⟩:=h.1.tree ok
 exact ⟨x,⟨hx,[],by simpa using e⟩,e,gr_of x hx (e ▸ h.2)⟩
section
variable {l:List Symbol} (ok:SigOk ⟨l⟩) {o:List Int} (ho:∀ n:Int,0≤n→n < l.length→n∈o)
include ok ho
end
end Ev.Ty
end
section
namespace Ev.Ty
open Go Ev
open Enc (enc)
open Sm (sm)
set_option linter.unusedSimpArgs false
set_option linter.unusedVariables false
def Drawn (code:List UInt8) (p c:Int) (P:T→Prop) (r:R):Prop:=∃ x p',r=some (x,[.agg [slc code,.int .i64 p']])∧p≤p'∧p'≤p+c∧P x
theorem drawn_of {code:List UInt8} {p c:Int} {P:T→Prop} {g:FuncId} {args:List T} (hx:X g=none) (n:Nat) (h:Drawn code p c P (callK prog A H LIM n g args)):Drawn code p c P (LIM g args):=by
 obtain ⟨x,p',e,h⟩:=h
 exact ⟨x,p',lim_of hx n e,h⟩
theorem Drawn.more {code:List UInt8} {p p1 c c1:Int} {P P1:T→Prop} {r:R} (h:Drawn code p1 c1 P1 r) (h1:p≤p1) (h2:p1+c1≤p+c) (hP:∀ x,P1 x→P x):Drawn code p c P r:=by
 obtain ⟨x,p',e,a,b,q⟩:=h
 exact ⟨x,p',e,by omega,by omega,hP x q⟩
theorem drawn_end {code:List UInt8} {p p' c:Int} {P:T→Prop} {x:T} (h1:p≤p'∧p'≤p+c) (h:P x):Drawn code p c P (some (x,[.agg [slc code,.int .i64 p']])):=⟨x,p',rfl,h1.1,h1.2,h⟩
theorem drawn_s {Q:R→Prop} {code:List UInt8} {p c:Int} {P:T→Prop} {r:R} {K:T × List T→R} (h:Drawn code p c P r)
 (k:∀ x p',p≤p'→p'≤p+c→P x→Q (K (x,[.agg [slc code,.int .i64 p']]))):Q (r.bind K):=by
 obtain ⟨x,p',rfl,a,b,q⟩:=h
 exact k x p' a b q
theorem draw_loop {σ:Type} {S:Nat→σ→R} {Q:R→Prop} (I:σ→Prop) (μ:σ→Nat) (step:∀ m s,I s→Q (S (m+1) s)∨∃ s',S (m+1) s=S m s'∧I s'∧μ s' < μ s):∀ f s,I s→μ s < f→Q (S f s):=by
 intro f
 induction f with
 | zero=>intro s _ h; omega
 | succ f ih =>
   intro s hi hm
   rcases step f s hi with h | ⟨s',e,hi',hm'⟩
   · exact h
   · rw [e]; exact ih s' hi' (by omega)
@[simp] theorem oBx_bx (c:List T):oBx (.bx c)=some c:=Eq.trans rfl rfl
theorem tmod_nn {a b:Int} (ha:0≤a) (hb:0 < b):0≤Int.tmod a b∧Int.tmod a b < b:=⟨Int.tmod_nonneg b ha,Int.tmod_lt_of_pos a hb⟩
abbrev src (code:List UInt8) (p:Int):T := .rref [slc code,.int .i64 p] 0
theorem u8_bound (b:UInt8):(0:Int)≤(b.toNat:Int)∧(b.toNat:Int) < 256:=⟨by omega,by have:=b.toNat_lt; omega⟩
section
variable {code:List UInt8} (hc:code.length≤2097152)
include hc
theorem at_idx {p:Int} (hp:0≤p) (hl:0 < code.length):∃ i:Nat,Int.tmod p (code.length:Int)=i∧i < code.length:=by
 obtain ⟨h1,h2⟩:=tmod_nn hp (show (0:Int) < (code.length:Int) by omega)
 exact ⟨(Int.tmod p (code.length:Int)).toNat,by omega,by omega⟩
theorem spec_l1Next (p n:Int) (hp:0≤p∧p≤1099511627776) :
 ∃ v:Int,LIM F.spec_l1Next [.rref [slc code,.int .i64 p] 0,.int .i64 n]=some (.int .i64 v,[.agg [slc code,.int .i64 (p+1)]])∧0≤v∧(1≤n→v < n):=by
 have e1:IntKind.wrap .i64 (p+1)=p+1:=wrap64 (by omega)
 have e2:IntKind.wrap .i64 (p+1 - 1)=p:=by rw [wrap64 (by omega)]; omega
 by_cases hn:n < 1
 · refine ⟨0,call2_of rfl 0 ((spec_l1Next.ev _ _ _ _).trans ?_),by omega,by omega⟩
   simp only [evz,Nat.reduceLT,hn,e1]
 rw [Int.not_lt] at hn
 have hn0:¬ n=0:=by omega
 by_cases hl:code.length=0
 · obtain ⟨q1,q2⟩:=tmod_nn (a:=p*7) (b:=n) (by omega) (by omega)
   refine ⟨Int.tmod (p*7) n,call2_of rfl 0 ((spec_l1Next.ev _ _ _ _).trans ?_),q1,fun _=>q2⟩
   have z:((code.length:Nat):Int)=0:=by omega
   have z1:¬ n < 1:=by omega
   simp only [evz,Nat.reduceLT,z1,z,hn0,e1,e2,wrap64 (x:=p*7) (by omega)]
 have z1:¬ n < 1:=by omega
 obtain ⟨i,hi,hil⟩:=at_idx hc hp.1 (by omega)
 obtain ⟨j,hj,hjl⟩:=at_idx (code:=code) hc (p:=p+1) (by omega) (by omega)
 have b1:=u8_bound code[i]
 have b2:=u8_bound code[j]
 have hd:0≤Int.tdiv p code.length∧Int.tdiv p code.length≤p:=⟨Int.tdiv_nonneg hp.1 (by omega),Int.tdiv_le_self _ hp.1⟩
 have d1:¬ ((code.length:Nat):Int)=0:=by omega
 generalize hk:Int.tdiv p code.length=d at hd
 have w1:IntKind.wrap .i64 d=d:=wrap64 (by omega)
 have w2:IntKind.wrap .i64 (d*37)=d*37:=wrap64 (by omega)
 have w3:IntKind.wrap .i64 (code[i].toNat:Int)=(code[i].toNat:Int):=wrap64 (by omega)
 have w4:IntKind.wrap .i64 (code[j].toNat:Int)=(code[j].toNat:Int):=wrap64 (by omega)
 have w5:IntKind.wrap .i64 ((code[i].toNat:Int)+d*37)=(code[i].toNat:Int)+d*37:=wrap64 (by omega)
 have w6:IntKind.wrap .i64 (((code[i].toNat:Int)+d*37)*251)=((code[i].toNat:Int)+d*37)*251:=wrap64 (by omega)
 have w7:IntKind.wrap .i64 ((code[j].toNat:Int)*13)=(code[j].toNat:Int)*13:=wrap64 (by omega)
 have w8:IntKind.wrap .i64 (((code[i].toNat:Int)+d*37)*251+(code[j].toNat:Int)*13)=((code[i].toNat:Int)+d*37)*251+(code[j].toNat:Int)*13:=wrap64 (by omega)
 have w9:IntKind.wrap .i64 (((code[i].toNat:Int)+d*37)*251+(code[j].toNat:Int)*13+p)=((code[i].toNat:Int)+d*37)*251+(code[j].toNat:Int)*13+p:=wrap64 (by omega)
 by_cases hbig:n > 200
 · obtain ⟨q1,q2⟩:=tmod_nn (a:=((code[i].toNat:Int)+d*37)*251+(code[j].toNat:Int)*13+p) (b:=n) (by omega) (by omega)
   refine ⟨_,call2_of rfl 0 ((spec_l1Next.ev _ _ _ _).trans ?_),q1,fun _=>q2⟩
   simp only [evz,Nat.reduceLT,z1,d1,hn0,e1,e2,hi,hil,hj,hjl,List.getElem?_eq_getElem,enc_u8,hbig,hk,w1,w2,w3,w4,w5,w6,w7,w8,w9]
 · obtain ⟨q1,q2⟩:=tmod_nn (a:=(code[i].toNat:Int)+d*37) (b:=n) (by omega) (by omega)
   refine ⟨_,call2_of rfl 0 ((spec_l1Next.ev _ _ _ _).trans ?_),q1,fun _=>q2⟩
   simp only [evz,Nat.reduceLT,z1,d1,hn0,e1,e2,hi,hil,hj,hjl,List.getElem?_eq_getElem,enc_u8,hbig,hk,w1,w2,w3,w4,w5,w6,w7,w8,w9]
theorem next_s {Q:R→Prop} {p n:Int} {K:T × List T→R} (hp:0≤p∧p≤1099511627776) (k:∀ v:Int,0≤v→(1≤n→v < n)→Q (K (.int .i64 v,[.agg [slc code,.int .i64 (p+1)]]))) :
 Q ((LIM F.spec_l1Next [.rref [slc code,.int .i64 p] 0,.int .i64 n]).bind K):=by
 obtain ⟨v,e,h1,h2⟩:=spec_l1Next hc p n hp
 rw [e]; exact k v h1 h2
theorem spec_l1Chance (p n:Int) (hp:0≤p∧p≤1099511627776):∃ b:Bool,LIM F.spec_l1Chance [.rref [slc code,.int .i64 p] 0,.int .i64 n]=some (.bool b,[.agg [slc code,.int .i64 (p+1)]]):=by
 obtain ⟨v,e,_⟩:=spec_l1Next hc p n hp
 exact ⟨decide (v=0),call2_of rfl 0 ((spec_l1Chance.ev _ _ _ _).trans (by simp only [evz,Nat.reduceLT,e]))⟩
theorem chance_s {Q:R→Prop} {p n:Int} {K:T × List T→R} (hp:0≤p∧p≤1099511627776) (k:∀ b:Bool,Q (K (.bool b,[.agg [slc code,.int .i64 (p+1)]]))) :
 Q ((LIM F.spec_l1Chance [.rref [slc code,.int .i64 p] 0,.int .i64 n]).bind K):=by
 obtain ⟨b,e⟩:=spec_l1Chance hc p n hp
 rw [e]; exact k b
theorem spec_l1Pick (p:Int) (l:List Int) {ts:List T} (hts:cells l=ts) (hl:l≠[]) (hp:0≤p∧p≤1099511627776) :
 ∃ v∈l,LIM F.spec_l1Pick [.rref [slc code,.int .i64 p] 0,.sl 1 ts]=some (.int .i64 v,[.agg [slc code,.int .i64 (p+1)]]):=by
 subst hts
 have h0:0 < l.length:=List.length_pos_iff.2 hl
 have hd:(cells l).length / 1=l.length:=cells_div rfl
 obtain ⟨v,e,h1,h2⟩:=spec_l1Next hc p (l.length:Int) hp
 obtain ⟨i,rfl⟩:∃ i:Nat,v=i:=⟨v.toNat,by omega⟩
 have hi:i < l.length:=by have:=h2 (by omega); omega
 refine ⟨l[i],List.getElem_mem hi,call2_of rfl 0 ((spec_l1Pick.ev _ _ _ _).trans ?_)⟩
 simp only [evz,Nat.reduceLT,e,hi,List.getElem?_eq_getElem,enc_int]
theorem pick_s {Q:R→Prop} {p:Int} (l:List Int) {ts:List T} {K:T × List T→R} (hts:cells l=ts) (hl:l≠[]) (hp:0≤p∧p≤1099511627776) (k:∀ v:Int,v∈l→Q (K (.int .i64 v,[.agg [slc code,.int .i64 (p+1)]]))) :
 Q ((LIM F.spec_l1Pick [.rref [slc code,.int .i64 p] 0,.sl 1 ts]).bind K):=by
 obtain ⟨v,hv,e⟩:=spec_l1Pick hc p l hts hl hp
 rw [e]; exact k v hv
omit hc in
theorem laws_lwBig:Call F.laws_lwBig [slc code] (.bool (decide ((code.length:Int) > 1048576))):=call_of rfl 0 ((laws_lwBig.ev _ _).trans (by simp only [evz,Nat.reduceLT]))
omit hc in
theorem spec_l1Source:LIM F.spec_l1Source [slc code]=some (.bx [slc code,.int .i64 0],[]):=call2_of rfl 0 (spec_l1Source.ev _ _)
end
end Ev.Ty
end
section
namespace Ev.Ty
open Go Ev
open Enc (enc)
open Sm (sm)
set_option linter.unusedSimpArgs false
set_option linter.unusedVariables false
set_option maxHeartbeats 1000000
structure Grown (l:List Symbol) (m:Nat) (vars:Int) (t:List Int):Prop where
 pos:1≤t.length
 le:t.length≤m
 node:∀ n∈t,(0≤n∧n < l.length)∨(-vars≤n∧n ≤ -1)
 tree:∃ x:Tm,x.ok (ar l)∧t=x.flat
theorem Grown.ok {l:List Symbol} {m:Nat} {vars:Int} {t:List Int} (h:Grown l m vars t) (hm:m≤24) (hv:vars≤12):TermOk l t:=by
 refine ⟨h.pos,Nat.le_trans h.le hm,fun n hn => ?_,?_⟩
 · rw [nodeOk_iff]; rcases h.node n hn with h | h
   · exact .inl h
   · exact .inr (by omega)
 · obtain ⟨x,hx,rfl⟩:=h.tree
   have:=Tm.skip_flat (a:=ar l) (fun n hn=>ar_neg l hn) x [] 0 hx
   rwa [List.append_nil] at this
section
variable {code:List UInt8} (hc:code.length≤2097152) {l:List Symbol} (ok:SigOk ⟨l⟩)
def TermS (code:List UInt8) (l:List Symbol) (p:Int) (m:Nat) (vars:Int) (r:R):Prop:=∃ t p',r=some (slc t,[.agg [slc code,.int .i64 p']])∧p≤p'∧p'≤p+3*(t.length:Int)∧Grown l m vars t
include hc ok
theorem l3_var (p q:Int) (m:Nat) (vars:Int) (hm:1≤m) (hv:1≤vars∧vars≤12) (hp:0≤p∧p≤q∧q≤p+2∧q≤1099511627776) :
 TermS code l p m vars ((LIM F.spec_l1Next [.rref [slc code,.int .i64 q] 0,.int .i64 vars]).bind fun r=>(oCons r.2).bind fun p2=>(oNil p2.2).bind fun _=>(oAgg p2.1).bind fun c3=>(oCons c3).bind fun p4=>(oSl 1 p4.1).bind fun c5=>(oCons p4.2).bind fun p6=>(oInt .i64 p6.1).bind fun n7=>(oNil p6.2).bind fun _=>(oInt .i64 r.1).bind fun n8=>some (.sl 1 [.int .i64 (IntKind.wrap .i64 ((-1:Int) - n8))],[.agg [.sl 1 (cells code),.int .i64 n7]])):=by
 refine next_s hc (by omega) fun v h1 h2 => ?_
 have h2:=h2 hv.1
 simp only [evz,Nat.reduceLT]
 rw [wrap64 (by omega)]
 exact ⟨[-1 - v],q+1,rfl,by omega,by simp; omega,⟨by simp,by simp; omega,fun n hn => .inr (by rw [List.mem_singleton.1 hn]; omega),.v (-1 - v),by show -1 - v < 0; omega,rfl⟩⟩
noncomputable def l3fin (l:List Symbol) (code:List UInt8) (m vars x4 p:Int):R :=
 (bif inB x4 ((cells l).length / 2) then (((cells l)[(((Int.toNat x4)*2)+1)]?).bind fun e71=>((oInt .i64 e71).bind fun n72=>(bif ((n72 == (1:Int))) then ((LIM F.spec_l3Draw [(.rref [(.sl 1 (cells code)),(.int .i64 p)] 0),(.rref [(.sl 2 (cells l))] 0),(.int .i64 (IntKind.wrap .i64 (m - (1:Int)))),(.int .i64 vars)]).bind fun r73=>((oCons r73.2).bind fun p74=>((oNil p74.2).bind fun _=>((oAgg p74.1).bind fun c75=>((oCons c75).bind fun p76=>((oSl 1 p76.1).bind fun c77=>((oCons p76.2).bind fun p78=>((oInt .i64 p78.1).bind fun n79=>((oNil p78.2).bind fun _=>((oSl 1 r73.1).bind fun c80=>(bif (c80).all T.scalar then (bif Nat.ble ((1+(c80).length)*8) (140737488355328*1) then some ((.sl 1 ([(.int .i64 x4)]++c80:List T)),[(.agg [(.sl 1 (cells code)),(.int .i64 n79)])]) else none) else none))))))))))) else (bif ((n72 == (2:Int))) then ((LIM F.spec_l3Draw [(.rref [(.sl 1 (cells code)),(.int .i64 p)] 0),(.rref [(.sl 2 (cells l))] 0),(.int .i64 (IntKind.wrap .i64 (m - (2:Int)))),(.int .i64 vars)]).bind fun r81=>((oCons r81.2).bind fun p82=>((oNil p82.2).bind fun _=>((oAgg p82.1).bind fun c83=>((oCons c83).bind fun p84=>((oSl 1 p84.1).bind fun c85=>((oCons p84.2).bind fun p86=>((oInt .i64 p86.1).bind fun n87=>((oNil p86.2).bind fun _=>((oSl 1 r81.1).bind fun c88=>(bif (c88).all T.scalar then (bif Nat.ble ((1+(c88).length)*8) (140737488355328*1) then ((LIM F.spec_l3Draw [(.rref [(.sl 1 (cells code)),(.int .i64 n87)] 0),(.rref [(.sl 2 (cells l))] 0),(.int .i64 (IntKind.wrap .i64 ((IntKind.wrap .i64 (m - (1:Int))) - ((((c88).length / 1):Nat):Int)))),(.int .i64 vars)]).bind fun r89=>((oCons r89.2).bind fun p90=>((oNil p90.2).bind fun _=>((oAgg p90.1).bind fun c91=>((oCons c91).bind fun p92=>((oSl 1 p92.1).bind fun c93=>((oCons p92.2).bind fun p94=>((oInt .i64 p94.1).bind fun n95=>((oNil p94.2).bind fun _=>((oSl 1 r89.1).bind fun c96=>(bif (c96).all T.scalar then (bif Nat.ble (((([(.int .i64 x4)]++c88:List T)).length+(c96).length)*8) (140737488355328*1) then some ((.sl 1 (([(.int .i64 x4)]++c88:List T)++c96:List T)),[(.agg [(.sl 1 (cells code)),(.int .i64 n95)])]) else none) else none))))))))))) else none) else none))))))))))) else some ((.sl 1 [(.int .i64 x4)]),[(.agg [(.sl 1 (cells code)),(.int .i64 p)])]))))) else none)
theorem l3_fin (p q:Int) (m:Nat) (vars:Int) (hm:1≤m∧m≤1000) (hv:0≤vars∧vars≤12) (hp:0≤p∧p≤q∧q≤p+3∧p+10*(m:Int)≤1099511020000)
 (ih:∀ k,1≤k→k < m→∀ p,0≤p∧p+10*(k:Int)≤1099511020000→TermS code l p k vars (LIM F.spec_l3Draw [.rref [slc code,.int .i64 p] 0,.rref [slc l] 0,.int .i64 k,.int .i64 vars]))
 (i:Nat) (hi:i < l.length) (ha:l[i].arity < m):TermS code l p m vars (l3fin l code m vars i q):=by
 obtain ⟨a1,a2⟩:=ok.arity l[i] (List.getElem_mem hi)
 have har:(ar l (i:Int):Int)=l[i].arity:=(ar_eq ok (n:=(i:Int)) (by omega) (by simpa using hi)).symm
 unfold l3fin
 have hn0:(0:Int)≤i∧(i:Int) < l.length:=by omega
 simp only [evz,Nat.reduceLT,hi,List.getElem?_eq_getElem,enc_Symbol]
 by_cases h1:l[i].arity=1
 · simp only [evz,Nat.reduceLT,h1]
   rw [wrap64 (by omega),show (m:Int) - 1=((m - 1:Nat):Int) by omega]
   obtain ⟨t,p',e,q1,q2,g⟩:=ih (m - 1) (by omega) (by omega) q (by omega)
   have hl:=g.le
   have e2:(cells t).length=t.length:=by rw [cells_length]; simp
   simp only [evz,Nat.reduceLT,e,scalars_int]
   rw [cond_pos (ble_ok (by rw [e2]; omega))]
   refine ⟨(i:Int)::t,p',rfl,by omega,by simp; omega,⟨by simp,by simp; omega,fun n hn => ?_,?_⟩⟩
   · rcases List.mem_cons.1 hn with rfl | hn
     · exact .inl hn0
     · exact g.node n hn
   · obtain ⟨x,hx,rfl⟩:=g.tree
     exact ⟨.u i x,⟨by omega,by omega,hx⟩,rfl⟩
 by_cases h2:l[i].arity=2
 · simp only [evz,Nat.reduceLT,h2,Int.reduceEq]
   rw [wrap64 (x:=(m:Int) - 2) (by omega),show (m:Int) - 2=((m - 2:Nat):Int) by omega]
   obtain ⟨t,p',e,q1,q2,g⟩:=ih (m - 2) (by omega) (by omega) q (by omega)
   have hl:=g.le
   have hl1:=g.pos
   have e2:(cells t).length=t.length:=by rw [cells_length]; simp
   simp only [evz,Nat.reduceLT,e,scalars_int]
   rw [cond_pos (ble_ok (by rw [e2]; omega)),wrap64 (x:=(m:Int) - 1) (by omega),wrap64 (by omega),show (m:Int) - 1 - (t.length:Int)=((m - 1 - t.length:Nat):Int) by omega]
   obtain ⟨t2,p2,e',q3,q4,g2⟩:=ih (m - 1 - t.length) (by omega) (by omega) p' (by omega)
   have hl2:=g2.le
   have e3:(cells t2).length=t2.length:=by rw [cells_length]; simp
   simp only [evz,Nat.reduceLT,e',scalars_int]
   rw [cond_pos (ble_ok (by simp only [List.length_append,List.length_singleton]; rw [e2,e3]; omega))]
   refine ⟨(i:Int)::(t++t2),p2,by rw [List.append_assoc,← cells_append]; rfl,by omega,by simp; omega,⟨by simp,by simp; omega,fun n hn => ?_,?_⟩⟩
   · rcases List.mem_cons.1 hn with rfl | hn
     · exact .inl hn0
     · rcases List.mem_append.1 hn with hn | hn
       · exact g.node n hn
       · exact g2.node n hn
   · obtain ⟨x,hx,rfl⟩:=g.tree
     obtain ⟨y,hy,rfl⟩:=g2.tree
     exact ⟨.b i x y,⟨by omega,by omega,hx,hy⟩,rfl⟩
 simp only [evz,Nat.reduceLT,h1,h2]
 exact ⟨[(i:Int)],q,rfl,by omega,by simp; omega,⟨by simp,by simp; omega,fun n hn=>by rw [List.mem_singleton.1 hn]; exact .inl hn0,.k i,⟨by omega,by omega⟩,rfl⟩⟩
omit hc ok in
theorem mod_step {n d k c:Nat} (h:(n+(d+1)) % k=c):((n+1) % k+d) % k=c:=by
 rw [Nat.mod_add_mod,show n+1+d=n+(d+1) by omega]; exact h
omit hc ok in
theorem mod_to {n c k:Nat} (hn:n < k) (hc:c < k):∃ d,d < k∧(n+d) % k=c:=by
 by_cases h:n≤c
 · exact ⟨c - n,by omega,by rw [show n+(c - n)=c by omega,Nat.mod_eq_of_lt hc]⟩
 · exact ⟨c+k - n,by omega,by rw [show n+(c+k - n)=c+k by omega,Nat.add_mod_right,Nat.mod_eq_of_lt hc]⟩
theorem l3_loops (p q:Int) (m:Nat) (vars:Int) (hm:1≤m∧m≤1000) (hv:0≤vars∧vars≤12) (hp:0≤p∧p≤q∧q≤p+3∧p+10*(m:Int)≤1099511020000)
 (ih:∀ k,1≤k→k < m→∀ p,0≤p∧p+10*(k:Int)≤1099511020000→TermS code l p k vars (LIM F.spec_l3Draw [.rref [slc code,.int .i64 p] 0,.rref [slc l] 0,.int .i64 k,.int .i64 vars]))
 (i:Nat) (hi:i < l.length):TermS code l p m vars (spec_l3Draw.at0 10 10 (spec_l3Draw.st0 (cells l) m vars l.length i 0 (cells code) q)):=by
 have hle:=ok.le
 simp only at hle
 obtain ⟨y,hy,hy0⟩:=ok.const
 obtain ⟨c,hcl,hcy⟩:=List.getElem_of_mem hy
 have hcl:c < l.length:=hcl
 have hca:l[c].arity=0:=by
  have:l[c]=y:=hcy
  rw [this]; exact hy0
 have fin:=l3_fin hc ok p q m vars hm hv hp ih
 have step2:∀ i,i < l.length→TermS code l p m vars (spec_l3Draw.at2 10 10 (spec_l3Draw.st2 (cells l) m vars l.length (i:Nat) 0 (cells code) q)):=fun i hi=>by
  obtain ⟨d,hd,hdc⟩:=mod_to hi hcl
  refine draw_loop (σ:=Nat × Nat × Nat) (S:=fun k s=>spec_l3Draw.at2 10 k (spec_l3Draw.st2 (cells l) m vars l.length (s.1:Nat) (s.2.1:Nat) (cells code) q)) (fun s=>s.1 < l.length∧(s.1+s.2.2) % l.length=c∧s.2.1+s.2.2 < l.length) (fun s=>s.2.2) (fun k s hs => ?_) _ (i,0,d) ⟨hi,hdc,by simp only; omega⟩ (by simp only; omega)
  obtain ⟨n,j,d⟩:=s
  obtain ⟨h1,h2,h3⟩:=hs
  simp only at h1 h2 h3 ⊢
  have hj:j < l.length:=by omega
  have hl0:¬ ((l.length:Nat):Int)=0:=by omega
  by_cases ha:l[n].arity > 0
  · right
    cases d with
    | zero =>
      rw [Nat.add_zero,Nat.mod_eq_of_lt h1] at h2
      subst h2
      omega
    | succ d =>
      refine ⟨((n+1) % l.length,j+1,d),?_,⟨Nat.mod_lt _ (by omega),mod_step h2,by simp only; omega⟩,by simp only; omega⟩
      simp only [spec_l3Draw.next2,spec_l3Draw.round2,evz,Nat.reduceLT,hj,h1,List.getElem?_eq_getElem,enc_Symbol,ha,hl0]
      rw [wrap_succ (by omega),wrap_succ (by omega)]
      congr 2
  · left
    have hf:=fin n h1 (by omega)
    simp only [spec_l3Draw.next2,spec_l3Draw.round2,evz,Nat.reduceLT,hj,h1,List.getElem?_eq_getElem,enc_Symbol,ha]
    unfold l3fin at hf
    simp only [evz,Nat.reduceLT,h1,List.getElem?_eq_getElem,enc_Symbol] at hf
    exact hf
 obtain ⟨d,hd,hdc⟩:=mod_to hi hcl
 refine draw_loop (σ:=Nat × Nat × Nat) (S:=fun k s=>spec_l3Draw.at0 10 k (spec_l3Draw.st0 (cells l) m vars l.length (s.1:Nat) (s.2.1:Nat) (cells code) q)) (fun s=>s.1 < l.length∧(s.1+s.2.2) % l.length=c∧s.2.1+s.2.2 < l.length) (fun s=>s.2.2) (fun k s hs => ?_) _ (i,0,d) ⟨hi,hdc,by simp only; omega⟩ (by simp only; omega)
 obtain ⟨n,j,d⟩:=s
 obtain ⟨h1,h2,h3⟩:=hs
 simp only at h1 h2 h3 ⊢
 have hj:j < l.length:=by omega
 have hl0:¬ ((l.length:Nat):Int)=0:=by omega
 by_cases ha:l[n].arity ≥ m
 · right
   cases d with
   | zero =>
     rw [Nat.add_zero,Nat.mod_eq_of_lt h1] at h2
     subst h2
     omega
   | succ d =>
     refine ⟨((n+1) % l.length,j+1,d),?_,⟨Nat.mod_lt _ (by omega),mod_step h2,by simp only; omega⟩,by simp only; omega⟩
     simp only [spec_l3Draw.next0,spec_l3Draw.round0,evz,Nat.reduceLT,hj,h1,List.getElem?_eq_getElem,enc_Symbol,ha,hl0]
     rw [wrap_succ (by omega),wrap_succ (by omega)]
     congr 2
 · left
   simp only [spec_l3Draw.next0,spec_l3Draw.round0,evz,Nat.reduceLT,hj,h1,List.getElem?_eq_getElem,enc_Symbol,ha]
   by_cases hm2:(m:Int) < 2
   · simp only [evz,Nat.reduceLT,hm2]
     exact step2 n h1
   · have hf:=fin n h1 (by omega)
     unfold l3fin at hf
     simp only [evz,Nat.reduceLT,h1,List.getElem?_eq_getElem,enc_Symbol] at hf
     simp only [evz,Nat.reduceLT,hm2]
     exact hf
theorem spec_l3DrawS (vars:Int) (hv:0≤vars∧vars≤12):∀ (m:Nat),1≤m→m≤1000→∀ p,0≤p∧p+10*(m:Int)≤1099511020000→TermS code l p m vars (LIM F.spec_l3Draw [.rref [slc code,.int .i64 p] 0,.rref [slc l] 0,.int .i64 m,.int .i64 vars]):=by
 intro m
 induction m using Nat.strongRecOn with
 | ind m ih =>
   intro hm1 hm2 p hp
   have hle:=ok.le
   have hpos:=ok.pos
   simp only at hle hpos
   suffices h:TermS code l p m vars (callK prog A H LIM 10 F.spec_l3Draw [.rref [slc code,.int .i64 p] 0,.rref [slc l] 0,.int .i64 m,.int .i64 vars]) by
    obtain ⟨t,p',e,r⟩:=h
    exact ⟨t,p',lim_of rfl 10 e,r⟩
   rw [show callK prog A H LIM 10 F.spec_l3Draw [.rref [slc code,.int .i64 p] 0,.rref [slc l] 0,.int .i64 m,.int .i64 vars]=_ from spec_l3Draw.ev _ _ _ _ _ _]
   have node:∀ q,p≤q→q≤p+2→TermS code l p m vars ((LIM F.spec_l1Next [.rref [slc code,.int .i64 q] 0,.int .i64 (l.length:Int)]).bind fun r=>(oCons r.2).bind fun p2=>(oNil p2.2).bind fun _=>(oAgg p2.1).bind fun c3=>(oCons c3).bind fun p4=>(oSl 1 p4.1).bind fun c5=>(oCons p4.2).bind fun p6=>(oInt .i64 p6.1).bind fun n7=>(oNil p6.2).bind fun _=>(oInt .i64 r.1).bind fun n8=>spec_l3Draw.at0 10 10 (spec_l3Draw.st0 (cells l) m vars l.length n8 0 (cells code) n7)):=fun q q1 q2=>by
    refine next_s hc (by omega) fun v h1 h2 => ?_
    have h2:=h2 (by omega)
    obtain ⟨i,rfl⟩:∃ i:Nat,v=i:=⟨v.toNat,by omega⟩
    simp only [evz,Nat.reduceLT]
    exact l3_loops hc ok p (q+1) m vars ⟨hm1,hm2⟩ hv (by omega) (fun k k1 k2 p hp=>ih k k2 k1 (by omega) p hp) i (by omega)
   by_cases hv0:vars > 0
   · simp only [evz,Nat.reduceLT,hv0]
     have rest:∀ q,p≤q→q≤p+1→TermS code l p m vars ((LIM F.spec_l1Chance [.rref [slc code,.int .i64 q] 0,.int .i64 4]).bind fun r=>(oCons r.2).bind fun p2=>(oNil p2.2).bind fun _=>(oAgg p2.1).bind fun c3=>(oCons c3).bind fun p4=>(oSl 1 p4.1).bind fun c5=>(oCons p4.2).bind fun p6=>(oInt .i64 p6.1).bind fun n7=>(oNil p6.2).bind fun _=>(oBool r.1).bind fun b8 =>
      bif b8 then ((LIM F.spec_l1Next [.rref [slc code,.int .i64 n7] 0,.int .i64 vars]).bind fun r=>(oCons r.2).bind fun p2=>(oNil p2.2).bind fun _=>(oAgg p2.1).bind fun c3=>(oCons c3).bind fun p4=>(oSl 1 p4.1).bind fun c5=>(oCons p4.2).bind fun p6=>(oInt .i64 p6.1).bind fun n7=>(oNil p6.2).bind fun _=>(oInt .i64 r.1).bind fun n8=>some (.sl 1 [.int .i64 (IntKind.wrap .i64 ((-1:Int) - n8))],[.agg [slc code,.int .i64 n7]]))
      else ((LIM F.spec_l1Next [.rref [slc code,.int .i64 n7] 0,.int .i64 (l.length:Int)]).bind fun r=>(oCons r.2).bind fun p2=>(oNil p2.2).bind fun _=>(oAgg p2.1).bind fun c3=>(oCons c3).bind fun p4=>(oSl 1 p4.1).bind fun c5=>(oCons p4.2).bind fun p6=>(oInt .i64 p6.1).bind fun n7=>(oNil p6.2).bind fun _=>(oInt .i64 r.1).bind fun n8=>spec_l3Draw.at0 10 10 (spec_l3Draw.st0 (cells l) m vars l.length n8 0 (cells code) n7))):=fun q q1 q2=>by
      refine chance_s hc (by omega) fun b => ?_
      simp only [evz,Nat.reduceLT]
      cases b with
      | true=>exact l3_var hc ok p (q+1) m vars hm1 (by omega) (by omega)
      | false=>exact node (q+1) (by omega) (by omega)
     by_cases hm3:(m:Int) < 2
     · simp only [evz,Nat.reduceLT,hm3]
       refine chance_s hc (by omega) fun b => ?_
       simp only [evz,Nat.reduceLT]
       cases b with
       | true=>exact l3_var hc ok p (p+1) m vars hm1 (by omega) (by omega)
       | false=>exact rest (p+1) (by omega) (by omega)
     · simp only [evz,Nat.reduceLT,hm3]
       exact rest p (by omega) (by omega)
   · simp only [evz,Nat.reduceLT,hv0]
     exact node p (by omega) (by omega)
theorem spec_l3Draw (p most vars:Int) (hm:1≤most∧most≤1000) (hv:0≤vars∧vars≤12) (hp:0≤p∧p≤1099511000000) :
 Drawn code p 3000 (fun x=>∃ t,x=slc t∧Grown l most.toNat vars t) (LIM F.spec_l3Draw [.rref [slc code,.int .i64 p] 0,.rref [slc l] 0,.int .i64 most,.int .i64 vars]):=by
 obtain ⟨t,p',e,h1,h2,g⟩:=spec_l3DrawS hc ok vars hv most.toNat (by omega) (by omega) p (by omega)
 rw [show ((most.toNat:Nat):Int)=most by omega] at e
 have:=g.le
 exact ⟨_,p',e,h1,by omega,t,rfl,g⟩
end
end Ev.Ty
end
section
namespace Ev.Ty
end Ev.Ty
end
section
namespace Ev.Ty
open Go Ev
open Enc (enc)
open Sm (sm)
set_option linter.unusedSimpArgs false
set_option linter.unusedVariables false
def orderF (l:List Symbol) (o:List Int):Int:=if o.length≠l.length then 2 else if (o.any fun n => !inR n 0 (l.length - 1))=true then 3 else if twice o=true then 6 else 0
theorem impl_isSymbol {l:List Symbol} (hs:l.length≤4294967296) (n:Int):Call F.impl_isSymbol [.agg [slc l],.int .i64 n] (.bool (inR n 0 (l.length - 1))):=by
 refine call_of rfl 0 ((impl_isSymbol.ev _ _ _).trans ?_)
 simp only [evz,Nat.reduceLT,wrap64 (x:=(l.length:Int) - 1) (by omega),(impl_within _ _ _).eq]
theorem spec_l2Symbol {l:List Symbol} (hs:l.length≤4294967296) (n:Int):Call F.spec_l2Symbol [.rref [slc l] 0,.int .i64 n] (.bool (inR n 0 (l.length - 1))):=by
 refine call_of rfl 0 ((spec_l2Symbol.ev _ _ _).trans ?_)
 simp only [evz,Nat.reduceLT,wrap64 (x:=(l.length:Int) - 1) (by omega),(spec_l1In _ _ _).eq]
theorem sigOk_of {l:List Symbol} (h:sigFault ⟨l⟩=0):SigOk ⟨l⟩:=(sigOk_iff _).1 h
end Ev.Ty
end
section
namespace Ev.Ty
open Go Ev
open Enc (enc)
open Sm (sm)
set_option linter.unusedSimpArgs false
set_option linter.unusedVariables false
end Ev.Ty
end
section
namespace Ev.Ty
open Go Ev
open Enc (enc)
open Sm (sm)
set_option linter.unusedSimpArgs false
set_option linter.unusedVariables false
def rise (n:Nat):List Int:=(List.range n).map fun (i:Nat)=>(i:Int)
theorem rise_length (n:Nat):(rise n).length=n:=by simp [rise]
end Ev.Ty
end
section
namespace Ev.Ty
open Go Ev
open Enc (enc)
open Sm (sm)
set_option linter.unusedSimpArgs false
set_option linter.unusedVariables false
set_option maxHeartbeats 1000000
def ba (l:List UInt8):ByteArray:=ByteArray.mk l.toArray
def sigA:List Symbol:=[⟨ba [101],0⟩,⟨ba [105],1⟩,⟨ba [109],2⟩,⟨ba [97],0⟩]
def sigB:List Symbol:=[⟨ba [97],0⟩,⟨ba [115,117,99],1⟩,⟨ba [97,100,100],2⟩,⟨ba [98],0⟩]
def sigC:List Symbol:=[⟨ba [97],0⟩,⟨ba [102],1⟩,⟨ba [103],1⟩]
def sigD:List Symbol:=[⟨ba [97],0⟩,⟨ba [98],0⟩,⟨ba [101],0⟩,⟨ba [109],2⟩,⟨ba [105],1⟩,⟨ba [115,117,99],1⟩]
def sigE:List Symbol:=[⟨ba [97],0⟩]
theorem sigA_ok:SigOk ⟨sigA⟩:=sigOk_of (by decide)
theorem sigB_ok:SigOk ⟨sigB⟩:=sigOk_of (by decide)
theorem sigC_ok:SigOk ⟨sigC⟩:=sigOk_of (by decide)
theorem sigD_ok:SigOk ⟨sigD⟩:=sigOk_of (by decide)
theorem sigE_ok:SigOk ⟨sigE⟩:=sigOk_of (by decide)
theorem name_small {b:ByteArray} (h:nameOk b=true):b.size≤3:=by
 unfold nameOk at h
 rw [Bool.and_eq_true,decide_eq_true_iff] at h
 exact h.1.2
theorem SigOk.small {l:List Symbol} (ok:SigOk ⟨l⟩):sm 7 (Signature.mk l):=⟨Nat.le_trans ok.le (by omega),fun x hx=>Nat.le_trans (name_small (ok.name x hx)) (by omega)⟩
def Places (l:List Symbol) (o:List Int):Prop:=o.Perm (rise l.length)
theorem Places.order {l:List Symbol} {o:List Int} (h:Places l o):orderF l o=0:=by
 have hl:o.length=l.length:=by have:=h.length_eq; rwa [rise_length] at this
 have hm:∀ n∈o,0≤n∧n < l.length:=fun n hn=>by
  have:=(h.mem_iff).1 hn
  unfold rise at this
  obtain ⟨k,hk,rfl⟩:=List.mem_map.1 this
  have:=List.mem_range.1 hk
  omega
 have hd:o.Nodup:=by
  refine (h.nodup_iff).2 ?_
  unfold rise
  rw [List.Nodup,List.pairwise_map]
  exact List.nodup_range.imp fun {a b} hab e=>hab (Int.ofNat_inj.1 e)
 unfold orderF
 rw [if_neg (by omega),if_neg,if_neg]
 · unfold twice; simpa using hd
 · rw [Bool.not_eq_true,List.any_eq_false]
   intro n hn
   obtain ⟨a,b⟩:=hm n hn
   unfold inR
   simp; omega
section
variable {code:List UInt8} (hc:code.length≤2097152)
include hc
theorem spec_l2Sig (p:Int) (hp:0≤p∧p≤1099511000000):Drawn code p 1 (fun x=>∃ l:List Symbol,x = .agg [slc l]∧SigOk ⟨l⟩) (LIM F.spec_l2Sig [.rref [slc code,.int .i64 p] 0]):=by
 refine drawn_of rfl 0 ?_
 rw [show callK prog A H LIM 0 F.spec_l2Sig [.rref [slc code,.int .i64 p] 0]=_ from spec_l2Sig.ev _ _ _]
 refine next_s hc (by omega) fun v h1 h2 => ?_
 simp only [evz,Nat.reduceLT]
 have leaf:∀ l:List Symbol,SigOk ⟨l⟩→Drawn code p 1 (fun x=>∃ l:List Symbol,x = .agg [slc l]∧SigOk ⟨l⟩) (some (.agg [slc l],[.agg [slc code,.int .i64 (p+1)]])):=fun l hl=>drawn_end (by omega) ⟨l,rfl,hl⟩
 repeat' split
 all_goals first | exact leaf sigA sigA_ok | exact leaf sigB sigB_ok | exact leaf sigC sigC_ok | exact leaf sigD sigD_ok | exact leaf sigE sigE_ok
omit hc in
theorem set_sym {l:List Symbol} {i:Nat} (hi:i < l.length) (n:ByteArray):setCells (cells l) (i*2) [.str n]=cells (l.set i ⟨n,l[i].arity⟩):=by
 have:=fset_gen (o:=l) (i:=i) (n:=2) (j:=0) (x:=l[i]) (x':=⟨n,l[i].arity⟩) (c := .str n) rfl hi (by decide) (by rw [enc_Symbol,enc_Symbol]; rfl)
 rwa [set_same (List.getElem?_eq_getElem hi)] at this
omit hc in
theorem set_ar {l:List Symbol} {i:Nat} (hi:i < l.length) (n:Int):setCells (cells l) (i*2+1) [.int .i64 n]=cells (l.set i ⟨l[i].name,n⟩):=by
 have:=fset_gen (o:=l) (i:=i) (n:=2) (j:=1) (x:=l[i]) (x':=⟨l[i].name,n⟩) (c := .int .i64 n) rfl hi (by decide) (by rw [enc_Symbol,enc_Symbol]; rfl)
 rwa [set_same (List.getElem?_eq_getElem hi)] at this
theorem spec_l2Bent (p:Int) (hp:0≤p∧p≤1099511000000):Drawn code p 5 (fun x=>∃ l:List Symbol,x = .agg [slc l]∧sm 7 (Signature.mk l)) (LIM F.spec_l2Bent [.rref [slc code,.int .i64 p] 0]):=by
 refine drawn_of rfl 10 ?_
 rw [show callK prog A H LIM 10 F.spec_l2Bent [.rref [slc code,.int .i64 p] 0]=_ from spec_l2Bent.ev _ _ _]
 refine drawn_s (spec_l2Sig hc p (by omega)) ?_
 rintro _ p1 a1 b1 ⟨l,rfl,ok⟩
 have hle:=ok.le
 have hpos:=ok.pos
 simp only at hle hpos
 have sml:=ok.small
 have leaf:∀ (l:List Symbol) (p2:Int),p≤p2∧p2≤p+5→sm 7 (Signature.mk l)→Drawn code p 5 (fun x=>∃ l:List Symbol,x = .agg [slc l]∧sm 7 (Signature.mk l)) (some (.agg [slc l],[.agg [slc code,.int .i64 p2]])):=fun l p2 h hl=>drawn_end h ⟨l,rfl,hl⟩
 have setS:∀ (i:Nat) (y:Symbol),y.name.size≤7→sm 7 (Signature.mk (l.set i y)):=fun i y hy=>⟨by show (l.set i y).length≤7; rw [List.length_set]; omega,fun x hx=>by
  rcases List.mem_or_eq_of_mem_set hx with h | rfl
  · exact sml.2 x h
  · exact hy⟩
 simp only [evz,Nat.reduceLT]
 refine chance_s hc (by omega) fun b => ?_
 simp only [evz,Nat.reduceLT]
 cases b with
 | false=>simp only [evz,Nat.reduceLT,Bool.not_false]; exact leaf l _ (by omega) sml
 | true =>
   simp only [evz,Nat.reduceLT,Bool.not_true]
   refine next_s hc (by omega) fun v h1 h2 => ?_
   simp only [evz,Nat.reduceLT]
   split
   · exact leaf [] _ (by omega) ⟨by simp,by simp⟩
   split
   · rw [wrap64 (by omega),show (l.length:Int) - 1=((l.length - 1:Nat):Int) by omega]
     have hi:l.length - 1 < l.length:=by omega
     have z:(l.length - 1)*2+1≤l.length*2:=by omega
     simp only [evz,Nat.reduceLT,hi,cells_le,sz_Symbol,z,set_sym hi]
     exact leaf _ _ (by omega) (setS _ _ (show (ba [97,98,99,100]).size≤7 by decide))
   split
   · refine next_s hc (by omega) fun x k1 k2 => ?_
     obtain ⟨i,rfl⟩:∃ i:Nat,x=i:=⟨x.toNat,by omega⟩
     have hi:i < l.length:=by have:=k2 (by omega); omega
     have z:i*2+1≤l.length*2:=by omega
     simp only [evz,Nat.reduceLT,hi,cells_le,sz_Symbol,z,set_sym hi]
     exact leaf _ _ (by omega) (setS _ _ (show (ba [97,66]).size≤7 by decide))
   split
   · refine next_s hc (by omega) fun x k1 k2 => ?_
     obtain ⟨i,rfl⟩:∃ i:Nat,x=i:=⟨x.toNat,by omega⟩
     have hi:i < l.length:=by have:=k2 (by omega); omega
     simp only [evz,Nat.reduceLT]
     refine pick_s hc [3,-1] rfl (by simp) (by omega) fun y hy => ?_
     have z:i*2+1+1≤l.length*2:=by omega
     simp only [evz,Nat.reduceLT,hi,cells_le,sz_Symbol,z,set_ar hi]
     exact leaf _ _ (by omega) (setS _ _ (sml.2 l[i] (List.getElem_mem hi)))
   split
   · have h0:0 < l.length:=by omega
     have e0:inB 0 l.length=true:=(inB_nat 0 _).trans (by simpa using h0)
     have g0:(cells l)[0]?=some (.str l[0].name):=by
      have:=get0 (l:=l) (k:=2) (i:=0) rfl
      rw [Nat.zero_mul] at this
      rw [this,List.getElem?_eq_getElem h0]; rfl
     have g1:(cells l)[1]?=some (.int .i64 l[0].arity):=by
      have:=get1 (l:=l) (k:=2) (i:=0) rfl (by decide)
      rw [Nat.zero_mul,Nat.zero_add] at this
      rw [this,List.getElem?_eq_getElem h0]; rfl
     simp only [evz,Nat.reduceLT,e0,g0,g1]
     rw [cond_pos (ble_ok (by rw [cells_length]; simp only [sz_Symbol]; omega))]
     have e9:cells l++[.str l[0].name,.int .i64 l[0].arity]=cells (l++[l[0]]):=by rw [cells_append,enc_cells_one]; rfl
     rw [e9]
     refine leaf _ _ (by omega) ⟨by show (l++[l[0]]).length≤7; simp; omega,fun x hx => ?_⟩
     rcases List.mem_append.1 hx with h | h
     · exact sml.2 x h
     · rw [List.mem_singleton.1 h]; exact sml.2 _ (List.getElem_mem h0)
   split
   · refine draw_loop (σ:=Nat × List Symbol) (S:=fun m s=>spec_l2Bent.at3 10 m (spec_l2Bent.st3 l.length (s.1:Nat) (cells code) (p1+1+1) (cells s.2))) (fun s=>s.1≤l.length∧s.2.length=l.length∧sm 7 (Signature.mk s.2)) (fun s=>l.length - s.1) (fun m s hs => ?_) _ (0,l) ⟨by simp,rfl,sml⟩ (by simp only; omega)
     obtain ⟨k,o⟩:=s
     obtain ⟨q1,q2,q3⟩:=hs
     simp only at q1 q2 q3 ⊢
     by_cases hk:k < l.length
     · right
       have hko:k < o.length:=by omega
       have z:k*2+1+1≤o.length*2:=by omega
       refine ⟨(k+1,o.set k ⟨o[k].name,1⟩),?_,⟨by simp only; omega,by simp [q2],⟨by show (o.set k _).length≤7; rw [List.length_set]; omega,fun x hx => ?_⟩⟩,by simp only; omega⟩
       · simp only [spec_l2Bent.next3,spec_l2Bent.round3,evz,Nat.reduceLT,hk,hko,cells_le,sz_Symbol,z,set_ar hko]
         rw [wrap_succ (by omega)]
       · rcases List.mem_or_eq_of_mem_set hx with h | rfl
         · exact q3.2 x h
         · exact q3.2 o[k] (List.getElem_mem hko)
     · left
       simp only [spec_l2Bent.next3,spec_l2Bent.round3,evz,Nat.reduceLT,hk]
       exact leaf _ _ (by omega) q3
   refine draw_loop (σ:=List Symbol) (S:=fun m s=>spec_l2Bent.at1 10 m (spec_l2Bent.st1 (cells code) (p1+1+1) (cells s))) (fun s=>s.length≤7∧sm 7 (Signature.mk s)) (fun s=>7 - s.length) (fun m s hs => ?_) _ l ⟨by omega,sml⟩ (by omega)
   obtain ⟨k1,k2⟩:=hs
   by_cases hk:s.length < 7
   · right
     have hk2:((s.length:Nat):Int) < 7:=by omega
     refine ⟨s++[⟨ba [122],0⟩],?_,⟨by simp; omega,⟨by show (s++_).length≤7; simp; omega,fun x hx => ?_⟩⟩,by simp; omega⟩
     · simp only [spec_l2Bent.next1,spec_l2Bent.round1,evz,Nat.reduceLT,hk2]
       rw [cond_pos (ble_ok (by rw [cells_length]; simp only [sz_Symbol]; omega)),cells_append,enc_cells_one]
       rfl
     · rcases List.mem_append.1 hx with h | h
       · exact k2.2 x h
       · rw [List.mem_singleton.1 h]; show (ba [122]).size≤7; decide
   · left
     have hk2:¬ ((s.length:Nat):Int) < 7:=by omega
     simp only [spec_l2Bent.next1,spec_l2Bent.round1,evz,Nat.reduceLT,hk2]
     exact leaf _ _ (by omega) k2
theorem spec_l3BentTerm (p most vars:Int) (l:List Symbol) (hl:l.length≤1000) (hm:1≤most∧most≤1000) (hv:0≤vars∧vars≤12) (hp:0≤p∧p≤1099510000000) :
 Drawn code p 3200 (fun x=>∃ t:List Int,x=slc t∧t.length≤1001) (LIM F.spec_l3BentTerm [.rref [slc code,.int .i64 p] 0,.rref [slc l] 0,.int .i64 most,.int .i64 vars]):=by
 have leaf:∀ (t:List Int) (p2:Int),p≤p2∧p2≤p+3200→t.length≤1001→Drawn code p 3200 (fun x=>∃ t:List Int,x=slc t∧t.length≤1001) (some (slc t,[.agg [slc code,.int .i64 p2]])):=fun t p2 h hl=>drawn_end h ⟨t,rfl,hl⟩
 refine drawn_of rfl 30 ?_
 rw [show callK prog A H LIM 30 F.spec_l3BentTerm [.rref [slc code,.int .i64 p] 0,.rref [slc l] 0,.int .i64 most,.int .i64 vars]=_ from spec_l3BentTerm.ev _ _ _ _ _ _]
 simp only [evz,Nat.reduceLT]
 split
 · exact leaf [0] p (by omega) (by simp)
 simp only [(spec_SignatureFault l (by omega)).eq,evz,Nat.reduceLT]
 split
 case isFalse=>exact leaf [0] p (by omega) (by simp)
 rename_i hs
 have ok:=sigOk_of hs
 refine drawn_s (spec_l3Draw hc ok p most vars hm hv (by omega)) ?_
 rintro _ p1 a1 b1 ⟨t,rfl,g⟩
 have tl:=g.le
 have tp:=g.pos
 simp only [evz,Nat.reduceLT]
 refine chance_s hc (by omega) fun b => ?_
 simp only [evz,Nat.reduceLT]
 cases b with
 | false=>simp only [evz,Nat.reduceLT,Bool.not_false]; exact leaf t _ (by omega) (by omega)
 | true =>
   simp only [evz,Nat.reduceLT,Bool.not_true]
   refine next_s hc (by omega) fun v h1 h2 => ?_
   simp only [evz,Nat.reduceLT]
   split
   · rw [wrap64 (by omega),show (t.length:Int) - 1=((t.length - 1:Nat):Int) by omega]
     have z1:(0:Int)≤((t.length - 1:Nat):Int):=by omega
     have z2:((t.length - 1:Nat):Int)≤(t.length:Int):=by omega
     simp only [evz,Nat.reduceLT,z1,z2,Bool.and_self]
     rw [cells_take t 1 _ rfl]
     exact leaf _ _ (by omega) (by rw [List.length_take]; omega)
   split
   · rw [cond_pos (ble_ok (by rw [cells_length]; simp only [sz_int]; omega)),cells_snoc_int]
     exact leaf _ _ (by omega) (by simp; omega)
   split
   · refine next_s hc (by omega) fun x k1 k2 => ?_
     obtain ⟨i,rfl⟩:∃ i:Nat,x=i:=⟨x.toNat,by omega⟩
     have hi:i < t.length:=by have:=k2 (by omega); omega
     simp only [evz,Nat.reduceLT]
     refine pick_s hc [(l.length:Int),-13,-12] rfl (by simp) (by omega) fun y hy => ?_
     have z:i*1+1≤t.length*1:=by omega
     simp only [evz,Nat.reduceLT,hi,cells_le,sz_int,z,set_Int hi]
     exact leaf _ _ (by omega) (by rw [List.length_set]; omega)
   refine draw_loop (σ:=Nat × Int × List Int) (S:=fun m s=>spec_l3BentTerm.at1 30 m (spec_l3BentTerm.st1 (s.1:Nat) (cells code) s.2.1 (cells s.2.2))) (fun s=>s.1≤25∧s.2.2.length=s.1∧p≤s.2.1∧s.2.1=p1+1+1+2*(s.1:Int)) (fun s=>25 - s.1) (fun m s hs => ?_) _ (0,p1+1+1,[]) ⟨by simp,rfl,by simp only; omega,by simp⟩ (by simp)
   obtain ⟨k,q,o⟩:=s
   obtain ⟨q1,q2,q3,q4⟩:=hs
   simp only at q1 q2 q3 q4 ⊢
   obtain ⟨x,hx,e⟩:=spec_l1Pick hc q [24,25] (ts:=[.int .i64 24,.int .i64 25]) rfl (by simp) (by omega)
   have hx':x≤25:=by simp only [List.mem_cons,List.not_mem_nil,or_false] at hx; omega
   by_cases hk:(k:Int) < x
   · right
     obtain ⟨y,hy,e'⟩:=spec_l1Pick hc (q+1) [1,2,0] (ts:=[.int .i64 1,.int .i64 2,.int .i64 0]) rfl (by simp) (by omega)
     refine ⟨(k+1,q+1+1,o++[y]),?_,⟨by simp only; omega,by simp [q2],by simp only; omega,by simp only; omega⟩,by simp only; omega⟩
     simp only [spec_l3BentTerm.next1,spec_l3BentTerm.round1,evz,Nat.reduceLT,e,hk,e']
     rw [cond_pos (ble_ok (by rw [cells_length]; simp only [sz_int]; omega)),wrap_succ (by omega),cells_snoc_int]
   · left
     simp only [spec_l3BentTerm.next1,spec_l3BentTerm.round1,evz,Nat.reduceLT,e,hk]
     exact leaf o _ (by omega) (by omega)
end
end Ev.Ty
end
section
namespace Ev.Ty
open Go Ev
open Tm
set_option linter.unusedSimpArgs false
set_option linter.unusedVariables false
namespace Tm
def inst (σ:Int→Tm):Tm→Tm
 | v n=>σ n
 | k n=>k n
 | u n x=>u n (x.inst σ)
 | b n x y=>b n (x.inst σ) (y.inst σ)
theorem inst_ok {σ:Int→Tm} {a:Int→Nat} (hσ:∀ n,n < 0→(σ n).ok a):∀ {t:Tm},t.ok a→(t.inst σ).ok a
 | .v n,h=>hσ n h
 | .k _,h=>h
 | .u _ _,h=>⟨h.1,h.2.1,inst_ok hσ h.2.2⟩
 | .b _ _ _,h=>⟨h.1,h.2.1,inst_ok hσ h.2.2.1,inst_ok hσ h.2.2.2⟩
inductive Part:Tm→Tm→Prop
 | arg {p t}:p∈t.args→Part p t
 | deep {p q t}:q∈t.args→Part p q→Part p t
end Tm
namespace G
variable {r:Int→Int}
theorem above {t p:Tm} (h:Tm.Part p t):G r t p:=by
 induction h with
 | arg h=>exact .eq h
 | deep h _ ih=>exact .sub h ih
theorem ctx {s t x y:Tm} {A B:List Tm} (z:0≤s.head) (he:s.head=t.head) (e1:s.args=A++x::B) (e2:t.args=A++y::B) (h:G r x y):G r s t:=by
 refine .lex z he (fun q hq => ?_) e1 e2 h
 rw [e2] at hq
 rcases List.mem_append.1 hq with hq | hq
 · exact .eq (by rw [e1]; exact List.mem_append_left _ hq)
 · rcases List.mem_cons.1 hq with rfl | hq
   · exact .sub (by rw [e1]; simp) h
   · exact .eq (by rw [e1]; simp [hq])
end G
end Ev.Ty
end
section
namespace Ev.Ty
open Go Ev
open Tm
set_option linter.unusedSimpArgs false
set_option linter.unusedVariables false
section
variable {l:List Symbol} (ok:SigOk ⟨l⟩) {o:List Int} (ho:∀ n:Int,0≤n→n < l.length→n∈o)
include ok
theorem TermOk.atZero {t:List Int} (h:TermOk l t):∃ x,At l t 0 x∧t=x.flat:=by
 obtain ⟨x,hx,e⟩:=h.tree ok
 exact ⟨x,⟨hx,[],by simpa using e⟩,e⟩
include ho
end
end Ev.Ty
end
section
namespace Ev.Ty
open Go Ev
open Enc (enc)
open Sm (sm)
set_option linter.unusedSimpArgs false
set_option linter.unusedVariables false
set_option maxHeartbeats 1000000
theorem spec_l2Find (l:List Symbol) (hl:l.length≤1000) (s:ByteArray):∃ n:Int,Call F.spec_l2Find [.rref [slc l] 0,.str s] (.int .i64 n):=by
 suffices h:∃ r,callK prog A H LIM (l.length+1) F.spec_l2Find [.rref [slc l] 0,.str s]=r∧∃ n:Int,r=some (.int .i64 n,[]) by
  obtain ⟨_,e,n,rfl⟩:=h
  exact ⟨n,call_of rfl _ e⟩
 refine ⟨_,spec_l2Find.ev _ _ _,?_⟩
 refine draw_loop (Q:=fun r=>∃ n:Int,r=some (.int .i64 n,[])) (σ:=Nat) (S:=fun m k=>spec_l2Find.at0 (l.length+1) m (spec_l2Find.st0 (cells l) s (k:Nat))) (fun k=>k≤l.length) (fun k=>l.length - k) (fun m k hk => ?_) _ 0 (by omega) (by omega)
 by_cases h:k < l.length
 · have g0:=get0 (l:=l) (k:=2) (i:=k) rfl
   have ek:l[k]?=some l[k]:=List.getElem?_eq_getElem h
   by_cases e:l[k].name=s
   · left
     exact ⟨(k:Int),by simp only [spec_l2Find.next0,spec_l2Find.round0,evz,Nat.reduceLT,h,g0,ek,e,beq_self_eq_true,enc_Symbol]⟩
   · right
     refine ⟨k+1,?_,by omega,by omega⟩
     simp only [spec_l2Find.next0,spec_l2Find.round0,evz,Nat.reduceLT,h,g0,ek,e,enc_Symbol]
     rw [wrap_succ (by omega)]
 · left
   exact ⟨-1,by simp only [spec_l2Find.next0,spec_l2Find.round0,evz,Nat.reduceLT,h]⟩
def CutQ (s:ByteArray) (r:R):Prop:=∃ xs:List ByteArray,r=some (.sl 1 (xs.map .str),[])∧xs.length≤s.size+1∧∀ x∈xs,x.size≤s.size
theorem spec_l1Cut (s:ByteArray) (hs:s.size≤1000) (c:Int):∃ xs:List ByteArray,Call F.spec_l1Cut [.str s,.int .u8 c] (.sl 1 (xs.map .str))∧xs.length≤s.size+1∧∀ x∈xs,x.size≤s.size:=by
 suffices h:∃ r,callK prog A H LIM (s.size+2) F.spec_l1Cut [.str s,.int .u8 c]=r∧CutQ s r by
  obtain ⟨_,e,n,rfl,h⟩:=h
  exact ⟨n,call_of rfl _ e,h⟩
 refine ⟨_,spec_l1Cut.ev _ _ _,?_⟩
 have z:([]:List T)=([]:List ByteArray).map .str:=rfl
 rw [z]
 refine draw_loop (Q:=CutQ s) (σ:=Nat × Nat × List ByteArray) (S:=fun m q=>spec_l1Cut.at0 (s.size+2) m (spec_l1Cut.st0 s c (q.1:Nat) (q.2.1:Nat) (q.2.2.map .str))) (fun q=>q.1≤q.2.1∧q.2.1≤s.size+1∧q.2.2.length≤q.2.1∧∀ x∈q.2.2,x.size≤s.size) (fun q=>s.size+1 - q.2.1) (fun m q hq => ?_) _ (0,0,[]) ⟨by simp,by simp,by simp,by simp⟩ (by simp only; omega)
 obtain ⟨a,k,xs⟩:=q
 obtain ⟨h1,h2,h3,h4⟩:=hq
 simp only at h1 h2 h3 h4 ⊢
 by_cases hk:k≤s.size
 case neg =>
  left
  have hk':¬ (k:Int)≤(s.size:Int):=by omega
  exact ⟨xs,by simp only [spec_l1Cut.next0,spec_l1Cut.round0,evz,Nat.reduceLT,hk'],by omega,h4⟩
 right
 have hk':(k:Int)≤(s.size:Int):=by omega
 have ha':(0:Int)≤(a:Int):=by omega
 have hak:(a:Int)≤(k:Int):=by omega
 have put:∀ x∈xs++[s.extract a k],x.size≤s.size:=fun x hx=>by
  rcases List.mem_append.1 hx with h | h
  · exact h4 x h
  · rw [List.mem_singleton.1 h,ByteArray.size_extract]; omega
 have cell:(xs.map T.str)++[.str (s.extract a k)]=(xs++[s.extract a k]).map .str:=by rw [List.map_append]; rfl
 have blen:Nat.ble (((xs.map T.str).length+1)*16) (140737488355328*1)=true:=ble_ok (by rw [List.length_map]; omega)
 by_cases e:k=s.size
 · refine ⟨(k+1,k+1,xs++[s.extract a k]),?_,⟨by simp only; omega,by simp only; omega,by simp; omega,put⟩,by simp only; omega⟩
   have e':((k:Nat):Int)=(s.size:Int):=by omega
   simp only [spec_l1Cut.next0,spec_l1Cut.round0,evz,Nat.reduceLT,hk',e',beq_self_eq_true,ha',hak,Int.le_refl,decide_true,Bool.and_self,← cell]
   rw [← e] at *
   simp only [evz,Nat.reduceLT,hak,decide_true,Bool.and_self,blen]
   rw [wrap_succ (by omega)]
 · have e':¬ ((k:Nat):Int)=(s.size:Int):=by omega
   have hlt:k < s.size:=by omega
   by_cases eb:((s.data.getD k 0).toNat:Int)=c
   · refine ⟨(k+1,k+1,xs++[s.extract a k]),?_,⟨by simp only; omega,by simp only; omega,by simp; omega,put⟩,by simp only; omega⟩
     simp only [spec_l1Cut.next0,spec_l1Cut.round0,evz,Nat.reduceLT,hk',e',hlt,eb,ha',hak,decide_true,Bool.and_self,blen,← cell]
     rw [wrap_succ (by omega)]
   · refine ⟨(a,k+1,xs),?_,⟨by simp only; omega,by simp only; omega,by simp only; omega,h4⟩,by simp only; omega⟩
     simp only [spec_l1Cut.next0,spec_l1Cut.round0,evz,Nat.reduceLT,hk',e',hlt,eb]
     rw [wrap_succ (by omega)]
def NodesQ (s:ByteArray) (r:R):Prop:=∃ (t:List Int) (b:Bool),r=some (.tup [slc t,.bool b],[])∧t.length≤s.size
theorem nodes_inner {l:List Symbol} (hl:l.length≤1000) (s:ByteArray) (hs:s.size≤1000) (N:Nat) (L:St→R) (a:Nat) (t:List Int) (ht:t.length≤a) (k0:Nat) (ha:a≤k0)
 (K:∀ (e:Nat) (n:Int),k0≤e→e≤s.size→NodesQ s (L (spec_l4Nodes.st0 (cells l) s (e:Nat) (cells (t++[n]))))):∀ (d k f:Nat),k+d=s.size→k0≤k→d < f →
 NodesQ s (spec_l4Nodes.at3 N L f (spec_l4Nodes.st3 (cells l) s (a:Nat) (k:Nat) (cells t))):=by
 intro d
 induction d with
 | zero =>
   intro k f hk h0 hf
   obtain ⟨f,rfl⟩:∃ g,f=g+1:=⟨f - 1,by omega⟩
   have n1:¬ (k:Int) < (s.size:Int):=by omega
   have c1:(0:Int)≤(a:Int):=by omega
   have c2:(a:Int)≤(k:Int):=by omega
   have c3:(k:Int)≤(s.size:Int):=by omega
   obtain ⟨n,en⟩:=spec_l2Find l hl (s.extract a k)
   have blen:Nat.ble (((cells t).length+1)*8) (140737488355328*1)=true:=ble_ok (by rw [cells_length,sz_int]; omega)
   simp only [spec_l4Nodes.next3,spec_l4Nodes.round3,n1,c1,c2,c3,decide_true,decide_false,Bool.and_self,cond_true,cond_false,Int.toNat_natCast,en.eq,evz,Nat.reduceLT]
   by_cases hn:n < 0
   · simp only [hn,evz,Nat.reduceLT]
     exact ⟨[],false,rfl,by simp⟩
   · simp only [hn,evz,Nat.reduceLT,blen]
     rw [cells_snoc_int]
     exact K k n h0 (by omega)
 | succ d ih =>
   intro k f hk h0 hf
   obtain ⟨f,rfl⟩:∃ g,f=g+1:=⟨f - 1,by omega⟩
   have n1:(k:Int) < (s.size:Int):=by omega
   have n2:k < s.size:=by omega
   have c1:(0:Int)≤(a:Int):=by omega
   have c2:(a:Int)≤(k:Int):=by omega
   have c3:(k:Int)≤(s.size:Int):=by omega
   obtain ⟨n,en⟩:=spec_l2Find l hl (s.extract a k)
   have blen:Nat.ble (((cells t).length+1)*8) (140737488355328*1)=true:=ble_ok (by rw [cells_length,sz_int]; omega)
   have stop:NodesQ s (if n < 0 then some (.tup [.sl 1 [],.bool false],[]) else L (spec_l4Nodes.st0 (cells l) s (k:Nat) (cells t++[.int .i64 n]))):=by
    by_cases hn:n < 0
    · rw [if_pos hn]; exact ⟨[],false,rfl,by simp⟩
    · rw [if_neg hn,cells_snoc_int]
      exact K k n h0 (by omega)
   have ih:=ih (k+1) f (by omega) (by omega) (by omega)
   simp only [spec_l4Nodes.next3,spec_l4Nodes.round3,n1,n2,c1,c2,c3,inB_nat,decide_true,decide_false,Bool.and_self,cond_true,cond_false,Int.toNat_natCast,en.eq,evz,Nat.reduceLT,blen,wrap_succ (by omega:k < 9223372036854775807)]
   split
   · split
     · exact ih
     · exact stop
   · exact stop
theorem spec_l4Nodes {l:List Symbol} (hl:l.length≤1000) (s:ByteArray) (hs:s.size≤1000):∃ (t:List Int) (b:Bool),Call F.spec_l4Nodes [.rref [slc l] 0,.str s] (.tup [slc t,.bool b])∧t.length≤s.size:=by
 suffices h:∃ r,callK prog A H LIM (s.size+1) F.spec_l4Nodes [.rref [slc l] 0,.str s]=r∧NodesQ s r by
  obtain ⟨_,e,t,b,rfl,h⟩:=h
  exact ⟨t,b,call_of rfl _ e,h⟩
 refine ⟨_,spec_l4Nodes.ev _ _ _,?_⟩
 have key:∀ (d k f:Nat) (t:List Int),k+d=s.size→t.length≤k→d < f→NodesQ s (spec_l4Nodes.at0 (s.size+1) f (spec_l4Nodes.st0 (cells l) s (k:Nat) (cells t))):=by
  intro d
  induction d using Nat.strongRecOn with
  | ind d ih =>
    intro k f t hk ht hf
    obtain ⟨f,rfl⟩:∃ g,f=g+1:=⟨f - 1,by omega⟩
    by_cases hk0:k < s.size
    case neg =>
     have n1:¬ (k:Int) < (s.size:Int):=by omega
     simp only [spec_l4Nodes.next0,spec_l4Nodes.round0,evz,Nat.reduceLT,n1]
     exact ⟨t,true,rfl,by omega⟩
    have n1:(k:Int) < (s.size:Int):=by omega
    have next:NodesQ s (spec_l4Nodes.at0 (s.size+1) f (spec_l4Nodes.st0 (cells l) s ((k+1:Nat):Int) (cells t))):=ih (d - 1) (by omega) (k+1) f t (by omega) (by omega) (by omega)
    have put:∀ n:Int,NodesQ s (spec_l4Nodes.at0 (s.size+1) f (spec_l4Nodes.st0 (cells l) s ((k+1:Nat):Int) (cells t++[.int .i64 n]))):=fun n=>by
     rw [cells_snoc_int]
     exact ih (d - 1) (by omega) (k+1) f _ (by omega) (by simp; omega) (by omega)
    have bad:NodesQ s (some (.tup [.sl 1 [],.bool false],[])):=⟨[],false,rfl,by simp⟩
    have blen:Nat.ble (((cells t).length+1)*8) (140737488355328*1)=true:=ble_ok (by rw [cells_length,sz_int]; omega)
    have word:((s.data.getD k 0).toNat:Int) ≥ 97→((s.data.getD k 0).toNat:Int)≤122→NodesQ s (spec_l4Nodes.at3 (s.size+1) (spec_l4Nodes.at0 (s.size+1) f) (s.size+1) (spec_l4Nodes.st3 (cells l) s (k:Nat) (k:Nat) (cells t))):=fun w1 w2=>by
     have:=nodes_inner hl s hs (s.size+1) (spec_l4Nodes.at0 (s.size+1) f) k t ht (k+1) (by omega) (fun e n h1 h2=>ih (s.size - e) (by omega) e f _ (by omega) (by simp; omega) (by omega)) (d - 1) (k+1) s.size (by omega) (by omega) (by omega)
     simp only [spec_l4Nodes.next3,spec_l4Nodes.round3,n1,hk0,inB_nat,decide_true,cond_true,Int.toNat_natCast,w1,w2,wrap_succ (by omega:k < 9223372036854775807)]
     exact this
    simp only [spec_l4Nodes.next0,spec_l4Nodes.round0,n1,hk0,inB_nat,decide_true,cond_true,Int.toNat_natCast,evz,Nat.reduceLT,blen,wrap_succ (by omega:k < 9223372036854775807)]
    repeat' split
    all_goals first | with_reducible exact next | with_reducible exact bad | with_reducible exact put _ | (with_reducible apply word <;> assumption)
 exact key s.size 0 (s.size+1) [] (by omega) (by simp) (by omega)
section
variable {l:List Symbol} (ok:SigOk ⟨l⟩)
include ok
theorem node_sym {t:List Int} (ht:TermOk l t) {i:Nat} (hi:i < t.length) (h0:0≤t[i]):∃ k:Nat,t[i]=k∧∃ h:k < l.length,ar l t[i]=l[k].arity.toNat∧0≤l[k].arity∧l[k].arity≤2∧l[k].name.size≤3:=by
 have hn:=ht.node _ (List.getElem_mem hi)
 unfold nodeOk inR at hn
 simp only [Bool.or_eq_true,Bool.and_eq_true,decide_eq_true_eq] at hn
 have hk:t[i].toNat < l.length:=by omega
 refine ⟨t[i].toNat,by omega,hk,?_,(ok.arity _ (List.getElem_mem hk)).1,(ok.arity _ (List.getElem_mem hk)).2,name_small (ok.name _ (List.getElem_mem hk))⟩
 unfold ar
 rw [if_neg (by omega),List.getElem?_eq_getElem hk]
 rfl
def TextQ (c:Nat) (r:R):Prop:=∃ s:ByteArray,r=some (.str s,[])∧s.size≤c
theorem spec_l4TextAt {t:List Int} (ht:TermOk l t):∀ (x:Tm) (i:Nat),At l t i x→TextQ (6*x.flat.length) (LIM F.spec_l4Text [.rref [slc l] 0,slc t,.int .i64 i]):=by
 have lb:(ByteArray.mk #[40]).size=1:=rfl
 have rb:(ByteArray.mk #[41]).size=1:=rfl
 have cm:(ByteArray.mk #[44]).size=1:=rfl
 have hle:=ht.le
 intro x
 induction x with
 | v n =>
   intro i h
   obtain ⟨h1,h2,_,_⟩:=h.facts
   have hn:n < 0:=h.1
   have e:t[i]=n:=by rw [List.getD_eq_getElem?_getD,List.getElem?_eq_getElem h1] at h2; exact h2
   have ei:t[i]?=some n:=by rw [List.getElem?_eq_getElem h1,e]
   have ev:=spec_l4Text.ev 0 (cells l) (cells t) i
   simp only [evz,Nat.reduceLT,h1,ei,enc_int,hn] at ev
   refine ⟨_,lim_of rfl 0 ev,?_⟩
   show ByteArray.size (ByteArray.push ByteArray.empty _)≤6*[n].length
   rw [ByteArray.size_push]; show 0+1≤6*1; decide
 | k n =>
   intro i h
   obtain ⟨h1,h2,_,_⟩:=h.facts
   have hn:0≤n∧ar l n=0:=h.1
   have e:t[i]=n:=by rw [List.getD_eq_getElem?_getD,List.getElem?_eq_getElem h1] at h2; exact h2
   subst e
   obtain ⟨q,eq,hq,q1,q2,q3,q4⟩:=node_sym ok ht h1 hn.1
   have ei:t[i]?=some (q:Int):=by rw [List.getElem?_eq_getElem h1,eq]
   have e0:l[q].arity=0:=by omega
   have hn':¬ (q:Int) < 0:=by omega
   have ek:l[q]?=some l[q]:=List.getElem?_eq_getElem hq
   refine ⟨l[q].name,lim_of rfl 0 ((spec_l4Text.ev _ _ _ _).trans ?_),by show _≤6*1; omega⟩
   simp only [evz,Nat.reduceLT,h1,ei,enc_int,hn',hq,get0 (l:=l) (k:=2) rfl,get1 (l:=l) (k:=2) rfl,ek,enc_Symbol,e0]
 | u n y ihy =>
   intro i h
   obtain ⟨h1,h2,_,_⟩:=h.facts
   have hn:0≤n∧ar l n=1:=⟨h.1.1,h.1.2.1⟩
   have e:t[i]=n:=by rw [List.getD_eq_getElem?_getD,List.getElem?_eq_getElem h1] at h2; exact h2
   have hy:At l t (i+1) y:=by
    obtain ⟨hx,r,hr⟩:=h
    exact At.next hx.2.2 hr
   obtain ⟨y1,_,y3,_⟩:=hy.facts
   have yl:y.flat.length≤24:=by
    have:=(endAt_spec ht y1).2.1
    omega
   subst e
   obtain ⟨q,eq,hq,q1,q2,q3,q4⟩:=node_sym ok ht h1 hn.1
   have ei:t[i]?=some (q:Int):=by rw [List.getElem?_eq_getElem h1,eq]
   have e0:l[q].arity=1:=by omega
   have hn':¬ (q:Int) < 0:=by omega
   have ek:l[q]?=some l[q]:=List.getElem?_eq_getElem hq
   obtain ⟨s,es,hs⟩:=ihy (i+1) hy
   have b1:l[q].name.size+1≤9223372036854775807:=by omega
   have ee:=(l3End_at ok ht y1).eq
   refine ⟨(l[q].name++ByteArray.mk #[40])++s++ByteArray.mk #[41],lim_of rfl 2 ((spec_l4Text.ev _ _ _ _).trans ?_),?_⟩
   · simp only [evz,Nat.reduceLT,h1,ei,enc_int,hn',hq,get0 (l:=l) (k:=2) rfl,get1 (l:=l) (k:=2) rfl,ek,enc_Symbol,e0,lb,b1,wrap_succ (by omega:i < 9223372036854775807)]
     have c1:(l[q].name++ByteArray.mk #[40]).size+s.size≤9223372036854775807:=by rw [ByteArray.size_append,lb]; omega
     have c2:((l[q].name++ByteArray.mk #[40])++s).size+1≤9223372036854775807:=by rw [ByteArray.size_append,ByteArray.size_append,lb]; omega
     simp only [spec_l4Text.next0,spec_l4Text.round0,evz,Nat.reduceLT,es,c1,ee,rb,c2]
     rfl
   · rw [ByteArray.size_append,ByteArray.size_append,ByteArray.size_append,lb,rb]
     show _≤6*(t[i]::y.flat).length
     rw [List.length_cons]; omega
 | b n y z ihy ihz =>
   intro i h
   obtain ⟨h1,h2,_,_⟩:=h.facts
   have hn:0≤n∧ar l n=2:=⟨h.1.1,h.1.2.1⟩
   have e:t[i]=n:=by rw [List.getD_eq_getElem?_getD,List.getElem?_eq_getElem h1] at h2; exact h2
   have hy:At l t (i+1) y:=by
    obtain ⟨hx,r,hr⟩:=h
    exact At.next (n:=n) hx.2.2.1 (r:=z.flat++r) (by rw [hr]; simp [Tm.flat])
   obtain ⟨y1,_,y3,_⟩:=hy.facts
   have hz:At l t (endAt l t (i+1)) z:=by
    obtain ⟨hx,r,hr⟩:=h
    refine ⟨hx.2.2.2,r,?_⟩
    rw [y3,← List.drop_drop,← List.drop_drop,hr]
    simp [Tm.flat]
   obtain ⟨z1,_,z3,_⟩:=hz.facts
   have el:=(endAt_spec ht z1).2.1
   have yl:y.flat.length≤24:=by omega
   have zl:z.flat.length≤24:=by omega
   subst e
   obtain ⟨q,eq,hq,q1,q2,q3,q4⟩:=node_sym ok ht h1 hn.1
   have ei:t[i]?=some (q:Int):=by rw [List.getElem?_eq_getElem h1,eq]
   have e0:l[q].arity=2:=by omega
   have hn':¬ (q:Int) < 0:=by omega
   have ek:l[q]?=some l[q]:=List.getElem?_eq_getElem hq
   obtain ⟨s,es,hs⟩:=ihy (i+1) hy
   obtain ⟨s2,es2,hs2⟩:=ihz _ hz
   have b1:l[q].name.size+1≤9223372036854775807:=by omega
   have ee:=(l3End_at ok ht y1).eq
   have ee2:=(l3End_at ok ht z1).eq
   refine ⟨(((l[q].name++ByteArray.mk #[40])++s)++ByteArray.mk #[44])++s2++ByteArray.mk #[41],lim_of rfl 3 ((spec_l4Text.ev _ _ _ _).trans ?_),?_⟩
   · simp only [evz,Nat.reduceLT,h1,ei,enc_int,hn',hq,get0 (l:=l) (k:=2) rfl,get1 (l:=l) (k:=2) rfl,ek,enc_Symbol,e0,lb,b1,wrap_succ (by omega:i < 9223372036854775807)]
     have c1:(l[q].name++ByteArray.mk #[40]).size+s.size≤9223372036854775807:=by rw [ByteArray.size_append,lb]; omega
     have c2:((l[q].name++ByteArray.mk #[40])++s).size+1≤9223372036854775807:=by rw [ByteArray.size_append,ByteArray.size_append,lb]; omega
     have c3:(((l[q].name++ByteArray.mk #[40])++s)++ByteArray.mk #[44]).size+s2.size≤9223372036854775807:=by rw [ByteArray.size_append,ByteArray.size_append,ByteArray.size_append,lb,cm]; omega
     have c4:((((l[q].name++ByteArray.mk #[40])++s)++ByteArray.mk #[44])++s2).size+1≤9223372036854775807:=by rw [ByteArray.size_append,ByteArray.size_append,ByteArray.size_append,ByteArray.size_append,lb,cm]; omega
     simp only [spec_l4Text.next0,spec_l4Text.round0,evz,Nat.reduceLT,es,c1,ee,rb,c2,es2,ee2,cm,c3,c4]
     rfl
   · rw [ByteArray.size_append,ByteArray.size_append,ByteArray.size_append,ByteArray.size_append,ByteArray.size_append,lb,rb,cm]
     show _≤6*(t[i]::(y.flat++z.flat)).length
     rw [List.length_cons,List.length_append]; omega
theorem spec_l4Read (s:ByteArray) (hs:s.size≤1000):∃ t:List Int,Call F.spec_l4Read [.rref [slc l] 0,.str s] (slc t)∧t.length≤168:=by
 have hle:=ok.le
 simp only at hle
 suffices h:∃ r,callK prog A H LIM 0 F.spec_l4Read [.rref [slc l] 0,.str s]=r∧∃ t:List Int,r=some (slc t,[])∧t.length≤168 by
  obtain ⟨_,e,t,rfl,h⟩:=h
  exact ⟨t,call_of rfl _ e,h⟩
 refine ⟨_,spec_l4Read.ev _ _ _,?_⟩
 by_cases hb:(s.size:Int) > 168
 · simp only [evz,Nat.reduceLT,hb]; exact ⟨[],rfl,by simp⟩
 obtain ⟨t,b,en,ht⟩:=spec_l4Nodes (l:=l) (by omega) s hs
 simp only [evz,Nat.reduceLT,hb,en.eq,(spec_l3Fault l ok t (by omega)).eq]
 cases b with
 | false=>exact ⟨[],rfl,by simp⟩
 | true =>
   simp only [evz,Nat.reduceLT,Bool.not_true]
   by_cases h0:termFault0 l t=0
   · have ok':=(termOk_iff l t).1 h0
     obtain ⟨x,hx,_⟩:=TermOk.atZero ok ok'
     obtain ⟨w,ew,_⟩:=spec_l4TextAt ok ok' x 0 hx
     have ew:LIM F.spec_l4Text [.rref [slc l] 0,slc t,.int .i64 0]=some (.str w,[]):=ew
     simp only [h0,evz,Nat.reduceLT,ew,ne_eq,not_true_eq_false]
     split
     · exact ⟨t,rfl,by omega⟩
     · exact ⟨[],rfl,by simp⟩
   · simp only [h0,evz,Nat.reduceLT,ne_eq,not_false_eq_true]
     exact ⟨[],rfl,by simp⟩
theorem spec_ReadEquation (s:ByteArray) (hs:s.size≤1000):∃ (c:Int) (a b:List Int),Call F.spec_ReadEquation [.agg [slc l],.str s] (.agg [.int .i64 c,slc a,slc b])∧(c=0→EqOk l ⟨a,b⟩):=by
 have hle:=ok.le
 simp only at hle
 let Q:R→Prop:=fun r=>∃ (c:Int) (a b:List Int),r=some (.agg [.int .i64 c,slc a,slc b],[])∧(c=0→EqOk l ⟨a,b⟩)
 suffices h:∃ r,callK prog A H LIM 0 F.spec_ReadEquation [.agg [slc l],.str s]=r∧Q r by
  obtain ⟨_,e,c,a,b,rfl,h⟩:=h
  exact ⟨c,a,b,call_of rfl _ e,h⟩
 refine ⟨_,spec_ReadEquation.ev _ _ _,?_⟩
 have bad:Q (some (.agg [.int .i64 5,.sl 1 [],.sl 1 []],[])):=⟨5,[],[],rfl,by omega⟩
 obtain ⟨xs,ex,x1,x2⟩:=spec_l1Cut s hs 61
 have es:=(spec_SignatureFault l (by omega)).eq
 rw [(sigOk_iff _).2 ok] at es
 simp only [evz,Nat.reduceLT,es,ex.eq,List.length_map]
 by_cases hb:(s.size:Int) > 337
 · simp only [hb,evz,Nat.reduceLT]; exact bad
 simp only [hb,evz,Nat.reduceLT]
 match xs,x2 with
 | [x,y],x2 =>
   have hx:=x2 x (by simp)
   have hy:=x2 y (by simp)
   obtain ⟨a,ea,ha⟩:=spec_l4Read ok x (by omega)
   obtain ⟨b,eb,hb⟩:=spec_l4Read ok y (by omega)
   have ef:LIM F.spec_l4Fault [.rref [slc l] 0,.rref [.sl 1 (cells a),.sl 1 (cells b)] 0]=_:=(spec_l4Fault l ok a b (by omega) (by omega)).eq
   by_cases h0:eqFault l ⟨a,b⟩=0
   · have r:Q (some (.agg [.int .i64 0,.sl 1 (cells a),.sl 1 (cells b)],[])):=⟨0,a,b,rfl,fun _=>eqOk_iff.1 h0⟩
     simpa [ea.eq,eb.eq,ef,h0,inB] using r
   · simpa [ea.eq,eb.eq,ef,h0,inB] using bad
 | [],_=>simpa using bad
 | [x],_=>simpa using bad
 | x::y::z::r,_ =>
   have hne:¬ ((r.length:Int)+1+1+1=2):=by omega
   simpa [hne] using bad
end
end Ev.Ty
end
section
namespace Ev.Ty
open Go Ev
open Enc (enc)
open Sm (sm)
set_option linter.unusedSimpArgs false
set_option linter.unusedVariables false
set_option maxHeartbeats 2000000
set_option maxRecDepth 10000
theorem Grown.eq {l:List Symbol} {m n:Nat} {v w:Int} {a b:List Int} (ha:Grown l m v a) (hb:Grown l n w b) (h1:m≤24) (h2:n≤24) (h3:v≤6) (h4:w≤6):EqOk l ⟨a,b⟩ :=
 ⟨ha.ok h1 (by omega),hb.ok h2 (by omega),fun n hn=>by rcases ha.node n hn with h | h <;> omega,fun n hn=>by rcases hb.node n hn with h | h <;> omega⟩
section
variable {code:List UInt8} (hc:code.length≤2097152)
include hc
theorem spec_l4Pool {l:List Symbol} (ok:SigOk ⟨l⟩) (p:Int) (hp:0≤p∧p≤1099510000000) :
 Drawn code p 6100 (fun x=>∃ a b:List Int,x = .agg [slc a,slc b]∧EqOk l ⟨a,b⟩) (LIM F.spec_l4Pool [.rref [slc code,.int .i64 p] 0,.rref [slc l] 0]):=by
 refine drawn_of rfl 20 ?_
 rw [show callK prog A H LIM 20 F.spec_l4Pool [.rref [slc code,.int .i64 p] 0,.rref [slc l] 0]=_ from spec_l4Pool.ev _ _ _ _]
 refine next_s hc (by omega) fun v h1 h2 => ?_
 have h2:=h2 (by omega)
 obtain ⟨v,rfl⟩:∃ n:Nat,v=n:=⟨v.toNat,by omega⟩
 simp only [evz,Nat.reduceLT]
 generalize hX:([.str _,.str _,.str _,.str _,.str _,.str _,.str _,.str _,.str _,.str _,.str _,.str _,.str _,.str _,.str _,.str _,.str _,.str _]:List T)=X
 have hlen:X.length=18:=by rw [← hX]; rfl
 have hX:∃ Y:List ByteArray,X=Y.map .str∧∀ y∈Y,y.size≤1000:=by
  subst hX
  refine ⟨[_,_,_,_,_,_,_,_,_,_,_,_,_,_,_,_,_,_],rfl,?_⟩
  intro y hy
  simp only [List.mem_cons,List.not_mem_nil,or_false] at hy
  rcases hy with rfl | rfl | rfl | rfl | rfl | rfl | rfl | rfl | rfl | rfl | rfl | rfl | rfl | rfl | rfl | rfl | rfl | rfl <;> decide
 obtain ⟨Y,rfl,hY⟩:=hX
 rw [List.length_map] at hlen
 refine draw_loop (σ:=Nat) (S:=fun m k=>spec_l4Pool.at0 20 m (spec_l4Pool.st0 (cells l) 18 (v:Nat) (k:Nat) (cells code) (p+1) (Y.map .str))) (fun k=>k≤18) (fun k=>18 - k) (fun m k hk => ?_) _ 0 (by omega) (by omega)
 by_cases h:k < 18
 · have hi:(v+k) % 18 < Y.length:=by omega
   have w:IntKind.wrap .i64 (((v:Nat):Int)+(k:Nat))=((v+k:Nat):Int):=by rw [wrap64 (by omega)]; omega
   have w2:Int.tmod ((v+k:Nat):Int) 18=(((v+k) % 18:Nat):Int):=by rw [Int.tmod_eq_emod_of_nonneg (by omega)]; omega
   have hk':((k:Nat):Int) < 18:=by omega
   have ei:Y[(v+k) % 18]?=some Y[(v+k) % 18]:=List.getElem?_eq_getElem hi
   obtain ⟨c,a,b,er,hr⟩:=spec_ReadEquation ok Y[(v+k) % 18] (hY _ (List.getElem_mem hi))
   by_cases h0:c=0
   · left
     subst h0
     simp only [spec_l4Pool.next0,spec_l4Pool.round0,evz,Nat.reduceLT,hk',w,w2,inB_nat,hi,List.length_map,List.getElem?_map,ei,Option.map_some,Option.bind_some,Int.toNat_natCast,Nat.mul_one,Nat.div_one,er.eq,show ¬ (18:Int)=0 by decide]
     exact drawn_end (by omega) ⟨a,b,rfl,hr rfl⟩
   · right
     refine ⟨k+1,?_,by omega,by omega⟩
     simp only [spec_l4Pool.next0,spec_l4Pool.round0,evz,Nat.reduceLT,hk',w,w2,inB_nat,hi,List.length_map,List.getElem?_map,ei,Option.map_some,Option.bind_some,Int.toNat_natCast,Nat.mul_one,Nat.div_one,er.eq,h0,show ¬ (18:Int)=0 by decide]
     rw [wrap_succ (by omega)]
 · left
   have hk':¬ ((k:Nat):Int) < 18:=by omega
   simp only [spec_l4Pool.next0,spec_l4Pool.round0,evz,Nat.reduceLT,hk']
   refine drawn_s (spec_l3Draw hc ok (p+1) 4 2 (by omega) (by omega) (by omega)) ?_
   rintro _ p1 a1 b1 ⟨a,rfl,ha⟩
   simp only [evz,Nat.reduceLT]
   refine drawn_s (spec_l3Draw hc ok p1 2 2 (by omega) (by omega) (by omega)) ?_
   rintro _ p2 a2 b2 ⟨b,rfl,hb⟩
   simp only [evz,Nat.reduceLT]
   exact drawn_end (by omega) ⟨a,b,rfl,ha.eq hb (by decide) (by decide) (by decide) (by decide)⟩
theorem spec_l4Draw {l:List Symbol} (ok:SigOk ⟨l⟩) (p:Int) (hp:0≤p∧p≤1099500000000) :
 Drawn code p 6200 (fun x=>∃ a b:List Int,x = .agg [slc a,slc b]∧EqOk l ⟨a,b⟩) (LIM F.spec_l4Draw [.rref [slc code,.int .i64 p] 0,.rref [slc l] 0]):=by
 refine drawn_of rfl 0 ?_
 rw [show callK prog A H LIM 0 F.spec_l4Draw [.rref [slc code,.int .i64 p] 0,.rref [slc l] 0]=_ from spec_l4Draw.ev _ _ _ _]
 refine chance_s hc (by omega) fun b => ?_
 simp only [evz,Nat.reduceLT]
 cases b with
 | true =>
   simp only [evz,Nat.reduceLT]
   refine pick_s hc [4,7,9] rfl (by simp) (by omega) fun v hv => ?_
   have hv':4≤v∧v≤9:=by
    simp only [List.mem_cons,List.not_mem_nil,or_false] at hv; omega
   simp only [evz,Nat.reduceLT]
   refine drawn_s (spec_l3Draw hc ok _ v 3 (by omega) (by omega) (by omega)) ?_
   rintro _ p1 a1 b1 ⟨a,rfl,ha⟩
   simp only [evz,Nat.reduceLT]
   refine pick_s hc [1,3,5] rfl (by simp) (by omega) fun w hw => ?_
   have hw':1≤w∧w≤5:=by
    simp only [List.mem_cons,List.not_mem_nil,or_false] at hw; omega
   simp only [evz,Nat.reduceLT]
   refine drawn_s (spec_l3Draw hc ok _ w 3 (by omega) (by omega) (by omega)) ?_
   rintro _ p2 a2 b2 ⟨b,rfl,hb⟩
   simp only [evz,Nat.reduceLT]
   exact drawn_end (by omega) ⟨a,b,rfl,ha.eq hb (by omega) (by omega) (by decide) (by decide)⟩
 | false =>
   simp only [evz,Nat.reduceLT]
   refine drawn_s (spec_l4Pool hc ok _ (by omega)) ?_
   rintro _ p1 a1 b1 ⟨a,b,rfl,h⟩
   simp only [evz,Nat.reduceLT]
   exact drawn_end (by omega) ⟨a,b,rfl,h⟩
theorem spec_l4BentEquation {l:List Symbol} (hl:l.length≤1000) (p:Int) (hp:0≤p∧p≤1099490000000) :
 Drawn code p 6500 (fun x=>∃ a b:List Int,x = .agg [slc a,slc b]∧a.length≤1001∧b.length≤1001) (LIM F.spec_l4BentEquation [.rref [slc code,.int .i64 p] 0,.rref [slc l] 0]):=by
 refine drawn_of rfl 0 ?_
 rw [show callK prog A H LIM 0 F.spec_l4BentEquation [.rref [slc code,.int .i64 p] 0,.rref [slc l] 0]=_ from spec_l4BentEquation.ev _ _ _ _]
 simp only [evz,Nat.reduceLT,(spec_SignatureFault l (by omega)).eq]
 by_cases h0:sigFault ⟨l⟩=0
 case neg =>
  simp only [h0,evz,Nat.reduceLT,ne_eq,not_false_eq_true]
  exact drawn_end (by omega) ⟨[0],[0],rfl,by simp,by simp⟩
 have ok:=sigOk_of h0
 simp only [h0,evz,Nat.reduceLT,ne_eq,not_true_eq_false]
 refine chance_s hc (by omega) fun b => ?_
 simp only [evz,Nat.reduceLT]
 cases b with
 | true =>
   simp only [evz,Nat.reduceLT]
   refine drawn_s (spec_l3BentTerm hc _ 9 7 l hl (by omega) (by omega) (by omega)) ?_
   rintro _ p1 a1 b1 ⟨a,rfl,ha⟩
   simp only [evz,Nat.reduceLT]
   refine drawn_s (spec_l3BentTerm hc _ 5 12 l hl (by omega) (by omega) (by omega)) ?_
   rintro _ p2 a2 b2 ⟨b,rfl,hb⟩
   simp only [evz,Nat.reduceLT]
   exact drawn_end (by omega) ⟨a,b,rfl,ha,hb⟩
 | false =>
   simp only [evz,Nat.reduceLT]
   refine drawn_s (spec_l4Draw hc ok _ (by omega)) ?_
   rintro _ p1 a1 b1 ⟨a,b,rfl,h⟩
   simp only [evz,Nat.reduceLT]
   have h1:=h.left.le
   have h2:=h.right.le
   simp only at h1 h2
   exact drawn_end (by omega) ⟨a,b,rfl,by omega,by omega⟩
end
end Ev.Ty
end
section
namespace Ev.Ty
open Go Ev
open Enc (enc)
open Sm (sm)
set_option linter.unusedSimpArgs false
set_option linter.unusedVariables false
set_option maxHeartbeats 2000000
set_option maxRecDepth 10000
structure BindS (vs:List Int) (ts:List (List Int)):Prop where
 vlen:vs.length≤12
 tlen:ts.length≤12
 size:∀ t∈ts,t.length≤1001
section
variable {code:List UInt8} (hc:code.length≤2097152)
include hc
theorem spec_l6Draw {l:List Symbol} (ok:SigOk ⟨l⟩) (p n:Int) (hn:0≤n∧n≤12) (hp:0≤p∧p≤1099490000000) :
 Drawn code p 40000 (fun x=>∃ vs ts,x = .agg [slc vs,slc ts]∧BindS vs ts∧BindOk vs ts) (LIM F.spec_l6Draw [.rref [slc code,.int .i64 p] 0,.rref [slc l] 0,.int .i64 n]):=by
 refine drawn_of rfl 20 ?_
 rw [show callK prog A H LIM 20 F.spec_l6Draw [.rref [slc code,.int .i64 p] 0,.rref [slc l] 0,.int .i64 n]=_ from spec_l6Draw.ev _ _ _ _ _]
 refine draw_loop (σ:=Int × Int × List Int × List (List Int)) (S:=fun m s=>spec_l6Draw.at0 20 m (spec_l6Draw.st0 (cells l) n s.1 (cells code) s.2.1 (cells s.2.2.1) (cells s.2.2.2))) (fun s=>0≤s.1∧s.1≤n∧p≤s.2.1∧s.2.1≤p+s.1*3003∧(s.2.2.1.length:Int)≤s.1∧s.2.2.1.length=s.2.2.2.length∧(∀ v∈s.2.2.1,0≤v)∧∀ t∈s.2.2.2,1≤t.length∧t.length≤1001) (fun s=>(n - s.1).toNat) (fun m s hs => ?_) _ (0,p,[],[]) ⟨by simp only; omega,by simp only; omega,by simp only; omega,by simp only; omega,by simp,by simp,by simp,by simp⟩ (by simp only; omega)
 obtain ⟨k,q,vs,ts⟩:=s
 obtain ⟨h1,h2,h3,h4,h5,h6,h8,h7⟩:=hs
 simp only at h1 h2 h3 h4 h5 h6 h8 h7 ⊢
 by_cases hk:k < n
 case neg =>
  left
  simp only [spec_l6Draw.next0,spec_l6Draw.round0,evz,Nat.reduceLT,hk]
  exact drawn_end (by omega) ⟨vs,ts,rfl,⟨by omega,by omega,fun t ht=>(h7 t ht).2⟩,⟨h6,by omega,h8,fun t ht=>⟨(h7 t ht).1,by have:=(h7 t ht).2; omega⟩⟩⟩
 right
 have wk:IntKind.wrap .i64 (k+1)=k+1:=wrap64 (by omega)
 obtain ⟨b,ec⟩:=spec_l1Chance hc q 3 (by omega)
 cases b with
 | true =>
   refine ⟨(k+1,q+1,vs,ts),?_,⟨by simp only; omega,by simp only; omega,by simp only; omega,by simp only; omega,by simp only; omega,h6,h8,h7⟩,by simp only; omega⟩
   simp only [spec_l6Draw.next0,spec_l6Draw.round0,evz,Nat.reduceLT,hk,ec,wk,Bool.not_true]
 | false =>
   obtain ⟨v,hv,ep⟩:=spec_l1Pick hc (q+1) [1,3,4] (ts:=[.int .i64 1,.int .i64 3,.int .i64 4]) rfl (by simp) (by omega)
   have hv':1≤v∧v≤4:=by
    simp only [List.mem_cons,List.not_mem_nil,or_false] at hv; omega
   obtain ⟨_,q2,et,c1,c2,t,rfl,ht⟩:=spec_l3Draw hc ok (q+1+1) v 4 (by omega) (by omega) (by omega)
   have htl:=ht.le
   refine ⟨(k+1,q2,vs++[k],ts++[t]),?_,⟨by simp only; omega,by simp only; omega,by simp only; omega,by simp only; omega,by simp; omega,by simp [h6],fun x hx => ?_,fun x hx => ?_⟩,by simp only; omega⟩
   · simp only [spec_l6Draw.next0,spec_l6Draw.round0,evz,Nat.reduceLT,hk,ec,wk,Bool.not_false,ep,et]
     rw [cond_pos (ble_ok (by rw [cells_length]; simp only [sz_int]; omega)),cond_pos (ble_ok (by rw [cells_length]; simp only [sz_list]; omega)),cells_snoc_list,cells_snoc_int]
   · rcases List.mem_append.1 hx with h | h
     · exact h8 x h
     · rw [List.mem_singleton.1 h]; omega
   · rcases List.mem_append.1 hx with h | h
     · exact h7 x h
     · rw [List.mem_singleton.1 h]; exact ⟨ht.pos,by omega⟩
theorem spec_l6Bent {l:List Symbol} (hl:l.length≤1000) (p:Int) (hp:0≤p∧p≤1099480000000) :
 Drawn code p 50000 (fun x=>∃ vs ts,x = .agg [slc vs,slc ts]∧BindS vs ts) (LIM F.spec_l6Bent [.rref [slc code,.int .i64 p] 0,.rref [slc l] 0]):=by
 refine drawn_of rfl 0 ?_
 rw [show callK prog A H LIM 0 F.spec_l6Bent [.rref [slc code,.int .i64 p] 0,.rref [slc l] 0]=_ from spec_l6Bent.ev _ _ _ _]
 have leaf:∀ (vs:List Int) (ts:List (List Int)) (p2:Int),p≤p2∧p2≤p+50000→BindS vs ts→Drawn code p 50000 (fun x=>∃ vs ts,x = .agg [slc vs,slc ts]∧BindS vs ts) (some (.agg [slc vs,slc ts],[.agg [slc code,.int .i64 p2]])):=fun vs ts p2 h hb=>drawn_end h ⟨vs,ts,rfl,hb⟩
 simp only [evz,Nat.reduceLT,(spec_SignatureFault l (by omega)).eq]
 by_cases h0:sigFault ⟨l⟩=0
 case neg =>
  simp only [h0,evz,Nat.reduceLT,ne_eq,not_false_eq_true]
  exact leaf [] [] p (by omega) ⟨by simp,by simp,by simp⟩
 have ok:=sigOk_of h0
 simp only [h0,evz,Nat.reduceLT,ne_eq,not_true_eq_false]
 refine pick_s hc [1,3,6] rfl (by simp) (by omega) fun v hv => ?_
 have hv':1≤v∧v≤6:=by
  simp only [List.mem_cons,List.not_mem_nil,or_false] at hv; omega
 simp only [evz,Nat.reduceLT]
 refine drawn_s (spec_l6Draw hc ok _ v (by omega) (by omega)) ?_
 rintro _ p1 a1 b1 ⟨vs,ts,rfl,hb,hbo⟩
 have hlen:=hbo.len
 simp only [evz,Nat.reduceLT]
 split
 · exact leaf vs ts _ (by omega) hb
 rename_i hv1
 have hpos:0 < vs.length:=by omega
 refine chance_s hc (by omega) fun b => ?_
 simp only [evz,Nat.reduceLT]
 cases b with
 | false=>simp only [evz,Nat.reduceLT,Bool.not_false]; exact leaf vs ts _ (by omega) hb
 | true =>
   simp only [evz,Nat.reduceLT,Bool.not_true]
   refine next_s hc (by omega) fun x hx1 hx2 => ?_
   simp only [evz,Nat.reduceLT]
   split
   · have e1:(1:Int)≤((vs.length:Nat):Int):=by omega
     simp only [e1,Int.le_refl,evz,Nat.reduceLT,Bool.and_self,Int.reduceLE]
     have e2:((cells vs).take (vs.length*1)).drop (1*1)=cells (vs.drop 1):=by
      rw [cells_cut,List.take_length]
     rw [e2]
     exact leaf (vs.drop 1) ts _ (by omega) ⟨by rw [List.length_drop]; have:=hb.vlen; omega,hb.tlen,hb.size⟩
   split
   · refine next_s hc (by omega) fun y hy1 hy2 => ?_
     obtain ⟨i,rfl⟩:∃ i:Nat,y=i:=⟨y.toNat,by omega⟩
     have hi:i < vs.length:=by have:=hy2 (by omega); omega
     simp only [evz,Nat.reduceLT]
     refine pick_s hc [12,-1] rfl (by simp) (by omega) fun w hw => ?_
     have z:i*1+1≤vs.length*1:=by omega
     have hset:setCells (cells vs) (i*1) [.int .i64 w]=cells (vs.set i w):=by
      have:=fset_gen (o:=vs) (i:=i) (n:=1) (j:=0) (x:=vs[i]) (x':=w) (c := .int .i64 w) rfl hi (by decide) (by rw [enc_int,enc_int]; rfl)
      rwa [set_same (List.getElem?_eq_getElem hi)] at this
     simp only [evz,Nat.reduceLT,hi,cells_le,sz_int,z,hset]
     exact leaf (vs.set i w) ts _ (by omega) ⟨by rw [List.length_set]; exact hb.vlen,hb.tlen,hb.size⟩
   split
   · refine next_s hc (by omega) fun y hy1 hy2 => ?_
     obtain ⟨i,rfl⟩:∃ i:Nat,y=i:=⟨y.toNat,by omega⟩
     have hi:i < ts.length:=by have:=hy2 (by omega); omega
     simp only [evz,Nat.reduceLT]
     refine drawn_s (spec_l3BentTerm hc _ 3 3 l hl (by omega) (by omega) (by omega)) ?_
     rintro _ p2 a2 b2 ⟨t,rfl,ht⟩
     have z:i*1+1≤ts.length*1:=by omega
     have hset:setCells (cells ts) (i*1) [slc t]=cells (ts.set i t):=by
      have:=fset_gen (o:=ts) (i:=i) (n:=1) (j:=0) (x:=ts[i]) (x':=t) (c:=slc t) rfl hi (by decide) (by rw [enc_list,enc_list]; rfl)
      rwa [set_same (List.getElem?_eq_getElem hi)] at this
     simp only [evz,Nat.reduceLT,hi,cells_le,sz_list,z,hset]
     refine leaf vs (ts.set i t) _ (by omega) ⟨hb.vlen,by rw [List.length_set]; exact hb.tlen,fun u hu => ?_⟩
     rcases List.mem_or_eq_of_mem_set hu with h | rfl
     · exact hb.size u h
     · exact ht
   · have z:0+1≤vs.length*1:=by omega
     have e0:inB 0 vs.length=true:=(inB_nat 0 _).trans (by simpa using hpos)
     have hset:setCells (cells vs) 0 [.int .i64 11]=cells (vs.set 0 11):=by
      have:=fset_gen (o:=vs) (i:=0) (n:=1) (j:=0) (x:=vs[0]) (x':=11) (c := .int .i64 11) rfl hpos (by decide) (by rw [enc_int,enc_int]; rfl)
      rwa [set_same (List.getElem?_eq_getElem hpos)] at this
     simp only [evz,Nat.reduceLT,e0,cells_le,sz_int,z,hset]
     exact leaf (vs.set 0 11) ts _ (by omega) ⟨by rw [List.length_set]; exact hb.vlen,hb.tlen,hb.size⟩
end
end Ev.Ty
end
section
namespace Ev.Ty
open Go Ev
open Enc (enc)
open Sm (sm)
set_option linter.unusedSimpArgs false
set_option linter.unusedVariables false
section
variable (e:Nat→Nat) (f:Nat→Int)
def upStep (s:Int × Int × Int) (k:Nat):Int × Int × Int:=if (e k:Int) > s.2.2 then s else if f k ≥ 0 then ((k:Int),f k,(e k:Int)) else s
def IsBest (lo hi:Nat) (s:Int × Int):Prop :=
 (s=(-1,-1)∧∀ a,lo≤a→a < hi→f a < 0) ∨
  ∃ a,lo≤a∧a < hi∧s=((a:Int),f a)∧f a ≥ 0∧∀ a',lo≤a'→a' < hi→f a' ≥ 0→e a < e a'∨(e a=e a'∧a'≤a)
theorem IsBest.up {k:Nat} {s:Int × Int × Int} (he:∀ a,e a≤24) (h:IsBest e f 0 k (s.1,s.2.1)) (hs:(s.1 = -1∧s.2.2=25)∨∃ a:Nat,s.1=a∧s.2.2=e a) :
 IsBest e f 0 (k+1) ((upStep e f s k).1,(upStep e f s k).2.1)∧(((upStep e f s k).1 = -1∧(upStep e f s k).2.2=25)∨∃ a:Nat,(upStep e f s k).1=a∧(upStep e f s k).2.2=e a):=by
 have hek:=he k
 obtain ⟨p,r,d⟩:=s
 unfold upStep
 simp only at h hs ⊢
 rcases h with ⟨hp,h⟩ | ⟨a,h1,h2,hp,h3,h4⟩
 · simp only [Prod.mk.injEq] at hp
   obtain ⟨rfl,rfl⟩:=hp
   have hd:d=25:=by
    rcases hs with ⟨_,h⟩ | ⟨a,h,_⟩
    · exact h
    · omega
   subst hd
   rw [if_neg (by omega)]
   by_cases hf:f k ≥ 0
   · rw [if_pos hf]
     refine ⟨.inr ⟨k,by omega,by omega,rfl,hf,fun a' q1 q2 q3 => ?_⟩,.inr ⟨k,rfl,rfl⟩⟩
     by_cases hak:a'=k
     · subst hak; exact .inr ⟨rfl,Nat.le_refl _⟩
     · have:=h a' (by omega) (by omega); omega
   · rw [if_neg hf]
     refine ⟨.inl ⟨rfl,fun a' q1 q2 => ?_⟩,.inl ⟨rfl,rfl⟩⟩
     by_cases hak:a'=k
     · subst hak; omega
     · exact h a' (by omega) (by omega)
 · simp only [Prod.mk.injEq] at hp
   obtain ⟨rfl,rfl⟩:=hp
   have hd:d=e a:=by
    rcases hs with ⟨h,_⟩ | ⟨a',h,h'⟩
    · omega
    · have:a=a':=by omega
      rw [this]; exact h'
   subst hd
   by_cases hc:(e k:Int) > e a
   · rw [if_pos hc]
     refine ⟨.inr ⟨a,by omega,by omega,rfl,h3,fun a' q1 q2 q3 => ?_⟩,.inr ⟨a,rfl,rfl⟩⟩
     by_cases hak:a'=k
     · subst hak; exact .inl (by omega)
     · exact h4 a' (by omega) (by omega) q3
   · rw [if_neg hc]
     by_cases hf:f k ≥ 0
     · rw [if_pos hf]
       refine ⟨.inr ⟨k,by omega,by omega,rfl,hf,fun a' q1 q2 q3 => ?_⟩,.inr ⟨k,rfl,rfl⟩⟩
       by_cases hak:a'=k
       · subst hak; exact .inr ⟨rfl,Nat.le_refl _⟩
       · rcases h4 a' (by omega) (by omega) q3 with q | ⟨q,_⟩
         · exact .inl (by omega)
         · rcases Nat.lt_or_ge (e k) (e a') with q' | q'
           · exact .inl q'
           · exact .inr ⟨by omega,by omega⟩
     · rw [if_neg hf]
       refine ⟨.inr ⟨a,by omega,by omega,rfl,h3,fun a' q1 q2 q3 => ?_⟩,.inr ⟨a,rfl,rfl⟩⟩
       by_cases hak:a'=k
       · subst hak; omega
       · exact h4 a' (by omega) (by omega) q3
end
def fits (l:List Symbol) (rs:List Equation) (t:List Int) (p:Nat):Int:=idx (fun e=>(matchAt l e.left t p).isSome) rs
theorem skip_applied {l:List Symbol} {b:Bnd} {k:Nat} (hb:MB l b k) (hk:k≤24):∀ (q x:List Int) (m:Nat),skip (ar l) m q=some []→skip (ar l) m (applied b.1 b.2 q++x)=some x
 | [],x,m,h=>by
   obtain ⟨rfl,_⟩:=skip_nil h
   rw [skip_zero]; rfl
 | n::q,x,m,h=>by
   cases m with
   | zero=>rw [skip_zero] at h; cases h
   | succ m =>
     rw [skip] at h
     have ih:=skip_applied hb hk q x _ h
     have e:applied b.1 b.2 (n::q)=(bindOf b.1 b.2 (-1 - n)).getD [n]++applied b.1 b.2 q:=by simp [applied]
     rw [e,List.append_assoc]
     cases ho:bindOf b.1 b.2 (-1 - n) with
     | none =>
       show skip (ar l) (m+1) (n::(applied b.1 b.2 q++x))=_
       rw [skip]; exact ih
     | some o =>
       have hn:n < 0:=by
        rcases Int.lt_or_le n 0 with h | h
        · exact h
        · rw [bindOf_neg (hb.ok hk) (by omega)] at ho; cases ho
       rw [ar_neg l hn,Nat.add_zero] at ih
       have ht:=hb.tm o (bindOf_mem ho)
       show skip (ar l) (m+1) (o++(applied b.1 b.2 q++x))=_
       rw [show m+1=1+m by omega,skip_add,skip_append ht.skip]
       exact ih
theorem applied_node {l:List Symbol} {b:Bnd} {k:Nat} (hb:MB l b k) {q:List Int} (hq:∀ n∈q,nodeOk l n=true):∀ n∈applied b.1 b.2 q,nodeOk l n=true:=fun n hn=>by
 unfold applied at hn
 obtain ⟨m,hm,hn⟩:=List.mem_flatMap.1 hn
 cases ho:bindOf b.1 b.2 (-1 - m) with
 | none=>rw [ho] at hn; rw [List.mem_singleton.1 hn]; exact hq m hm
 | some o=>rw [ho] at hn; exact (hb.tm o (bindOf_mem ho)).node n hn
end Ev.Ty
end
section
namespace Ev.Ty
open Go Ev
open Enc (enc)
open Sm (sm)
set_option linter.unusedSimpArgs false
set_option linter.unusedVariables false
theorem ins_take {α:Type} {l:List α} {i k:Nat} (x:α) (hi:i≤k) (hk:k < l.length):(ins l i x).take (k+2)=(ins l i x).take (k+1)++[l[k]]:=by
 have hlen:=ins_length l i x (by omega)
 have h:k+1 < (ins l i x).length:=by omega
 have e:(ins l i x)[k+1]=l[k]:=by
  have:=ins_get l x i (by omega) (k+1)
  rw [if_neg (by omega),if_neg (by omega),Nat.add_sub_cancel,List.getElem?_eq_getElem hk] at this
  have h2:(ins l i x)[k+1]?=some l[k]:=this
  rw [List.getElem?_eq_getElem h] at h2
  exact Option.some.inj h2
 rw [← e]
 exact (List.take_append_getElem h).symm
theorem ins_take_eq {α:Type} {l:List α} {i:Nat} (x:α) (hi:i≤l.length):(ins l i x).take (i+1)=l.take i++[x]:=by
 unfold ins
 rw [List.take_append,List.take_of_length_le (by simp; omega)]
 simp [Nat.min_eq_left hi]
theorem ins_end {α:Type} (l:List α) (x:α):ins l l.length x=l++[x]:=by simp [ins]
def withSt (vs:List Int) (ts:List (List Int)) (v:Int) (t:List Int) (k:Nat):Bool × List Int × List (List Int) :=
 if k≤insAt vs v then (false,vs.take k,ts.take k) else (true,(ins vs (insAt vs v) v).take (k+1),(ins ts (insAt vs v) t).take (k+1))
theorem spec_l6With (vs:List Int) (ts:List (List Int)) (v:Int) (t:List Int) (hl:vs.length=ts.length) (hs:vs.length≤1000) (ht:t.length≤4096) (hv:v∉vs) (htm:∀ x∈ts,x.length≤4096) :
 Call F.spec_l6With [.rref [slc vs,slc ts] 0,.int .i64 v,slc t] (.agg [slc (bput (vs,ts) v t).1,slc (bput (vs,ts) v t).2]):=by
 have hi:=insAt_le vs v
 refine call_of rfl 1002 ((spec_l6With.ev _ _ _ _ _).trans ?_)
 have key:=run_loop (n:=vs.length) (f:=1002) (S:=fun m k (s:Bool × List Int × List (List Int))=>spec_l6With.at0 1002 m (spec_l6With.st0 (cells vs) (cells ts) v (cells t) s.1 (k:Nat) (cells s.2.1) (cells s.2.2)))
  (st:=withSt vs ts v t) (z:=some (.agg [slc (bput (vs,ts) v t).1,slc (bput (vs,ts) v t).2],[])) (fun m k h => ?_) (fun m => ?_) (by omega)
 · have e0:withSt vs ts v t 0=(false,[],[]):=by unfold withSt; rw [if_pos (Nat.zero_le _)]; rfl
   rw [e0] at key
   exact key
 · have h':k < ts.length:=by omega
   have hlk:vs[k]?=some vs[k]:=List.getElem?_eq_getElem h
   have htk:ts[k]?=some ts[k]:=List.getElem?_eq_getElem h'
   have hx:=(spec_l1Ints' ts[k] (by have:=htm _ (List.getElem_mem h'); omega)).eq
   have hx2:=(spec_l1Ints' t (by omega)).eq
   have hne:vs[k]≠v:=fun e=>hv (e ▸ List.getElem_mem h)
   have len1:∀ q,((cells (vs.take q)).length)≤1000:=fun q=>by rw [cells_length,sz_int]; simp; omega
   have len2:∀ q,((cells (ts.take q)).length)≤1000:=fun q=>by rw [cells_length,show Enc.sz (List Int)=1 from rfl]; simp; omega
   have len3:∀ q,((cells ((ins vs (insAt vs v) v).take q)).length)≤1001:=fun q=>by rw [cells_length,sz_int,List.length_take,ins_length _ _ _ hi]; omega
   have len4:∀ q,((cells ((ins ts (insAt vs v) t).take q)).length)≤1001:=fun q=>by rw [cells_length,show Enc.sz (List Int)=1 from rfl,List.length_take,ins_length _ _ _ (by omega)]; omega
   have tk1:vs.take (k+1)=vs.take k++[vs[k]]:=(List.take_append_getElem h).symm
   have tk2:ts.take (k+1)=ts.take k++[ts[k]]:=(List.take_append_getElem h').symm
   rcases Nat.lt_trichotomy k (insAt vs v) with c | c | c
   · have hlt:=insAt_lt vs v k c h
     have hgt:¬ vs[k] > v:=by omega
     have e1:withSt vs ts v t k=(false,vs.take k,ts.take k):=if_pos (by omega)
     have e2:withSt vs ts v t (k+1)=(false,vs.take k++[vs[k]],ts.take k++[ts[k]]):=by unfold withSt; rw [if_pos (by omega),tk1,tk2]
     rw [e1,e2]
     simp only [spec_l6With.next0,spec_l6With.round0,evz,Nat.reduceLT,h,h',hlk,htk,enc_int,enc_list,hgt,hx,cells_snoc_int,cells_snoc_list]
     rw [cond_pos (ble_ok (by have:=len1 k; omega)),cond_pos (ble_ok (by have:=len2 k; omega)),wrap_succ (by omega)]
   · have hs:=insAt_stop vs v (by omega)
     have hs:¬ vs[k] < v:=by
      have:vs[insAt vs v]'(by omega)=vs[k]:=by congr 1; omega
      rw [this] at hs; exact hs
     have hgt:vs[k] > v:=by omega
     have e1:withSt vs ts v t k=(false,vs.take k,ts.take k):=if_pos (by omega)
     have e2:withSt vs ts v t (k+1)=(true,(vs.take k++[v])++[vs[k]],(ts.take k++[t])++[ts[k]]):=by
      unfold withSt
      rw [if_neg (by omega),← c,ins_take v (Nat.le_refl _) h,ins_take t (Nat.le_refl _) h',ins_take_eq v (by omega),ins_take_eq t (by omega)]
     rw [e1,e2]
     simp only [spec_l6With.next0,spec_l6With.round0,evz,Nat.reduceLT,h,h',hlk,htk,enc_int,enc_list,hgt,hx,hx2,cells_snoc_int,cells_snoc_list]
     have l1:=len1 k
     have l2:=len2 k
     have l3:(cells (vs.take k++[v])).length≤1001:=by rw [cells_append,List.length_append,cells_length [v]]; simp; omega
     have l4:(cells (ts.take k++[t])).length≤1001:=by rw [cells_append,List.length_append,cells_length [t]]; simp [show Enc.sz (List Int)=1 from rfl]; omega
     rw [cond_pos (ble_ok (by omega)),cond_pos (ble_ok (by omega)),cond_pos (ble_ok (by omega)),cond_pos (ble_ok (by omega)),wrap_succ (by omega)]
   · have e1:withSt vs ts v t k=(true,(ins vs (insAt vs v) v).take (k+1),(ins ts (insAt vs v) t).take (k+1)):=if_neg (by omega)
     have e2:withSt vs ts v t (k+1)=(true,(ins vs (insAt vs v) v).take (k+1)++[vs[k]],(ins ts (insAt vs v) t).take (k+1)++[ts[k]]):=by
      unfold withSt
      rw [if_neg (by omega),ins_take v (by omega) h,ins_take t (by omega) h']
     rw [e1,e2]
     simp only [spec_l6With.next0,spec_l6With.round0,evz,Nat.reduceLT,h,h',hlk,htk,enc_int,enc_list,hx,cells_snoc_int,cells_snoc_list]
     rw [cond_pos (ble_ok (by have:=len3 (k+1); omega)),cond_pos (ble_ok (by have:=len4 (k+1); omega)),wrap_succ (by omega)]
 · have hx2:=(spec_l1Ints' t (by omega)).eq
   by_cases c:insAt vs v=vs.length
   · have e1:withSt vs ts v t vs.length=(false,vs,ts):=by
      unfold withSt
      rw [if_pos (by omega),List.take_length,hl,List.take_length]
     have e2:bput (vs,ts) v t=(vs++[v],ts++[t]):=by
      unfold bput
      rw [c,ins_end]
      simp only [Prod.mk.injEq,true_and]
      rw [hl,ins_end]
     rw [e1,e2]
     simp only [spec_l6With.next0,spec_l6With.round0,evz,Nat.reduceLT,Nat.lt_irrefl,hx2,cells_snoc_int,cells_snoc_list]
     rw [cond_pos (ble_ok (by rw [cells_length,sz_int]; omega)),cond_pos (ble_ok (by rw [cells_length,show Enc.sz (List Int)=1 from rfl]; omega))]
   · have e1:withSt vs ts v t vs.length=(true,ins vs (insAt vs v) v,ins ts (insAt vs v) t):=by
      unfold withSt
      rw [if_neg (by omega),List.take_of_length_le (by rw [ins_length _ _ _ hi]; omega),List.take_of_length_le (by rw [ins_length _ _ _ (by omega)]; omega)]
     rw [e1]
     simp only [spec_l6With.next0,spec_l6With.round0,evz,Nat.reduceLT,Nat.lt_irrefl]
     rfl
def mT:Option Bnd→T
 | none => .tup [.agg [.sl 1 [],.sl 1 []],.bool false]
 | some b => .tup [.agg [slc b.1,slc b.2],.bool true]
section
variable {l:List Symbol} (ok:SigOk ⟨l⟩)
include ok
theorem spec_l6Match {pat u:List Int} (hq:TermOk l pat) (hu:TermOk l u) {p0:Nat} (hp0:p0 < u.length):Call F.spec_l6Match [.rref [slc l] 0,slc pat,slc u,.int .i64 p0] (mT (matchAt l pat u p0)):=by
 have hul:=hu.le
 have hpl:=hq.le
 refine call_of rfl 25 ((spec_l6Match.ev _ _ _ _ _).trans ?_)
 have loop:∀ (q:List Int) (b:Bnd) (p k f:Nat),pat.drop k=q→q.length < f→Both l u q p (u.drop (endAt l u p0))→MB l b k→k+q.length=pat.length →
  spec_l6Match.at0 25 f (spec_l6Match.st0 (cells l) (cells pat) (cells u) (p:Nat) (k:Nat) (cells b.1) (cells b.2))=some (mT ((mgo l u q b p).map (·.1)),[]):=by
  intro q
  induction q with
  | nil =>
    intro b p k f hd hf hB hb hk
    obtain ⟨f,rfl⟩:∃ x,f=x+1:=⟨f - 1,by omega⟩
    have h:¬ k < pat.length:=by simp at hk; omega
    simp only [spec_l6Match.next0,spec_l6Match.round0,evz,Nat.reduceLT,h,mgo,Option.map_some,mT]
  | cons n q ih =>
    intro b p k f hd hf hB hb hk
    rw [List.length_cons] at hf hk
    obtain ⟨f,rfl⟩:∃ x,f=x+1:=⟨f - 1,by omega⟩
    have h:k < pat.length:=by omega
    have hn:pat[k]=n:=by
     have:=congrArg (fun x=>x[0]?) hd
     simp only [List.getElem?_drop,Nat.add_zero,List.getElem?_cons_zero] at this
     rw [List.getElem?_eq_getElem h] at this
     exact Option.some.inj this
    have hd':pat.drop (k+1)=q:=by rw [← List.drop_drop,hd]; rfl
    have hlk:pat[k]?=some n:=by rw [List.getElem?_eq_getElem h,hn]
    have hp:=hB.lt
    have hpk:u[p]?=some u[p]:=List.getElem?_eq_getElem hp
    have hnode:=nodeOk_iff.1 (hq.node n (hn ▸ List.getElem_mem h))
    have hp':¬ ((p:Int) ≥ (u.length:Int)):=by omega
    have hls:l.length≤6:=ok.le
    obtain ⟨h3,h4,_⟩:=endAt_spec hu hp
    have hsl:=(sub_split hu hp).2.1
    rw [mgo,if_neg (by omega)]
    by_cases c:0≤n
    · have c':n ≥ 0:=c
      rw [if_pos c,getD_at hp]
      by_cases e:u[p]=n
      · simp only [spec_l6Match.next0,spec_l6Match.round0,evz,Nat.reduceLT,h,hlk,hp,hpk,hp',enc_int,c',e]
        rw [wrap_succ (by omega),wrap_succ (by omega)]
        exact ih b (p+1) (k+1) f hd' (by omega) (hB.node (by rw [getD_at hp,e])) (hb.up (by omega)) (by omega)
      · simp only [spec_l6Match.next0,spec_l6Match.round0,evz,Nat.reduceLT,h,hlk,hp,hpk,hp',enc_int,c',e,Option.map_none,mT]
    · have c':¬ n ≥ 0:=c
      rw [if_neg c]
      have hof:=(spec_l6Term b.1 b.2 (-1 - n) hb.len (by have:=hb.le; omega)).eq
      have hB':=hB.var hu (by omega)
      have hw:IntKind.wrap .i64 (-1 - n) = -1 - n:=wrap64 (by omega)
      have hw2:IntKind.wrap .i64 ((p:Int)+((subAt l u p).length:Nat))=((p+(subAt l u p).length:Nat):Int):=by rw [wrap64 (by omega)]; omega
      have hsub:=(spec_l3Sub ok hu hp).eq
      have hbl:=hb.le
      cases hbo:bindOf b.1 b.2 (-1 - n) with
      | none =>
        rw [hbo] at hof
        have hbind:=(spec_l6With b.1 b.2 (-1 - n) (subAt l u p) hb.len (by omega) (by omega) (bindOf_none hb.len hbo) fun x hx=>by have:=(hb.tm x hx).le; omega).eq
        simp only [spec_l6Match.next0,spec_l6Match.round0,evz,Nat.reduceLT,h,hlk,hp',enc_int,c',hsub,hw,hof,Option.getD_none,scalars_int,hbind,hw2,List.length_nil,Int.natCast_zero,Int.ofNat_zero]
        rw [wrap_succ (by omega)]
        exact ih (bput b (-1 - n) (subAt l u p)) _ (k+1) f hd' (by omega) hB' (hb.put (by omega) (subAt_ok hu hp)) (by omega)
      | some o =>
        rw [hbo] at hof
        have ho:=hb.tm o (bindOf_mem hbo)
        have hol:=ho.le
        have hop:=ho.pos
        have ho0:¬ ((o.length:Int)=0):=by omega
        have heq:=(spec_l1Same o (subAt l u p) ⟨by omega,fun _ _=>trivial⟩).eq
        show _=some (mT ((if o=subAt l u p then mgo l u q b (p+(subAt l u p).length) else none).map (·.1)),[])
        by_cases e:o=subAt l u p
        · rw [if_pos e]
          have ho1:¬ (((subAt l u p).length:Int)=0):=by omega
          rw [e] at heq
          simp only [spec_l6Match.next0,spec_l6Match.round0,evz,Nat.reduceLT,h,hlk,hp',enc_int,c',hsub,hw,hof,Option.getD_some,scalars_int,heq,e,ho0,ho1,hw2]
          rw [wrap_succ (by omega)]
          exact ih b _ (k+1) f hd' (by omega) hB' (hb.up (by omega)) (by omega)
        · rw [if_neg e]
          simp only [spec_l6Match.next0,spec_l6Match.round0,evz,Nat.reduceLT,h,hlk,hp',enc_int,c',hsub,hw,hof,Option.getD_some,scalars_int,heq,e,ho0,Option.map_none,mT]
 exact loop pat ([],[]) p0 0 25 rfl (by omega) (Both.start hu hq hp0) (MB.nil l) (by omega)
end
end Ev.Ty
end
section
namespace Ev.Ty
open Go Ev
open Enc (enc)
open Sm (sm)
set_option linter.unusedSimpArgs false
set_option linter.unusedVariables false
section
variable {l:List Symbol} (ok:SigOk ⟨l⟩) {rs:List Equation} (hr:∀ e∈rs,EqOk l e) (hn:rs.length≤12)
include ok hr hn
end
end Ev.Ty
end
section
namespace Ev.Ty
open Go Ev
open Enc (enc)
open Sm (sm)
set_option linter.unusedSimpArgs false
set_option linter.unusedVariables false
end Ev.Ty
end
section
namespace Ev.Ty
open Go Ev
open Enc (enc)
open Sm (sm)
set_option linter.unusedSimpArgs false
set_option linter.unusedVariables false
end Ev.Ty
end
section
namespace Ev.Ty
open Go Ev
open Enc (enc)
open Sm (sm)
set_option linter.unusedSimpArgs false
set_option linter.unusedVariables false
section
variable {l:List Symbol} {z:Nat} {tb:List (List Int)} (al:AlgOk l z tb)
include al
end
end Ev.Ty
end
section
namespace Ev.Ty
open Go Ev
open Enc (enc)
open Sm (sm)
set_option linter.unusedSimpArgs false
set_option linter.unusedVariables false
section
variable (l:List Symbol) (z:Int) (tb:List (List Int)) (hs:l.length≤4294967296) (ht:sm 4294967296 tb)
include hs ht
end
end Ev.Ty
end
section
namespace Ev.Ty
open Go Ev
open Enc (enc)
open Sm (sm)
set_option linter.unusedSimpArgs false
set_option linter.unusedVariables false
theorem cells_int_scalar (l:List Int):(cells l).all T.scalar=true:=by
 rw [← intsT_cells,List.all_eq_true]
 intro x hx
 obtain ⟨n,_,rfl⟩:=List.mem_map.1 hx
 rfl
theorem spec_l1Ints (l:List Int) (h:l.length≤4294967296):Call F.spec_l1Ints [slc l] (slc l):=by
 refine call_of rfl 0 ((spec_l1Ints.ev _ _).trans ?_)
 have hb:Nat.ble ((0+(cells l).length)*8) (140737488355328*1)=true:=by
  rw [Nat.ble_eq,cells_length,sz_int]; omega
 rw [cells_int_scalar,hb]
 rfl
def eqOf (e:Entry):Equation:=⟨e.left,e.right⟩
section
variable (l:List Symbol) (z:Int) (tb:List (List Int)) (hs:l.length≤4294967296) (ht:sm 4294967296 tb)
include hs ht
end
end Ev.Ty
end
section
namespace Ev.Ty
open Go Ev
open Enc (enc)
open Sm (sm)
set_option linter.unusedSimpArgs false
set_option linter.unusedVariables false
section
variable {l:List Symbol} {o:List Int} (ok:SigOk ⟨l⟩) (hol:o.length≤1048576) (ho:∀ n:Int,0≤n→n < l.length→n∈o)
include ok hol ho
end
end Ev.Ty
end
section
namespace Ev.Ty
section
variable {α:Type} {lt:α→α→Bool} {S:α→Prop}
variable (h1:∀ a b c,S a→S b→S c→lt a b=true→lt b c=true→lt a c=true) (h2:∀ a b c,S a→S b→S c→lt a b=true→lt c b=false→lt a c=true) (h3:∀ a b,S a→S b→lt a b=true→lt b a=false)
include h1 h2 h3
variable (h4:∀ a b,S a→S b→a=b∨lt a b=true∨lt b a=true)
include h4
end
end Ev.Ty
end
section
namespace Ev.Ty
open Go Ev
open Enc (enc)
open Sm (sm)
set_option linter.unusedSimpArgs false
set_option linter.unusedVariables false
set_option maxHeartbeats 1000000
theorem laws_lwNums (a b:List Int) (ha:a.length≤4294967296):Call F.laws_lwNums [slc a,slc b] (.bool (decide (a=b))):=by
 refine call_of rfl (a.length+1) ((laws_lwNums.ev _ _ _).trans ?_)
 by_cases hl:a.length=b.length
 · have hl':((a.length:Nat):Int)=((b.length:Nat):Int):=by omega
   have key:∀ (d k f:Nat),k+d=a.length→d < f→laws_lwNums.at0 (a.length+1) f (laws_lwNums.st0 (cells a) (cells b) (k:Nat))=some (.bool (decide (a.drop k=b.drop k)),[]):=by
    intro d
    induction d with
    | zero =>
      intro k f hk hf
      obtain ⟨f,rfl⟩:∃ g,f=g+1:=⟨f - 1,by omega⟩
      have h1:¬ k < a.length:=by omega
      have e:a.drop k=b.drop k:=by rw [List.drop_eq_nil_of_le (by omega),List.drop_eq_nil_of_le (by omega)]
      simp only [laws_lwNums.next0,laws_lwNums.round0,evz,Nat.reduceLT,h1,e,decide_true]
    | succ d ih =>
      intro k f hk hf
      obtain ⟨f,rfl⟩:∃ g,f=g+1:=⟨f - 1,by omega⟩
      have h1:k < a.length:=by omega
      have h2:k < b.length:=by omega
      have i1:a[k]?=some a[k]:=List.getElem?_eq_getElem h1
      have i2:b[k]?=some b[k]:=List.getElem?_eq_getElem h2
      simp only [laws_lwNums.next0,laws_lwNums.round0,evz,Nat.reduceLT,h1,h2,i1,i2,enc_int]
      rw [List.drop_eq_getElem_cons h1,List.drop_eq_getElem_cons h2]
      by_cases e:a[k]=b[k]
      · simp only [e,evz,Nat.reduceLT,wrap_succ (by omega:k < 9223372036854775807),ih (k+1) f (by omega) (by omega),List.cons.injEq,true_and,bne_self_eq_false]
      · rw [decide_eq_false (fun h=>e (List.cons.inj h).1)]
        simp [e]
   have:=key a.length 0 (a.length+1) (by omega) (by omega)
   simp only [evz,Nat.reduceLT,hl',bne_self_eq_false]
   refine this.trans ?_
   rw [List.drop_zero,List.drop_zero]
 · have hl':¬ ((a.length:Nat):Int)=((b.length:Nat):Int):=by omega
   have hne:¬ a=b:=fun e=>hl (by rw [e])
   simp only [evz,Nat.reduceLT,hl',hne,ne_eq,not_false_eq_true,decide_true,decide_false]
theorem termFault_0 {l:List Symbol} (h:sigFault ⟨l⟩=0) (t:List Int):termFault ⟨l⟩ t=termFault0 l t:=by
 unfold termFault; rw [if_neg (by simpa using h)]
section
variable {l:List Symbol} {o:List Int} (ok:SigOk ⟨l⟩) (hol:o.length≤1048576) (ho:∀ n:Int,0≤n→n < l.length→n∈o)
include ok hol ho
end
section
variable {l:List Symbol} {o:List Int} (ok:SigOk ⟨l⟩) (hol:o.length≤1048576) (ho:∀ n:Int,0≤n→n < l.length→n∈o)
include ok hol ho
end
end Ev.Ty
end
section
namespace Ev.Ty
open Go Ev
open Enc (enc)
open Sm (sm)
set_option linter.unusedSimpArgs false
set_option linter.unusedVariables false
def Free (b:Bnd) (t:List Int):Prop:=∀ n∈t,(-1 - n)∉b.1
theorem bindOf_notMem {vs:List Int} {ts:List (List Int)} {v:Int} (h:v∉vs):bindOf vs ts v=none:=by
 unfold bindOf
 rcases idx_spec (fun x:Int=>decide (x=v)) vs with ⟨h1,_⟩ | ⟨i,hi,h1,hy,_⟩
 · rw [if_pos (by omega)]
 · have:vs[i]=v:=by simpa using hy
   exact absurd (this ▸ List.getElem_mem hi) h
theorem applied_free {b:Bnd}:∀ {t:List Int},Free b t→applied b.1 b.2 t=t
 | [],_=>rfl
 | n::t,h=>by
   have ih:=applied_free (b:=b) (t:=t) fun m hm=>h m (List.mem_cons_of_mem _ hm)
   have e:applied b.1 b.2 (n::t)=(bindOf b.1 b.2 (-1 - n)).getD [n]++applied b.1 b.2 t:=by simp [applied]
   rw [e,bindOf_notMem (h n (by simp)),ih]; rfl
theorem applied_nodes {vs:List Int} {ts:List (List Int)} {P:Int→Prop} (ht:∀ x∈ts,∀ n∈x,P n) {t:List Int} (h:∀ n∈t,bindOf vs ts (-1 - n)=none→P n):∀ n∈applied vs ts t,P n:=fun n hn=>by
 unfold applied at hn
 obtain ⟨m,hm,hn⟩:=List.mem_flatMap.1 hn
 cases ho:bindOf vs ts (-1 - m) with
 | none=>rw [ho] at hn; rw [List.mem_singleton.1 hn]; exact h m hm ho
 | some o=>rw [ho] at hn; exact ht o (bindOf_mem ho) n hn
structure UB (l:List Symbol) (b:Bnd):Prop where
 mb:MB l b 12
 nd:b.1.Nodup
 free:∀ t∈b.2,Free b t
theorem UB.nil (l:List Symbol):UB l ([],[]):=⟨(MB.nil l).up (by omega),List.nodup_nil,by simp⟩
theorem UB.le {l:List Symbol} {b:Bnd} (h:UB l b):b.1.length≤12:=h.mb.le
theorem UB.applied_free {l:List Symbol} {b:Bnd} (h:UB l b) (t:List Int):Free b (applied b.1 b.2 t):=applied_nodes h.free fun n _ hn=>bindOf_none h.mb.len hn
theorem UB.applied_ok {l:List Symbol} {b:Bnd} (h:UB l b) {t:List Int} (ht:TermOk l t) (hl:(applied b.1 b.2 t).length≤24):TermOk l (applied b.1 b.2 t):=by
 have hs:=skip_applied h.mb (by omega) t [] 1 ht.skip
 rw [List.append_nil] at hs
 refine ⟨?_,hl,applied_node h.mb ht.node,hs⟩
 rcases Nat.eq_zero_or_pos (applied b.1 b.2 t).length with h0 | h0
 · rw [List.eq_nil_of_length_eq_zero h0] at hs; cases hs
 · exact h0
def one (v:Int) (t:List Int):Bnd:=([v],[t])
abbrev Pr:=Equation
def argsOf (l:List Symbol) (x y:List Int):List Pr:=((starts l x 0).zip (starts l y 0)).map fun p=>⟨subAt l x p.1,subAt l y p.2⟩
def psize (b:Bnd) (ps:List Pr):Nat:=(ps.map fun p=>(applied b.1 b.2 p.left).length+(applied b.1 b.2 p.right).length).sum
theorem sum_starts {l:List Symbol} {t:List Int} (ht:TermOk l t):∀ {n p:Nat} {r:List Int},skip (ar l) n (t.drop p)=some r→((startsN l t n p).map fun q=>(subAt l t q).length).sum+r.length=t.length - p
 | 0,p,r,h=>by
   rw [skip_zero] at h
   rw [← Option.some.inj h]
   simp [startsN]
 | n+1,p,r,h=>by
   obtain ⟨h1,h2,h3,h4⟩:=skip_one h
   have ih:=sum_starts ht h2
   have hs:=(sub_split ht h1).2.1
   rw [startsN,List.map_cons,List.sum_cons]
   omega
theorem sum_args {l:List Symbol} {t:List Int} (ht:TermOk l t):((starts l t 0).map fun q=>(subAt l t q).length).sum+1=t.length:=by
 have hp:=ht.pos
 obtain ⟨r,hr⟩:=args_skip ht (p:=0) (by omega)
 have hd:t.getD 0 0=t[0]:=getD_at (by omega)
 have h:=sum_starts ht hr
 have hw:=ht.skip
 have e:t=t[0]::t.drop 1:=by
  have:=List.drop_eq_getElem_cons (l:=t) (i:=0) (by omega)
  rwa [List.drop_zero] at this
 rw [e,skip,Nat.zero_add] at hw
 rw [Nat.zero_add,hw] at hr
 have:r=[]:=(Option.some.inj hr).symm
 subst this
 unfold starts
 rw [hd]
 simp at h ⊢
 omega
theorem zip_sum {α β:Type} (f:α→Nat) (g:β→Nat):∀ (A:List α) (B:List β),A.length=B.length→((A.zip B).map fun p=>f p.1+g p.2).sum=(A.map f).sum+(B.map g).sum
 | [],[],_=>rfl
 | a::A,b::B,h=>by
   have ih:=zip_sum f g A B (by simpa using h)
   simp only [List.zip_cons_cons,List.map_cons,List.sum_cons] at ih ⊢
   omega
 | [],_::_,h=>by simp at h
 | _::_,[],h=>by simp at h
theorem subAt_sub {l:List Symbol} {t:List Int} {p:Nat}:∀ n∈subAt l t p,n∈t:=fun n hn=>List.mem_of_mem_take (List.mem_of_mem_drop hn)
theorem args_size {l:List Symbol} {b:Bnd} {x y:List Int} (hx:TermOk l x) (hy:TermOk l y) (fx:Free b x) (fy:Free b y) (he:x.getD 0 0=y.getD 0 0):psize b (argsOf l x y)+2=x.length+y.length:=by
 have e:(argsOf l x y).map (fun p=>(applied b.1 b.2 p.left).length+(applied b.1 b.2 p.right).length)=((starts l x 0).zip (starts l y 0)).map fun p=>(subAt l x p.1).length+(subAt l y p.2).length:=by
  unfold argsOf
  rw [List.map_map]
  refine List.map_congr_left fun p hp => ?_
  show (applied b.1 b.2 (subAt l x p.1)).length+(applied b.1 b.2 (subAt l y p.2)).length=_
  rw [applied_free fun n hn=>fx n (subAt_sub n hn),applied_free fun n hn=>fy n (subAt_sub n hn)]
 have hl:(starts l x 0).length=(starts l y 0).length:=by unfold starts; rw [startsN_length,startsN_length,he]
 unfold psize
 rw [e,zip_sum (fun p=>(subAt l x p).length) (fun q=>(subAt l y q).length) _ _ hl]
 have:=sum_args hx
 have:=sum_args hy
 omega
end Ev.Ty
end
section
namespace Ev.Ty
open Go Ev
open Enc (enc)
open Sm (sm)
set_option linter.unusedSimpArgs false
set_option linter.unusedVariables false
theorem applied_ge {b:Bnd} {l:List Symbol} {k:Nat} (hb:MB l b k):∀ t:List Int,t.length≤(applied b.1 b.2 t).length
 | []=>by simp [applied]
 | n::t=>by
   have ih:=applied_ge hb t
   have e:applied b.1 b.2 (n::t)=(bindOf b.1 b.2 (-1 - n)).getD [n]++applied b.1 b.2 t:=by simp [applied]
   rw [e,List.length_append,List.length_cons]
   cases ho:bindOf b.1 b.2 (-1 - n) with
   | none=>simp; omega
   | some o =>
     have:=(hb.tm o (bindOf_mem ho)).pos
     simp; omega
end Ev.Ty
end
section
namespace Ev.Ty
open Go Ev
open Enc (enc)
open Sm (sm)
set_option linter.unusedSimpArgs false
set_option linter.unusedVariables false
def StackOk (b:Bnd) (ps:List Pr):Prop:=∃ new old:List Pr,ps=new++old∧psize b new≤46∧old.length≤24*b.1.length+1
theorem psize_len {l:List Symbol} {b:Bnd} (hb:UB l b):∀ {ps:List Pr},(∀ p∈ps,TermOk l p.left∧TermOk l p.right)→2*ps.length≤psize b ps
 | [],_=>by simp [psize]
 | p::ps,h=>by
   have ih:=psize_len hb (ps:=ps) fun q hq=>h q (List.mem_cons_of_mem _ hq)
   have hp:=h p (by simp)
   have h1:=applied_ge hb.mb p.left
   have h2:=applied_ge hb.mb p.right
   have:=hp.1.pos
   have:=hp.2.pos
   simp only [psize,List.map_cons,List.sum_cons,List.length_cons] at ih ⊢
   omega
theorem StackOk.len {l:List Symbol} {b:Bnd} (hb:UB l b) {ps:List Pr} (hps:∀ p∈ps,TermOk l p.left∧TermOk l p.right) (h:StackOk b ps):ps.length≤400:=by
 obtain ⟨new,old,rfl,h1,h2⟩:=h
 have:=psize_len hb (ps:=new) fun q hq=>hps q (List.mem_append_left _ hq)
 have:=hb.le
 rw [List.length_append]
 omega
theorem psize_cons (b:Bnd) (p:Pr) (ps:List Pr):psize b (p::ps)=(applied b.1 b.2 p.left).length+(applied b.1 b.2 p.right).length+psize b ps:=by simp [psize]
theorem psize_append (b:Bnd) (ps qs:List Pr):psize b (ps++qs)=psize b ps+psize b qs:=by simp [psize]
theorem StackOk.tail {b:Bnd} {p:Pr} {ps:List Pr} (h:StackOk b (p::ps)):StackOk b ps:=by
 obtain ⟨new,old,e,h1,h2⟩:=h
 cases new with
 | nil =>
   rw [List.nil_append] at e
   subst e
   exact ⟨[],ps,rfl,by simp [psize],by simp at h2; omega⟩
 | cons q new =>
   rw [List.cons_append] at e
   injection e with e1 e2
   rw [psize_cons] at h1
   exact ⟨new,old,e2,by omega,h2⟩
theorem StackOk.bind {l:List Symbol} {b b':Bnd} (hb:UB l b) {p:Pr} {ps:List Pr} (hps:∀ q∈p::ps,TermOk l q.left∧TermOk l q.right) (h:StackOk b (p::ps)) (hl:b'.1.length=b.1.length+1):StackOk b' ps:=by
 obtain ⟨new,old,e,h1,h2⟩:=h.tail
 have:=psize_len hb (ps:=new) fun q hq=>hps q (List.mem_cons_of_mem _ (e ▸ List.mem_append_left _ hq))
 exact ⟨[],ps,rfl,by simp [psize],by rw [e,List.length_append]; omega⟩
theorem StackOk.args {b:Bnd} {p:Pr} {ps qs:List Pr} (h:StackOk b (p::ps)) (hq:psize b qs+2=(applied b.1 b.2 p.left).length+(applied b.1 b.2 p.right).length) (h1:(applied b.1 b.2 p.left).length≤24) (h2:(applied b.1 b.2 p.right).length≤24):StackOk b (qs++ps):=by
 obtain ⟨new,old,e,h3,h4⟩:=h
 cases new with
 | nil =>
   rw [List.nil_append] at e
   subst e
   exact ⟨qs,ps,rfl,by omega,by simp at h4; omega⟩
 | cons q new =>
   rw [List.cons_append] at e
   injection e with e1 e2
   subst e1
   rw [psize_cons] at h3
   exact ⟨qs++new,old,by rw [e2,List.append_assoc],by rw [psize_append]; omega,h4⟩
section
variable {l:List Symbol} (ok:SigOk ⟨l⟩)
include ok
end
end Ev.Ty
end
section
namespace Ev.Ty
open Go Ev
open Enc (enc)
open Sm (sm)
set_option linter.unusedSimpArgs false
set_option linter.unusedVariables false
section
variable {l:List Symbol} (ok:SigOk ⟨l⟩)
include ok
end
end Ev.Ty
end
section
namespace Ev.Ty
open Go Ev
open Enc (enc)
open Sm (sm)
set_option linter.unusedSimpArgs false
set_option linter.unusedVariables false
end Ev.Ty
end
section
namespace Ev.Ty
open Go Ev
open Enc (enc)
open Sm (sm)
set_option linter.unusedSimpArgs false
set_option linter.unusedVariables false
section
variable {l:List Symbol} (ok:SigOk ⟨l⟩)
include ok
end
end Ev.Ty
end
section
namespace Ev.Ty
open Go Ev
open Enc (enc)
open Sm (sm)
set_option linter.unusedSimpArgs false
set_option linter.unusedVariables false
section
variable {l:List Symbol} (ok:SigOk ⟨l⟩)
include ok
end
end Ev.Ty
end
section
namespace Ev.Ty
open Go Ev
open Enc (enc)
open Sm (sm)
set_option linter.unusedSimpArgs false
set_option linter.unusedVariables false
section
variable {l:List Symbol} (ok:SigOk ⟨l⟩) {rs:List Equation} (hr:∀ e∈rs,EqOk l e) (hl:rs.length≤12)
include ok hr hl
end
end Ev.Ty
end
section
namespace Ev.Ty
open Go Ev
open Enc (enc)
open Sm (sm)
set_option linter.unusedSimpArgs false
set_option linter.unusedVariables false
section
variable {l:List Symbol} {rs:List Equation} (hrf:rulesFault ⟨l⟩ rs=0) (hls:sm 1048576 (Signature.mk l)) (hrs:sm 1048576 rs) {fuel:Nat} (hf:fuel≤200)
include hrf hls hrs hf
end
end Ev.Ty
end
section
namespace Ev.Ty
open Go Ev
open Enc (enc)
open Sm (sm)
set_option linter.unusedSimpArgs false
set_option linter.unusedVariables false
def two (e:Entry):Bool:=decide (e.kind=4)||decide (e.kind=5)
structure NumsOk (eqn enn:Nat) (e:Entry):Prop where
 kind:e.kind=1∨e.kind=2∨e.kind=3∨e.kind=4∨e.kind=5
 a0:0≤e.a
 given:e.kind=1→e.a.toNat < eqn
 other:e.kind≠1→e.a.toNat < enn
 b:e.kind=4∨e.kind=5→0≤e.b∧e.b.toNat < enn
 side:e.side=0∨(e.kind=4∧e.side=1)
 zero:e.kind≠4→e.kind≠5→e.b=0∧e.place=0
theorem nodup_sub:∀ {s t:List Int},s.Nodup→s ⊆ t→s.length≤t.length
 | [],t,_,_=>Nat.zero_le _
 | x::s,t,h,hs=>by
   have hx:x∈t:=hs (by simp)
   rw [List.nodup_cons] at h
   have h1:s ⊆ t.erase x:=fun y hy=>by
    refine (List.mem_erase_of_ne (fun (e:y=x)=>h.1 (by rw [← e]; exact hy))).2 (hs (List.mem_cons_of_mem _ hy))
   have h2:=nodup_sub h.2 h1
   rw [List.length_erase_of_mem hx] at h2
   have:=List.length_pos_of_mem hx
   rw [List.length_cons]
   omega
theorem six {s:List Int} (h1:s.Nodup) (h2:∀ m∈s,-6≤m∧m < 0):s.length≤6:=by
 have:s ⊆ [-6,-5,-4,-3,-2,-1]:=fun m hm=>by
  have:=h2 m hm
  simp only [List.mem_cons,List.not_mem_nil,or_false]
  omega
 exact nodup_sub h1 this
end Ev.Ty
end
section
namespace Ev.Ty
open Go Ev
open Enc (enc)
open Sm (sm)
set_option linter.unusedSimpArgs false
set_option linter.unusedVariables false
theorem EqOk.small {l:List Symbol} {e:Equation} (h:EqOk l e):sm 1048576 e:=⟨⟨by have:=h.left.le; omega,fun _ _=>trivial⟩,⟨by have:=h.right.le; omega,fun _ _=>trivial⟩⟩
section
variable {l:List Symbol} (ok:SigOk ⟨l⟩) (hs:sm 1048576 (Signature.mk l)) {eqs:List Equation} {ents:List Entry} (hq:∀ x∈eqs,EqOk l x) (he:∀ x∈ents,EqOk l (eqOf x)) (hql:eqs.length≤12) (hel:ents.length≤500)
include ok hs hq he hql hel
end
section
variable {l:List Symbol} (ok:SigOk ⟨l⟩) (hs:sm 1048576 (Signature.mk l)) {eqs:List Equation} (hq:∀ x∈eqs,EqOk l x) (hql:eqs.length≤12) {ents:List Entry} (hel:ents.length≤500)
include ok hs hq hql hel
end
end Ev.Ty
end
section
namespace Ev.Ty
open Go Ev
open Enc (enc)
open Sm (sm)
set_option linter.unusedSimpArgs false
set_option linter.unusedVariables false
section
variable {l:List Symbol} (ok:SigOk ⟨l⟩) (hs:sm 1048576 (Signature.mk l)) {eqs:List Equation} (hqs:sm 1048576 eqs) (hq:∀ x∈eqs,EqOk l x) (hql:eqs.length≤12) {o:List Int} (ho:sm 1048576 o)
include ok hs hqs hq hql ho
end
end Ev.Ty
end
section
namespace Ev.Ty
open Go Ev
open Enc (enc)
open Sm (sm)
set_option linter.unusedSimpArgs false
set_option linter.unusedVariables false
set_option maxHeartbeats 2000000
set_option maxRecDepth 10000
def EqS (n:Nat) (es:List Equation):Prop:=es.length≤n∧∀ e∈es,e.left.length≤1001∧e.right.length≤1001
theorem EqS.sm {n:Nat} {es:List Equation} (h:EqS n es) (hn:n≤1001):Sm.sm 1048576 es:=⟨by have:=h.1; omega,fun e he=>⟨⟨by have:=(h.2 e he).1; omega,fun _ _=>trivial⟩,⟨by have:=(h.2 e he).2; omega,fun _ _=>trivial⟩⟩⟩
theorem EqS.snoc {n:Nat} {es:List Equation} (h:EqS n es) {a b:List Int} (ha:a.length≤1001) (hb:b.length≤1001):EqS (n+1) (es++[⟨a,b⟩]):=⟨by have:=h.1; simp; omega,fun e he=>by
 rcases List.mem_append.1 he with h1 | h1
 · exact h.2 e h1
 · rw [List.mem_singleton.1 h1]; exact ⟨ha,hb⟩⟩
theorem cells_eq (es:List Equation) (a b:List Int):cells es++[slc a,slc b]=cells (es++[⟨a,b⟩]):=by rw [cells_append]; rfl
section
variable {code:List UInt8} (hc:code.length≤2097152)
include hc
end
end Ev.Ty
end
section
namespace Ev.Ty
open Go Ev
open Enc (enc)
open Sm (sm)
set_option linter.unusedSimpArgs false
set_option linter.unusedVariables false
set_option maxHeartbeats 4000000
set_option maxRecDepth 10000
section
variable {code:List UInt8} (hc:code.length≤2097152)
include hc
end
end Ev.Ty
end
section
namespace Ev.Ty
open Go Ev
open Enc (enc)
open Sm (sm)
set_option linter.unusedSimpArgs false
set_option linter.unusedVariables false
set_option maxHeartbeats 4000000
set_option maxRecDepth 10000
theorem spec_l1Has (vs:List Int) (v:Int) (hl:vs.length≤4294967296):Call F.spec_l1Has [slc vs,.int .i64 v] (.bool (decide (v∈vs))):=by
 refine call_of rfl (vs.length+1) ((spec_l1Has.ev _ _ _).trans ?_)
 have key:∀ (d k f:Nat),k+d=vs.length→d < f→spec_l1Has.at0 (vs.length+1) f (spec_l1Has.st0 (cells vs) v (k:Nat))=some (.bool (decide (v∈vs.drop k)),[]):=by
  intro d
  induction d with
  | zero =>
    intro k f hk hf
    obtain ⟨f,rfl⟩:∃ g,f=g+1:=⟨f - 1,by omega⟩
    have h1:¬ k < vs.length:=by omega
    have e:vs.drop k=[]:=List.drop_eq_nil_of_le (by omega)
    simp only [spec_l1Has.next0,spec_l1Has.round0,evz,Nat.reduceLT,h1,e,List.not_mem_nil,decide_false]
  | succ d ih =>
    intro k f hk hf
    obtain ⟨f,rfl⟩:∃ g,f=g+1:=⟨f - 1,by omega⟩
    have h1:k < vs.length:=by omega
    have i1:vs[k]?=some vs[k]:=List.getElem?_eq_getElem h1
    have ih:=ih (k+1) f (by omega) (by omega)
    rw [List.drop_eq_getElem_cons h1]
    by_cases e:vs[k]=v
    · simp only [spec_l1Has.next0,spec_l1Has.round0,evz,Nat.reduceLT,h1,i1,enc_int,e,List.mem_cons,true_or,decide_true]
    · have e2:¬ v=vs[k]:=fun h=>e h.symm
      simp only [spec_l1Has.next0,spec_l1Has.round0,evz,Nat.reduceLT,h1,i1,enc_int,e,List.mem_cons,e2,false_or]
      rw [wrap_succ (by omega)]
      exact ih
 have:=key vs.length 0 (vs.length+1) (by omega) (by omega)
 rw [List.drop_zero] at this
 exact this
structure BindM (vs:List Int) (ts:List (List Int)):Prop where
 vlen:vs.length≤40
 tlen:ts.length≤40
 size:∀ t∈ts,t.length≤1001
theorem BindS.m {vs:List Int} {ts:List (List Int)} (h:BindS vs ts):BindM vs ts:=⟨by have:=h.vlen; omega,by have:=h.tlen; omega,h.size⟩
section
variable {code:List UInt8} (hc:code.length≤2097152)
include hc
theorem spec_l5DrawList {l:List Symbol} (ok:SigOk ⟨l⟩) (p n:Int) (hn:0≤n∧n≤12) (hp:0≤p∧p≤1099400000000) :
 Drawn code p 100000 (fun x=>∃ es,x=slc es∧EqS n.toNat es) (LIM F.spec_l5DrawList [.rref [slc code,.int .i64 p] 0,.rref [slc l] 0,.int .i64 n]):=by
 refine drawn_of rfl 20 ?_
 rw [show callK prog A H LIM 20 F.spec_l5DrawList [.rref [slc code,.int .i64 p] 0,.rref [slc l] 0,.int .i64 n]=_ from spec_l5DrawList.ev _ _ _ _ _]
 rw [show IntKind.wrap .i64 (n+1)=n+1 from wrap64 (by omega)]
 refine next_s hc (by omega) fun v h1 h2 => ?_
 have h2:=h2 (by omega)
 simp only [evz,Nat.reduceLT]
 refine draw_loop (σ:=Int × Int × List Equation) (S:=fun m s=>spec_l5DrawList.at0 20 m (spec_l5DrawList.st0 (cells l) s.1 (cells code) s.2.1 (cells s.2.2))) (fun s=>0≤s.1∧s.1≤n∧p≤s.2.1∧s.2.1≤p+1+(n - s.1)*6300∧EqS (n - s.1).toNat s.2.2) (fun s=>s.1.toNat) (fun m s hs => ?_) _ (v,p+1,[]) ⟨h1,by simp only; omega,by simp only; omega,by simp only; omega,⟨by simp,by simp⟩⟩ (by simp only; omega)
 obtain ⟨k,q,es⟩:=s
 obtain ⟨g1,g2,g3,g4,g5⟩:=hs
 simp only at g1 g2 g3 g4 g5 ⊢
 have hes:=g5.1
 by_cases hk:k > 0
 case neg =>
  left
  simp only [spec_l5DrawList.next0,spec_l5DrawList.round0,evz,Nat.reduceLT,hk]
  exact drawn_end (by omega) ⟨es,rfl,by omega,g5.2⟩
 right
 have wk:IntKind.wrap .i64 (k - 1)=k - 1:=wrap64 (by omega)
 obtain ⟨_,q2,e1,c1,c2,a,b,rfl,heq⟩:=spec_l4Draw hc ok q (by omega)
 have hal:=heq.left.le
 have hbl:=heq.right.le
 simp only at hal hbl
 refine ⟨(k - 1,q2,es++[⟨a,b⟩]),?_,⟨by simp only; omega,by simp only; omega,by simp only; omega,by simp only; omega,?_⟩,by simp only; omega⟩
 · simp only [spec_l5DrawList.next0,spec_l5DrawList.round0,evz,Nat.reduceLT,hk,wk,e1]
   rw [cond_pos (ble_ok (by rw [cells_length]; simp only [sz_Equation]; omega)),cells_eq]
 · have:=g5.snoc (a:=a) (b:=b) (by omega) (by omega)
   exact ⟨by have:=this.1; simp only; omega,this.2⟩
theorem spec_l5BentList {l:List Symbol} (hl:l.length≤1000) (p:Int) (hp:0≤p∧p≤1099300000000) :
 Drawn code p 200000 (fun x=>∃ es,x=slc es∧EqS 13 es) (LIM F.spec_l5BentList [.rref [slc code,.int .i64 p] 0,.rref [slc l] 0]):=by
 refine drawn_of rfl 20 ?_
 rw [show callK prog A H LIM 20 F.spec_l5BentList [.rref [slc code,.int .i64 p] 0,.rref [slc l] 0]=_ from spec_l5BentList.ev _ _ _ _]
 simp only [evz,Nat.reduceLT,(spec_SignatureFault l (by omega)).eq]
 by_cases h0:sigFault ⟨l⟩=0
 case neg =>
  simp only [h0,evz,Nat.reduceLT,ne_eq,not_false_eq_true]
  exact drawn_end (by omega) ⟨[],rfl,by simp,by simp⟩
 have ok:=sigOk_of h0
 simp only [h0,evz,Nat.reduceLT,ne_eq,not_true_eq_false]
 refine chance_s hc (by omega) fun b => ?_
 simp only [evz,Nat.reduceLT]
 cases b with
 | false =>
   simp only [evz,Nat.reduceLT]
   refine drawn_s (spec_l5DrawList hc ok _ 4 (by omega) (by omega)) ?_
   rintro _ p1 a1 b1 ⟨es,rfl,hes⟩
   have hes:EqS 4 es:=hes
   have hel:=hes.1
   simp only [evz,Nat.reduceLT]
   refine chance_s hc (by omega) fun b => ?_
   simp only [evz,Nat.reduceLT]
   cases b with
   | false=>simp only [evz,Nat.reduceLT]; exact drawn_end (by omega) ⟨es,rfl,by omega,hes.2⟩
   | true =>
     simp only [evz,Nat.reduceLT]
     refine drawn_s (spec_l4BentEquation hc (l:=l) hl _ (by omega)) ?_
     rintro _ p2 a2 b2 ⟨a,b,rfl,ha,hb⟩
     simp only [evz,Nat.reduceLT]
     rw [cond_pos (ble_ok (by rw [cells_length]; simp only [sz_Equation]; omega)),cells_eq]
     have:=hes.snoc ha hb
     exact drawn_end (by omega) ⟨_,rfl,by have:=this.1; omega,this.2⟩
 | true =>
   simp only [evz,Nat.reduceLT]
   refine pick_s hc [12,13] rfl (by simp) (by omega) fun v hv => ?_
   have hv':12≤v∧v≤13:=by
    simp only [List.mem_cons,List.not_mem_nil,or_false] at hv; omega
   simp only [evz,Nat.reduceLT]
   refine draw_loop (σ:=Int × Int × List Equation) (S:=fun m s=>spec_l5BentList.at0 20 m (spec_l5BentList.st0 (cells l) s.1 (cells code) s.2.1 (cells s.2.2))) (fun s=>0≤s.1∧s.1≤13∧p≤s.2.1∧s.2.1≤p+2+(13 - s.1)*6300∧EqS (13 - s.1).toNat s.2.2) (fun s=>s.1.toNat) (fun m s hs => ?_) _ (v,p+1+1,[]) ⟨by simp only; omega,by simp only; omega,by simp only; omega,by simp only; omega,⟨by simp,by simp⟩⟩ (by simp only; omega)
   obtain ⟨k,q,es⟩:=s
   obtain ⟨g1,g2,g3,g4,g5⟩:=hs
   simp only at g1 g2 g3 g4 g5 ⊢
   have hes:=g5.1
   by_cases hk:k > 0
   case neg =>
    left
    simp only [spec_l5BentList.next0,spec_l5BentList.round0,evz,Nat.reduceLT,hk]
    exact drawn_end (by omega) ⟨es,rfl,by omega,g5.2⟩
   right
   have wk:IntKind.wrap .i64 (k - 1)=k - 1:=wrap64 (by omega)
   obtain ⟨_,q2,e1,c1,c2,a,b,rfl,heq⟩:=spec_l4Draw hc ok q (by omega)
   have hal:=heq.left.le
   have hbl:=heq.right.le
   simp only at hal hbl
   refine ⟨(k - 1,q2,es++[⟨a,b⟩]),?_,⟨by simp only; omega,by simp only; omega,by simp only; omega,by simp only; omega,?_⟩,by simp only; omega⟩
   · simp only [spec_l5BentList.next0,spec_l5BentList.round0,evz,Nat.reduceLT,hk,wk,e1]
     rw [cond_pos (ble_ok (by rw [cells_length]; simp only [sz_Equation]; omega)),cells_eq]
   · have:=g5.snoc (a:=a) (b:=b) (by omega) (by omega)
     exact ⟨by have:=this.1; simp only; omega,this.2⟩
theorem spec_l13Fill {l:List Symbol} (ok:SigOk ⟨l⟩) (p:Int) (hp:0≤p∧p≤1099400000000) (vs:List Int) (ts:List (List Int)) (hlen:vs.length=ts.length) (hv:vs.length≤24) (ht:∀ t∈ts,t.length≤1001) :
 Drawn code p 13000 (fun x=>∃ vs ts,x = .agg [slc vs,slc ts]∧BindM vs ts) (LIM F.spec_l13Fill [.rref [slc code,.int .i64 p] 0,.rref [slc l] 0,.agg [slc vs,slc ts]]):=by
 refine drawn_of rfl 10 ?_
 rw [show callK prog A H LIM 10 F.spec_l13Fill [.rref [slc code,.int .i64 p] 0,.rref [slc l] 0,.agg [slc vs,slc ts]]=_ from spec_l13Fill.ev _ _ _ _ _ _]
 refine draw_loop (σ:=Int × Int × List Int × List (List Int)) (S:=fun m s=>spec_l13Fill.at0 10 m (spec_l13Fill.st0 (cells l) s.1 (cells code) s.2.1 (cells s.2.2.1) (cells s.2.2.2))) (fun s=>0≤s.1∧s.1≤4∧p≤s.2.1∧s.2.1≤p+s.1*3100∧(s.2.2.1.length:Int)≤24+s.1∧s.2.2.1.length=s.2.2.2.length∧∀ t∈s.2.2.2,t.length≤1001) (fun s=>(4 - s.1).toNat) (fun m s hs => ?_) _ (0,p,vs,ts) ⟨by simp only; omega,by simp only; omega,by simp only; omega,by simp only; omega,by simp only; omega,hlen,ht⟩ (by simp only; omega)
 obtain ⟨k,q,vs,ts⟩:=s
 obtain ⟨g1,g2,g3,g4,g5,g6,g7⟩:=hs
 simp only at g1 g2 g3 g4 g5 g6 g7 ⊢
 by_cases hk:k < 4
 case neg =>
  left
  simp only [spec_l13Fill.next0,spec_l13Fill.round0,evz,Nat.reduceLT,hk]
  exact drawn_end (by omega) ⟨vs,ts,rfl,⟨by omega,by omega,g7⟩⟩
 right
 have wk:IntKind.wrap .i64 (k+1)=k+1:=wrap64 (by omega)
 have eh:=(spec_l1Has vs k (by omega)).eq
 by_cases hm:k∈vs
 · refine ⟨(k+1,q,vs,ts),?_,⟨by simp only; omega,by simp only; omega,by simp only; omega,by simp only; omega,by simp only; omega,g6,g7⟩,by simp only; omega⟩
   simp only [spec_l13Fill.next0,spec_l13Fill.round0,evz,Nat.reduceLT,hk,eh,hm,decide_true,Bool.not_true,wk]
 · obtain ⟨v,hv,ep⟩:=spec_l1Pick hc q [1,1,2] (ts:=[.int .i64 1,.int .i64 1,.int .i64 2]) rfl (by simp) (by omega)
   have hv':1≤v∧v≤2:=by
    simp only [List.mem_cons,List.not_mem_nil,or_false] at hv; omega
   obtain ⟨_,q2,et,c1,c2,t,rfl,htg⟩:=spec_l3Draw hc ok (q+1) v 0 (by omega) (by omega) (by omega)
   have htl:=htg.le
   have ew:=(spec_l6With vs ts k t g6 (by omega) (by omega) hm (fun x hx=>by have:=g7 x hx; omega)).eq
   have hi:=insAt_le vs k
   have l1:(bput (vs,ts) k t).1.length=vs.length+1:=ins_length _ _ _ hi
   have l2:(bput (vs,ts) k t).2.length=ts.length+1:=ins_length _ _ _ (by show insAt vs k≤ts.length; omega)
   refine ⟨(k+1,q2,(bput (vs,ts) k t).1,(bput (vs,ts) k t).2),?_,⟨by simp only; omega,by simp only; omega,by simp only; omega,by simp only; omega,by simp only; omega,by simp only; omega,fun x hx => ?_⟩,by simp only; omega⟩
   · simp only [spec_l13Fill.next0,spec_l13Fill.round0,evz,Nat.reduceLT,hk,eh,hm,decide_false,Bool.not_false,wk,ep,et,ew]
   · rcases mem_ins hx with rfl | h
     · omega
     · exact g7 x h
theorem spec_l13Walk {l:List Symbol} (ok:SigOk ⟨l⟩) (p:Int) (hp:0≤p∧p≤1099300000000) {es:List Equation} (hes:∀ e∈es,EqOk l e) (hn:es.length≤12) {t:List Int} (ht:TermOk l t) :
 Drawn code p 14000 (fun x=>∃ (n:Int) (back:Bool) (vs:List Int) (ts:List (List Int)) (pl:Int),x = .tup [.int .i64 n,.bool back,.agg [slc vs,slc ts],.int .i64 pl]∧BindM vs ts) (LIM F.spec_l13Walk [.rref [slc code,.int .i64 p] 0,.rref [slc l] 0,slc es,slc t]):=by
 have htl:=ht.le
 have htp:=ht.pos
 refine drawn_of rfl 600 ?_
 rw [show callK prog A H LIM 600 F.spec_l13Walk [.rref [slc code,.int .i64 p] 0,.rref [slc l] 0,slc es,slc t]=_ from spec_l13Walk.ev _ _ _ _ _ _]
 have leaf:∀ (n:Int) (back:Bool) (vs:List Int) (ts:List (List Int)) (pl p2:Int),p≤p2∧p2≤p+14000→BindM vs ts→Drawn code p 14000 (fun x=>∃ (n:Int) (back:Bool) (vs:List Int) (ts:List (List Int)) (pl:Int),x = .tup [.int .i64 n,.bool back,.agg [slc vs,slc ts],.int .i64 pl]∧BindM vs ts) (some (.tup [.int .i64 n,.bool back,.agg [slc vs,slc ts],.int .i64 pl],[.agg [slc code,.int .i64 p2]])):=fun n back vs ts pl p2 h hb=>drawn_end h ⟨n,back,vs,ts,pl,rfl,hb⟩
 have leaf0:∀ (n:Int) (back:Bool) (pl p2:Int),p≤p2∧p2≤p+14000→Drawn code p 14000 (fun x=>∃ (n:Int) (back:Bool) (vs:List Int) (ts:List (List Int)) (pl:Int),x = .tup [.int .i64 n,.bool back,.agg [slc vs,slc ts],.int .i64 pl]∧BindM vs ts) (some (.tup [.int .i64 n,.bool back,.agg [.sl 1 [],.sl 1 []],.int .i64 pl],[.agg [slc code,.int .i64 p2]])):=fun n back pl p2 h=>leaf n back [] [] pl p2 h ⟨by simp,by simp,by simp⟩
 refine next_s hc (by omega) fun n hn1 hn2 => ?_
 rw [show (cells es).length / 2=es.length from cells_div rfl] at hn2
 simp only [evz,Nat.reduceLT]
 refine chance_s hc (by omega) fun back => ?_
 simp only [evz,Nat.reduceLT]
 refine next_s hc (by omega) fun pl hp1 hp2 => ?_
 have hp2:=hp2 (by omega)
 simp only [evz,Nat.reduceLT]
 by_cases h0:es.length=0
 · have h0':((es.length:Nat):Int)=0:=by omega
   simp only [h0',evz,Nat.reduceLT,beq_self_eq_true]
   exact leaf0 _ _ _ _ (by omega)
 have h0':¬ ((es.length:Nat):Int)=0:=by omega
 have hn2:=hn2 (by omega)
 simp only [h0',evz,Nat.reduceLT]
 have w1:IntKind.wrap .i64 (IntKind.wrap .i64 (2*((es.length:Nat):Int))*((t.length:Nat):Int))=((2*es.length*t.length:Nat):Int):=by
  have hm:2*es.length*t.length≤24*24:=Nat.mul_le_mul (by omega) htl
  rw [wrap64 (x:=2*((es.length:Nat):Int)) (by omega)]
  have e:2*((es.length:Nat):Int)*((t.length:Nat):Int)=((2*es.length*t.length:Nat):Int):=by push_cast; rfl
  rw [e,wrap64 (by omega)]
 have hm:2*es.length*t.length≤24*24:=Nat.mul_le_mul (by omega) htl
 refine draw_loop (σ:=Int × Bool × Int × Nat) (S:=fun m s=>spec_l13Walk.at0 600 m (spec_l13Walk.st0 (cells l) (cells es) (cells t) s.1 s.2.1 s.2.2.1 (s.2.2.2:Nat) (cells code) (p+1+1+1))) (fun s=>0≤s.1∧s.1 < es.length∧0≤s.2.2.1∧s.2.2.1 < t.length∧s.2.2.2≤2*es.length*t.length) (fun s=>2*es.length*t.length - s.2.2.2) (fun m s hs => ?_) _ (n,back,pl,0) ⟨hn1,hn2,hp1,hp2,by simp⟩ (by simp only; omega)
 obtain ⟨n,back,pl,i⟩:=s
 obtain ⟨g1,g2,g3,g4,g5⟩:=hs
 simp only at g1 g2 g3 g4 g5 ⊢
 by_cases hi:i < 2*es.length*t.length
 case neg =>
  left
  have hi':¬ ((i:Nat):Int) < ((2*es.length*t.length:Nat):Int):=by omega
  simp only [spec_l13Walk.next0,spec_l13Walk.round0,evz,Nat.reduceLT,w1,hi']
  exact leaf0 _ _ _ _ (by omega)
 have hi':((i:Nat):Int) < ((2*es.length*t.length:Nat):Int):=by omega
 obtain ⟨k,rfl⟩:∃ k:Nat,n=k:=⟨n.toNat,by omega⟩
 obtain ⟨a,rfl⟩:∃ a:Nat,pl=a:=⟨pl.toNat,by omega⟩
 have hk:k < es.length:=by omega
 have ha:a < t.length:=by omega
 have ek:es[k]?=some es[k]:=List.getElem?_eq_getElem hk
 have he:=hes _ (List.getElem_mem hk)
 have e0:=get0 (l:=es) (k:=2) (i:=k) rfl
 have e1:=get1 (l:=es) (k:=2) (i:=k) rfl (by decide)
 rw [ek] at e0 e1
 have wa:IntKind.wrap .i64 (((a:Nat):Int)+1)=((a+1:Nat):Int):=by rw [wrap64 (by omega)]; omega
 have wk:IntKind.wrap .i64 (((k:Nat):Int)+1)=((k+1:Nat):Int):=by rw [wrap64 (by omega)]; omega
 have wi:IntKind.wrap .i64 (((i:Nat):Int)+1)=((i+1:Nat):Int):=by rw [wrap64 (by omega)]; omega
 have ta:Int.tmod ((a+1:Nat):Int) ((t.length:Nat):Int)=(((a+1) % t.length:Nat):Int):=by rw [Int.tmod_eq_emod_of_nonneg (by omega)]; rfl
 have tk:Int.tmod ((k+1:Nat):Int) ((es.length:Nat):Int)=(((k+1) % es.length:Nat):Int):=by rw [Int.tmod_eq_emod_of_nonneg (by omega)]; rfl
 have lt1:(a+1) % t.length < t.length:=Nat.mod_lt _ (by omega)
 have lt2:(k+1) % es.length < es.length:=Nat.mod_lt _ (by omega)
 have t0:¬ ((t.length:Nat):Int)=0:=by omega
 have fr:∃ q:List Int,TermOk l q∧∀ b:Bool,back=b→(bif b then es[k].right else es[k].left)=q:=⟨bif back then es[k].right else es[k].left,by cases back; exact he.left; exact he.right,fun b hb=>by subst hb; rfl⟩
 obtain ⟨q,hq,hqe⟩:=fr
 have em:=(spec_l6Match ok hq ht ha).eq
 cases hma:matchAt l q t a with
 | some b =>
   left
   rw [hma] at em
   have em:LIM F.spec_l6Match [.rref [slc l] 0,slc q,slc t,.int .i64 a]=some (.tup [.agg [slc b.1,slc b.2],.bool true],[]):=em
   have hmb:=matchAt_ok hq ht ha hma
   have hql:=hq.le
   have hbl:=hmb.le
   have hb2:=hmb.len
   have hbt:∀ x∈b.2,x.length≤1001:=fun x hx=>by have:=(hmb.tm x hx).le; omega
   cases back with
   | false =>
     have hqe:es[k].left=q:=hqe false rfl
     simp only [spec_l13Walk.next0,spec_l13Walk.round0,evz,Nat.reduceLT,w1,hi',hk,e0,e1,enc_Equation,hqe,em]
     refine chance_s hc (by omega) fun c => ?_
     simp only [evz,Nat.reduceLT]
     cases c with
     | false=>simp only [evz,Nat.reduceLT]; exact leaf _ _ b.1 b.2 _ _ (by omega) ⟨by omega,by omega,hbt⟩
     | true =>
       simp only [evz,Nat.reduceLT]
       refine drawn_s (spec_l13Fill hc ok _ (by omega) b.1 b.2 hb2 (by omega) hbt) ?_
       rintro _ p1 a1 b1 ⟨vs,ts,rfl,hbm⟩
       simp only [evz,Nat.reduceLT]
       exact leaf _ _ vs ts _ _ (by omega) hbm
   | true =>
     have hqe:es[k].right=q:=hqe true rfl
     simp only [spec_l13Walk.next0,spec_l13Walk.round0,evz,Nat.reduceLT,w1,hi',hk,e0,e1,enc_Equation,hqe,em]
     refine chance_s hc (by omega) fun c => ?_
     simp only [evz,Nat.reduceLT]
     cases c with
     | false=>simp only [evz,Nat.reduceLT]; exact leaf _ _ b.1 b.2 _ _ (by omega) ⟨by omega,by omega,hbt⟩
     | true =>
       simp only [evz,Nat.reduceLT]
       refine drawn_s (spec_l13Fill hc ok _ (by omega) b.1 b.2 hb2 (by omega) hbt) ?_
       rintro _ p1 a1 b1 ⟨vs,ts,rfl,hbm⟩
       simp only [evz,Nat.reduceLT]
       exact leaf _ _ vs ts _ _ (by omega) hbm
 | none =>
   right
   rw [hma] at em
   have em:LIM F.spec_l6Match [.rref [slc l] 0,slc q,slc t,.int .i64 a]=some (.tup [.agg [.sl 1 [],.sl 1 []],.bool false],[]):=em
   by_cases hz:(a+1) % t.length=0
   · have hz':(((a+1) % t.length:Nat):Int)=0:=by omega
     refine ⟨((((k+1) % es.length:Nat):Int),!back,(((a+1) % t.length:Nat):Int),i+1),?_,⟨by simp only; omega,by simp only; omega,by simp only; omega,by simp only; omega,by simp only; omega⟩,by simp only; omega⟩
     cases back with
     | false =>
       have hqe:es[k].left=q:=hqe false rfl
       simp only [spec_l13Walk.next0,spec_l13Walk.round0,evz,Nat.reduceLT,w1,hi',hk,e0,e1,enc_Equation,hqe,em,wa,wk,wi,ta,tk,t0,h0',hz',beq_self_eq_true,decide_false]
       rfl
     | true =>
       have hqe:es[k].right=q:=hqe true rfl
       simp only [spec_l13Walk.next0,spec_l13Walk.round0,evz,Nat.reduceLT,w1,hi',hk,e0,e1,enc_Equation,hqe,em,wa,wk,wi,ta,tk,t0,h0',hz',beq_self_eq_true,decide_false]
       rfl
   · have hz':¬ (((a+1) % t.length:Nat):Int)=0:=by omega
     refine ⟨(((k:Nat):Int),back,(((a+1) % t.length:Nat):Int),i+1),?_,⟨by simp only; omega,by simp only; omega,by simp only; omega,by simp only; omega,by simp only; omega⟩,by simp only; omega⟩
     cases back with
     | false =>
       have hqe:es[k].left=q:=hqe false rfl
       simp only [spec_l13Walk.next0,spec_l13Walk.round0,evz,Nat.reduceLT,w1,hi',hk,e0,e1,enc_Equation,hqe,em,wa,wk,wi,ta,tk,t0,h0',hz',decide_false]
       rfl
     | true =>
       have hqe:es[k].right=q:=hqe true rfl
       simp only [spec_l13Walk.next0,spec_l13Walk.round0,evz,Nat.reduceLT,w1,hi',hk,e0,e1,enc_Equation,hqe,em,wa,wk,wi,ta,tk,t0,h0',hz',decide_false]
       rfl
def WalkQ (r:R):Prop:=∃ (l:List Symbol) (es:List Equation) (t:List Int) (n:Int) (back:Bool) (vs:List Int) (ts:List (List Int)) (pl:Int),r=some (.tup [.agg [slc l],slc es,slc t,.int .i64 n,.bool back,.agg [slc vs,slc ts],.int .i64 pl],[])∧sm 7 (Signature.mk l)∧EqS 13 es∧t.length≤1001∧BindM vs ts
theorem spec_DrawWalkStep:∃ (l:List Symbol) (es:List Equation) (t:List Int) (n:Int) (back:Bool) (vs:List Int) (ts:List (List Int)) (pl:Int),Call F.spec_DrawWalkStep [slc code] (.tup [.agg [slc l],slc es,slc t,.int .i64 n,.bool back,.agg [slc vs,slc ts],.int .i64 pl])∧sm 7 (Signature.mk l)∧EqS 13 es∧t.length≤1001∧BindM vs ts:=by
 suffices h:∃ r,callK prog A H LIM 0 F.spec_DrawWalkStep [slc code]=r∧WalkQ r by
  obtain ⟨_,e,l,es,t,n,back,vs,ts,pl,rfl,h⟩:=h
  exact ⟨l,es,t,n,back,vs,ts,pl,call_of rfl 0 e,h⟩
 refine ⟨_,spec_DrawWalkStep.ev _ _,?_⟩
 rw [show LIM F.spec_l1Source [.sl 1 (cells code)]=_ from spec_l1Source]
 simp only [evz,Nat.reduceLT,oBx_bx]
 refine drawn_s (Q:=WalkQ) (spec_l2Bent hc 0 (by omega)) ?_
 rintro _ p1 a1 b1 ⟨l,rfl,hl⟩
 have hll:l.length≤7:=hl.1
 simp only [evz,Nat.reduceLT]
 refine drawn_s (Q:=WalkQ) (spec_l5BentList hc (l:=l) (by omega) p1 (by omega)) ?_
 rintro _ p2 a2 b2 ⟨es,rfl,hes⟩
 simp only [evz,Nat.reduceLT]
 refine pick_s (Q:=WalkQ) hc [4,8,20] rfl (by simp) (by omega) fun v hv => ?_
 have hv':4≤v∧v≤20:=by
  simp only [List.mem_cons,List.not_mem_nil,or_false] at hv; omega
 simp only [evz,Nat.reduceLT]
 refine pick_s (Q:=WalkQ) hc [0,3] rfl (by simp) (by omega) fun w hw => ?_
 have hw':0≤w∧w≤3:=by
  simp only [List.mem_cons,List.not_mem_nil,or_false] at hw; omega
 simp only [evz,Nat.reduceLT]
 refine drawn_s (Q:=WalkQ) (spec_l3BentTerm hc _ v w l (by omega) (by omega) (by omega) (by omega)) ?_
 rintro _ p3 a3 b3 ⟨t,rfl,ht⟩
 simp only [evz,Nat.reduceLT,(spec_SignatureFault l (by omega)).eq]
 by_cases h0:sigFault ⟨l⟩=0
 case neg =>
  simp only [h0,evz,Nat.reduceLT,ne_eq,not_false_eq_true]
  refine pick_s (Q:=WalkQ) hc [0,1,-1,12] rfl (by simp) (by omega) fun x _ => ?_
  simp only [evz,Nat.reduceLT]
  refine chance_s (Q:=WalkQ) hc (by omega) fun y => ?_
  simp only [evz,Nat.reduceLT]
  refine drawn_s (Q:=WalkQ) (spec_l6Bent hc (l:=l) (by omega) _ (by omega)) ?_
  rintro _ p4 a4 b4 ⟨vs,ts,rfl,hb⟩
  simp only [evz,Nat.reduceLT]
  refine pick_s (Q:=WalkQ) hc [0,1,-1,24] rfl (by simp) (by omega) fun z _ => ?_
  simp only [evz,Nat.reduceLT]
  exact ⟨l,es,t,x,y,vs,ts,z,rfl,hl,hes,ht,hb.m⟩
 have ok:=sigOk_of h0
 simp only [h0,evz,Nat.reduceLT,ne_eq,not_true_eq_false,(spec_l5Fault l ok es (sm_mono (by omega) (hes.sm (by omega)))).eq]
 by_cases h5:eqsFault l es=0
 case neg =>
  simp only [h5,evz,Nat.reduceLT,ne_eq,not_false_eq_true]
  refine pick_s (Q:=WalkQ) hc [0,1,-1,12] rfl (by simp) (by omega) fun x _ => ?_
  simp only [evz,Nat.reduceLT]
  refine chance_s (Q:=WalkQ) hc (by omega) fun y => ?_
  simp only [evz,Nat.reduceLT]
  refine drawn_s (Q:=WalkQ) (spec_l6Bent hc (l:=l) (by omega) _ (by omega)) ?_
  rintro _ p4 a4 b4 ⟨vs,ts,rfl,hb⟩
  simp only [evz,Nat.reduceLT]
  refine pick_s (Q:=WalkQ) hc [0,1,-1,24] rfl (by simp) (by omega) fun z _ => ?_
  simp only [evz,Nat.reduceLT]
  exact ⟨l,es,t,x,y,vs,ts,z,rfl,hl,hes,ht,hb.m⟩
 simp only [h5,evz,Nat.reduceLT,ne_eq,not_true_eq_false,(spec_l3Fault l ok t (by omega)).eq]
 by_cases h3:termFault0 l t=0
 case neg =>
  simp only [h3,evz,Nat.reduceLT,ne_eq,not_false_eq_true]
  refine pick_s (Q:=WalkQ) hc [0,1,-1,12] rfl (by simp) (by omega) fun x _ => ?_
  simp only [evz,Nat.reduceLT]
  refine chance_s (Q:=WalkQ) hc (by omega) fun y => ?_
  simp only [evz,Nat.reduceLT]
  refine drawn_s (Q:=WalkQ) (spec_l6Bent hc (l:=l) (by omega) _ (by omega)) ?_
  rintro _ p4 a4 b4 ⟨vs,ts,rfl,hb⟩
  simp only [evz,Nat.reduceLT]
  refine pick_s (Q:=WalkQ) hc [0,1,-1,24] rfl (by simp) (by omega) fun z _ => ?_
  simp only [evz,Nat.reduceLT]
  exact ⟨l,es,t,x,y,vs,ts,z,rfl,hl,hes,ht,hb.m⟩
 simp only [h3,evz,Nat.reduceLT,ne_eq,not_true_eq_false]
 refine chance_s (Q:=WalkQ) hc (by omega) fun c => ?_
 simp only [evz,Nat.reduceLT]
 cases c with
 | true =>
   simp only [evz,Nat.reduceLT]
   refine pick_s (Q:=WalkQ) hc [0,1,-1,12] rfl (by simp) (by omega) fun x _ => ?_
   simp only [evz,Nat.reduceLT]
   refine chance_s (Q:=WalkQ) hc (by omega) fun y => ?_
   simp only [evz,Nat.reduceLT]
   refine drawn_s (Q:=WalkQ) (spec_l6Bent hc (l:=l) (by omega) _ (by omega)) ?_
   rintro _ p4 a4 b4 ⟨vs,ts,rfl,hb⟩
   simp only [evz,Nat.reduceLT]
   refine pick_s (Q:=WalkQ) hc [0,1,-1,24] rfl (by simp) (by omega) fun z _ => ?_
   simp only [evz,Nat.reduceLT]
   exact ⟨l,es,t,x,y,vs,ts,z,rfl,hl,hes,ht,hb.m⟩
 | false =>
   simp only [evz,Nat.reduceLT]
   obtain ⟨q1,q2⟩:=eqsOk_iff.1 h5
   refine drawn_s (Q:=WalkQ) (spec_l13Walk hc ok _ (by omega) q2 q1 ((termOk_iff l t).1 h3)) ?_
   rintro _ p4 a4 b4 ⟨n,back,vs,ts,pl,rfl,hb⟩
   simp only [evz,Nat.reduceLT]
   exact ⟨l,es,t,n,back,vs,ts,pl,rfl,hl,hes,ht,hb⟩
end
end Ev.Ty
end
section
namespace Ev.Ty
open Go Ev
open Tm
set_option linter.unusedSimpArgs false
set_option linter.unusedVariables false
theorem place_of {r:Int→Int} {a:Int→Nat}:∀ (x:Tm) (q:Nat),x.ok a→q < x.flat.length→∃ (y:Tm) (C:Tm→Tm),y.ok a∧(∃ rest,x.flat.drop q=y.flat++rest) ∧
 (∀ u:Tm,u.ok a→(C u).ok a∧(C u).flat=x.flat.take q++u.flat++x.flat.drop (q+y.flat.length))∧∀ u v:Tm,G r u v→G r (C u) (C v):=by
 have here:∀ x:Tm,x.ok a→∃ (y:Tm) (C:Tm→Tm),y.ok a∧(∃ rest,x.flat.drop 0=y.flat++rest) ∧
  (∀ u:Tm,u.ok a→(C u).ok a∧(C u).flat=x.flat.take 0++u.flat++x.flat.drop (0+y.flat.length))∧∀ u v:Tm,G r u v→G r (C u) (C v):=fun x hx =>
  ⟨x,id,hx,⟨[],by simp⟩,fun u hu=>⟨hu,by simp⟩,fun u v h=>h⟩
 intro x
 induction x with
 | v n=>intro q hx hq; have:q=0:=by simp [Tm.flat] at hq; omega
        subst this; exact here _ hx
 | k n=>intro q hx hq; have:q=0:=by simp [Tm.flat] at hq; omega
        subst this; exact here _ hx
 | u n x ih =>
   intro q hx hq
   match q,hq with
   | 0,_=>exact here _ hx
   | q+1,hq =>
     obtain ⟨y,C,h1,⟨rest,h2⟩,h3,h4⟩:=ih q hx.2.2 (by simp only [Tm.flat,List.length_cons] at hq; omega)
     refine ⟨y,fun w => .u n (C w),h1,⟨rest,h2⟩,fun w hw=>⟨⟨hx.1,hx.2.1,(h3 w hw).1⟩,?_⟩,fun w v h=>G.ctx (s := .u n (C w)) (t := .u n (C v)) (A:=[]) (B:=[]) hx.1 rfl rfl rfl (h4 w v h)⟩
     show n::(C w).flat=(n::x.flat).take (q+1)++w.flat++(n::x.flat).drop (q+1+y.flat.length)
     rw [(h3 w hw).2,Nat.add_right_comm]
     rfl
 | b n x z ihx ihz =>
   intro q hx hq
   match q,hq with
   | 0,_=>exact here _ hx
   | q+1,hq =>
     simp only [Tm.flat,List.length_cons,List.length_append] at hq
     by_cases hl:q < x.flat.length
     · obtain ⟨y,C,h1,⟨rest,h2⟩,h3,h4⟩:=ihx q hx.2.2.1 hl
       have hy:q+y.flat.length≤x.flat.length:=by
        have:=congrArg List.length h2
        rw [List.length_drop,List.length_append] at this
        have:=y.flat_pos
        omega
       refine ⟨y,fun w => .b n (C w) z,h1,⟨rest++z.flat,?_⟩,fun w hw=>⟨⟨hx.1,hx.2.1,(h3 w hw).1,hx.2.2.2⟩,?_⟩,fun w v h=>G.ctx (s := .b n (C w) z) (t := .b n (C v) z) (A:=[]) (B:=[z]) hx.1 rfl rfl rfl (h4 w v h)⟩
       · show (x.flat++z.flat).drop q=_
         rw [List.drop_append_of_le_length (by omega),h2,List.append_assoc]
       · show n::((C w).flat++z.flat)=(n::(x.flat++z.flat)).take (q+1)++w.flat++(n::(x.flat++z.flat)).drop (q+1+y.flat.length)
         rw [(h3 w hw).2,Nat.add_right_comm]
         show n::(x.flat.take q++w.flat++x.flat.drop (q+y.flat.length)++z.flat)=n::((x.flat++z.flat).take q++w.flat++(x.flat++z.flat).drop (q+y.flat.length))
         rw [List.take_append_of_le_length (by omega),List.drop_append_of_le_length hy]
         simp
     · obtain ⟨y,C,h1,⟨rest,h2⟩,h3,h4⟩:=ihz (q - x.flat.length) hx.2.2.2 (by omega)
       refine ⟨y,fun w => .b n x (C w),h1,⟨rest,?_⟩,fun w hw=>⟨⟨hx.1,hx.2.1,hx.2.2.1,(h3 w hw).1⟩,?_⟩,fun w v h=>G.ctx (s := .b n x (C w)) (t := .b n x (C v)) (A:=[x]) (B:=[]) hx.1 rfl rfl rfl (h4 w v h)⟩
       · show (x.flat++z.flat).drop q=_
         rw [List.drop_append,List.drop_eq_nil_of_le (by omega),h2]
         rfl
       · show n::(x.flat++(C w).flat)=(n::(x.flat++z.flat)).take (q+1)++w.flat++(n::(x.flat++z.flat)).drop (q+1+y.flat.length)
         rw [(h3 w hw).2,Nat.add_right_comm]
         show n::(x.flat++(z.flat.take (q - x.flat.length)++w.flat++z.flat.drop (q - x.flat.length+y.flat.length)))=n::((x.flat++z.flat).take q++w.flat++(x.flat++z.flat).drop (q+y.flat.length))
         rw [List.take_append,List.drop_append,List.take_of_length_le (by omega:x.flat.length≤q),List.drop_eq_nil_of_le (by omega:x.flat.length≤q+y.flat.length),show q+y.flat.length - x.flat.length=q - x.flat.length+y.flat.length by omega]
         simp
section
variable {l:List Symbol} (ok:SigOk ⟨l⟩) {o:List Int} (ho:∀ n:Int,0≤n→n < l.length→n∈o)
noncomputable def treeB (l:List Symbol) (t:List Int):Tm:=open Classical in if h:∃ x:Tm,x.ok (ar l)∧t=x.flat then h.choose else .v (-1)
noncomputable def subB (l:List Symbol) (vs:List Int) (ts:List (List Int)) (n:Int):Tm:=match bindOf vs ts (-1 - n) with | some t=>treeB l t | none => .v n
include ok
theorem treeB_ok {t:List Int} (h:TermOk l t):(treeB l t).ok (ar l)∧t=(treeB l t).flat:=by
 have e:∃ x:Tm,x.ok (ar l)∧t=x.flat:=h.tree ok
 unfold treeB
 rw [dif_pos e]
 exact e.choose_spec
omit ok in
theorem bound_ok {vs:List Int} {ts:List (List Int)} (h:bindFault0 l vs ts=0):BindOk vs ts∧∀ t∈ts,TermOk l t:=by
 refine ⟨bindOk_of h,?_⟩
 unfold bindFault0 at h
 split at h
 · cases h
 · rename_i h1
   have hlen:vs.length=ts.length:=by omega
   split at h
   · rename_i c hc
     obtain ⟨x,_,hx⟩:=List.exists_of_findSome?_eq_some hc
     unfold pairFault at hx
     split at hx
     · cases hx; cases h
     · split at hx
       · rename_i hne; cases hx; exact absurd h hne
       · cases hx
   · rename_i hn
     intro t ht
     obtain ⟨k,hk,rfl⟩:=List.getElem_of_mem ht
     have hz:k < (vs.zip ts).length:=by rw [List.length_zip]; omega
     have:=List.findSome?_eq_none_iff.1 hn _ (List.getElem_mem hz)
     rw [List.getElem_zip] at this
     unfold pairFault at this
     split at this
     · cases this
     · split at this
       · cases this
       · rename_i q2
         exact (termOk_iff _ _).1 (by simpa using q2)
theorem subB_ok {vs:List Int} {ts:List (List Int)} (h:BindOk vs ts∧∀ t∈ts,TermOk l t) (n:Int) (hn:n < 0):(subB l vs ts n).ok (ar l):=by
 unfold subB
 cases e:bindOf vs ts (-1 - n) with
 | none=>exact hn
 | some t=>exact (treeB_ok ok (h.2 t (bindOf_mem e))).1
theorem applied_inst {vs:List Int} {ts:List (List Int)} (h:BindOk vs ts∧∀ t∈ts,TermOk l t):∀ x:Tm,x.ok (ar l)→applied vs ts x.flat=(x.inst (subB l vs ts)).flat:=by
 have hb:=h
 have one:∀ n:Int,0≤n→(bindOf vs ts (-1 - n)).getD [n]=[n]:=fun n hn=>by rw [bindOf_neg hb.1 (by omega)]; rfl
 intro x
 induction x with
 | v n =>
   intro _
   show [n].flatMap _=(subB l vs ts n).flat
   rw [List.flatMap_cons,List.flatMap_nil,List.append_nil]
   unfold subB
   cases e:bindOf vs ts (-1 - n) with
   | none=>rfl
   | some t=>exact (treeB_ok ok (hb.2 t (bindOf_mem e))).2
 | k n =>
   intro hx
   show [n].flatMap _=[n]
   rw [List.flatMap_cons,List.flatMap_nil,List.append_nil,one n hx.1]
 | u n x ih =>
   intro hx
   show (n::x.flat).flatMap _=n::(x.inst (subB l vs ts)).flat
   rw [List.flatMap_cons,one n hx.1,← ih hx.2.2]
   rfl
 | b n x y ihx ihy =>
   intro hx
   show (n::(x.flat++y.flat)).flatMap _=n::((x.inst (subB l vs ts)).flat++(y.inst (subB l vs ts)).flat)
   rw [List.flatMap_cons,one n hx.1,← ihx hx.2.2.1,← ihy hx.2.2.2,List.flatMap_append]
   rfl
omit ok in
theorem termOk_tree {t:List Int} {x:Tm} (hx:x.ok (ar l)) (e:t=x.flat) (hn:∀ n∈t,nodeOk l n=true) (hl:t.length≤24):TermOk l t:=by
 refine ⟨?_,hl,hn,?_⟩
 · rw [e]; exact x.flat_pos
 · have:=Tm.skip_flat (a:=ar l) (fun n hn=>ar_neg l hn) x [] 0 hx
   rw [e]; rwa [List.append_nil] at this
theorem applied_ok {vs:List Int} {ts:List (List Int)} (h:BindOk vs ts∧∀ t∈ts,TermOk l t) {a:List Int} (ha:TermOk l a) (hl:(applied vs ts a).length≤24):TermOk l (applied vs ts a):=by
 obtain ⟨x,hx,e⟩:=ha.tree ok
 refine termOk_tree (inst_ok (subB_ok ok h) hx) (by rw [e]; exact applied_inst ok h x hx) (fun n hn => ?_) hl
 obtain ⟨m,hm,hn⟩:=List.mem_flatMap.1 hn
 cases eb:bindOf vs ts (-1 - m) with
 | none=>rw [eb] at hn; rw [List.mem_singleton.1 hn]; exact ha.node m hm
 | some t=>rw [eb] at hn; exact (h.2 t (bindOf_mem eb)).node n hn
theorem placed_ok {t u:List Int} (ht:TermOk l t) (hu:TermOk l u) {p:Nat} (hp:p < t.length) (hl:(replAt l t p u).length≤24):TermOk l (replAt l t p u):=by
 obtain ⟨x,hx,ex⟩:=ht.tree ok
 obtain ⟨xu,hxu,exu⟩:=hu.tree ok
 obtain ⟨y,C,h1,⟨rest,h2⟩,h3,_⟩:=place_of (r:=fun n=>n) x p hx (by rw [← ex]; exact hp)
 have hat:At l t p y:=⟨h1,rest,by rw [ex]; exact h2⟩
 have he:=hat.facts.2.2.1
 have e:replAt l t p u=(C xu).flat:=by unfold replAt; rw [(h3 xu hxu).2,he,ex,exu]
 refine termOk_tree (h3 xu hxu).1 e (fun n hn => ?_) hl
 unfold replAt at hn
 rcases List.mem_append.1 hn with hn | hn
 · rcases List.mem_append.1 hn with hn | hn
   · exact ht.node n (List.mem_of_mem_take hn)
   · exact hu.node n hn
 · exact ht.node n (List.mem_of_mem_drop hn)
include ho
end
end Ev.Ty
end
section
namespace Ev.Ty
open Go Ev
set_option linter.unusedSimpArgs false
set_option linter.unusedVariables false
theorem replAt_same {l:List Symbol} {t:List Int} (ht:TermOk l t) {p:Nat} (hp:p < t.length):replAt l t p (subAt l t p)=t:=by
 unfold replAt
 rw [List.append_assoc,← (sub_split ht hp).1,List.take_append_drop]
end Ev.Ty
end
section
namespace Ev.Ty
open Go Ev
open Enc (enc)
open Sm (sm)
set_option linter.unusedSimpArgs false
set_option linter.unusedVariables false
set_option maxHeartbeats 4000000
set_option maxRecDepth 10000
theorem placed_at {l:List Symbol} (ok:SigOk ⟨l⟩) {t u:List Int} (ht:TermOk l t) (hu:TermOk l u) {p:Nat} (hp:p < t.length):p < (replAt l t p u).length∧subAt l (replAt l t p u) p=u∧∀ v,replAt l (replAt l t p u) p v=replAt l t p v:=by
 obtain ⟨x,hx,ex⟩:=hu.tree ok
 have hd:(replAt l t p u).drop p=u++t.drop (endAt l t p):=by
  unfold replAt
  rw [List.append_assoc,List.drop_append_of_le_length (by rw [List.length_take]; omega),List.drop_eq_nil_of_le (by rw [List.length_take]; omega)]
  rfl
 have ht':(replAt l t p u).take p=t.take p:=by
  unfold replAt
  rw [List.append_assoc,List.take_append_of_le_length (by rw [List.length_take]; omega),List.take_take,Nat.min_self]
 have hat:At l (replAt l t p u) p x:=⟨hx,t.drop (endAt l t p),by rw [hd,ex]⟩
 obtain ⟨a1,_,a3,a4⟩:=hat.facts
 refine ⟨a1,by rw [a4,← ex],fun v => ?_⟩
 show ((replAt l t p u).take p++v)++(replAt l t p u).drop (endAt l (replAt l t p u) p)=_
 rw [ht',a3,← ex,← List.drop_drop,hd,List.drop_left]
 rfl
theorem walk_back {l:List Symbol} {es:List Equation} {t:List Int} {n:Int} {back:Bool} {vs:List Int} {ts:List (List Int)} {p:Int} (h:(walkStepR ⟨l⟩ es t n back ⟨vs,ts⟩ p).code=0) :
 walkStepR ⟨l⟩ es (walkStepR ⟨l⟩ es t n back ⟨vs,ts⟩ p).term n (!back) ⟨vs,ts⟩ p=⟨0,t⟩∧TermOk l (walkStepR ⟨l⟩ es t n back ⟨vs,ts⟩ p).term∧SigOk ⟨l⟩:=by
 have h1:sigFault ⟨l⟩=0:=Classical.byContradiction fun hne=>by unfold walkStepR at h; rw [if_pos hne] at h; exact hne h
 have ok:=sigOk_of h1
 have h2:eqsFault l es=0:=Classical.byContradiction fun hne=>by unfold walkStepR at h; rw [if_neg (by simpa using h1),if_pos hne] at h; exact hne h
 have h3:termFault0 l t=0:=Classical.byContradiction fun hne=>by unfold walkStepR at h; rw [if_neg (by simpa using h1),if_neg (by simpa using h2),if_pos hne] at h; exact hne h
 have h4:¬ inR n 0 (es.length - 1)=false:=fun hne=>by unfold walkStepR at h; rw [if_neg (by simpa using h1),if_neg (by simpa using h2),if_neg (by simpa using h3),if_pos hne] at h; cases h
 have h5:bindFault0 l vs ts=0:=Classical.byContradiction fun hne=>by unfold walkStepR at h; rw [if_neg (by simpa using h1),if_neg (by simpa using h2),if_neg (by simpa using h3),if_neg h4,if_pos hne] at h; exact hne h
 have h6:¬ inR p 0 (t.length - 1)=false:=fun hne=>by unfold walkStepR at h; rw [if_neg (by simpa using h1),if_neg (by simpa using h2),if_neg (by simpa using h3),if_neg h4,if_neg (by simpa using h5),if_pos hne] at h; cases h
 have tt:=(termOk_iff l t).1 h3
 obtain ⟨q1,q2⟩:=eqsOk_iff.1 h2
 have hb:=bound_ok h5
 have hn:0≤n∧n < es.length:=by
  have:inR n 0 (es.length - 1)=true:=by cases e:inR n 0 (es.length - 1) <;> simp_all
  unfold inR at this; simp only [Bool.and_eq_true,decide_eq_true_eq] at this; omega
 have hp:0≤p∧p < t.length:=by
  have:inR p 0 (t.length - 1)=true:=by cases e:inR p 0 (t.length - 1) <;> simp_all
  unfold inR at this; simp only [Bool.and_eq_true,decide_eq_true_eq] at this; omega
 obtain ⟨k,rfl⟩:∃ k:Nat,n=k:=⟨n.toNat,by omega⟩
 obtain ⟨a,rfl⟩:∃ a:Nat,p=a:=⟨p.toNat,by omega⟩
 have hk:k < es.length:=by omega
 have ha:a < t.length:=by omega
 have he:=q2 _ (List.getElem_mem hk)
 have unf:∀ (t':List Int) (b:Bool),TermOk l t'→a < t'.length→walkStepR ⟨l⟩ es t' (k:Int) b ⟨vs,ts⟩ (a:Int)=stepR l t' vs ts a (bif b then es[k].right else es[k].left) (bif b then es[k].left else es[k].right):=fun t' b ht' ha'=>by
  unfold walkStepR
  rw [if_neg (by simpa using h1),if_neg (by simpa using h2),if_neg (by simpa using (termOk_iff l t').2 ht'),if_neg h4,if_neg (by simpa using h5),if_neg (by unfold inR; simp; omega),Int.toNat_natCast,Int.toNat_natCast,getE hk]
 have hAB:TermOk l (bif back then es[k].right else es[k].left)∧TermOk l (bif back then es[k].left else es[k].right):=by cases back; exact ⟨he.left,he.right⟩; exact ⟨he.right,he.left⟩
 have hsw:(bif !back then es[k].right else es[k].left)=(bif back then es[k].left else es[k].right)∧(bif !back then es[k].left else es[k].right)=(bif back then es[k].right else es[k].left):=by cases back <;> exact ⟨rfl,rfl⟩
 rw [unf t back tt ha] at h ⊢
 generalize hA:(bif back then es[k].right else es[k].left)=A at *
 generalize hB:(bif back then es[k].left else es[k].right)=B at *
 unfold stepR at h ⊢
 by_cases c1:applied vs ts A=subAt l t a
 case neg=>rw [if_neg c1] at h; cases h
 rw [if_pos c1] at h ⊢
 by_cases c2:24 < (applied vs ts B).length
 · rw [if_pos c2] at h; cases h
 rw [if_neg c2] at h ⊢
 by_cases c3:24 < (replAt l t a (applied vs ts B)).length
 · rw [if_pos c3] at h; cases h
 rw [if_neg c3]
 have hu:=applied_ok ok hb hAB.2 (by omega)
 have hw:=placed_ok ok tt hu ha (by omega)
 obtain ⟨w1,w2,w3⟩:=placed_at ok tt hu ha
 refine ⟨?_,hw,ok⟩
 show walkStepR ⟨l⟩ es (replAt l t a (applied vs ts B)) (k:Int) (!back) ⟨vs,ts⟩ (a:Int)=_
 rw [unf _ _ hw w1,hsw.1,hsw.2]
 unfold stepR
 rw [w2,if_pos rfl,c1,if_neg (by have:=(subAt_ok tt ha).le; omega),w3,replAt_same tt ha,if_neg (by have:=tt.le; omega)]
theorem laws_FnBack (code:List UInt8) (h:sm maxLen code):Call F.laws_FnBack [slc code] (.bool true):=by
 by_cases hbig:(code.length:Int) > 1048576
 · exact call_of rfl 0 ((laws_FnBack.ev _ _).trans (by simp only [evz,Nat.reduceLT,(laws_lwBig (code:=code)).eq,hbig]))
 have hc:code.length≤2097152:=by omega
 obtain ⟨l,es,t,n,back,vs,ts,p,ed,hl,hes,ht,hb⟩:=spec_DrawWalkStep hc
 have hll:l.length≤7:=hl.1
 have s1:sm 1048576 (Signature.mk l):=sm_mono (by omega) hl
 have s2:sm 1048576 es:=hes.sm (by omega)
 have s3:∀ {u:List Int},u.length≤1001→sm 1048576 u:=fun h=>⟨by omega,fun _ _=>trivial⟩
 have s4:sm 1048576 (Binding.mk vs ts):=⟨⟨by show vs.length≤_; have:=hb.vlen; omega,fun _ _=>trivial⟩,⟨by show ts.length≤_; have:=hb.tlen; omega,fun x hx=>⟨by have:=hb.size x hx; omega,fun _ _=>trivial⟩⟩⟩
 have eW:=(impl_WalkStep ⟨l⟩ es t n back ⟨vs,ts⟩ p s1 s2 (s3 ht) s4).eq
 have eW':=(spec_WalkStep ⟨l⟩ es t n back ⟨vs,ts⟩ p s1 s2 (s3 ht) s4).eq
 rw [enc_TermResult] at eW eW'
 by_cases h0:(walkStepR ⟨l⟩ es t n back ⟨vs,ts⟩ p).code=0
 case neg =>
  refine call_of rfl 0 ((laws_FnBack.ev _ _).trans ?_)
  simp only [evz,Nat.reduceLT,(laws_lwBig (code:=code)).eq,hbig,ed.eq,eW,eW',bne_self_eq_false,ne_eq,not_true_eq_false,h0,not_false_eq_true]
 obtain ⟨k1,k2,ok⟩:=walk_back h0
 have hwl:=k2.le
 have tl:(t.length:Nat)≤4294967296:=by omega
 have eR:=(impl_WalkStep ⟨l⟩ es (walkStepR ⟨l⟩ es t n back ⟨vs,ts⟩ p).term n (!back) ⟨vs,ts⟩ p s1 s2 (s3 (by omega)) s4).eq
 rw [k1,enc_TermResult] at eR
 have eT:=(impl_TermFault l (by omega) (walkStepR ⟨l⟩ es t n back ⟨vs,ts⟩ p).term (by omega)).eq
 rw [termFault_0 ((sigOk_iff _).2 ok),(termOk_iff l _).2 k2] at eT
 have eN:=(laws_lwNums t t tl).eq
 rw [decide_eq_true rfl] at eN
 rw [h0] at eW eW'
 refine call_of rfl 0 ((laws_FnBack.ev _ _).trans ?_)
 simp only [evz,Nat.reduceLT,(laws_lwBig (code:=code)).eq,hbig,ed.eq,eW,eW',eR,eT,eN,bne_self_eq_false,ne_eq,not_true_eq_false,decide_true]
end Ev.Ty
end
