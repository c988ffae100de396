/- Steps on the way to RowNewCompletion: TyEqs, TySame, TyBind, TyWalk, TyMatchP, TyNormP, TyRules, TyCmp, TyOrd, TyUnifyP, TyPeakP, TyMatch, TyNorm, TyUnify, TyUnify2, TyNormL, TyPeak, TyPeak2, TyPeaks, TyAllPeaks, TyUnjoined, TyHolds, TyAllHold, TyEntries, TyDeriveP, TyDerive, TyTheory, TyNewC, TyLNewCompletion. -/
import Derived.Test.YtambmaigffpijaaGreatDoorM4
set_option linter.unusedSectionVars false
section
namespace Ev.Ty
open Go Ev
open Enc (enc)
open Sm (sm)
set_option linter.unusedSimpArgs false
set_option linter.unusedVariables false
def low6 (t:List Int):Bool := !t.any fun n=>decide (n < -6)
theorem low6_iff {t:List Int}:low6 t=true↔∀ n∈t,-6≤n:=by
 unfold low6
 rw [Bool.not_eq_true',List.any_eq_false]
 constructor
 · intro h n hn; have:=h n hn; simpa using this
 · intro h n hn; simpa using h n hn
def eqFault (l:List Symbol) (e:Equation):Int :=
 if termFault0 l e.left≠0 then termFault0 l e.left else if termFault0 l e.right≠0 then termFault0 l e.right else if low6 e.left=true then (if low6 e.right=true then 0 else 3) else 3
def eqsFault (l:List Symbol) (es:List Equation):Int :=
 if 12 < es.length then 2 else (es.findSome? fun e=>if eqFault l e≠0 then some (eqFault l e) else none).getD 0
def ruleOk (e:Equation):Bool:=decide (0≤e.left.headD 0) && !e.right.any fun n=>decide (n < 0∧n∉e.left)
def rulesFault0 (l:List Symbol) (es:List Equation):Int:=if eqsFault l es≠0 then eqsFault l es else if (es.any fun e => !ruleOk e)=true then 1 else 0
def rulesFault (s:Signature) (es:List Equation):Int:=if sigFault s≠0 then sigFault s else rulesFault0 s.symbols es
structure EqOk (l:List Symbol) (e:Equation):Prop where
 left:TermOk l e.left
 right:TermOk l e.right
 lowL:∀ n∈e.left,-6≤n
 lowR:∀ n∈e.right,-6≤n
theorem eqOk_iff {l:List Symbol} {e:Equation}:eqFault l e=0↔EqOk l e:=by
 unfold eqFault
 constructor
 · intro h
   by_cases h1:termFault0 l e.left=0
   · by_cases h2:termFault0 l e.right=0
     · by_cases h3:low6 e.left=true
       · by_cases h4:low6 e.right=true
         · exact ⟨(termOk_iff _ _).1 h1,(termOk_iff _ _).1 h2,low6_iff.1 h3,low6_iff.1 h4⟩
         · simp [h1,h2,h3,h4] at h
       · simp [h1,h2,h3] at h
     · simp [h1,h2] at h
   · simp [h1] at h
 · intro h
   simp [(termOk_iff _ _).2 h.left,(termOk_iff _ _).2 h.right,low6_iff.2 h.lowL,low6_iff.2 h.lowR]
theorem eqsOk_iff {l:List Symbol} {es:List Equation}:eqsFault l es=0↔es.length≤12∧∀ e∈es,EqOk l e:=by
 unfold eqsFault
 by_cases h:12 < es.length
 · rw [if_pos h]
   constructor
   · intro h; cases h
   · intro h'; omega
 · rw [if_neg h]
   have:(es.findSome? fun e=>if eqFault l e≠0 then some (eqFault l e) else none).getD 0=0↔∀ e∈es,eqFault l e=0:=by
    cases hf:es.findSome? fun e=>if eqFault l e≠0 then some (eqFault l e) else none with
    | none =>
      rw [findSome_none] at hf
      refine ⟨fun _ e he => ?_,fun _=>rfl⟩
      have:=hf e he
      by_cases h:eqFault l e=0
      · exact h
      · simp [h] at this
    | some c =>
      obtain ⟨e,he,h1⟩:=List.exists_of_findSome?_eq_some hf
      by_cases h:eqFault l e=0
      · simp [h] at h1
      · simp [h] at h1
        subst h1
        exact ⟨fun h'=>absurd h' h,fun h'=>absurd (h' e he) h⟩
   rw [this]
   constructor
   · intro h'; exact ⟨by omega,fun e he=>eqOk_iff.1 (h' e he)⟩
   · intro h' e he; exact eqOk_iff.2 (h'.2 e he)
theorem TermOk.ge {l:List Symbol} {t:List Int} (h:TermOk l t):∀ n∈t,-12≤n:=fun n hn=>by
 rcases nodeOk_iff.1 (h.node n hn) with h | h <;> omega
theorem slices_Contains_Sint64 (l:List Int) (x:Int) (hl:l.length≤4294967296):Call F.slices_Contains_Sint64 [slc l,.int .i64 x] (.bool (decide (x∈l))):=by
 have hi:Call F.slices_Index_Sint64 [slc l,.int .i64 x] (.int .i64 (idx (fun y=>decide (x=y)) l)):=by
  refine call_of rfl (l.length+1) ((slices_Index_Sint64.ev _ _ _).trans ?_)
  simp only [evz,Nat.reduceLT]
  refine idx_loop (S:=fun m k=>slices_Index_Sint64.at0 (l.length+1) m (slices_Index_Sint64.st0 (cells l) x l.length (k:Nat))) (fun m k h => ?_) (fun m => ?_) (Nat.lt_succ_self _)
  · have hlk:l[k]?=some l[k]:=List.getElem?_eq_getElem h
    simp only [slices_Index_Sint64.next0,slices_Index_Sint64.round0,evz,Nat.reduceLT,h,hlk,enc_int]
    rw [wrap_succ (by omega)]
    by_cases e:x=l[k] <;> simp [e]
  · simp only [slices_Index_Sint64.next0,slices_Index_Sint64.round0,evz,Nat.reduceLT,Nat.lt_irrefl]
 refine call_of rfl 0 ((slices_Contains_Sint64.ev _ _ _).trans ?_)
 simp only [evz,Nat.reduceLT,hi.eq,idx_nonneg]
 have:(l.any fun y=>decide (x=y))=decide (x∈l):=by
  rw [Bool.eq_iff_iff,List.any_eq_true,decide_eq_true_eq]
  constructor
  · rintro ⟨y,hy,h⟩; rw [decide_eq_true_eq] at h; rw [h]; exact hy
  · intro h; exact ⟨x,h,by simp⟩
 rw [this]
theorem slices_ContainsFunc_Sint64_at1_impl_EquationFault_1 (t:List Int) (hs:t.length≤4294967296) :
 Call F.slices_ContainsFunc_Sint64 [slc t,.clo F.impl_EquationFault_1 []] (.bool (t.any fun n=>decide (n ≥ 6))):=by
 have hi:Call F.slices_IndexFunc_Sint64 [slc t,.clo F.impl_EquationFault_1 []] (.int .i64 (idx (fun n=>decide (n ≥ 6)) t)):=by
  refine call_of rfl (t.length+1) ((slices_IndexFunc_Sint64_at1_impl_EquationFault_1.ev _ _).trans ?_)
  refine idx_loop (S:=fun m k=>slices_IndexFunc_Sint64_at1_impl_EquationFault_1.at0 (t.length+1) m (slices_IndexFunc_Sint64_at1_impl_EquationFault_1.st0 (cells t) _ (k:Nat))) (fun m k h => ?_) (fun m => ?_) (Nat.lt_succ_self _)
  · have hlk:t[k]?=some t[k]:=List.getElem?_eq_getElem h
    have hc:Call F.impl_EquationFault_1 [.int .i64 t[k]] (.bool (decide (t[k] ≥ 6))):=call_of rfl 0 (impl_EquationFault_1.ev _ _)
    simp only [slices_IndexFunc_Sint64_at1_impl_EquationFault_1.next0,slices_IndexFunc_Sint64_at1_impl_EquationFault_1.round0,evz,Nat.reduceLT,h,hlk,enc_int,hc.eq]
    rw [wrap_succ (by omega)]
    by_cases e:t[k] ≥ 6 <;> simp [e]
  · simp only [slices_IndexFunc_Sint64_at1_impl_EquationFault_1.next0,slices_IndexFunc_Sint64_at1_impl_EquationFault_1.round0,evz,Nat.reduceLT,Nat.lt_irrefl]
 refine call_of rfl 0 ((slices_ContainsFunc_Sint64_at1_impl_EquationFault_1.ev _ _).trans ?_)
 simp only [evz,Nat.reduceLT,hi.eq,idx_nonneg]
theorem impl_EquationFault (l:List Symbol) (hs:l.length≤4294967296) (a b:List Int) (ha:a.length≤4294967296) (hb:b.length≤4294967296) :
 Call F.impl_EquationFault [.agg [slc l],.agg [slc a,slc b]] (.int .i64 (if sigFault ⟨l⟩≠0 then sigFault ⟨l⟩ else eqFault l ⟨a,b⟩)):=by
 refine call_of rfl 0 ((impl_EquationFault.ev _ _ _ _).trans ?_)
 simp only [evz,Nat.reduceLT,(impl_TermFault l hs a ha).eq,(impl_TermFault l hs b hb).eq,(impl_firstCode2 _ _).eq,termFault,eqFault]
 by_cases h1:sigFault ⟨l⟩=0
 case neg=>simp only [h1,evz,Nat.reduceLT,ne_eq,not_false_eq_true]
 simp only [h1,evz,Nat.reduceLT,ne_eq,not_true_eq_false]
 by_cases h2:termFault0 l a=0
 case neg=>simp only [h2,evz,Nat.reduceLT,not_false_eq_true]
 by_cases h3:termFault0 l b=0
 case neg=>simp only [h2,h3,evz,Nat.reduceLT,not_true_eq_false,not_false_eq_true]
 have ta:=(termOk_iff l a).1 h2
 have tb:=(termOk_iff l b).1 h3
 have hal:=ta.le
 have hbl:=tb.le
 have hv:=impl_varsOf [a,b] (by simp) (fun t ht=>by
  simp only [List.mem_cons,List.not_mem_nil,or_false] at ht
  rcases ht with rfl | rfl
  · exact ⟨ha,ta.ge⟩
  · exact ⟨hb,tb.ge⟩) (by simp; omega)
 have hvl:=varsOf_length [a,b]
 have hc:=slices_ContainsFunc_Sint64_at1_impl_EquationFault_1 (varsOf [a,b]) (by simp at hvl; omega)
 simp only [h2,h3,evz,Nat.reduceLT,not_true_eq_false,show LIM F.impl_varsOf [.sl 1 [slc a,slc b]]=_ from hv,hc.eq]
 have e1:((varsOf [a,b]).any fun n=>decide (n ≥ 6)) = !(low6 a&&low6 b):=by
  rw [Bool.eq_iff_iff,List.any_eq_true,Bool.not_eq_true',Bool.eq_false_iff,ne_eq,Bool.and_eq_true,low6_iff,low6_iff]
  constructor
  · rintro ⟨v,hv,h6⟩ ⟨q1,q2⟩
    rw [decide_eq_true_eq] at h6
    obtain ⟨_,t,ht,hm⟩:=mem_varsOf.1 hv
    simp only [List.mem_cons,List.not_mem_nil,or_false] at ht
    rcases ht with rfl | rfl
    · have:=q1 _ hm; omega
    · have:=q2 _ hm; omega
  · intro h
    by_cases q1:∀ n∈a,-6≤n
    · have q2:¬ ∀ n∈b,-6≤n:=fun q2=>h ⟨q1,q2⟩
      simp only [Classical.not_forall] at q2
      obtain ⟨n,hn,hlt⟩:=q2
      exact ⟨-1 - n,mem_varsOf.2 ⟨by omega,b,by simp,by rw [show -1 - (-1 - n)=n by omega]; exact hn⟩,by simp; omega⟩
    · simp only [Classical.not_forall] at q1
      obtain ⟨n,hn,hlt⟩:=q1
      exact ⟨-1 - n,mem_varsOf.2 ⟨by omega,a,by simp,by rw [show -1 - (-1 - n)=n by omega]; exact hn⟩,by simp; omega⟩
 rw [e1]
 cases low6 a <;> cases low6 b <;> rfl
theorem spec_l4Fault (l:List Symbol) (ok:SigOk ⟨l⟩) (a b:List Int) (ha:a.length≤4294967296) (hb:b.length≤4294967296) :
 Call F.spec_l4Fault [.rref [slc l] 0,.rref [slc a,slc b] 0] (.int .i64 (eqFault l ⟨a,b⟩)):=by
 have la:Call F.spec_l4Low [slc a] (.bool (low6 a)):=spec_l4Low a ha
 have lb:Call F.spec_l4Low [slc b] (.bool (low6 b)):=spec_l4Low b hb
 refine call_of rfl 0 ((spec_l4Fault.ev _ _ _ _).trans ?_)
 simp only [evz,Nat.reduceLT,(spec_l3Fault l ok a ha).eq,(spec_l3Fault l ok b hb).eq,la.eq,lb.eq,eqFault]
 by_cases h2:termFault0 l a=0
 case neg=>simp only [h2,evz,Nat.reduceLT,ne_eq,not_false_eq_true]
 by_cases h3:termFault0 l b=0
 case neg=>simp only [h2,h3,evz,Nat.reduceLT,ne_eq,not_true_eq_false,not_false_eq_true]
 simp only [h2,h3,evz,Nat.reduceLT,ne_eq,not_true_eq_false]
 cases low6 a <;> cases low6 b <;> rfl
theorem eqs_sm {es:List Equation} {k:Nat} (he:sm 4294967296 es) (h:k < es.length):es[k].left.length≤4294967296∧es[k].right.length≤4294967296:=by
 have:=he.2 es[k] (List.getElem_mem h)
 exact ⟨this.1.1,this.2.1⟩
theorem impl_EquationsFault (l:List Symbol) (hs:l.length≤4294967296) (es:List Equation) (he:sm 4294967296 es) :
 Call F.impl_EquationsFault [.agg [slc l],slc es] (.int .i64 (if sigFault ⟨l⟩≠0 then sigFault ⟨l⟩ else eqsFault l es)):=by
 refine call_of rfl (es.length+1) ((impl_EquationsFault.ev _ _ _).trans ?_)
 simp only [evz,Nat.reduceLT,(impl_SignatureFault l hs).eq,eqsFault,gt_iff_lt]
 by_cases h1:sigFault ⟨l⟩=0
 case neg=>simp only [h1,evz,Nat.reduceLT,ne_eq,not_false_eq_true]
 by_cases h2:12 < es.length
 · have h2':(12:Int) < es.length:=by omega
   simp only [h1,h2,h2',evz,Nat.reduceLT,ne_eq,not_true_eq_false]
 have h2':¬ (12:Int) < es.length:=by omega
 simp only [h1,h2,h2',evz,Nat.reduceLT,ne_eq,not_true_eq_false]
 refine (scan_loop (l:=es) (g:=fun e=>if eqFault l e≠0 then some (some (.int .i64 (eqFault l e),[])) else none) (z:=some (.int .i64 0,[])) (S:=fun m k=>impl_EquationsFault.at0 (es.length+1) m (impl_EquationsFault.st0 (cells es) es.length (k:Nat) (cells l)))
  (fun m k h => ?_) (fun m => ?_) (Nat.lt_succ_self _)).trans ?_
 · have hlk:es[k]?=some es[k]:=List.getElem?_eq_getElem h
   obtain ⟨q1,q2⟩:=eqs_sm he h
   have hc:=impl_EquationFault l hs es[k].left es[k].right q1 q2
   rw [if_neg (by simpa using h1)] at hc
   simp only [impl_EquationsFault.next0,impl_EquationsFault.round0,evz,Nat.reduceLT,h,hlk,enc_Equation,hc.eq]
   rw [wrap_succ (by omega)]
   by_cases e:eqFault l es[k]=0
   · simp [e]
   · simp [e]
 · simp only [impl_EquationsFault.next0,impl_EquationsFault.round0,evz,Nat.reduceLT,Nat.lt_irrefl]
 · have:=findSome_map (fun e=>if eqFault l e≠0 then some (eqFault l e) else none) (fun n=>(some (T.int .i64 n,[]):R)) es
   rw [show (fun e=>(if eqFault l e≠0 then some (eqFault l e) else none).map fun n=>(some (T.int .i64 n,[]):R))=fun e=>if eqFault l e≠0 then some (some (T.int .i64 (eqFault l e),[])) else none from funext fun e=>by by_cases h:eqFault l e=0 <;> simp [h]] at this
   rw [this]
   cases es.findSome? fun e=>if eqFault l e≠0 then some (eqFault l e) else none <;> rfl
theorem spec_l5Fault (l:List Symbol) (ok:SigOk ⟨l⟩) (es:List Equation) (he:sm 4294967296 es):Call F.spec_l5Fault [.rref [slc l] 0,slc es] (.int .i64 (eqsFault l es)):=by
 refine call_of rfl (es.length+1) ((spec_l5Fault.ev _ _ _).trans ?_)
 simp only [evz,Nat.reduceLT,eqsFault,gt_iff_lt]
 by_cases h2:12 < es.length
 · have h2':(12:Int) < es.length:=by omega
   simp only [h2,h2',evz,Nat.reduceLT]
 have h2':¬ (12:Int) < es.length:=by omega
 simp only [h2,h2',evz,Nat.reduceLT]
 refine (scan_loop (l:=es) (g:=fun e=>if eqFault l e≠0 then some (some (.int .i64 (eqFault l e),[])) else none) (z:=some (.int .i64 0,[])) (S:=fun m k=>spec_l5Fault.at0 (es.length+1) m (spec_l5Fault.st0 (cells l) (cells es) (k:Nat)))
  (fun m k h => ?_) (fun m => ?_) (Nat.lt_succ_self _)).trans ?_
 · have hlk:es[k]?=some es[k]:=List.getElem?_eq_getElem h
   obtain ⟨q1,q2⟩:=eqs_sm he h
   have hc:=spec_l4Fault l ok es[k].left es[k].right q1 q2
   simp only [spec_l5Fault.next0,spec_l5Fault.round0,evz,Nat.reduceLT,h,hlk,cells_window sz_Equation hlk,enc_Equation,hc.eq]
   rw [wrap_succ (by omega)]
   by_cases e:eqFault l es[k]=0
   · simp [e]
   · simp [e]
 · simp only [spec_l5Fault.next0,spec_l5Fault.round0,evz,Nat.reduceLT,Nat.lt_irrefl]
 · have:=findSome_map (fun e=>if eqFault l e≠0 then some (eqFault l e) else none) (fun n=>(some (T.int .i64 n,[]):R)) es
   rw [show (fun e=>(if eqFault l e≠0 then some (eqFault l e) else none).map fun n=>(some (T.int .i64 n,[]):R))=fun e=>if eqFault l e≠0 then some (some (T.int .i64 (eqFault l e),[])) else none from funext fun e=>by by_cases h:eqFault l e=0 <;> simp [h]] at this
   rw [this]
   cases es.findSome? fun e=>if eqFault l e≠0 then some (eqFault l e) else none <;> rfl
end Ev.Ty
end
section
namespace Ev.Ty
open Go Ev
open Enc (enc)
open Sm (sm)
set_option linter.unusedVariables false
set_option linter.unusedSimpArgs false
theorem spec_l1Same (l r:List Int) (hs:sm 4294967296 l):Call F.spec_l1Same [slc l,slc r] (.bool (decide (l=r))):=by
 refine call_of rfl (l.length+1) ((spec_l1Same.ev _ _ _).trans ?_)
 simp only [cells_div,sz_int]
 by_cases hl:l.length=r.length
 · have loop:=eq_loop hl (S:=fun m k=>spec_l1Same.at0 (l.length+1) m (spec_l1Same.st0 (cells l) (cells r) (k:Nat)))
    (fun m k h h'=>by
     have hlk:l[k]?=some l[k]:=List.getElem?_eq_getElem h
     have hrk:r[k]?=some r[k]:=List.getElem?_eq_getElem h'
     simp only [spec_l1Same.next0,spec_l1Same.round0,evz,Nat.reduceLT,h,h',hlk,hrk,cells_window (l:=l) sz_int hlk,cells_window (l:=r) sz_int hrk,enc_int,enc_u8]
     rw [wrap_succ (by have:=hs.1; omega)])
    (fun m=>by
     simp only [spec_l1Same.next0,spec_l1Same.round0,evz,Nat.reduceLT,Nat.lt_irrefl])
   rw [cond_neg (by rw [hl]; exact bne_self_eq_false _)]
   exact loop
 · rw [cond_pos (by simp; omega)]
   simp only [show (l=r)=False from eq_false fun e=>hl (e ▸ rfl),decide_false]
theorem slices_Equal_Sint64 (l r:List Int) (hs:sm 4294967296 l):Call F.slices_Equal_Sint64 [slc l,slc r] (.bool (decide (l=r))):=by
 refine call_of rfl (l.length+1) ((slices_Equal_Sint64.ev _ _ _).trans ?_)
 simp only [cells_div,sz_int]
 by_cases hl:l.length=r.length
 · have loop:=eq_loop hl (S:=fun m k=>slices_Equal_Sint64.at0 (l.length+1) m (slices_Equal_Sint64.st0 (cells l) (cells r) l.length (k:Nat)))
    (fun m k h h'=>by
     have hlk:l[k]?=some l[k]:=List.getElem?_eq_getElem h
     have hrk:r[k]?=some r[k]:=List.getElem?_eq_getElem h'
     simp only [slices_Equal_Sint64.next0,slices_Equal_Sint64.round0,evz,Nat.reduceLT,h,h',hlk,hrk,cells_window (l:=l) sz_int hlk,cells_window (l:=r) sz_int hrk,enc_int,enc_u8]
     rw [wrap_succ (by have:=hs.1; omega)])
    (fun m=>by
     simp only [slices_Equal_Sint64.next0,slices_Equal_Sint64.round0,evz,Nat.reduceLT,Nat.lt_irrefl])
   rw [cond_neg (by rw [hl]; exact bne_self_eq_false _)]
   exact loop
 · rw [cond_pos (by simp; omega)]
   simp only [show (l=r)=False from eq_false fun e=>hl (e ▸ rfl),decide_false]
theorem impl_Entry_equation (a b c d e:Int) (l r:List Int):Call F.impl_Entry_equation [.agg [.int .i64 a,.int .i64 b,.int .i64 c,.int .i64 d,.int .i64 e,slc l,slc r]] (.agg [slc l,slc r]) :=
 call_of rfl 0 ((impl_Entry_equation.ev _ _ _ _ _ _ _ _).trans rfl)
end Ev.Ty
end
section
namespace Ev.Ty
open Go Ev
open Enc (enc)
open Sm (sm)
set_option linter.unusedSimpArgs false
set_option linter.unusedVariables false
theorem firstCode2 (a b:Int):Call F.impl_firstCode [.sl 1 [.int .i64 a,.int .i64 b]] (.int .i64 (if a=0 then b else a)):=impl_firstCode2 a b
theorem skip_inner {a:Int→Nat}:∀ {t r:List Int} {k p:Nat},skip a k t=some r→p+r.length < t.length→∃ q,skip a 1 (t.drop p)=some q
 | [],r,k,p,h,hp=>by simp at hp
 | n::t,r,0,p,h,hp=>by
   rw [skip_zero] at h; cases h; omega
 | n::t,r,k+1,0,h,hp=>by
   rw [show k+1=1+k by omega,skip_add] at h
   cases h1:skip a 1 (n::t) with
   | none=>rw [h1] at h; cases h
   | some q=>exact ⟨q,by simpa using h1⟩
 | n::t,r,k+1,p+1,h,hp=>by
   rw [skip] at h
   obtain ⟨q,hq⟩:=skip_inner (p:=p) h (by simp at hp; omega)
   exact ⟨q,by simpa using hq⟩
def endAt (l:List Symbol) (t:List Int) (p:Nat):Nat:=match skip (ar l) 1 (t.drop p) with
 | some r=>t.length - r.length
 | none=>t.length
theorem endAt_spec {l:List Symbol} {t:List Int} (ok:TermOk l t) {p:Nat} (hp:p < t.length) :
 p < endAt l t p∧endAt l t p≤t.length∧∀ z,endRes z t (skip (ar l) 1 (t.drop p))=(endAt l t p:Nat):=by
 obtain ⟨q,hq⟩:=skip_inner (p:=p) ok.skip (by simpa using hp)
 have h:=skip_at hq
 unfold endAt
 rw [hq]
 refine ⟨?_,by simp only; omega,fun z=>rfl⟩
 have:=h.2.2 (by omega)
 simp only
 omega
section
variable {l:List Symbol} (ok:SigOk ⟨l⟩)
include ok
theorem endOf_at {t:List Int} (ht:TermOk l t) {p:Nat} (hp:p < t.length):Call F.impl_endOf [.agg [slc l],slc t,.int .i64 p] (.int .i64 (endAt l t p:Nat)):=by
 have h:=impl_endOf ok t ht.node (by have:=ht.le; omega) p (Nat.le_of_lt hp)
 rwa [(endAt_spec ht hp).2.2] at h
theorem l3End_at {t:List Int} (ht:TermOk l t) {p:Nat} (hp:p < t.length):Call F.spec_l3End [.rref [slc l] 0,slc t,.int .i64 p] (.int .i64 (endAt l t p:Nat)):=by
 have h:=spec_l3End ok t ht.node (by have:=ht.le; omega) p (Nat.le_of_lt hp)
 rwa [(endAt_spec ht hp).2.2] at h
end
theorem cells_cut (t:List Int) (i j:Nat):((cells t).take (j*1)).drop (i*1)=cells ((t.take j).drop i):=by
 rw [cells_take t 1 j rfl,cells_drop _ 1 i rfl]
def subAt (l:List Symbol) (t:List Int) (p:Nat):List Int:=(t.take (endAt l t p)).drop p
theorem slc_cut (t:List Int) (i j:Nat):T.sl 1 (((cells t).take (j*1)).drop (i*1))=slc ((t.take j).drop i):=by rw [cells_cut]; rfl
theorem spec_l1Ints' (l:List Int) (h:l.length≤4294967296):Call F.spec_l1Ints [slc l] (slc l):=by
 refine call_of rfl 0 ((spec_l1Ints.ev _ _).trans ?_)
 rw [scalars_int,cond_pos rfl,cond_pos (ble_ok (by rw [cells_length,sz_int]; omega))]
 rfl
theorem slices_Clone_Sint64 (l:List Int) (h:l.length≤4294967296):Call F.slices_Clone_Sint64 [slc l] (slc l):=by
 refine lim_ext (e:=cloneE) rfl (Ev.of fun m => ?_)
 show (intsOf (cells l)).bind _=_
 rw [← intsT_cells,intsOf_intsT]
 show (bif _ then _ else _)=_
 rw [cond_pos (by rw [decide_eq_true_iff]; omega),intsT_cells]
 rfl
section
variable {l:List Symbol} (ok:SigOk ⟨l⟩)
include ok
theorem impl_subterm {t:List Int} (ht:TermOk l t) {p:Nat} (hp:p < t.length):Call F.impl_subterm [.agg [slc l],slc t,.int .i64 p] (slc (subAt l t p)):=by
 refine call_of rfl 0 ((impl_subterm.ev _ _ _ _).trans ?_)
 obtain ⟨h1,h2,_⟩:=endAt_spec ht hp
 simp only [evz,Nat.reduceLT,(endOf_at ok ht hp).eq]
 rw [cond_pos (by simp; omega),slc_cut]
 rfl
theorem spec_l3Sub {t:List Int} (ht:TermOk l t) {p:Nat} (hp:p < t.length):Call F.spec_l3Sub [.rref [slc l] 0,slc t,.int .i64 p] (slc (subAt l t p)):=by
 refine call_of rfl 0 ((spec_l3Sub.ev _ _ _ _).trans ?_)
 obtain ⟨h1,h2,_⟩:=endAt_spec ht hp
 have hle:=ht.le
 simp only [evz,Nat.reduceLT,(l3End_at ok ht hp).eq]
 rw [cond_pos (by simp; omega),slc_cut,(spec_l1Ints' _ (by simp; omega)).eq]
 simp only [evz,Nat.reduceLT]
 rfl
def replAt (l:List Symbol) (t:List Int) (p:Nat) (by_:List Int):List Int:=(t.take p++by_)++t.drop (endAt l t p)
theorem impl_replaced {t:List Int} (ht:TermOk l t) {p:Nat} (hp:p < t.length) (by_:List Int) (hb:by_.length≤1048576):Call F.impl_replaced [.agg [slc l],slc t,.int .i64 p,slc by_] (slc (replAt l t p by_)):=by
 refine call_of rfl 0 ((impl_replaced.ev _ _ _ _ _).trans ?_)
 obtain ⟨h1,h2,_⟩:=endAt_spec ht hp
 have hle:=ht.le
 simp only [cells_div,sz_int,Int.toNat_natCast]
 rw [cond_pos (by simp; omega),slc_cut,(slices_Clone_Sint64 _ (by simp; omega)).eq]
 simp only [evz,Nat.reduceLT,scalars_int,(endOf_at ok ht hp).eq,cells_cut,← cells_append,cells_div,sz_int,Int.toNat_natCast]
 rw [cond_pos (ble_ok (by rw [cells_length,cells_length,sz_int]; simp; omega)),cond_pos (by simp; omega),cond_pos (ble_ok (by rw [cells_length,cells_length,sz_int]; simp; omega))]
 simp [replAt,slc]
theorem spec_l3Replace {t:List Int} (ht:TermOk l t) {p:Nat} (hp:p < t.length) (by_:List Int) (hb:by_.length≤1048576):Call F.spec_l3Replace [.rref [slc l] 0,slc t,.int .i64 p,slc by_] (slc (replAt l t p by_)):=by
 refine call_of rfl 0 ((spec_l3Replace.ev _ _ _ _ _).trans ?_)
 obtain ⟨h1,h2,_⟩:=endAt_spec ht hp
 have hle:=ht.le
 simp only [cells_div,sz_int,Int.toNat_natCast]
 rw [cond_pos (by simp; omega),slc_cut,(spec_l1Ints' _ (by simp; omega)).eq]
 simp only [evz,Nat.reduceLT,scalars_int,(l3End_at ok ht hp).eq,cells_cut,← cells_append,cells_div,sz_int,Int.toNat_natCast]
 rw [cond_pos (ble_ok (by rw [cells_length,cells_length,sz_int]; simp; omega)),cond_pos (by simp; omega),cond_pos (ble_ok (by rw [cells_length,cells_length,sz_int]; simp; omega))]
 simp [replAt,slc]
end
theorem replAt_length {l:List Symbol} {t:List Int} {p:Nat} {by_:List Int}:(replAt l t p by_).length≤t.length+by_.length+t.length:=by simp [replAt]; omega
def bindOf (vs:List Int) (ts:List (List Int)) (v:Int):Option (List Int):=if idx (fun x=>decide (x=v)) vs < 0 then none else ts[(idx (fun x=>decide (x=v)) vs).toNat]?
theorem slices_Index_Sint64 (l:List Int) (x:Int) (hl:l.length≤4294967296):Call F.slices_Index_Sint64 [slc l,.int .i64 x] (.int .i64 (idx (fun y=>decide (y=x)) l)):=by
 refine call_of rfl (l.length+1) ((slices_Index_Sint64.ev _ _ _).trans ?_)
 simp only [evz,Nat.reduceLT]
 refine idx_loop (S:=fun m k=>slices_Index_Sint64.at0 (l.length+1) m (slices_Index_Sint64.st0 (cells l) x l.length (k:Nat))) (fun m k h => ?_) (fun m => ?_) (Nat.lt_succ_self _)
 · have hlk:l[k]?=some l[k]:=List.getElem?_eq_getElem h
   simp only [slices_Index_Sint64.next0,slices_Index_Sint64.round0,evz,Nat.reduceLT,h,hlk,enc_int]
   rw [wrap_succ (by omega)]
   by_cases e:x=l[k]
   · simp [e]
   · have e':¬ l[k]=x:=fun h=>e h.symm
     simp [e,e']
 · simp only [slices_Index_Sint64.next0,slices_Index_Sint64.round0,evz,Nat.reduceLT,Nat.lt_irrefl]
def ofT:Option (List Int)→T
 | some t => .tup [slc t,.bool true]
 | none => .tup [slc ([]:List Int),.bool false]
theorem impl_Binding_of (vs:List Int) (ts:List (List Int)) (v:Int) (hl:vs.length=ts.length) (hs:vs.length≤4294967296):Call F.impl_Binding_of [.agg [slc vs,slc ts],.int .i64 v] (ofT (bindOf vs ts v)):=by
 refine call_of rfl 0 ((impl_Binding_of.ev _ _ _ _).trans ?_)
 simp only [evz,Nat.reduceLT,(slices_Index_Sint64 vs v hs).eq,bindOf]
 rcases idx_spec (fun x:Int=>decide (x=v)) vs with ⟨h,_⟩ | ⟨i,hi,h,_,_⟩
 · simp only [h,evz,Nat.reduceLT,ofT,slc_nil,show ((-1:Int) < 0)=True from by simp]
 · have hn:¬ ((i:Nat):Int) < 0:=by omega
   have hit:i < ts.length:=by omega
   simp only [h,hn,evz,Nat.reduceLT,hit,List.getElem?_eq_getElem,enc_list,ofT]
theorem spec_l6Term (vs:List Int) (ts:List (List Int)) (v:Int) (hl:vs.length=ts.length) (hs:vs.length≤4294967296):Call F.spec_l6Term [.rref [slc vs,slc ts] 0,.int .i64 v] (slc ((bindOf vs ts v).getD [])):=by
 refine call_of rfl (vs.length+1) ((spec_l6Term.ev _ _ _ _).trans ?_)
 have loop:=scan_loop (l:=List.range vs.length) (g:=fun k=>if vs[k]?=some v then some (some (slc (ts[k]?.getD []),[])) else none) (z:=some (slc ([]:List Int),[]))
  (S:=fun m k=>spec_l6Term.at0 (vs.length+1) m (spec_l6Term.st0 (cells vs) (cells ts) v (k:Nat))) (fun m k h => ?_) (fun m => ?_) (f:=vs.length+1) (by simp)
 · refine loop.trans ?_
   unfold bindOf
   rcases idx_spec (fun x:Int=>decide (x=v)) vs with ⟨h,hno⟩ | ⟨i,hi,h,hyes,hno⟩
   · rw [h,if_pos (by omega)]
     have:(List.range vs.length).findSome? (fun k=>if vs[k]?=some v then some ((some (slc (ts[k]?.getD []),[]):R)) else none)=none:=by
      rw [List.findSome?_eq_none_iff]
      intro k hk
      rw [List.mem_range] at hk
      rw [if_neg]
      rw [List.getElem?_eq_getElem hk]
      intro e
      have:=hno _ (List.getElem_mem hk)
      simp at this e
      exact this e
     rw [this]; rfl
   · rw [h,if_neg (by omega)]
     have hit:i < ts.length:=by omega
     have:(List.range vs.length).findSome? (fun k=>if vs[k]?=some v then some ((some (slc (ts[k]?.getD []),[]):R)) else none)=some (some (slc ts[i],[])):=by
      rw [List.findSome?_eq_some_iff]
      refine ⟨List.range i,i,(List.range' (i+1) (vs.length - i - 1)),?_,?_,?_⟩
      · rw [List.range_eq_range',List.range_eq_range',← List.range'_succ,show vs.length - i - 1+1=vs.length - i by omega]
        have:=List.range'_append (s:=0) (m:=i) (n:=vs.length - i) (step:=1)
        simp only [Nat.one_mul,Nat.zero_add] at this
        rw [this,Nat.add_sub_cancel' (Nat.le_of_lt hi)]
      · have e1:vs[i]?=some v:=(List.getElem?_eq_getElem hi).trans (congrArg some (of_decide_eq_true hyes))
        have e2:ts[i]?=some ts[i]:=List.getElem?_eq_getElem hit
        simp only [e1,e2,if_true,Option.getD_some]
      · intro k hk
        rw [List.mem_range] at hk
        rw [if_neg]
        rw [List.getElem?_eq_getElem (by omega)]
        intro e
        have:=hno k hk
        simp at this e
        exact this e
     rw [this,Int.toNat_natCast,List.getElem?_eq_getElem hit]; rfl
 · rw [List.length_range] at h
   have hlk:vs[k]?=some vs[k]:=List.getElem?_eq_getElem h
   have hkt:k < ts.length:=by omega
   simp only [spec_l6Term.next0,spec_l6Term.round0,evz,Nat.reduceLT,h,hkt,hlk,List.getElem?_eq_getElem,enc_int,enc_list,List.getElem_range,Option.getD_some,Option.some.injEq]
   rw [wrap_succ (by omega)]
   by_cases e:vs[k]=v <;> simp [e]
 · rw [List.length_range]
   simp only [spec_l6Term.next0,spec_l6Term.round0,evz,Nat.reduceLT,Nat.lt_irrefl,slc_nil]
def applied (vs:List Int) (ts:List (List Int)) (t:List Int):List Int:=t.flatMap fun n=>(bindOf vs ts (-1 - n)).getD [n]
structure BindOk (vs:List Int) (ts:List (List Int)):Prop where
 len:vs.length=ts.length
 le:vs.length≤1000
 nn:∀ v∈vs,0≤v
 tm:∀ t∈ts,1≤t.length∧t.length≤4096
theorem bindOf_neg {vs:List Int} {ts:List (List Int)} (ok:BindOk vs ts) {v:Int} (hv:v < 0):bindOf vs ts v=none:=by
 unfold bindOf
 rcases idx_spec (fun x:Int=>decide (x=v)) vs with ⟨h,_⟩ | ⟨i,hi,h,hy,_⟩
 · rw [if_pos (by omega)]
 · have:=ok.nn _ (List.getElem_mem hi)
   simp at hy; omega
theorem bindOf_mem {vs:List Int} {ts:List (List Int)} {v:Int} {t:List Int} (h:bindOf vs ts v=some t):t∈ts:=by
 unfold bindOf at h
 split at h
 · cases h
 · exact List.mem_of_getElem? h
def appStep (vs:List Int) (ts:List (List Int)) (o:List Int) (n:Int):List Int:=o++(bindOf vs ts (-1 - n)).getD [n]
theorem app_fold (vs:List Int) (ts:List (List Int)):∀ (t o:List Int),t.foldl (appStep vs ts) o=o++applied vs ts t
 | [],o=>by simp [applied]
 | n::t,o=>by
   rw [List.foldl_cons,app_fold vs ts t]
   simp [appStep,applied]
def appI (k:Nat) (o:List Int):Prop:=o.length≤k*4096
theorem appI_step {vs:List Int} {ts:List (List Int)} (ok:BindOk vs ts) {k:Nat} {o:List Int} {n:Int} (h:appI k o):appI (k+1) (appStep vs ts o n):=by
 unfold appI appStep at *
 rw [List.length_append]
 cases hb:bindOf vs ts (-1 - n) with
 | none=>simp; omega
 | some t=>have:=(ok.tm t (bindOf_mem hb)).2; simp; omega
theorem applied_length {vs:List Int} {ts:List (List Int)} (ok:BindOk vs ts) (t:List Int):(applied vs ts t).length≤t.length*4096:=by
 have:=fold_inv (l:=t) (g:=appStep vs ts) appI (fun k o _ h=>appI_step ok h) [] (by simp [appI])
 rw [app_fold] at this
 simpa [appI] using this
theorem impl_Binding_applied (vs:List Int) (ts:List (List Int)) (ok:BindOk vs ts) (t:List Int) (ht:t.length≤4096) (hr:∀ n∈t,-4611686018427387904≤n∧n≤4611686018427387904):Call F.impl_Binding_applied [.agg [slc vs,slc ts],slc t] (slc (applied vs ts t)):=by
 have hle:=ok.le
 refine call_of rfl (t.length+1) ((impl_Binding_applied.ev _ _ _ _).trans ?_)
 simp only [cells_div,sz_int]
 have key:=fold_loop (l:=t) (f:=t.length+1) (S:=fun m k (o:List Int)=>impl_Binding_applied.at0 (t.length+1) m (impl_Binding_applied.st0 (cells t) t.length (k:Nat) (cells vs) (cells ts) (cells o))) (g:=appStep vs ts) (z:=fun (o:List Int)=>some (slc o,[])) appI
  (fun m k o h ho => ?_) (fun k o h ho=>appI_step ok ho) (fun m o ho => ?_) [] (by simp [appI]) (by omega)
 · rw [app_fold] at key; exact key
 · have hn:=hr _ (List.getElem_mem h)
   have ho:o.length≤k*4096:=ho
   simp only [impl_Binding_applied.next0,impl_Binding_applied.round0,evz,Nat.reduceLT,h,List.getElem?_eq_getElem,enc_int,wrap64 (x := -1 - t[k]) (by omega),(impl_Binding_of vs ts (-1 - t[k]) ok.len (by omega)).eq,appStep]
   cases hb:bindOf vs ts (-1 - t[k]) with
   | none =>
     simp only [ofT,evz,Nat.reduceLT,scalars_int,Option.getD_none,← cells_append]
     rw [cond_pos (ble_ok (by rw [cells_length,sz_int]; omega)),cells_snoc_int,wrap_succ (by omega)]
   | some x =>
     have hx:=(ok.tm x (bindOf_mem hb)).2
     simp only [ofT,evz,Nat.reduceLT,scalars_int,Option.getD_some,← cells_append]
     rw [cond_pos (ble_ok (by rw [cells_length,cells_length,sz_int]; omega)),wrap_succ (by omega)]
 · simp only [impl_Binding_applied.next0,impl_Binding_applied.round0,evz,Nat.reduceLT,Nat.lt_irrefl]
theorem spec_l6Apply (vs:List Int) (ts:List (List Int)) (ok:BindOk vs ts) (t:List Int) (ht:t.length≤4096) (hr:∀ n∈t,-4611686018427387904≤n∧n≤4611686018427387904):Call F.spec_l6Apply [.rref [slc vs,slc ts] 0,slc t] (slc (applied vs ts t)):=by
 have hle:=ok.le
 refine call_of rfl (t.length+1) ((spec_l6Apply.ev _ _ _ _).trans ?_)
 have key:=fold_loop (l:=t) (f:=t.length+1) (S:=fun m k (o:List Int)=>spec_l6Apply.at0 (t.length+1) m (spec_l6Apply.st0 (cells vs) (cells ts) (cells t) (k:Nat) (cells o))) (g:=appStep vs ts) (z:=fun (o:List Int)=>some (slc o,[])) appI
  (fun m k o h ho => ?_) (fun k o h ho=>appI_step ok ho) (fun m o ho => ?_) [] (by simp [appI]) (by omega)
 · rw [app_fold] at key; exact key
 · have hn:=hr _ (List.getElem_mem h)
   have ho:o.length≤k*4096:=ho
   by_cases hneg:t[k] < 0
   · simp only [spec_l6Apply.next0,spec_l6Apply.round0,evz,Nat.reduceLT,h,List.getElem?_eq_getElem,enc_int,hneg,wrap64 (x := -1 - t[k]) (by omega),(spec_l6Term vs ts (-1 - t[k]) ok.len (by omega)).eq,appStep]
     cases hb:bindOf vs ts (-1 - t[k]) with
     | none =>
       simp only [slc_nil,evz,Nat.reduceLT,List.all_nil,Option.getD_none,cells_nil,List.length_nil,← cells_append,Int.natCast_zero,Nat.zero_div,Int.ofNat_zero]
       rw [cond_pos (ble_ok (by rw [cells_length,sz_int]; omega)),cells_snoc_int,wrap_succ (by omega)]
     | some x =>
       have hx:=ok.tm x (bindOf_mem hb)
       have hx0:¬ ((x.length:Int)=0):=by omega
       simp only [evz,Nat.reduceLT,scalars_int,Option.getD_some,hx0,← cells_append]
       rw [cond_pos (ble_ok (by rw [cells_length,cells_length,sz_int]; omega)),wrap_succ (by omega)]
   · simp only [spec_l6Apply.next0,spec_l6Apply.round0,evz,Nat.reduceLT,h,List.getElem?_eq_getElem,enc_int,hneg,appStep,bindOf_neg ok (v := -1 - t[k]) (by omega),Option.getD_none]
     rw [cond_pos (ble_ok (by rw [cells_length,sz_int]; omega)),cells_snoc_int,wrap_succ (by omega)]
 · simp only [spec_l6Apply.next0,spec_l6Apply.round0,evz,Nat.reduceLT,Nat.lt_irrefl]
theorem getD_at {vs:List Int} {k:Nat} (h:k < vs.length):vs.getD k 0=vs[k]:=by rw [List.getD_eq_getElem?_getD,List.getElem?_eq_getElem h]; rfl
end Ev.Ty
end
section
namespace Ev.Ty
open Go Ev
open Enc (enc)
open Sm (sm)
set_option linter.unusedSimpArgs false
set_option linter.unusedVariables false
theorem TermOk.range {l:List Symbol} (ok:SigOk ⟨l⟩) {t:List Int} (h:TermOk l t):∀ n∈t,-4611686018427387904≤n∧n≤4611686018427387904:=fun n hn=>by
 have:=nodeOk_iff.1 (h.node n hn)
 have hle:l.length≤6:=ok.le
 omega
theorem impl_fitting (t:List Int):Call F.impl_fitting [slc t] (.agg (enc (if 24 < t.length then (⟨2,[]⟩:TermResult) else ⟨0,t⟩))):=by
 refine call_of rfl 0 ((impl_fitting.ev _ _).trans ?_)
 simp only [evz,Nat.reduceLT,gt_iff_lt]
 by_cases h:24 < t.length
 · have h':(24:Int) < t.length:=by omega
   simp only [h,h',evz,Nat.reduceLT,enc_TermResult,slc_nil]
 · have h':¬ (24:Int) < t.length:=by omega
   simp only [h,h',evz,Nat.reduceLT,enc_TermResult]
theorem spec_l3Place (t:List Int) (n:Int) (hl:t.length≤4294967296):Call F.spec_l3Place [slc t,.int .i64 n] (.bool (inR n 0 (t.length - 1))):=by
 refine call_of rfl 0 ((spec_l3Place.ev _ _ _).trans ?_)
 simp only [evz,Nat.reduceLT,wrap64 (x:=(t.length:Int) - 1) (by omega),(spec_l1In _ _ _).eq]
theorem getE {es:List Equation} {k:Nat} (h:k < es.length):es.getD k ⟨[],[]⟩=es[k]:=by rw [List.getD_eq_getElem?_getD,List.getElem?_eq_getElem h]; rfl
end Ev.Ty
end
section
namespace Ev.Ty
open Go Ev
open Enc (enc)
open Sm (sm)
set_option linter.unusedSimpArgs false
set_option linter.unusedVariables false
theorem skip_append {a:Int→Nat}:∀ {x r q:List Int} {k:Nat},skip a k x=some q→skip a k (x++r)=some (q++r)
 | x,r,q,0,h=>by rw [skip_zero] at h; cases h; rw [skip_zero]
 | [],r,q,k+1,h=>by cases h
 | n::x,r,q,k+1,h=>by
   rw [skip] at h
   rw [List.cons_append,skip]
   exact skip_append h
theorem skip_cut {a:Int→Nat}:∀ {x r:List Int} {k:Nat},skip a k (x++r)=some r→skip a k x=some []
 | x,r,0,h=>by
   rw [skip_zero] at h
   have:=congrArg List.length (Option.some.inj h)
   rw [List.length_append] at this
   have:x=[]:=List.eq_nil_of_length_eq_zero (by omega)
   subst this; rfl
 | [],r,k+1,h=>by
   obtain ⟨p,hp,hk⟩:=skip_suffix h
   have h1:=congrArg List.length hp
   rw [List.nil_append,List.length_append] at h1
   have h2:=hk (by omega)
   omega
 | n::x,r,k+1,h=>by
   rw [List.cons_append,skip] at h
   rw [skip]
   exact skip_cut h
theorem skip_nil {a:Int→Nat} {m:Nat} {r:List Int} (h:skip a m []=some r):m=0∧r=[]:=by
 cases m with
 | zero=>rw [skip_zero] at h; cases h; exact ⟨rfl,rfl⟩
 | succ m=>cases h
theorem sub_split {l:List Symbol} {t:List Int} (ht:TermOk l t) {p:Nat} (hp:p < t.length):t.drop p=subAt l t p++t.drop (endAt l t p)∧(subAt l t p).length=endAt l t p - p∧skip (ar l) 1 (t.drop p)=some (t.drop (endAt l t p)):=by
 obtain ⟨h1,h2,_⟩:=endAt_spec ht hp
 have hl:(subAt l t p).length=endAt l t p - p:=by simp [subAt]; omega
 refine ⟨?_,hl,?_⟩
 · have e:t.drop (endAt l t p)=(t.drop p).drop (endAt l t p - p):=by rw [List.drop_drop]; congr 1; omega
   have e2:subAt l t p=(t.drop p).take (endAt l t p - p):=by unfold subAt; rw [List.drop_take]
   rw [e,e2,List.take_append_drop]
 · obtain ⟨q,hq⟩:=skip_inner (p:=p) ht.skip (by simpa using hp)
   have:=(skip_at hq).1
   rw [hq]
   unfold endAt
   rw [hq]
   exact congrArg some this
theorem subAt_ok {l:List Symbol} {t:List Int} (ht:TermOk l t) {p:Nat} (hp:p < t.length):TermOk l (subAt l t p):=by
 obtain ⟨h1,h2,h3⟩:=sub_split ht hp
 obtain ⟨h4,h5,_⟩:=endAt_spec ht hp
 have:=ht.le
 refine ⟨by omega,by omega,fun n hn=>ht.node n ?_,?_⟩
 · exact List.mem_of_mem_drop (h1 ▸ List.mem_append_left _ hn)
 · rw [h1] at h3; exact skip_cut h3
theorem sub_place {l:List Symbol} {t:List Int} (ht:TermOk l t) {p:Nat} (hp:p < t.length) {i:Nat} (hi:i < (subAt l t p).length) :
 p+i < t.length∧(subAt l t p).getD i 0=t.getD (p+i) 0∧endAt l t (p+i)=p+endAt l (subAt l t p) i∧subAt l (subAt l t p) i=subAt l t (p+i):=by
 obtain ⟨h1,h2,h3⟩:=sub_split ht hp
 obtain ⟨h4,h5,_⟩:=endAt_spec ht hp
 have hu:=subAt_ok ht hp
 have hpi:p+i < t.length:=by omega
 obtain ⟨h6,h7,h8⟩:=sub_split hu hi
 obtain ⟨k1,k2,k3⟩:=sub_split ht hpi
 obtain ⟨h9,h10,_⟩:=endAt_spec hu hi
 obtain ⟨k4,k5,_⟩:=endAt_spec ht hpi
 have hd:t.drop (p+i)=(subAt l t p).drop i++t.drop (endAt l t p):=by
  rw [← List.drop_drop,h1,List.drop_append_of_le_length (by omega)]
 have e1:endAt l t (p+i)=p+endAt l (subAt l t p) i:=by
  have h:=skip_append (r:=t.drop (endAt l t p)) h8
  rw [← hd,k3] at h
  have:=congrArg List.length (Option.some.inj h)
  simp only [List.length_drop,List.length_append] at this
  omega
 refine ⟨hpi,?_,e1,?_⟩
 · have:=congrArg (fun x=>x[0]?) hd
   simp only [List.getElem?_drop,Nat.add_zero] at this
   rw [List.getD_eq_getElem?_getD,List.getD_eq_getElem?_getD,this,List.getElem?_append_left (by simp; omega),List.getElem?_drop,Nat.add_zero]
 · have q1:subAt l t (p+i)=(t.drop (p+i)).take (endAt l t (p+i) - (p+i)):=by unfold subAt; rw [List.drop_take]
   have q2:subAt l (subAt l t p) i=((subAt l t p).drop i).take (endAt l (subAt l t p) i - i):=by
    show ((subAt l t p).take (endAt l (subAt l t p) i)).drop i=_
    rw [List.drop_take]
   rw [q1,q2,hd,e1,List.take_append_of_le_length (by simp; omega)]
   congr 1; omega
abbrev Bnd:=List Int × List (List Int)
def insAt (vs:List Int) (v:Int):Nat:=(vs.takeWhile fun x=>decide (x < v)).length
def ins {α:Type} (l:List α) (i:Nat) (x:α):List α:=l.take i++x::l.drop i
def bput (b:Bnd) (v:Int) (t:List Int):Bnd:=(ins b.1 (insAt b.1 v) v,ins b.2 (insAt b.1 v) t)
theorem insAt_le (vs:List Int) (v:Int):insAt vs v≤vs.length:=by
 have:=(List.takeWhile_sublist (l:=vs) (p:=fun x=>decide (x < v))).length_le
 exact this
theorem insAt_lt:∀ (vs:List Int) (v:Int) (i:Nat) (h:i < insAt vs v) (h':i < vs.length),vs[i] < v
 | [],v,i,h,h'=>by simp at h'
 | x::vs,v,i,h,h'=>by
   unfold insAt at h
   rw [List.takeWhile_cons] at h
   by_cases hx:x < v
   · rw [if_pos (by simpa using hx)] at h
     cases i with
     | zero=>exact hx
     | succ i=>exact insAt_lt vs v i (by simpa [insAt] using h) (by simpa using h')
   · rw [if_neg (by simpa using hx)] at h; simp at h
theorem insAt_stop:∀ (vs:List Int) (v:Int) (h':insAt vs v < vs.length),¬ vs[insAt vs v] < v
 | [],v,h'=>by simp at h'
 | x::vs,v,h'=>by
   by_cases hx:x < v
   · have e:insAt (x::vs) v=insAt vs v+1:=by unfold insAt; rw [List.takeWhile_cons,if_pos (by simpa using hx)]; rfl
     have:=insAt_stop vs v (by rw [e] at h'; simpa using h')
     simpa [e] using this
   · have e:insAt (x::vs) v=0:=by unfold insAt; rw [List.takeWhile_cons,if_neg (by simpa using hx)]; rfl
     simpa [e] using hx
theorem ins_length {α:Type} (l:List α) (i:Nat) (x:α) (h:i≤l.length):(ins l i x).length=l.length+1:=by simp [ins]; omega
theorem mem_ins {α:Type} {l:List α} {i:Nat} {x y:α} (h:y∈ins l i x):y=x∨y∈l:=by
 unfold ins at h
 rcases List.mem_append.1 h with h | h
 · exact .inr (List.mem_of_mem_take h)
 · rcases List.mem_cons.1 h with h | h
   · exact .inl h
   · exact .inr (List.mem_of_mem_drop h)
structure MB (l:List Symbol) (b:Bnd) (k:Nat):Prop where
 len:b.1.length=b.2.length
 le:b.1.length≤k
 var:∀ v∈b.1,0≤v∧v≤11
 tm:∀ t∈b.2,TermOk l t
theorem MB.nil (l:List Symbol):MB l ([],[]) 0:=⟨rfl,Nat.le_refl _,by simp,by simp⟩
theorem MB.up {l:List Symbol} {b:Bnd} {k k':Nat} (h:MB l b k) (hk:k≤k'):MB l b k':=⟨h.len,Nat.le_trans h.le hk,h.var,h.tm⟩
theorem MB.put {l:List Symbol} {b:Bnd} {k:Nat} (h:MB l b k) {v:Int} (hv:0≤v∧v≤11) {t:List Int} (ht:TermOk l t):MB l (bput b v t) (k+1):=by
 have hi:=insAt_le b.1 v
 have hlen:=h.len
 have:=h.le
 refine ⟨?_,?_,fun x hx => ?_,fun x hx => ?_⟩
 · unfold bput; rw [ins_length _ _ _ hi,ins_length _ _ _ (by omega)]; omega
 · unfold bput; rw [ins_length _ _ _ hi]; omega
 · rcases mem_ins hx with rfl | hx
   · exact hv
   · exact h.var x hx
 · rcases mem_ins hx with rfl | hx
   · exact ht
   · exact h.tm x hx
theorem MB.ok {l:List Symbol} {b:Bnd} {k:Nat} (h:MB l b k) (hk:k≤24):BindOk b.1 b.2 :=
 ⟨h.len,by have:=h.le; omega,fun v hv=>(h.var v hv).1,fun t ht=>⟨(h.tm t ht).pos,by have:=(h.tm t ht).le; omega⟩⟩
theorem bindOf_none {vs:List Int} {ts:List (List Int)} (hl:vs.length=ts.length) {v:Int} (h:bindOf vs ts v=none):v∉vs:=fun hv=>by
 unfold bindOf at h
 rcases idx_spec (fun x:Int=>decide (x=v)) vs with ⟨h1,hno⟩ | ⟨i,hi,h1,_,_⟩
 · have:=hno v hv; simp at this
 · rw [h1,if_neg (by omega),Int.toNat_natCast,List.getElem?_eq_getElem (by omega)] at h
   cases h
def mgo (l:List Symbol) (t:List Int):List Int→Bnd→Nat→Option (Bnd × Nat)
 | [],b,p=>some (b,p)
 | n::q,b,p =>
   if t.length≤p then none
   else if 0≤n then (if t.getD p 0=n then mgo l t q b (p+1) else none)
   else match bindOf b.1 b.2 (-1 - n) with
    | none=>mgo l t q (bput b (-1 - n) (subAt l t p)) (p+(subAt l t p).length)
    | some o=>if o=subAt l t p then mgo l t q b (p+(subAt l t p).length) else none
structure Both (l:List Symbol) (t q:List Int) (p:Nat) (r:List Int):Prop where
 both:∃ m,skip (ar l) m q=some []∧skip (ar l) m (t.drop p)=some r
theorem Both.start {l:List Symbol} {t q:List Int} (ht:TermOk l t) (hq:TermOk l q) {p:Nat} (hp:p < t.length):Both l t q p (t.drop (endAt l t p)):=⟨1,hq.skip,(sub_split ht hp).2.2⟩
theorem Both.stop {l:List Symbol} {t:List Int} {p:Nat} {r:List Int} (h:Both l t [] p r):t.drop p=r:=by
 obtain ⟨m,h1,h2⟩:=h.both
 obtain ⟨rfl,_⟩:=skip_nil h1
 rw [skip_zero] at h2
 exact Option.some.inj h2
theorem Both.lt {l:List Symbol} {t q:List Int} {n:Int} {p:Nat} {r:List Int} (h:Both l t (n::q) p r):p < t.length:=by
 obtain ⟨m,h1,h2⟩:=h.both
 cases m with
 | zero=>rw [skip_zero] at h1; cases h1
 | succ m =>
   rcases Nat.lt_or_ge p t.length with h | h
   · exact h
   · rw [List.drop_of_length_le h] at h2; cases h2
theorem Both.node {l:List Symbol} {t q:List Int} {n:Int} {p:Nat} {r:List Int} (h:Both l t (n::q) p r) (hn:t.getD p 0=n):Both l t q (p+1) r:=by
 have hp:=h.lt
 obtain ⟨m,h1,h2⟩:=h.both
 cases m with
 | zero=>rw [skip_zero] at h1; cases h1
 | succ m =>
   rw [List.drop_eq_getElem_cons hp,skip,← getD_at hp,hn] at h2
   rw [skip] at h1
   exact ⟨_,h1,h2⟩
theorem Both.var {l:List Symbol} {t q:List Int} {n:Int} {p:Nat} {r:List Int} (ht:TermOk l t) (h:Both l t (n::q) p r) (hn:n < 0):Both l t q (p+(subAt l t p).length) r:=by
 have hp:=h.lt
 obtain ⟨h3,h4,h5⟩:=sub_split ht hp
 obtain ⟨h6,h7,_⟩:=endAt_spec ht hp
 obtain ⟨m,h1,h2⟩:=h.both
 cases m with
 | zero=>rw [skip_zero] at h1; cases h1
 | succ m =>
   rw [skip,ar_neg l hn,Nat.add_zero] at h1
   rw [show m+1=1+m by omega,skip_add,h5] at h2
   refine ⟨m,h1,?_⟩
   rw [h4,show p+(endAt l t p - p)=endAt l t p by omega]
   exact h2
theorem mgo_sub {l:List Symbol} {t:List Int} (ht:TermOk l t) {p:Nat} (hp:p < t.length):∀ (q:List Int) (b:Bnd) (i:Nat),Both l (subAt l t p) q i [] →
 mgo l t q b (p+i)=(mgo l (subAt l t p) q b i).map fun x=>(x.1,p+x.2)
 | [],b,i,h=>rfl
 | n::q,b,i,h=>by
   have hu:=subAt_ok ht hp
   have hi:=h.lt
   obtain ⟨h1,h2,h3,h4⟩:=sub_place ht hp hi
   have n1:¬ t.length≤p+i:=by omega
   have n2:¬ (subAt l t p).length≤i:=by omega
   rw [mgo,mgo,if_neg n1,if_neg n2,h2,h4]
   by_cases hn:0≤n
   · rw [if_pos hn,if_pos hn]
     by_cases e:t.getD (p+i) 0=n
     · rw [if_pos e,if_pos e]
       exact mgo_sub ht hp q b (i+1) (h.node (by rw [h2,e]))
     · rw [if_neg e,if_neg e]; rfl
   · rw [if_neg hn,if_neg hn]
     have hv:=h.var hu (by omega)
     rw [h4] at hv
     cases bindOf b.1 b.2 (-1 - n) with
     | none =>
       have:=mgo_sub ht hp q (bput b (-1 - n) (subAt l t (p+i))) _ hv
       rw [← Nat.add_assoc] at this
       exact this
     | some o =>
       show (if o=_ then _ else none)=Option.map _ (if o=_ then _ else none)
       by_cases e:o=subAt l t (p+i)
       · rw [if_pos e,if_pos e]
         have:=mgo_sub ht hp q b _ hv
         rw [← Nat.add_assoc] at this
         exact this
       · rw [if_neg e,if_neg e]; rfl
theorem mgo_end {l:List Symbol} {t:List Int} (ht:TermOk l t) {r:List Int}:∀ (q:List Int) (b:Bnd) (p k:Nat),Both l t q p r→p≤t.length→MB l b k→k+q.length≤24→(∀ n∈q,nodeOk l n=true)→∀ x,mgo l t q b p=some x→t.drop x.2=r∧x.2≤t.length∧MB l x.1 (k+q.length)
 | [],b,p,k,h,hp,hb,hk,hq,x,hx=>by
   cases hx
   exact ⟨h.stop,hp,by simpa using hb⟩
 | n::q,b,p,k,h,hp,hb,hk,hq,x,hx=>by
   have hlt:=h.lt
   obtain ⟨h6,h7,_⟩:=endAt_spec ht hlt
   have hs:=(sub_split ht hlt).2.1
   rw [mgo,if_neg (by omega)] at hx
   rw [List.length_cons] at hk ⊢
   have e0:k+1+q.length=k+(q.length+1):=by omega
   by_cases hn:0≤n
   · rw [if_pos hn] at hx
     split at hx
     · rename_i e
       have:=mgo_end ht q b (p+1) (k+1) (h.node e) (by omega) (hb.up (by omega)) (by omega) (fun n hn=>hq n (List.mem_cons_of_mem _ hn)) x hx
       rw [e0] at this; exact this
     · cases hx
   · rw [if_neg hn] at hx
     have hnode:=nodeOk_iff.1 (hq n (by simp))
     split at hx
     · have:=mgo_end ht q _ _ (k+1) (h.var ht (by omega)) (by omega) (hb.put (v := -1 - n) (by omega) (subAt_ok ht hlt)) (by omega) (fun n hn=>hq n (List.mem_cons_of_mem _ hn)) x hx
       rw [e0] at this; exact this
     · split at hx
       · have:=mgo_end ht q b _ (k+1) (h.var ht (by omega)) (by omega) (hb.up (by omega)) (by omega) (fun n hn=>hq n (List.mem_cons_of_mem _ hn)) x hx
         rw [e0] at this; exact this
       · cases hx
def matchAt (l:List Symbol) (q t:List Int) (p:Nat):Option Bnd:=(mgo l t q ([],[]) p).map (·.1)
theorem matchAt_sub {l:List Symbol} {q t:List Int} (hq:TermOk l q) (ht:TermOk l t) {p:Nat} (hp:p < t.length):matchAt l q (subAt l t p) 0=matchAt l q t p:=by
 have hu:=subAt_ok ht hp
 have hb:=Both.start hu hq (p:=0) (by have:=hu.pos; omega)
 have he:t.drop p=subAt l t p++t.drop (endAt l t p):=(sub_split ht hp).1
 have e0:(subAt l t p).drop (endAt l (subAt l t p) 0)=[]:=by
  have:=(sub_split hu (p:=0) (by have:=hu.pos; omega)).2.2
  rw [List.drop_zero,hu.skip] at this
  exact (Option.some.inj this).symm
 rw [e0] at hb
 have:=mgo_sub ht hp q ([],[]) 0 hb
 unfold matchAt
 rw [Nat.add_zero] at this
 rw [this]
 cases mgo l (subAt l t p) q ([],[]) 0 <;> rfl
theorem matchAt_ok {l:List Symbol} {q t:List Int} (hq:TermOk l q) (ht:TermOk l t) {p:Nat} (hp:p < t.length) {b:Bnd} (h:matchAt l q t p=some b):MB l b q.length:=by
 unfold matchAt at h
 rw [Option.map_eq_some_iff] at h
 obtain ⟨x,hx,rfl⟩:=h
 have:=(mgo_end ht q ([],[]) p 0 (Both.start ht hq hp) (by omega) (MB.nil l) (by have:=hq.le; omega) hq.node x hx).2.2
 simpa using this
end Ev.Ty
end
section
namespace Ev.Ty
open Go Ev
open Enc (enc)
open Sm (sm)
set_option linter.unusedSimpArgs false
set_option linter.unusedVariables false
section
variable (e:Nat→Nat) (f:Nat→Int)
def upStep (s:Int × Int × Int) (k:Nat):Int × Int × Int:=if (e k:Int) > s.2.2 then s else if f k ≥ 0 then ((k:Int),f k,(e k:Int)) else s
def IsBest (lo hi:Nat) (s:Int × Int):Prop :=
 (s=(-1,-1)∧∀ a,lo≤a→a < hi→f a < 0) ∨
  ∃ a,lo≤a∧a < hi∧s=((a:Int),f a)∧f a ≥ 0∧∀ a',lo≤a'→a' < hi→f a' ≥ 0→e a < e a'∨(e a=e a'∧a'≤a)
theorem IsBest.up {k:Nat} {s:Int × Int × Int} (he:∀ a,e a≤24) (h:IsBest e f 0 k (s.1,s.2.1)) (hs:(s.1 = -1∧s.2.2=25)∨∃ a:Nat,s.1=a∧s.2.2=e a) :
 IsBest e f 0 (k+1) ((upStep e f s k).1,(upStep e f s k).2.1)∧(((upStep e f s k).1 = -1∧(upStep e f s k).2.2=25)∨∃ a:Nat,(upStep e f s k).1=a∧(upStep e f s k).2.2=e a):=by
 have hek:=he k
 obtain ⟨p,r,d⟩:=s
 unfold upStep
 simp only at h hs ⊢
 rcases h with ⟨hp,h⟩ | ⟨a,h1,h2,hp,h3,h4⟩
 · simp only [Prod.mk.injEq] at hp
   obtain ⟨rfl,rfl⟩:=hp
   have hd:d=25:=by
    rcases hs with ⟨_,h⟩ | ⟨a,h,_⟩
    · exact h
    · omega
   subst hd
   rw [if_neg (by omega)]
   by_cases hf:f k ≥ 0
   · rw [if_pos hf]
     refine ⟨.inr ⟨k,by omega,by omega,rfl,hf,fun a' q1 q2 q3 => ?_⟩,.inr ⟨k,rfl,rfl⟩⟩
     by_cases hak:a'=k
     · subst hak; exact .inr ⟨rfl,Nat.le_refl _⟩
     · have:=h a' (by omega) (by omega); omega
   · rw [if_neg hf]
     refine ⟨.inl ⟨rfl,fun a' q1 q2 => ?_⟩,.inl ⟨rfl,rfl⟩⟩
     by_cases hak:a'=k
     · subst hak; omega
     · exact h a' (by omega) (by omega)
 · simp only [Prod.mk.injEq] at hp
   obtain ⟨rfl,rfl⟩:=hp
   have hd:d=e a:=by
    rcases hs with ⟨h,_⟩ | ⟨a',h,h'⟩
    · omega
    · have:a=a':=by omega
      rw [this]; exact h'
   subst hd
   by_cases hc:(e k:Int) > e a
   · rw [if_pos hc]
     refine ⟨.inr ⟨a,by omega,by omega,rfl,h3,fun a' q1 q2 q3 => ?_⟩,.inr ⟨a,rfl,rfl⟩⟩
     by_cases hak:a'=k
     · subst hak; exact .inl (by omega)
     · exact h4 a' (by omega) (by omega) q3
   · rw [if_neg hc]
     by_cases hf:f k ≥ 0
     · rw [if_pos hf]
       refine ⟨.inr ⟨k,by omega,by omega,rfl,hf,fun a' q1 q2 q3 => ?_⟩,.inr ⟨k,rfl,rfl⟩⟩
       by_cases hak:a'=k
       · subst hak; exact .inr ⟨rfl,Nat.le_refl _⟩
       · rcases h4 a' (by omega) (by omega) q3 with q | ⟨q,_⟩
         · exact .inl (by omega)
         · rcases Nat.lt_or_ge (e k) (e a') with q' | q'
           · exact .inl q'
           · exact .inr ⟨by omega,by omega⟩
     · rw [if_neg hf]
       refine ⟨.inr ⟨a,by omega,by omega,rfl,h3,fun a' q1 q2 q3 => ?_⟩,.inr ⟨a,rfl,rfl⟩⟩
       by_cases hak:a'=k
       · subst hak; omega
       · exact h4 a' (by omega) (by omega) q3
end
def fits (l:List Symbol) (rs:List Equation) (t:List Int) (p:Nat):Int:=idx (fun e=>(matchAt l e.left t p).isSome) rs
theorem skip_applied {l:List Symbol} {b:Bnd} {k:Nat} (hb:MB l b k) (hk:k≤24):∀ (q x:List Int) (m:Nat),skip (ar l) m q=some []→skip (ar l) m (applied b.1 b.2 q++x)=some x
 | [],x,m,h=>by
   obtain ⟨rfl,_⟩:=skip_nil h
   rw [skip_zero]; rfl
 | n::q,x,m,h=>by
   cases m with
   | zero=>rw [skip_zero] at h; cases h
   | succ m =>
     rw [skip] at h
     have ih:=skip_applied hb hk q x _ h
     have e:applied b.1 b.2 (n::q)=(bindOf b.1 b.2 (-1 - n)).getD [n]++applied b.1 b.2 q:=by simp [applied]
     rw [e,List.append_assoc]
     cases ho:bindOf b.1 b.2 (-1 - n) with
     | none =>
       show skip (ar l) (m+1) (n::(applied b.1 b.2 q++x))=_
       rw [skip]; exact ih
     | some o =>
       have hn:n < 0:=by
        rcases Int.lt_or_le n 0 with h | h
        · exact h
        · rw [bindOf_neg (hb.ok hk) (by omega)] at ho; cases ho
       rw [ar_neg l hn,Nat.add_zero] at ih
       have ht:=hb.tm o (bindOf_mem ho)
       show skip (ar l) (m+1) (o++(applied b.1 b.2 q++x))=_
       rw [show m+1=1+m by omega,skip_add,skip_append ht.skip]
       exact ih
theorem applied_node {l:List Symbol} {b:Bnd} {k:Nat} (hb:MB l b k) {q:List Int} (hq:∀ n∈q,nodeOk l n=true):∀ n∈applied b.1 b.2 q,nodeOk l n=true:=fun n hn=>by
 unfold applied at hn
 obtain ⟨m,hm,hn⟩:=List.mem_flatMap.1 hn
 cases ho:bindOf b.1 b.2 (-1 - m) with
 | none=>rw [ho] at hn; rw [List.mem_singleton.1 hn]; exact hq m hm
 | some o=>rw [ho] at hn; exact (hb.tm o (bindOf_mem ho)).node n hn
def stepAt (l:List Symbol) (e:Equation) (t:List Int) (p:Nat):TermResult:=match matchAt l e.left t p with
 | none=>⟨4,[]⟩
 | some b=>if 24 < (replAt l t p (applied b.1 b.2 e.right)).length then ⟨2,[]⟩ else ⟨0,replAt l t p (applied b.1 b.2 e.right)⟩
def rewriteFault (s:Signature) (rs:List Equation) (t:List Int):Int:=if rulesFault s rs≠0 then rulesFault s rs else termFault0 s.symbols t
def rewriteAtR (s:Signature) (rs:List Equation) (r p:Int) (t:List Int):TermResult :=
 if rewriteFault s rs t≠0 then ⟨rewriteFault s rs t,[]⟩ else if inR r 0 (rs.length - 1)=false∨inR p 0 (t.length - 1)=false then ⟨3,[]⟩ else stepAt s.symbols (rs.getD r.toNat ⟨[],[]⟩) t p.toNat
end Ev.Ty
end
section
namespace Ev.Ty
open Go Ev
open Enc (enc)
open Sm (sm)
set_option linter.unusedSimpArgs false
set_option linter.unusedVariables false
theorem slices_ContainsFunc_Sint64_at1_impl_isRule_1 (t v:List Int) (hs:t.length≤4294967296) (hv:v.length≤4294967296) :
 Call F.slices_ContainsFunc_Sint64 [slc t,.clo F.impl_isRule_1 [.rref [slc v] 0]] (.bool (t.any fun n=>decide (n∉v))):=by
 have hi:Call F.slices_IndexFunc_Sint64 [slc t,.clo F.impl_isRule_1 [.rref [slc v] 0]] (.int .i64 (idx (fun n=>decide (n∉v)) t)):=by
  refine call_of rfl (t.length+1) ((slices_IndexFunc_Sint64_at1_impl_isRule_1.ev _ _ _).trans ?_)
  refine idx_loop (S:=fun m k=>slices_IndexFunc_Sint64_at1_impl_isRule_1.at0 (t.length+1) m (slices_IndexFunc_Sint64_at1_impl_isRule_1.st0 (cells t) _ _ (k:Nat))) (fun m k h => ?_) (fun m => ?_) (Nat.lt_succ_self _)
  · have hlk:t[k]?=some t[k]:=List.getElem?_eq_getElem h
    have hc:Call F.impl_isRule_1 [.int .i64 t[k],.rref [slc v] 0] (.bool (decide (t[k]∉v))):=by
     refine call_of rfl 0 ((impl_isRule_1.ev _ _ _).trans ?_)
     simp only [evz,Nat.reduceLT,(slices_Contains_Sint64 v t[k] hv).eq,decide_not]
    simp only [slices_IndexFunc_Sint64_at1_impl_isRule_1.next0,slices_IndexFunc_Sint64_at1_impl_isRule_1.round0,evz,Nat.reduceLT,h,hlk,enc_int,hc.eq]
    rw [wrap_succ (by omega)]
    by_cases e:t[k]∈v <;> simp [e]
  · simp only [slices_IndexFunc_Sint64_at1_impl_isRule_1.next0,slices_IndexFunc_Sint64_at1_impl_isRule_1.round0,evz,Nat.reduceLT,Nat.lt_irrefl]
 refine call_of rfl 0 ((slices_ContainsFunc_Sint64_at1_impl_isRule_1.ev _ _ _).trans ?_)
 simp only [evz,Nat.reduceLT,hi.eq,idx_nonneg]
theorem varsOf_term {l:List Symbol} {t:List Int} (h:TermOk l t):Call F.impl_varsOf [.sl 1 [slc t]] (slc (varsOf [t]))∧(varsOf [t]).length≤24:=by
 have hle:=h.le
 have hvl:=varsOf_length [t]
 refine ⟨impl_varsOf [t] (by simp) (fun x hx => ?_) (by simp; omega),by simp at hvl; omega⟩
 simp only [List.mem_cons,List.not_mem_nil,or_false] at hx
 subst hx
 exact ⟨by omega,h.ge⟩
theorem head0 {l:List Symbol} {t:List Int} (h:TermOk l t):t[0]?=some (t.headD 0):=by
 have:=h.pos
 cases t with
 | nil=>simp at this
 | cons x r=>rfl
theorem impl_isRule {l:List Symbol} {a b:List Int} (ha:TermOk l a) (hb:TermOk l b):Call F.impl_isRule [.agg [slc a,slc b]] (.bool (ruleOk ⟨a,b⟩)):=by
 refine call_of rfl 0 ((impl_isRule.ev _ _ _).trans ?_)
 obtain ⟨ca,la⟩:=varsOf_term ha
 obtain ⟨cb,lb⟩:=varsOf_term hb
 have h0:(cells a)[0]?=some (.int .i64 (a.headD 0)):=by
  have:=get0 (l:=a) (k:=1) (i:=0) sz_int
  rw [Nat.zero_mul] at this
  rw [this,head0 ha]; rfl
 have hin:inB 0 ((cells a).length / 1)=true:=by
  rw [cells_div sz_int]
  have:=inB_nat 0 a.length
  have hp:=ha.pos
  rw [show (0:Int)=((0:Nat):Int) from rfl,this]
  exact decide_eq_true hp
 have hc:=slices_ContainsFunc_Sint64_at1_impl_isRule_1 (varsOf [b]) (varsOf [a]) (by omega) (by omega)
 rw [hin,cond_true,h0]
 simp only [evz,Nat.reduceLT,ruleOk]
 have e:((varsOf [b]).any fun n=>decide (n∉varsOf [a]))=b.any fun n=>decide (n < 0∧n∉a):=by
  rw [Bool.eq_iff_iff,List.any_eq_true,List.any_eq_true]
  constructor
  · rintro ⟨v,hv,h⟩
    rw [decide_eq_true_eq] at h
    obtain ⟨v0,t,ht,hm⟩:=mem_varsOf.1 hv
    simp only [List.mem_cons,List.not_mem_nil,or_false] at ht
    subst ht
    refine ⟨-1 - v,hm,?_⟩
    rw [decide_eq_true_eq]
    exact ⟨by omega,fun hn=>h (mem_varsOf.2 ⟨v0,a,by simp,hn⟩)⟩
  · rintro ⟨n,hn,h⟩
    rw [decide_eq_true_eq] at h
    refine ⟨-1 - n,mem_varsOf.2 ⟨by omega,b,by simp,by rw [show -1 - (-1 - n)=n by omega]; exact hn⟩,?_⟩
    rw [decide_eq_true_eq]
    intro hm
    obtain ⟨_,t,ht,hm'⟩:=mem_varsOf.1 hm
    simp only [List.mem_cons,List.not_mem_nil,or_false] at ht
    subst ht
    rw [show -1 - (-1 - n)=n by omega] at hm'
    exact h.2 hm'
 by_cases h1:a.headD 0 < 0
 · have h2:¬ 0≤a.headD 0:=by omega
   simp only [h1,h2,evz,Nat.reduceLT,Bool.false_and]
 · have h2:0≤a.headD 0:=by omega
   simp only [h1,h2,evz,Nat.reduceLT,ca.eq,cb.eq,hc.eq,e,Bool.true_and]
theorem impl_RulesFault (l:List Symbol) (hs:l.length≤4294967296) (es:List Equation) (he:sm 4294967296 es):Call F.impl_RulesFault [.agg [slc l],slc es] (.int .i64 (rulesFault ⟨l⟩ es)):=by
 refine call_of rfl 0 ((impl_RulesFault.ev _ _ _).trans ?_)
 simp only [evz,Nat.reduceLT,(impl_EquationsFault l hs es he).eq,rulesFault,rulesFault0]
 by_cases h1:sigFault ⟨l⟩=0
 case neg=>simp only [h1,evz,Nat.reduceLT,ne_eq,not_false_eq_true]
 simp only [h1,evz,Nat.reduceLT,ne_eq,not_true_eq_false]
 by_cases h2:eqsFault l es=0
 case neg=>simp only [h2,evz,Nat.reduceLT,not_false_eq_true]
 obtain ⟨hlen,hok⟩:=eqsOk_iff.1 h2
 have hi:Call F.slices_IndexFunc_SEquation [slc es,.clo F.impl_RulesFault_1 []] (.int .i64 (idx (fun e => !ruleOk e) es)):=by
  refine call_of rfl (es.length+1) ((slices_IndexFunc_SEquation_at1_impl_RulesFault_1.ev _ _).trans ?_)
  simp only [evz,Nat.reduceLT]
  refine idx_loop (S:=fun m k=>slices_IndexFunc_SEquation_at1_impl_RulesFault_1.at0 (es.length+1) m (slices_IndexFunc_SEquation_at1_impl_RulesFault_1.st0 (cells es) es.length (k:Nat))) (fun m k h => ?_) (fun m => ?_) (Nat.lt_succ_self _)
  · have hlk:es[k]?=some es[k]:=List.getElem?_eq_getElem h
    have ho:=hok es[k] (List.getElem_mem h)
    have hc:Call F.impl_RulesFault_1 [.agg [slc es[k].left,slc es[k].right]] (.bool (!ruleOk es[k])):=by
     refine call_of rfl 0 ((impl_RulesFault_1.ev _ _ _).trans ?_)
     simp only [evz,Nat.reduceLT,(impl_isRule ho.left ho.right).eq]
    simp only [slices_IndexFunc_SEquation_at1_impl_RulesFault_1.next0,slices_IndexFunc_SEquation_at1_impl_RulesFault_1.round0,evz,Nat.reduceLT,h,hlk,enc_Equation,hc.eq]
    rw [wrap_succ (by omega)]
    cases ruleOk es[k] <;> rfl
  · simp only [slices_IndexFunc_SEquation_at1_impl_RulesFault_1.next0,slices_IndexFunc_SEquation_at1_impl_RulesFault_1.round0,evz,Nat.reduceLT,Nat.lt_irrefl]
 have hc:Call F.slices_ContainsFunc_SEquation [slc es,.clo F.impl_RulesFault_1 []] (.bool (es.any fun e => !ruleOk e)):=by
  refine call_of rfl 0 ((slices_ContainsFunc_SEquation_at1_impl_RulesFault_1.ev _ _).trans ?_)
  simp only [evz,Nat.reduceLT,hi.eq,idx_nonneg]
 simp only [h2,evz,Nat.reduceLT,not_true_eq_false,hc.eq]
 cases es.any fun e => !ruleOk e <;> rfl
theorem spec_l3Count (t:List Int) (x:Int) (hl:t.length≤4294967296):Call F.spec_l3Count [slc t,.int .i64 x] (.int .i64 (t.count x:Nat)):=by
 have loop:∀ m k (c:Nat),k≤t.length→t.length < m+k→c≤k →
  spec_l3Count.at0 (t.length+1) m (spec_l3Count.st0 (cells t) x (c:Nat) (k:Nat))=some (.int .i64 ((c+(t.drop k).count x:Nat):Int),[]):=by
  intro m
  induction m with
  | zero=>intros; omega
  | succ m ih =>
    intro k c hk hm hc
    by_cases h:k < t.length
    · have hlk:t[k]?=some t[k]:=List.getElem?_eq_getElem h
      simp only [spec_l3Count.next0,spec_l3Count.round0,evz,Nat.reduceLT,h,hlk,enc_int]
      rw [wrap_succ (by omega),wrap_succ (by omega),List.drop_eq_getElem_cons h,List.count_cons]
      by_cases e:t[k]=x
      · simp only [e,evz,Nat.reduceLT]
        rw [ih (k+1) (c+1) (by omega) (by omega) (by omega)]
        simp
        omega
      · simp only [e,evz,Nat.reduceLT]
        rw [ih (k+1) c (by omega) (by omega) (by omega)]
        simp [e]
    · obtain rfl:k=t.length:=by omega
      simp only [spec_l3Count.next0,spec_l3Count.round0,evz,Nat.reduceLT,Nat.lt_irrefl,List.drop_length,List.count_nil,Nat.add_zero]
 refine call_of rfl (t.length+1) ((spec_l3Count.ev _ _ _).trans ?_)
 have:=loop (t.length+1) 0 0 (by omega) (by omega) (by omega)
 rw [List.drop_zero,Nat.zero_add] at this
 exact this
theorem spec_l8Fault (l:List Symbol) (ok:SigOk ⟨l⟩) (es:List Equation) (he:sm 4294967296 es):Call F.spec_l8Fault [.rref [slc l] 0,slc es] (.int .i64 (rulesFault0 l es)):=by
 refine call_of rfl 25 ((spec_l8Fault.ev _ _ _).trans ?_)
 simp only [evz,Nat.reduceLT,(spec_l5Fault l ok es he).eq,rulesFault0]
 by_cases h2:eqsFault l es=0
 case neg=>simp only [h2,evz,Nat.reduceLT,ne_eq,not_false_eq_true]
 obtain ⟨hlen,hok⟩:=eqsOk_iff.1 h2
 simp only [h2,evz,Nat.reduceLT,ne_eq,not_true_eq_false]
 have inner:∀ (L0:St→R) (k:Nat) (h:k < es.length), 
  spec_l8Fault.at2 25 L0 25 (spec_l8Fault.st2 (cells es) (k:Nat) ((0:Nat):Int))=if (es[k].right.any fun n=>decide (n < 0∧n∉es[k].left))=true then some (.int .i64 1,[]) else L0 (spec_l8Fault.st0 (cells es) ((k+1:Nat):Int)):=fun L0 k h=>by
  have hlk:es[k]?=some es[k]:=List.getElem?_eq_getElem h
  have ho:=hok es[k] (List.getElem_mem h)
  have hle:=ho.right.le
  have hle':=ho.left.le
  refine any_loopL (l:=es[k].right) (p:=fun n=>decide (n < 0∧n∉es[k].left)) (r:=some (.int .i64 1,[])) (S:=fun m j=>spec_l8Fault.at2 25 L0 m (spec_l8Fault.st2 (cells es) (k:Nat) (j:Nat))) (fun m j hj => ?_) (fun m => ?_) (by omega)
  · have hlj:es[k].right[j]?=some es[k].right[j]:=List.getElem?_eq_getElem hj
    simp only [spec_l8Fault.next2,spec_l8Fault.round2,evz,Nat.reduceLT,h,hlk,hj,hlj,enc_Equation,enc_int,(spec_l3Count es[k].left es[k].right[j] (by omega)).eq]
    rw [wrap_succ (by omega)]
    by_cases q1:es[k].right[j] < 0
    · by_cases q2:es[k].right[j]∈es[k].left
      · have q3:0 < es[k].left.count es[k].right[j]:=List.count_pos_iff.2 q2
        have q4:¬ ((es[k].left.count es[k].right[j]:Nat):Int)=0:=by omega
        simp only [q1,q2,q4,evz,Nat.reduceLT,not_true_eq_false,and_false,Bool.false_eq_true]
      · have q3:es[k].left.count es[k].right[j]=0:=List.count_eq_zero.2 q2
        simp only [q1,q2,q3,evz,Nat.reduceLT,not_false_eq_true,and_true,Int.natCast_zero]
    · simp only [q1,evz,Nat.reduceLT,false_and,Bool.false_eq_true]
  · simp only [spec_l8Fault.next2,spec_l8Fault.round2,evz,Nat.reduceLT,h,hlk,enc_Equation,Nat.lt_irrefl]
    rw [wrap_succ (by omega)]
 refine (any_loopL (l:=es) (p:=fun e => !ruleOk e) (r:=some (.int .i64 1,[])) (z:=some (.int .i64 0,[])) (S:=fun m k=>spec_l8Fault.at0 25 m (spec_l8Fault.st0 (cells es) (k:Nat))) (fun m k h => ?_) (fun m => ?_) (show es.length < 25 by omega)).trans ?_
 · have hlk:es[k]?=some es[k]:=List.getElem?_eq_getElem h
   have ho:=hok es[k] (List.getElem_mem h)
   have h0:(cells es[k].left)[0]?=some (.int .i64 (es[k].left.headD 0)):=by
    have:=get0 (l:=es[k].left) (k:=1) (i:=0) sz_int
    rw [Nat.zero_mul] at this
    rw [this,head0 ho.left]; rfl
   have hin:inB 0 es[k].left.length=true:=by
    have:=inB_nat 0 es[k].left.length
    have hp:=ho.left.pos
    rw [show (0:Int)=((0:Nat):Int) from rfl,this]
    exact decide_eq_true hp
   simp only [spec_l8Fault.next0,spec_l8Fault.round0,evz,Nat.reduceLT,h,hlk,enc_Equation,hin,h0,ruleOk]
   by_cases q1:es[k].left.headD 0 < 0
   · have q2:¬ 0≤es[k].left.headD 0:=by omega
     simp only [q1,q2,evz,Nat.reduceLT,Bool.false_and,Bool.not_false]
   · have q2:0≤es[k].left.headD 0:=by omega
     simp only [q1,q2,evz,Nat.reduceLT,Bool.true_and,Bool.not_not]
     exact inner _ k h
 · simp only [spec_l8Fault.next0,spec_l8Fault.round0,evz,Nat.reduceLT,Nat.lt_irrefl]
 · cases es.any fun e => !ruleOk e <;> rfl
theorem spec_RulesFault (l:List Symbol) (hs:l.length≤4294967296) (es:List Equation) (he:sm 4294967296 es):Call F.spec_RulesFault [.agg [slc l],slc es] (.int .i64 (rulesFault ⟨l⟩ es)):=by
 refine call_of rfl 0 ((spec_RulesFault.ev _ _ _).trans ?_)
 simp only [evz,Nat.reduceLT,(spec_SignatureFault l hs).eq,rulesFault]
 by_cases h1:sigFault ⟨l⟩=0
 case neg=>simp only [h1,evz,Nat.reduceLT,ne_eq,not_false_eq_true]
 have ok:=(sigOk_iff _).1 h1
 simp only [h1,evz,Nat.reduceLT,ne_eq,not_true_eq_false,(spec_l8Fault l ok es he).eq]
end Ev.Ty
end
section
namespace Ev.Ty
open Go Ev
open Enc (enc)
open Sm (sm)
set_option linter.unusedSimpArgs false
set_option linter.unusedVariables false
def startsN (l:List Symbol) (t:List Int):Nat→Nat→List Nat
 | 0,_=>[]
 | n+1,p=>p::startsN l t n (endAt l t p)
def starts (l:List Symbol) (t:List Int) (p:Nat):List Nat:=startsN l t (ar l (t.getD p 0)) (p+1)
theorem startsN_length (l:List Symbol) (t:List Int):∀ n p,(startsN l t n p).length=n
 | 0,_=>rfl
 | n+1,p=>by rw [startsN,List.length_cons,startsN_length l t n]
theorem skip_one {l:List Symbol} {t:List Int} {p n:Nat} {r:List Int} (h:skip (ar l) (n+1) (t.drop p)=some r):p < t.length∧skip (ar l) n (t.drop (endAt l t p))=some r∧p < endAt l t p∧endAt l t p≤t.length:=by
 have hp:p < t.length:=by
  rcases Nat.lt_or_ge p t.length with h1 | h1
  · exact h1
  · rw [List.drop_of_length_le h1] at h; cases h
 rw [show n+1=1+n by omega,skip_add] at h
 cases h1:skip (ar l) 1 (t.drop p) with
 | none=>rw [h1] at h; cases h
 | some q =>
   rw [h1] at h
   have h2:=skip_at h1
   have e:endAt l t p=t.length - q.length:=by unfold endAt; rw [h1]
   have h3:=h2.2.2 (by omega)
   refine ⟨hp,?_,by rw [e]; omega,by rw [e]; omega⟩
   rw [e,← h2.1]
   exact h
theorem startsN_mem {l:List Symbol} {t:List Int}:∀ {n p:Nat} {r:List Int},skip (ar l) n (t.drop p)=some r→∀ q∈startsN l t n p,p≤q∧q < t.length
 | 0,p,r,h,q,hq=>by cases hq
 | n+1,p,r,h,q,hq=>by
   obtain ⟨h1,h2,h3,h4⟩:=skip_one h
   rcases List.mem_cons.1 hq with rfl | hq
   · exact ⟨Nat.le_refl _,h1⟩
   · have:=startsN_mem h2 q hq
     exact ⟨by omega,this.2⟩
theorem args_skip {l:List Symbol} {t:List Int} (ok:TermOk l t) {p:Nat} (hp:p < t.length):∃ r,skip (ar l) (ar l t[p]) (t.drop (p+1))=some r:=by
 obtain ⟨q,hq⟩:=skip_inner (p:=p) ok.skip (by simpa using hp)
 rw [List.drop_eq_getElem_cons hp,skip] at hq
 exact ⟨q,by simpa using hq⟩
theorem starts_mem {l:List Symbol} {t:List Int} (ok:TermOk l t) {p:Nat} (hp:p < t.length) {q:Nat} (hq:q∈starts l t p):p < q∧q < t.length:=by
 obtain ⟨r,hr⟩:=args_skip ok hp
 have hd:t.getD p 0=t[p]:=getD_at hp
 unfold starts at hq
 rw [hd] at hq
 have:=startsN_mem hr q hq
 exact ⟨by omega,this.2⟩
def rank (o:List Int) (n:Int):Int:=idx (fun x=>decide (x=n)) o
def cell (l:List Symbol) (o a b:List Int) (above:Nat→Nat→Bool) (i j:Nat):Bool :=
 if b.getD j 0 < 0 then decide (0≤a.getD i 0)&&decide (b.getD j 0∈subAt l a i)
 else if a.getD i 0 < 0 then false
 else if (starts l a i).any (fun p=>decide (subAt l a p=subAt l b j)||above p j) then true
 else if rank o (a.getD i 0) < rank o (b.getD j 0) then false
 else if (starts l b j).any (fun q => !above i q) then false
 else if rank o (b.getD j 0) < rank o (a.getD i 0) then true
 else match ((starts l a i).zip (starts l b j)).find? fun x => !decide (subAt l a x.1=subAt l b x.2) with
  | some x=>above x.1 x.2
  | none=>false
theorem cell_congr {l:List Symbol} {o a b:List Int} (ha:TermOk l a) (hb:TermOk l b) {f g:Nat→Nat→Bool} {i j:Nat} (hi:i < a.length) (hj:j < b.length)
 (h:∀ p q,i≤p→j≤q→p < a.length→q < b.length→(i < p∨j < q)→f p q=g p q):cell l o a b f i j=cell l o a b g i j:=by
 have h1:(starts l a i).any (fun p=>decide (subAt l a p=subAt l b j)||f p j)=(starts l a i).any (fun p=>decide (subAt l a p=subAt l b j)||g p j):=by
  rw [Bool.eq_iff_iff,List.any_eq_true,List.any_eq_true]
  constructor
  · rintro ⟨p,hp,h1⟩
    have:=starts_mem ha hi hp
    exact ⟨p,hp,by rw [← h p j (by omega) (Nat.le_refl _) this.2 hj (.inl this.1)]; exact h1⟩
  · rintro ⟨p,hp,h1⟩
    have:=starts_mem ha hi hp
    exact ⟨p,hp,by rw [h p j (by omega) (Nat.le_refl _) this.2 hj (.inl this.1)]; exact h1⟩
 have h2:(starts l b j).any (fun q => !f i q)=(starts l b j).any (fun q => !g i q):=by
  rw [Bool.eq_iff_iff,List.any_eq_true,List.any_eq_true]
  constructor
  · rintro ⟨p,hp,h1⟩
    have:=starts_mem hb hj hp
    exact ⟨p,hp,by rw [← h i p (Nat.le_refl _) (by omega) hi this.2 (.inr this.1)]; exact h1⟩
  · rintro ⟨p,hp,h1⟩
    have:=starts_mem hb hj hp
    exact ⟨p,hp,by rw [h i p (Nat.le_refl _) (by omega) hi this.2 (.inr this.1)]; exact h1⟩
 unfold cell
 rw [h1,h2]
 cases hf:((starts l a i).zip (starts l b j)).find? fun x => !decide (subAt l a x.1=subAt l b x.2) with
 | none=>rfl
 | some x =>
   have hm:=List.mem_of_find?_eq_some hf
   have hm1:=starts_mem ha hi (List.of_mem_zip hm).1
   have hm2:=starts_mem hb hj (List.of_mem_zip hm).2
   simp only [h x.1 x.2 (by omega) (by omega) hm1.2 hm2.2 (.inl hm1.1)]
def gtN (l:List Symbol) (o a b:List Int):Nat→Nat→Nat→Bool
 | 0,_,_=>false
 | n+1,i,j=>cell l o a b (gtN l o a b n) i j
def gt (l:List Symbol) (o a b:List Int) (i j:Nat):Bool:=gtN l o a b (a.length+b.length+1) i j
theorem gtN_stable {l:List Symbol} {o a b:List Int} (ha:TermOk l a) (hb:TermOk l b):∀ (d n m i j:Nat),i < a.length→j < b.length→(a.length - i)+(b.length - j)≤d→d < n→d < m→gtN l o a b n i j=gtN l o a b m i j:=by
 intro d
 induction d with
 | zero=>intros; omega
 | succ d ih =>
   intro n m i j hi hj hd hn hm
   obtain ⟨n,rfl⟩:∃ q,n=q+1:=⟨n - 1,by omega⟩
   obtain ⟨m,rfl⟩:∃ q,m=q+1:=⟨m - 1,by omega⟩
   rw [gtN,gtN]
   exact cell_congr ha hb hi hj fun p q h1 h2 h3 h4 h5=>ih n m p q h3 h4 (by omega) (by omega) (by omega)
theorem gt_eq {l:List Symbol} {o a b:List Int} (ha:TermOk l a) (hb:TermOk l b) {i j:Nat} (hi:i < a.length) (hj:j < b.length):gt l o a b i j=cell l o a b (gt l o a b) i j:=by
 show gtN l o a b (a.length+b.length+1) i j=_
 rw [gtN]
 exact cell_congr ha hb hi hj fun p q h1 h2 h3 h4 h5=>gtN_stable ha hb ((a.length - p)+(b.length - q)) _ _ p q h3 h4 (Nat.le_refl _) (by omega) (by omega)
def ints (l:List Nat):List Int:=l.map fun (n:Nat)=>(n:Int)
section
variable {l:List Symbol} (ok:SigOk ⟨l⟩)
include ok
theorem impl_argumentsOf {t:List Int} (ht:TermOk l t) {p:Nat} (hp:p < t.length):Call F.impl_argumentsOf [.agg [slc l],slc t,.int .i64 p] (slc (ints (starts l t p))):=by
 have hle:=ht.le
 have har:=ar_le (l:=l) ok t[p]
 refine call_of rfl 4 ((impl_argumentsOf.ev _ _ _ _).trans ?_)
 simp only [evz,Nat.reduceLT,hp,List.getElem?_eq_getElem,enc_int,(impl_arityOf ok t[p] (ht.node _ (List.getElem_mem hp))).eq]
 rw [wrap_succ (by omega)]
 have loop:∀ n k q f (out:List Int) r,k+n=ar l t[p]→n < f→skip (ar l) n (t.drop q)=some r→out.length=k →
  impl_argumentsOf.at0 4 f (impl_argumentsOf.st0 (cells t) (q:Nat) (ar l t[p]:Nat) (k:Nat) (cells l) (cells out))=some (slc (out++ints (startsN l t n q)),[]):=by
  intro n
  induction n with
  | zero =>
    intro k q f out r hk hf hs ho
    obtain ⟨f,rfl⟩:∃ x,f=x+1:=⟨f - 1,by omega⟩
    have:¬ k < ar l t[p]:=by omega
    simp only [impl_argumentsOf.next0,impl_argumentsOf.round0,evz,Nat.reduceLT,this,startsN,ints,List.map_nil,List.append_nil]
  | succ n ih =>
    intro k q f out r hk hf hs ho
    obtain ⟨f,rfl⟩:∃ x,f=x+1:=⟨f - 1,by omega⟩
    obtain ⟨h1,h2,h3,h4⟩:=skip_one hs
    have hlt:k < ar l t[p]:=by omega
    simp only [impl_argumentsOf.next0,impl_argumentsOf.round0,evz,Nat.reduceLT,hlt,(endOf_at ok ht h1).eq,cells_snoc_int]
    rw [cond_pos (ble_ok (by rw [cells_length,sz_int]; omega)),wrap_succ (by omega)]
    by_cases hn:n=0
    · subst hn
      obtain ⟨f,rfl⟩:∃ x,f=x+1:=⟨f - 1,by omega⟩
      have:¬ k+1 < ar l t[p]:=by omega
      simp only [impl_argumentsOf.next0,impl_argumentsOf.round0,evz,Nat.reduceLT,this,startsN,ints,List.map_nil,List.map_cons]
    · rw [ih (k+1) (endAt l t q) f (out++[(q:Int)]) r (by omega) (by omega) h2 (by simp [ho])]
      simp [startsN,ints]
 obtain ⟨r,hr⟩:=args_skip ht hp
 have hd:t.getD p 0=t[p]:=getD_at hp
 have:=loop (ar l t[p]) 0 (p+1) 4 [] r (by omega) (by omega) hr (by simp)
 unfold starts
 rw [hd]
 simpa using this
end
theorem mpAt_map:∀ (l:List (Int × Int × Bool)) (a b:Int) (i j:Nat),(mpAt l a b i).map (·.2)=(mpAt l a b j).map (·.2)
 | [],_,_,_,_=>rfl
 | (x,y,v)::r,a,b,i,j=>by
   rw [mpAt,mpAt]
   cases (a == x&&b == y) with
   | true=>rfl
   | false=>exact mpAt_map r a b (i+1) (j+1)
theorem mpFind_cons (x y:Int) (v:Bool) (r:List (Int × Int × Bool)) (a b:Int):mpFind ((x,y,v)::r) a b=bif a == x&&b == y then some v else mpFind r a b:=by
 unfold mpFind
 rw [mpAt]
 cases (a == x&&b == y) with
 | true=>rfl
 | false=>exact mpAt_map r a b 1 0
theorem mpFind_put:∀ (l:List (Int × Int × Bool)) (x y:Int) (v:Bool) (a b:Int),mpFind (mpPut l x y v) a b=bif a == x&&b == y then some v else mpFind l a b
 | [],x,y,v,a,b=>by rw [mpPut,mpFind_cons]
 | (x',y',v')::r,x,y,v,a,b=>by
   rw [mpPut]
   cases h:(x == x'&&y == y') with
   | true =>
     simp only [Bool.and_eq_true,beq_iff_eq] at h
     obtain ⟨rfl,rfl⟩:=h
     rw [cond_true,mpFind_cons,mpFind_cons]
     cases (a == x&&b == y) <;> rfl
   | false =>
     rw [cond_false,mpFind_cons,mpFind_cons,mpFind_put r]
     cases h1:(a == x'&&b == y') with
     | false=>rfl
     | true =>
       cases h2:(a == x&&b == y) with
       | false=>rfl
       | true =>
         simp only [Bool.and_eq_true,beq_iff_eq] at h1 h2
         obtain ⟨rfl,rfl⟩:=h1
         obtain ⟨rfl,rfl⟩:=h2
         simp at h
def Good (l:List Symbol) (o a b:List Int) (m:List (Int × Int × Bool)):Prop:=∀ (p q:Nat) (v:Bool),mpFind m p q=some v→v=gt l o a b p q
theorem Good.put {l:List Symbol} {o a b:List Int} {m:List (Int × Int × Bool)} (h:Good l o a b m) (i j:Nat):Good l o a b (mpPut m i j (gt l o a b i j)):=fun p q v hv=>by
 rw [mpFind_put] at hv
 cases hc:(((p:Int) == (i:Int))&&((q:Int) == (j:Int))) with
 | true =>
   rw [hc,cond_true] at hv
   simp only [Bool.and_eq_true,beq_iff_eq,Int.ofNat_inj] at hc
   obtain ⟨rfl,rfl⟩:=hc
   exact (Option.some.inj hv).symm
 | false=>rw [hc,cond_false] at hv; exact h p q v hv
section
variable {l:List Symbol} (ok:SigOk ⟨l⟩) {o a b:List Int} (ha:TermOk l a) (hb:TermOk l b)
include ok ha hb
omit ok ha hb in
theorem ints_get {A:List Nat} {k:Nat} (h:k < A.length):(ints A)[k]?=some ((A[k]:Nat):Int):=by simp [ints,h]
omit ok ha hb in
theorem ints_length (A:List Nat):(ints A).length=A.length:=by simp [ints]
omit ok ha hb in
theorem starts_le (ok:SigOk ⟨l⟩) (t:List Int) (p:Nat):(starts l t p).length≤2:=by
 unfold starts; rw [startsN_length]; exact ar_le ok _
end
theorem spec_l2Rank (o:List Int) (x:Int) (hl:o.length≤4294967296):Call F.spec_l2Rank [slc o,.int .i64 x] (.int .i64 (rank o x)):=by
 refine call_of rfl (o.length+1) ((spec_l2Rank.ev _ _ _).trans ?_)
 refine idx_loop (S:=fun m k=>spec_l2Rank.at0 (o.length+1) m (spec_l2Rank.st0 (cells o) x (k:Nat))) (fun m k h => ?_) (fun m => ?_) (Nat.lt_succ_self _)
 · have hlk:o[k]?=some o[k]:=List.getElem?_eq_getElem h
   simp only [spec_l2Rank.next0,spec_l2Rank.round0,evz,Nat.reduceLT,h,hlk,enc_int,decide_eq_true_eq]
   rw [wrap_succ (by omega)]
 · simp only [spec_l2Rank.next0,spec_l2Rank.round0,evz,Nat.reduceLT,Nat.lt_irrefl]
section
variable {l:List Symbol} (ok:SigOk ⟨l⟩)
include ok
omit ok in
theorem at_bound {i j la lb:Nat} (hi:i < la) (hj:j < lb):i*lb+j < la*lb:=by
 have:i*lb+lb≤la*lb:=by rw [← Nat.succ_mul]; exact Nat.mul_le_mul_right _ hi
 omega
section
variable {o a b:List Int} (ha:TermOk l a) (hb:TermOk l b) {T:List Bool} (hT:T.length=a.length*b.length)
include ha hb hT
end
def Done (l:List Symbol) (o a b:List Int) (T:List Bool) (n:Nat):Prop :=
 T.length=a.length*b.length∧∀ p q,p < a.length→q < b.length→n≤p*b.length+q→T.getD (p*b.length+q) false=gt l o a b p q
omit ok in
theorem at_inj {n p q i j:Nat} (hq:q < n) (hj:j < n) (h:p*n+q=i*n+j):p=i∧q=j:=by
 rcases Nat.lt_trichotomy p i with h1 | h1 | h1
 · have:(p+1)*n≤i*n:=Nat.mul_le_mul_right _ h1
   rw [Nat.succ_mul] at this; omega
 · subst h1; exact ⟨rfl,by omega⟩
 · have:(i+1)*n≤p*n:=Nat.mul_le_mul_right _ h1
   rw [Nat.succ_mul] at this; omega
omit ok in
theorem Done.cell {o a b:List Int} (ha:TermOk l a) (hb:TermOk l b) {T:List Bool} {i j:Nat} (hi:i < a.length) (hj:j < b.length) (h:Done l o a b T (i*b.length+(j+1))) :
 cell l o a b (fun p q=>T.getD (p*b.length+q) false) i j=gt l o a b i j:=by
 rw [gt_eq ha hb hi hj]
 refine cell_congr ha hb hi hj fun p q h1 h2 h3 h4 h5=>h.2 p q h3 h4 ?_
 have h6:i*b.length≤p*b.length:=Nat.mul_le_mul_right _ h1
 rcases h5 with h5 | h5
 · have:(i+1)*b.length≤p*b.length:=Nat.mul_le_mul_right _ h5
   rw [Nat.succ_mul] at this; omega
 · omega
omit ok in
theorem Done.set {o a b:List Int} {T:List Bool} {i j:Nat} (hi:i < a.length) (hj:j < b.length) (h:Done l o a b T (i*b.length+(j+1))):Done l o a b (T.set (i*b.length+j) (gt l o a b i j)) (i*b.length+j):=by
 have hin:=at_bound hi hj
 refine ⟨by rw [List.length_set]; exact h.1,fun p q hp hq hle => ?_⟩
 by_cases e:i*b.length+j=p*b.length+q
 · obtain ⟨rfl,rfl⟩:=at_inj hq hj e.symm
   simp [List.getD_eq_getElem?_getD,h.1,hin]
 · have:=h.2 p q hp hq (by omega)
   rw [← this,List.getD_eq_getElem?_getD,List.getD_eq_getElem?_getD,List.getElem?_set_ne e]
end
end Ev.Ty
end
section
namespace Ev.Ty
open Go Ev
open Enc (enc)
open Sm (sm)
set_option linter.unusedSimpArgs false
set_option linter.unusedVariables false
def orderF (l:List Symbol) (o:List Int):Int:=if o.length≠l.length then 2 else if (o.any fun n => !inR n 0 (l.length - 1))=true then 3 else if twice o=true then 6 else 0
def orderFault (s:Signature) (o:List Int):Int:=if sigFault s≠0 then sigFault s else orderF s.symbols o
theorem pigeon:∀ (k:Nat) (o:List Int),o.Nodup→(∀ n∈o,0≤n∧n < k)→o.length≤k
 | 0,o,_,h=>by
   cases o with
   | nil=>simp
   | cons x o=>have:=h x (by simp); omega
 | k+1,o,hn,h=>by
   by_cases hk:(k:Int)∈o
   · have h1:=List.length_erase_of_mem hk
     have:=pigeon k (o.erase (k:Int)) (hn.erase _) fun n hm=>by
      have hm':=(hn.mem_erase_iff).1 hm
      have:=h n hm'.2
      omega
     omega
   · have:=pigeon k o hn fun n hm=>by
      have:=h n hm
      have:n≠(k:Int):=fun e=>hk (e ▸ hm)
      omega
     omega
theorem impl_isSymbol {l:List Symbol} (hs:l.length≤4294967296) (n:Int):Call F.impl_isSymbol [.agg [slc l],.int .i64 n] (.bool (inR n 0 (l.length - 1))):=by
 refine call_of rfl 0 ((impl_isSymbol.ev _ _ _).trans ?_)
 simp only [evz,Nat.reduceLT,wrap64 (x:=(l.length:Int) - 1) (by omega),(impl_within _ _ _).eq]
theorem spec_l2Symbol {l:List Symbol} (hs:l.length≤4294967296) (n:Int):Call F.spec_l2Symbol [.rref [slc l] 0,.int .i64 n] (.bool (inR n 0 (l.length - 1))):=by
 refine call_of rfl 0 ((spec_l2Symbol.ev _ _ _).trans ?_)
 simp only [evz,Nat.reduceLT,wrap64 (x:=(l.length:Int) - 1) (by omega),(spec_l1In _ _ _).eq]
theorem take_mem_pairs (o:List Int):((List.range o.length).any fun k=>o[k]?.any fun x=>decide (x∈o.take k))=twice o:=by
 have:=twice_pairs (fun x:Int=>x) o
 rw [List.map_id'] at this
 rw [← this,Bool.eq_iff_iff]
 simp only [List.any_eq_true,List.mem_range]
 constructor
 · rintro ⟨k,hk,h⟩
   rw [List.getElem?_eq_getElem hk,Option.any_some,decide_eq_true_iff] at h
   obtain ⟨j,hj,he⟩:=List.getElem_of_mem h
   rw [List.length_take] at hj
   rw [List.getElem_take] at he
   refine ⟨k,hk,j,by omega,?_⟩
   rw [List.getElem?_eq_getElem hk,List.getElem?_eq_getElem (show j < o.length by omega)]
   simp [he]
 · rintro ⟨i,hi,j,hj,h⟩
   rw [List.getElem?_eq_getElem hi,List.getElem?_eq_getElem (show j < o.length by omega)] at h
   refine ⟨i,hi,?_⟩
   rw [List.getElem?_eq_getElem hi,Option.any_some,decide_eq_true_iff]
   have he:o[i]=o[j]:=by simpa using h
   rw [he]
   exact List.mem_take_iff_getElem.2 ⟨j,by omega,rfl⟩
theorem impl_OrderFault (l:List Symbol) (hs:l.length≤4294967296) (o:List Int) (ho:o.length≤4294967296):Call F.impl_OrderFault [.agg [slc l],slc o] (.int .i64 (orderFault ⟨l⟩ o)):=by
 have hi:Call F.slices_IndexFunc_Sint64 [slc o,.clo F.impl_OrderFault_1 [.rref [slc l] 0]] (.int .i64 (idx (fun n => !inR n 0 (l.length - 1)) o)):=by
  refine call_of rfl (o.length+1) ((slices_IndexFunc_Sint64_at1_impl_OrderFault_1.ev _ _ _).trans ?_)
  simp only [evz,Nat.reduceLT]
  refine idx_loop (S:=fun m k=>slices_IndexFunc_Sint64_at1_impl_OrderFault_1.at0 (o.length+1) m (slices_IndexFunc_Sint64_at1_impl_OrderFault_1.st0 (cells o) (cells l) o.length (k:Nat))) (fun m k h => ?_) (fun m => ?_) (Nat.lt_succ_self _)
  · have hlk:o[k]?=some o[k]:=List.getElem?_eq_getElem h
    have hc:Call F.impl_OrderFault_1 [.int .i64 o[k],.rref [slc l] 0] (.bool (!inR o[k] 0 (l.length - 1))):=by
     refine call_of rfl 0 ((impl_OrderFault_1.ev _ _ _).trans ?_)
     simp only [evz,Nat.reduceLT,(impl_isSymbol hs _).eq]
    simp only [slices_IndexFunc_Sint64_at1_impl_OrderFault_1.next0,slices_IndexFunc_Sint64_at1_impl_OrderFault_1.round0,evz,Nat.reduceLT,h,hlk,enc_int,hc.eq]
    rw [wrap_succ (by omega)]
    cases inR o[k] 0 (l.length - 1) <;> rfl
  · simp only [slices_IndexFunc_Sint64_at1_impl_OrderFault_1.next0,slices_IndexFunc_Sint64_at1_impl_OrderFault_1.round0,evz,Nat.reduceLT,Nat.lt_irrefl]
 have hc:Call F.slices_ContainsFunc_Sint64 [slc o,.clo F.impl_OrderFault_1 [.rref [slc l] 0]] (.bool (o.any fun n => !inR n 0 (l.length - 1))):=by
  refine call_of rfl 0 ((slices_ContainsFunc_Sint64_at1_impl_OrderFault_1.ev _ _ _).trans ?_)
  simp only [evz,Nat.reduceLT,hi.eq,idx_nonneg]
 refine call_of rfl (o.length+1) ((impl_OrderFault.ev _ _ _).trans ?_)
 simp only [evz,Nat.reduceLT,(impl_SignatureFault l hs).eq,orderFault,orderF]
 by_cases h1:sigFault ⟨l⟩=0
 case neg=>simp only [h1,evz,Nat.reduceLT,ne_eq,not_false_eq_true]
 by_cases h2:o.length=l.length
 case neg =>
  have h2':¬ ((o.length:Int)=(l.length:Int)):=by omega
  simp only [h1,h2,h2',evz,Nat.reduceLT,ne_eq,not_true_eq_false,not_false_eq_true]
 have h2':((o.length:Int)=(l.length:Int)):=by omega
 cases h3:o.any fun n => !inR n 0 (l.length - 1) with
 | true =>
   rw [h3] at hc
   simp only [h1,h2',h2,evz,Nat.reduceLT,ne_eq,not_true_eq_false,hc.eq]
 | false =>
   rw [h3] at hc
   simp only [h1,h2',h2,evz,Nat.reduceLT,ne_eq,not_true_eq_false,hc.eq]
   rw [← h2',← h2]
   refine (any_loop (n:=o.length) (bad:=fun k=>o[k]?.any fun x=>decide (x∈o.take k)) (r:=some (.int .i64 6,[])) (z:=some (.int .i64 0,[]))
    (S:=fun m k=>impl_OrderFault.at0 (o.length+1) m (impl_OrderFault.st0 (cells o) (cells o) o.length (k:Nat))) (fun m k h => ?_) (fun m => ?_) (Nat.lt_succ_self _)).trans ?_
   · have hlk:o[k]?=some o[k]:=List.getElem?_eq_getElem h
     have hm:=(slices_Contains_Sint64 (o.take k) o[k] (by simp; omega)).eq
     simp only [impl_OrderFault.next0,impl_OrderFault.round0,evz,Nat.reduceLT,h,hlk,enc_int]
     rw [cond_pos (by simp; omega),Nat.zero_mul,List.drop_zero,cells_take o 1 k rfl,sl_cells (k:=1) (l:=o.take k) rfl,hm,wrap_succ (by omega)]
     by_cases e:o[k]∈o.take k <;> simp [e,evz,Nat.reduceLT]
   · simp only [impl_OrderFault.next0,impl_OrderFault.round0,evz,Nat.reduceLT,Nat.lt_irrefl]
   · rw [take_mem_pairs]
     cases twice o <;> rfl
theorem spec_l2Order (l:List Symbol) (hs:l.length≤4294967296) (o:List Int) (ho:o.length≤4294967296):Call F.spec_l2Order [.rref [slc l] 0,slc o] (.int .i64 (orderF l o)):=by
 obtain ⟨n,hn⟩:∃ n,n=o.length+1:=⟨_,rfl⟩
 refine call_of rfl n ((spec_l2Order.ev _ _ _).trans ?_)
 simp only [evz,Nat.reduceLT,orderF]
 by_cases h2:o.length=l.length
 case neg =>
  have h2':¬ ((o.length:Int)=(l.length:Int)):=by omega
  simp only [h2,h2',evz,Nat.reduceLT,ne_eq,not_true_eq_false,not_false_eq_true]
 have h2':((o.length:Int)=(l.length:Int)):=by omega
 simp only [h2',h2,evz,Nat.reduceLT,ne_eq,not_true_eq_false]
 have two:=any_loop (n:=o.length) (bad:=fun i=>(List.range i).any fun j=>o[i]?.any fun x=>o[j]?.any fun y=>decide (x=y))
  (S:=fun m i=>spec_l2Order.at2 n m (spec_l2Order.st2 (cells o) (i:Nat))) (r:=some (.int .i64 6,[])) (z:=some (.int .i64 0,[]))
  (fun m i h=>by
   have hlk:o[i]?=some o[i]:=List.getElem?_eq_getElem h
   simp only [spec_l2Order.next2,spec_l2Order.round2,evz,Nat.reduceLT,h]
   refine any_loop (n:=i) (f:=n) (bad:=fun j=>o[i]?.any fun x=>o[j]?.any fun y=>decide (x=y))
    (S:=fun m' j=>spec_l2Order.at4 n (spec_l2Order.at2 n m) m' (spec_l2Order.st4 (cells o) (i:Nat) (j:Nat))) (fun m' j hj => ?_) (fun m' => ?_) (by omega)
   · have hj':j < o.length:=by omega
     have hjk:o[j]?=some o[j]:=List.getElem?_eq_getElem hj'
     simp only [spec_l2Order.next4,spec_l2Order.round4,evz,Nat.reduceLT,h,hj,hj',hlk,hjk,enc_int]
     rw [wrap_succ (by omega)]
     by_cases e:o[i]=o[j] <;> simp [e]
   · simp only [spec_l2Order.next4,spec_l2Order.round4,evz,Nat.reduceLT,Nat.lt_irrefl]
     rw [wrap_succ (by omega)])
  (fun m=>by simp only [spec_l2Order.next2,spec_l2Order.round2,evz,Nat.reduceLT,Nat.lt_irrefl]) (show o.length < n by omega)
 have tp:=twice_pairs (fun x:Int=>x) o
 rw [List.map_id'] at tp
 rw [tp] at two
 refine (any_loopL (l:=o) (p:=fun x => !inR x 0 (l.length - 1)) (S:=fun m k=>spec_l2Order.at0 n m (spec_l2Order.st0 (cells l) (cells o) (k:Nat))) (r:=some (.int .i64 3,[])) (z:=if twice o=true then some (.int .i64 6,[]) else some (.int .i64 0,[])) (fun m k h => ?_) (fun m => ?_) (show o.length < n by omega)).trans ?_
 · have hlk:o[k]?=some o[k]:=List.getElem?_eq_getElem h
   simp only [spec_l2Order.next0,spec_l2Order.round0,evz,Nat.reduceLT,h,hlk,enc_int,(spec_l2Symbol hs _).eq]
   rw [wrap_succ (by omega)]
   cases inR o[k] 0 (l.length - 1) <;> rfl
 · simp only [spec_l2Order.next0,spec_l2Order.round0,evz,Nat.reduceLT,Nat.lt_irrefl]
   exact two
 · cases o.any fun x => !inR x 0 (l.length - 1) <;> cases twice o <;> rfl
theorem spec_OrderFault (l:List Symbol) (hs:l.length≤4294967296) (o:List Int) (ho:o.length≤4294967296):Call F.spec_OrderFault [.agg [slc l],slc o] (.int .i64 (orderFault ⟨l⟩ o)):=by
 refine call_of rfl 0 ((spec_OrderFault.ev _ _ _).trans ?_)
 simp only [evz,Nat.reduceLT,(spec_SignatureFault l hs).eq,(spec_l2Order l hs o ho).eq,orderFault]
 by_cases h1:sigFault ⟨l⟩=0
 · simp only [h1,evz,Nat.reduceLT,ne_eq,not_true_eq_false]
 · simp only [h1,evz,Nat.reduceLT,ne_eq,not_false_eq_true]
end Ev.Ty
end
section
namespace Ev.Ty
open Go Ev
open Enc (enc)
open Sm (sm)
set_option linter.unusedSimpArgs false
set_option linter.unusedVariables false
def Free (b:Bnd) (t:List Int):Prop:=∀ n∈t,(-1 - n)∉b.1
theorem bindOf_notMem {vs:List Int} {ts:List (List Int)} {v:Int} (h:v∉vs):bindOf vs ts v=none:=by
 unfold bindOf
 rcases idx_spec (fun x:Int=>decide (x=v)) vs with ⟨h1,_⟩ | ⟨i,hi,h1,hy,_⟩
 · rw [if_pos (by omega)]
 · have:vs[i]=v:=by simpa using hy
   exact absurd (this ▸ List.getElem_mem hi) h
theorem applied_free {b:Bnd}:∀ {t:List Int},Free b t→applied b.1 b.2 t=t
 | [],_=>rfl
 | n::t,h=>by
   have ih:=applied_free (b:=b) (t:=t) fun m hm=>h m (List.mem_cons_of_mem _ hm)
   have e:applied b.1 b.2 (n::t)=(bindOf b.1 b.2 (-1 - n)).getD [n]++applied b.1 b.2 t:=by simp [applied]
   rw [e,bindOf_notMem (h n (by simp)),ih]; rfl
theorem applied_nodes {vs:List Int} {ts:List (List Int)} {P:Int→Prop} (ht:∀ x∈ts,∀ n∈x,P n) {t:List Int} (h:∀ n∈t,bindOf vs ts (-1 - n)=none→P n):∀ n∈applied vs ts t,P n:=fun n hn=>by
 unfold applied at hn
 obtain ⟨m,hm,hn⟩:=List.mem_flatMap.1 hn
 cases ho:bindOf vs ts (-1 - m) with
 | none=>rw [ho] at hn; rw [List.mem_singleton.1 hn]; exact h m hm ho
 | some o=>rw [ho] at hn; exact ht o (bindOf_mem ho) n hn
structure UB (l:List Symbol) (b:Bnd):Prop where
 mb:MB l b 12
 nd:b.1.Nodup
 free:∀ t∈b.2,Free b t
theorem UB.nil (l:List Symbol):UB l ([],[]):=⟨(MB.nil l).up (by omega),List.nodup_nil,by simp⟩
theorem UB.le {l:List Symbol} {b:Bnd} (h:UB l b):b.1.length≤12:=h.mb.le
theorem UB.applied_free {l:List Symbol} {b:Bnd} (h:UB l b) (t:List Int):Free b (applied b.1 b.2 t):=applied_nodes h.free fun n _ hn=>bindOf_none h.mb.len hn
theorem UB.applied_ok {l:List Symbol} {b:Bnd} (h:UB l b) {t:List Int} (ht:TermOk l t) (hl:(applied b.1 b.2 t).length≤24):TermOk l (applied b.1 b.2 t):=by
 have hs:=skip_applied h.mb (by omega) t [] 1 ht.skip
 rw [List.append_nil] at hs
 refine ⟨?_,hl,applied_node h.mb ht.node,hs⟩
 rcases Nat.eq_zero_or_pos (applied b.1 b.2 t).length with h0 | h0
 · rw [List.eq_nil_of_length_eq_zero h0] at hs; cases hs
 · exact h0
def one (v:Int) (t:List Int):Bnd:=([v],[t])
def bindAll (b:Bnd) (v:Int) (t:List Int):Option Bnd :=
 if (b.2.any fun x=>decide (24 < (applied [v] [t] x).length))=true then none else some (bput (b.1,b.2.map (applied [v] [t])) v t)
theorem bindOf_one (v:Int) (t:List Int) (w:Int):bindOf [v] [t] w=if v=w then some t else none:=by
 by_cases h:v=w
 · subst h; simp [bindOf,idx]
 · rw [if_neg h]; exact bindOf_notMem (by simpa using fun e=>h e.symm)
theorem one_mb {l:List Symbol} {v:Int} (hv:0≤v∧v≤11) {t:List Int} (ht:TermOk l t):MB l (one v t) 1:=⟨rfl,Nat.le_refl _,fun x hx=>by rw [List.mem_singleton.1 hx]; exact hv,fun x hx=>by rw [List.mem_singleton.1 hx]; exact ht⟩
theorem ins_nodup {l:List Int} {i:Nat} {x:Int} (h:l.Nodup) (hx:x∉l):(ins l i x).Nodup:=by
 unfold ins
 have hp:(l.take i++x::l.drop i).Perm (x::l):=by
  refine List.perm_middle.trans ?_
  rw [List.take_append_drop]
 exact hp.nodup_iff.2 (List.nodup_cons.2 ⟨hx,h⟩)
theorem mem_ins_iff {l:List Int} {i:Nat} {x y:Int}:y∈ins l i x↔y=x∨y∈l:=by
 unfold ins
 constructor
 · intro h
   rcases List.mem_append.1 h with h | h
   · exact .inr (List.mem_of_mem_take h)
   · rcases List.mem_cons.1 h with h | h
     · exact .inl h
     · exact .inr (List.mem_of_mem_drop h)
 · rintro (rfl | h)
   · simp
   · rw [← List.take_append_drop i l,List.mem_append] at h
     rcases h with h | h
     · exact List.mem_append_left _ h
     · exact List.mem_append_right _ (List.mem_cons_of_mem _ h)
theorem pigeon_ub {vs:List Int} (h:vs.Nodup) (hv:∀ v∈vs,0≤v∧v≤11):vs.length≤12:=pigeon 12 vs h fun v hm=>by have:=hv v hm; omega
theorem bindAll_ub {l:List Symbol} {b:Bnd} (h:UB l b) {v:Int} (hv:0≤v∧v≤11) (hnb:v∉b.1) {t:List Int} (ht:TermOk l t) (hf:Free b t) (hvt:(-1 - v)∉t) {b':Bnd} (hb:bindAll b v t=some b') :
 UB l b'∧b'.1.length=b.1.length+1:=by
 unfold bindAll at hb
 split at hb
 · cases hb
 rename_i hany
 cases hb
 have hi:=insAt_le b.1 v
 have hlen:=h.mb.len
 have hmem:∀ w,w∈(bput (b.1,b.2.map (applied [v] [t])) v t).1↔w=v∨w∈b.1:=fun w=>mem_ins_iff
 have hnd:(bput (b.1,b.2.map (applied [v] [t])) v t).1.Nodup:=ins_nodup h.nd hnb
 have hvar:∀ w∈(bput (b.1,b.2.map (applied [v] [t])) v t).1,0≤w∧w≤11:=fun w hw=>by
  rcases (hmem w).1 hw with rfl | hw
  · exact hv
  · exact h.mb.var w hw
 have hl1:(bput (b.1,b.2.map (applied [v] [t])) v t).1.length=b.1.length+1:=ins_length _ _ _ hi
 have hone:=one_mb hv ht
 have tm:∀ x∈(bput (b.1,b.2.map (applied [v] [t])) v t).2,TermOk l x∧Free (bput (b.1,b.2.map (applied [v] [t])) v t) x:=fun x hx=>by
  rcases mem_ins hx with rfl | hx
  · refine ⟨ht,fun n hn hm => ?_⟩
    rcases (hmem _).1 hm with e | hm
    · exact hvt (by have:n = -1 - v:=by omega
                    exact this ▸ hn)
    · exact hf n hn hm
  · obtain ⟨y,hy,rfl⟩:=List.mem_map.1 hx
    have hyo:=h.mb.tm y hy
    have hle:(applied [v] [t] y).length≤24:=by
     rcases Nat.lt_or_ge 24 (applied [v] [t] y).length with h24 | h24
     · exact absurd (List.any_eq_true.2 ⟨y,hy,decide_eq_true h24⟩) hany
     · exact h24
    refine ⟨?_,?_⟩
    · have hs:=skip_applied hone (by omega) y [] 1 hyo.skip
      rw [List.append_nil] at hs
      refine ⟨?_,hle,applied_node hone hyo.node,hs⟩
      rcases Nat.eq_zero_or_pos (applied [v] [t] y).length with h0 | h0
      · have hs:skip (ar l) 1 (applied [v] [t] y)=some []:=hs
        rw [List.eq_nil_of_length_eq_zero h0] at hs; cases hs
      · exact h0
    · refine applied_nodes (P:=fun n=>(-1 - n)∉(bput (b.1,b.2.map (applied [v] [t])) v t).1) (fun z hz n hn hm => ?_) (fun n hn hno hm => ?_)
      · rw [List.mem_singleton.1 hz] at hn
        rcases (hmem _).1 hm with e | hm
        · exact hvt (by have:n = -1 - v:=by omega
                        exact this ▸ hn)
        · exact hf n hn hm
      · rcases (hmem _).1 hm with e | hm
        · rw [bindOf_one,if_pos e.symm] at hno; cases hno
        · exact h.free y hy n hn hm
 refine ⟨⟨⟨?_,?_,hvar,fun x hx=>(tm x hx).1⟩,hnd,fun x hx=>(tm x hx).2⟩,hl1⟩
 · rw [hl1]
   show _=(ins (b.2.map (applied [v] [t])) (insAt b.1 v) t).length
   rw [ins_length _ _ _ (by simp; omega)]; simp; omega
 · exact pigeon_ub hnd hvar
abbrev Pr:=Equation
def argsOf (l:List Symbol) (x y:List Int):List Pr:=((starts l x 0).zip (starts l y 0)).map fun p=>⟨subAt l x p.1,subAt l y p.2⟩
def psize (b:Bnd) (ps:List Pr):Nat:=(ps.map fun p=>(applied b.1 b.2 p.left).length+(applied b.1 b.2 p.right).length).sum
theorem sum_starts {l:List Symbol} {t:List Int} (ht:TermOk l t):∀ {n p:Nat} {r:List Int},skip (ar l) n (t.drop p)=some r→((startsN l t n p).map fun q=>(subAt l t q).length).sum+r.length=t.length - p
 | 0,p,r,h=>by
   rw [skip_zero] at h
   rw [← Option.some.inj h]
   simp [startsN]
 | n+1,p,r,h=>by
   obtain ⟨h1,h2,h3,h4⟩:=skip_one h
   have ih:=sum_starts ht h2
   have hs:=(sub_split ht h1).2.1
   rw [startsN,List.map_cons,List.sum_cons]
   omega
theorem sum_args {l:List Symbol} {t:List Int} (ht:TermOk l t):((starts l t 0).map fun q=>(subAt l t q).length).sum+1=t.length:=by
 have hp:=ht.pos
 obtain ⟨r,hr⟩:=args_skip ht (p:=0) (by omega)
 have hd:t.getD 0 0=t[0]:=getD_at (by omega)
 have h:=sum_starts ht hr
 have hw:=ht.skip
 have e:t=t[0]::t.drop 1:=by
  have:=List.drop_eq_getElem_cons (l:=t) (i:=0) (by omega)
  rwa [List.drop_zero] at this
 rw [e,skip,Nat.zero_add] at hw
 rw [Nat.zero_add,hw] at hr
 have:r=[]:=(Option.some.inj hr).symm
 subst this
 unfold starts
 rw [hd]
 simp at h ⊢
 omega
theorem zip_sum {α β:Type} (f:α→Nat) (g:β→Nat):∀ (A:List α) (B:List β),A.length=B.length→((A.zip B).map fun p=>f p.1+g p.2).sum=(A.map f).sum+(B.map g).sum
 | [],[],_=>rfl
 | a::A,b::B,h=>by
   have ih:=zip_sum f g A B (by simpa using h)
   simp only [List.zip_cons_cons,List.map_cons,List.sum_cons] at ih ⊢
   omega
 | [],_::_,h=>by simp at h
 | _::_,[],h=>by simp at h
theorem subAt_sub {l:List Symbol} {t:List Int} {p:Nat}:∀ n∈subAt l t p,n∈t:=fun n hn=>List.mem_of_mem_take (List.mem_of_mem_drop hn)
theorem args_size {l:List Symbol} {b:Bnd} {x y:List Int} (hx:TermOk l x) (hy:TermOk l y) (fx:Free b x) (fy:Free b y) (he:x.getD 0 0=y.getD 0 0):psize b (argsOf l x y)+2=x.length+y.length:=by
 have e:(argsOf l x y).map (fun p=>(applied b.1 b.2 p.left).length+(applied b.1 b.2 p.right).length)=((starts l x 0).zip (starts l y 0)).map fun p=>(subAt l x p.1).length+(subAt l y p.2).length:=by
  unfold argsOf
  rw [List.map_map]
  refine List.map_congr_left fun p hp => ?_
  show (applied b.1 b.2 (subAt l x p.1)).length+(applied b.1 b.2 (subAt l y p.2)).length=_
  rw [applied_free fun n hn=>fx n (subAt_sub n hn),applied_free fun n hn=>fy n (subAt_sub n hn)]
 have hl:(starts l x 0).length=(starts l y 0).length:=by unfold starts; rw [startsN_length,startsN_length,he]
 unfold psize
 rw [e,zip_sum (fun p=>(subAt l x p).length) (fun q=>(subAt l y q).length) _ _ hl]
 have:=sum_args hx
 have:=sum_args hy
 omega
theorem args_ok {l:List Symbol} {x y:List Int} (hx:TermOk l x) (hy:TermOk l y):∀ p∈argsOf l x y,TermOk l p.left∧TermOk l p.right:=fun p hp=>by
 unfold argsOf at hp
 obtain ⟨q,hq,rfl⟩:=List.mem_map.1 hp
 have h1:=starts_mem hx (p:=0) (by have:=hx.pos; omega) (List.of_mem_zip hq).1
 have h2:=starts_mem hy (p:=0) (by have:=hy.pos; omega) (List.of_mem_zip hq).2
 exact ⟨subAt_ok hx h1.2,subAt_ok hy h2.2⟩
def unif (l:List Symbol):Nat→Bnd→List Pr→Option (Bnd ⊕ Int)
 | 0,_,_=>none
 | _+1,b,[]=>some (.inl b)
 | n+1,b,p::ps =>
   if 24 < (applied b.1 b.2 p.left).length∨24 < (applied b.1 b.2 p.right).length then some (.inr 2)
   else if applied b.1 b.2 p.left=applied b.1 b.2 p.right then unif l n b ps
   else if (applied b.1 b.2 p.left).getD 0 0 < 0 then
    if (applied b.1 b.2 p.left).getD 0 0∈applied b.1 b.2 p.right then some (.inr 4) else match bindAll b (-1 - (applied b.1 b.2 p.left).getD 0 0) (applied b.1 b.2 p.right) with
     | none=>some (.inr 2)
     | some b'=>unif l n b' ps
   else if (applied b.1 b.2 p.right).getD 0 0 < 0 then
    if (applied b.1 b.2 p.right).getD 0 0∈applied b.1 b.2 p.left then some (.inr 4) else match bindAll b (-1 - (applied b.1 b.2 p.right).getD 0 0) (applied b.1 b.2 p.left) with
     | none=>some (.inr 2)
     | some b'=>unif l n b' ps
   else if (applied b.1 b.2 p.left).getD 0 0≠(applied b.1 b.2 p.right).getD 0 0 then some (.inr 4)
   else unif l n b (argsOf l (applied b.1 b.2 p.left) (applied b.1 b.2 p.right)++ps)
theorem unif_mono {l:List Symbol}:∀ {n m:Nat} {b:Bnd} {ps:List Pr} {r:Bnd ⊕ Int},unif l n b ps=some r→n≤m→unif l m b ps=some r
 | 0,m,b,ps,r,h,hm=>by cases h
 | n+1,m,b,ps,r,h,hm=>by
   obtain ⟨m,rfl⟩:∃ q,m=q+1:=⟨m - 1,by omega⟩
   have ih:∀ {b:Bnd} {ps:List Pr} {r:Bnd ⊕ Int},unif l n b ps=some r→unif l m b ps=some r:=fun h=>unif_mono h (by omega)
   cases ps with
   | nil=>exact h
   | cons p ps =>
     rw [unif] at h ⊢
     split at h
     · rename_i c; rw [if_pos c]; exact h
     rename_i c
     rw [if_neg c]
     split at h
     · rename_i c; rw [if_pos c]; exact ih h
     rename_i c
     rw [if_neg c]
     split at h
     · rename_i c
       rw [if_pos c]
       split at h
       · rename_i c; rw [if_pos c]; exact h
       rename_i c
       rw [if_neg c]
       split at h
       · exact h
       · exact ih h
     rename_i c
     rw [if_neg c]
     split at h
     · rename_i c
       rw [if_pos c]
       split at h
       · rename_i c; rw [if_pos c]; exact h
       rename_i c
       rw [if_neg c]
       split at h
       · exact h
       · exact ih h
     rename_i c
     rw [if_neg c]
     split at h
     · rename_i c; rw [if_pos c]; exact h
     rename_i c
     rw [if_neg c]
     exact ih h
theorem UB.head_var {l:List Symbol} {b:Bnd} (h:UB l b) {t:List Int} (hx:TermOk l (applied b.1 b.2 t)) (hn:(applied b.1 b.2 t).getD 0 0 < 0) :
 (0 ≤ -1 - (applied b.1 b.2 t).getD 0 0 ∧ -1 - (applied b.1 b.2 t).getD 0 0≤11) ∧ -1 - (applied b.1 b.2 t).getD 0 0∉b.1:=by
 have hp:=hx.pos
 have hd:(applied b.1 b.2 t).getD 0 0=(applied b.1 b.2 t)[0]:=getD_at (by omega)
 have hm:(applied b.1 b.2 t).getD 0 0∈applied b.1 b.2 t:=by rw [hd]; exact List.getElem_mem _
 have:=nodeOk_iff.1 (hx.node _ hm)
 exact ⟨by omega,h.applied_free t _ hm⟩
theorem unif_ends {l:List Symbol}:∀ (d k:Nat) (b:Bnd) (ps:List Pr),UB l b→(∀ p∈ps,TermOk l p.left∧TermOk l p.right)→12 - b.1.length≤d→psize b ps≤k →
 ∃ n r,unif l n b ps=some r∧∀ b',r = .inl b'→UB l b':=by
 intro d
 induction d with
 | zero =>
   intro k
   induction k using Nat.strongRecOn with
   | _ k ihk=>exact fun b ps=>unif_step 0 k (fun d' hd'=>by omega) ihk b ps
 | succ d ihd =>
   intro k
   induction k using Nat.strongRecOn with
   | _ k ihk=>exact fun b ps=>unif_step (d+1) k (fun d' hd' k b ps h1 h2 h3 h4=>ihd k b ps h1 h2 (by omega) h4) ihk b ps
where
 unif_step {l:List Symbol} (d k:Nat)
  (ihd:∀ d',d' < d→∀ (k:Nat) (b:Bnd) (ps:List Pr),UB l b→(∀ p∈ps,TermOk l p.left∧TermOk l p.right)→12 - b.1.length≤d'→psize b ps≤k→∃ n r,unif l n b ps=some r∧∀ b',r = .inl b'→UB l b')
  (ihk:∀ k',k' < k→∀ (b:Bnd) (ps:List Pr),UB l b→(∀ p∈ps,TermOk l p.left∧TermOk l p.right)→12 - b.1.length≤d→psize b ps≤k'→∃ n r,unif l n b ps=some r∧∀ b',r = .inl b'→UB l b')
  (b:Bnd) (ps:List Pr) (hb:UB l b) (hps:∀ p∈ps,TermOk l p.left∧TermOk l p.right) (hd:12 - b.1.length≤d) (hk:psize b ps≤k):∃ n r,unif l n b ps=some r∧∀ b',r = .inl b'→UB l b':=by
  cases ps with
  | nil=>exact ⟨1,.inl b,rfl,fun b' e=>by cases e; exact hb⟩
  | cons p ps =>
    have hp:=hps p (by simp)
    have hps':∀ q∈ps,TermOk l q.left∧TermOk l q.right:=fun q hq=>hps q (List.mem_cons_of_mem _ hq)
    have hsz:psize b (p::ps)=(applied b.1 b.2 p.left).length+(applied b.1 b.2 p.right).length+psize b ps:=by simp [psize]
    by_cases c1:24 < (applied b.1 b.2 p.left).length∨24 < (applied b.1 b.2 p.right).length
    · exact ⟨1,.inr 2,by rw [unif,if_pos c1],fun _ e=>by cases e⟩
    have hx:=hb.applied_ok hp.1 (by omega)
    have hy:=hb.applied_ok hp.2 (by omega)
    have hxp:=hx.pos
    by_cases c2:applied b.1 b.2 p.left=applied b.1 b.2 p.right
    · obtain ⟨n,r,h1,h2⟩:=ihk (psize b ps) (by omega) b ps hb hps' hd (Nat.le_refl _)
      exact ⟨n+1,r,by rw [unif,if_neg c1,if_pos c2]; exact h1,h2⟩
    have bindcase:∀ (u t:List Int),TermOk l (applied b.1 b.2 u)→TermOk l (applied b.1 b.2 t)→(applied b.1 b.2 u).getD 0 0 < 0→(applied b.1 b.2 u).getD 0 0∉applied b.1 b.2 t→∀ b',bindAll b (-1 - (applied b.1 b.2 u).getD 0 0) (applied b.1 b.2 t)=some b' →
     ∃ n r,unif l n b' ps=some r∧∀ b',r = .inl b'→UB l b':=fun u t hu ht hneg hno b' hb'=>by
     obtain ⟨hv,hnb⟩:=hb.head_var hu hneg
     obtain ⟨q1,q2⟩:=bindAll_ub hb hv hnb ht (hb.applied_free t) (by rw [show -1 - (-1 - (applied b.1 b.2 u).getD 0 0)=(applied b.1 b.2 u).getD 0 0 by omega]; exact hno) hb'
     have:=q1.le
     exact ihd (d - 1) (by omega) (psize b' ps) b' ps q1 hps' (by omega) (Nat.le_refl _)
    by_cases c3:(applied b.1 b.2 p.left).getD 0 0 < 0
    · by_cases c4:(applied b.1 b.2 p.left).getD 0 0∈applied b.1 b.2 p.right
      · exact ⟨1,.inr 4,by rw [unif,if_neg c1,if_neg c2,if_pos c3,if_pos c4],fun _ e=>by cases e⟩
      cases hb':bindAll b (-1 - (applied b.1 b.2 p.left).getD 0 0) (applied b.1 b.2 p.right) with
      | none=>exact ⟨1,.inr 2,by rw [unif,if_neg c1,if_neg c2,if_pos c3,if_neg c4,hb'],fun _ e=>by cases e⟩
      | some b' =>
        obtain ⟨n,r,h1,h2⟩:=bindcase p.left p.right hx hy c3 c4 b' hb'
        exact ⟨n+1,r,by rw [unif,if_neg c1,if_neg c2,if_pos c3,if_neg c4,hb']; exact h1,h2⟩
    by_cases c5:(applied b.1 b.2 p.right).getD 0 0 < 0
    · by_cases c4:(applied b.1 b.2 p.right).getD 0 0∈applied b.1 b.2 p.left
      · exact ⟨1,.inr 4,by rw [unif,if_neg c1,if_neg c2,if_neg c3,if_pos c5,if_pos c4],fun _ e=>by cases e⟩
      cases hb':bindAll b (-1 - (applied b.1 b.2 p.right).getD 0 0) (applied b.1 b.2 p.left) with
      | none=>exact ⟨1,.inr 2,by rw [unif,if_neg c1,if_neg c2,if_neg c3,if_pos c5,if_neg c4,hb'],fun _ e=>by cases e⟩
      | some b' =>
        obtain ⟨n,r,h1,h2⟩:=bindcase p.right p.left hy hx c5 c4 b' hb'
        exact ⟨n+1,r,by rw [unif,if_neg c1,if_neg c2,if_neg c3,if_pos c5,if_neg c4,hb']; exact h1,h2⟩
    by_cases c6:(applied b.1 b.2 p.left).getD 0 0=(applied b.1 b.2 p.right).getD 0 0
    · have ha:=args_size (b:=b) hx hy (hb.applied_free _) (hb.applied_free _) c6
      have happ:psize b (argsOf l (applied b.1 b.2 p.left) (applied b.1 b.2 p.right)++ps)=psize b (argsOf l (applied b.1 b.2 p.left) (applied b.1 b.2 p.right))+psize b ps:=by simp [psize]
      obtain ⟨n,r,h1,h2⟩:=ihk _ (show psize b (argsOf l (applied b.1 b.2 p.left) (applied b.1 b.2 p.right)++ps) < k by omega) b _ hb (fun q hq=>by
       rcases List.mem_append.1 hq with hq | hq
       · exact args_ok hx hy q hq
       · exact hps' q hq) hd (Nat.le_refl _)
      exact ⟨n+1,r,by rw [unif,if_neg c1,if_neg c2,if_neg c3,if_neg c5,if_neg (by simpa using c6)]; exact h1,h2⟩
    · exact ⟨1,.inr 4,by rw [unif,if_neg c1,if_neg c2,if_neg c3,if_neg c5,if_pos c6],fun _ e=>by cases e⟩
end Ev.Ty
end
section
namespace Ev.Ty
open Go Ev
open Enc (enc)
open Sm (sm)
set_option linter.unusedSimpArgs false
set_option linter.unusedVariables false
def shiftT (t:List Int) (by_:Int):List Int:=t.map fun n=>if n < 0 then n - by_ else n
theorem skip_map {a:Int→Nat} {f:Int→Int}:∀ {t:List Int} {k:Nat} {r:List Int},(∀ n∈t,a (f n)=a n)→skip a k t=some r→skip a k (t.map f)=some (r.map f)
 | t,0,r,_,h=>by rw [skip_zero] at h; cases h; rw [skip_zero]
 | [],k+1,r,_,h=>by cases h
 | n::t,k+1,r,hf,h=>by
   rw [skip] at h
   rw [List.map_cons,skip,hf n (by simp)]
   exact skip_map (fun m hm=>hf m (List.mem_cons_of_mem _ hm)) h
theorem shift_ok {l:List Symbol} {t:List Int} (ht:TermOk l t) (hlow:∀ n∈t,-6≤n):TermOk l (shiftT t 6):=by
 refine ⟨by unfold shiftT; rw [List.length_map]; exact ht.pos,by unfold shiftT; rw [List.length_map]; exact ht.le,fun n hn => ?_,?_⟩
 · unfold shiftT at hn
   obtain ⟨m,hm,rfl⟩:=List.mem_map.1 hn
   have h1:=nodeOk_iff.1 (ht.node m hm)
   have h2:=hlow m hm
   rw [nodeOk_iff]
   split <;> omega
 · refine skip_map (fun n hn => ?_) ht.skip
   by_cases h:n < 0
   · rw [if_pos h,ar_neg l h,ar_neg l (by omega)]
   · rw [if_neg h]
theorem applied_ge {b:Bnd} {l:List Symbol} {k:Nat} (hb:MB l b k):∀ t:List Int,t.length≤(applied b.1 b.2 t).length
 | []=>by simp [applied]
 | n::t=>by
   have ih:=applied_ge hb t
   have e:applied b.1 b.2 (n::t)=(bindOf b.1 b.2 (-1 - n)).getD [n]++applied b.1 b.2 t:=by simp [applied]
   rw [e,List.length_append,List.length_cons]
   cases ho:bindOf b.1 b.2 (-1 - n) with
   | none=>simp; omega
   | some o =>
     have:=(hb.tm o (bindOf_mem ho)).pos
     simp; omega
def pstep (seen:List Int) (n:Int):Int × List Int :=
 if 0≤n then (n,seen) else if idx (fun x=>decide (x=n)) seen < 0 then (-1 - (seen.length:Int),seen++[n]) else (-1 - idx (fun x=>decide (x=n)) seen,seen)
def plainL:List Int→List Int→List Int × List Int
 | seen,[]=>([],seen)
 | seen,n::t=>((pstep seen n).1::(plainL (pstep seen n).2 t).1,(plainL (pstep seen n).2 t).2)
theorem plainL_append:∀ (seen a b:List Int),plainL seen (a++b)=((plainL seen a).1++(plainL (plainL seen a).2 b).1,(plainL (plainL seen a).2 b).2)
 | seen,[],b=>rfl
 | seen,n::a,b=>by
   rw [List.cons_append,plainL,plainL_append,plainL]; rfl
theorem plainL_length:∀ (seen t:List Int),(plainL seen t).1.length=t.length∧(plainL seen t).2.length≤seen.length+t.length∧seen.length≤(plainL seen t).2.length
 | seen,[]=>⟨rfl,by simp [plainL],by simp [plainL]⟩
 | seen,n::t=>by
   have ih:=plainL_length (pstep seen n).2 t
   have hp:(pstep seen n).2.length≤seen.length+1∧seen.length≤(pstep seen n).2.length:=by
    unfold pstep
    split
    · exact ⟨by simp,by simp⟩
    split
    · simp
    · exact ⟨by simp,by simp⟩
   rw [plainL]
   simp only [List.length_cons]
   omega
def plainE (e:Equation):Equation:=⟨(plainL [] e.left).1,(plainL (plainL [] e.left).2 e.right).1⟩
def seenE (e:Equation):List Int:=(plainL (plainL [] e.left).2 e.right).2
open Classical in
noncomputable def unifR (l:List Symbol) (a b:List Int):Bnd ⊕ Int:=if h:∃ n r,unif l n ([],[]) [⟨a,b⟩]=some r then Classical.choose (Classical.choose_spec h) else .inr 0
theorem unifR_spec {l:List Symbol} {a b:List Int} (ha:TermOk l a) (hb:TermOk l b):(∃ n,unif l n ([],[]) [⟨a,b⟩]=some (unifR l a b))∧∀ x,unifR l a b = .inl x→UB l x:=by
 obtain ⟨n,r,h1,h2⟩:=unif_ends (l:=l) 12 _ ([],[]) [⟨a,b⟩] (UB.nil l) (fun p hp=>by rw [List.mem_singleton.1 hp]; exact ⟨ha,hb⟩) (by simp) (Nat.le_refl _)
 have h:∃ n r,unif l n ([],[]) [⟨a,b⟩]=some r:=⟨n,r,h1⟩
 have e:unifR l a b=Classical.choose (Classical.choose_spec h):=by unfold unifR; rw [dif_pos h]
 have hs:=Classical.choose_spec (Classical.choose_spec h)
 rw [← e] at hs
 refine ⟨⟨_,hs⟩,fun x hx => ?_⟩
 have:unifR l a b=r:=by
  have q1:=unif_mono hs (Nat.le_max_left _ n)
  have q2:=unif_mono h1 (Nat.le_max_right (Classical.choose h) n)
  rw [q1] at q2
  exact Option.some.inj q2
 exact h2 x (this ▸ hx)
noncomputable def peakR (l:List Symbol) (o i:Equation) (p:Nat):EquationResult:=match unifR l (subAt l o.left p) (shiftT i.left 6) with
 | .inr c=>⟨c,⟨[],[]⟩⟩
 | .inl b =>
   if 24 < (applied b.1 b.2 o.right).length∨24 < (applied b.1 b.2 (replAt l o.left p (shiftT i.right 6))).length then ⟨2,⟨[],[]⟩⟩
   else if 6 < (seenE ⟨applied b.1 b.2 o.right,applied b.1 b.2 (replAt l o.left p (shiftT i.right 6))⟩).length then ⟨2,⟨[],[]⟩⟩
   else ⟨0,plainE ⟨applied b.1 b.2 o.right,applied b.1 b.2 (replAt l o.left p (shiftT i.right 6))⟩⟩
end Ev.Ty
end
section
namespace Ev.Ty
open Go Ev
open Enc (enc)
open Sm (sm)
set_option linter.unusedSimpArgs false
set_option linter.unusedVariables false
theorem ins_take {α:Type} {l:List α} {i k:Nat} (x:α) (hi:i≤k) (hk:k < l.length):(ins l i x).take (k+2)=(ins l i x).take (k+1)++[l[k]]:=by
 have hlen:=ins_length l i x (by omega)
 have h:k+1 < (ins l i x).length:=by omega
 have e:(ins l i x)[k+1]=l[k]:=by
  have:=ins_get l x i (by omega) (k+1)
  rw [if_neg (by omega),if_neg (by omega),Nat.add_sub_cancel,List.getElem?_eq_getElem hk] at this
  have h2:(ins l i x)[k+1]?=some l[k]:=this
  rw [List.getElem?_eq_getElem h] at h2
  exact Option.some.inj h2
 rw [← e]
 exact (List.take_append_getElem h).symm
theorem ins_take_eq {α:Type} {l:List α} {i:Nat} (x:α) (hi:i≤l.length):(ins l i x).take (i+1)=l.take i++[x]:=by
 unfold ins
 rw [List.take_append,List.take_of_length_le (by simp; omega)]
 simp [Nat.min_eq_left hi]
theorem ins_end {α:Type} (l:List α) (x:α):ins l l.length x=l++[x]:=by simp [ins]
theorem slices_Insert_Sint64 (vs:List Int) (i:Nat) (v:Int) (hi:i≤vs.length) (hl:vs.length < 4294967296):Call F.slices_Insert_Sint64 [slc vs,.int .i64 i,.sl 1 [.int .i64 v]] (slc (ins vs i v)):=by
 refine lim_ext (e:=insE 8) rfl (Ev.of fun m => ?_)
 have hc:(cells vs).length=vs.length:=by rw [cells_length,sz_int,Nat.mul_one]
 show (bif _ then _ else _)=_
 rw [cond_pos (by simp [hc,hl,Nat.ble_eq]; omega)]
 have e1:=cells_take vs 1 i rfl
 have e2:=cells_drop vs 1 i rfl
 rw [Nat.mul_one] at e1 e2
 rw [Int.toNat_natCast,e1,e2]
 show some (T.sl 1 (cells (vs.take i)++T.int .i64 v::cells (vs.drop i)),[])=_
 unfold ins slc
 rw [cells_append,cells_cons]
 rfl
theorem slices_Insert_SSint64 (ts:List (List Int)) (i:Nat) (t:List Int) (hi:i≤ts.length) (hl:ts.length < 4294967296):Call F.slices_Insert_SSint64 [slc ts,.int .i64 i,.sl 1 [slc t]] (slc (ins ts i t)):=by
 refine lim_ext (e:=insE 24) rfl (Ev.of fun m => ?_)
 have hc:(cells ts).length=ts.length:=by rw [cells_length,show Enc.sz (List Int)=1 from rfl,Nat.mul_one]
 show (bif _ then _ else _)=_
 rw [cond_pos (by simp [hc,hl,Nat.ble_eq]; omega)]
 have e1:=cells_take ts 1 i rfl
 have e2:=cells_drop ts 1 i rfl
 rw [Nat.mul_one] at e1 e2
 rw [Int.toNat_natCast,e1,e2]
 show some (T.sl 1 (cells (ts.take i)++slc t::cells (ts.drop i)),[])=_
 unfold ins
 show _=some (T.sl 1 (cells (ts.take i++t::ts.drop i)),[])
 rw [cells_append,cells_cons]
 rfl
theorem impl_Binding_bind (vs:List Int) (ts:List (List Int)) (v:Int) (t:List Int) (hl:vs.length=ts.length) (hs:vs.length≤1000) (ht:t.length≤4294967296) :
 LIM F.impl_Binding_bind [.rref [slc vs,slc ts] 0,.int .i64 v,slc t]=some (.tup [],[.agg [slc (bput (vs,ts) v t).1,slc (bput (vs,ts) v t).2]]):=by
 have hi:=insAt_le vs v
 refine call2_of rfl 1002 ((impl_Binding_bind.ev _ _ _ _ _).trans ?_)
 have loop:∀ n k f,k+n=insAt vs v→n < f→impl_Binding_bind.at0 1002 f (impl_Binding_bind.st0 v (cells t) (k:Nat) (cells vs) (cells ts))=some (.tup [],[.agg [slc (bput (vs,ts) v t).1,slc (bput (vs,ts) v t).2]]):=by
  intro n
  induction n with
  | zero =>
    intro k f hk hf
    obtain ⟨f,rfl⟩:∃ x,f=x+1:=⟨f - 1,by omega⟩
    obtain rfl:k=insAt vs v:=by omega
    have q1:=(slices_Insert_Sint64 vs (insAt vs v) v hi (by omega)).eq
    have q2:=(slices_Insert_SSint64 ts (insAt vs v) t (by omega) (by omega)).eq
    by_cases h:insAt vs v < vs.length
    · have hs:=insAt_stop vs v h
      have hlk:vs[insAt vs v]?=some vs[insAt vs v]:=List.getElem?_eq_getElem h
      simp only [impl_Binding_bind.next0,impl_Binding_bind.round0,evz,Nat.reduceLT,h,hlk,enc_int,hs,q1,(slices_Clone_Sint64 t ht).eq,q2]
      rfl
    · simp only [impl_Binding_bind.next0,impl_Binding_bind.round0,evz,Nat.reduceLT,h,q1,(slices_Clone_Sint64 t ht).eq,q2]
      rfl
  | succ n ih =>
    intro k f hk hf
    obtain ⟨f,rfl⟩:∃ x,f=x+1:=⟨f - 1,by omega⟩
    have h:k < vs.length:=by omega
    have hlt:=insAt_lt vs v k (by omega) h
    have hlk:vs[k]?=some vs[k]:=List.getElem?_eq_getElem h
    simp only [impl_Binding_bind.next0,impl_Binding_bind.round0,evz,Nat.reduceLT,h,hlk,enc_int,hlt]
    rw [wrap_succ (by omega)]
    exact ih (k+1) f (by omega) (by omega)
 exact loop (insAt vs v) 0 1002 (by omega) (by omega)
def withSt (vs:List Int) (ts:List (List Int)) (v:Int) (t:List Int) (k:Nat):Bool × List Int × List (List Int) :=
 if k≤insAt vs v then (false,vs.take k,ts.take k) else (true,(ins vs (insAt vs v) v).take (k+1),(ins ts (insAt vs v) t).take (k+1))
theorem spec_l6With (vs:List Int) (ts:List (List Int)) (v:Int) (t:List Int) (hl:vs.length=ts.length) (hs:vs.length≤1000) (ht:t.length≤4096) (hv:v∉vs) (htm:∀ x∈ts,x.length≤4096) :
 Call F.spec_l6With [.rref [slc vs,slc ts] 0,.int .i64 v,slc t] (.agg [slc (bput (vs,ts) v t).1,slc (bput (vs,ts) v t).2]):=by
 have hi:=insAt_le vs v
 refine call_of rfl 1002 ((spec_l6With.ev _ _ _ _ _).trans ?_)
 have key:=run_loop (n:=vs.length) (f:=1002) (S:=fun m k (s:Bool × List Int × List (List Int))=>spec_l6With.at0 1002 m (spec_l6With.st0 (cells vs) (cells ts) v (cells t) s.1 (k:Nat) (cells s.2.1) (cells s.2.2)))
  (st:=withSt vs ts v t) (z:=some (.agg [slc (bput (vs,ts) v t).1,slc (bput (vs,ts) v t).2],[])) (fun m k h => ?_) (fun m => ?_) (by omega)
 · have e0:withSt vs ts v t 0=(false,[],[]):=by unfold withSt; rw [if_pos (Nat.zero_le _)]; rfl
   rw [e0] at key
   exact key
 · have h':k < ts.length:=by omega
   have hlk:vs[k]?=some vs[k]:=List.getElem?_eq_getElem h
   have htk:ts[k]?=some ts[k]:=List.getElem?_eq_getElem h'
   have hx:=(spec_l1Ints' ts[k] (by have:=htm _ (List.getElem_mem h'); omega)).eq
   have hx2:=(spec_l1Ints' t (by omega)).eq
   have hne:vs[k]≠v:=fun e=>hv (e ▸ List.getElem_mem h)
   have len1:∀ q,((cells (vs.take q)).length)≤1000:=fun q=>by rw [cells_length,sz_int]; simp; omega
   have len2:∀ q,((cells (ts.take q)).length)≤1000:=fun q=>by rw [cells_length,show Enc.sz (List Int)=1 from rfl]; simp; omega
   have len3:∀ q,((cells ((ins vs (insAt vs v) v).take q)).length)≤1001:=fun q=>by rw [cells_length,sz_int,List.length_take,ins_length _ _ _ hi]; omega
   have len4:∀ q,((cells ((ins ts (insAt vs v) t).take q)).length)≤1001:=fun q=>by rw [cells_length,show Enc.sz (List Int)=1 from rfl,List.length_take,ins_length _ _ _ (by omega)]; omega
   have tk1:vs.take (k+1)=vs.take k++[vs[k]]:=(List.take_append_getElem h).symm
   have tk2:ts.take (k+1)=ts.take k++[ts[k]]:=(List.take_append_getElem h').symm
   rcases Nat.lt_trichotomy k (insAt vs v) with c | c | c
   · have hlt:=insAt_lt vs v k c h
     have hgt:¬ vs[k] > v:=by omega
     have e1:withSt vs ts v t k=(false,vs.take k,ts.take k):=if_pos (by omega)
     have e2:withSt vs ts v t (k+1)=(false,vs.take k++[vs[k]],ts.take k++[ts[k]]):=by unfold withSt; rw [if_pos (by omega),tk1,tk2]
     rw [e1,e2]
     simp only [spec_l6With.next0,spec_l6With.round0,evz,Nat.reduceLT,h,h',hlk,htk,enc_int,enc_list,hgt,hx,cells_snoc_int,cells_snoc_list]
     rw [cond_pos (ble_ok (by have:=len1 k; omega)),cond_pos (ble_ok (by have:=len2 k; omega)),wrap_succ (by omega)]
   · have hs:=insAt_stop vs v (by omega)
     have hs:¬ vs[k] < v:=by
      have:vs[insAt vs v]'(by omega)=vs[k]:=by congr 1; omega
      rw [this] at hs; exact hs
     have hgt:vs[k] > v:=by omega
     have e1:withSt vs ts v t k=(false,vs.take k,ts.take k):=if_pos (by omega)
     have e2:withSt vs ts v t (k+1)=(true,(vs.take k++[v])++[vs[k]],(ts.take k++[t])++[ts[k]]):=by
      unfold withSt
      rw [if_neg (by omega),← c,ins_take v (Nat.le_refl _) h,ins_take t (Nat.le_refl _) h',ins_take_eq v (by omega),ins_take_eq t (by omega)]
     rw [e1,e2]
     simp only [spec_l6With.next0,spec_l6With.round0,evz,Nat.reduceLT,h,h',hlk,htk,enc_int,enc_list,hgt,hx,hx2,cells_snoc_int,cells_snoc_list]
     have l1:=len1 k
     have l2:=len2 k
     have l3:(cells (vs.take k++[v])).length≤1001:=by rw [cells_append,List.length_append,cells_length [v]]; simp; omega
     have l4:(cells (ts.take k++[t])).length≤1001:=by rw [cells_append,List.length_append,cells_length [t]]; simp [show Enc.sz (List Int)=1 from rfl]; omega
     rw [cond_pos (ble_ok (by omega)),cond_pos (ble_ok (by omega)),cond_pos (ble_ok (by omega)),cond_pos (ble_ok (by omega)),wrap_succ (by omega)]
   · have e1:withSt vs ts v t k=(true,(ins vs (insAt vs v) v).take (k+1),(ins ts (insAt vs v) t).take (k+1)):=if_neg (by omega)
     have e2:withSt vs ts v t (k+1)=(true,(ins vs (insAt vs v) v).take (k+1)++[vs[k]],(ins ts (insAt vs v) t).take (k+1)++[ts[k]]):=by
      unfold withSt
      rw [if_neg (by omega),ins_take v (by omega) h,ins_take t (by omega) h']
     rw [e1,e2]
     simp only [spec_l6With.next0,spec_l6With.round0,evz,Nat.reduceLT,h,h',hlk,htk,enc_int,enc_list,hx,cells_snoc_int,cells_snoc_list]
     rw [cond_pos (ble_ok (by have:=len3 (k+1); omega)),cond_pos (ble_ok (by have:=len4 (k+1); omega)),wrap_succ (by omega)]
 · have hx2:=(spec_l1Ints' t (by omega)).eq
   by_cases c:insAt vs v=vs.length
   · have e1:withSt vs ts v t vs.length=(false,vs,ts):=by
      unfold withSt
      rw [if_pos (by omega),List.take_length,hl,List.take_length]
     have e2:bput (vs,ts) v t=(vs++[v],ts++[t]):=by
      unfold bput
      rw [c,ins_end]
      simp only [Prod.mk.injEq,true_and]
      rw [hl,ins_end]
     rw [e1,e2]
     simp only [spec_l6With.next0,spec_l6With.round0,evz,Nat.reduceLT,Nat.lt_irrefl,hx2,cells_snoc_int,cells_snoc_list]
     rw [cond_pos (ble_ok (by rw [cells_length,sz_int]; omega)),cond_pos (ble_ok (by rw [cells_length,show Enc.sz (List Int)=1 from rfl]; omega))]
   · have e1:withSt vs ts v t vs.length=(true,ins vs (insAt vs v) v,ins ts (insAt vs v) t):=by
      unfold withSt
      rw [if_neg (by omega),List.take_of_length_le (by rw [ins_length _ _ _ hi]; omega),List.take_of_length_le (by rw [ins_length _ _ _ (by omega)]; omega)]
     rw [e1]
     simp only [spec_l6With.next0,spec_l6With.round0,evz,Nat.reduceLT,Nat.lt_irrefl]
     rfl
def mT:Option Bnd→T
 | none => .tup [.agg [.sl 1 [],.sl 1 []],.bool false]
 | some b => .tup [.agg [slc b.1,slc b.2],.bool true]
section
variable {l:List Symbol} (ok:SigOk ⟨l⟩)
include ok
theorem impl_match {pat u:List Int} (hq:TermOk l pat) (hu:TermOk l u):Call F.impl_match [.agg [slc l],slc pat,slc u] (mT (matchAt l pat u 0)):=by
 have hul:=hu.le
 have hpl:=hq.le
 refine call_of rfl 25 ((impl_match.ev _ _ _ _).trans ?_)
 simp only [cells_div,sz_int]
 have loop:∀ (q:List Int) (b:Bnd) (p k f:Nat),pat.drop k=q→q.length < f→Both l u q p []→MB l b k→k+q.length=pat.length →
  impl_match.at0 25 f (impl_match.st0 (cells u) (p:Nat) (cells pat) pat.length (k:Nat) (cells l) (cells b.1) (cells b.2)) =
   some (match mgo l u q b p with | none=>T.tup [.agg [.sl 1 [],.sl 1 []],.bool false] | some x => .tup [.agg [slc x.1.1,slc x.1.2],.bool (decide (x.2=u.length))],[]):=by
  intro q
  induction q with
  | nil =>
    intro b p k f hd hf hB hb hk
    obtain ⟨f,rfl⟩:∃ x,f=x+1:=⟨f - 1,by omega⟩
    have h:¬ k < pat.length:=by simp at hk; omega
    simp only [impl_match.next0,impl_match.round0,evz,Nat.reduceLT,h,mgo,Int.ofNat_inj]
  | cons n q ih =>
    intro b p k f hd hf hB hb hk
    rw [List.length_cons] at hf hk
    obtain ⟨f,rfl⟩:∃ x,f=x+1:=⟨f - 1,by omega⟩
    have h:k < pat.length:=by omega
    have hn:pat[k]=n:=by
     have:=congrArg (fun x=>x[0]?) hd
     simp only [List.getElem?_drop,Nat.add_zero,List.getElem?_cons_zero] at this
     rw [List.getElem?_eq_getElem h] at this
     exact Option.some.inj this
    have hd':pat.drop (k+1)=q:=by rw [← List.drop_drop,hd]; rfl
    have hlk:pat[k]?=some n:=by rw [List.getElem?_eq_getElem h,hn]
    have hp:=hB.lt
    have hpk:u[p]?=some u[p]:=List.getElem?_eq_getElem hp
    have hnode:=nodeOk_iff.1 (hq.node n (hn ▸ List.getElem_mem h))
    have hp':¬ ((p:Int) ≥ (u.length:Int)):=by omega
    have hls:l.length≤6:=ok.le
    obtain ⟨h3,h4,_⟩:=endAt_spec hu hp
    have hsl:=(sub_split hu hp).2.1
    rw [mgo,if_neg (by omega)]
    by_cases c:0≤n
    · have c':n ≥ 0:=c
      rw [if_pos c,getD_at hp]
      by_cases e:u[p]=n
      · simp only [impl_match.next0,impl_match.round0,evz,Nat.reduceLT,h,hlk,hp,hpk,hp',enc_int,c',e]
        rw [wrap_succ (by omega),wrap_succ (by omega)]
        exact ih b (p+1) (k+1) f hd' (by omega) (hB.node (by rw [getD_at hp,e])) (hb.up (by omega)) (by omega)
      · simp only [impl_match.next0,impl_match.round0,evz,Nat.reduceLT,h,hlk,hp,hpk,hp',enc_int,c',e]
    · have c':¬ n ≥ 0:=c
      rw [if_neg c]
      have hof:=(impl_Binding_of b.1 b.2 (-1 - n) hb.len (by have:=hb.le; omega)).eq
      have hB':=hB.var hu (by omega)
      have hw:IntKind.wrap .i64 (-1 - n) = -1 - n:=wrap64 (by omega)
      have hw2:IntKind.wrap .i64 ((p:Int)+((subAt l u p).length:Nat))=((p+(subAt l u p).length:Nat):Int):=by rw [wrap64 (by omega)]; omega
      have hsub:=(impl_subterm ok hu hp).eq
      have hbl:=hb.le
      cases hbo:bindOf b.1 b.2 (-1 - n) with
      | none =>
        rw [hbo] at hof
        have hbind:=impl_Binding_bind b.1 b.2 (-1 - n) (subAt l u p) hb.len (by omega) (by omega)
        simp only [impl_match.next0,impl_match.round0,evz,Nat.reduceLT,h,hlk,hp',enc_int,c',hsub,hw,hof,ofT,scalars_int,hbind,hw2]
        rw [wrap_succ (by omega)]
        exact ih (bput b (-1 - n) (subAt l u p)) _ (k+1) f hd' (by omega) hB' (hb.put (by omega) (subAt_ok hu hp)) (by omega)
      | some o =>
        rw [hbo] at hof
        have ho:=hb.tm o (bindOf_mem hbo)
        have hol:=ho.le
        have heq:=(slices_Equal_Sint64 o (subAt l u p) ⟨by omega,fun _ _=>trivial⟩).eq
        show _=some (match (if o=subAt l u p then mgo l u q b (p+(subAt l u p).length) else none) with | none=>_ | some x=>_,[])
        by_cases e:o=subAt l u p
        · rw [if_pos e]
          rw [e] at heq
          simp only [impl_match.next0,impl_match.round0,evz,Nat.reduceLT,h,hlk,hp',enc_int,c',hsub,hw,hof,ofT,scalars_int,heq,e,hw2]
          rw [wrap_succ (by omega)]
          exact ih b _ (k+1) f hd' (by omega) hB' (hb.up (by omega)) (by omega)
        · rw [if_neg e]
          simp only [impl_match.next0,impl_match.round0,evz,Nat.reduceLT,h,hlk,hp',enc_int,c',hsub,hw,hof,ofT,scalars_int,heq,e]
 have hpos:=hu.pos
 have e0:u.drop (endAt l u 0)=[]:=by
  have:=(sub_split hu (p:=0) (by omega)).2.2
  rw [List.drop_zero,hu.skip] at this
  exact (Option.some.inj this).symm
 have hB:=Both.start hu hq (p:=0) (by omega)
 rw [e0] at hB
 have hmain:=loop pat ([],[]) 0 0 25 rfl (by omega) hB (MB.nil l) (by omega)
 have hen:=mgo_end hu pat ([],[]) 0 0 hB (by omega) (MB.nil l) (by omega) hq.node
 unfold matchAt
 cases hm:mgo l u pat ([],[]) 0 with
 | none=>rw [hm] at hmain; exact hmain
 | some x =>
   rw [hm] at hmain
   obtain ⟨h1,h2,_⟩:=hen x hm
   have hx:x.2=u.length:=by
    have:=congrArg List.length h1
    rw [List.length_drop] at this
    simp at this
    omega
   have hmain:impl_match.at0 25 25 (impl_match.st0 (cells u) (0:Nat) (cells pat) pat.length (0:Nat) (cells l) (cells ([]:List Int)) (cells ([]:List (List Int))))=some (T.tup [.agg [slc x.1.1,slc x.1.2],.bool (decide (x.2=u.length))],[]):=hmain
   rw [hx,decide_eq_true rfl] at hmain
   exact hmain
theorem spec_l6Match {pat u:List Int} (hq:TermOk l pat) (hu:TermOk l u) {p0:Nat} (hp0:p0 < u.length):Call F.spec_l6Match [.rref [slc l] 0,slc pat,slc u,.int .i64 p0] (mT (matchAt l pat u p0)):=by
 have hul:=hu.le
 have hpl:=hq.le
 refine call_of rfl 25 ((spec_l6Match.ev _ _ _ _ _).trans ?_)
 have loop:∀ (q:List Int) (b:Bnd) (p k f:Nat),pat.drop k=q→q.length < f→Both l u q p (u.drop (endAt l u p0))→MB l b k→k+q.length=pat.length →
  spec_l6Match.at0 25 f (spec_l6Match.st0 (cells l) (cells pat) (cells u) (p:Nat) (k:Nat) (cells b.1) (cells b.2))=some (mT ((mgo l u q b p).map (·.1)),[]):=by
  intro q
  induction q with
  | nil =>
    intro b p k f hd hf hB hb hk
    obtain ⟨f,rfl⟩:∃ x,f=x+1:=⟨f - 1,by omega⟩
    have h:¬ k < pat.length:=by simp at hk; omega
    simp only [spec_l6Match.next0,spec_l6Match.round0,evz,Nat.reduceLT,h,mgo,Option.map_some,mT]
  | cons n q ih =>
    intro b p k f hd hf hB hb hk
    rw [List.length_cons] at hf hk
    obtain ⟨f,rfl⟩:∃ x,f=x+1:=⟨f - 1,by omega⟩
    have h:k < pat.length:=by omega
    have hn:pat[k]=n:=by
     have:=congrArg (fun x=>x[0]?) hd
     simp only [List.getElem?_drop,Nat.add_zero,List.getElem?_cons_zero] at this
     rw [List.getElem?_eq_getElem h] at this
     exact Option.some.inj this
    have hd':pat.drop (k+1)=q:=by rw [← List.drop_drop,hd]; rfl
    have hlk:pat[k]?=some n:=by rw [List.getElem?_eq_getElem h,hn]
    have hp:=hB.lt
    have hpk:u[p]?=some u[p]:=List.getElem?_eq_getElem hp
    have hnode:=nodeOk_iff.1 (hq.node n (hn ▸ List.getElem_mem h))
    have hp':¬ ((p:Int) ≥ (u.length:Int)):=by omega
    have hls:l.length≤6:=ok.le
    obtain ⟨h3,h4,_⟩:=endAt_spec hu hp
    have hsl:=(sub_split hu hp).2.1
    rw [mgo,if_neg (by omega)]
    by_cases c:0≤n
    · have c':n ≥ 0:=c
      rw [if_pos c,getD_at hp]
      by_cases e:u[p]=n
      · simp only [spec_l6Match.next0,spec_l6Match.round0,evz,Nat.reduceLT,h,hlk,hp,hpk,hp',enc_int,c',e]
        rw [wrap_succ (by omega),wrap_succ (by omega)]
        exact ih b (p+1) (k+1) f hd' (by omega) (hB.node (by rw [getD_at hp,e])) (hb.up (by omega)) (by omega)
      · simp only [spec_l6Match.next0,spec_l6Match.round0,evz,Nat.reduceLT,h,hlk,hp,hpk,hp',enc_int,c',e,Option.map_none,mT]
    · have c':¬ n ≥ 0:=c
      rw [if_neg c]
      have hof:=(spec_l6Term b.1 b.2 (-1 - n) hb.len (by have:=hb.le; omega)).eq
      have hB':=hB.var hu (by omega)
      have hw:IntKind.wrap .i64 (-1 - n) = -1 - n:=wrap64 (by omega)
      have hw2:IntKind.wrap .i64 ((p:Int)+((subAt l u p).length:Nat))=((p+(subAt l u p).length:Nat):Int):=by rw [wrap64 (by omega)]; omega
      have hsub:=(spec_l3Sub ok hu hp).eq
      have hbl:=hb.le
      cases hbo:bindOf b.1 b.2 (-1 - n) with
      | none =>
        rw [hbo] at hof
        have hbind:=(spec_l6With b.1 b.2 (-1 - n) (subAt l u p) hb.len (by omega) (by omega) (bindOf_none hb.len hbo) fun x hx=>by have:=(hb.tm x hx).le; omega).eq
        simp only [spec_l6Match.next0,spec_l6Match.round0,evz,Nat.reduceLT,h,hlk,hp',enc_int,c',hsub,hw,hof,Option.getD_none,scalars_int,hbind,hw2,List.length_nil,Int.natCast_zero,Int.ofNat_zero]
        rw [wrap_succ (by omega)]
        exact ih (bput b (-1 - n) (subAt l u p)) _ (k+1) f hd' (by omega) hB' (hb.put (by omega) (subAt_ok hu hp)) (by omega)
      | some o =>
        rw [hbo] at hof
        have ho:=hb.tm o (bindOf_mem hbo)
        have hol:=ho.le
        have hop:=ho.pos
        have ho0:¬ ((o.length:Int)=0):=by omega
        have heq:=(spec_l1Same o (subAt l u p) ⟨by omega,fun _ _=>trivial⟩).eq
        show _=some (mT ((if o=subAt l u p then mgo l u q b (p+(subAt l u p).length) else none).map (·.1)),[])
        by_cases e:o=subAt l u p
        · rw [if_pos e]
          have ho1:¬ (((subAt l u p).length:Int)=0):=by omega
          rw [e] at heq
          simp only [spec_l6Match.next0,spec_l6Match.round0,evz,Nat.reduceLT,h,hlk,hp',enc_int,c',hsub,hw,hof,Option.getD_some,scalars_int,heq,e,ho0,ho1,hw2]
          rw [wrap_succ (by omega)]
          exact ih b _ (k+1) f hd' (by omega) hB' (hb.up (by omega)) (by omega)
        · rw [if_neg e]
          simp only [spec_l6Match.next0,spec_l6Match.round0,evz,Nat.reduceLT,h,hlk,hp',enc_int,c',hsub,hw,hof,Option.getD_some,scalars_int,heq,e,ho0,Option.map_none,mT]
 exact loop pat ([],[]) p0 0 25 rfl (by omega) (Both.start hu hq hp0) (MB.nil l) (by omega)
end
end Ev.Ty
end
section
namespace Ev.Ty
open Go Ev
open Enc (enc)
open Sm (sm)
set_option linter.unusedSimpArgs false
set_option linter.unusedVariables false
section
variable {l:List Symbol} (ok:SigOk ⟨l⟩) {rs:List Equation} (hr:∀ e∈rs,EqOk l e) (hn:rs.length≤12)
include ok hr hn
omit hr hn in
theorem impl_rewritten {e:Equation} (he:EqOk l e) {t:List Int} (ht:TermOk l t) {p:Nat} (hp:p < t.length):Call F.impl_rewritten [.agg [slc l],.agg [slc e.left,slc e.right],slc t,.int .i64 p] (.agg (enc (stepAt l e t p))):=by
 have hu:=subAt_ok ht hp
 have hm:=(impl_match ok he.left hu).eq
 rw [matchAt_sub he.left ht hp] at hm
 refine call_of rfl 0 ((impl_rewritten.ev _ _ _ _ _ _).trans ?_)
 unfold stepAt
 cases hmm:matchAt l e.left t p with
 | none=>rw [hmm] at hm; simp only [evz,Nat.reduceLT,(impl_subterm ok ht hp).eq,hm,mT]; rfl
 | some b =>
   rw [hmm] at hm
   have hb:=matchAt_ok he.left ht hp hmm
   have hbo:=hb.ok he.left.le
   have hrl:=he.right.le
   have hal:=applied_length hbo e.right
   simp only [evz,Nat.reduceLT,(impl_subterm ok ht hp).eq,hm,mT,(impl_Binding_applied b.1 b.2 hbo e.right (by omega) (he.right.range ok)).eq,(impl_replaced ok ht hp (applied b.1 b.2 e.right) (by omega)).eq]
   have hfit:=(impl_fitting (replAt l t p (applied b.1 b.2 e.right))).eq
   by_cases h24:24 < (replAt l t p (applied b.1 b.2 e.right)).length
   · rw [if_pos h24] at hfit ⊢
     simp only [evz,Nat.reduceLT,hfit,enc_TermResult]
   · rw [if_neg h24] at hfit ⊢
     simp only [evz,Nat.reduceLT,hfit,enc_TermResult]
omit hr hn in
theorem spec_l8Rewrite {e:Equation} (he:EqOk l e) {t:List Int} (ht:TermOk l t) {p:Nat} (hp:p < t.length):Call F.spec_l8Rewrite [.rref [slc l] 0,.rref [slc e.left,slc e.right] 0,.int .i64 p,slc t] (.tup [slc (stepAt l e t p).term,.int .i64 (stepAt l e t p).code]):=by
 have hm:=(spec_l6Match ok he.left ht hp).eq
 refine call_of rfl 0 ((spec_l8Rewrite.ev _ _ _ _ _ _).trans ?_)
 unfold stepAt
 cases hmm:matchAt l e.left t p with
 | none=>rw [hmm] at hm; simp only [evz,Nat.reduceLT,hm,mT]; rfl
 | some b =>
   rw [hmm] at hm
   have hb:=matchAt_ok he.left ht hp hmm
   have hbo:=hb.ok he.left.le
   have hrl:=he.right.le
   have hal:=applied_length hbo e.right
   simp only [evz,Nat.reduceLT,hm,mT,(spec_l6Apply b.1 b.2 hbo e.right (by omega) (he.right.range ok)).eq,(spec_l3Replace ok ht hp (applied b.1 b.2 e.right) (by omega)).eq]
   by_cases h24:24 < (replAt l t p (applied b.1 b.2 e.right)).length
   · have h24':((replAt l t p (applied b.1 b.2 e.right)).length:Int) > 24:=by omega
     rw [if_pos h24]
     simp only [evz,Nat.reduceLT,h24']
     rfl
   · have h24':¬ ((replAt l t p (applied b.1 b.2 e.right)).length:Int) > 24:=by omega
     rw [if_neg h24]
     simp only [evz,Nat.reduceLT,h24']
end
end Ev.Ty
end
section
namespace Ev.Ty
open Go Ev
open Enc (enc)
open Sm (sm)
set_option linter.unusedSimpArgs false
set_option linter.unusedVariables false
def ustep (l:List Symbol) {α:Type} (b:Bnd) (p:Pr) (ps:List Pr) (out:Bnd ⊕ Int→α) (next:Bnd→List Pr→α):α :=
 if 24 < (applied b.1 b.2 p.left).length∨24 < (applied b.1 b.2 p.right).length then out (.inr 2)
 else if applied b.1 b.2 p.left=applied b.1 b.2 p.right then next b ps
 else if (applied b.1 b.2 p.left).getD 0 0 < 0 then
  if (applied b.1 b.2 p.left).getD 0 0∈applied b.1 b.2 p.right then out (.inr 4) else match bindAll b (-1 - (applied b.1 b.2 p.left).getD 0 0) (applied b.1 b.2 p.right) with
   | none=>out (.inr 2)
   | some b'=>next b' ps
 else if (applied b.1 b.2 p.right).getD 0 0 < 0 then
  if (applied b.1 b.2 p.right).getD 0 0∈applied b.1 b.2 p.left then out (.inr 4) else match bindAll b (-1 - (applied b.1 b.2 p.right).getD 0 0) (applied b.1 b.2 p.left) with
   | none=>out (.inr 2)
   | some b'=>next b' ps
 else if (applied b.1 b.2 p.left).getD 0 0≠(applied b.1 b.2 p.right).getD 0 0 then out (.inr 4)
 else next b (argsOf l (applied b.1 b.2 p.left) (applied b.1 b.2 p.right)++ps)
def StackOk (b:Bnd) (ps:List Pr):Prop:=∃ new old:List Pr,ps=new++old∧psize b new≤46∧old.length≤24*b.1.length+1
theorem psize_len {l:List Symbol} {b:Bnd} (hb:UB l b):∀ {ps:List Pr},(∀ p∈ps,TermOk l p.left∧TermOk l p.right)→2*ps.length≤psize b ps
 | [],_=>by simp [psize]
 | p::ps,h=>by
   have ih:=psize_len hb (ps:=ps) fun q hq=>h q (List.mem_cons_of_mem _ hq)
   have hp:=h p (by simp)
   have h1:=applied_ge hb.mb p.left
   have h2:=applied_ge hb.mb p.right
   have:=hp.1.pos
   have:=hp.2.pos
   simp only [psize,List.map_cons,List.sum_cons,List.length_cons] at ih ⊢
   omega
theorem StackOk.len {l:List Symbol} {b:Bnd} (hb:UB l b) {ps:List Pr} (hps:∀ p∈ps,TermOk l p.left∧TermOk l p.right) (h:StackOk b ps):ps.length≤400:=by
 obtain ⟨new,old,rfl,h1,h2⟩:=h
 have:=psize_len hb (ps:=new) fun q hq=>hps q (List.mem_append_left _ hq)
 have:=hb.le
 rw [List.length_append]
 omega
theorem psize_cons (b:Bnd) (p:Pr) (ps:List Pr):psize b (p::ps)=(applied b.1 b.2 p.left).length+(applied b.1 b.2 p.right).length+psize b ps:=by simp [psize]
theorem psize_append (b:Bnd) (ps qs:List Pr):psize b (ps++qs)=psize b ps+psize b qs:=by simp [psize]
theorem StackOk.tail {b:Bnd} {p:Pr} {ps:List Pr} (h:StackOk b (p::ps)):StackOk b ps:=by
 obtain ⟨new,old,e,h1,h2⟩:=h
 cases new with
 | nil =>
   rw [List.nil_append] at e
   subst e
   exact ⟨[],ps,rfl,by simp [psize],by simp at h2; omega⟩
 | cons q new =>
   rw [List.cons_append] at e
   injection e with e1 e2
   rw [psize_cons] at h1
   exact ⟨new,old,e2,by omega,h2⟩
theorem StackOk.bind {l:List Symbol} {b b':Bnd} (hb:UB l b) {p:Pr} {ps:List Pr} (hps:∀ q∈p::ps,TermOk l q.left∧TermOk l q.right) (h:StackOk b (p::ps)) (hl:b'.1.length=b.1.length+1):StackOk b' ps:=by
 obtain ⟨new,old,e,h1,h2⟩:=h.tail
 have:=psize_len hb (ps:=new) fun q hq=>hps q (List.mem_cons_of_mem _ (e ▸ List.mem_append_left _ hq))
 exact ⟨[],ps,rfl,by simp [psize],by rw [e,List.length_append]; omega⟩
theorem StackOk.args {b:Bnd} {p:Pr} {ps qs:List Pr} (h:StackOk b (p::ps)) (hq:psize b qs+2=(applied b.1 b.2 p.left).length+(applied b.1 b.2 p.right).length) (h1:(applied b.1 b.2 p.left).length≤24) (h2:(applied b.1 b.2 p.right).length≤24):StackOk b (qs++ps):=by
 obtain ⟨new,old,e,h3,h4⟩:=h
 cases new with
 | nil =>
   rw [List.nil_append] at e
   subst e
   exact ⟨qs,ps,rfl,by omega,by simp at h4; omega⟩
 | cons q new =>
   rw [List.cons_append] at e
   injection e with e1 e2
   subst e1
   rw [psize_cons] at h3
   exact ⟨qs++new,old,by rw [e2,List.append_assoc],by rw [psize_append]; omega,h4⟩
theorem unif_loop {l:List Symbol} {α:Type} {S:Nat→Bnd→List Pr→α} {out:Bnd ⊕ Int→α} (hnil:∀ f b,S (f+1) b []=out (.inl b))
 (hstep:∀ f b p ps,UB l b→TermOk l p.left→TermOk l p.right→(∀ q∈ps,TermOk l q.left∧TermOk l q.right)→ps.length≤400→S (f+1) b (p::ps)=ustep l b p ps out (S f)) :
 ∀ (n f:Nat) (b:Bnd) (ps:List Pr) (r:Bnd ⊕ Int),n≤f→UB l b→(∀ p∈ps,TermOk l p.left∧TermOk l p.right)→StackOk b ps→unif l n b ps=some r→S f b ps=out r
 | 0,f,b,ps,r,hf,hb,hps,hst,h=>by cases h
 | n+1,f,b,ps,r,hf,hb,hps,hst,h=>by
   obtain ⟨f,rfl⟩:∃ q,f=q+1:=⟨f - 1,by omega⟩
   have ih:=unif_loop hnil hstep n f
   cases ps with
   | nil=>cases h; exact hnil f b
   | cons p ps =>
     have hp:=hps p (by simp)
     have hps':∀ q∈ps,TermOk l q.left∧TermOk l q.right:=fun q hq=>hps q (List.mem_cons_of_mem _ hq)
     have hlen:=hst.len hb hps
     rw [hstep f b p ps hb hp.1 hp.2 hps' (by simp at hlen; omega)]
     unfold ustep
     rw [unif] at h
     split at h
     · rename_i c; rw [if_pos c]; cases h; rfl
     rename_i c1
     rw [if_neg c1]
     have hx:=hb.applied_ok hp.1 (by omega)
     have hy:=hb.applied_ok hp.2 (by omega)
     have bindcase:∀ (u t:List Int),TermOk l (applied b.1 b.2 u)→TermOk l (applied b.1 b.2 t)→(applied b.1 b.2 u).getD 0 0 < 0→(applied b.1 b.2 u).getD 0 0∉applied b.1 b.2 t→∀ b',bindAll b (-1 - (applied b.1 b.2 u).getD 0 0) (applied b.1 b.2 t)=some b' →
      unif l n b' ps=some r→S f b' ps=out r:=fun u t hu ht hneg hno b' hb' hr=>by
      obtain ⟨hv,hnb⟩:=hb.head_var hu hneg
      obtain ⟨q1,q2⟩:=bindAll_ub hb hv hnb ht (hb.applied_free t) (by rw [show -1 - (-1 - (applied b.1 b.2 u).getD 0 0)=(applied b.1 b.2 u).getD 0 0 by omega]; exact hno) hb'
      exact ih b' ps r (by omega) q1 hps' (hst.bind hb hps q2) hr
     split at h
     · rename_i c; rw [if_pos c]; exact ih b ps r (by omega) hb hps' hst.tail h
     rename_i c2
     rw [if_neg c2]
     split at h
     · rename_i c3
       rw [if_pos c3]
       split at h
       · rename_i c; rw [if_pos c]; cases h; rfl
       rename_i c4
       rw [if_neg c4]
       cases hb':bindAll b (-1 - (applied b.1 b.2 p.left).getD 0 0) (applied b.1 b.2 p.right) with
       | none=>rw [hb'] at h; cases h; rfl
       | some b'=>rw [hb'] at h; exact bindcase p.left p.right hx hy c3 c4 b' hb' h
     rename_i c3
     rw [if_neg c3]
     split at h
     · rename_i c5
       rw [if_pos c5]
       split at h
       · rename_i c; rw [if_pos c]; cases h; rfl
       rename_i c4
       rw [if_neg c4]
       cases hb':bindAll b (-1 - (applied b.1 b.2 p.right).getD 0 0) (applied b.1 b.2 p.left) with
       | none=>rw [hb'] at h; cases h; rfl
       | some b'=>rw [hb'] at h; exact bindcase p.right p.left hy hx c5 c4 b' hb' h
     rename_i c5
     rw [if_neg c5]
     split at h
     · rename_i c; rw [if_pos c]; cases h; rfl
     rename_i c6
     rw [if_neg c6]
     have ha:=args_size (b:=b) hx hy (hb.applied_free _) (hb.applied_free _) (by simpa using c6)
     exact ih b _ r (by omega) hb (fun q hq=>by
      rcases List.mem_append.1 hq with hq | hq
      · exact args_ok hx hy q hq
      · exact hps' q hq) (hst.args ha hx.le hy.le) h
theorem cells_tail (p:Pr) (ps:List Pr):((cells (p::ps)).take ((p::ps).length*2)).drop (1*2)=cells ps:=by
 rw [cells_take (p::ps) 2 _ rfl,List.take_length,cells_drop _ 2 1 rfl]; rfl
def uT:Bnd ⊕ Int→R
 | .inl b=>some (.tup [.agg [slc b.1,slc b.2],.int .i64 0],[])
 | .inr c=>some (.tup [.agg [.sl 1 [],.sl 1 []],.int .i64 c],[])
theorem cells_head {l:List Symbol} {t:List Int} (h:TermOk l t):(cells t)[0]?=some (.int .i64 (t.getD 0 0)):=by
 have hp:=h.pos
 have:=get0 (l:=t) (k:=1) (i:=0) rfl
 rw [Nat.zero_mul] at this
 rw [this,List.getElem?_eq_getElem (by omega),getD_at (by omega)]; rfl
section
variable {l:List Symbol} (ok:SigOk ⟨l⟩)
include ok
theorem impl_unify5 {b:Bnd} (hb:UB l b) {ps:List Pr} {u t:List Int} (hu:TermOk l u) (ht:TermOk l t) (hv:0 ≤ -1 - u.getD 0 0 ∧ -1 - u.getD 0 0≤11) {N:Nat} (hN:20≤N) (L0:St→R) :
 impl_unify.at5 N L0 N (impl_unify.st5 (cells ps) (cells u) (cells t) b.2.length (0:Nat) (cells l) (cells b.1) (cells b.2) [.int .i64 (-1 - u.getD 0 0)] [slc t]) =
  match bindAll b (-1 - u.getD 0 0) t with
  | none=>uT (.inr 2)
  | some b'=>L0 (impl_unify.st0 (cells ps) (cells l) (cells b'.1) (cells b'.2)):=by
 have hbl:=hb.le
 have hlen:=hb.mb.len
 have htl:=ht.le
 have hpu:=hu.pos
 have hone:=one_mb (l:=l) hv ht
 have hbo:=hone.ok (by omega)
 obtain ⟨v,hve⟩:∃ v,v = -1 - u.getD 0 0:=⟨_,rfl⟩
 have hwr:IntKind.wrap .i64 (-1 - u.getD 0 0)=v:=by rw [wrap64 (by omega),hve]
 rw [← hve] at hv hone hbo ⊢
 have loop:∀ n k f,k+n=b.2.length→n < f →
  impl_unify.at5 N L0 f (impl_unify.st5 (cells ps) (cells u) (cells t) b.2.length (k:Nat) (cells l) (cells b.1) (cells ((b.2.take k).map (applied [v] [t])++b.2.drop k)) [.int .i64 v] [slc t]) =
   if ((b.2.drop k).any fun x=>decide (24 < (applied [v] [t] x).length))=true then uT (.inr 2) else
    L0 (impl_unify.st0 (cells ps) (cells l) (cells (bput (b.1,b.2.map (applied [v] [t])) v t).1) (cells (bput (b.1,b.2.map (applied [v] [t])) v t).2)):=by
  intro n
  induction n with
  | zero =>
    intro k f hk hf
    obtain ⟨f,rfl⟩:∃ x,f=x+1:=⟨f - 1,by omega⟩
    obtain rfl:k=b.2.length:=by omega
    rw [List.take_length,List.drop_of_length_le (Nat.le_refl _),List.append_nil]
    have hbind:=impl_Binding_bind b.1 (b.2.map (applied [v] [t])) v t (by simp; omega) (by omega) (by omega)
    have hu0:=cells_head hu
    have hpu':(0:Int) < u.length:=by omega
    simp only [impl_unify.next5,impl_unify.round5,evz,Nat.reduceLT,Nat.lt_irrefl,hu0,hwr,sl_cells (k:=1) (l:=t) rfl,hbind,List.any_nil,Bool.false_eq_true]
    rw [show inB (0:Int) u.length=true from (inB_nat 0 u.length).trans (by simp; omega)]
    rfl
  | succ n ih =>
    intro k f hk hf
    obtain ⟨f,rfl⟩:∃ x,f=x+1:=⟨f - 1,by omega⟩
    have hkl:k < b.2.length:=by omega
    have hto:=hb.mb.tm _ (List.getElem_mem hkl)
    have htol:=hto.le
    have happ:LIM F.impl_Binding_applied [.agg [.sl 1 [.int .i64 v],.sl 1 [slc t]],slc b.2[k]]=some (slc (applied [v] [t] b.2[k]),[]):=(impl_Binding_applied [v] [t] hbo b.2[k] (by omega) (hto.range ok)).eq
    obtain ⟨M,hM⟩:∃ M,M=(b.2.take k).map (applied [v] [t])++b.2.drop k:=⟨_,rfl⟩
    have hMl:M.length=b.2.length:=by rw [hM]; simp; omega
    have hMk:M[k]?=some b.2[k]:=by
     rw [hM,List.getElem?_append_right (by simp; omega)]
     simp [Nat.min_eq_left (Nat.le_of_lt hkl),List.getElem?_eq_getElem hkl]
    have hkM:k < M.length:=by omega
    have hget:(cells M)[k*1]?=some (slc b.2[k]):=by
     rw [get0 (l:=M) (k:=1) (i:=k) rfl,hMk]; rfl
    have hkc:k*1 < (cells M).length:=by rw [cells_length]; simp [show Enc.sz (List Int)=1 from rfl]; omega
    have hset:(cells M).set (k*1) (slc (applied [v] [t] b.2[k]))=cells (M.set k (applied [v] [t] b.2[k])):=by
     have:=set_List (l:=M) hkM (applied [v] [t] b.2[k])
     simpa [setCells] using this
    have hnext:M.set k (applied [v] [t] b.2[k])=(b.2.take (k+1)).map (applied [v] [t])++b.2.drop (k+1):=by
     have e1:b.2.take (k+1)=b.2.take k++[b.2[k]]:=(List.take_append_getElem hkl).symm
     rw [hM,e1,List.map_append,List.set_append_right _ _ (by simp; omega)]
     rw [show k - ((b.2.take k).map (applied [v] [t])).length=0 by simp; omega,List.drop_eq_getElem_cons hkl,List.set_cons_zero]
     simp
    rw [← hM,List.drop_eq_getElem_cons hkl,List.any_cons]
    have hin:inB (k:Int) ((cells M).length / 1)=true:=by rw [inB_nat]; simp [cells_length,show Enc.sz (List Int)=1 from rfl]; omega
    by_cases h24:24 < (applied [v] [t] b.2[k]).length
    · have h24':((applied [v] [t] b.2[k]).length:Int) > 24:=by omega
      simp only [impl_unify.next5,impl_unify.round5,Int.toNat_natCast,hget,hin,List.set_set,List.length_set,List.getElem?_set_self hkc,hkc,evz,Nat.reduceLT,hkl,happ,hkM,h24',h24,Bool.true_or]
      rfl
    · have h24':¬ ((applied [v] [t] b.2[k]).length:Int) > 24:=by omega
      simp only [impl_unify.next5,impl_unify.round5,Int.toNat_natCast,hget,hin,List.set_set,List.length_set,List.getElem?_set_self hkc,hkc,evz,Nat.reduceLT,hkl,happ,hkM,h24',h24,Bool.false_or,sl_cells (k:=1) (l:=applied [v] [t] b.2[k]) rfl,hset,hnext]
      rw [wrap_succ (by omega)]
      exact ih (k+1) f (by omega) (by omega)
 have:=loop b.2.length 0 N (by omega) (by omega)
 rw [List.take_zero,List.map_nil,List.nil_append,List.drop_zero] at this
 rw [this]
 unfold bindAll
 by_cases h:(b.2.any fun x=>decide (24 < (applied [v] [t] x).length))=true
 · rw [if_pos h,if_pos h]
 · rw [if_neg h,if_neg h]
theorem impl_unify3 {b:Bnd} {ps:List Pr} (hps:ps.length≤400) {x y:List Int} (hx:TermOk l x) (hy:TermOk l y) (he:x.getD 0 0=y.getD 0 0) {N:Nat} (hN:20≤N) (L0:St→R) :
 impl_unify.at3 N L0 N (impl_unify.st3 (cells ps) (cells x) (cells y) (starts l x 0).length (0:Nat) (cells l) (cells b.1) (cells b.2) (cells (ints (starts l y 0))) (cells (ints (starts l x 0))) (cells ([]:List Pr))) =
  L0 (impl_unify.st0 (cells (argsOf l x y++ps)) (cells l) (cells b.1) (cells b.2)):=by
 have hl:(starts l x 0).length=(starts l y 0).length:=by unfold starts; rw [startsN_length,startsN_length,he]
 have h2:=starts_le ok x 0
 have hmx:∀ q∈starts l x 0,q < x.length:=fun q hq=>(starts_mem hx (p:=0) (by have:=hx.pos; omega) hq).2
 have hmy:∀ q∈starts l y 0,q < y.length:=fun q hq=>(starts_mem hy (p:=0) (by have:=hy.pos; omega) hq).2
 have hzl:((starts l x 0).zip (starts l y 0)).length=(starts l x 0).length:=by rw [List.length_zip]; omega
 have key:=run_loop (n:=(starts l x 0).length) (f:=N) (S:=fun m k (o:List Pr)=>impl_unify.at3 N L0 m (impl_unify.st3 (cells ps) (cells x) (cells y) (starts l x 0).length (k:Nat) (cells l) (cells b.1) (cells b.2) (cells (ints (starts l y 0))) (cells (ints (starts l x 0))) (cells o)))
  (st:=fun k=>(argsOf l x y).take k) (z:=L0 (impl_unify.st0 (cells (argsOf l x y++ps)) (cells l) (cells b.1) (cells b.2))) (fun m k h => ?_) (fun m => ?_) (by omega)
 · exact key
 · have hky:k < (starts l y 0).length:=by omega
   have hax:(ints (starts l x 0))[k]?=some (((starts l x 0)[k]:Nat):Int):=ints_get h
   have hay:(ints (starts l y 0))[k]?=some (((starts l y 0)[k]:Nat):Int):=ints_get hky
   have hsx:=(impl_subterm ok hx (hmx _ (List.getElem_mem h))).eq
   have hsy:=(impl_subterm ok hy (hmy _ (List.getElem_mem hky))).eq
   have hal:k < (argsOf l x y).length:=by unfold argsOf; rw [List.length_map,hzl]; exact h
   have hak:(argsOf l x y)[k]=⟨subAt l x (starts l x 0)[k],subAt l y (starts l y 0)[k]⟩:=by simp [argsOf]
   have e1:(argsOf l x y).take (k+1)=(argsOf l x y).take k++[⟨subAt l x (starts l x 0)[k],subAt l y (starts l y 0)[k]⟩]:=by rw [← hak]; exact (List.take_append_getElem hal).symm
   have e2:∀ (A:List Pr) (p q:List Int),cells A++[slc p,slc q]=cells (A++[⟨p,q⟩]):=fun A p q=>by rw [cells_append]; rfl
   rw [e1]
   simp only [impl_unify.next3,impl_unify.round3,evz,Nat.reduceLT,h,hky,ints_length,hax,hay,enc_int,hsx,hsy,e2]
   rw [wrap_succ (by omega),cond_pos (ble_ok (by rw [cells_length,sz_Equation]; simp; omega))]
 · rw [List.take_of_length_le (by unfold argsOf; rw [List.length_map,hzl]; exact Nat.le_refl _)]
   have hal:(argsOf l x y).length≤2:=by unfold argsOf; rw [List.length_map,hzl]; exact h2
   simp only [impl_unify.next3,impl_unify.round3,evz,Nat.reduceLT,Nat.lt_irrefl,← cells_append]
   rw [cond_pos (ble_ok (by rw [cells_length,cells_length,sz_Equation]; omega))]
theorem impl_unify {a b:List Int} (ha:TermOk l a) (hb:TermOk l b):LIM F.impl_unify [.agg [slc l],slc a,slc b]=uT (unifR l a b):=by
 obtain ⟨⟨n,hn⟩,_⟩:=unifR_spec ha hb
 have hcall:∀ r,callK prog Ev.A H LIM (n+20) F.impl_unify [.agg [slc l],slc a,slc b]=uT r→LIM F.impl_unify [.agg [slc l],slc a,slc b]=uT r:=fun r h=>by
  cases r with
  | inl x=>exact call_of rfl _ h
  | inr x=>exact call_of rfl _ h
 refine hcall _ ((impl_unify.ev _ _ _ _).trans ?_)
 have loop:=unif_loop (l:=l) (S:=fun f (b:Bnd) (ps:List Pr)=>impl_unify.at0 (n+20) f (impl_unify.st0 (cells ps) (cells l) (cells b.1) (cells b.2))) (out:=uT)
  (fun f b=>by
   simp only [impl_unify.next0,impl_unify.round0,cells_nil,List.length_nil]
   rfl)
  (fun f b p ps hb h1 h2 hps hl => ?_) n (n+20) ([],[]) [⟨a,b⟩] _ (by omega) (UB.nil l) (fun p hp=>by rw [List.mem_singleton.1 hp]; exact ⟨ha,hb⟩) ⟨[],_,rfl,by simp [psize],by simp⟩ hn
 · exact loop
 · have hbo:=hb.mb.ok (by omega)
   have hl1:=h1.le
   have hl2:=h2.le
   have a1:=(impl_Binding_applied b.1 b.2 hbo p.left (by omega) (h1.range ok)).eq
   have a2:=(impl_Binding_applied b.1 b.2 hbo p.right (by omega) (h2.range ok)).eq
   have g0:(cells (p::ps))[0]?=some (slc p.left):=rfl
   have g1:(cells (p::ps))[1]?=some (slc p.right):=rfl
   have hpl:((p::ps).length:Int) > 0:=by simp
   have hin:inB (0:Int) (p::ps).length=true:=(inB_nat 0 _).trans (by simp)
   have hfx:=hb.applied_free p.left
   have hfy:=hb.applied_free p.right
   have hox:=fun h=>hb.applied_ok h1 h
   have hoy:=fun h=>hb.applied_ok h2 h
   have hhx:=fun h h'=>hb.head_var (hox h) h'
   have hhy:=fun h h'=>hb.head_var (hoy h) h'
   have hb1:decide (0≤(1:Int))=true:=rfl
   have hb2:(1:Int)≤((p::ps).length:Int):=by simp only [List.length_cons]; omega
   have hlx:=applied_length hbo p.left
   have hly:=applied_length hbo p.right
   obtain ⟨Z,hZ⟩:∃ Z,Z=ustep l b p ps uT (fun (b:Bnd) (ps:List Pr)=>impl_unify.at0 (n+20) f (impl_unify.st0 (cells ps) (cells l) (cells b.1) (cells b.2))):=⟨_,rfl⟩
   show _=ustep l b p ps uT (fun (b:Bnd) (ps:List Pr)=>impl_unify.at0 (n+20) f (impl_unify.st0 (cells ps) (cells l) (cells b.1) (cells b.2)))
   rw [← hZ]
   unfold ustep at hZ
   simp only [impl_unify.next0,impl_unify.round0,evz,Nat.reduceLT,hpl,hin,g0,g1,a1,a2,hb1,hb2,Int.le_refl,Bool.and_self,cells_tail]
   generalize applied b.1 b.2 p.left=x at *
   generalize applied b.1 b.2 p.right=y at *
   by_cases c1:24 < x.length
   · have c1':(x.length:Int) > 24:=by omega
     rw [if_pos (.inl c1)] at hZ
     simp only [c1',evz,Nat.reduceLT]
     rw [hZ]
     rfl
   by_cases c1b:24 < y.length
   · have c1':¬ (x.length:Int) > 24:=by omega
     have c1b':(y.length:Int) > 24:=by omega
     rw [if_pos (.inr c1b)] at hZ
     simp only [c1',c1b',evz,Nat.reduceLT]
     rw [hZ]
     rfl
   have c1':¬ (x.length:Int) > 24:=by omega
   have c1b':¬ (y.length:Int) > 24:=by omega
   have hx:=hox (by omega)
   have hy:=hoy (by omega)
   have hxp:=hx.pos
   have hyp:=hy.pos
   have heq:=(slices_Equal_Sint64 x y ⟨by omega,fun _ _=>trivial⟩).eq
   rw [if_neg (by omega)] at hZ
   by_cases c2:x=y
   · rw [if_pos c2] at hZ
     rw [decide_eq_true c2] at heq
     simp only [c1',c1b',evz,Nat.reduceLT,heq]
     rw [hZ]
   rw [if_neg c2] at hZ
   rw [decide_eq_false c2] at heq
   have x0:=cells_head hx
   have y0:=cells_head hy
   have inx:inB (0:Int) x.length=true:=(inB_nat 0 _).trans (by simp; omega)
   have iny:inB (0:Int) y.length=true:=(inB_nat 0 _).trans (by simp; omega)
   by_cases c3:x.getD 0 0 < 0
   · have c3':¬ x.getD 0 0 ≥ 0:=by omega
     obtain ⟨hv,_⟩:=hhx (by omega) c3
     have hct:=(slices_Contains_Sint64 y (x.getD 0 0) (by omega)).eq
     have h5:=impl_unify5 ok hb (ps:=ps) hx hy hv (N:=n+20) (by omega) (impl_unify.at0 (n+20) f)
     rw [if_pos c3] at hZ
     by_cases c4:x.getD 0 0∈y
     · rw [if_pos c4] at hZ
       rw [decide_eq_true c4] at hct
       simp only [c1',c1b',evz,Nat.reduceLT,heq,inx,x0,c3,c3',hct]
       rw [hZ]
       rfl
     · rw [if_neg c4] at hZ
       rw [decide_eq_false c4] at hct
       simp only [c1',c1b',evz,Nat.reduceLT,heq,inx,x0,c3,c3',hct,wrap64 (x := -1 - x.getD 0 0) (by omega),sl_cells (k:=1) (l:=y) rfl]
       rw [hZ]
       exact h5
   rw [if_neg c3] at hZ
   have c3':x.getD 0 0 ≥ 0:=by omega
   by_cases c5:y.getD 0 0 < 0
   · obtain ⟨hv,_⟩:=hhy (by omega) c5
     have hct:=(slices_Contains_Sint64 x (y.getD 0 0) (by omega)).eq
     have h5:=impl_unify5 ok hb (ps:=ps) hy hx hv (N:=n+20) (by omega) (impl_unify.at0 (n+20) f)
     rw [if_pos c5] at hZ
     by_cases c4:y.getD 0 0∈x
     · rw [if_pos c4] at hZ
       rw [decide_eq_true c4] at hct
       simp only [c1',c1b',evz,Nat.reduceLT,heq,inx,iny,x0,y0,c3,c3',c5,hct]
       rw [hZ]
       rfl
     · rw [if_neg c4] at hZ
       rw [decide_eq_false c4] at hct
       simp only [c1',c1b',evz,Nat.reduceLT,heq,inx,iny,x0,y0,c3,c3',c5,hct,wrap64 (x := -1 - y.getD 0 0) (by omega),sl_cells (k:=1) (l:=x) rfl]
       rw [hZ]
       exact h5
   rw [if_neg c5] at hZ
   by_cases c6:x.getD 0 0=y.getD 0 0
   · rw [if_neg (by simpa using c6)] at hZ
     have h3:=impl_unify3 ok (b:=b) (ps:=ps) hl hx hy c6 (N:=n+20) (by omega) (impl_unify.at0 (n+20) f)
     have sx:=(impl_argumentsOf ok hx (p:=0) (by omega)).eq
     have sy:=(impl_argumentsOf ok hy (p:=0) (by omega)).eq
     simp only [c1',c1b',evz,Nat.reduceLT,heq,inx,iny,x0,y0,c3,c5,c6]
     rw [c6] at c3
     have sx':LIM F.impl_argumentsOf [.agg [slc l],slc x,.int .i64 0]=some (slc (ints (starts l x 0)),[]):=sx
     have sy':LIM F.impl_argumentsOf [.agg [slc l],slc y,.int .i64 0]=some (slc (ints (starts l y 0)),[]):=sy
     simp only [c5,evz,Nat.reduceLT,sx',sy',ints_length]
     rw [hZ]
     exact h3
   · rw [if_pos c6] at hZ
     simp only [c1',c1b',evz,Nat.reduceLT,heq,inx,iny,x0,y0,c3,c5,c6]
     rw [hZ]
     rfl
end
end Ev.Ty
end
section
namespace Ev.Ty
open Go Ev
open Enc (enc)
open Sm (sm)
set_option linter.unusedSimpArgs false
set_option linter.unusedVariables false
def sbindR (b:Bnd) (v:Int) (t:List Int):Bnd ⊕ Int:=if -1 - v∈t then .inr 4 else match bindAll b v t with
 | none => .inr 2
 | some b' => .inl b'
section
variable {l:List Symbol} (ok:SigOk ⟨l⟩)
include ok
theorem spec_l6Bind {b:Bnd} (hb:UB l b) {v:Int} (hv:0≤v∧v≤11) (hnb:v∉b.1) {t:List Int} (ht:TermOk l t) :
 LIM F.spec_l6Bind [.rref [slc b.1,slc b.2] 0,.int .i64 v,slc t]=uT (sbindR b v t):=by
 have hcall:∀ r,callK prog Ev.A H LIM 20 F.spec_l6Bind [.rref [slc b.1,slc b.2] 0,.int .i64 v,slc t]=uT r→LIM F.spec_l6Bind [.rref [slc b.1,slc b.2] 0,.int .i64 v,slc t]=uT r:=fun r h=>by
  cases r with
  | inl x=>exact call_of rfl _ h
  | inr x=>exact call_of rfl _ h
 have hbl:=hb.le
 have hlen:=hb.mb.len
 have htl:=ht.le
 have hone:=one_mb (l:=l) hv ht
 have hbo:=hone.ok (by omega)
 refine hcall _ ((spec_l6Bind.ev _ _ _ _ _).trans ?_)
 have hc:=(spec_l3Count t (-1 - v) (by omega)).eq
 have hi:=(spec_l1Ints' b.1 (by omega)).eq
 unfold sbindR
 by_cases hm : -1 - v∈t
 · have h0:((t.count (-1 - v):Nat):Int) > 0:=by have:=List.count_pos_iff.2 hm; omega
   rw [if_pos hm]
   simp only [evz,Nat.reduceLT,wrap64 (x := -1 - v) (by omega),hc,h0]
   rfl
 have h0:¬ ((t.count (-1 - v):Nat):Int) > 0:=by rw [List.count_eq_zero.2 hm]; omega
 rw [if_neg hm]
 simp only [evz,Nat.reduceLT,wrap64 (x := -1 - v) (by omega),hc,h0,hi]
 have loop:∀ n k f,k+n=b.2.length→n < f→(∀ x∈b.2.take k,(applied [v] [t] x).length≤24) →
  spec_l6Bind.at0 20 f (spec_l6Bind.st0 (cells b.1) (cells b.2) v (cells t) (k:Nat) [.int .i64 v] [slc t] (cells b.1) (cells ((b.2.take k).map (applied [v] [t])))) =
   if ((b.2.drop k).any fun x=>decide (24 < (applied [v] [t] x).length))=true then uT (.inr 2) else uT (.inl (bput (b.1,b.2.map (applied [v] [t])) v t)):=by
  intro n
  induction n with
  | zero =>
    intro k f hk hf hq
    obtain ⟨f,rfl⟩:∃ x,f=x+1:=⟨f - 1,by omega⟩
    obtain rfl:k=b.2.length:=by omega
    rw [List.take_length] at hq ⊢
    rw [List.drop_of_length_le (Nat.le_refl _)]
    have hw:=(spec_l6With b.1 (b.2.map (applied [v] [t])) v t (by simp; omega) (by omega) (by omega) hnb (fun x hx=>by
     obtain ⟨y,hy,rfl⟩:=List.mem_map.1 hx
     have:=hq y hy
     omega)).eq
    simp only [spec_l6Bind.next0,spec_l6Bind.round0,evz,Nat.reduceLT,Nat.lt_irrefl,hw,List.any_nil,Bool.false_eq_true,if_false]
    rfl
  | succ n ih =>
    intro k f hk hf hq
    obtain ⟨f,rfl⟩:∃ x,f=x+1:=⟨f - 1,by omega⟩
    have hkl:k < b.2.length:=by omega
    have hto:=hb.mb.tm _ (List.getElem_mem hkl)
    have htol:=hto.le
    have happ:LIM F.spec_l6Apply [.rref [.sl 1 [.int .i64 v],.sl 1 [slc t]] 0,slc b.2[k]]=some (slc (applied [v] [t] b.2[k]),[]):=(spec_l6Apply [v] [t] hbo b.2[k] (by omega) (hto.range ok)).eq
    have hg:b.2[k]?=some b.2[k]:=List.getElem?_eq_getElem hkl
    have he:∀ x:List Int,(enc x)[0]?=some (slc x):=fun _=>rfl
    rw [List.drop_eq_getElem_cons hkl,List.any_cons]
    have e1:(b.2.take (k+1)).map (applied [v] [t])=(b.2.take k).map (applied [v] [t])++[applied [v] [t] b.2[k]]:=by rw [← List.take_append_getElem hkl,List.map_append]; rfl
    by_cases h24:24 < (applied [v] [t] b.2[k]).length
    · have h24':((applied [v] [t] b.2[k]).length:Int) > 24:=by omega
      simp only [spec_l6Bind.next0,spec_l6Bind.round0,evz,Nat.reduceLT,hkl,hg,he,happ,h24',h24,Bool.true_or]
      rfl
    · have h24':¬ ((applied [v] [t] b.2[k]).length:Int) > 24:=by omega
      simp only [spec_l6Bind.next0,spec_l6Bind.round0,evz,Nat.reduceLT,hkl,hg,he,happ,h24',h24,Bool.false_or]
      rw [wrap_succ (by omega),cond_pos (ble_ok (by rw [cells_length,show Enc.sz (List Int)=1 from rfl]; simp; omega))]
      have:=ih (k+1) f (by omega) (by omega) (fun x hx=>by
       rw [← List.take_append_getElem hkl] at hx
       rcases List.mem_append.1 hx with hx | hx
       · exact hq x hx
       · rw [List.mem_singleton.1 hx]; omega)
      rw [e1,cells_append] at this
      exact this
 have:=loop b.2.length 0 20 (by omega) (by omega) (by simp)
 rw [List.take_zero,List.map_nil,List.drop_zero] at this
 refine this.trans ?_
 unfold bindAll
 by_cases h:(b.2.any fun x=>decide (24 < (applied [v] [t] x).length))=true
 · rw [if_pos h,if_pos h]
 · rw [if_neg h,if_neg h]
theorem spec_l6Args {x y:List Int} (hx:TermOk l x) (hy:TermOk l y) (h0:0≤x.getD 0 0) (he:x.getD 0 0=y.getD 0 0):Call F.spec_l6Args [.rref [slc l] 0,slc x,slc y] (slc (argsOf l x y)):=by
 have hlx:=hx.le
 have hly:=hy.le
 have hxp:=hx.pos
 have hyp:=hy.pos
 have hdx:x.getD 0 0=x[0]:=getD_at (by omega)
 have hdy:y.getD 0 0=y[0]:=getD_at (by omega)
 have har:=ar_le (l:=l) ok x[0]
 have hnode:=nodeOk_iff.1 (hx.node _ (List.getElem_mem (n:=0) (by omega)))
 have hls:l.length≤6:=ok.le
 obtain ⟨u,hu⟩:∃ u:Nat,x[0]=u:=⟨x[0].toNat,by omega⟩
 have hul:u < l.length:=by omega
 have hare:(l[u]).arity=(ar l x[0]:Nat):=by
  have:=ar_eq ok (n:=x[0]) (by omega) (by rw [hu]; simpa using hul)
  simpa [hu] using this
 have hin:inB (0:Int) x.length=true:=(inB_nat 0 _).trans (by simp; omega)
 have hx0:=cells_head hx
 rw [hdx,hu] at hx0
 have hlu:l[u]?=some l[u]:=List.getElem?_eq_getElem hul
 refine call_of rfl 4 ((spec_l6Args.ev _ _ _ _).trans ?_)
 have loop:∀ n k q r f (out:List Pr) rx ry,k+n=ar l x[0]→n < f→skip (ar l) n (x.drop q)=some rx→skip (ar l) n (y.drop r)=some ry→out.length=k →
  spec_l6Args.at0 4 f (spec_l6Args.st0 (cells l) (cells x) (cells y) (q:Nat) (r:Nat) (k:Nat) (cells out)) =
   some (slc (out++((startsN l x n q).zip (startsN l y n r)).map fun p=>(⟨subAt l x p.1,subAt l y p.2⟩:Pr)),[]):=by
  intro n
  induction n with
  | zero =>
    intro k q r f out rx ry hk hf h1 h2 ho
    obtain ⟨f,rfl⟩:∃ x,f=x+1:=⟨f - 1,by omega⟩
    have:¬ k < ar l x[0]:=by omega
    rw [hu] at this
    simp only [spec_l6Args.next0,spec_l6Args.round0,evz,Nat.reduceLT,hin,hx0,hlu,hul,enc_Symbol,hare,startsN,List.zip_nil_left,List.map_nil,List.append_nil,hu,this]
  | succ n ih =>
    intro k q r f out rx ry hk hf h1 h2 ho
    obtain ⟨f,rfl⟩:∃ x,f=x+1:=⟨f - 1,by omega⟩
    obtain ⟨a1,a2,a3,a4⟩:=skip_one h1
    obtain ⟨b1,b2,b3,b4⟩:=skip_one h2
    have hlt:k < ar l x[0]:=by omega
    rw [hu] at hlt
    have sx:=(spec_l3Sub ok hx a1).eq
    have sy:=(spec_l3Sub ok hy b1).eq
    have ex:q+(subAt l x q).length=endAt l x q:=by unfold subAt; simp; omega
    have ey:r+(subAt l y r).length=endAt l y r:=by unfold subAt; simp; omega
    have ic:=ih (k+1) (endAt l x q) (endAt l y r) f (out++[⟨subAt l x q,subAt l y r⟩]) rx ry (by omega) (by omega) a2 b2 (by simp [ho])
    simp only [spec_l6Args.next0,spec_l6Args.round0,evz,Nat.reduceLT,hin,hx0,hlu,hul,enc_Symbol,hare,hu,hlt,sx,sy]
    rw [wrap64 (x:=(q:Int)+_) (by omega),wrap64 (x:=(r:Int)+_) (by omega),wrap_succ (by omega),cond_pos (ble_ok (by rw [cells_length,sz_Equation]; omega))]
    rw [show (q:Int)+((subAt l x q).length:Nat)=(endAt l x q:Nat) by omega,show (r:Int)+((subAt l y r).length:Nat)=(endAt l y r:Nat) by omega]
    rw [cells_append] at ic
    refine Eq.trans ?_ (ic.trans ?_)
    · rfl
    · rw [startsN,startsN,List.zip_cons_cons,List.map_cons,List.append_assoc]; rfl
 obtain ⟨rx,hrx⟩:=args_skip hx (p:=0) (by omega)
 obtain ⟨ry,hry⟩:=args_skip hy (p:=0) (by omega)
 have hay:ar l y[0]=ar l x[0]:=by rw [← hdx,← hdy,he]
 rw [hay] at hry
 have:=loop (ar l x[0]) 0 1 1 4 [] rx ry (by omega) (by omega) hrx hry rfl
 unfold argsOf starts
 rw [hdx,hdy,hay]
 exact this
theorem spec_l6Unify {a b:List Int} (ha:TermOk l a) (hb:TermOk l b):LIM F.spec_l6Unify [.rref [slc l] 0,slc a,slc b]=uT (unifR l a b):=by
 obtain ⟨⟨n,hn⟩,_⟩:=unifR_spec ha hb
 have hal:=ha.le
 have hbl:=hb.le
 have hcall:∀ r,callK prog Ev.A H LIM (n+20) F.spec_l6Unify [.rref [slc l] 0,slc a,slc b]=uT r→LIM F.spec_l6Unify [.rref [slc l] 0,slc a,slc b]=uT r:=fun r h=>by
  cases r with
  | inl x=>exact call_of rfl _ h
  | inr x=>exact call_of rfl _ h
 refine hcall _ ((spec_l6Unify.ev _ _ _ _).trans ?_)
 have i1:=(spec_l1Ints' a (by omega)).eq
 have i2:=(spec_l1Ints' b (by omega)).eq
 simp only [evz,Nat.reduceLT,i1,i2]
 have loop:=unif_loop (l:=l) (S:=fun f (b:Bnd) (ps:List Pr)=>spec_l6Unify.at0 (n+20) f (spec_l6Unify.st0 (cells l) (cells ps) (cells b.1) (cells b.2))) (out:=uT)
  (fun f b=>by
   simp only [spec_l6Unify.next0,spec_l6Unify.round0,cells_nil,List.length_nil]
   rfl)
  (fun f b p ps hb h1 h2 hps hl => ?_) n (n+20) ([],[]) [⟨a,b⟩] _ (by omega) (UB.nil l) (fun p hp=>by rw [List.mem_singleton.1 hp]; exact ⟨ha,hb⟩) ⟨[],_,rfl,by simp [psize],by simp⟩ hn
 · exact loop
 · have hbo:=hb.mb.ok (by omega)
   have hl1:=h1.le
   have hl2:=h2.le
   have a1:=(spec_l6Apply b.1 b.2 hbo p.left (by omega) (h1.range ok)).eq
   have a2:=(spec_l6Apply b.1 b.2 hbo p.right (by omega) (h2.range ok)).eq
   have g0:(cells (p::ps))[0]?=some (slc p.left):=rfl
   have g1:(cells (p::ps))[1]?=some (slc p.right):=rfl
   have hpl:((p::ps).length:Int) > 0:=by simp
   have hin:inB (0:Int) (p::ps).length=true:=(inB_nat 0 _).trans (by simp)
   have hfx:=hb.applied_free p.left
   have hfy:=hb.applied_free p.right
   have hox:=fun h=>hb.applied_ok h1 h
   have hoy:=fun h=>hb.applied_ok h2 h
   have hhx:=fun h h'=>hb.head_var (hox h) h'
   have hhy:=fun h h'=>hb.head_var (hoy h) h'
   have hb1:decide (0≤(1:Int))=true:=rfl
   have hb2:(1:Int)≤((p::ps).length:Int):=by simp only [List.length_cons]; omega
   have hlx:=applied_length hbo p.left
   have hly:=applied_length hbo p.right
   obtain ⟨Z,hZ⟩:∃ Z,Z=ustep l b p ps uT (fun (b:Bnd) (ps:List Pr)=>spec_l6Unify.at0 (n+20) f (spec_l6Unify.st0 (cells l) (cells ps) (cells b.1) (cells b.2))):=⟨_,rfl⟩
   show _=ustep l b p ps uT (fun (b:Bnd) (ps:List Pr)=>spec_l6Unify.at0 (n+20) f (spec_l6Unify.st0 (cells l) (cells ps) (cells b.1) (cells b.2)))
   rw [← hZ]
   unfold ustep at hZ
   simp only [spec_l6Unify.next0,spec_l6Unify.round0,evz,Nat.reduceLT,hpl,hin,g0,g1,a1,a2,hb1,hb2,Int.le_refl,Bool.and_self,cells_tail]
   generalize applied b.1 b.2 p.left=x at *
   generalize applied b.1 b.2 p.right=y at *
   by_cases c1:24 < x.length
   · have c1':(x.length:Int) > 24:=by omega
     rw [if_pos (.inl c1)] at hZ
     simp only [c1',evz,Nat.reduceLT]
     rw [hZ]
     rfl
   by_cases c1b:24 < y.length
   · have c1':¬ (x.length:Int) > 24:=by omega
     have c1b':(y.length:Int) > 24:=by omega
     rw [if_pos (.inr c1b)] at hZ
     simp only [c1',c1b',evz,Nat.reduceLT]
     rw [hZ]
     rfl
   have c1':¬ (x.length:Int) > 24:=by omega
   have c1b':¬ (y.length:Int) > 24:=by omega
   have hx:=hox (by omega)
   have hy:=hoy (by omega)
   have hxp:=hx.pos
   have hyp:=hy.pos
   have heq:=(spec_l1Same x y ⟨by omega,fun _ _=>trivial⟩).eq
   rw [if_neg (by omega)] at hZ
   by_cases c2:x=y
   · rw [if_pos c2] at hZ
     rw [decide_eq_true c2] at heq
     simp only [c1',c1b',evz,Nat.reduceLT,heq]
     rw [hZ]
   rw [if_neg c2] at hZ
   rw [decide_eq_false c2] at heq
   have x0:=cells_head hx
   have y0:=cells_head hy
   have inx:inB (0:Int) x.length=true:=(inB_nat 0 _).trans (by simp; omega)
   have iny:inB (0:Int) y.length=true:=(inB_nat 0 _).trans (by simp; omega)
   by_cases c3:x.getD 0 0 < 0
   · obtain ⟨hv,hnb⟩:=hhx (by omega) c3
     have h5:=spec_l6Bind ok hb hv hnb hy
     unfold sbindR at h5
     rw [show -1 - (-1 - x.getD 0 0)=x.getD 0 0 by omega] at h5
     rw [if_pos c3] at hZ
     by_cases c4:x.getD 0 0∈y
     · rw [if_pos c4] at hZ h5
       simp only [c1',c1b',evz,Nat.reduceLT,heq,inx,x0,c3,wrap64 (x := -1 - x.getD 0 0) (by omega),h5]
       rw [hZ]
       rfl
     · rw [if_neg c4] at hZ h5
       simp only [c1',c1b',evz,Nat.reduceLT,heq,inx,x0,c3,wrap64 (x := -1 - x.getD 0 0) (by omega),h5]
       rw [hZ]
       cases bindAll b (-1 - x.getD 0 0) y with
       | none=>rfl
       | some b'=>rfl
   rw [if_neg c3] at hZ
   by_cases c5:y.getD 0 0 < 0
   · obtain ⟨hv,hnb⟩:=hhy (by omega) c5
     have h5:=spec_l6Bind ok hb hv hnb hx
     unfold sbindR at h5
     rw [show -1 - (-1 - y.getD 0 0)=y.getD 0 0 by omega] at h5
     rw [if_pos c5] at hZ
     by_cases c4:y.getD 0 0∈x
     · rw [if_pos c4] at hZ h5
       simp only [c1',c1b',evz,Nat.reduceLT,heq,inx,iny,x0,y0,c3,c5,wrap64 (x := -1 - y.getD 0 0) (by omega),h5]
       rw [hZ]
       rfl
     · rw [if_neg c4] at hZ h5
       simp only [c1',c1b',evz,Nat.reduceLT,heq,inx,iny,x0,y0,c3,c5,wrap64 (x := -1 - y.getD 0 0) (by omega),h5]
       rw [hZ]
       cases bindAll b (-1 - y.getD 0 0) x with
       | none=>rfl
       | some b'=>rfl
   rw [if_neg c5] at hZ
   by_cases c6:x.getD 0 0=y.getD 0 0
   · rw [if_neg (by simpa using c6)] at hZ
     have h3:=(spec_l6Args ok hx hy (by omega) c6).eq
     have hal:(argsOf l x y).length≤2:=by
      have:=starts_le ok x 0
      unfold argsOf; rw [List.length_map,List.length_zip]; omega
     rw [c6] at x0 c3
     simp only [c1',c1b',evz,Nat.reduceLT,heq,inx,iny,x0,y0,c3,c5,eq_self,h3]
     rw [cond_pos (ble_ok (by rw [cells_length,cells_length,sz_Equation]; omega)),← cells_append]
     rw [hZ]
   · rw [if_pos c6] at hZ
     simp only [c1',c1b',evz,Nat.reduceLT,heq,inx,iny,x0,y0,c3,c5,c6]
     rw [hZ]
     rfl
end
end Ev.Ty
end
section
namespace Ev.Ty
open Go Ev
open Enc (enc)
open Sm (sm)
set_option linter.unusedSimpArgs false
set_option linter.unusedVariables false
theorem rulesFault_ok {l:List Symbol} {rs:List Equation} (h:rulesFault ⟨l⟩ rs=0):sigFault ⟨l⟩=0∧SigOk ⟨l⟩∧rs.length≤12∧∀ e∈rs,EqOk l e:=by
 unfold rulesFault at h
 split at h
 · rename_i h1; exact absurd h h1
 rename_i h1
 have h1:sigFault ⟨l⟩=0:=by simpa using h1
 unfold rulesFault0 at h
 split at h
 · rename_i h2; exact absurd h h2
 rename_i h2
 obtain ⟨q1,q2⟩:=eqsOk_iff.1 (show eqsFault l rs=0 by simpa using h2)
 exact ⟨h1,(sigOk_iff _).1 h1,q1,q2⟩
theorem rewriteFault_ok {l:List Symbol} {rs:List Equation} {t:List Int} (h:rewriteFault ⟨l⟩ rs t=0):SigOk ⟨l⟩∧rs.length≤12∧(∀ e∈rs,EqOk l e)∧TermOk l t:=by
 unfold rewriteFault at h
 split at h
 · rename_i h1; exact absurd h h1
 rename_i h1
 obtain ⟨_,q1,q2,q3⟩:=rulesFault_ok (l:=l) (rs:=rs) (by simpa using h1)
 exact ⟨q1,q2,q3,(termOk_iff _ _).1 h⟩
theorem impl_rewriteFault (l:List Symbol) (hs:l.length≤4294967296) (rs:List Equation) (hr:sm 4294967296 rs) (t:List Int) (ht:t.length≤4294967296) :
 Call F.impl_rewriteFault [.agg [slc l],slc rs,slc t] (.int .i64 (rewriteFault ⟨l⟩ rs t)):=by
 refine call_of rfl 0 ((impl_rewriteFault.ev _ _ _ _).trans ?_)
 simp only [evz,Nat.reduceLT,(impl_RulesFault l hs rs hr).eq,(impl_TermFault l hs t ht).eq,(firstCode2 _ _).eq,rewriteFault]
 by_cases h:rulesFault ⟨l⟩ rs=0
 · have h0:=(rulesFault_ok h).1
   simp only [h,evz,Nat.reduceLT,ne_eq,not_true_eq_false,termFault,h0]
 · simp only [h,evz,Nat.reduceLT,ne_eq,not_false_eq_true]
theorem spec_l8Both (l:List Symbol) (hs:l.length≤4294967296) (rs:List Equation) (hr:sm 4294967296 rs) (t:List Int) (ht:t.length≤4294967296) :
 Call F.spec_l8Both [.rref [slc l] 0,slc rs,slc t] (.int .i64 (rewriteFault ⟨l⟩ rs t)):=by
 refine call_of rfl 0 ((spec_l8Both.ev _ _ _ _).trans ?_)
 simp only [evz,Nat.reduceLT,(spec_RulesFault l hs rs hr).eq,rewriteFault]
 by_cases h:rulesFault ⟨l⟩ rs=0
 · have h0:=(rulesFault_ok h).2.1
   simp only [h,evz,Nat.reduceLT,ne_eq,not_true_eq_false,(spec_l3Fault l h0 t ht).eq]
 · simp only [h,evz,Nat.reduceLT,ne_eq,not_false_eq_true]
theorem impl_RewriteAt (s:Signature) (rs:List Equation) (r p:Int) (t:List Int) (hs:sm 1048576 s) (hr:sm 1048576 rs) (ht:sm 1048576 t):Call F.impl_RewriteAt [.agg (enc s),slc rs,.int .i64 r,.int .i64 p,slc t] (.agg (enc (rewriteAtR s rs r p t))):=by
 obtain ⟨l⟩:=s
 have hsl:l.length≤4294967296:=Nat.le_trans hs.1 (by omega)
 have htl:t.length≤4294967296:=Nat.le_trans ht.1 (by omega)
 have hrl:rs.length≤4294967296:=Nat.le_trans hr.1 (by omega)
 show Call F.impl_RewriteAt [.agg [slc l],slc rs,.int .i64 r,.int .i64 p,slc t] _
 refine call_of rfl 0 ((impl_RewriteAt.ev _ _ _ _ _ _).trans ?_)
 simp only [evz,Nat.reduceLT,(impl_rewriteFault l hsl rs (sm_mono (by omega) hr) t htl).eq,rewriteAtR,wrap64 (x:=(rs.length:Int) - 1) (by omega),wrap64 (x:=(t.length:Int) - 1) (by omega),(impl_within _ _ _).eq]
 by_cases h:rewriteFault ⟨l⟩ rs t=0
 case neg=>simp only [h,evz,Nat.reduceLT,ne_eq,not_false_eq_true,enc_TermResult,slc_nil]
 obtain ⟨ok,q1,q2,q3⟩:=rewriteFault_ok h
 cases h1:inR r 0 (rs.length - 1) with
 | false=>simp only [h,evz,Nat.reduceLT,ne_eq,not_true_eq_false,Bool.not_false,true_or,enc_TermResult,slc_nil]
 | true =>
   cases h2:inR p 0 (t.length - 1) with
   | false=>simp only [h,evz,Nat.reduceLT,ne_eq,not_true_eq_false,Bool.not_true,Bool.not_false,or_true,enc_TermResult,slc_nil]
   | true =>
     have hr1:=inR_iff.1 h1
     have hp1:=inR_iff.1 h2
     obtain ⟨k,rfl⟩:∃ k:Nat,r=k:=⟨r.toNat,by omega⟩
     obtain ⟨a,rfl⟩:∃ a:Nat,p=a:=⟨p.toNat,by omega⟩
     have hk:k < rs.length:=by omega
     have ha:a < t.length:=by omega
     have hlk:rs[k]?=some rs[k]:=List.getElem?_eq_getElem hk
     have he:=q2 _ (List.getElem_mem hk)
     have hrw:=(impl_rewritten ok he q3 ha).eq
     rw [enc_TermResult] at hrw
     simp only [h,evz,Nat.reduceLT,ne_eq,not_true_eq_false,Bool.not_true,or_self,hk,hlk,enc_Equation,hrw,getE hk,enc_TermResult,reduceCtorEq]
theorem spec_RewriteAt (s:Signature) (rs:List Equation) (r p:Int) (t:List Int) (hs:sm 1048576 s) (hr:sm 1048576 rs) (ht:sm 1048576 t):Call F.spec_RewriteAt [.agg (enc s),slc rs,.int .i64 r,.int .i64 p,slc t] (.agg (enc (rewriteAtR s rs r p t))):=by
 obtain ⟨l⟩:=s
 have hsl:l.length≤4294967296:=Nat.le_trans hs.1 (by omega)
 have htl:t.length≤4294967296:=Nat.le_trans ht.1 (by omega)
 have hrl:rs.length≤4294967296:=Nat.le_trans hr.1 (by omega)
 show Call F.spec_RewriteAt [.agg [slc l],slc rs,.int .i64 r,.int .i64 p,slc t] _
 refine call_of rfl 0 ((spec_RewriteAt.ev _ _ _ _ _ _).trans ?_)
 simp only [evz,Nat.reduceLT,(spec_l8Both l hsl rs (sm_mono (by omega) hr) t htl).eq,rewriteAtR,wrap64 (x:=(rs.length:Int) - 1) (by omega),(spec_l1In _ _ _).eq,(spec_l3Place t p htl).eq]
 by_cases h:rewriteFault ⟨l⟩ rs t=0
 case neg=>simp only [h,evz,Nat.reduceLT,ne_eq,not_false_eq_true,enc_TermResult,slc_nil]
 obtain ⟨ok,q1,q2,q3⟩:=rewriteFault_ok h
 cases h1:inR r 0 (rs.length - 1) with
 | false=>simp only [h,evz,Nat.reduceLT,ne_eq,not_true_eq_false,Bool.not_false,true_or,enc_TermResult,slc_nil]
 | true =>
   cases h2:inR p 0 (t.length - 1) with
   | false=>simp only [h,evz,Nat.reduceLT,ne_eq,not_true_eq_false,Bool.not_true,Bool.not_false,or_true,enc_TermResult,slc_nil]
   | true =>
     have hr1:=inR_iff.1 h1
     have hp1:=inR_iff.1 h2
     obtain ⟨k,rfl⟩:∃ k:Nat,r=k:=⟨r.toNat,by omega⟩
     obtain ⟨a,rfl⟩:∃ a:Nat,p=a:=⟨p.toNat,by omega⟩
     have hk:k < rs.length:=by omega
     have ha:a < t.length:=by omega
     have hlk:rs[k]?=some rs[k]:=List.getElem?_eq_getElem hk
     have he:=q2 _ (List.getElem_mem hk)
     have hrw:=(spec_l8Rewrite ok he q3 ha).eq
     have hwin:=cells_window (k:=2) (i:=k) rfl hlk
     simp only [h,evz,Nat.reduceLT,ne_eq,not_true_eq_false,Bool.not_true,or_self,hk,hwin,enc_Equation,hrw,getE hk,enc_TermResult,reduceCtorEq]
end Ev.Ty
end
section
namespace Ev.Ty
open Go Ev
open Enc (enc)
open Sm (sm)
set_option linter.unusedSimpArgs false
set_option linter.unusedVariables false
theorem shiftT_length (t:List Int) (b:Int):(shiftT t b).length=t.length:=by simp [shiftT]
theorem shiftT_succ {t:List Int} {b:Int} {k:Nat} (h:k < t.length):shiftT (t.take (k+1)) b=shiftT (t.take k) b++[if t[k] < 0 then t[k] - b else t[k]]:=by
 rw [← List.take_append_getElem h]; unfold shiftT; rw [List.map_append]; rfl
theorem impl_shifted (t:List Int) (ht:t.length≤4096) (hr:∀ n∈t,-4611686018427387904≤n):Call F.impl_shifted [slc t,.int .i64 6] (slc (shiftT t 6)):=by
 refine call_of rfl (t.length+1) ((impl_shifted.ev _ _ _).trans ?_)
 simp only [evz,Nat.reduceLT,(slices_Clone_Sint64 t (by omega)).eq]
 have key:=run_loop (n:=t.length) (f:=t.length+1) (S:=fun m k (o:List Int)=>impl_shifted.at0 (t.length+1) m (impl_shifted.st0 6 t.length (k:Nat) (cells o)))
  (st:=fun k=>shiftT (t.take k) 6++t.drop k) (z:=some (slc (shiftT t 6),[])) (fun m k h => ?_) (fun m => ?_) (by omega)
 · exact key
 · have hn:=hr t[k] (List.getElem_mem h)
   have e1:shiftT (t.take (k+1)) 6++t.drop (k+1)=(shiftT (t.take k) 6++t.drop k).set k (if t[k] < 0 then t[k] - 6 else t[k]):=by
    rw [shiftT_succ h,List.set_append_right _ _ (by rw [shiftT_length]; simp; omega),List.drop_eq_getElem_cons h]
    rw [show k - (shiftT (t.take k) 6).length=0 by rw [shiftT_length]; simp; omega,List.set_cons_zero]
    simp
   obtain ⟨M,hM⟩:∃ M,M=shiftT (t.take k) 6++t.drop k:=⟨_,rfl⟩
   have hMl:M.length=t.length:=by rw [hM]; simp [shiftT_length]; omega
   have hMk:M[k]?=some t[k]:=by
    rw [hM,List.getElem?_append_right (by rw [shiftT_length]; simp; omega)]
    simp [shiftT_length,Nat.min_eq_left (Nat.le_of_lt h),List.getElem?_eq_getElem h]
   rw [e1,← hM]
   have hkM:k < M.length:=by omega
   have hkc:k*1+1≤(cells M).length:=by rw [cells_length,sz_int]; omega
   simp only [impl_shifted.next0,impl_shifted.round0,evz,Nat.reduceLT,h,hMk,hkM,enc_int]
   by_cases hneg:t[k] < 0
   · rw [wrap64 (x:=t[k] - 6) (by omega)]
     have:=set_Int hkM (t[k] - 6)
     simp only [hneg,evz,Nat.reduceLT,this,hkc]
     rw [wrap_succ (by omega)]
   · have hs:M.set k t[k]=M:=set_same hMk
     simp only [hneg,evz,Nat.reduceLT,hs]
     rw [wrap_succ (by omega)]
 · rw [List.take_length,List.drop_of_length_le (Nat.le_refl _),List.append_nil]
   simp only [impl_shifted.next0,impl_shifted.round0,evz,Nat.reduceLT,Nat.lt_irrefl]
theorem spec_l6Shift (t:List Int) (ht:t.length≤4096) (hr:∀ n∈t,-4611686018427387904≤n):Call F.spec_l6Shift [slc t,.int .i64 6] (slc (shiftT t 6)):=by
 refine call_of rfl (t.length+1) ((spec_l6Shift.ev _ _ _).trans ?_)
 have key:=run_loop (n:=t.length) (f:=t.length+1) (S:=fun m k (o:List Int)=>spec_l6Shift.at0 (t.length+1) m (spec_l6Shift.st0 (cells t) 6 (k:Nat) (cells o)))
  (st:=fun k=>shiftT (t.take k) 6) (z:=some (slc (shiftT t 6),[])) (fun m k h => ?_) (fun m => ?_) (by omega)
 · exact key
 · have hn:=hr t[k] (List.getElem_mem h)
   have hlk:t[k]?=some t[k]:=List.getElem?_eq_getElem h
   have hb:Nat.ble (((cells (shiftT (t.take k) 6)).length+1)*8) (140737488355328*1)=true:=ble_ok (by rw [cells_length,sz_int,shiftT_length]; simp; omega)
   rw [shiftT_succ h]
   simp only [spec_l6Shift.next0,spec_l6Shift.round0,evz,Nat.reduceLT,h,hlk,enc_int]
   by_cases hneg:t[k] < 0
   · rw [wrap64 (x:=t[k] - 6) (by omega)]
     simp only [hneg,evz,Nat.reduceLT,cells_snoc_int]
     rw [wrap_succ (by omega),cond_pos hb]
   · simp only [hneg,evz,Nat.reduceLT,cells_snoc_int]
     rw [wrap_succ (by omega),cond_pos hb]
 · rw [List.take_length]
   simp only [spec_l6Shift.next0,spec_l6Shift.round0,evz,Nat.reduceLT,Nat.lt_irrefl]
theorem idx_neg_iff {s:List Int} {n:Int}:idx (fun x=>decide (x=n)) s < 0↔n∉s:=by
 rcases idx_spec (fun x:Int=>decide (x=n)) s with ⟨h1,h2⟩ | ⟨i,hi,h1,h2,_⟩
 · exact ⟨fun _ hm=>by have:=h2 n hm; simp at this,fun _=>by omega⟩
 · exact ⟨fun h=>by omega,fun h=>absurd ((show s[i]=n by simpa using h2) ▸ List.getElem_mem hi) h⟩
theorem idx_snoc {s:List Int} {n:Int} (h:n∉s):idx (fun x=>decide (x=n)) (s++[n])=s.length:=by
 unfold idx
 have:(s++[n]).findIdx? (fun x=>decide (x=n))=some s.length:=by
  rw [List.findIdx?_append]
  have h0:s.findIdx? (fun x=>decide (x=n))=none:=by
   rw [List.findIdx?_eq_none_iff]
   intro x hx
   have:x≠n:=fun e=>h (e ▸ hx)
   simpa using this
  rw [h0]
  simp [List.findIdx?_cons]
 rw [this]
theorem idx_range (s:List Int) (n:Int) : -1≤idx (fun x=>decide (x=n)) s∧idx (fun x=>decide (x=n)) s < s.length+1:=by
 rcases idx_spec (fun x:Int=>decide (x=n)) s with ⟨h1,_⟩ | ⟨i,hi,h1,_,_⟩ <;> omega
def plSt (seen t:List Int) (k:Nat):List Int × List Int:=((plainL seen (t.take k)).1++t.drop k,(plainL seen (t.take k)).2)
theorem plSt_len (seen t:List Int) {k:Nat} (hk:k≤t.length):(plSt seen t k).1.length=t.length:=by
 have:=(plainL_length seen (t.take k)).1
 unfold plSt; simp only [List.length_append,this]; simp; omega
theorem plSt_get (seen t:List Int) {k:Nat} (h:k < t.length):(plSt seen t k).1[k]?=some t[k]:=by
 have hl:=(plainL_length seen (t.take k)).1
 rw [List.length_take,Nat.min_eq_left (Nat.le_of_lt h)] at hl
 unfold plSt
 simp only
 rw [List.getElem?_append_right (by omega),hl,Nat.sub_self,List.drop_eq_getElem_cons h]; rfl
theorem plSt_seen (seen t:List Int) (k:Nat):(plSt seen t k).2.length≤seen.length+k:=by
 have:=(plainL_length seen (t.take k)).2.1
 unfold plSt
 simp at this ⊢
 omega
theorem plSt_succ (seen t:List Int) {k:Nat} (h:k < t.length):plSt seen t (k+1)=((plSt seen t k).1.set k (pstep (plSt seen t k).2 t[k]).1,(pstep (plSt seen t k).2 t[k]).2):=by
 have hl:=(plainL_length seen (t.take k)).1
 rw [List.length_take,Nat.min_eq_left (Nat.le_of_lt h)] at hl
 unfold plSt
 simp only
 rw [← List.take_append_getElem h,plainL_append,List.set_append_right _ _ (by omega),hl,Nat.sub_self,List.drop_eq_getElem_cons h,List.set_cons_zero]
 simp [plainL]
theorem plSt_zero (seen t:List Int):plSt seen t 0=(t,seen):=by simp [plSt,plainL]
theorem plSt_end (seen t:List Int):plSt seen t t.length=plainL seen t:=by simp [plSt]
theorem plSt_pos (seen t:List Int) {k:Nat} (h:k < t.length) (h0:0≤t[k]):plSt seen t (k+1)=plSt seen t k:=by
 have e:=plSt_succ seen t h
 have:pstep (plSt seen t k).2 t[k]=(t[k],(plSt seen t k).2):=by unfold pstep; rw [if_pos h0]
 rw [e,this,set_same (plSt_get seen t h)]
theorem plSt_new (seen t:List Int) {k:Nat} (h:k < t.length) (h0:¬ 0≤t[k]) (hn:t[k]∉(plSt seen t k).2) :
 plSt seen t (k+1)=((plSt seen t k).1.set k (-1 - ((plSt seen t k).2.length:Int)),(plSt seen t k).2++[t[k]]):=by
 rw [plSt_succ seen t h]
 unfold pstep
 rw [if_neg h0,if_pos (idx_neg_iff.2 hn)]
theorem plSt_old (seen t:List Int) {k:Nat} (h:k < t.length) (h0:¬ 0≤t[k]) (hn:t[k]∈(plSt seen t k).2) :
 plSt seen t (k+1)=((plSt seen t k).1.set k (-1 - idx (fun x=>decide (x=t[k])) (plSt seen t k).2),(plSt seen t k).2):=by
 rw [plSt_succ seen t h]
 unfold pstep
 rw [if_neg h0,if_neg (fun e=>idx_neg_iff.1 e hn)]
theorem impl_plain2 (seen t r:List Int) (hs:seen.length≤4096) (ht:t.length≤4096) {N:Nat} (hN:t.length < N) (L0:St→R) :
 impl_plain.at2 N L0 N (impl_plain.st2 2 (0:Nat) t.length (0:Nat) (cells seen) (cells t) (cells r))=L0 (impl_plain.st0 2 (1:Nat) (cells (plainL seen t).2) (cells (plainL seen t).1) (cells r)):=by
 have key:=run_loop (n:=t.length) (f:=N) (S:=fun m k (o:List Int × List Int)=>impl_plain.at2 N L0 m (impl_plain.st2 2 (0:Nat) t.length (k:Nat) (cells o.2) (cells o.1) (cells r)))
  (st:=fun k=>plSt seen t k) (z:=L0 (impl_plain.st0 2 (1:Nat) (cells (plainL seen t).2) (cells (plainL seen t).1) (cells r))) (fun m k h => ?_) (fun m => ?_) (by omega)
 · rw [plSt_zero] at key; exact key
 · have hl:=plSt_len seen t (Nat.le_of_lt h)
   have hg:=plSt_get seen t h
   have hsl:=plSt_seen seen t k
   have hp:=plSt_pos seen t h
   have hnw:=plSt_new seen t h
   have hod:=plSt_old seen t h
   generalize plSt seen t (k+1)=P at *
   generalize plSt seen t k=Q at *
   obtain ⟨M,s⟩:=Q
   simp only at hl hg hsl hp hnw hod
   have hkM:k < M.length:=by omega
   have hkc:k*1+1≤(cells M).length:=by rw [cells_length,sz_int]; omega
   have hct:=(slices_Contains_Sint64 s t[k] (by omega)).eq
   have hix:=(slices_Index_Sint64 s t[k] (by omega)).eq
   have hix':=(slices_Index_Sint64 (s++[t[k]]) t[k] (by simp; omega)).eq
   have hrg:=idx_range s t[k]
   by_cases h0:0≤t[k]
   · have h0':t[k] ≥ 0:=h0
     rw [hp h0]
     simp only [impl_plain.next2,impl_plain.round2,evz,Nat.reduceLT,h,hg,hkM,enc_int,h0']
     rw [wrap_succ (by omega)]
   · have h0':¬ t[k] ≥ 0:=h0
     by_cases hm:t[k]∈s
     · rw [hod h0 hm]
       rw [decide_eq_true hm] at hct
       have:=set_Int hkM (-1 - idx (fun x=>decide (x=t[k])) s)
       simp only [impl_plain.next2,impl_plain.round2,evz,Nat.reduceLT,h,hg,hkM,enc_int,h0',hct,hix,wrap64 (x := -1 - idx (fun x=>decide (x=t[k])) s) (by omega),this,hkc]
       rw [wrap_succ (by omega)]
     · rw [hnw h0 hm]
       rw [decide_eq_false hm] at hct
       rw [idx_snoc hm] at hix'
       have:=set_Int hkM (-1 - (s.length:Int))
       simp only [impl_plain.next2,impl_plain.round2,evz,Nat.reduceLT,h,hg,hkM,enc_int,h0',hct,cells_snoc_int,hix',wrap64 (x := -1 - (s.length:Int)) (by omega),this,hkc]
       rw [wrap_succ (by omega),cond_pos (ble_ok (by rw [cells_length,sz_int]; omega))]
 · rw [plSt_end]
   simp only [impl_plain.next2,impl_plain.round2,evz,Nat.reduceLT,Nat.lt_irrefl]
   rw [wrap_succ (by omega)]
theorem impl_plain3 (seen t r:List Int) (hs:seen.length≤4096) (ht:t.length≤4096) {N:Nat} (hN:t.length < N) (L0:St→R) :
 impl_plain.at1002 N L0 N (impl_plain.st1002 2 (1:Nat) t.length (0:Nat) (cells seen) (cells r) (cells t))=L0 (impl_plain.st0 2 (2:Nat) (cells (plainL seen t).2) (cells r) (cells (plainL seen t).1)):=by
 have key:=run_loop (n:=t.length) (f:=N) (S:=fun m k (o:List Int × List Int)=>impl_plain.at1002 N L0 m (impl_plain.st1002 2 (1:Nat) t.length (k:Nat) (cells o.2) (cells r) (cells o.1)))
  (st:=fun k=>plSt seen t k) (z:=L0 (impl_plain.st0 2 (2:Nat) (cells (plainL seen t).2) (cells r) (cells (plainL seen t).1))) (fun m k h => ?_) (fun m => ?_) (by omega)
 · rw [plSt_zero] at key; exact key
 · have hl:=plSt_len seen t (Nat.le_of_lt h)
   have hg:=plSt_get seen t h
   have hsl:=plSt_seen seen t k
   have hp:=plSt_pos seen t h
   have hnw:=plSt_new seen t h
   have hod:=plSt_old seen t h
   generalize plSt seen t (k+1)=P at *
   generalize plSt seen t k=Q at *
   obtain ⟨M,s⟩:=Q
   simp only at hl hg hsl hp hnw hod
   have hkM:k < M.length:=by omega
   have hkc:k*1+1≤(cells M).length:=by rw [cells_length,sz_int]; omega
   have hct:=(slices_Contains_Sint64 s t[k] (by omega)).eq
   have hix:=(slices_Index_Sint64 s t[k] (by omega)).eq
   have hix':=(slices_Index_Sint64 (s++[t[k]]) t[k] (by simp; omega)).eq
   have hrg:=idx_range s t[k]
   by_cases h0:0≤t[k]
   · have h0':t[k] ≥ 0:=h0
     rw [hp h0]
     simp only [impl_plain.next1002,impl_plain.round1002,evz,Nat.reduceLT,h,hg,hkM,enc_int,h0']
     rw [wrap_succ (by omega)]
   · have h0':¬ t[k] ≥ 0:=h0
     by_cases hm:t[k]∈s
     · rw [hod h0 hm]
       rw [decide_eq_true hm] at hct
       have:=set_Int hkM (-1 - idx (fun x=>decide (x=t[k])) s)
       simp only [impl_plain.next1002,impl_plain.round1002,evz,Nat.reduceLT,h,hg,hkM,enc_int,h0',hct,hix,wrap64 (x := -1 - idx (fun x=>decide (x=t[k])) s) (by omega),this,hkc]
       rw [wrap_succ (by omega)]
     · rw [hnw h0 hm]
       rw [decide_eq_false hm] at hct
       rw [idx_snoc hm] at hix'
       have:=set_Int hkM (-1 - (s.length:Int))
       simp only [impl_plain.next1002,impl_plain.round1002,evz,Nat.reduceLT,h,hg,hkM,enc_int,h0',hct,cells_snoc_int,hix',wrap64 (x := -1 - (s.length:Int)) (by omega),this,hkc]
       rw [wrap_succ (by omega),cond_pos (ble_ok (by rw [cells_length,sz_int]; omega))]
 · rw [plSt_end]
   simp only [impl_plain.next1002,impl_plain.round1002,evz,Nat.reduceLT,Nat.lt_irrefl]
   rw [wrap_succ (by omega)]
theorem impl_plain0 (a b:List Int) (ha:a.length≤1024) {N:Nat} (hN:1100≤N) (f:Nat) :
 impl_plain.at0 N (f+1) (impl_plain.st0 2 (0:Int) [] (cells a) (cells b))=impl_plain.at0 N f (impl_plain.st0 2 (1:Nat) (cells (plainL [] a).2) (cells (plainL [] a).1) (cells b)):=by
 have h2:=impl_plain2 [] a b (by simp) (by omega) (N:=N) (by omega) (impl_plain.at0 N f)
 rw [show ((0:Nat):Int)=0 from rfl,cells_nil] at h2
 rw [impl_plain.next0,impl_plain.round0]
 simp only [cells_div,sz_int]
 rw [cond_pos (by decide),cond_pos (by decide),cond_pos (by decide)]
 exact h2
theorem impl_plain1 (seen a b:List Int) (hs:seen.length≤4096) (hb:b.length≤1024) {N:Nat} (hN:1100≤N) (f:Nat) :
 impl_plain.at0 N (f+1) (impl_plain.st0 2 (1:Nat) (cells seen) (cells a) (cells b))=impl_plain.at0 N f (impl_plain.st0 2 (2:Nat) (cells (plainL seen b).2) (cells a) (cells (plainL seen b).1)):=by
 have h3:=impl_plain3 seen b a hs (by omega) (N:=N) (by omega) (impl_plain.at0 N f)
 rw [show ((0:Nat):Int)=0 from rfl] at h3
 rw [impl_plain.next0,impl_plain.round0]
 simp only [cells_div,sz_int]
 rw [cond_pos (by decide),cond_pos (by decide),cond_neg (by decide),cond_pos (by decide)]
 exact h3
theorem impl_plain4 (s a b:List Int) {N:Nat} (f:Nat):impl_plain.at0 N (f+1) (impl_plain.st0 2 (2:Nat) (cells s) (cells a) (cells b))=some (.tup [.agg [slc a,slc b],.bool (decide (s.length≤6))],[]):=by
 rw [impl_plain.next0,impl_plain.round0]
 simp only [cells_div,sz_int]
 rw [cond_neg (by decide),show decide (((s.length:Nat):Int)≤6)=decide (s.length≤6) from decide_eq_decide.2 (by omega)]
 rfl
theorem impl_plain (a b:List Int) (ha:a.length≤1024) (hb:b.length≤1024):Call F.impl_plain [.agg [slc a,slc b]] (.tup [.agg [slc (plainE ⟨a,b⟩).left,slc (plainE ⟨a,b⟩).right],.bool (decide ((seenE ⟨a,b⟩).length≤6))]):=by
 obtain ⟨m,hm⟩:∃ m,1100≤m:=⟨1100,Nat.le_refl _⟩
 refine call_of rfl (m+1+1+1) ((impl_plain.ev _ _ _).trans ?_)
 have ho:Call F.impl_ownEquation [.agg [slc a,slc b]] (.agg [slc a,slc b]):=by
  refine call_of rfl 0 ((impl_ownEquation.ev _ _ _).trans ?_)
  simp only [evz,Nat.reduceLT,(slices_Clone_Sint64 a (by omega)).eq,(slices_Clone_Sint64 b (by omega)).eq]
 simp only [evz,Nat.reduceLT,ho.eq]
 have hs1:=(plainL_length [] a).2.1
 have e0:=impl_plain0 a b ha (N:=m+1+1+1) (by omega) (m+1+1)
 have e1:=impl_plain1 (plainL [] a).2 (plainL [] a).1 b (by simp at hs1; omega) hb (N:=m+1+1+1) (by omega) (m+1)
 exact e0.trans (e1.trans (impl_plain4 _ _ _ m))
theorem spec_l4Plain (a b:List Int) (ha:a.length≤1024) (hb:b.length≤1024):Call F.spec_l4Plain [.rref [slc a,slc b] 0]
 (.tup [.agg [slc (if (seenE ⟨a,b⟩).length≤6 then (plainE ⟨a,b⟩).left else []),slc (if (seenE ⟨a,b⟩).length≤6 then (plainE ⟨a,b⟩).right else [])],.bool (decide ((seenE ⟨a,b⟩).length≤6))]):=by
 refine call_of rfl 3000 ((spec_l4Plain.ev _ _ _).trans ?_)
 simp only [evz,Nat.reduceLT,(spec_l1Ints' a (by omega)).eq,scalars_int,← cells_append]
 rw [cond_pos (ble_ok (by rw [cells_length,cells_length,sz_int]; omega))]
 have htl:(a++b).length≤2048:=by simp; omega
 obtain ⟨t,hte⟩:∃ t,t=a++b:=⟨_,rfl⟩
 rw [← hte] at htl ⊢
 have key:=run_loop (n:=t.length) (f:=3000) (S:=fun m k (o:List Int × List Int)=>spec_l4Plain.at0 3000 m (spec_l4Plain.st0 (cells a) (cells b) (k:Nat) (cells o.1) (cells o.2)))
  (st:=fun k=>plSt [] t k) (z:=some (.tup [.agg [slc (if (seenE ⟨a,b⟩).length≤6 then (plainE ⟨a,b⟩).left else []),slc (if (seenE ⟨a,b⟩).length≤6 then (plainE ⟨a,b⟩).right else [])],.bool (decide ((seenE ⟨a,b⟩).length≤6))],[])) (fun m k h => ?_) (fun m => ?_) (by omega)
 · rw [plSt_zero] at key; exact key
 · have hl:=plSt_len [] t (Nat.le_of_lt h)
   have hg:=plSt_get [] t h
   have hsl:=plSt_seen [] t k
   have hp:=plSt_pos [] t h
   have hnw:=plSt_new [] t h
   have hod:=plSt_old [] t h
   generalize plSt [] t (k+1)=P at *
   generalize plSt [] t k=Q at *
   obtain ⟨M,s⟩:=Q
   simp only at hl hg hsl hp hnw hod
   have hkM:k < M.length:=by omega
   have hkc:k*1+1≤(cells M).length:=by rw [cells_length,sz_int]; omega
   have hix:=(spec_l2Rank s t[k] (by simp at hsl; omega)).eq
   unfold rank at hix
   have hrg:=idx_range s t[k]
   have hsl':s.length≤2048:=by simp at hsl; omega
   by_cases h0:0≤t[k]
   · have h0':t[k] ≥ 0:=h0
     rw [hp h0]
     simp only [spec_l4Plain.next0,spec_l4Plain.round0,evz,Nat.reduceLT,h,hg,hkM,enc_int,h0']
     rw [wrap_succ (by omega)]
   · have h0':¬ t[k] ≥ 0:=h0
     by_cases hm:t[k]∈s
     · rw [hod h0 hm]
       have:=set_Int hkM (-1 - idx (fun x=>decide (x=t[k])) s)
       have hi:¬ idx (fun x=>decide (x=t[k])) s < 0:=fun e=>idx_neg_iff.1 e hm
       simp only [spec_l4Plain.next0,spec_l4Plain.round0,evz,Nat.reduceLT,h,hg,hkM,enc_int,h0',hix,hi,wrap64 (x := -1 - idx (fun x=>decide (x=t[k])) s) (by omega),this,hkc]
       rw [wrap_succ (by omega)]
     · rw [hnw h0 hm]
       have:=set_Int hkM (-1 - (s.length:Int))
       have hi:idx (fun x=>decide (x=t[k])) s < 0:=idx_neg_iff.2 hm
       simp only [spec_l4Plain.next0,spec_l4Plain.round0,evz,Nat.reduceLT,h,hg,hkM,enc_int,h0',hix,hi,cells_snoc_int,wrap64 (x := -1 - (s.length:Int)) (by omega),this,hkc]
       rw [wrap_succ (by omega),cond_pos (ble_ok (by rw [cells_length,sz_int]; omega))]
 · rw [plSt_end,hte,plainL_append]
   have hl1:=(plainL_length [] a).1
   have hl2:=(plainL_length (plainL [] a).2 b).1
   have es:seenE ⟨a,b⟩=(plainL (plainL [] a).2 b).2:=rfl
   simp only [spec_l4Plain.next0,spec_l4Plain.round0,evz,Nat.reduceLT,List.length_append,hl1,hl2,Nat.lt_irrefl,es]
   by_cases h6:(plainL (plainL [] a).2 b).2.length≤6
   · have h6':¬ (((plainL (plainL [] a).2 b).2.length:Nat):Int) > 6:=by omega
     have c1:((((plainL [] a).1++(plainL (plainL [] a).2 b).1).take a.length).drop 0)=(plainL [] a).1:=by rw [List.drop_zero,← hl1,List.take_left]
     have c2:((((plainL [] a).1++(plainL (plainL [] a).2 b).1).take (a.length+b.length)).drop a.length)=(plainL (plainL [] a).2 b).1:=by
      rw [List.take_of_length_le (by rw [List.length_append]; omega),← hl1,List.drop_left]
     simp only [h6,h6',evz,Nat.reduceLT]
     rw [cond_pos (by simp; omega),slc_cut,c1,(spec_l1Ints' _ (by omega)).eq]
     simp only [evz,Nat.reduceLT]
     rw [cond_pos (by simp; omega),slc_cut,c2,(spec_l1Ints' _ (by omega)).eq]
     simp only [evz,Nat.reduceLT]
     rfl
   · have h6':(((plainL (plainL [] a).2 b).2.length:Nat):Int) > 6:=by omega
     simp only [h6,h6',evz,Nat.reduceLT,slc_nil]
end Ev.Ty
end
section
namespace Ev.Ty
open Go Ev
open Enc (enc)
open Sm (sm)
set_option linter.unusedSimpArgs false
set_option linter.unusedVariables false
theorem unif_code {l:List Symbol}:∀ {n:Nat} {b:Bnd} {ps:List Pr} {c:Int},unif l n b ps=some (.inr c)→c=2∨c=4
 | 0,b,ps,c,h=>by cases h
 | n+1,b,[],c,h=>by cases h
 | n+1,b,p::ps,c,h=>by
   rw [unif] at h
   split at h
   · cases h; exact .inl rfl
   split at h
   · exact unif_code h
   split at h
   · split at h
     · cases h; exact .inr rfl
     split at h
     · cases h; exact .inl rfl
     · exact unif_code h
   split at h
   · split at h
     · cases h; exact .inr rfl
     split at h
     · cases h; exact .inl rfl
     · exact unif_code h
   split at h
   · cases h; exact .inr rfl
   · exact unif_code h
theorem unifR_code {l:List Symbol} {a b:List Int} (ha:TermOk l a) (hb:TermOk l b) {c:Int} (h:unifR l a b = .inr c):c=2∨c=4:=by
 obtain ⟨⟨n,hn⟩,_⟩:=unifR_spec ha hb
 rw [h] at hn
 exact unif_code hn
theorem replAt_range {l:List Symbol} (ok:SigOk ⟨l⟩) {t u:List Int} (ht:TermOk l t) (hu:TermOk l u) (p:Nat):∀ n∈replAt l t p u,-4611686018427387904≤n∧n≤4611686018427387904:=fun n hn=>by
 unfold replAt at hn
 rcases List.mem_append.1 hn with hn | hn
 · rcases List.mem_append.1 hn with hn | hn
   · exact ht.range ok n (List.mem_of_mem_take hn)
   · exact hu.range ok n hn
 · exact ht.range ok n (List.mem_of_mem_drop hn)
section
variable {l:List Symbol} (ok:SigOk ⟨l⟩)
include ok
theorem impl_peakOf {o i:Equation} (ho:EqOk l o) (hi:EqOk l i) {p:Nat} (hp:p < o.left.length):Call F.impl_peakOf [.agg [slc l],.agg [slc o.left,slc o.right],.agg [slc i.left,slc i.right],.int .i64 p] (.agg (enc (peakR l o i p))):=by
 refine call_of rfl 0 ((impl_peakOf.ev _ _ _ _ _ _ _).trans ?_)
 have l1:=ho.left.le
 have l2:=ho.right.le
 have l3:=hi.left.le
 have l4:=hi.right.le
 have s1:=(impl_shifted i.left (by omega) (fun n hn=>(hi.left.range ok n hn).1)).eq
 have s2:=(impl_shifted i.right (by omega) (fun n hn=>(hi.right.range ok n hn).1)).eq
 have o1:=shift_ok hi.left hi.lowL
 have o2:=shift_ok hi.right hi.lowR
 have os:=subAt_ok ho.left hp
 have hsub:=(impl_subterm ok ho.left hp).eq
 have hu:=impl_unify ok os o1
 have hrp:=(impl_replaced ok ho.left hp (shiftT i.right 6) (by rw [shiftT_length]; omega)).eq
 have hrl:=replAt_length (l:=l) (t:=o.left) (p:=p) (by_:=shiftT i.right 6)
 rw [shiftT_length] at hrl
 simp only [evz,Nat.reduceLT,s1,s2,hsub,hu,peakR]
 have hsp:=unifR_spec os o1
 have hcd:=fun c=>unifR_code os o1 (c:=c)
 generalize unifR l (subAt l o.left p) (shiftT i.left 6)=u at *
 cases u with
 | inr c =>
   have hc:¬ c=0:=by rcases hcd c rfl with h | h <;> omega
   simp only [uT,evz,Nat.reduceLT,hc,enc_EquationResult,slc_nil]
   rfl
 | inl b =>
   have hb:=hsp.2 b rfl
   have hbl:=hb.le
   have hbo:=hb.mb.ok (by omega)
   simp only [uT,evz,Nat.reduceLT,hrp]
   have hge:=applied_ge hb.mb (replAt l o.left p (shiftT i.right 6))
   have a1:=(impl_Binding_applied b.1 b.2 hbo o.right (by omega) (ho.right.range ok)).eq
   have a2:=(impl_Binding_applied b.1 b.2 hbo (replAt l o.left p (shiftT i.right 6)) (by omega) (replAt_range ok ho.left o2 p)).eq
   generalize replAt l o.left p (shiftT i.right 6)=w at *
   generalize applied b.1 b.2 o.right=x at *
   generalize applied b.1 b.2 w=y at *
   by_cases c1:24 < w.length
   · have c1':(w.length:Int) > 24:=by omega
     have c2:24 < x.length∨24 < y.length := .inr (by omega)
     simp only [c1',c2,evz,Nat.reduceLT,enc_EquationResult,slc_nil]
   have c1':¬ (w.length:Int) > 24:=by omega
   simp only [c1',evz,Nat.reduceLT,a1,a2]
   by_cases c2:24 < x.length
   · have c2':(x.length:Int) > 24:=by omega
     simp only [c2,c2',true_or,evz,Nat.reduceLT,enc_EquationResult,slc_nil]
   by_cases c3:24 < y.length
   · have c2':¬ (x.length:Int) > 24:=by omega
     have c3':(y.length:Int) > 24:=by omega
     simp only [c3,c2',c3',or_true,evz,Nat.reduceLT,enc_EquationResult,slc_nil]
   have c2':¬ (x.length:Int) > 24:=by omega
   have c3':¬ (y.length:Int) > 24:=by omega
   have hpl:=(impl_plain x y (by omega) (by omega)).eq
   simp only [c2,c3,c2',c3',or_self,evz,Nat.reduceLT,hpl]
   by_cases c4:(seenE ⟨x,y⟩).length≤6
   · have c4':¬ 6 < (seenE ⟨x,y⟩).length:=by omega
     simp only [c4,c4',evz,Nat.reduceLT,Bool.not_true,enc_EquationResult]
   · have c4':6 < (seenE ⟨x,y⟩).length:=by omega
     simp only [c4,c4',evz,Nat.reduceLT,Bool.not_false,enc_EquationResult,slc_nil]
theorem spec_l9Peak {o i:Equation} (ho:EqOk l o) (hi:EqOk l i) {p:Nat} (hp:p < o.left.length):Call F.spec_l9Peak [.rref [slc l] 0,.rref [slc o.left,slc o.right] 0,.rref [slc i.left,slc i.right] 0,.int .i64 p]
 (.tup [.agg [slc (peakR l o i p).equation.left,slc (peakR l o i p).equation.right],.int .i64 (peakR l o i p).code]):=by
 refine call_of rfl 0 ((spec_l9Peak.ev _ _ _ _ _ _ _).trans ?_)
 have l1:=ho.left.le
 have l2:=ho.right.le
 have l3:=hi.left.le
 have l4:=hi.right.le
 have s1:=(spec_l6Shift i.left (by omega) (fun n hn=>(hi.left.range ok n hn).1)).eq
 have s2:=(spec_l6Shift i.right (by omega) (fun n hn=>(hi.right.range ok n hn).1)).eq
 have o1:=shift_ok hi.left hi.lowL
 have o2:=shift_ok hi.right hi.lowR
 have os:=subAt_ok ho.left hp
 have hsub:=(spec_l3Sub ok ho.left hp).eq
 have hu:=spec_l6Unify ok os o1
 have hrp:=(spec_l3Replace ok ho.left hp (shiftT i.right 6) (by rw [shiftT_length]; omega)).eq
 have hrl:=replAt_length (l:=l) (t:=o.left) (p:=p) (by_:=shiftT i.right 6)
 rw [shiftT_length] at hrl
 simp only [evz,Nat.reduceLT,s1,s2,hsub,hu,peakR]
 have hsp:=unifR_spec os o1
 have hcd:=fun c=>unifR_code os o1 (c:=c)
 generalize unifR l (subAt l o.left p) (shiftT i.left 6)=u at *
 cases u with
 | inr c =>
   have hc:¬ c=0:=by rcases hcd c rfl with h | h <;> omega
   simp only [uT,evz,Nat.reduceLT,hc,enc_EquationResult,slc_nil]
   rfl
 | inl b =>
   have hb:=hsp.2 b rfl
   have hbl:=hb.le
   have hbo:=hb.mb.ok (by omega)
   simp only [uT,evz,Nat.reduceLT,hrp]
   have hge:=applied_ge hb.mb (replAt l o.left p (shiftT i.right 6))
   have a1:=(spec_l6Apply b.1 b.2 hbo o.right (by omega) (ho.right.range ok)).eq
   have a2:=(spec_l6Apply b.1 b.2 hbo (replAt l o.left p (shiftT i.right 6)) (by omega) (replAt_range ok ho.left o2 p)).eq
   generalize replAt l o.left p (shiftT i.right 6)=w at *
   generalize applied b.1 b.2 o.right=x at *
   generalize applied b.1 b.2 w=y at *
   simp only [evz,Nat.reduceLT,a1,a2]
   by_cases c2:24 < x.length
   · have c2':(x.length:Int) > 24:=by omega
     simp only [c2,c2',true_or,evz,Nat.reduceLT,enc_EquationResult,slc_nil]
   by_cases c3:24 < y.length
   · have c2':¬ (x.length:Int) > 24:=by omega
     have c3':(y.length:Int) > 24:=by omega
     simp only [c3,c2',c3',or_true,evz,Nat.reduceLT,enc_EquationResult,slc_nil]
   have c2':¬ (x.length:Int) > 24:=by omega
   have c3':¬ (y.length:Int) > 24:=by omega
   have hpl:=(spec_l4Plain x y (by omega) (by omega)).eq
   simp only [c2,c3,c2',c3',or_self,evz,Nat.reduceLT,hpl]
   by_cases c4:(seenE ⟨x,y⟩).length≤6
   · have c4':¬ 6 < (seenE ⟨x,y⟩).length:=by omega
     simp only [c4,c4',evz,Nat.reduceLT,Bool.not_true,enc_EquationResult]
   · have c4':6 < (seenE ⟨x,y⟩).length:=by omega
     simp only [c4,c4',evz,Nat.reduceLT,Bool.not_false,enc_EquationResult,slc_nil]
end
noncomputable def peakOfR (s:Signature) (o i:Equation) (p:Int):EquationResult :=
 if rulesFault s [o,i]≠0 then ⟨rulesFault s [o,i],⟨[],[]⟩⟩ else if inR p 0 (o.left.length - 1)=false then ⟨3,⟨[],[]⟩⟩ else if o.left.getD p.toNat 0 < 0 then ⟨1,⟨[],[]⟩⟩ else peakR s.symbols o i p.toNat
theorem pair_sm {o i:Equation} (ho:sm 1048576 o) (hi:sm 1048576 i):sm 4294967296 [o,i]:=⟨by simp,fun x hx=>by
 rcases List.mem_cons.1 hx with rfl | hx
 · exact sm_mono (by omega) ho
 · rw [List.mem_singleton.1 hx]; exact sm_mono (by omega) hi⟩
theorem impl_PeakOf (s:Signature) (o i:Equation) (p:Int) (hs:sm 1048576 s) (ho:sm 1048576 o) (hi:sm 1048576 i):Call F.impl_PeakOf [.agg (enc s),.agg (enc o),.agg (enc i),.int .i64 p] (.agg (enc (peakOfR s o i p))):=by
 obtain ⟨l⟩:=s
 have hsl:l.length≤4294967296:=Nat.le_trans hs.1 (by omega)
 have hol:o.left.length≤1048576:=ho.1.1
 have hf:LIM F.impl_RulesFault [.agg [slc l],.sl 2 [slc o.left,slc o.right,slc i.left,slc i.right]]=some (.int .i64 (rulesFault ⟨l⟩ [o,i]),[]):=(impl_RulesFault l hsl [o,i] (pair_sm ho hi)).eq
 show Call F.impl_PeakOf [.agg [slc l],.agg [slc o.left,slc o.right],.agg [slc i.left,slc i.right],.int .i64 p] _
 refine call_of rfl 0 ((impl_PeakOf.ev _ _ _ _ _ _ _).trans ?_)
 simp only [evz,Nat.reduceLT,hf,peakOfR,wrap64 (x:=(o.left.length:Int) - 1) (by omega),(impl_within _ _ _).eq]
 by_cases h:rulesFault ⟨l⟩ [o,i]=0
 case neg=>simp only [h,evz,Nat.reduceLT,ne_eq,not_false_eq_true,enc_EquationResult,slc_nil]
 obtain ⟨_,ok,_,q2⟩:=rulesFault_ok h
 have q2o:=q2 o (by simp)
 have q2i:=q2 i (by simp)
 cases h1:inR p 0 (o.left.length - 1) with
 | false=>simp only [h,evz,Nat.reduceLT,ne_eq,not_true_eq_false,Bool.not_false,enc_EquationResult,slc_nil]
 | true =>
   have hp1:=inR_iff.1 h1
   obtain ⟨a,rfl⟩:∃ a:Nat,p=a:=⟨p.toNat,by omega⟩
   have ha:a < o.left.length:=by omega
   have hlk:o.left[a]?=some o.left[a]:=List.getElem?_eq_getElem ha
   have hd:o.left.getD a 0=o.left[a]:=getD_at ha
   have hpk:=(impl_peakOf ok q2o q2i ha).eq
   rw [enc_EquationResult] at hpk
   simp only [h,evz,Nat.reduceLT,ne_eq,not_true_eq_false,Bool.not_true,ha,hlk,enc_int,hd,reduceCtorEq,hpk]
   by_cases h3:o.left[a] < 0 <;> simp only [h3,evz,Nat.reduceLT,enc_EquationResult,slc_nil]
theorem spec_PeakOf (s:Signature) (o i:Equation) (p:Int) (hs:sm 1048576 s) (ho:sm 1048576 o) (hi:sm 1048576 i):Call F.spec_PeakOf [.agg (enc s),.agg (enc o),.agg (enc i),.int .i64 p] (.agg (enc (peakOfR s o i p))):=by
 obtain ⟨l⟩:=s
 have hsl:l.length≤4294967296:=Nat.le_trans hs.1 (by omega)
 have hol:o.left.length≤1048576:=ho.1.1
 have hf:LIM F.spec_RulesFault [.agg [slc l],.sl 2 [slc o.left,slc o.right,slc i.left,slc i.right]]=some (.int .i64 (rulesFault ⟨l⟩ [o,i]),[]):=(spec_RulesFault l hsl [o,i] (pair_sm ho hi)).eq
 have h2:Call F.spec_l9Two [.rref [slc l] 0,.rref [slc o.left,slc o.right] 0,.rref [slc i.left,slc i.right] 0] (.int .i64 (rulesFault ⟨l⟩ [o,i])):=by
  refine call_of rfl 0 ((spec_l9Two.ev _ _ _ _ _ _).trans ?_)
  simp only [evz,Nat.reduceLT,hf]
 show Call F.spec_PeakOf [.agg [slc l],.agg [slc o.left,slc o.right],.agg [slc i.left,slc i.right],.int .i64 p] _
 refine call_of rfl 0 ((spec_PeakOf.ev _ _ _ _ _ _ _).trans ?_)
 simp only [evz,Nat.reduceLT,h2.eq,peakOfR,(spec_l3Place o.left p (by omega)).eq]
 by_cases h:rulesFault ⟨l⟩ [o,i]=0
 case neg=>simp only [h,evz,Nat.reduceLT,ne_eq,not_false_eq_true,enc_EquationResult,slc_nil]
 obtain ⟨_,ok,_,q2⟩:=rulesFault_ok h
 have q2o:=q2 o (by simp)
 have q2i:=q2 i (by simp)
 cases h1:inR p 0 (o.left.length - 1) with
 | false=>simp only [h,evz,Nat.reduceLT,ne_eq,not_true_eq_false,Bool.not_false,enc_EquationResult,slc_nil]
 | true =>
   have hp1:=inR_iff.1 h1
   obtain ⟨a,rfl⟩:∃ a:Nat,p=a:=⟨p.toNat,by omega⟩
   have ha:a < o.left.length:=by omega
   have hlk:o.left[a]?=some o.left[a]:=List.getElem?_eq_getElem ha
   have hd:o.left.getD a 0=o.left[a]:=getD_at ha
   have hpk:=(spec_l9Peak ok q2o q2i ha).eq
   simp only [h,evz,Nat.reduceLT,ne_eq,not_true_eq_false,Bool.not_true,ha,hlk,enc_int,hd,reduceCtorEq,hpk]
   by_cases h3:o.left[a] < 0 <;> simp only [h3,evz,Nat.reduceLT,enc_EquationResult,slc_nil]
end Ev.Ty
end
section
namespace Ev.Ty
open Go Ev
open Enc (enc)
open Sm (sm)
set_option linter.unusedSimpArgs false
set_option linter.unusedVariables false
section
variable {l:List Symbol} (ok:SigOk ⟨l⟩)
include ok
end
end Ev.Ty
end
section
namespace Ev.Ty
open Go Ev
open Enc (enc)
open Sm (sm)
set_option linter.unusedSimpArgs false
set_option linter.unusedVariables false
section
variable {l:List Symbol} (ok:SigOk ⟨l⟩) {rs:List Equation} (hr:∀ e∈rs,EqOk l e) (hl:rs.length≤12)
include ok hr hl
end
end Ev.Ty
end
section
namespace Ev.Ty
open Go Ev
open Enc (enc)
open Sm (sm)
set_option linter.unusedSimpArgs false
set_option linter.unusedVariables false
section
variable {l:List Symbol} {rs:List Equation} (hrf:rulesFault ⟨l⟩ rs=0) (hls:sm 1048576 (Signature.mk l)) (hrs:sm 1048576 rs) {fuel:Nat} (hf:fuel≤200)
include hrf hls hrs hf
end
end Ev.Ty
end
section
namespace Ev.Ty
open Go Ev
open Enc (enc)
open Sm (sm)
set_option linter.unusedSimpArgs false
set_option linter.unusedVariables false
section
variable {l:List Symbol} {z:Nat} {tb:List (List Int)} (al:AlgOk l z tb)
include al
end
end Ev.Ty
end
section
namespace Ev.Ty
open Go Ev
open Enc (enc)
open Sm (sm)
set_option linter.unusedSimpArgs false
set_option linter.unusedVariables false
section
variable (l:List Symbol) (z:Int) (tb:List (List Int)) (hs:l.length≤4294967296) (ht:sm 4294967296 tb)
include hs ht
end
end Ev.Ty
end
section
namespace Ev.Ty
open Go Ev
open Enc (enc)
open Sm (sm)
set_option linter.unusedSimpArgs false
set_option linter.unusedVariables false
theorem cells_int_scalar (l:List Int):(cells l).all T.scalar=true:=by
 rw [← intsT_cells,List.all_eq_true]
 intro x hx
 obtain ⟨n,_,rfl⟩:=List.mem_map.1 hx
 rfl
theorem spec_l1Ints (l:List Int) (h:l.length≤4294967296):Call F.spec_l1Ints [slc l] (slc l):=by
 refine call_of rfl 0 ((spec_l1Ints.ev _ _).trans ?_)
 have hb:Nat.ble ((0+(cells l).length)*8) (140737488355328*1)=true:=by
  rw [Nat.ble_eq,cells_length,sz_int]; omega
 rw [cells_int_scalar,hb]
 rfl
def eqOf (e:Entry):Equation:=⟨e.left,e.right⟩
theorem entry_eqn (e:Entry):Call F.impl_Entry_equation [.agg (enc e)] (.agg [slc e.left,slc e.right]):=call_of rfl 0 (impl_Entry_equation.ev _ _ _ _ _ _ _ _)
theorem spec_l11Equation (e:Entry) (h:sm 4294967296 e):Call F.spec_l11Equation [.rref (enc e) 0] (.agg [slc e.left,slc e.right]):=by
 refine call_of rfl 0 ((spec_l11Equation.ev _ _ _ _ _ _ _ _).trans ?_)
 simp only [evz,Nat.reduceLT,(spec_l1Ints e.left h.1.1).eq,(spec_l1Ints e.right h.2.1).eq]
section
variable (l:List Symbol) (z:Int) (tb:List (List Int)) (hs:l.length≤4294967296) (ht:sm 4294967296 tb)
include hs ht
end
end Ev.Ty
end
section
namespace Ev.Ty
open Go Ev
open Enc (enc)
open Sm (sm)
set_option linter.unusedSimpArgs false
set_option linter.unusedVariables false
def two (e:Entry):Bool:=decide (e.kind=4)||decide (e.kind=5)
def numsFault (eqn enn:Nat) (e:Entry):Int :=
 if inR e.kind 1 5=false then 1
 else if (two e=false∧(e.b≠0∨e.place≠0))∨(e.kind≠4∧e.side≠0) then 1
 else if inR e.a 0 ((if e.kind=1 then (eqn:Int) else enn) - 1)=false∨(two e=true∧inR e.b 0 (enn - 1)=false)∨inR e.side 0 1=false then 3 else 0
structure NumsOk (eqn enn:Nat) (e:Entry):Prop where
 kind:e.kind=1∨e.kind=2∨e.kind=3∨e.kind=4∨e.kind=5
 a0:0≤e.a
 given:e.kind=1→e.a.toNat < eqn
 other:e.kind≠1→e.a.toNat < enn
 b:e.kind=4∨e.kind=5→0≤e.b∧e.b.toNat < enn
 side:e.side=0∨(e.kind=4∧e.side=1)
 zero:e.kind≠4→e.kind≠5→e.b=0∧e.place=0
theorem numsOk {eqn enn:Nat} {e:Entry} (h:numsFault eqn enn e=0):NumsOk eqn enn e:=by
 unfold numsFault at h
 by_cases h1:inR e.kind 1 5=false
 · rw [if_pos h1] at h; cases h
 rw [if_neg h1] at h
 by_cases h2:(two e=false∧(e.b≠0∨e.place≠0))∨(e.kind≠4∧e.side≠0)
 · rw [if_pos h2] at h; cases h
 rw [if_neg h2] at h
 by_cases h3:inR e.a 0 ((if e.kind=1 then (eqn:Int) else enn) - 1)=false∨(two e=true∧inR e.b 0 (enn - 1)=false)∨inR e.side 0 1=false
 · rw [if_pos h3] at h; cases h
 have h1:=inR_iff.1 (by simpa using h1:inR e.kind 1 5=true)
 have h4:inR e.a 0 ((if e.kind=1 then (eqn:Int) else enn) - 1)=true:=by
  cases hx:inR e.a 0 ((if e.kind=1 then (eqn:Int) else enn) - 1) with
  | true=>rfl
  | false=>exact absurd (Or.inl hx) h3
 have h5:inR e.side 0 1=true:=by
  cases hx:inR e.side 0 1 with
  | true=>rfl
  | false=>exact absurd (Or.inr (Or.inr hx)) h3
 have h4:=inR_iff.1 h4
 have h5:=inR_iff.1 h5
 refine ⟨by omega,by omega,fun hk => ?_,fun hk => ?_,fun hk => ?_,?_,fun q1 q2 => ?_⟩
 · rw [if_pos hk] at h4; omega
 · rw [if_neg hk] at h4; omega
 · have ht:two e=true:=by unfold two; rcases hk with hk | hk <;> simp [hk]
   have:inR e.b 0 (enn - 1)=true:=by
    cases hx:inR e.b 0 ((enn:Int) - 1) with
    | true=>rfl
    | false=>exact absurd (Or.inr (Or.inl ⟨ht,hx⟩)) h3
   have:=inR_iff.1 this
   omega
 · by_cases hk:e.kind=4
   · omega
   · left
     by_cases hs:e.side=0
     · exact hs
     · exact absurd (Or.inr ⟨hk,hs⟩) h2
 · have ht:two e=false:=by unfold two; simp [q1,q2]
   by_cases hb:e.b=0
   · by_cases hp:e.place=0
     · exact ⟨hb,hp⟩
     · exact absurd (Or.inl ⟨ht,Or.inr hp⟩) h2
   · exact absurd (Or.inl ⟨ht,Or.inl hb⟩) h2
noncomputable def derR (l:List Symbol) (eqs:List Equation) (ents:List Entry) (e:Entry):EquationResult :=
 if numsFault eqs.length ents.length e≠0 then ⟨numsFault eqs.length ents.length e,⟨[],[]⟩⟩
 else if e.kind=1 then ⟨0,eqs.getD e.a.toNat ⟨[],[]⟩⟩
 else if e.kind=2 then ⟨0,⟨(ents.getD e.a.toNat ⟨0,0,0,0,0,[],[]⟩).right,(ents.getD e.a.toNat ⟨0,0,0,0,0,[],[]⟩).left⟩⟩
 else if e.kind=3 then ⟨0,plainE (eqOf (ents.getD e.a.toNat ⟨0,0,0,0,0,[],[]⟩))⟩
 else if e.kind=5 then peakOfR ⟨l⟩ (eqOf (ents.getD e.a.toNat ⟨0,0,0,0,0,[],[]⟩)) (eqOf (ents.getD e.b.toNat ⟨0,0,0,0,0,[],[]⟩)) e.place
 else if e.side=0 then
  ⟨(rewriteAtR ⟨l⟩ [eqOf (ents.getD e.b.toNat ⟨0,0,0,0,0,[],[]⟩)] 0 e.place (ents.getD e.a.toNat ⟨0,0,0,0,0,[],[]⟩).left).code,
   ⟨(rewriteAtR ⟨l⟩ [eqOf (ents.getD e.b.toNat ⟨0,0,0,0,0,[],[]⟩)] 0 e.place (ents.getD e.a.toNat ⟨0,0,0,0,0,[],[]⟩).left).term,(ents.getD e.a.toNat ⟨0,0,0,0,0,[],[]⟩).right⟩⟩
 else
  ⟨(rewriteAtR ⟨l⟩ [eqOf (ents.getD e.b.toNat ⟨0,0,0,0,0,[],[]⟩)] 0 e.place (ents.getD e.a.toNat ⟨0,0,0,0,0,[],[]⟩).right).code,
   ⟨(ents.getD e.a.toNat ⟨0,0,0,0,0,[],[]⟩).left,(rewriteAtR ⟨l⟩ [eqOf (ents.getD e.b.toNat ⟨0,0,0,0,0,[],[]⟩)] 0 e.place (ents.getD e.a.toNat ⟨0,0,0,0,0,[],[]⟩).right).term⟩⟩
theorem getN {es:List Entry} {k:Nat} (h:k < es.length):es.getD k ⟨0,0,0,0,0,[],[]⟩=es[k]:=by rw [List.getD_eq_getElem?_getD,List.getElem?_eq_getElem h]; rfl
theorem pstep_mem {seen:List Int} {n m:Int} (h:m∈(pstep seen n).2):m∈seen∨(m=n∧n < 0):=by
 unfold pstep at h
 split at h
 · exact .inl h
 split at h
 · rcases List.mem_append.1 h with h | h
   · exact .inl h
   · exact .inr ⟨List.mem_singleton.1 h,by omega⟩
 · exact .inl h
theorem pstep_nodup {seen:List Int} {n:Int} (h:seen.Nodup):(pstep seen n).2.Nodup:=by
 unfold pstep
 split
 · exact h
 split
 · rename_i h1
   rw [idx_neg_iff] at h1
   rw [List.nodup_append]
   exact ⟨h,by simp,fun a ha b hb=>by rw [List.mem_singleton.1 hb]; exact fun e=>h1 (e ▸ ha)⟩
 · exact h
theorem plainL_seen:∀ (t seen:List Int),seen.Nodup→(∀ m∈seen,-6≤m∧m < 0)→(∀ n∈t,-6≤n)→(plainL seen t).2.Nodup∧∀ m∈(plainL seen t).2,-6≤m∧m < 0
 | [],seen,h1,h2,_=>⟨h1,h2⟩
 | n::t,seen,h1,h2,h3=>by
   rw [plainL]
   refine plainL_seen t _ (pstep_nodup h1) (fun m hm => ?_) (fun m hm=>h3 m (List.mem_cons_of_mem _ hm))
   rcases pstep_mem hm with h | ⟨rfl,h⟩
   · exact h2 m h
   · exact ⟨h3 m (by simp),h⟩
theorem nodup_sub:∀ {s t:List Int},s.Nodup→s ⊆ t→s.length≤t.length
 | [],t,_,_=>Nat.zero_le _
 | x::s,t,h,hs=>by
   have hx:x∈t:=hs (by simp)
   rw [List.nodup_cons] at h
   have h1:s ⊆ t.erase x:=fun y hy=>by
    refine (List.mem_erase_of_ne (fun (e:y=x)=>h.1 (by rw [← e]; exact hy))).2 (hs (List.mem_cons_of_mem _ hy))
   have h2:=nodup_sub h.2 h1
   rw [List.length_erase_of_mem hx] at h2
   have:=List.length_pos_of_mem hx
   rw [List.length_cons]
   omega
theorem six {s:List Int} (h1:s.Nodup) (h2:∀ m∈s,-6≤m∧m < 0):s.length≤6:=by
 have:s ⊆ [-6,-5,-4,-3,-2,-1]:=fun m hm=>by
  have:=h2 m hm
  simp only [List.mem_cons,List.not_mem_nil,or_false]
  omega
 exact nodup_sub h1 this
theorem seen_six {l:List Symbol} {e:Equation} (he:EqOk l e):(seenE e).length≤6:=by
 obtain ⟨h1,h2⟩:=plainL_seen e.left [] (by simp) (by simp) he.lowL
 obtain ⟨h3,h4⟩:=plainL_seen e.right _ h1 h2 he.lowR
 exact six h3 h4
end Ev.Ty
end
section
namespace Ev.Ty
open Go Ev
open Enc (enc)
open Sm (sm)
set_option linter.unusedSimpArgs false
set_option linter.unusedVariables false
theorem spec_l11Numbers {eqn enn:Nat} (h1:eqn≤4294967296) (h2:enn≤4294967296) (e:Entry):Call F.spec_l11Numbers [.int .i64 eqn,.int .i64 enn,.rref (enc e) 0] (.int .i64 (numsFault eqn enn e)):=by
 obtain ⟨k,a,b,p,s,le,ri⟩:=e
 refine call_of rfl 0 ((spec_l11Numbers.ev _ _ _ _ _ _ _ _ _ _).trans ?_)
 simp only [evz,Nat.reduceLT,(spec_l1In _ _ _).eq,wrap64 (x:=(eqn:Int) - 1) (by omega),wrap64 (x:=(enn:Int) - 1) (by omega),numsFault,two]
 cases h0:inR k 1 5 with
 | false=>simp only [evz,Nat.reduceLT,Bool.not_false]
 | true =>
   simp only [evz,Nat.reduceLT,Bool.not_true,reduceCtorEq]
   by_cases k4:k=4
   · subst k4
     cases q1:inR a 0 (enn - 1) <;> cases q2:inR b 0 (enn - 1) <;> cases q3:inR s 0 1 <;> simp [evz,Nat.reduceLT,q1,q2,q3]
   by_cases k5:k=5
   · subst k5
     by_cases s0:s=0
     · subst s0
       cases q1:inR a 0 (enn - 1) <;> cases q2:inR b 0 (enn - 1) <;> cases q3:inR 0 0 1 <;> simp [evz,Nat.reduceLT,q1,q2,q3]
     · simp [evz,Nat.reduceLT,s0]
   by_cases b0:b=0
   case neg=>simp [evz,Nat.reduceLT,k4,k5,b0]
   by_cases p0:p=0
   case neg=>simp [evz,Nat.reduceLT,k4,k5,b0,p0]
   by_cases s0:s=0
   case neg=>simp [evz,Nat.reduceLT,k4,k5,b0,p0,s0]
   subst b0 p0 s0
   by_cases k1:k=1
   · subst k1
     cases q1:inR a 0 (eqn - 1) <;> cases q3:inR 0 0 1 <;> simp [evz,Nat.reduceLT,q1,q3]
   · cases q1:inR a 0 (enn - 1) <;> cases q3:inR 0 0 1 <;> simp [evz,Nat.reduceLT,k1,k4,k5,q1,q3]
theorem EqOk.small {l:List Symbol} {e:Equation} (h:EqOk l e):sm 1048576 e:=⟨⟨by have:=h.left.le; omega,fun _ _=>trivial⟩,⟨by have:=h.right.le; omega,fun _ _=>trivial⟩⟩
theorem one_small {e:Equation} (h:sm 1048576 e):sm 1048576 [e]:=⟨by simp,fun y hy=>by rw [List.mem_singleton.1 hy]; exact h⟩
theorem ent_small {l:List Symbol} {e:Entry} (h:EqOk l (eqOf e)):sm 4294967296 e:=⟨sm_mono (by omega) h.small.1,sm_mono (by omega) h.small.2⟩
def made (e:Entry) (r:EquationResult):Entry:=if r.code≠0 then ⟨0,0,0,0,0,[],[]⟩ else ⟨e.kind,e.a,e.b,e.place,e.side,r.equation.left,r.equation.right⟩
section
variable {l:List Symbol} (ok:SigOk ⟨l⟩) (hs:sm 1048576 (Signature.mk l)) {eqs:List Equation} {ents:List Entry} (hq:∀ x∈eqs,EqOk l x) (he:∀ x∈ents,EqOk l (eqOf x)) (hql:eqs.length≤12) (hel:ents.length≤500)
include ok hs hq he hql hel
theorem spec_l11Derive (e:Entry) :
 Call F.spec_l11Derive [.rref [slc l] 0,slc eqs,slc ents,.rref (enc e) 0] (.tup [.agg [slc (derR l eqs ents e).equation.left,slc (derR l eqs ents e).equation.right],.int .i64 (derR l eqs ents e).code]):=by
 have hn:=(spec_l11Numbers (eqn:=eqs.length) (enn:=ents.length) (by omega) (by omega) e).eq
 obtain ⟨k,a,b,p,s,le,ri⟩:=e
 rw [enc_Entry] at hn
 refine call_of rfl 0 ((spec_l11Derive.ev _ _ _ _ _ _ _ _ _ _ _).trans ?_)
 simp only [evz,Nat.reduceLT,hn,derR]
 by_cases h:numsFault eqs.length ents.length ⟨k,a,b,p,s,le,ri⟩=0
 case neg=>simp only [h,evz,Nat.reduceLT,ne_eq,not_false_eq_true,slc_nil]
 have nk:=numsOk h
 obtain ⟨n1,n2,n3,n4,n5,n6,n7⟩:=nk
 simp only at n1 n2 n3 n4 n5 n6 n7
 obtain ⟨a,rfl⟩:∃ a':Nat,a=a':=⟨a.toNat,by omega⟩
 simp only [h,evz,Nat.reduceLT,ne_eq,not_true_eq_false]
 by_cases k1:k=1
 · subst k1
   have ha:a < eqs.length:=by have:=n3 rfl; omega
   have hlk:eqs[a]?=some eqs[a]:=List.getElem?_eq_getElem ha
   have ho:=(hq _ (List.getElem_mem ha)).small
   have hc:Call F.spec_l4Copy [.rref [slc eqs[a].left,slc eqs[a].right] 0] (.agg [slc eqs[a].left,slc eqs[a].right]):=by
    refine call_of rfl 0 ((spec_l4Copy.ev _ _ _).trans ?_)
    simp only [evz,Nat.reduceLT,(spec_l1Ints eqs[a].left (by have:=ho.1.1; omega)).eq,(spec_l1Ints eqs[a].right (by have:=ho.2.1; omega)).eq]
   simp only [evz,Nat.reduceLT,ha,cells_window (k:=2) (i:=a) rfl hlk,enc_Equation,hc.eq,getE ha]
 have ha:a < ents.length:=by have:=n4 k1; omega
 have hla:ents[a]?=some ents[a]:=List.getElem?_eq_getElem ha
 have hea:=he _ (List.getElem_mem ha)
 simp only [evz,Nat.reduceLT,k1,ha,cells_window (k:=7) (i:=a) rfl hla,(spec_l11Equation ents[a] (ent_small hea)).eq,getN ha]
 by_cases k2:k=2
 · subst k2
   simp only [evz,Nat.reduceLT]
 by_cases k3:k=3
 · subst k3
   have hsx:=seen_six hea
   have:=hea.left.le
   have:=hea.right.le
   have hp:=(spec_l4Plain ents[a].left ents[a].right (by have:ents[a].left.length≤24:=hea.left.le; omega) (by have:ents[a].right.length≤24:=hea.right.le; omega)).eq
   have hsx':(seenE ⟨ents[a].left,ents[a].right⟩).length≤6:=hsx
   rw [if_pos hsx',if_pos hsx'] at hp
   simp only [evz,Nat.reduceLT,hp]
   rfl
 have k45:k=4∨k=5:=by omega
 obtain ⟨b0,b1⟩:=n5 k45
 obtain ⟨b,rfl⟩:∃ b':Nat,b=b':=⟨b.toNat,by omega⟩
 have hb:b < ents.length:=by omega
 have hlb:ents[b]?=some ents[b]:=List.getElem?_eq_getElem hb
 have heb:=he _ (List.getElem_mem hb)
 simp only [evz,Nat.reduceLT,k2,k3,hb,cells_window (k:=7) (i:=b) rfl hlb,(spec_l11Equation ents[b] (ent_small heb)).eq,getN hb]
 by_cases k5:k=5
 · subst k5
   have hp:LIM F.spec_PeakOf [.agg [slc l],.agg [slc ents[a].left,slc ents[a].right],.agg [slc ents[b].left,slc ents[b].right],.int .i64 p]=some (.agg (enc (peakOfR ⟨l⟩ (eqOf ents[a]) (eqOf ents[b]) p)),[]):=(spec_PeakOf ⟨l⟩ (eqOf ents[a]) (eqOf ents[b]) p hs hea.small heb.small).eq
   rw [enc_EquationResult] at hp
   simp only [evz,Nat.reduceLT,hp]
 simp only [evz,Nat.reduceLT,k5]
 by_cases s0:s=0
 · subst s0
   have hp:LIM F.spec_RewriteAt [.agg [slc l],.sl 2 [slc ents[b].left,slc ents[b].right],.int .i64 0,.int .i64 p,slc ents[a].left]=some (.agg (enc (rewriteAtR ⟨l⟩ [eqOf ents[b]] 0 p ents[a].left)),[]):=(spec_RewriteAt ⟨l⟩ [eqOf ents[b]] 0 p ents[a].left hs (one_small heb.small) hea.small.1).eq
   rw [enc_TermResult] at hp
   simp only [evz,Nat.reduceLT,hp]
 · have hp:LIM F.spec_RewriteAt [.agg [slc l],.sl 2 [slc ents[b].left,slc ents[b].right],.int .i64 0,.int .i64 p,slc ents[a].right]=some (.agg (enc (rewriteAtR ⟨l⟩ [eqOf ents[b]] 0 p ents[a].right)),[]):=(spec_RewriteAt ⟨l⟩ [eqOf ents[b]] 0 p ents[a].right hs (one_small heb.small) hea.small.2).eq
   rw [enc_TermResult] at hp
   simp only [evz,Nat.reduceLT,s0,hp]
theorem spec_l11Make (e:Entry) :
 Call F.spec_l11Make [.rref [slc l] 0,slc eqs,slc ents,.agg (enc e)] (.tup [.agg (enc (made e (derR l eqs ents e))),.int .i64 (derR l eqs ents e).code]):=by
 have hn:=(spec_l11Derive ok hs hq he hql hel e).eq
 rw [enc_Entry] at hn
 rw [enc_Entry]
 refine call_of rfl 0 ((spec_l11Make.ev _ _ _ _ _ _ _ _ _ _ _).trans ?_)
 simp only [evz,Nat.reduceLT,hn,made]
 by_cases h:(derR l eqs ents e).code=0
 · simp only [h,evz,Nat.reduceLT,ne_eq,not_true_eq_false,enc_Entry]
 · simp only [h,evz,Nat.reduceLT,ne_eq,not_false_eq_true,enc_Entry,slc_nil]
theorem derive5 (n:Nat) (k a b p s:Int) (le ri:List Int) (h:numsFault eqs.length ents.length ⟨k,a,b,p,s,le,ri⟩=0) :
 impl_derive.j5 n (cells eqs) (cells ents) (cells l) k a b p s (cells le) (cells ri) 0 0 0 0 0=some (.tup [.agg (enc (made ⟨k,a,b,p,s,le,ri⟩ (derR l eqs ents ⟨k,a,b,p,s,le,ri⟩))),.int .i64 (derR l eqs ents ⟨k,a,b,p,s,le,ri⟩).code],[]):=by
 have nk:=numsOk h
 obtain ⟨n1,n2,n3,n4,n5,n6,n7⟩:=nk
 simp only at n1 n2 n3 n4 n5 n6 n7
 obtain ⟨a,rfl⟩:∃ a':Nat,a=a':=⟨a.toNat,by omega⟩
 have ho:∀ x y:List Int,x.length≤4294967296→y.length≤4294967296→Call F.impl_ownEquation [.agg [slc x,slc y]] (.agg [slc x,slc y]):=fun x y h1 h2=>by
  refine call_of rfl 0 ((impl_ownEquation.ev _ _ _).trans ?_)
  simp only [evz,Nat.reduceLT,(slices_Clone_Sint64 x h1).eq,(slices_Clone_Sint64 y h2).eq]
 simp only [impl_derive.j5,impl_derive.j6,impl_derive.j7,made,derR,h,evz,Nat.reduceLT,ne_eq,not_true_eq_false]
 by_cases k1:k=1
 · subst k1
   have ha:a < eqs.length:=by have:=n3 rfl; omega
   have hlk:eqs[a]?=some eqs[a]:=List.getElem?_eq_getElem ha
   have hsm:=(hq _ (List.getElem_mem ha)).small
   have hc:=(ho eqs[a].left eqs[a].right (by have:=hsm.1.1; omega) (by have:=hsm.2.1; omega)).eq
   simp only [impl_derive.j8,evz,Nat.reduceLT,ha,hlk,enc_Equation,hc,getE ha,enc_Entry,not_true_eq_false]
 have ha:a < ents.length:=by have:=n4 k1; omega
 have hla:ents[a]?=some ents[a]:=List.getElem?_eq_getElem ha
 have hea:=he _ (List.getElem_mem ha)
 have hsa:=hea.small
 have la:ents[a].left.length≤24:=hea.left.le
 have lr:ents[a].right.length≤24:=hea.right.le
 have hee:=entry_eqn ents[a]
 rw [enc_Entry] at hee
 simp only [impl_derive.j9,evz,Nat.reduceLT,k1,getN ha]
 by_cases k2:k=2
 · subst k2
   have hc:=(ho ents[a].right ents[a].left (by omega) (by omega)).eq
   simp only [impl_derive.j10,evz,Nat.reduceLT,ha,hla,enc_Entry,hc,not_true_eq_false]
 simp only [impl_derive.j11,evz,Nat.reduceLT,k2]
 by_cases k3:k=3
 · subst k3
   have hp:=(impl_plain ents[a].left ents[a].right (by have:=hsa.1.1; have:ents[a].left.length≤24:=hea.left.le; omega) (by have:ents[a].right.length≤24:=hea.right.le; omega)).eq
   simp only [impl_derive.j12,evz,Nat.reduceLT,ha,hla,enc_Entry,hee.eq,hp,not_true_eq_false]
   rfl
 have k45:k=4∨k=5:=by omega
 obtain ⟨b0,b1⟩:=n5 k45
 obtain ⟨b,rfl⟩:∃ b':Nat,b=b':=⟨b.toNat,by omega⟩
 have hb:b < ents.length:=by omega
 have hlb:ents[b]?=some ents[b]:=List.getElem?_eq_getElem hb
 have heb:=he _ (List.getElem_mem hb)
 have hef:=entry_eqn ents[b]
 rw [enc_Entry] at hef
 simp only [impl_derive.j13,evz,Nat.reduceLT,k3,getN hb]
 by_cases k4:k=4
 · subst k4
   have hc:=(ho ents[a].left ents[a].right (by omega) (by omega)).eq
   simp only [impl_derive.j14,impl_derive.j15,impl_derive.j16,impl_derive.j17,impl_derive.j18,impl_derive.j19,evz,Nat.reduceLT,ha,hla,hb,hlb,enc_Entry,hee.eq,hef.eq,hc]
   rcases n6 with s0 | ⟨_,s1⟩
   · subst s0
     have hp:LIM F.impl_RewriteAt [.agg [slc l],.sl 2 [slc ents[b].left,slc ents[b].right],.int .i64 0,.int .i64 p,slc ents[a].left]=some (.agg (enc (rewriteAtR ⟨l⟩ [eqOf ents[b]] 0 p ents[a].left)),[]):=(impl_RewriteAt ⟨l⟩ [eqOf ents[b]] 0 p ents[a].left hs (one_small heb.small) hea.small.1).eq
     rw [enc_TermResult] at hp
     simp only [evz,Nat.reduceLT,hp]
     by_cases hcd:(rewriteAtR ⟨l⟩ [eqOf ents[b]] 0 p ents[a].left).code=0 <;> simp [evz,Nat.reduceLT,hcd,slc_nil]
   · subst s1
     have hp:LIM F.impl_RewriteAt [.agg [slc l],.sl 2 [slc ents[b].left,slc ents[b].right],.int .i64 0,.int .i64 p,slc ents[a].right]=some (.agg (enc (rewriteAtR ⟨l⟩ [eqOf ents[b]] 0 p ents[a].right)),[]):=(impl_RewriteAt ⟨l⟩ [eqOf ents[b]] 0 p ents[a].right hs (one_small heb.small) hea.small.2).eq
     rw [enc_TermResult] at hp
     simp only [evz,Nat.reduceLT,hp]
     by_cases hcd:(rewriteAtR ⟨l⟩ [eqOf ents[b]] 0 p ents[a].right).code=0 <;> simp [evz,Nat.reduceLT,hcd,slc_nil]
 have k5:k=5:=by omega
 subst k5
 have hp:LIM F.impl_PeakOf [.agg [slc l],.agg [slc ents[a].left,slc ents[a].right],.agg [slc ents[b].left,slc ents[b].right],.int .i64 p]=some (.agg (enc (peakOfR ⟨l⟩ (eqOf ents[a]) (eqOf ents[b]) p)),[]):=(impl_PeakOf ⟨l⟩ (eqOf ents[a]) (eqOf ents[b]) p hs hea.small heb.small).eq
 rw [enc_EquationResult] at hp
 simp only [impl_derive.j20,impl_derive.j21,evz,Nat.reduceLT,ha,hla,hb,hlb,enc_Entry,hee.eq,hef.eq,hp]
 by_cases hcd:(peakOfR ⟨l⟩ (eqOf ents[a]) (eqOf ents[b]) p).code=0 <;> simp [evz,Nat.reduceLT,hcd,slc_nil]
theorem impl_derive (e:Entry) :
 Call F.impl_derive [.agg [slc l],slc eqs,slc ents,.agg (enc e)] (.tup [.agg (enc (made e (derR l eqs ents e))),.int .i64 (derR l eqs ents e).code]):=by
 obtain ⟨k,a,b,p,s,le,ri⟩:=e
 rw [enc_Entry]
 refine call_of rfl 0 ((impl_derive.ev _ _ _ _ _ _ _ _ _ _ _).trans ?_)
 have good:=derive5 ok hs hq he hql hel 0 k a b p s le ri
 have bad:∀ c:Int,c≠0→numsFault eqs.length ents.length ⟨k,a,b,p,s,le,ri⟩=c →
  (some (.tup [.agg [.int .i64 0,.int .i64 0,.int .i64 0,.int .i64 0,.int .i64 0,.sl 1 [],.sl 1 []],.int .i64 c],[]):R)=some (.tup [.agg (enc (made ⟨k,a,b,p,s,le,ri⟩ (derR l eqs ents ⟨k,a,b,p,s,le,ri⟩))),.int .i64 (derR l eqs ents ⟨k,a,b,p,s,le,ri⟩).code],[]):=fun c hc h=>by
  have e1:derR l eqs ents ⟨k,a,b,p,s,le,ri⟩=⟨c,⟨[],[]⟩⟩:=by unfold derR; rw [h,if_pos hc]
  rw [e1]
  simp only [made,ne_eq,hc,not_false_eq_true,if_true,enc_Entry]
  rfl
 generalize (some (T.tup [.agg (enc (made ⟨k,a,b,p,s,le,ri⟩ (derR l eqs ents ⟨k,a,b,p,s,le,ri⟩))),.int .i64 (derR l eqs ents ⟨k,a,b,p,s,le,ri⟩).code],[]):R)=G at *
 simp only [evz,Nat.reduceLT,(impl_within _ _ _).eq]
 cases h0:inR k 1 5 with
 | false =>
   simp only [evz,Nat.reduceLT,Bool.not_false]
   have:=bad 1 (by decide) (by simp [numsFault,h0])
   by_cases k4:k=4 <;> simp only [evz,Nat.reduceLT,k4,this]
 | true =>
   simp only [evz,Nat.reduceLT,Bool.not_true,reduceCtorEq,impl_derive.j0,impl_derive.j1,impl_derive.j2,impl_derive.j3,impl_derive.j4,(impl_within _ _ _).eq,wrap64 (x:=(eqs.length:Int) - 1) (by omega),wrap64 (x:=(ents.length:Int) - 1) (by omega)]
   by_cases k4:k=4
   · subst k4
     cases q1:inR a 0 (ents.length - 1) with
     | false =>
       simp only [evz,Nat.reduceLT,q1,Bool.not_true,Bool.not_false]
       exact bad 3 (by decide) (by simp [numsFault,two,h0,q1])
     | true =>
       cases q2:inR b 0 (ents.length - 1) with
       | false =>
         simp only [evz,Nat.reduceLT,q1,q2,Bool.not_true,Bool.not_false]
         exact bad 3 (by decide) (by simp [numsFault,two,h0,q1,q2])
       | true =>
         cases q3:inR s 0 1 with
         | false =>
           simp only [evz,Nat.reduceLT,q1,q2,q3,Bool.not_true,Bool.not_false]
           exact bad 3 (by decide) (by simp [numsFault,two,h0,q1,q2,q3])
         | true =>
           simp only [evz,Nat.reduceLT,q1,q2,q3,Bool.not_true,Bool.not_false]
           exact good (by simp [numsFault,two,h0,q1,q2,q3,show inR 0 0 1=true from rfl])
   by_cases k5:k=5
   · subst k5
     by_cases s0:s=0
     · subst s0
       cases q1:inR a 0 (ents.length - 1) with
       | false =>
         simp only [evz,Nat.reduceLT,q1,Bool.not_true,Bool.not_false,show inR 0 0 1=true from rfl]
         exact bad 3 (by decide) (by simp [numsFault,two,h0,q1])
       | true =>
         cases q2:inR b 0 (ents.length - 1) with
         | false =>
           simp only [evz,Nat.reduceLT,q1,q2,Bool.not_true,Bool.not_false,show inR 0 0 1=true from rfl]
           exact bad 3 (by decide) (by simp [numsFault,two,h0,q1,q2])
         | true =>
           simp only [evz,Nat.reduceLT,q1,q2,Bool.not_true,Bool.not_false,show inR 0 0 1=true from rfl]
           exact good (by simp [numsFault,two,h0,q1,q2,show inR 0 0 1=true from rfl])
     · simp only [evz,Nat.reduceLT,s0]
       exact bad 1 (by decide) (by simp [numsFault,two,h0,s0])
   by_cases b0:b=0
   case neg =>
    simp only [evz,Nat.reduceLT,k4,k5,b0]
    exact bad 1 (by decide) (by simp [numsFault,two,h0,k4,k5,b0])
   by_cases p0:p=0
   case neg =>
    simp only [evz,Nat.reduceLT,k4,k5,b0,p0]
    exact bad 1 (by decide) (by simp [numsFault,two,h0,k4,k5,b0,p0])
   by_cases s0:s=0
   case neg =>
    simp only [evz,Nat.reduceLT,k4,k5,b0,p0,s0]
    exact bad 1 (by decide) (by simp [numsFault,two,h0,k4,k5,b0,p0,s0])
   subst b0 p0 s0
   by_cases k1:k=1
   · subst k1
     cases q1:inR a 0 (eqs.length - 1) with
     | false =>
       simp only [evz,Nat.reduceLT,q1,Bool.not_true,Bool.not_false,show inR 0 0 1=true from rfl]
       exact bad 3 (by decide) (by simp [numsFault,two,h0,q1])
     | true =>
       simp only [evz,Nat.reduceLT,q1,Bool.not_true,Bool.not_false,show inR 0 0 1=true from rfl]
       exact good (by simp [numsFault,two,h0,q1,show inR 0 0 1=true from rfl])
   · skip
     cases q1:inR a 0 (ents.length - 1) with
     | false =>
       simp only [evz,Nat.reduceLT,q1,Bool.not_true,Bool.not_false,k1,k4,k5,show inR 0 0 1=true from rfl]
       exact bad 3 (by decide) (by simp [numsFault,two,h0,k1,k4,k5,q1])
     | true =>
       simp only [evz,Nat.reduceLT,q1,Bool.not_true,Bool.not_false,k1,k4,k5,show inR 0 0 1=true from rfl]
       exact good (by simp [numsFault,two,h0,k1,k4,k5,q1,show inR 0 0 1=true from rfl])
end
section
variable {l:List Symbol} (ok:SigOk ⟨l⟩) (hs:sm 1048576 (Signature.mk l)) {eqs:List Equation} (hq:∀ x∈eqs,EqOk l x) (hql:eqs.length≤12) {ents:List Entry} (hel:ents.length≤500)
include ok hs hq hql hel
end
end Ev.Ty
end
section
namespace Ev.Ty
open Go Ev
open Enc (enc)
open Sm (sm)
set_option linter.unusedSimpArgs false
set_option linter.unusedVariables false
theorem orderFault_ok {l:List Symbol} {o:List Int} (h:orderFault ⟨l⟩ o=0):sigFault ⟨l⟩=0∧orderF l o=0:=by
 unfold orderFault at h
 split at h
 · rename_i h1; exact absurd h h1
 · rename_i h1; exact ⟨by simpa using h1,h⟩
end Ev.Ty
end
section
namespace Ev.Ty
open Go Ev
open Enc (enc)
open Sm (sm)
set_option linter.unusedSimpArgs false
set_option linter.unusedVariables false
def newEnt (eqs:List Equation) (i:Nat):Entry:=⟨1,i,0,0,0,(eqs.getD i ⟨[],[]⟩).left,(eqs.getD i ⟨[],[]⟩).right⟩
def newEnts (eqs:List Equation) (k:Nat):List Entry:=(List.range k).map (newEnt eqs)
def waits (k:Nat):List Int:=(List.range k).map fun (i:Nat)=>(i:Int)
theorem oSl_nil1:oSl 1 (.sl 1 [])=some []:=rfl
theorem newEnts_zero (eqs:List Equation):newEnts eqs 0=[]:=rfl
theorem waits_zero:waits 0=[]:=rfl
theorem newEnts_succ (eqs:List Equation) (k:Nat):newEnts eqs (k+1)=newEnts eqs k++[newEnt eqs k]:=by unfold newEnts; rw [List.range_succ,List.map_append]; rfl
theorem waits_succ (k:Nat):waits (k+1)=waits k++[(k:Int)]:=by unfold waits; rw [List.range_succ,List.map_append]; rfl
theorem newEnts_length (eqs:List Equation) (k:Nat):(newEnts eqs k).length=k:=by simp [newEnts]
theorem waits_length (k:Nat):(waits k).length=k:=by simp [waits]
theorem newEnts_ok {l:List Symbol} {eqs:List Equation} (hq:∀ x∈eqs,EqOk l x) {k:Nat} (hk:k≤eqs.length):∀ x∈newEnts eqs k,EqOk l (eqOf x):=fun x hx=>by
 obtain ⟨i,hi,rfl⟩:=List.mem_map.1 hx
 rw [List.mem_range] at hi
 show EqOk l ⟨(eqs.getD i ⟨[],[]⟩).left,(eqs.getD i ⟨[],[]⟩).right⟩
 rw [getE (by omega)]
 exact hq _ (List.getElem_mem _)
theorem derR_given (l:List Symbol) {eqs:List Equation} (ents:List Entry) {k:Nat} (hk:k < eqs.length):derR l eqs ents ⟨1,k,0,0,0,[],[]⟩=⟨0,eqs[k]⟩:=by
 have h:numsFault eqs.length ents.length ⟨1,k,0,0,0,[],[]⟩=0:=by
  have h1:inR (k:Int) 0 ((eqs.length:Int) - 1)=true:=inR_iff.2 (by omega)
  simp [numsFault,two,h1,show inR 1 1 5=true from rfl,show inR 0 0 1=true from rfl]
 unfold derR
 rw [if_neg (by simpa using h),if_pos rfl,Int.toNat_natCast,getE hk]
def newCompl (o:List Int) (eqs:List Equation):Completion:=⟨o,eqs,newEnts eqs eqs.length,[],waits eqs.length,0⟩
def newR (s:Signature) (o:List Int) (eqs:List Equation):CompletionResult :=
 if orderFault s o≠0 then ⟨orderFault s o,⟨[],[],[],[],[],0⟩⟩ else if eqsFault s.symbols eqs≠0 then ⟨eqsFault s.symbols eqs,⟨[],[],[],[],[],0⟩⟩ else ⟨0,newCompl o eqs⟩
theorem nil_sm {α:Type} [Sm α] (n:Nat):sm n ([]:List α):=⟨by simp,by simp⟩
theorem newR_sm (s:Signature) (o:List Int) (eqs:List Equation) (_:sm 1048576 s) (ho:sm 1048576 o) (hq:sm 1048576 eqs):sm 67108864 (newR s o eqs):=by
 unfold newR
 split
 · exact ⟨nil_sm _,nil_sm _,nil_sm _,nil_sm _,nil_sm _⟩
 split
 · exact ⟨nil_sm _,nil_sm _,nil_sm _,nil_sm _,nil_sm _⟩
 · rename_i h
   have ok:=eqsOk_iff.1 (Classical.not_not.1 h)
   refine ⟨sm_mono (by omega) ho,sm_mono (by omega) hq,⟨?_,fun x hx => ?_⟩,nil_sm _,⟨?_,fun _ _=>trivial⟩⟩
   · show (newEnts eqs eqs.length).length≤_
     rw [newEnts_length]; omega
   · have:=(newEnts_ok ok.2 (Nat.le_refl _) x hx).small
     exact ⟨sm_mono (by omega) this.1,sm_mono (by omega) this.2⟩
   · show (waits eqs.length).length≤_
     rw [waits_length]; omega
theorem spec_copies {eqs:List Equation} (hq:sm 1048576 eqs):Call F.spec_l4Copies [slc eqs] (slc eqs):=by
 have hl:eqs.length≤1048576:=hq.1
 refine call_of rfl (eqs.length+1) ((spec_l4Copies.ev _ _).trans ?_)
 have key:=run_loop (n:=eqs.length) (f:=eqs.length+1) (S:=fun m k (q:List Equation)=>spec_l4Copies.at0 (eqs.length+1) m (spec_l4Copies.st0 (cells eqs) (k:Nat) (cells q)))
  (st:=fun k=>eqs.take k) (z:=some (slc eqs,[])) (fun m k h => ?_) (fun m => ?_) (Nat.lt_succ_self _)
 · rw [List.take_zero] at key
   exact key
 · have hlk:eqs[k]?=some eqs[k]:=List.getElem?_eq_getElem h
   have hsm:=hq.2 _ (List.getElem_mem h)
   have hc:Call F.spec_l4Copy [.rref [slc eqs[k].left,slc eqs[k].right] 0] (.agg [slc eqs[k].left,slc eqs[k].right]):=by
    refine call_of rfl 0 ((spec_l4Copy.ev _ _ _).trans ?_)
    simp only [evz,Nat.reduceLT,(spec_l1Ints eqs[k].left (by have:=hsm.1.1; omega)).eq,(spec_l1Ints eqs[k].right (by have:=hsm.2.1; omega)).eq]
   have hst:cells (eqs.take (k+1))=cells (eqs.take k)++[slc eqs[k].left,slc eqs[k].right]:=by
    rw [List.take_add_one,hlk,cells_append]
    rfl
   have hlen:(eqs.take k).length≤1048576:=by rw [List.length_take]; omega
   simp only [spec_l4Copies.next0,spec_l4Copies.round0,evz,Nat.reduceLT,h,cells_window (k:=2) (i:=k) rfl hlk,enc_Equation,hc.eq]
   rw [cond_pos (ble_ok (by rw [cells_length,sz_Equation]; omega)),wrap_succ (by omega),hst]
 · simp only [spec_l4Copies.next0,spec_l4Copies.round0,evz,Nat.reduceLT,Nat.lt_irrefl,List.take_length]
theorem own_eq (x y:List Int) (h1:x.length≤4294967296) (h2:y.length≤4294967296):Call F.impl_ownEquation [.agg [slc x,slc y]] (.agg [slc x,slc y]):=by
 refine call_of rfl 0 ((impl_ownEquation.ev _ _ _).trans ?_)
 simp only [evz,Nat.reduceLT,(slices_Clone_Sint64 x h1).eq,(slices_Clone_Sint64 y h2).eq]
theorem impl_copies {eqs:List Equation} (hq:sm 1048576 eqs):Call F.impl_ownEquations [slc eqs] (slc eqs):=by
 have hl:eqs.length≤1048576:=hq.1
 refine call_of rfl (eqs.length+1) ((impl_ownEquations.ev _ _).trans ?_)
 simp only [evz,Nat.reduceLT]
 have key:=run_loop (n:=eqs.length) (f:=eqs.length+1) (S:=fun m k (q:List Equation)=>impl_ownEquations.at0 (eqs.length+1) m (impl_ownEquations.st0 (cells eqs) eqs.length (k:Nat) (cells q)))
  (st:=fun k=>eqs.take k) (z:=some (slc eqs,[])) (fun m k h => ?_) (fun m => ?_) (Nat.lt_succ_self _)
 · rw [List.take_zero] at key
   exact key
 · have hlk:eqs[k]?=some eqs[k]:=List.getElem?_eq_getElem h
   have hsm:=hq.2 _ (List.getElem_mem h)
   have hc:=own_eq eqs[k].left eqs[k].right (by have:=hsm.1.1; omega) (by have:=hsm.2.1; omega)
   have hst:cells (eqs.take (k+1))=cells (eqs.take k)++[slc eqs[k].left,slc eqs[k].right]:=by
    rw [List.take_add_one,hlk,cells_append]
    rfl
   have hlen:(eqs.take k).length≤1048576:=by rw [List.length_take]; omega
   simp only [impl_ownEquations.next0,impl_ownEquations.round0,evz,Nat.reduceLT,h,hlk,enc_Equation,hc.eq]
   rw [cond_pos (ble_ok (by rw [cells_length,sz_Equation]; omega)),wrap_succ (by omega),hst]
 · simp only [impl_ownEquations.next0,impl_ownEquations.round0,evz,Nat.reduceLT,Nat.lt_irrefl,List.take_length]
theorem cells_newEnts {eqs:List Equation} {k:Nat} (h:k < eqs.length):cells (newEnts eqs (k+1))=cells (newEnts eqs k)++[.int .i64 1,.int .i64 k,.int .i64 0,.int .i64 0,.int .i64 0,slc eqs[k].left,slc eqs[k].right]:=by
 rw [newEnts_succ,cells_append]
 have:cells [newEnt eqs k]=enc (newEnt eqs k):=enc_cells_one _
 rw [this,enc_Entry]
 unfold newEnt
 simp only [getE h]
theorem cells_waits (k:Nat):cells (waits (k+1))=cells (waits k)++[.int .i64 k]:=by rw [waits_succ,cells_snoc_int]
section
variable {l:List Symbol} (ok:SigOk ⟨l⟩) (hs:sm 1048576 (Signature.mk l)) {eqs:List Equation} (hqs:sm 1048576 eqs) (hq:∀ x∈eqs,EqOk l x) (hql:eqs.length≤12) {o:List Int} (ho:sm 1048576 o)
include ok hs hqs hq hql ho
theorem spec_l12New:Call F.spec_l12New [.rref [slc l] 0,slc o,slc eqs] (.agg (enc (newCompl o eqs))):=by
 have hol:=ho.1
 refine call_of rfl (eqs.length+1) ((spec_l12New.ev _ _ _ _).trans ?_)
 simp only [evz,Nat.reduceLT,(spec_l1Ints o (by omega)).eq,(spec_copies hqs).eq]
 have key:=run_loop (n:=eqs.length) (f:=eqs.length+1) (S:=fun m k (q:List Entry × List Int)=>spec_l12New.at0 (eqs.length+1) m (spec_l12New.st0 (cells l) (cells eqs) (k:Nat) 0 (cells o) (cells eqs) 0 (cells q.1) (cells q.2)))
  (st:=fun k=>(newEnts eqs k,waits k)) (z:=some (.agg (enc (newCompl o eqs)),[])) (fun m k h => ?_) (fun m => ?_) (Nat.lt_succ_self _)
 · simp only [newEnts_zero,waits_zero,cells_nil] at key
   exact key
 · have hm:=(spec_l11Make ok hs hq (ents:=[]) (by simp) hql (by simp) ⟨1,k,0,0,0,[],[]⟩).eq
   rw [derR_given l [] h,enc_Entry,enc_Entry] at hm
   simp only [slc_nil,sz_int,sz_Entry,made,ne_eq,not_true_eq_false,if_false] at hm
   have h1:=newEnts_length eqs k
   have h2:=waits_length k
   simp only [spec_l12New.next0,spec_l12New.round0,evz,Nat.reduceLT,h,hm]
   rw [cond_pos (ble_ok (by rw [cells_length,sz_Entry]; omega)),cond_pos (ble_ok (by rw [cells_length,sz_int]; omega)),wrap_succ (by omega),cells_newEnts h,cells_waits]
 · simp only [spec_l12New.next0,spec_l12New.round0,evz,Nat.reduceLT,Nat.lt_irrefl,newCompl,enc_Completion,slc_nil,sz_int]
theorem impl_add {k:Nat} (h:k < eqs.length):LIM F.impl_completer_add [.rref [slc l,slc o,slc eqs,slc (newEnts eqs k),.sl 1 [],slc (waits k),.int .i64 0,.int .i64 0] 0,.agg [.int .i64 1,.int .i64 k,.int .i64 0,.int .i64 0,.int .i64 0,.sl 1 [],.sl 1 []]]
 = some (.int .i64 k,[.agg [slc l,slc o,slc eqs,slc (newEnts eqs (k+1)),.sl 1 [],slc (waits k),.int .i64 0,.int .i64 0]]):=by
 have hm:=(impl_derive ok hs hq (newEnts_ok hq (Nat.le_of_lt h)) hql (by rw [newEnts_length]; omega) ⟨1,k,0,0,0,[],[]⟩).eq
 rw [derR_given l _ h,enc_Entry,enc_Entry] at hm
 simp only [slc_nil,sz_int,made,ne_eq,not_true_eq_false,if_false] at hm
 have h1:=newEnts_length eqs k
 have h3:=newEnts_length eqs (k+1)
 refine lim_of rfl 0 ((impl_completer_add.ev _ _ _ _ _ _ _ _ _ _ _ _ _ _ _ _).trans ?_)
 simp only [evz,Nat.reduceLT,hm,ne_eq,not_true_eq_false]
 have h5:¬ ((newEnts eqs k).length:Int)=500:=by omega
 simp only [h5,evz,Nat.reduceLT]
 rw [cond_pos (ble_ok (by rw [cells_length,sz_Entry]; omega)),← cells_newEnts h,cells_div sz_Entry,h3,wrap64 (by omega)]
 congr 3
 omega
theorem impl_wait {k:Nat} (h:k < eqs.length):LIM F.impl_completer_wait [.rref [slc l,slc o,slc eqs,slc (newEnts eqs (k+1)),.sl 1 [],slc (waits k),.int .i64 0,.int .i64 0] 0,.int .i64 k]
 = some (.tup [],[.agg [slc l,slc o,slc eqs,slc (newEnts eqs (k+1)),.sl 1 [],slc (waits (k+1)),.int .i64 0,.int .i64 0]]):=by
 have h1:=waits_length k
 refine lim_of rfl 0 ((impl_completer_wait.ev _ _ _ _ _ _ _ _ _ _).trans ?_)
 have h5:¬ ((waits k).length:Int)=100:=by omega
 simp only [evz,Nat.reduceLT,h5,ne_eq,not_true_eq_false]
 rw [cond_pos (ble_ok (by rw [cells_length,sz_int]; omega)),← cells_waits]
 rfl
theorem impl_new {N:Nat}:∀ n k f,k+n=eqs.length→n < f→impl_NewCompletion.at0 N f (impl_NewCompletion.st0 eqs.length (k:Nat) 0 0 (cells o) (cells eqs) (cells l) 0 0 (cells (newEnts eqs k)) [] (cells (waits k)))=some (.agg (enc (CompletionResult.mk 0 (newCompl o eqs))),[])
 | n,k,0,hk,hf=>by omega
 | 0,k,f+1,hk,hf=>by
   have:k=eqs.length:=by omega
   subst this
   simp only [impl_NewCompletion.next0,impl_NewCompletion.round0,evz,Nat.reduceLT,Nat.lt_irrefl,newCompl,enc_CompletionResult,slc_nil,sz_int]
 | n+1,k,f+1,hk,hf=>by
   have hlt:k < eqs.length:=by omega
   have ha:=impl_add ok hs hqs hq hql ho hlt
   have hw:=impl_wait ok hs hqs hq hql ho hlt
   simp only [impl_NewCompletion.next0,impl_NewCompletion.round0,evz,Nat.reduceLT,hlt,ha,hw,oSl_nil1]
   rw [wrap_succ (by omega)]
   exact impl_new n (k+1) f (by omega) (by omega)
end
theorem spec_NewCompletion (s:Signature) (o:List Int) (eqs:List Equation) (hs:sm 1048576 s) (ho:sm 1048576 o) (hq:sm 1048576 eqs):Call F.spec_NewCompletion [.agg (enc s),slc o,slc eqs] (.agg (enc (newR s o eqs))):=by
 obtain ⟨l⟩:=s
 have hsl:l.length≤4294967296:=Nat.le_trans hs.1 (by omega)
 have hol:o.length≤4294967296:=Nat.le_trans ho.1 (by omega)
 show Call F.spec_NewCompletion [.agg [slc l],slc o,slc eqs] _
 refine call_of rfl 0 ((spec_NewCompletion.ev _ _ _ _).trans ?_)
 simp only [evz,Nat.reduceLT,(spec_OrderFault l hsl o hol).eq,newR]
 by_cases h1:orderFault ⟨l⟩ o=0
 case neg=>simp only [h1,evz,Nat.reduceLT,ne_eq,not_false_eq_true,enc_CompletionResult,slc_nil,sz_int,sz_Equation,sz_Entry]
 obtain ⟨hsf,hof⟩:=orderFault_ok h1
 have ok:=(sigOk_iff _).1 hsf
 simp only [h1,evz,Nat.reduceLT,ne_eq,not_true_eq_false,(spec_l5Fault l ok eqs (sm_mono (by omega) hq)).eq]
 by_cases h2:eqsFault l eqs=0
 case neg=>simp only [h2,evz,Nat.reduceLT,ne_eq,not_false_eq_true,enc_CompletionResult,slc_nil,sz_int,sz_Equation,sz_Entry]
 obtain ⟨q1,q2⟩:=eqsOk_iff.1 h2
 have hn:=(spec_l12New ok hs hq q2 q1 ho).eq
 rw [enc_Completion] at hn
 simp only [h2,evz,Nat.reduceLT,ne_eq,not_true_eq_false,hn,enc_CompletionResult]
theorem impl_NewCompletion (s:Signature) (o:List Int) (eqs:List Equation) (hs:sm 1048576 s) (ho:sm 1048576 o) (hq:sm 1048576 eqs):Call F.impl_NewCompletion [.agg (enc s),slc o,slc eqs] (.agg (enc (newR s o eqs))):=by
 obtain ⟨l⟩:=s
 have hsl:l.length≤4294967296:=Nat.le_trans hs.1 (by omega)
 have hol:o.length≤4294967296:=Nat.le_trans ho.1 (by omega)
 show Call F.impl_NewCompletion [.agg [slc l],slc o,slc eqs] _
 refine call_of rfl 20 ((impl_NewCompletion.ev _ _ _ _).trans ?_)
 simp only [evz,Nat.reduceLT,(impl_OrderFault l hsl o hol).eq,(impl_EquationsFault l hsl eqs (sm_mono (by omega) hq)).eq,(firstCode2 _ _).eq,newR]
 by_cases h1:orderFault ⟨l⟩ o=0
 case neg=>simp only [h1,evz,Nat.reduceLT,ne_eq,not_false_eq_true,enc_CompletionResult,slc_nil,sz_int,sz_Equation,sz_Entry]
 obtain ⟨hsf,hof⟩:=orderFault_ok h1
 have ok:=(sigOk_iff _).1 hsf
 by_cases h2:eqsFault l eqs=0
 case neg=>simp only [h1,h2,hsf,evz,Nat.reduceLT,ne_eq,not_false_eq_true,not_true_eq_false,enc_CompletionResult,slc_nil,sz_int,sz_Equation,sz_Entry]
 obtain ⟨q1,q2⟩:=eqsOk_iff.1 h2
 simp only [h1,h2,hsf,evz,Nat.reduceLT,ne_eq,not_true_eq_false,(slices_Clone_Sint64 o hol).eq,(impl_copies hq).eq]
 exact impl_new ok hs hq q2 q1 ho eqs.length 0 20 (by omega) (by omega)
end Ev.Ty
end
section
namespace Ev.Ty
open Go Ev
open Enc (enc)
open Sm (sm)
set_option linter.unusedSimpArgs false
set_option linter.unusedVariables false
set_option maxRecDepth 100000
set_option maxHeartbeats 2000000
theorem laws_FnExactNewCompletion (s:Signature) (o:List Int) (eqs:List Equation) (h_s:sm maxLen s) (h_o:sm maxLen o) (h_eqs:sm maxLen eqs):Call F.laws_FnExactNewCompletion [.agg (enc s),slc o,slc eqs] (.bool true):=by
 by_cases n0:(o.length:Int) > 1048576
 · exact call_of rfl 0 ((laws_FnExactNewCompletion.ev _ _ _ _ ).trans (by simp only [evz,Nat.reduceLT,n0]))
 have p0:True→sm 1048576 o:=fun _=>⟨by omega,fun _ _=>trivial⟩
 obtain ⟨r1,c1,g1,p1⟩:=laws_szSignature s.symbols 1048576 (by omega) (by omega) h_s
 by_cases n1:r1 < 0
 · exact call_of rfl 0 ((laws_FnExactNewCompletion.ev _ _ _ _ ).trans (by simp only [evz,Nat.reduceLT,n0,c1.eq,n1]))
 obtain ⟨r2,c2,g2,p2⟩:=laws_szEquationS eqs r1 (by omega) (by omega) h_eqs
 by_cases n2:r2 < 0
 · exact call_of rfl 0 ((laws_FnExactNewCompletion.ev _ _ _ _ ).trans (by simp only [evz,Nat.reduceLT,n0,c1.eq,n1,c2.eq,n2]))
 have q_o:=p0 trivial
 have s_o:=sm_mono (show 1048576≤4294967296 by omega) q_o
 have m_o:=sm_mono (show 1048576≤67108864 by omega) q_o
 have q_s:=p1 (by omega)
 have s_s:=sm_mono (show 1048576≤4294967296 by omega) q_s
 have m_s:=sm_mono (show 1048576≤67108864 by omega) q_s
 have q_eqs:=p2 (by omega)
 have s_eqs:=sm_mono (show 1048576≤4294967296 by omega) q_eqs
 have m_eqs:=sm_mono (show 1048576≤67108864 by omega) q_eqs
 have hi:Call F.impl_NewCompletion [.agg [slc s.symbols],slc o,slc eqs] (.agg (enc (newR s o eqs))):=impl_NewCompletion s o eqs q_s q_o q_eqs
 have hp:Call F.spec_NewCompletion [.agg [slc s.symbols],slc o,slc eqs] (.agg (enc (newR s o eqs))):=spec_NewCompletion s o eqs q_s q_o q_eqs
 have hv:=newR_sm s o eqs q_s q_o q_eqs
 generalize newR s o eqs=r at hi hp hv
 obtain ⟨w_code,⟨w_completion_order,w_completion_equations,w_completion_entries,w_completion_rules,w_completion_waiting,w_completion_rounds⟩⟩:=r
 have hv2:=sm_mono (show 67108864≤4294967296 by omega) hv
 obtain ⟨x0_0,k0,f0,a0,b0⟩:=laws_markSignature s.symbols 1 (by omega) (by omega) m_s
 have l0:¬ k0 < 0:=by omega
 obtain ⟨x1_0,k1,f1,a1,b1,z1⟩:=laws_markInt64S o k0 (by omega) (by omega) m_o
 have l1:¬ k1 < 0:=by omega
 obtain ⟨x2_0,k2,f2,a2,b2,z2⟩:=laws_markEquationS eqs k1 (by omega) (by omega) m_eqs
 have l2:¬ k2 < 0:=by omega
 obtain ⟨y0,y1,y2,y3,y4,kr,fr,ar,br,zr⟩:=laws_markCompletionResult w_code w_completion_order w_completion_equations w_completion_entries w_completion_rules w_completion_waiting w_completion_rounds 1 (by omega) (by omega) hv
 have lr:¬ kr < 0:=by omega
 exact call_of rfl 0 ((laws_FnExactNewCompletion.ev _ _ _ _ ).trans (by simp only [evz,Nat.reduceLT,n0,c1.eq,n1,c2.eq,n2,hi.eq,hp.eq,(laws_toInt64S o s_o).eq,(laws_eqInt64S o _  s_o).eq,(laws_toSignature s.symbols s_s).eq,(laws_eqSignature s.symbols _  s_s).eq,(laws_toEquationS eqs s_eqs).eq,(laws_eqEquationS eqs _  s_eqs).eq,(laws_eqCompletionResult w_code w_completion_order w_completion_equations w_completion_entries w_completion_rules w_completion_waiting w_completion_rounds _ _ _ _ _ _ _  hv2).eq,f0,l0,f1,l1,f2,l2,fr,zr,lr,enc_CompletionResult,decide_true,Bool.not_true,cond_false]))
end Ev.Ty
end
