/- Steps on the way to RowOriented: TyConfl, TyStabP, TyLOriented. -/
import Derived.Test.YtggppocodooafaaGreatDoorM4
set_option linter.unusedSectionVars false
set_option linter.unusedVariables false
set_option linter.unusedSimpArgs false
section
namespace Ev.Ty
open Go Ev
open Enc (enc)
open Sm (sm)
set_option linter.unusedSimpArgs false
set_option linter.unusedVariables false
theorem startsN_cover {l:List Symbol} {t:List Int}:∀ {n q:Nat} {r:List Int},skip (ar l) n (t.drop q)=some r→(∀ m,q≤m→m < t.length - r.length→∃ s∈startsN l t n q,s≤m∧m < endAt l t s)∧∀ s∈startsN l t n q,q≤s∧endAt l t s≤t.length - r.length
 | 0,q,r,h=>by
   rw [skip_zero] at h
   have:=Option.some.inj h
   subst this
   refine ⟨fun m h1 h2 => ?_,fun s hs=>by simp [startsN] at hs⟩
   simp at h2; omega
 | n+1,q,r,h=>by
   obtain ⟨h1,h2,h3,h4⟩:=skip_one h
   obtain ⟨i1,i2⟩:=startsN_cover h2
   have hr:=skip_at h2
   refine ⟨fun m a1 a2 => ?_,fun s hs => ?_⟩
   · rcases Nat.lt_or_ge m (endAt l t q) with hm | hm
     · exact ⟨q,by simp [startsN],a1,hm⟩
     · obtain ⟨s,b1,b2,b3⟩:=i1 m hm a2
       exact ⟨s,by rw [startsN]; exact List.mem_cons_of_mem _ b1,b2,b3⟩
   · rw [startsN] at hs
     rcases List.mem_cons.1 hs with rfl | hs
     · exact ⟨Nat.le_refl _,by omega⟩
     · have:=i2 s hs; exact ⟨by omega,this.2⟩
theorem mem_subAt {l:List Symbol} {t:List Int} {p:Nat} {n:Int}:n∈subAt l t p↔∃ m,p≤m∧m < endAt l t p∧t[m]?=some n:=by
 unfold subAt
 rw [List.mem_iff_getElem?]
 constructor
 · rintro ⟨i,hi⟩
   rw [List.getElem?_drop,List.getElem?_take] at hi
   split at hi
   · exact ⟨p+i,by omega,by omega,hi⟩
   · cases hi
 · rintro ⟨m,h1,h2,h3⟩
   refine ⟨m - p,?_⟩
   rw [List.getElem?_drop,List.getElem?_take,if_pos (by omega),show p+(m - p)=m by omega,h3]
theorem sub_args {l:List Symbol} {t:List Int} (ht:TermOk l t) {p:Nat} (hp:p < t.length) :
 (∀ n∈subAt l t p,n=t[p]∨∃ q∈starts l t p,n∈subAt l t q)∧∀ q∈starts l t p,∀ n∈subAt l t q,n∈subAt l t p:=by
 obtain ⟨r,hr⟩:=args_skip ht hp
 have hd:t.getD p 0=t[p]:=getD_at hp
 have he:endAt l t p=t.length - r.length:=by
  have h1:skip (ar l) 1 (t.drop p)=some r:=by rw [List.drop_eq_getElem_cons hp,skip,Nat.zero_add]; exact hr
  unfold endAt; rw [h1]
 obtain ⟨c1,c2⟩:=startsN_cover hr
 refine ⟨fun n hn => ?_,fun q hq n hn => ?_⟩
 · obtain ⟨m,h1,h2,h3⟩:=mem_subAt.1 hn
   rcases Nat.eq_or_lt_of_le h1 with rfl | h1
   · left; rw [List.getElem?_eq_getElem hp] at h3; exact (Option.some.inj h3).symm
   · obtain ⟨s,b1,b2,b3⟩:=c1 m h1 (by omega)
     exact .inr ⟨s,by unfold starts; rw [hd]; exact b1,mem_subAt.2 ⟨m,b2,b3,h3⟩⟩
 · unfold starts at hq
   rw [hd] at hq
   obtain ⟨m,h1,h2,h3⟩:=mem_subAt.1 hn
   have:=c2 q hq
   exact mem_subAt.2 ⟨m,by omega,by omega,h3⟩
theorem gt_vars {l:List Symbol} {o a b:List Int} (ha:TermOk l a) (hb:TermOk l b):∀ (d i j:Nat) (hi:i < a.length) (hj:j < b.length),(a.length - i)+(b.length - j)≤d→gt l o a b i j=true→0≤a[i]∧∀ n∈subAt l b j,n < 0→n∈subAt l a i:=by
 intro d
 induction d with
 | zero=>intros; omega
 | succ d ih =>
   intro i j hi hj hd h
   rw [gt_eq ha hb hi hj] at h
   have hai:a.getD i 0=a[i]:=getD_at hi
   have hbj:b.getD j 0=b[j]:=getD_at hj
   obtain ⟨sa1,sa2⟩:=sub_args ha hi
   obtain ⟨sb1,sb2⟩:=sub_args hb hj
   unfold cell at h
   rw [hai,hbj] at h
   split at h
   · rename_i hv
     rw [Bool.and_eq_true,decide_eq_true_iff,decide_eq_true_iff] at h
     refine ⟨h.1,fun n hn hneg => ?_⟩
     rcases sb1 n hn with rfl | ⟨q,hq,_⟩
     · exact h.2
     · unfold starts at hq
       rw [hbj,ar_neg l hv] at hq
       simp [startsN] at hq
   rename_i hv
   split at h
   · cases h
   rename_i hav
   refine ⟨by omega,fun n hn hneg => ?_⟩
   split at h
   · rename_i hany
     obtain ⟨p,hp,h1⟩:=List.any_eq_true.1 hany
     have hpl:=starts_mem ha hi hp
     rw [Bool.or_eq_true,decide_eq_true_iff] at h1
     rcases h1 with h1 | h1
     · exact sa2 p hp n (h1 ▸ hn)
     · exact sa2 p hp n ((ih p j hpl.2 hj (by omega) h1).2 n hn hneg)
   split at h
   · cases h
   split at h
   · cases h
   rename_i hall
   rcases sb1 n hn with rfl | ⟨q,hq,hnq⟩
   · omega
   · have hql:=starts_mem hb hj hq
     have hg:gt l o a b i q=true:=by
      cases hgq:gt l o a b i q with
      | true=>rfl
      | false=>exact absurd (List.any_eq_true.2 ⟨q,hq,by rw [hgq]; rfl⟩) hall
     exact (ih i q hi hql.2 (by omega) hg).2 n hnq hneg
theorem subAt_zero {l:List Symbol} {t:List Int} (ht:TermOk l t):subAt l t 0=t:=by
 have:endAt l t 0=t.length:=by unfold endAt; rw [List.drop_zero,ht.skip]; simp
 unfold subAt; rw [this]; simp
theorem gt_rule {l:List Symbol} {o:List Int} {e:Equation} (he:EqOk l e) (h:gt l o e.left e.right 0 0=true):ruleOk e=true:=by
 have hl:=he.left.pos
 have hr:=he.right.pos
 obtain ⟨h1,h2⟩:=gt_vars he.left he.right _ 0 0 (by omega) (by omega) (Nat.le_refl _) h
 rw [subAt_zero he.left,subAt_zero he.right] at h2
 unfold ruleOk
 rw [Bool.and_eq_true,decide_eq_true_iff]
 refine ⟨?_,?_⟩
 · have hh:∀ (t:List Int) (ht:0 < t.length),t.headD 0=t[0]:=fun t ht=>by
    cases t with
    | nil=>simp at ht
    | cons x r=>rfl
   rw [hh _ (by omega)]; exact h1
 · rw [Bool.not_eq_true',Bool.eq_false_iff]
   intro hany
   obtain ⟨n,hn,hx⟩:=List.any_eq_true.1 hany
   rw [decide_eq_true_iff] at hx
   exact hx.2 (h2 n hn hx.1)
theorem isDecreasing_rules {s:Signature} {o:List Int} {rs:List Equation} (h:isDecreasingR s o rs=true):rulesFault s rs=0:=by
 unfold isDecreasingR at h
 rw [Bool.and_eq_true,Bool.and_eq_true,decide_eq_true_iff,decide_eq_true_iff] at h
 obtain ⟨⟨h1,h2⟩,h3⟩:=h
 obtain ⟨q1,q2⟩:=eqsOk_iff.1 h2
 have hs:sigFault s=0:=by
  unfold orderFault at h1
  split at h1
  · rename_i hx; exact absurd h1 hx
  · rename_i hx; simpa using hx
 unfold rulesFault rulesFault0
 rw [if_neg (by simpa using hs),if_neg (by simpa using h2),if_neg]
 intro hany
 obtain ⟨e,he,hx⟩:=List.any_eq_true.1 hany
 unfold falling at h3
 rw [Bool.not_eq_true',Bool.eq_false_iff] at h3
 apply h3
 refine List.any_eq_true.2 ⟨e,he,?_⟩
 cases hg:gt s.symbols o e.left e.right 0 0 with
 | false=>rfl
 | true=>rw [gt_rule (q2 e he) hg] at hx; cases hx
end Ev.Ty
end
section
namespace Ev.Ty
open Go Ev
open Tm
set_option linter.unusedSimpArgs false
set_option linter.unusedVariables false
section
variable {l:List Symbol} (ok:SigOk ⟨l⟩) {o:List Int} (ho:∀ n:Int,0≤n→n < l.length→n∈o)
include ok
include ho
theorem gt_asym {a b:List Int} (ha:TermOk l a) (hb:TermOk l b) (hg:gt l o a b 0 0=true):gt l o b a 0 0=false:=by
 obtain ⟨x,hx,ex⟩:=ha.tree ok
 obtain ⟨y,hy,ey⟩:=hb.tree ok
 cases e:gt l o b a 0 0
 · rfl
 · exact absurd (G.trans _ (Nat.le_refl _) ((gt_whole ok ho ha hb hx hy ex ey).1 hg) ((gt_whole ok ho hb ha hy hx ey ex).1 e)) (G.irrefl _ (Nat.le_refl _))
theorem cmpV_gt {a b:List Int} (ha:TermOk l a) (hb:TermOk l b) (hg:gt l o a b 0 0=true):cmpV l o a b=1∧cmpV l o b a=2:=by
 have hne:¬ a=b:=fun e=>by subst e; rw [not_self ok ho ha] at hg; cases hg
 unfold cmpV
 rw [if_neg hne,if_pos hg,if_neg (fun e=>hne e.symm),gt_asym ok ho ha hb hg,if_neg (by decide),if_pos hg]
 exact ⟨rfl,rfl⟩
omit ok ho in
theorem cmpV_one {a b:List Int} (h:cmpV l o a b=1):gt l o a b 0 0=true:=by
 unfold cmpV at h
 split at h
 · omega
 · split at h
   · assumption
   · split at h <;> omega
omit ok ho in
theorem cmpV_two {a b:List Int} (h:cmpV l o a b=2):gt l o b a 0 0=true:=by
 unfold cmpV at h
 split at h
 · omega
 · split at h
   · omega
   · split at h
     · assumption
     · omega
end
end Ev.Ty
end
section
namespace Ev.Ty
open Go Ev
open Enc (enc)
open Sm (sm)
set_option linter.unusedSimpArgs false
set_option linter.unusedVariables false
set_option maxHeartbeats 4000000
set_option maxRecDepth 10000
theorem laws_FnOriented (code:List UInt8) (h:sm maxLen code):Call F.laws_FnOriented [slc code] (.bool true):=by
 by_cases hbig:(code.length:Int) > 1048576
 · exact call_of rfl 0 ((laws_FnOriented.ev _ _).trans (by simp only [evz,Nat.reduceLT,(laws_lwBig (code:=code)).eq,hbig]))
 have hc:code.length≤2097152:=by omega
 obtain ⟨l,o,a,b,ed,hl,ho,ha,hb⟩:=spec_DrawOrientEquation hc
 have hll:l.length≤7:=hl.1
 obtain ⟨g,q,rs,er,hg,hq,hr⟩:=spec_DrawIsDecreasing hc
 have hgl:g.length≤7:=hg.1
 have eO:=(impl_OrientEquation l (by omega) o (by omega) a b (by omega) (by omega)).eq
 have eO':=(spec_OrientEquation l (by omega) o (by omega) a b (by omega) (by omega)).eq
 have s1:sm 1048576 (Signature.mk g):=sm_mono (by omega) hg
 have s2:sm 1048576 q:=⟨by omega,fun _ _=>trivial⟩
 have s3:sm 1048576 rs:=hr.sm (by omega)
 have eD:LIM F.impl_IsDecreasing [.agg [slc g],slc q,slc rs]=_:=(impl_IsDecreasing ⟨g⟩ q rs s1 s2 s3).eq
 have eD':LIM F.spec_IsDecreasing [.agg [slc g],slc q,slc rs]=_:=(spec_IsDecreasing ⟨g⟩ q rs s1 s2 s3).eq
 have eR:=(impl_RulesFault g (by omega) rs (sm_mono (by omega) s3)).eq
 have hR:isDecreasingR ⟨g⟩ q rs=true→rulesFault ⟨g⟩ rs=0:=isDecreasing_rules
 generalize hd:isDecreasingR ⟨g⟩ q rs=d at *
 by_cases h0:orientC ⟨l⟩ o a b=0
 case neg =>
  refine call_of rfl 0 ((laws_FnOriented.ev _ _).trans ?_)
  cases d with
  | false=>simp only [evz,Nat.reduceLT,(laws_lwBig (code:=code)).eq,hbig,ed.eq,eO,eO',er.eq,eD,eD',beq_self_eq_true,Bool.not_true,h0,ne_eq,not_false_eq_true,bne_self_eq_false,not_true_eq_false]
  | true =>
    rw [hR rfl] at eR
    simp only [evz,Nat.reduceLT,(laws_lwBig (code:=code)).eq,hbig,ed.eq,eO,eO',er.eq,eD,eD',eR,beq_self_eq_true,Bool.not_true,h0,ne_eq,not_false_eq_true,bne_self_eq_false,not_true_eq_false]
 have hF:cmpF ⟨l⟩ o a b=0:=Classical.byContradiction fun hne=>by unfold orientC at h0; rw [if_neg hne] at h0; exact hne h0
 obtain ⟨ok,g1,g2,ta,tb⟩:=cmpF_ok hF
 have hv:cmpV l o a b=1∨cmpV l o a b=2:=Classical.byContradiction fun hne=>by unfold orientC at h0; rw [if_pos hF,if_neg hne] at h0; omega
 have big:orderFault ⟨l⟩ o=0:=Classical.byContradiction fun hne=>by unfold cmpF at hF; rw [if_neg hne] at hF; exact hne hF
 have cmpOne:∀ {x y:List Int},TermOk l x→TermOk l y→gt l o x y 0 0=true→LIM F.impl_CompareTerms [.agg [slc l],slc o,slc x,slc y]=some (.agg [.int .i64 0,.int .i64 1],[]):=fun {x y} hx hy hgt=>by
  have l1:=hx.le
  have l2:=hy.le
  have hF':cmpF ⟨l⟩ o x y=0:=by
   unfold cmpF; rw [if_pos big,termFault_0 (orderF_ok big).1,termFault_0 (orderF_ok big).1,(termOk_iff l x).2 hx,(termOk_iff l y).2 hy]; rfl
  have:=(impl_CompareTerms l (by omega) o (by omega) x y (by omega) (by omega)).eq
  rw [hF',show cmpR ⟨l⟩ o x y=cmpV l o x y by unfold cmpR; rw [if_pos hF'],(cmpV_gt ok g2 hx hy hgt).1] at this
  exact this
 have naa:=(laws_lwNums a a (by omega)).eq
 have nbb:=(laws_lwNums b b (by omega)).eq
 have nab:=(laws_lwNums a b (by omega)).eq
 have nba:=(laws_lwNums b a (by omega)).eq
 rw [decide_eq_true rfl] at naa nbb
 have hne:¬ a=b:=fun e=>by
  subst e
  rcases hv with hv | hv <;> unfold cmpV at hv <;> rw [if_pos rfl] at hv <;> omega
 rw [decide_eq_false hne] at nab
 rw [decide_eq_false (fun e=>hne e.symm)] at nba
 rw [h0] at eO eO'
 rcases hv with hv | hv
 · have eL:orientL ⟨l⟩ o a b=a:=by unfold orientL; rw [if_pos hF,if_pos hv]
   have eE:orientE ⟨l⟩ o a b=b:=by unfold orientE; rw [if_pos hF,if_pos hv]
   rw [eL,eE] at eO eO'
   have eC:=cmpOne ta tb (cmpV_one hv)
   refine call_of rfl 0 ((laws_FnOriented.ev _ _).trans ?_)
   cases d with
   | false=>simp only [evz,Nat.reduceLT,(laws_lwBig (code:=code)).eq,hbig,ed.eq,eO,eO',er.eq,eD,eD',beq_self_eq_true,Bool.not_true,ne_eq,not_false_eq_true,bne_self_eq_false,not_true_eq_false,naa,nbb,nab,nba,eC,decide_true]
   | true =>
     rw [hR rfl] at eR
     simp only [evz,Nat.reduceLT,(laws_lwBig (code:=code)).eq,hbig,ed.eq,eO,eO',er.eq,eD,eD',eR,beq_self_eq_true,Bool.not_true,ne_eq,not_false_eq_true,bne_self_eq_false,not_true_eq_false,naa,nbb,nab,nba,eC,decide_true]
 · have eL:orientL ⟨l⟩ o a b=b:=by unfold orientL; rw [if_pos hF,if_neg (by show ¬ cmpV l o a b=1; omega),if_pos hv]
   have eE:orientE ⟨l⟩ o a b=a:=by unfold orientE; rw [if_pos hF,if_neg (by show ¬ cmpV l o a b=1; omega),if_pos hv]
   rw [eL,eE] at eO eO'
   have eC:=cmpOne tb ta (cmpV_two hv)
   refine call_of rfl 0 ((laws_FnOriented.ev _ _).trans ?_)
   cases d with
   | false=>simp only [evz,Nat.reduceLT,(laws_lwBig (code:=code)).eq,hbig,ed.eq,eO,eO',er.eq,eD,eD',beq_self_eq_true,Bool.not_true,ne_eq,not_false_eq_true,bne_self_eq_false,not_true_eq_false,naa,nbb,nab,nba,eC,decide_true]
   | true =>
     rw [hR rfl] at eR
     simp only [evz,Nat.reduceLT,(laws_lwBig (code:=code)).eq,hbig,ed.eq,eO,eO',er.eq,eD,eD',eR,beq_self_eq_true,Bool.not_true,ne_eq,not_false_eq_true,bne_self_eq_false,not_true_eq_false,naa,nbb,nab,nba,eC,decide_true]
end Ev.Ty
end
