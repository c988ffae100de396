/- Steps on the way to RowSteps: TyRules, TyCmp, TyWalk, TyMatchP, TySortP, TyLpoP, TyLpo, TyDraw, TyDrawT, TyPigeon, TyOrd, TyTheory, TyAlgOf, TyDrawG, TyLpoS, TyPartP, TyRead, TyPool, TyDrawB, TyNormP, TyMatch, TyNorm, TyNormL, TyHasVar, TyHolds, TyAllHold, TyEntries, TySortT, TySortQ, TyGreat, TyUnifyP, TyPeakP. -/
import Derived.Test.YtgmpnljofoadnaaGreatDoorM4
set_option linter.unusedSectionVars false
set_option linter.unusedVariables false
set_option linter.unusedSimpArgs false
section
namespace Ev.Ty
open Go Ev
open Enc (enc)
open Sm (sm)
set_option linter.unusedSimpArgs false
set_option linter.unusedVariables false
theorem q33 (t v:List Int) (hs:t.length≤4294967296) (hv:v.length≤4294967296) :
 Call F.q1w [slc t,.clo F.q3s [.rref [slc v] 0]] (.bool (t.any fun n=>decide (n∉v))):=by
 have hi:Call F.q0g [slc t,.clo F.q3s [.rref [slc v] 0]] (.int .i64 (idx (fun n=>decide (n∉v)) t)):=by
  refine q0v rfl (t.length+1) ((q0a.ev _ _ _).trans ?_)
  refine q6o (S:=fun m k=>q0a.at0 (t.length+1) m (q0a.st0 (cells t) _ _ (k:Nat))) (fun m k h => ?_) (fun m => ?_) (Nat.lt_succ_self _)
  · have hlk:t[k]?=some t[k]:=List.getElem?_eq_getElem h
    have hc:Call F.q3s [.int .i64 t[k],.rref [slc v] 0] (.bool (decide (t[k]∉v))):=by
     refine q0v rfl 0 ((q3s.ev _ _ _).trans ?_)
     simp only [evz,Nat.reduceLT,(q2a v t[k] hv).eq,decide_not]
    simp only [q0a.next0,q0a.round0,evz,Nat.reduceLT,h,hlk,q1r,hc.eq]
    rw [q0l (by omega)]
    by_cases e:t[k]∈v <;> simp [e]
  · simp only [q0a.next0,q0a.round0,evz,Nat.reduceLT,Nat.lt_irrefl]
 refine q0v rfl 0 ((q33.ev _ _ _).trans ?_)
 simp only [evz,Nat.reduceLT,hi.eq,q7f]
theorem varsOf_term {l:List Symbol} {t:List Int} (h:TermOk l t):Call F.q0m [.sl 1 [slc t]] (slc (q8n [t]))∧(q8n [t]).length≤24:=by
 have hle:=h.le
 have hvl:=varsOf_length [t]
 refine ⟨q0m [t] (by simp) (fun x hx => ?_) (by simp; omega),by simp at hvl; omega⟩
 simp only [List.mem_cons,List.not_mem_nil,or_false] at hx
 subst hx
 exact ⟨by omega,h.ge⟩
theorem head0 {l:List Symbol} {t:List Int} (h:TermOk l t):t[0]?=some (t.headD 0):=by
 have:=h.pos
 cases t with
 | nil=>simp at this
 | cons x r=>rfl
theorem q6u {l:List Symbol} {a b:List Int} (ha:TermOk l a) (hb:TermOk l b):Call F.q6u [.agg [slc a,slc b]] (.bool (ruleOk ⟨a,b⟩)):=by
 refine q0v rfl 0 ((q6u.ev _ _ _).trans ?_)
 obtain ⟨ca,la⟩:=varsOf_term ha
 obtain ⟨cb,lb⟩:=varsOf_term hb
 have h0:(cells a)[0]?=some (.int .i64 (a.headD 0)):=by
  have:=get0 (l:=a) (k:=1) (i:=0) q39
  rw [Nat.zero_mul] at this
  rw [this,head0 ha]; rfl
 have hin:inB 0 ((cells a).length / 1)=true:=by
  rw [q5b q39]
  have:=q7a 0 a.length
  have hp:=ha.pos
  rw [show (0:Int)=((0:Nat):Int) from rfl,this]
  exact decide_eq_true hp
 have hc:=q33 (q8n [b]) (q8n [a]) (by omega) (by omega)
 rw [hin,cond_true,h0]
 simp only [evz,Nat.reduceLT,ruleOk]
 have e:((q8n [b]).any fun n=>decide (n∉q8n [a]))=b.any fun n=>decide (n < 0∧n∉a):=by
  rw [Bool.eq_iff_iff,List.any_eq_true,List.any_eq_true]
  constructor
  · rintro ⟨v,hv,h⟩
    rw [decide_eq_true_eq] at h
    obtain ⟨v0,t,ht,hm⟩:=q7e.1 hv
    simp only [List.mem_cons,List.not_mem_nil,or_false] at ht
    subst ht
    refine ⟨-1 - v,hm,?_⟩
    rw [decide_eq_true_eq]
    exact ⟨by omega,fun hn=>h (q7e.2 ⟨v0,a,by simp,hn⟩)⟩
  · rintro ⟨n,hn,h⟩
    rw [decide_eq_true_eq] at h
    refine ⟨-1 - n,q7e.2 ⟨by omega,b,by simp,by rw [show -1 - (-1 - n)=n by omega]; exact hn⟩,?_⟩
    rw [decide_eq_true_eq]
    intro hm
    obtain ⟨_,t,ht,hm'⟩:=q7e.1 hm
    simp only [List.mem_cons,List.not_mem_nil,or_false] at ht
    subst ht
    rw [show -1 - (-1 - n)=n by omega] at hm'
    exact h.2 hm'
 by_cases h1:a.headD 0 < 0
 · have h2:¬ 0≤a.headD 0:=by omega
   simp only [h1,h2,evz,Nat.reduceLT,Bool.false_and]
 · have h2:0≤a.headD 0:=by omega
   simp only [h1,h2,evz,Nat.reduceLT,ca.eq,cb.eq,hc.eq,e,Bool.true_and]
theorem q58 (l:List Symbol) (hs:l.length≤4294967296) (es:List Equation) (he:sm 4294967296 es):Call F.q58 [.agg [slc l],slc es] (.int .i64 (q5d ⟨l⟩ es)):=by
 refine q0v rfl 0 ((q58.ev _ _ _).trans ?_)
 simp only [evz,Nat.reduceLT,(q0n l hs es he).eq,q5d,q84]
 by_cases h1:q30 ⟨l⟩=0
 case neg=>simp only [h1,evz,Nat.reduceLT,ne_eq,not_false_eq_true]
 simp only [h1,evz,Nat.reduceLT,ne_eq,not_true_eq_false]
 by_cases h2:q6j l es=0
 case neg=>simp only [h2,evz,Nat.reduceLT,not_false_eq_true]
 obtain ⟨hlen,hok⟩:=eqsOk_iff.1 h2
 have hi:Call F.q13 [slc es,.clo F.q2q []] (.int .i64 (idx (fun e => !ruleOk e) es)):=by
  refine q0v rfl (es.length+1) ((q06.ev _ _).trans ?_)
  simp only [evz,Nat.reduceLT]
  refine q6o (S:=fun m k=>q06.at0 (es.length+1) m (q06.st0 (cells es) es.length (k:Nat))) (fun m k h => ?_) (fun m => ?_) (Nat.lt_succ_self _)
  · have hlk:es[k]?=some es[k]:=List.getElem?_eq_getElem h
    have ho:=hok es[k] (List.getElem_mem h)
    have hc:Call F.q2q [.agg [slc es[k].left,slc es[k].right]] (.bool (!ruleOk es[k])):=by
     refine q0v rfl 0 ((q2q.ev _ _ _).trans ?_)
     simp only [evz,Nat.reduceLT,(q6u ho.left ho.right).eq]
    simp only [q06.next0,q06.round0,evz,Nat.reduceLT,h,hlk,q3p,hc.eq]
    rw [q0l (by omega)]
    cases ruleOk es[k] <;> rfl
  · simp only [q06.next0,q06.round0,evz,Nat.reduceLT,Nat.lt_irrefl]
 have hc:Call F.q4s [slc es,.clo F.q2q []] (.bool (es.any fun e => !ruleOk e)):=by
  refine q0v rfl 0 ((q59.ev _ _).trans ?_)
  simp only [evz,Nat.reduceLT,hi.eq,q7f]
 simp only [h2,evz,Nat.reduceLT,not_true_eq_false,hc.eq]
 cases es.any fun e => !ruleOk e <;> rfl
theorem q1i (t:List Int) (x:Int) (hl:t.length≤4294967296):Call F.q1i [slc t,.int .i64 x] (.int .i64 (t.count x:Nat)):=by
 have loop:∀ m k (c:Nat),k≤t.length→t.length < m+k→c≤k →
  q1i.at0 (t.length+1) m (q1i.st0 (cells t) x (c:Nat) (k:Nat))=some (.int .i64 ((c+(t.drop k).count x:Nat):Int),[]):=by
  intro m
  induction m with
  | zero=>intros; omega
  | succ m ih =>
    intro k c hk hm hc
    by_cases h:k < t.length
    · have hlk:t[k]?=some t[k]:=List.getElem?_eq_getElem h
      simp only [q1i.next0,q1i.round0,evz,Nat.reduceLT,h,hlk,q1r]
      rw [q0l (by omega),q0l (by omega),List.drop_eq_getElem_cons h,List.count_cons]
      by_cases e:t[k]=x
      · simp only [e,evz,Nat.reduceLT]
        rw [ih (k+1) (c+1) (by omega) (by omega) (by omega)]
        simp
        omega
      · simp only [e,evz,Nat.reduceLT]
        rw [ih (k+1) c (by omega) (by omega) (by omega)]
        simp [e]
    · obtain rfl:k=t.length:=by omega
      simp only [q1i.next0,q1i.round0,evz,Nat.reduceLT,Nat.lt_irrefl,List.drop_length,List.count_nil,Nat.add_zero]
 refine q0v rfl (t.length+1) ((q1i.ev _ _ _).trans ?_)
 have:=loop (t.length+1) 0 0 (by omega) (by omega) (by omega)
 rw [List.drop_zero,Nat.zero_add] at this
 exact this
theorem q0j (l:List Symbol) (ok:SigOk ⟨l⟩) (es:List Equation) (he:sm 4294967296 es):Call F.q0j [.rref [slc l] 0,slc es] (.int .i64 (q84 l es)):=by
 refine q0v rfl 25 ((q0j.ev _ _ _).trans ?_)
 simp only [evz,Nat.reduceLT,(q1e l ok es he).eq,q84]
 by_cases h2:q6j l es=0
 case neg=>simp only [h2,evz,Nat.reduceLT,ne_eq,not_false_eq_true]
 obtain ⟨hlen,hok⟩:=eqsOk_iff.1 h2
 simp only [h2,evz,Nat.reduceLT,ne_eq,not_true_eq_false]
 have inner:∀ (L0:St→R) (k:Nat) (h:k < es.length), 
  q0j.at2 25 L0 25 (q0j.st2 (cells es) (k:Nat) ((0:Nat):Int))=if (es[k].right.any fun n=>decide (n < 0∧n∉es[k].left))=true then some (.int .i64 1,[]) else L0 (q0j.st0 (cells es) ((k+1:Nat):Int)):=fun L0 k h=>by
  have hlk:es[k]?=some es[k]:=List.getElem?_eq_getElem h
  have ho:=hok es[k] (List.getElem_mem h)
  have hle:=ho.right.le
  have hle':=ho.left.le
  refine q7n (l:=es[k].right) (p:=fun n=>decide (n < 0∧n∉es[k].left)) (r:=some (.int .i64 1,[])) (S:=fun m j=>q0j.at2 25 L0 m (q0j.st2 (cells es) (k:Nat) (j:Nat))) (fun m j hj => ?_) (fun m => ?_) (by omega)
  · have hlj:es[k].right[j]?=some es[k].right[j]:=List.getElem?_eq_getElem hj
    simp only [q0j.next2,q0j.round2,evz,Nat.reduceLT,h,hlk,hj,hlj,q3p,q1r,(q1i es[k].left es[k].right[j] (by omega)).eq]
    rw [q0l (by omega)]
    by_cases q1:es[k].right[j] < 0
    · by_cases q2:es[k].right[j]∈es[k].left
      · have q3:0 < es[k].left.count es[k].right[j]:=List.count_pos_iff.2 q2
        have q4:¬ ((es[k].left.count es[k].right[j]:Nat):Int)=0:=by omega
        simp only [q1,q2,q4,evz,Nat.reduceLT,not_true_eq_false,and_false,Bool.false_eq_true]
      · have q3:es[k].left.count es[k].right[j]=0:=List.count_eq_zero.2 q2
        simp only [q1,q2,q3,evz,Nat.reduceLT,not_false_eq_true,and_true,Int.natCast_zero]
    · simp only [q1,evz,Nat.reduceLT,false_and,Bool.false_eq_true]
  · simp only [q0j.next2,q0j.round2,evz,Nat.reduceLT,h,hlk,q3p,Nat.lt_irrefl]
    rw [q0l (by omega)]
 refine (q7n (l:=es) (p:=fun e => !ruleOk e) (r:=some (.int .i64 1,[])) (z:=some (.int .i64 0,[])) (S:=fun m k=>q0j.at0 25 m (q0j.st0 (cells es) (k:Nat))) (fun m k h => ?_) (fun m => ?_) (show es.length < 25 by omega)).trans ?_
 · have hlk:es[k]?=some es[k]:=List.getElem?_eq_getElem h
   have ho:=hok es[k] (List.getElem_mem h)
   have h0:(cells es[k].left)[0]?=some (.int .i64 (es[k].left.headD 0)):=by
    have:=get0 (l:=es[k].left) (k:=1) (i:=0) q39
    rw [Nat.zero_mul] at this
    rw [this,head0 ho.left]; rfl
   have hin:inB 0 es[k].left.length=true:=by
    have:=q7a 0 es[k].left.length
    have hp:=ho.left.pos
    rw [show (0:Int)=((0:Nat):Int) from rfl,this]
    exact decide_eq_true hp
   simp only [q0j.next0,q0j.round0,evz,Nat.reduceLT,h,hlk,q3p,hin,h0,ruleOk]
   by_cases q1:es[k].left.headD 0 < 0
   · have q2:¬ 0≤es[k].left.headD 0:=by omega
     simp only [q1,q2,evz,Nat.reduceLT,Bool.false_and,Bool.not_false]
   · have q2:0≤es[k].left.headD 0:=by omega
     simp only [q1,q2,evz,Nat.reduceLT,Bool.true_and,Bool.not_not]
     exact inner _ k h
 · simp only [q0j.next0,q0j.round0,evz,Nat.reduceLT,Nat.lt_irrefl]
 · cases es.any fun e => !ruleOk e <;> rfl
theorem q57 (l:List Symbol) (hs:l.length≤4294967296) (es:List Equation) (he:sm 4294967296 es):Call F.q57 [.agg [slc l],slc es] (.int .i64 (q5d ⟨l⟩ es)):=by
 refine q0v rfl 0 ((q57.ev _ _ _).trans ?_)
 simp only [evz,Nat.reduceLT,(q01 l hs).eq,q5d]
 by_cases h1:q30 ⟨l⟩=0
 case neg=>simp only [h1,evz,Nat.reduceLT,ne_eq,not_false_eq_true]
 have ok:=(sigOk_iff _).1 h1
 simp only [h1,evz,Nat.reduceLT,ne_eq,not_true_eq_false,(q0j l ok es he).eq]
end Ev.Ty
end
section
namespace Ev.Ty
open Go Ev
open Enc (enc)
open Sm (sm)
set_option linter.unusedSimpArgs false
set_option linter.unusedVariables false
def q6v (l:List Symbol) (t:List Int):Nat→Nat→List Nat
 | 0,_=>[]
 | n+1,p=>p::q6v l t n (endAt l t p)
def q3y (l:List Symbol) (t:List Int) (p:Nat):List Nat:=q6v l t (ar l (t.getD p 0)) (p+1)
theorem q65 (l:List Symbol) (t:List Int):∀ n p,(q6v l t n p).length=n
 | 0,_=>rfl
 | n+1,p=>by rw [q6v,List.length_cons,q65 l t n]
theorem skip_one {l:List Symbol} {t:List Int} {p n:Nat} {r:List Int} (h:skip (ar l) (n+1) (t.drop p)=some r):p < t.length∧skip (ar l) n (t.drop (endAt l t p))=some r∧p < endAt l t p∧endAt l t p≤t.length:=by
 have hp:p < t.length:=by
  rcases Nat.lt_or_ge p t.length with h1 | h1
  · exact h1
  · rw [List.drop_of_length_le h1] at h; cases h
 rw [show n+1=1+n by omega,q88] at h
 cases h1:skip (ar l) 1 (t.drop p) with
 | none=>rw [h1] at h; cases h
 | some q =>
   rw [h1] at h
   have h2:=skip_at h1
   have e:endAt l t p=t.length - q.length:=by unfold endAt; rw [h1]
   have h3:=h2.2.2 (by omega)
   refine ⟨hp,?_,by rw [e]; omega,by rw [e]; omega⟩
   rw [e,← h2.1]
   exact h
theorem startsN_mem {l:List Symbol} {t:List Int}:∀ {n p:Nat} {r:List Int},skip (ar l) n (t.drop p)=some r→∀ q∈q6v l t n p,p≤q∧q < t.length
 | 0,p,r,h,q,hq=>by cases hq
 | n+1,p,r,h,q,hq=>by
   obtain ⟨h1,h2,h3,h4⟩:=skip_one h
   rcases List.mem_cons.1 hq with rfl | hq
   · exact ⟨Nat.le_refl _,h1⟩
   · have:=startsN_mem h2 q hq
     exact ⟨by omega,this.2⟩
theorem args_skip {l:List Symbol} {t:List Int} (ok:TermOk l t) {p:Nat} (hp:p < t.length):∃ r,skip (ar l) (ar l t[p]) (t.drop (p+1))=some r:=by
 obtain ⟨q,hq⟩:=skip_inner (p:=p) ok.skip (by simpa using hp)
 rw [List.drop_eq_getElem_cons hp,skip] at hq
 exact ⟨q,by simpa using hq⟩
theorem q66 {l:List Symbol} {t:List Int} (ok:TermOk l t) {p:Nat} (hp:p < t.length) {q:Nat} (hq:q∈q3y l t p):p < q∧q < t.length:=by
 obtain ⟨r,hr⟩:=args_skip ok hp
 have hd:t.getD p 0=t[p]:=q7g hp
 unfold q3y at hq
 rw [hd] at hq
 have:=startsN_mem hr q hq
 exact ⟨by omega,this.2⟩
def rank (o:List Int) (n:Int):Int:=idx (fun x=>decide (x=n)) o
def cell (l:List Symbol) (o a b:List Int) (above:Nat→Nat→Bool) (i j:Nat):Bool :=
 if b.getD j 0 < 0 then decide (0≤a.getD i 0)&&decide (b.getD j 0∈subAt l a i)
 else if a.getD i 0 < 0 then false
 else if (q3y l a i).any (fun p=>decide (subAt l a p=subAt l b j)||above p j) then true
 else if rank o (a.getD i 0) < rank o (b.getD j 0) then false
 else if (q3y l b j).any (fun q => !above i q) then false
 else if rank o (b.getD j 0) < rank o (a.getD i 0) then true
 else match ((q3y l a i).zip (q3y l b j)).find? fun x => !decide (subAt l a x.1=subAt l b x.2) with
  | some x=>above x.1 x.2
  | none=>false
theorem cell_congr {l:List Symbol} {o a b:List Int} (ha:TermOk l a) (hb:TermOk l b) {f g:Nat→Nat→Bool} {i j:Nat} (hi:i < a.length) (hj:j < b.length)
 (h:∀ p q,i≤p→j≤q→p < a.length→q < b.length→(i < p∨j < q)→f p q=g p q):cell l o a b f i j=cell l o a b g i j:=by
 have h1:(q3y l a i).any (fun p=>decide (subAt l a p=subAt l b j)||f p j)=(q3y l a i).any (fun p=>decide (subAt l a p=subAt l b j)||g p j):=by
  rw [Bool.eq_iff_iff,List.any_eq_true,List.any_eq_true]
  constructor
  · rintro ⟨p,hp,h1⟩
    have:=q66 ha hi hp
    exact ⟨p,hp,by rw [← h p j (by omega) (Nat.le_refl _) this.2 hj (.inl this.1)]; exact h1⟩
  · rintro ⟨p,hp,h1⟩
    have:=q66 ha hi hp
    exact ⟨p,hp,by rw [h p j (by omega) (Nat.le_refl _) this.2 hj (.inl this.1)]; exact h1⟩
 have h2:(q3y l b j).any (fun q => !f i q)=(q3y l b j).any (fun q => !g i q):=by
  rw [Bool.eq_iff_iff,List.any_eq_true,List.any_eq_true]
  constructor
  · rintro ⟨p,hp,h1⟩
    have:=q66 hb hj hp
    exact ⟨p,hp,by rw [← h i p (Nat.le_refl _) (by omega) hi this.2 (.inr this.1)]; exact h1⟩
  · rintro ⟨p,hp,h1⟩
    have:=q66 hb hj hp
    exact ⟨p,hp,by rw [h i p (Nat.le_refl _) (by omega) hi this.2 (.inr this.1)]; exact h1⟩
 unfold cell
 rw [h1,h2]
 cases hf:((q3y l a i).zip (q3y l b j)).find? fun x => !decide (subAt l a x.1=subAt l b x.2) with
 | none=>rfl
 | some x =>
   have hm:=List.mem_of_find?_eq_some hf
   have hm1:=q66 ha hi (List.of_mem_zip hm).1
   have hm2:=q66 hb hj (List.of_mem_zip hm).2
   simp only [h x.1 x.2 (by omega) (by omega) hm1.2 hm2.2 (.inl hm1.1)]
def gtN (l:List Symbol) (o a b:List Int):Nat→Nat→Nat→Bool
 | 0,_,_=>false
 | n+1,i,j=>cell l o a b (gtN l o a b n) i j
def gt (l:List Symbol) (o a b:List Int) (i j:Nat):Bool:=gtN l o a b (a.length+b.length+1) i j
theorem gtN_stable {l:List Symbol} {o a b:List Int} (ha:TermOk l a) (hb:TermOk l b):∀ (d n m i j:Nat),i < a.length→j < b.length→(a.length - i)+(b.length - j)≤d→d < n→d < m→gtN l o a b n i j=gtN l o a b m i j:=by
 intro d
 induction d with
 | zero=>intros; omega
 | succ d ih =>
   intro n m i j hi hj hd hn hm
   obtain ⟨n,rfl⟩:∃ q,n=q+1:=⟨n - 1,by omega⟩
   obtain ⟨m,rfl⟩:∃ q,m=q+1:=⟨m - 1,by omega⟩
   rw [gtN,gtN]
   exact cell_congr ha hb hi hj fun p q h1 h2 h3 h4 h5=>ih n m p q h3 h4 (by omega) (by omega) (by omega)
theorem gt_eq {l:List Symbol} {o a b:List Int} (ha:TermOk l a) (hb:TermOk l b) {i j:Nat} (hi:i < a.length) (hj:j < b.length):gt l o a b i j=cell l o a b (gt l o a b) i j:=by
 show gtN l o a b (a.length+b.length+1) i j=_
 rw [gtN]
 exact cell_congr ha hb hi hj fun p q h1 h2 h3 h4 h5=>gtN_stable ha hb ((a.length - p)+(b.length - q)) _ _ p q h3 h4 (Nat.le_refl _) (by omega) (by omega)
def ints (l:List Nat):List Int:=l.map fun (n:Nat)=>(n:Int)
section
variable {l:List Symbol} (ok:SigOk ⟨l⟩)
include ok
theorem q0w {t:List Int} (ht:TermOk l t) {p:Nat} (hp:p < t.length):Call F.q0w [.agg [slc l],slc t,.int .i64 p] (slc (ints (q3y l t p))):=by
 have hle:=ht.le
 have har:=ar_le (l:=l) ok t[p]
 refine q0v rfl 4 ((q0w.ev _ _ _ _).trans ?_)
 simp only [evz,Nat.reduceLT,hp,List.getElem?_eq_getElem,q1r,(q5l ok t[p] (ht.node _ (List.getElem_mem hp))).eq]
 rw [q0l (by omega)]
 have loop:∀ n k q f (out:List Int) r,k+n=ar l t[p]→n < f→skip (ar l) n (t.drop q)=some r→out.length=k →
  q0w.at0 4 f (q0w.st0 (cells t) (q:Nat) (ar l t[p]:Nat) (k:Nat) (cells l) (cells out))=some (slc (out++ints (q6v l t n q)),[]):=by
  intro n
  induction n with
  | zero =>
    intro k q f out r hk hf hs ho
    obtain ⟨f,rfl⟩:∃ x,f=x+1:=⟨f - 1,by omega⟩
    have:¬ k < ar l t[p]:=by omega
    simp only [q0w.next0,q0w.round0,evz,Nat.reduceLT,this,q6v,ints,List.map_nil,List.append_nil]
  | succ n ih =>
    intro k q f out r hk hf hs ho
    obtain ⟨f,rfl⟩:∃ x,f=x+1:=⟨f - 1,by omega⟩
    obtain ⟨h1,h2,h3,h4⟩:=skip_one hs
    have hlt:k < ar l t[p]:=by omega
    simp only [q0w.next0,q0w.round0,evz,Nat.reduceLT,hlt,(endOf_at ok ht h1).eq,q2d]
    rw [q22 (q3v (by rw [q0t,q39]; omega)),q0l (by omega)]
    by_cases hn:n=0
    · subst hn
      obtain ⟨f,rfl⟩:∃ x,f=x+1:=⟨f - 1,by omega⟩
      have:¬ k+1 < ar l t[p]:=by omega
      simp only [q0w.next0,q0w.round0,evz,Nat.reduceLT,this,q6v,ints,List.map_nil,List.map_cons]
    · rw [ih (k+1) (endAt l t q) f (out++[(q:Int)]) r (by omega) (by omega) h2 (by simp [ho])]
      simp [q6v,ints]
 obtain ⟨r,hr⟩:=args_skip ht hp
 have hd:t.getD p 0=t[p]:=q7g hp
 have:=loop (ar l t[p]) 0 (p+1) 4 [] r (by omega) (by omega) hr (by simp)
 unfold q3y
 rw [hd]
 simpa using this
end
theorem mpAt_map:∀ (l:List (Int × Int × Bool)) (a b:Int) (i j:Nat),(mpAt l a b i).map (·.2)=(mpAt l a b j).map (·.2)
 | [],_,_,_,_=>rfl
 | (x,y,v)::r,a,b,i,j=>by
   rw [mpAt,mpAt]
   cases (a == x&&b == y) with
   | true=>rfl
   | false=>exact mpAt_map r a b (i+1) (j+1)
theorem q80 (x y:Int) (v:Bool) (r:List (Int × Int × Bool)) (a b:Int):q7l ((x,y,v)::r) a b=bif a == x&&b == y then some v else q7l r a b:=by
 unfold q7l
 rw [mpAt]
 cases (a == x&&b == y) with
 | true=>rfl
 | false=>exact mpAt_map r a b 1 0
theorem mpFind_put:∀ (l:List (Int × Int × Bool)) (x y:Int) (v:Bool) (a b:Int),q7l (mpPut l x y v) a b=bif a == x&&b == y then some v else q7l l a b
 | [],x,y,v,a,b=>by rw [mpPut,q80]
 | (x',y',v')::r,x,y,v,a,b=>by
   rw [mpPut]
   cases h:(x == x'&&y == y') with
   | true =>
     simp only [Bool.and_eq_true,beq_iff_eq] at h
     obtain ⟨rfl,rfl⟩:=h
     rw [cond_true,q80,q80]
     cases (a == x&&b == y) <;> rfl
   | false =>
     rw [cond_false,q80,q80,mpFind_put r]
     cases h1:(a == x'&&b == y') with
     | false=>rfl
     | true =>
       cases h2:(a == x&&b == y) with
       | false=>rfl
       | true =>
         simp only [Bool.and_eq_true,beq_iff_eq] at h1 h2
         obtain ⟨rfl,rfl⟩:=h1
         obtain ⟨rfl,rfl⟩:=h2
         simp at h
def Good (l:List Symbol) (o a b:List Int) (m:List (Int × Int × Bool)):Prop:=∀ (p q:Nat) (v:Bool),q7l m p q=some v→v=gt l o a b p q
theorem Good.put {l:List Symbol} {o a b:List Int} {m:List (Int × Int × Bool)} (h:Good l o a b m) (i j:Nat):Good l o a b (mpPut m i j (gt l o a b i j)):=fun p q v hv=>by
 rw [mpFind_put] at hv
 cases hc:(((p:Int) == (i:Int))&&((q:Int) == (j:Int))) with
 | true =>
   rw [hc,cond_true] at hv
   simp only [Bool.and_eq_true,beq_iff_eq,Int.ofNat_inj] at hc
   obtain ⟨rfl,rfl⟩:=hc
   exact (Option.some.inj hv).symm
 | false=>rw [hc,cond_false] at hv; exact h p q v hv
abbrev boxI (l:List Symbol) (o a b:List Int) (m:List (Int × Int × Bool)):T := .rref [slc l,slc o,slc a,slc b,.mp m] 0
abbrev boxO (l:List Symbol) (o a b:List Int) (m:List (Int × Int × Bool)):T := .agg [slc l,slc o,slc a,slc b,.mp m]
theorem q8a (l:List Symbol) (t:List Int) (p:Nat):(subAt l t p).length≤t.length:=by simp [subAt]; omega
section
variable {l:List Symbol} (ok:SigOk ⟨l⟩) {o a b:List Int} (ha:TermOk l a) (hb:TermOk l b)
include ok ha hb
theorem q3e (m:List (Int × Int × Bool)) {p q:Nat} (hp:p < a.length) (hq:q < b.length) :
 LIM F.q3e [boxI l o a b m,.int .i64 p,.int .i64 q]=some (.bool (decide (subAt l a p=subAt l b q)),[boxO l o a b m]):=by
 refine q51 rfl 0 ((q3e.ev _ _ _ _ _ _ _ _).trans ?_)
 have h1:=q8a l a p
 have h2:=ha.le
 simp only [evz,Nat.reduceLT,(q2z ok ha hp).eq,(q2z ok hb hq).eq,(q0h (subAt l a p) (subAt l b q) (⟨by omega,fun _ _=>trivial⟩)).eq]
omit ok ha hb in
theorem idx_bound (p:Int→Bool) (l:List Int) : -1≤idx p l∧idx p l≤l.length:=by
 rcases q60 p l with ⟨h,_⟩ | ⟨i,hi,h,_⟩ <;> omega
def Knows (l:List Symbol) (o a b:List Int) (i j:Nat):Prop:=∀ m,Good l o a b m→∃ m',Good l o a b m' ∧
 LIM F.q2i [boxI l o a b m,.int .i64 i,.int .i64 j]=some (.bool (gt l o a b i j),[boxO l o a b m'])
omit ok ha hb in
theorem q6p {A:List Nat} {k:Nat} (h:k < A.length):(ints A)[k]?=some ((A[k]:Nat):Int):=by simp [ints,h]
omit ok ha hb in
theorem q3b (A:List Nat):(ints A).length=A.length:=by simp [ints]
theorem loop4 {A B:List Nat} (hA:∀ p∈A,p < a.length) (hB:∀ q∈B,q < b.length) (hAB:A.length=B.length) (hle:A.length≤2) (ih:∀ p∈A,∀ q∈B,Knows l o a b p q) :
 ∀ n k f m,k+n=A.length→n < f→Good l o a b m→∃ m',Good l o a b m' ∧
  q00.at4 8 f (q00.st4 (A.length:Nat) (k:Nat) (cells l) (cells o) (cells a) (cells b) m (cells (ints A)) (cells (ints B))) =
   some (.bool (match ((A.drop k).zip (B.drop k)).find? fun x => !decide (subAt l a x.1=subAt l b x.2) with | some x=>gt l o a b x.1 x.2 | none=>false),[boxO l o a b m']):=by
 intro n
 induction n with
 | zero =>
   intro k f m hk hf hm
   obtain ⟨f,rfl⟩:∃ x,f=x+1:=⟨f - 1,by omega⟩
   have:¬ k < A.length:=by omega
   refine ⟨m,hm,?_⟩
   simp only [q00.next4,q00.round4,evz,Nat.reduceLT,this,List.drop_of_length_le (show A.length≤k by omega),List.zip_nil_left,List.find?_nil]
 | succ n ihn =>
   intro k f m hk hf hm
   obtain ⟨f,rfl⟩:∃ x,f=x+1:=⟨f - 1,by omega⟩
   have hkA:k < A.length:=by omega
   have hkB:k < B.length:=by omega
   have hs:=q3e ok ha hb (o:=o) m (hA _ (List.getElem_mem hkA)) (hB _ (List.getElem_mem hkB))
   rw [List.drop_eq_getElem_cons hkA,List.drop_eq_getElem_cons hkB,List.zip_cons_cons,List.find?_cons]
   by_cases e:subAt l a A[k]=subAt l b B[k]
   · obtain ⟨m',hm',h'⟩:=ihn (k+1) f m (by omega) (by omega) hm
     refine ⟨m',hm',?_⟩
     simp only [q00.next4,q00.round4,evz,Nat.reduceLT,hkA,hkB,q6p,q3b,q1r,hs,e,T.isMp,T.mpL,Bool.not_true]
     rw [q0l (by omega)]
     exact h'
   · obtain ⟨m',hm',h'⟩:=ih _ (List.getElem_mem hkA) _ (List.getElem_mem hkB) m hm
     refine ⟨m',hm',?_⟩
     simp only [q00.next4,q00.round4,evz,Nat.reduceLT,hkA,hkB,q6p,q3b,q1r,hs,e,T.isMp,T.mpL,Bool.not_false,h']
omit ok ha hb in
theorem loop2 {i:Nat} {A B:List Nat} {above:Int} {Rest:List (Int × Int × Bool)→R} (hle:B.length≤2) (ih:∀ q∈B,Knows l o a b i q)
 (hrest:∀ f m,q00.at2 8 (f+1) (q00.st2 (i:Nat) above (B.length:Nat) (B.length:Nat) (cells l) (cells o) (cells a) (cells b) m (cells (ints A)) (cells (ints B)))=Rest m) :
 ∀ n k f m,k+n=B.length→n < f→Good l o a b m→∃ m',Good l o a b m' ∧
  q00.at2 8 f (q00.st2 (i:Nat) above (B.length:Nat) (k:Nat) (cells l) (cells o) (cells a) (cells b) m (cells (ints A)) (cells (ints B))) =
   if (B.drop k).any (fun q => !gt l o a b i q) then some (.bool false,[boxO l o a b m']) else Rest m':=by
 intro n
 induction n with
 | zero =>
   intro k f m hk hf hm
   obtain ⟨f,rfl⟩:∃ x,f=x+1:=⟨f - 1,by omega⟩
   obtain rfl:k=B.length:=by omega
   refine ⟨m,hm,?_⟩
   rw [hrest,List.drop_of_length_le (Nat.le_refl _)]; rfl
 | succ n ihn =>
   intro k f m hk hf hm
   obtain ⟨f,rfl⟩:∃ x,f=x+1:=⟨f - 1,by omega⟩
   have hkB:k < B.length:=by omega
   obtain ⟨m1,hm1,h1⟩:=ih _ (List.getElem_mem hkB) m hm
   rw [List.drop_eq_getElem_cons hkB,List.any_cons]
   cases e:gt l o a b i B[k] with
   | false =>
     refine ⟨m1,hm1,?_⟩
     simp only [q00.next2,q00.round2,evz,Nat.reduceLT,hkB,q6p,q3b,q1r,h1,e,T.isMp,T.mpL,Bool.not_false,Bool.true_or]
   | true =>
     obtain ⟨m',hm',h'⟩:=ihn (k+1) f m1 (by omega) (by omega) hm1
     refine ⟨m',hm',?_⟩
     simp only [q00.next2,q00.round2,evz,Nat.reduceLT,hkB,q6p,q3b,q1r,h1,e,T.isMp,T.mpL,Bool.not_true,Bool.false_or]
     rw [q0l (by omega)]
     exact h'
theorem loop0 {i j:Nat} {x y:Int} {A B:List Nat} {Rest:List (Int × Int × Bool)→R} (hj:j < b.length) (hA:∀ p∈A,p < a.length) (hle:A.length≤2) (ih:∀ p∈A,Knows l o a b p j)
 (hrest:∀ f m,q00.at0 8 (f+1) (q00.st0 (i:Nat) (j:Nat) x y (A.length:Nat) (A.length:Nat) (cells l) (cells o) (cells a) (cells b) m (cells (ints A)) (cells (ints B)))=Rest m) :
 ∀ n k f m,k+n=A.length→n < f→Good l o a b m→∃ m',Good l o a b m' ∧
  q00.at0 8 f (q00.st0 (i:Nat) (j:Nat) x y (A.length:Nat) (k:Nat) (cells l) (cells o) (cells a) (cells b) m (cells (ints A)) (cells (ints B))) =
   if (A.drop k).any (fun p=>decide (subAt l a p=subAt l b j)||gt l o a b p j) then some (.bool true,[boxO l o a b m']) else Rest m':=by
 intro n
 induction n with
 | zero =>
   intro k f m hk hf hm
   obtain ⟨f,rfl⟩:∃ x,f=x+1:=⟨f - 1,by omega⟩
   obtain rfl:k=A.length:=by omega
   refine ⟨m,hm,?_⟩
   rw [hrest,List.drop_of_length_le (Nat.le_refl _)]; rfl
 | succ n ihn =>
   intro k f m hk hf hm
   obtain ⟨f,rfl⟩:∃ x,f=x+1:=⟨f - 1,by omega⟩
   have hkA:k < A.length:=by omega
   have hs:=q3e ok ha hb (o:=o) m (hA _ (List.getElem_mem hkA)) hj
   rw [List.drop_eq_getElem_cons hkA,List.any_cons]
   by_cases e:subAt l a A[k]=subAt l b j
   · refine ⟨m,hm,?_⟩
     simp only [q00.next0,q00.round0,evz,Nat.reduceLT,hkA,q6p,q3b,q1r,hs,e,T.isMp,T.mpL,Bool.true_or]
   · obtain ⟨m1,hm1,h1⟩:=ih _ (List.getElem_mem hkA) m hm
     cases e2:gt l o a b A[k] j with
     | true =>
       refine ⟨m1,hm1,?_⟩
       simp only [q00.next0,q00.round0,evz,Nat.reduceLT,hkA,q6p,q3b,q1r,hs,e,h1,e2,T.isMp,T.mpL,Bool.true_or,Bool.or_true]
     | false =>
       obtain ⟨m',hm',h'⟩:=ihn (k+1) f m1 (by omega) (by omega) hm1
       refine ⟨m',hm',?_⟩
       simp only [q00.next0,q00.round0,evz,Nat.reduceLT,hkA,q6p,q3b,q1r,hs,e,h1,e2,T.isMp,T.mpL,Bool.false_or,Bool.or_false]
       rw [q0l (by omega)]
       exact h'
omit ok ha hb in
theorem rank_inj {x y:Int} (hx:x∈o) (h:rank o x=rank o y):x=y:=by
 unfold rank at h
 rcases q60 (fun z:Int=>decide (z=x)) o with ⟨h1,hno⟩ | ⟨i,hi,h1,hy1,_⟩
 · have:=hno x hx; simp at this
 · rcases q60 (fun z:Int=>decide (z=y)) o with ⟨h2,_⟩ | ⟨i',hi',h2,hy2,_⟩
   · omega
   · have:i=i':=by omega
     subst this
     simp at hy1 hy2
     rw [← hy1,← hy2]
omit ok ha hb in
theorem starts_le (ok:SigOk ⟨l⟩) (t:List Int) (p:Nat):(q3y l t p).length≤2:=by
 unfold q3y; rw [q65]; exact ar_le ok _
theorem q00 (hol:o.length≤1048576) (ho:∀ n:Int,0≤n→n < l.length→n∈o) {i j:Nat} (hi:i < a.length) (hj:j < b.length)
 (ih:∀ p q,i≤p→j≤q→p < a.length→q < b.length→(i < p∨j < q)→Knows l o a b p q) (m:List (Int × Int × Bool)) (hm:Good l o a b m):∃ m',Good l o a b m' ∧
  LIM F.q00 [boxI l o a b m,.int .i64 i,.int .i64 j]=some (.bool (cell l o a b (gt l o a b) i j),[boxO l o a b m']):=by
 have hai:a.getD i 0=a[i]:=q7g hi
 have hbj:b.getD j 0=b[j]:=q7g hj
 have hla:=ha.le
 have hlb:=hb.le
 have hsl:=q8a l a i
 unfold cell
 rw [hai,hbj]
 by_cases hy:b[j] < 0
 · refine ⟨m,hm,q51 rfl 8 ((q00.ev _ _ _ _ _ _ _ _).trans ?_)⟩
   by_cases hx:0≤a[i]
   · have hx':a[i] ≥ 0:=hx
     simp only [evz,Nat.reduceLT,hi,hj,List.getElem?_eq_getElem,q1r,hy,hx',hx,(q2z ok ha hi).eq,(q2a (subAt l a i) b[j] (by omega)).eq,Bool.true_and]
   · have hx':¬ a[i] ≥ 0:=hx
     simp only [evz,Nat.reduceLT,hi,hj,List.getElem?_eq_getElem,q1r,hy,hx',hx,Bool.false_and]
 by_cases hx:a[i] < 0
 · refine ⟨m,hm,q51 rfl 8 ((q00.ev _ _ _ _ _ _ _ _).trans ?_)⟩
   simp only [evz,Nat.reduceLT,hi,hj,List.getElem?_eq_getElem,q1r,hy,hx]
 have hA:∀ p∈q3y l a i,i < p∧p < a.length:=fun p hp=>q66 ha hi hp
 have hB:∀ q∈q3y l b j,j < q∧q < b.length:=fun q hq=>q66 hb hj hq
 have hAl:=starts_le ok a i
 have hBl:=starts_le ok b j
 have rx : -1≤rank o a[i]∧rank o a[i]≤o.length:=idx_bound _ o
 have ry : -1≤rank o b[j]∧rank o b[j]≤o.length:=idx_bound _ o
 have ix:Call F.q0d [slc o,.int .i64 a[i]] (.int .i64 (rank o a[i])):=q0d o a[i] (by omega)
 have iy:Call F.q0d [slc o,.int .i64 b[j]] (.int .i64 (rank o b[j])):=q0d o b[j] (by omega)
 have hw:IntKind.wrap .i64 (rank o a[i] - rank o b[j])=rank o a[i] - rank o b[j]:=q2u (by omega)
 generalize hAA:q3y l a i=A at hA hAl
 generalize hBB:q3y l b j=B at hB hBl
 let Rest2:List (Int × Int × Bool)→R:=fun m=>if rank o b[j] < rank o a[i] then some (.bool true,[boxO l o a b m]) else
  q00.at4 8 8 (q00.st4 (A.length:Nat) 0 (cells l) (cells o) (cells a) (cells b) m (cells (ints A)) (cells (ints B)))
 let Rest0:List (Int × Int × Bool)→R:=fun m=>if rank o a[i] < rank o b[j] then some (.bool false,[boxO l o a b m]) else
  q00.at2 8 8 (q00.st2 (i:Nat) (rank o a[i] - rank o b[j]) (B.length:Nat) 0 (cells l) (cells o) (cells a) (cells b) m (cells (ints A)) (cells (ints B)))
 obtain ⟨m0,hm0,e0⟩:=loop0 ok ha hb (o:=o) (i:=i) (j:=j) (x:=a[i]) (y:=b[j]) (A:=A) (B:=B) (Rest:=Rest0) hj (fun p hp=>(hA p hp).2) hAl
  (fun p hp=>ih p j (by have:=hA p hp; omega) (Nat.le_refl _) (hA p hp).2 hj (.inl (hA p hp).1)) (fun f m=>by
   simp only [q00.next0,q00.round0,evz,Nat.reduceLT,Nat.lt_irrefl,ix.eq,iy.eq,hw,q3b,Rest0]
   by_cases hr:rank o a[i] < rank o b[j]
   · rw [if_pos (by omega),if_pos hr]
   · rw [if_neg (by omega),if_neg hr]) A.length 0 8 m (by omega) (by omega) hm
 have hmain:callK prog Ev.A H LIM 8 F.q00 [boxI l o a b m,.int .i64 i,.int .i64 j]=if A.any (fun p=>decide (subAt l a p=subAt l b j)||gt l o a b p j)=true then some (.bool true,[boxO l o a b m0]) else Rest0 m0:=by
  refine (q00.ev _ _ _ _ _ _ _ _).trans ?_
  simp only [evz,Nat.reduceLT,hi,hj,List.getElem?_eq_getElem,q1r,hy,hx,(q0w ok ha hi).eq,(q0w ok hb hj).eq,hAA,hBB,q3b]
  simpa using e0
 by_cases c1:A.any (fun p=>decide (subAt l a p=subAt l b j)||gt l o a b p j)=true
 · refine ⟨m0,hm0,q51 rfl 8 (hmain.trans ?_)⟩
   simp only [c1,hy,hx,if_true,if_false]
 rw [if_neg c1] at hmain
 by_cases c2:rank o a[i] < rank o b[j]
 · refine ⟨m0,hm0,q51 rfl 8 (hmain.trans ?_)⟩
   simp only [Rest0,c1,c2,hy,hx,if_true,if_false]
   rfl
 obtain ⟨m2,hm2,e2⟩:=loop2 (o:=o) (a:=a) (b:=b) (l:=l) (i:=i) (A:=A) (B:=B) (above:=rank o a[i] - rank o b[j]) (Rest:=Rest2) hBl
  (fun q hq=>ih i q (Nat.le_refl _) (by have:=hB q hq; omega) hi (hB q hq).2 (.inr (hB q hq).1)) (fun f m=>by
   simp only [q00.next2,q00.round2,evz,Nat.reduceLT,Nat.lt_irrefl,q3b,Rest2]
   by_cases hr:rank o b[j] < rank o a[i]
   · rw [if_pos (by omega),if_pos hr]
   · rw [if_neg (by omega),if_neg hr]) B.length 0 8 m0 (by omega) (by omega) hm0
 have hmain2:callK prog Ev.A H LIM 8 F.q00 [boxI l o a b m,.int .i64 i,.int .i64 j]=if B.any (fun q => !gt l o a b i q)=true then some (.bool false,[boxO l o a b m2]) else Rest2 m2:=by
  rw [hmain]
  simp only [Rest0,if_neg c2]
  simpa using e2
 by_cases c3:B.any (fun q => !gt l o a b i q)=true
 · refine ⟨m2,hm2,q51 rfl 8 (hmain2.trans ?_)⟩
   simp only [c1,c2,c3,hy,hx,if_true,if_false]
   rfl
 rw [if_neg c3] at hmain2
 by_cases c4:rank o b[j] < rank o a[i]
 · refine ⟨m2,hm2,q51 rfl 8 (hmain2.trans ?_)⟩
   simp only [Rest2,c1,c2,c3,c4,hy,hx,if_true,if_false]
   rfl
 have hxy:a[i]=b[j]:=by
  have n1:=q4o.1 (ha.node _ (List.getElem_mem hi))
  have n2:=q4o.1 (hb.node _ (List.getElem_mem hj))
  exact rank_inj (ho _ (by omega) (by omega)) (by omega)
 have hAB:A.length=B.length:=by
  rw [← hAA,← hBB]; unfold q3y
  rw [q65,q65,hai,hbj,hxy]
 obtain ⟨m4,hm4,e4⟩:=loop4 ok ha hb (o:=o) (A:=A) (B:=B) (fun p hp=>(hA p hp).2) (fun q hq=>(hB q hq).2) hAB hAl
  (fun p hp q hq=>ih p q (by have:=hA p hp; omega) (by have:=hB q hq; omega) (hA p hp).2 (hB q hq).2 (.inl (hA p hp).1)) A.length 0 8 m2 (by omega) (by omega) hm2
 refine ⟨m4,hm4,q51 rfl 8 (hmain2.trans ?_)⟩
 simp only [Rest2,c1,c2,c3,c4,hy,hx,if_true,if_false]
 simpa using e4
theorem knows (hol:o.length≤1048576) (ho:∀ n:Int,0≤n→n < l.length→n∈o):∀ (d i j:Nat),i < a.length→j < b.length→(a.length - i)+(b.length - j)≤d→Knows l o a b i j:=by
 intro d
 induction d with
 | zero=>intros; omega
 | succ d ihd =>
   intro i j hi hj hd m hm
   cases hf:q7l m (i:Int) (j:Int) with
   | some v =>
     refine ⟨m,hm,q51 rfl 0 ((q2i.ev _ _ _ _ _ _ _ _).trans ?_)⟩
     have:=hm i j v hf
     simp only [hf,Option.isSome_some,Option.getD_some,cond_true,this,sl_cells,q7y,q39]
   | none =>
     obtain ⟨m',hm',h'⟩:=q00 ok ha hb hol ho hi hj (fun p q h1 h2 h3 h4 h5=>ihd p q h3 h4 (by omega)) m hm
     rw [← gt_eq ha hb hi hj] at h'
     refine ⟨_,hm'.put i j,q51 rfl 0 ((q2i.ev _ _ _ _ _ _ _ _).trans ?_)⟩
     simp only [evz,Nat.reduceLT,hf,Option.isSome_none,h',T.isMp,T.mpL]
theorem q4h (hol:o.length≤1048576) (ho:∀ n:Int,0≤n→n < l.length→n∈o):Call F.q4h [.agg [slc l],slc o,slc a,slc b] (.bool (gt l o a b 0 0)):=by
 have h1:=ha.pos
 have h2:=hb.pos
 obtain ⟨m',_,h'⟩:=knows ok ha hb hol ho (a.length+b.length) 0 0 (by omega) (by omega) (by omega) [] (fun p q v hv=>by simp [q7l,mpAt] at hv)
 refine q0v rfl 0 ((q4h.ev _ _ _ _ _).trans ?_)
 have h':LIM F.q2i [boxI l o a b [],.int .i64 0,.int .i64 0]=some (.bool (gt l o a b 0 0),[boxO l o a b m']):=h'
 simp only [evz,Nat.reduceLT,h',T.isMp,T.mpL]
end
theorem q1n (o:List Int) (x:Int) (hl:o.length≤4294967296):Call F.q1n [slc o,.int .i64 x] (.int .i64 (rank o x)):=by
 refine q0v rfl (o.length+1) ((q1n.ev _ _ _).trans ?_)
 refine q6o (S:=fun m k=>q1n.at0 (o.length+1) m (q1n.st0 (cells o) x (k:Nat))) (fun m k h => ?_) (fun m => ?_) (Nat.lt_succ_self _)
 · have hlk:o[k]?=some o[k]:=List.getElem?_eq_getElem h
   simp only [q1n.next0,q1n.round0,evz,Nat.reduceLT,h,hlk,q1r,decide_eq_true_eq]
   rw [q0l (by omega)]
 · simp only [q1n.next0,q1n.round0,evz,Nat.reduceLT,Nat.lt_irrefl]
section
variable {l:List Symbol} (ok:SigOk ⟨l⟩)
include ok
theorem q16 {t:List Int} (ht:TermOk l t) {p:Nat} (hp:p < t.length) (hn:0≤t[p]):Call F.q16 [.rref [slc l] 0,slc t,.int .i64 p] (slc (ints (q3y l t p))):=by
 have hle:=ht.le
 have har:=ar_le (l:=l) ok t[p]
 have hnode:=q4o.1 (ht.node _ (List.getElem_mem hp))
 have hls:l.length≤6:=ok.le
 obtain ⟨u,hu⟩:∃ u:Nat,t[p]=u:=⟨t[p].toNat,by omega⟩
 have hul:u < l.length:=by omega
 have hare:(l[u]).arity=(ar l t[p]:Nat):=by
  have:=ar_eq ok (n:=t[p]) hn (by rw [hu]; simpa using hul)
  simpa [hu] using this
 refine q0v rfl 4 ((q16.ev _ _ _ _).trans ?_)
 rw [q0l (by omega)]
 have loop:∀ n k q f (out:List Int) r,k+n=ar l t[p]→n < f→skip (ar l) n (t.drop q)=some r→out.length=k →
  q16.at0 4 f (q16.st0 (cells l) (cells t) (p:Nat) (q:Nat) (k:Nat) (cells out))=some (slc (out++ints (q6v l t n q)),[]):=by
  intro n
  induction n with
  | zero =>
    intro k q f out r hk hf hs ho
    obtain ⟨f,rfl⟩:∃ x,f=x+1:=⟨f - 1,by omega⟩
    have:¬ k < ar l t[p]:=by omega
    simp only [q16.next0,q16.round0,evz,Nat.reduceLT,hp,List.getElem?_eq_getElem,q1r,hu,hul,q2k,hare,q6v,ints,List.map_nil,List.append_nil]
    rw [← hu,if_neg this]
  | succ n ih =>
    intro k q f out r hk hf hs ho
    obtain ⟨f,rfl⟩:∃ x,f=x+1:=⟨f - 1,by omega⟩
    obtain ⟨h1,h2,h3,h4⟩:=skip_one hs
    have hlt:k < ar l t[p]:=by omega
    simp only [q16.next0,q16.round0,evz,Nat.reduceLT,hp,List.getElem?_eq_getElem,q1r,hu,hul,q2k,hare,(q7j ok ht h1).eq,q2d]
    rw [← hu,if_pos hlt,q22 (q3v (by rw [q0t,q39]; omega)),q0l (by omega),ih (k+1) (endAt l t q) f (out++[(q:Int)]) r (by omega) (by omega) h2 (by simp [ho])]
    simp [q6v,ints]
 obtain ⟨r,hr⟩:=args_skip ht hp
 have hd:t.getD p 0=t[p]:=q7g hp
 have:=loop (ar l t[p]) 0 (p+1) 4 [] r (by omega) (by omega) hr (by simp)
 unfold q3y
 rw [hd]
 simpa using this
theorem q5h {a b:List Int} (ha:TermOk l a) (hb:TermOk l b) {i j:Nat} (hi:i < a.length) (hj:j < b.length):Call F.q5h [.rref [slc l] 0,slc a,.int .i64 i,slc b,.int .i64 j] (.bool (decide (subAt l a i=subAt l b j))):=by
 refine q0v rfl 0 ((q5h.ev _ _ _ _ _ _).trans ?_)
 obtain ⟨h1,h2,_⟩:=q2o ha hi
 obtain ⟨h3,h4,_⟩:=q2o hb hj
 have h5:=q8a l a i
 have h6:=ha.le
 have hs:=(q1p (subAt l a i) (subAt l b j) ⟨by omega,fun _ _=>trivial⟩).eq
 simp only [evz,Nat.reduceLT,(q7j ok ha hi).eq,(q7j ok hb hj).eq]
 rw [q22 (by simp; omega),q22 (by simp; omega),q8x,q8x]
 unfold subAt at hs ⊢
 simp only [hs,evz,Nat.reduceLT]
omit ok in
theorem sz_bool:Enc.sz Bool=1:=rfl
omit ok in
theorem enc_bool (b:Bool):enc b=[.bool b]:=rfl
omit ok in
theorem bget {T:List Bool} {k:Nat} (h:k < T.length):(cells T)[k*1]?=some (.bool (T.getD k false)):=by
 rw [get0 (l:=T) (k:=1) (i:=k) rfl,List.getElem?_eq_getElem h,List.getD_eq_getElem?_getD,List.getElem?_eq_getElem h]; rfl
omit ok in
theorem bgetD {T:List Bool} {k:Nat} (h:k < T.length):T[k]?=some (T.getD k false):=by
 rw [List.getElem?_eq_getElem h,List.getD_eq_getElem?_getD,List.getElem?_eq_getElem h]; rfl
omit ok in
theorem q9g {i j la lb:Nat} (hi:i < la) (hj:j < lb):i*lb+j < la*lb:=by
 have:i*lb+lb≤la*lb:=by rw [← Nat.succ_mul]; exact Nat.mul_le_mul_right _ hi
 omega
omit ok in
theorem at_wrap {i j la lb:Nat} (hi:i < la) (hj:j < lb) (ha:la≤24) (hb:lb≤24):IntKind.wrap .i64 (IntKind.wrap .i64 ((i:Int)*(lb:Int))+(j:Int))=((i*lb+j:Nat):Int):=by
 have h1:=q9g hi hj
 have h2:la*lb≤24*24:=Nat.mul_le_mul ha hb
 have e1:IntKind.wrap .i64 ((i:Int)*(lb:Int))=((i*lb:Nat):Int):=by rw [← Int.natCast_mul]; exact q2u (by omega)
 rw [e1,← Int.natCast_add]; exact q2u (by omega)
section
variable {o a b:List Int} (ha:TermOk l a) (hb:TermOk l b) {T:List Bool} (hT:T.length=a.length*b.length)
include ha hb hT
theorem cell4 {A B:List Nat} (hAl:A.length≤2) (hA:∀ p∈A,p < a.length) (hB:∀ q∈B,q < b.length) :
 ∀ n k f,k+n=A.length→n < f →
  q0e.at4 8 f (q0e.st4 (cells l) (cells a) (cells b) (cells T) (b.length:Nat) (k:Nat) (cells (ints A)) (cells (ints B))) =
   some (.bool (match ((A.drop k).zip (B.drop k)).find? fun x => !decide (subAt l a x.1=subAt l b x.2) with | some x=>T.getD (x.1*b.length+x.2) false | none=>false),[]):=by
 have hla:=ha.le
 have hlb:=hb.le
 intro n
 induction n with
 | zero =>
   intro k f hk hf
   obtain ⟨f,rfl⟩:∃ x,f=x+1:=⟨f - 1,by omega⟩
   have:¬ k < A.length:=by omega
   simp only [q0e.next4,q0e.round4,evz,Nat.reduceLT,q3b,this,List.drop_of_length_le (show A.length≤k by omega),List.zip_nil_left,List.find?_nil]
 | succ n ihn =>
   intro k f hk hf
   obtain ⟨f,rfl⟩:∃ x,f=x+1:=⟨f - 1,by omega⟩
   have hkA:k < A.length:=by omega
   by_cases hkB:k < B.length
   · have hp:=hA _ (List.getElem_mem hkA)
     have hq:=hB _ (List.getElem_mem hkB)
     have hs:=(q5h ok ha hb hp hq).eq
     rw [List.drop_eq_getElem_cons hkA,List.drop_eq_getElem_cons hkB,List.zip_cons_cons,List.find?_cons]
     by_cases e:subAt l a A[k]=subAt l b B[k]
     · have:=ihn (k+1) f (by omega) (by omega)
       simp only [q0e.next4,q0e.round4,evz,Nat.reduceLT,hkA,hkB,q6p,q3b,q1r,hs,e,Bool.not_true]
       rw [q0l (by omega)]
       exact this
     · have hin:A[k]*b.length+B[k] < T.length:=by rw [hT]; exact q9g hp hq
       simp only [q0e.next4,q0e.round4,evz,Nat.reduceLT,hkA,hkB,q6p,q3b,q1r,hs,e,Bool.not_false,at_wrap hp hq hla hlb,hin,bgetD hin,enc_bool,sz_bool]
   · simp only [q0e.next4,q0e.round4,evz,Nat.reduceLT,hkA,hkB,q6p,q3b,List.drop_of_length_le (show B.length≤k by omega),List.zip_nil_right,List.find?_nil]
omit ok in
theorem cell2 {i j:Nat} {A B:List Nat} {Rest:R} (hi:i < a.length) (hB:∀ q∈B,q < b.length) (hBl:B.length≤2)
 (hrest:∀ f,q0e.at2 8 (f+1) (q0e.st2 (cells l) (cells a) (cells b) (i:Nat) (j:Nat) (cells T) (b.length:Nat) (B.length:Nat) (cells (ints A)) (cells (ints B)))=Rest) :
 ∀ n k f,k+n=B.length→n < f →
  q0e.at2 8 f (q0e.st2 (cells l) (cells a) (cells b) (i:Nat) (j:Nat) (cells T) (b.length:Nat) (k:Nat) (cells (ints A)) (cells (ints B))) =
   if (B.drop k).any (fun q => !T.getD (i*b.length+q) false) then some (.bool false,[]) else Rest:=by
 have hla:=ha.le
 have hlb:=hb.le
 intro n
 induction n with
 | zero =>
   intro k f hk hf
   obtain ⟨f,rfl⟩:∃ x,f=x+1:=⟨f - 1,by omega⟩
   obtain rfl:k=B.length:=by omega
   rw [hrest,List.drop_of_length_le (Nat.le_refl _)]; rfl
 | succ n ihn =>
   intro k f hk hf
   obtain ⟨f,rfl⟩:∃ x,f=x+1:=⟨f - 1,by omega⟩
   have hkB:k < B.length:=by omega
   have hq:=hB _ (List.getElem_mem hkB)
   have hin:i*b.length+B[k] < T.length:=by rw [hT]; exact q9g hi hq
   have:=ihn (k+1) f (by omega) (by omega)
   rw [List.drop_eq_getElem_cons hkB,List.any_cons]
   simp only [q0e.next2,q0e.round2,evz,Nat.reduceLT,hkB,q6p,q3b,q1r,at_wrap hi hq hla hlb,hin,bgetD hin,enc_bool,sz_bool]
   cases T.getD (i*b.length+B[k]) false with
   | false=>simp
   | true =>
     rw [q0l (by omega)]
     simp only [evz,Nat.reduceLT,Bool.not_true,Bool.false_or]
     exact this
theorem cell0 {o:List Int} {i j:Nat} {A:List Nat} {Rest:R} (hj:j < b.length) (hA:∀ p∈A,p < a.length) (hAl:A.length≤2)
 (hrest:∀ f,q0e.at0 8 (f+1) (q0e.st0 (cells l) (cells o) (cells a) (cells b) (i:Nat) (j:Nat) (cells T) (b.length:Nat) (A.length:Nat) (cells (ints A)))=Rest) :
 ∀ n k f,k+n=A.length→n < f →
  q0e.at0 8 f (q0e.st0 (cells l) (cells o) (cells a) (cells b) (i:Nat) (j:Nat) (cells T) (b.length:Nat) (k:Nat) (cells (ints A))) =
   if (A.drop k).any (fun p=>decide (subAt l a p=subAt l b j)||T.getD (p*b.length+j) false) then some (.bool true,[]) else Rest:=by
 have hla:=ha.le
 have hlb:=hb.le
 intro n
 induction n with
 | zero =>
   intro k f hk hf
   obtain ⟨f,rfl⟩:∃ x,f=x+1:=⟨f - 1,by omega⟩
   obtain rfl:k=A.length:=by omega
   rw [hrest,List.drop_of_length_le (Nat.le_refl _)]; rfl
 | succ n ihn =>
   intro k f hk hf
   obtain ⟨f,rfl⟩:∃ x,f=x+1:=⟨f - 1,by omega⟩
   have hkA:k < A.length:=by omega
   have hp:=hA _ (List.getElem_mem hkA)
   have hin:A[k]*b.length+j < T.length:=by rw [hT]; exact q9g hp hj
   have:=ihn (k+1) f (by omega) (by omega)
   rw [List.drop_eq_getElem_cons hkA,List.any_cons]
   simp only [q0e.next0,q0e.round0,evz,Nat.reduceLT,hkA,q6p,q3b,q1r,at_wrap hp hj hla hlb,hin,bgetD hin,enc_bool,sz_bool,(q5h ok ha hb hp hj).eq]
   cases T.getD (A[k]*b.length+j) false with
   | true=>simp
   | false =>
     by_cases e:subAt l a A[k]=subAt l b j
     · simp [e]
     · rw [q0l (by omega)]
       simp only [evz,Nat.reduceLT,e,Bool.or_false,Bool.false_or]
       exact this
theorem q0e (hol:o.length≤1048576) (ho:∀ n:Int,0≤n→n < l.length→n∈o) {i j:Nat} (hi:i < a.length) (hj:j < b.length) :
 Call F.q0e [.rref [slc l] 0,slc o,slc a,slc b,.int .i64 i,.int .i64 j,slc T] (.bool (cell l o a b (fun p q=>T.getD (p*b.length+q) false) i j)):=by
 have hai:a.getD i 0=a[i]:=q7g hi
 have hbj:b.getD j 0=b[j]:=q7g hj
 have hla:=ha.le
 have hlb:=hb.le
 have hsl:=q8a l a i
 obtain ⟨h1,h2,_⟩:=q2o ha hi
 unfold cell
 rw [hai,hbj]
 refine q0v rfl 8 ((q0e.ev _ _ _ _ _ _ _ _).trans ?_)
 by_cases hy:b[j] < 0
 · by_cases hx:0≤a[i]
   · have hx':a[i] ≥ 0:=hx
     have hc:=(q1i (subAt l a i) b[j] (by omega)).eq
     have hm:decide (((List.count b[j] (subAt l a i):Nat):Int) > 0)=decide (b[j]∈subAt l a i):=by
      rw [decide_eq_decide,← List.count_pos_iff]; omega
     simp only [evz,Nat.reduceLT,hi,hj,List.getElem?_eq_getElem,q1r,hy,hx',hx,(q7j ok ha hi).eq,Bool.true_and]
     rw [q22 (by simp; omega),q8x]
     unfold subAt at hc hm ⊢
     simp only [hc,evz,Nat.reduceLT,hm]
   · have hx':¬ a[i] ≥ 0:=hx
     simp only [evz,Nat.reduceLT,hi,hj,List.getElem?_eq_getElem,q1r,hy,hx',hx,Bool.false_and]
 by_cases hx:a[i] < 0
 · simp only [evz,Nat.reduceLT,hi,hj,List.getElem?_eq_getElem,q1r,hy,hx]
 have hA:∀ p∈q3y l a i,i < p∧p < a.length:=fun p hp=>q66 ha hi hp
 have hB:∀ q∈q3y l b j,j < q∧q < b.length:=fun q hq=>q66 hb hj hq
 have hAl:=starts_le ok a i
 have hBl:=starts_le ok b j
 have ix:=(q1n o a[i] (by omega)).eq
 have iy:=(q1n o b[j] (by omega)).eq
 have sa:=(q16 ok ha hi (by omega)).eq
 have sb:=(q16 ok hb hj (by omega)).eq
 have hne:(rank o b[j] < rank o a[i])↔(¬ rank o a[i] < rank o b[j])∧a[i]≠b[j]:=by
  have n1:=q4o.1 (ha.node _ (List.getElem_mem hi))
  constructor
  · intro h
    refine ⟨by omega,fun e => ?_⟩
    rw [e] at h; omega
  · rintro ⟨h1,h2⟩
    rcases Int.lt_or_le (rank o b[j]) (rank o a[i]) with h | h
    · exact h
    · exact absurd (rank_inj (ho _ (by omega) (by omega)) (by omega)) h2
 generalize hAA:q3y l a i=A at hA hAl sa
 generalize hBB:q3y l b j=B at hB hBl sb
 have e4:=cell4 ok ha hb hT (A:=A) (B:=B) hAl (fun p hp=>(hA p hp).2) (fun q hq=>(hB q hq).2) A.length 0 8 (by omega) (by omega)
 let Rest2:R:=if a[i]≠b[j] then some (.bool true,[]) else some (.bool (match ((A.drop 0).zip (B.drop 0)).find? fun x => !decide (subAt l a x.1=subAt l b x.2) with | some x=>T.getD (x.1*b.length+x.2) false | none=>false),[])
 have e2:=cell2 (l:=l) ha hb hT (i:=i) (j:=j) (A:=A) (B:=B) (Rest:=Rest2) hi (fun q hq=>(hB q hq).2) hBl (fun f=>by
  simp only [q0e.next2,q0e.round2,evz,Nat.reduceLT,Nat.lt_irrefl,q3b,hi,hj,List.getElem?_eq_getElem,q1r,Rest2]
  by_cases e:a[i]=b[j]
  · simp only [e,evz,Nat.reduceLT]
    rw [if_neg (fun h=>h rfl)]
    exact e4
  · simp [e]) B.length 0 8 (by omega) (by omega)
 let Rest0:R:=if rank o a[i] < rank o b[j] then some (.bool false,[]) else if (B.drop 0).any (fun q => !T.getD (i*b.length+q) false) then some (.bool false,[]) else Rest2
 have e0:=cell0 ok ha hb hT (o:=o) (i:=i) (j:=j) (A:=A) (Rest:=Rest0) hj (fun p hp=>(hA p hp).2) hAl (fun f=>by
  simp only [q0e.next0,q0e.round0,evz,Nat.reduceLT,Nat.lt_irrefl,q3b,hi,hj,List.getElem?_eq_getElem,q1r,ix,iy,sb,Rest0]
  by_cases hr:rank o a[i] < rank o b[j]
  · rw [if_pos hr,if_pos hr]
  · rw [if_neg hr,if_neg hr]
    exact e2) A.length 0 8 (by omega) (by omega)
 simp only [evz,Nat.reduceLT,hi,hj,List.getElem?_eq_getElem,q1r,hy,hx,sa]
 refine Eq.trans e0 ?_
 simp only [Rest0,Rest2,List.drop_zero]
 by_cases c1:A.any (fun p=>decide (subAt l a p=subAt l b j)||T.getD (p*b.length+j) false)=true
 · rw [if_pos c1,if_pos c1]
 rw [if_neg c1,if_neg c1]
 by_cases c2:rank o a[i] < rank o b[j]
 · rw [if_pos c2,if_pos c2]
 rw [if_neg c2,if_neg c2]
 by_cases c3:B.any (fun q => !T.getD (i*b.length+q) false)=true
 · rw [if_pos c3,if_pos c3]
 rw [if_neg c3,if_neg c3]
 by_cases c4:rank o b[j] < rank o a[i]
 · rw [if_pos c4,if_pos (hne.1 c4).2]
 · rw [if_neg c4,if_neg (fun h=>c4 (hne.2 ⟨c2,h⟩))]
end
omit ok in
theorem set_Bool {T:List Bool} {k:Nat} (h:k < T.length) (v:Bool):setCells (cells T) (k*1) [.bool v]=cells (T.set k v):=cells_set T 1 k rfl v h
omit ok in
theorem rep_Bool (n:Nat):repT n [.bool false]=cells (List.replicate n false):=cells_rep n false
def Done (l:List Symbol) (o a b:List Int) (T:List Bool) (n:Nat):Prop :=
 T.length=a.length*b.length∧∀ p q,p < a.length→q < b.length→n≤p*b.length+q→T.getD (p*b.length+q) false=gt l o a b p q
omit ok in
theorem at_inj {n p q i j:Nat} (hq:q < n) (hj:j < n) (h:p*n+q=i*n+j):p=i∧q=j:=by
 rcases Nat.lt_trichotomy p i with h1 | h1 | h1
 · have:(p+1)*n≤i*n:=Nat.mul_le_mul_right _ h1
   rw [Nat.succ_mul] at this; omega
 · subst h1; exact ⟨rfl,by omega⟩
 · have:(i+1)*n≤p*n:=Nat.mul_le_mul_right _ h1
   rw [Nat.succ_mul] at this; omega
omit ok in
theorem Done.cell {o a b:List Int} (ha:TermOk l a) (hb:TermOk l b) {T:List Bool} {i j:Nat} (hi:i < a.length) (hj:j < b.length) (h:Done l o a b T (i*b.length+(j+1))) :
 cell l o a b (fun p q=>T.getD (p*b.length+q) false) i j=gt l o a b i j:=by
 rw [gt_eq ha hb hi hj]
 refine cell_congr ha hb hi hj fun p q h1 h2 h3 h4 h5=>h.2 p q h3 h4 ?_
 have h6:i*b.length≤p*b.length:=Nat.mul_le_mul_right _ h1
 rcases h5 with h5 | h5
 · have:(i+1)*b.length≤p*b.length:=Nat.mul_le_mul_right _ h5
   rw [Nat.succ_mul] at this; omega
 · omega
omit ok in
theorem Done.set {o a b:List Int} {T:List Bool} {i j:Nat} (hi:i < a.length) (hj:j < b.length) (h:Done l o a b T (i*b.length+(j+1))):Done l o a b (T.set (i*b.length+j) (gt l o a b i j)) (i*b.length+j):=by
 have hin:=q9g hi hj
 refine ⟨by rw [List.length_set]; exact h.1,fun p q hp hq hle => ?_⟩
 by_cases e:i*b.length+j=p*b.length+q
 · obtain ⟨rfl,rfl⟩:=at_inj hq hj e.symm
   simp [List.getD_eq_getElem?_getD,h.1,hin]
 · have:=h.2 p q hp hq (by omega)
   rw [← this,List.getD_eq_getElem?_getD,List.getD_eq_getElem?_getD,List.getElem?_set_ne e]
theorem table2 {o a b:List Int} (ha:TermOk l a) (hb:TermOk l b) (hol:o.length≤1048576) (ho:∀ n:Int,0≤n→n < l.length→n∈o) (L0:St→R) {i:Nat} (hi:i < a.length) :
 ∀ (k f:Nat) (T:List Bool),k≤b.length→k < f→Done l o a b T (i*b.length+k)→∃ T',Done l o a b T' (i*b.length) ∧
  q0k.at2 25 L0 f (q0k.st2 (cells l) (cells o) (cells a) (cells b) (b.length:Nat) (i:Nat) ((k:Int) - 1) (cells T)) =
   L0 (q0k.st0 (cells l) (cells o) (cells a) (cells b) (b.length:Nat) ((i:Int) - 1) (cells T')):=by
 have hla:=ha.le
 have hlb:=hb.le
 intro k
 induction k with
 | zero =>
   intro f T hk hf hd
   obtain ⟨f,rfl⟩:∃ x,f=x+1:=⟨f - 1,by omega⟩
   refine ⟨T,by simpa using hd,?_⟩
   have h1:¬ (((0:Nat):Int) - 1 ≥ 0):=by omega
   simp only [q0k.next2,q0k.round2,cond_dec]
   rw [if_neg h1,q2u (by omega)]
 | succ k ih =>
   intro f T hk hf hd
   obtain ⟨f,rfl⟩:∃ x,f=x+1:=⟨f - 1,by omega⟩
   have hj:k < b.length:=by omega
   have hin:i*b.length+k < T.length:=by rw [hd.1]; exact q9g hi hj
   obtain ⟨T',hd',h'⟩:=ih f (T.set (i*b.length+k) (gt l o a b i k)) (by omega) (by omega) (hd.set hi hj)
   refine ⟨T',hd',?_⟩
   have e:((k+1:Nat):Int) - 1=(k:Int):=by omega
   have hc:=q0e ok ha hb hd.1 hol ho hi hj
   rw [hd.cell ha hb hi hj] at hc
   have h1:(k:Int) ≥ 0:=by omega
   rw [e]
   simp only [q0k.next2,q0k.round2,evz,Nat.reduceLT,h1,hc.eq,at_wrap hi hj hla hlb,hin,sz_bool]
   rw [q2u (by omega),if_pos (by rw [q0t,sz_bool]; omega),set_Bool hin]
   exact h'
theorem q0k {o a b:List Int} (ha:TermOk l a) (hb:TermOk l b) (hol:o.length≤1048576) (ho:∀ n:Int,0≤n→n < l.length→n∈o) :
 ∃ T,Done l o a b T 0∧Call F.q0k [.rref [slc l] 0,slc o,slc a,slc b] (slc T):=by
 have hla:=ha.le
 have hlb:=hb.le
 have outer:∀ (m f:Nat) (T:List Bool),m≤a.length→m < f→Done l o a b T (m*b.length)→∃ T',Done l o a b T' 0 ∧
  q0k.at0 25 f (q0k.st0 (cells l) (cells o) (cells a) (cells b) (b.length:Nat) ((m:Int) - 1) (cells T))=some (slc T',[]):=by
  intro m
  induction m with
  | zero =>
    intro f T hm hf hd
    obtain ⟨f,rfl⟩:∃ x,f=x+1:=⟨f - 1,by omega⟩
    refine ⟨T,by simpa using hd,?_⟩
    have h1:¬ (((0:Nat):Int) - 1 ≥ 0):=by omega
    simp only [q0k.next0,q0k.round0,cond_dec]
    rw [if_neg h1]; rfl
  | succ m ih =>
    intro f T hm hf hd
    obtain ⟨f,rfl⟩:∃ x,f=x+1:=⟨f - 1,by omega⟩
    have e:((m+1:Nat):Int) - 1=(m:Int):=by omega
    have h1:(m:Int) ≥ 0:=by omega
    obtain ⟨T1,hd1,h1'⟩:=table2 ok ha hb hol ho (q0k.at0 25 f) (i:=m) (by omega) b.length 25 T (Nat.le_refl _) (by omega) (by rw [← Nat.succ_mul]; exact hd)
    obtain ⟨T',hd',h'⟩:=ih f T1 (by omega) (by omega) hd1
    refine ⟨T',hd',?_⟩
    rw [e]
    simp only [q0k.next0,q0k.round0,cond_dec]
    rw [if_pos h1,q2u (by omega),h1',h']
 have hmul:a.length*b.length≤24*24:=Nat.mul_le_mul hla hlb
 obtain ⟨T,hd,h⟩:=outer a.length 25 (List.replicate (a.length*b.length) false) (Nat.le_refl _) (by omega) ⟨by simp,fun p q hp hq hle=>by have:=q9g hp hq; omega⟩
 refine ⟨T,hd,q0v rfl 25 ((q0k.ev _ _ _ _ _).trans ?_)⟩
 have hw:IntKind.wrap .i64 ((a.length:Int)*(b.length:Int))=((a.length*b.length:Nat):Int):=by rw [← Int.natCast_mul]; exact q2u (by omega)
 simp only [q5b,q39,hw,Int.toNat_natCast,rep_Bool]
 rw [q22 (by simp; omega),q2u (by omega)]
 exact h
theorem q56 {o a b:List Int} (ha:TermOk l a) (hb:TermOk l b) (hol:o.length≤1048576) (ho:∀ n:Int,0≤n→n < l.length→n∈o) :
 Call F.q56 [.rref [slc l] 0,slc o,slc a,slc b] (.bool (gt l o a b 0 0)):=by
 obtain ⟨T,hd,h⟩:=q0k ok ha hb hol ho
 have h1:=ha.pos
 have h2:=hb.pos
 have hT:0 < T.length:=by rw [hd.1]; exact Nat.mul_pos h1 h2
 have h3:=hd.2 0 0 h1 h2 (Nat.zero_le _)
 simp only [Nat.zero_mul,Nat.add_zero] at h3
 refine q0v rfl 0 ((q56.ev _ _ _ _ _).trans ?_)
 have hg:=bget (T:=T) (k:=0) hT
 rw [Nat.zero_mul,h3] at hg
 simp only [evz,Nat.reduceLT,h.eq,sz_bool,hg]
 rw [show inB (0:Int) T.length=true from (q7a 0 T.length).trans (by simpa using hT)]
 rfl
end
end Ev.Ty
end
section
namespace Ev.Ty
open Go Ev
open Enc (enc)
open Sm (sm)
set_option linter.unusedSimpArgs false
set_option linter.unusedVariables false
theorem TermOk.range {l:List Symbol} (ok:SigOk ⟨l⟩) {t:List Int} (h:TermOk l t):∀ n∈t,-4611686018427387904≤n∧n≤4611686018427387904:=fun n hn=>by
 have:=q4o.1 (h.node n hn)
 have hle:l.length≤6:=ok.le
 omega
theorem q69 (t:List Int):Call F.q69 [slc t] (.agg (enc (if 24 < t.length then (⟨2,[]⟩:TermResult) else ⟨0,t⟩))):=by
 refine q0v rfl 0 ((q69.ev _ _).trans ?_)
 simp only [evz,Nat.reduceLT,gt_iff_lt]
 by_cases h:24 < t.length
 · have h':(24:Int) < t.length:=by omega
   simp only [h,h',evz,Nat.reduceLT,q2v,q7b]
 · have h':¬ (24:Int) < t.length:=by omega
   simp only [h,h',evz,Nat.reduceLT,q2v]
theorem q5i (t:List Int) (n:Int) (hl:t.length≤4294967296):Call F.q5i [slc t,.int .i64 n] (.bool (inR n 0 (t.length - 1))):=by
 refine q0v rfl 0 ((q5i.ev _ _ _).trans ?_)
 simp only [evz,Nat.reduceLT,q2u (x:=(t.length:Int) - 1) (by omega),(q4w _ _ _).eq]
theorem getE {es:List Equation} {k:Nat} (h:k < es.length):es.getD k ⟨[],[]⟩=es[k]:=by rw [List.getD_eq_getElem?_getD,List.getElem?_eq_getElem h]; rfl
end Ev.Ty
end
section
namespace Ev.Ty
open Go Ev
open Enc (enc)
open Sm (sm)
set_option linter.unusedSimpArgs false
set_option linter.unusedVariables false
theorem skip_append {a:Int→Nat}:∀ {x r q:List Int} {k:Nat},skip a k x=some q→skip a k (x++r)=some (q++r)
 | x,r,q,0,h=>by rw [q3q] at h; cases h; rw [q3q]
 | [],r,q,k+1,h=>by cases h
 | n::x,r,q,k+1,h=>by
   rw [skip] at h
   rw [List.cons_append,skip]
   exact skip_append h
theorem skip_cut {a:Int→Nat}:∀ {x r:List Int} {k:Nat},skip a k (x++r)=some r→skip a k x=some []
 | x,r,0,h=>by
   rw [q3q] at h
   have:=congrArg List.length (Option.some.inj h)
   rw [List.length_append] at this
   have:x=[]:=List.eq_nil_of_length_eq_zero (by omega)
   subst this; rfl
 | [],r,k+1,h=>by
   obtain ⟨p,hp,hk⟩:=q8z h
   have h1:=congrArg List.length hp
   rw [List.nil_append,List.length_append] at h1
   have h2:=hk (by omega)
   omega
 | n::x,r,k+1,h=>by
   rw [List.cons_append,skip] at h
   rw [skip]
   exact skip_cut h
theorem skip_nil {a:Int→Nat} {m:Nat} {r:List Int} (h:skip a m []=some r):m=0∧r=[]:=by
 cases m with
 | zero=>rw [q3q] at h; cases h; exact ⟨rfl,rfl⟩
 | succ m=>cases h
theorem q48 {l:List Symbol} {t:List Int} (ht:TermOk l t) {p:Nat} (hp:p < t.length):t.drop p=subAt l t p++t.drop (endAt l t p)∧(subAt l t p).length=endAt l t p - p∧skip (ar l) 1 (t.drop p)=some (t.drop (endAt l t p)):=by
 obtain ⟨h1,h2,_⟩:=q2o ht hp
 have hl:(subAt l t p).length=endAt l t p - p:=by simp [subAt]; omega
 refine ⟨?_,hl,?_⟩
 · have e:t.drop (endAt l t p)=(t.drop p).drop (endAt l t p - p):=by rw [List.drop_drop]; congr 1; omega
   have e2:subAt l t p=(t.drop p).take (endAt l t p - p):=by unfold subAt; rw [List.drop_take]
   rw [e,e2,List.take_append_drop]
 · obtain ⟨q,hq⟩:=skip_inner (p:=p) ht.skip (by simpa using hp)
   have:=(skip_at hq).1
   rw [hq]
   unfold endAt
   rw [hq]
   exact congrArg some this
theorem q6f {l:List Symbol} {t:List Int} (ht:TermOk l t) {p:Nat} (hp:p < t.length):TermOk l (subAt l t p):=by
 obtain ⟨h1,h2,h3⟩:=q48 ht hp
 obtain ⟨h4,h5,_⟩:=q2o ht hp
 have:=ht.le
 refine ⟨by omega,by omega,fun n hn=>ht.node n ?_,?_⟩
 · exact List.mem_of_mem_drop (h1 ▸ List.mem_append_left _ hn)
 · rw [h1] at h3; exact skip_cut h3
theorem sub_place {l:List Symbol} {t:List Int} (ht:TermOk l t) {p:Nat} (hp:p < t.length) {i:Nat} (hi:i < (subAt l t p).length) :
 p+i < t.length∧(subAt l t p).getD i 0=t.getD (p+i) 0∧endAt l t (p+i)=p+endAt l (subAt l t p) i∧subAt l (subAt l t p) i=subAt l t (p+i):=by
 obtain ⟨h1,h2,h3⟩:=q48 ht hp
 obtain ⟨h4,h5,_⟩:=q2o ht hp
 have hu:=q6f ht hp
 have hpi:p+i < t.length:=by omega
 obtain ⟨h6,h7,h8⟩:=q48 hu hi
 obtain ⟨k1,k2,k3⟩:=q48 ht hpi
 obtain ⟨h9,h10,_⟩:=q2o hu hi
 obtain ⟨k4,k5,_⟩:=q2o ht hpi
 have hd:t.drop (p+i)=(subAt l t p).drop i++t.drop (endAt l t p):=by
  rw [← List.drop_drop,h1,List.drop_append_of_le_length (by omega)]
 have e1:endAt l t (p+i)=p+endAt l (subAt l t p) i:=by
  have h:=skip_append (r:=t.drop (endAt l t p)) h8
  rw [← hd,k3] at h
  have:=congrArg List.length (Option.some.inj h)
  simp only [List.length_drop,List.length_append] at this
  omega
 refine ⟨hpi,?_,e1,?_⟩
 · have:=congrArg (fun x=>x[0]?) hd
   simp only [List.getElem?_drop,Nat.add_zero] at this
   rw [List.getD_eq_getElem?_getD,List.getD_eq_getElem?_getD,this,List.getElem?_append_left (by simp; omega),List.getElem?_drop,Nat.add_zero]
 · have q1:subAt l t (p+i)=(t.drop (p+i)).take (endAt l t (p+i) - (p+i)):=by unfold subAt; rw [List.drop_take]
   have q2:subAt l (subAt l t p) i=((subAt l t p).drop i).take (endAt l (subAt l t p) i - i):=by
    show ((subAt l t p).take (endAt l (subAt l t p) i)).drop i=_
    rw [List.drop_take]
   rw [q1,q2,hd,e1,List.take_append_of_le_length (by simp; omega)]
   congr 1; omega
abbrev Bnd:=List Int × List (List Int)
def insAt (vs:List Int) (v:Int):Nat:=(vs.takeWhile fun x=>decide (x < v)).length
def ins {α:Type} (l:List α) (i:Nat) (x:α):List α:=l.take i++x::l.drop i
def bput (b:Bnd) (v:Int) (t:List Int):Bnd:=(ins b.1 (insAt b.1 v) v,ins b.2 (insAt b.1 v) t)
theorem insAt_le (vs:List Int) (v:Int):insAt vs v≤vs.length:=by
 have:=(List.takeWhile_sublist (l:=vs) (p:=fun x=>decide (x < v))).length_le
 exact this
theorem insAt_lt:∀ (vs:List Int) (v:Int) (i:Nat) (h:i < insAt vs v) (h':i < vs.length),vs[i] < v
 | [],v,i,h,h'=>by simp at h'
 | x::vs,v,i,h,h'=>by
   unfold insAt at h
   rw [List.takeWhile_cons] at h
   by_cases hx:x < v
   · rw [if_pos (by simpa using hx)] at h
     cases i with
     | zero=>exact hx
     | succ i=>exact insAt_lt vs v i (by simpa [insAt] using h) (by simpa using h')
   · rw [if_neg (by simpa using hx)] at h; simp at h
theorem insAt_stop:∀ (vs:List Int) (v:Int) (h':insAt vs v < vs.length),¬ vs[insAt vs v] < v
 | [],v,h'=>by simp at h'
 | x::vs,v,h'=>by
   by_cases hx:x < v
   · have e:insAt (x::vs) v=insAt vs v+1:=by unfold insAt; rw [List.takeWhile_cons,if_pos (by simpa using hx)]; rfl
     have:=insAt_stop vs v (by rw [e] at h'; simpa using h')
     simpa [e] using this
   · have e:insAt (x::vs) v=0:=by unfold insAt; rw [List.takeWhile_cons,if_neg (by simpa using hx)]; rfl
     simpa [e] using hx
theorem q72 {α:Type} (l:List α) (i:Nat) (x:α) (h:i≤l.length):(ins l i x).length=l.length+1:=by simp [ins]; omega
theorem mem_ins {α:Type} {l:List α} {i:Nat} {x y:α} (h:y∈ins l i x):y=x∨y∈l:=by
 unfold ins at h
 rcases List.mem_append.1 h with h | h
 · exact .inr (List.mem_of_mem_take h)
 · rcases List.mem_cons.1 h with h | h
   · exact .inl h
   · exact .inr (List.mem_of_mem_drop h)
structure MB (l:List Symbol) (b:Bnd) (k:Nat):Prop where
 len:b.1.length=b.2.length
 le:b.1.length≤k
 var:∀ v∈b.1,0≤v∧v≤11
 tm:∀ t∈b.2,TermOk l t
theorem MB.nil (l:List Symbol):MB l ([],[]) 0:=⟨rfl,Nat.le_refl _,by simp,by simp⟩
theorem MB.up {l:List Symbol} {b:Bnd} {k k':Nat} (h:MB l b k) (hk:k≤k'):MB l b k':=⟨h.len,Nat.le_trans h.le hk,h.var,h.tm⟩
theorem MB.put {l:List Symbol} {b:Bnd} {k:Nat} (h:MB l b k) {v:Int} (hv:0≤v∧v≤11) {t:List Int} (ht:TermOk l t):MB l (bput b v t) (k+1):=by
 have hi:=insAt_le b.1 v
 have hlen:=h.len
 have:=h.le
 refine ⟨?_,?_,fun x hx => ?_,fun x hx => ?_⟩
 · unfold bput; rw [q72 _ _ _ hi,q72 _ _ _ (by omega)]; omega
 · unfold bput; rw [q72 _ _ _ hi]; omega
 · rcases mem_ins hx with rfl | hx
   · exact hv
   · exact h.var x hx
 · rcases mem_ins hx with rfl | hx
   · exact ht
   · exact h.tm x hx
theorem MB.ok {l:List Symbol} {b:Bnd} {k:Nat} (h:MB l b k) (hk:k≤24):BindOk b.1 b.2 :=
 ⟨h.len,by have:=h.le; omega,fun v hv=>(h.var v hv).1,fun t ht=>⟨(h.tm t ht).pos,by have:=(h.tm t ht).le; omega⟩⟩
theorem bindOf_none {vs:List Int} {ts:List (List Int)} (hl:vs.length=ts.length) {v:Int} (h:q3d vs ts v=none):v∉vs:=fun hv=>by
 unfold q3d at h
 rcases q60 (fun x:Int=>decide (x=v)) vs with ⟨h1,hno⟩ | ⟨i,hi,h1,_,_⟩
 · have:=hno v hv; simp at this
 · rw [h1,if_neg (by omega),Int.toNat_natCast,List.getElem?_eq_getElem (by omega)] at h
   cases h
def mgo (l:List Symbol) (t:List Int):List Int→Bnd→Nat→Option (Bnd × Nat)
 | [],b,p=>some (b,p)
 | n::q,b,p =>
   if t.length≤p then none
   else if 0≤n then (if t.getD p 0=n then mgo l t q b (p+1) else none)
   else match q3d b.1 b.2 (-1 - n) with
    | none=>mgo l t q (bput b (-1 - n) (subAt l t p)) (p+(subAt l t p).length)
    | some o=>if o=subAt l t p then mgo l t q b (p+(subAt l t p).length) else none
structure Both (l:List Symbol) (t q:List Int) (p:Nat) (r:List Int):Prop where
 both:∃ m,skip (ar l) m q=some []∧skip (ar l) m (t.drop p)=some r
theorem Both.start {l:List Symbol} {t q:List Int} (ht:TermOk l t) (hq:TermOk l q) {p:Nat} (hp:p < t.length):Both l t q p (t.drop (endAt l t p)):=⟨1,hq.skip,(q48 ht hp).2.2⟩
theorem Both.stop {l:List Symbol} {t:List Int} {p:Nat} {r:List Int} (h:Both l t [] p r):t.drop p=r:=by
 obtain ⟨m,h1,h2⟩:=h.both
 obtain ⟨rfl,_⟩:=skip_nil h1
 rw [q3q] at h2
 exact Option.some.inj h2
theorem Both.lt {l:List Symbol} {t q:List Int} {n:Int} {p:Nat} {r:List Int} (h:Both l t (n::q) p r):p < t.length:=by
 obtain ⟨m,h1,h2⟩:=h.both
 cases m with
 | zero=>rw [q3q] at h1; cases h1
 | succ m =>
   rcases Nat.lt_or_ge p t.length with h | h
   · exact h
   · rw [List.drop_of_length_le h] at h2; cases h2
theorem Both.node {l:List Symbol} {t q:List Int} {n:Int} {p:Nat} {r:List Int} (h:Both l t (n::q) p r) (hn:t.getD p 0=n):Both l t q (p+1) r:=by
 have hp:=h.lt
 obtain ⟨m,h1,h2⟩:=h.both
 cases m with
 | zero=>rw [q3q] at h1; cases h1
 | succ m =>
   rw [List.drop_eq_getElem_cons hp,skip,← q7g hp,hn] at h2
   rw [skip] at h1
   exact ⟨_,h1,h2⟩
theorem Both.var {l:List Symbol} {t q:List Int} {n:Int} {p:Nat} {r:List Int} (ht:TermOk l t) (h:Both l t (n::q) p r) (hn:n < 0):Both l t q (p+(subAt l t p).length) r:=by
 have hp:=h.lt
 obtain ⟨h3,h4,h5⟩:=q48 ht hp
 obtain ⟨h6,h7,_⟩:=q2o ht hp
 obtain ⟨m,h1,h2⟩:=h.both
 cases m with
 | zero=>rw [q3q] at h1; cases h1
 | succ m =>
   rw [skip,ar_neg l hn,Nat.add_zero] at h1
   rw [show m+1=1+m by omega,q88,h5] at h2
   refine ⟨m,h1,?_⟩
   rw [h4,show p+(endAt l t p - p)=endAt l t p by omega]
   exact h2
theorem mgo_sub {l:List Symbol} {t:List Int} (ht:TermOk l t) {p:Nat} (hp:p < t.length):∀ (q:List Int) (b:Bnd) (i:Nat),Both l (subAt l t p) q i [] →
 mgo l t q b (p+i)=(mgo l (subAt l t p) q b i).map fun x=>(x.1,p+x.2)
 | [],b,i,h=>rfl
 | n::q,b,i,h=>by
   have hu:=q6f ht hp
   have hi:=h.lt
   obtain ⟨h1,h2,h3,h4⟩:=sub_place ht hp hi
   have n1:¬ t.length≤p+i:=by omega
   have n2:¬ (subAt l t p).length≤i:=by omega
   rw [mgo,mgo,if_neg n1,if_neg n2,h2,h4]
   by_cases hn:0≤n
   · rw [if_pos hn,if_pos hn]
     by_cases e:t.getD (p+i) 0=n
     · rw [if_pos e,if_pos e]
       exact mgo_sub ht hp q b (i+1) (h.node (by rw [h2,e]))
     · rw [if_neg e,if_neg e]; rfl
   · rw [if_neg hn,if_neg hn]
     have hv:=h.var hu (by omega)
     rw [h4] at hv
     cases q3d b.1 b.2 (-1 - n) with
     | none =>
       have:=mgo_sub ht hp q (bput b (-1 - n) (subAt l t (p+i))) _ hv
       rw [← Nat.add_assoc] at this
       exact this
     | some o =>
       show (if o=_ then _ else none)=Option.map _ (if o=_ then _ else none)
       by_cases e:o=subAt l t (p+i)
       · rw [if_pos e,if_pos e]
         have:=mgo_sub ht hp q b _ hv
         rw [← Nat.add_assoc] at this
         exact this
       · rw [if_neg e,if_neg e]; rfl
theorem mgo_end {l:List Symbol} {t:List Int} (ht:TermOk l t) {r:List Int}:∀ (q:List Int) (b:Bnd) (p k:Nat),Both l t q p r→p≤t.length→MB l b k→k+q.length≤24→(∀ n∈q,q4x l n=true)→∀ x,mgo l t q b p=some x→t.drop x.2=r∧x.2≤t.length∧MB l x.1 (k+q.length)
 | [],b,p,k,h,hp,hb,hk,hq,x,hx=>by
   cases hx
   exact ⟨h.stop,hp,by simpa using hb⟩
 | n::q,b,p,k,h,hp,hb,hk,hq,x,hx=>by
   have hlt:=h.lt
   obtain ⟨h6,h7,_⟩:=q2o ht hlt
   have hs:=(q48 ht hlt).2.1
   rw [mgo,if_neg (by omega)] at hx
   rw [List.length_cons] at hk ⊢
   have e0:k+1+q.length=k+(q.length+1):=by omega
   by_cases hn:0≤n
   · rw [if_pos hn] at hx
     split at hx
     · rename_i e
       have:=mgo_end ht q b (p+1) (k+1) (h.node e) (by omega) (hb.up (by omega)) (by omega) (fun n hn=>hq n (List.mem_cons_of_mem _ hn)) x hx
       rw [e0] at this; exact this
     · cases hx
   · rw [if_neg hn] at hx
     have hnode:=q4o.1 (hq n (by simp))
     split at hx
     · have:=mgo_end ht q _ _ (k+1) (h.var ht (by omega)) (by omega) (hb.put (v := -1 - n) (by omega) (q6f ht hlt)) (by omega) (fun n hn=>hq n (List.mem_cons_of_mem _ hn)) x hx
       rw [e0] at this; exact this
     · split at hx
       · have:=mgo_end ht q b _ (k+1) (h.var ht (by omega)) (by omega) (hb.up (by omega)) (by omega) (fun n hn=>hq n (List.mem_cons_of_mem _ hn)) x hx
         rw [e0] at this; exact this
       · cases hx
def q41 (l:List Symbol) (q t:List Int) (p:Nat):Option Bnd:=(mgo l t q ([],[]) p).map (·.1)
theorem q93 {l:List Symbol} {q t:List Int} (hq:TermOk l q) (ht:TermOk l t) {p:Nat} (hp:p < t.length):q41 l q (subAt l t p) 0=q41 l q t p:=by
 have hu:=q6f ht hp
 have hb:=Both.start hu hq (p:=0) (by have:=hu.pos; omega)
 have he:t.drop p=subAt l t p++t.drop (endAt l t p):=(q48 ht hp).1
 have e0:(subAt l t p).drop (endAt l (subAt l t p) 0)=[]:=by
  have:=(q48 hu (p:=0) (by have:=hu.pos; omega)).2.2
  rw [List.drop_zero,hu.skip] at this
  exact (Option.some.inj this).symm
 rw [e0] at hb
 have:=mgo_sub ht hp q ([],[]) 0 hb
 unfold q41
 rw [Nat.add_zero] at this
 rw [this]
 cases mgo l (subAt l t p) q ([],[]) 0 <;> rfl
theorem matchAt_ok {l:List Symbol} {q t:List Int} (hq:TermOk l q) (ht:TermOk l t) {p:Nat} (hp:p < t.length) {b:Bnd} (h:q41 l q t p=some b):MB l b q.length:=by
 unfold q41 at h
 rw [Option.map_eq_some_iff] at h
 obtain ⟨x,hx,rfl⟩:=h
 have:=(mgo_end ht q ([],[]) p 0 (Both.start ht hq hp) (by omega) (MB.nil l) (by have:=hq.le; omega) hq.node x hx).2.2
 simpa using this
end Ev.Ty
end
section
namespace Ev.Ty
section
variable {α:Type} (lt:α→α→Bool)
variable {lt}
end
end Ev.Ty
end
section
namespace Ev.Ty
open Go Ev
set_option linter.unusedSimpArgs false
set_option linter.unusedVariables false
namespace Tm
def args:Tm→List Tm
 | v _=>[]
 | k _=>[]
 | u _ x=>[x]
 | b _ x y=>[x,y]
def size:Tm→Nat
 | v _=>1
 | k _=>1
 | u _ x=>x.size+1
 | b _ x y=>x.size+y.size+1
theorem q3w {p t:Tm} (h:p∈t.args):p.size < t.size:=by
 cases t with
 | v n=>cases h
 | k n=>cases h
 | u n x=>rw [List.mem_singleton.1 h]; exact Nat.lt_succ_self _
 | b n x y =>
   rcases List.mem_cons.1 h with rfl | h
   · show p.size < p.size+y.size+1; omega
   · rw [List.mem_singleton.1 h]; show y.size < x.size+y.size+1; omega
def gr (a:Int→Nat):Tm→Prop
 | v _=>False
 | k n=>0≤n∧a n=0
 | u n x=>0≤n∧a n=1∧x.gr a
 | b n x y=>0≤n∧a n=2∧x.gr a∧y.gr a
variable {a:Int→Nat}
theorem gr.args {t p:Tm} (h:t.gr a) (hp:p∈t.args):p.gr a:=by
 cases t with
 | v n=>cases h
 | k n=>cases hp
 | u n x=>rw [List.mem_singleton.1 hp]; exact h.2.2
 | b n x y =>
   rcases List.mem_cons.1 hp with rfl | hp
   · exact h.2.2.1
   · rw [List.mem_singleton.1 hp]; exact h.2.2.2
theorem gr.ok:∀ {t:Tm},t.gr a→t.ok a
 | .v _,h=>h.elim
 | .k _,h=>h
 | .u _ _,h=>⟨h.1,h.2.1,h.2.2.ok⟩
 | .b _ _ _,h=>⟨h.1,h.2.1,h.2.2.1.ok,h.2.2.2.ok⟩
theorem gr.head {t:Tm} (h:t.gr a):0≤t.head∧t.args.length=a t.head:=by
 cases t with
 | v n=>cases h
 | k n=>exact ⟨h.1,h.2.symm⟩
 | u n x=>exact ⟨h.1,h.2.1.symm⟩
 | b n x y=>exact ⟨h.1,h.2.1.symm⟩
theorem ok.args {t p:Tm} (h:t.ok a) (hp:p∈t.args):p.ok a:=by
 cases t with
 | v n=>cases hp
 | k n=>cases hp
 | u n x=>rw [List.mem_singleton.1 hp]; exact h.2.2
 | b n x y =>
   rcases List.mem_cons.1 hp with rfl | hp
   · exact h.2.2.1
   · rw [List.mem_singleton.1 hp]; exact h.2.2.2
theorem ok.len {t:Tm} (ha:∀ n,n < 0→a n=0) (h:t.ok a):t.args.length=a t.head:=by
 cases t with
 | v n=>exact (ha n h).symm
 | k n=>exact h.2.symm
 | u n x=>exact h.2.1.symm
 | b n x y=>exact h.2.1.symm
theorem ok.head {t p:Tm} (h:t.ok a) (hp:p∈t.args):0≤t.head:=by
 cases t with
 | v n=>cases hp
 | k n=>cases hp
 | u n x=>exact h.1
 | b n x y=>exact h.1
theorem args_flat {t p:Tm} (hp:p∈t.args) {n:Int} (hn:n∈p.flat):n∈t.flat:=by
 cases t with
 | v m=>cases hp
 | k m=>cases hp
 | u m x=>rw [List.mem_singleton.1 hp] at hn; exact List.mem_cons_of_mem _ hn
 | b m x y =>
   rcases List.mem_cons.1 hp with rfl | hp
   · exact List.mem_cons_of_mem _ (List.mem_append_left _ hn)
   · rw [List.mem_singleton.1 hp] at hn; exact List.mem_cons_of_mem _ (List.mem_append_right _ hn)
end Tm
open Tm
inductive G (r:Int→Int):Tm→Tm→Prop
 | eq {s p}:p∈s.args→G r s p
 | sub {s t p}:p∈s.args→G r p t→G r s t
 | big {s t}:0≤s.head→0≤t.head→r t.head < r s.head→(∀ q,q∈t.args→G r s q)→G r s t
 | lex {s t A B C x y}:0≤s.head→s.head=t.head→(∀ q,q∈t.args→G r s q)→s.args=A++x::B→t.args=A++y::C→G r x y→G r s t
namespace G
variable {r:Int→Int}
theorem arg {s t q:Tm} (h:G r s t) (hq:q∈t.args):G r s q:=by
 induction h with
 | eq hp=>exact .sub hp (.eq hq)
 | sub hp _ ih=>exact .sub hp (ih hq)
 | big _ _ _ h=>exact h q hq
 | lex _ _ h _ _ _=>exact h q hq
theorem trans:∀ (n:Nat) {s t u:Tm},s.size+t.size+u.size≤n→G r s t→G r t u→G r s u:=by
 intro n
 induction n with
 | zero=>intro s t u hn h1 h2; cases s <;> simp [Tm.size] at hn
 | succ n ih =>
   intro s t u hn h1 h2
   cases h1 with
   | eq hp=>exact .sub hp h2
   | sub hp h1 =>
     have:=q3w hp
     exact .sub hp (ih (by omega) h1 h2)
   | big z1 z2 hr hq =>
     have h1:G r s t := .big z1 z2 hr hq
     cases h2 with
     | eq hu=>exact hq _ hu
     | sub hp h2 =>
       have:=q3w hp
       exact ih (by omega) (hq _ hp) h2
     | big _ z3 hr2 hq2=>exact .big z1 z3 (Int.lt_trans hr2 hr) fun w hw=>ih (by have:=q3w hw; omega) h1 (hq2 w hw)
     | lex z3 he hq2 _ _ _=>exact .big z1 (he ▸ z3) (he ▸ hr) fun w hw=>ih (by have:=q3w hw; omega) h1 (hq2 w hw)
   | @lex _ _ A B C x y z1 he hq e1 e2 hxy =>
     have h1:G r s t := .lex z1 he hq e1 e2 hxy
     cases h2 with
     | eq hu=>exact hq _ hu
     | sub hp h2 =>
       have:=q3w hp
       exact ih (by omega) (hq _ hp) h2
     | big _ z3 hr2 hq2=>exact .big z1 z3 (by rw [he]; exact hr2) fun w hw=>ih (by have:=q3w hw; omega) h1 (hq2 w hw)
     | @lex _ _ A' B' C' x' y' z3 he2 hq2 e3 e4 hxy2 =>
       have hall:∀ w,w∈u.args→G r s w:=fun w hw=>ih (by have:=q3w hw; omega) h1 (hq2 w hw)
       have hx:x.size < s.size:=q3w (by rw [e1]; simp)
       have hy:y.size < t.size:=q3w (by rw [e2]; simp)
       have hy':y'.size < u.size:=q3w (by rw [e4]; simp)
       rcases List.append_eq_append_iff.1 (e2.symm.trans e3) with ⟨D,hA,hD⟩ | ⟨D,hA,hD⟩
       · cases D with
         | nil =>
           rw [List.append_nil] at hA
           have hD:y=x'∧C=B':=by simpa using hD
           subst hA
           refine .lex z1 (he.trans he2) hall e1 e4 (ih (by omega) hxy (hD.1 ▸ hxy2))
         | cons d D =>
           have hD:y=d∧C=D++x'::B':=by simpa using hD
           rw [hA,List.append_assoc] at e4
           rw [← hD.1] at e4
           exact .lex z1 (he.trans he2) hall e1 e4 hxy
       · cases D with
         | nil =>
           rw [List.append_nil] at hA
           have hD:x'=y∧B'=C:=by simpa using hD
           subst hA
           refine .lex z1 (he.trans he2) hall e1 e4 (ih (by omega) hxy (hD.1 ▸ hxy2))
         | cons d D =>
           have hD:x'=d∧B'=D++y::C:=by simpa using hD
           rw [hA,List.append_assoc] at e1
           rw [← hD.1] at e1
           exact .lex z1 (he.trans he2) hall e1 e4 hxy2
theorem irrefl:∀ (n:Nat) {s:Tm},s.size≤n→¬ G r s s:=by
 intro n
 induction n with
 | zero=>intro s hn _; cases s <;> simp [Tm.size] at hn
 | succ n ih =>
   intro s hn h
   cases h with
   | eq hp=>have:=q3w hp; omega
   | sub hp h=>exact ih (by have:=q3w hp; omega) (h.arg hp)
   | big _ _ hr _=>omega
   | @lex _ _ A B C x y _ _ _ e1 e2 hxy =>
     have e:=e1.symm.trans e2
     have e:=List.append_cancel_left e
     have e:x=y∧B=C:=by simpa using e
     exact ih (s:=x) (by have:x.size < s.size:=q3w (by rw [e1]; simp)
                         omega) (by have:=hxy; rw [← e.1] at this; exact this)
theorem var {a:Int→Nat} {n:Int} (hn:n < 0):∀ (m:Nat) {x:Tm},x.size≤m→x.ok a→(G r x (.v n)↔0≤x.head∧n∈x.flat):=by
 intro m
 induction m with
 | zero=>intro x hm _; cases x <;> simp [Tm.size] at hm
 | succ m ih =>
   intro x hm hx
   have up:∀ p,p∈x.args→n∈p.flat→G r x (.v n):=fun p hp hnp=>by
    have hpo:=hx.args hp
    by_cases h0:0≤p.head
    · exact .sub hp ((ih (by have:=q3w hp; omega) hpo).2 ⟨h0,hnp⟩)
    · cases p with
      | v k=>rw [List.mem_singleton.1 hnp]; exact .eq hp
      | k k=>exact absurd hpo.1 h0
      | u k y=>exact absurd hpo.1 h0
      | b k y z=>exact absurd hpo.1 h0
   constructor
   · intro h
     cases h with
     | eq hp=>exact ⟨hx.head hp,args_flat hp (List.mem_singleton.2 rfl)⟩
     | sub hp h=>exact ⟨hx.head hp,args_flat hp ((ih (by have:=q3w hp; omega) (hx.args hp)).1 h).2⟩
     | big _ z _ _=>exact absurd z (by show ¬ 0≤n; omega)
     | lex z e _ _ _ _ =>
       have e:x.head=n:=e
       omega
   · rintro ⟨h1,h2⟩
     cases x with
     | v k=>have h1:0≤k:=h1; have hx:k < 0:=hx; omega
     | k k =>
       have h1:0≤k:=h1
       have:=List.mem_singleton.1 h2
       omega
     | u k y =>
       have h1:0≤k:=h1
       rcases List.mem_cons.1 h2 with e | h2
       · omega
       · exact up y (List.mem_singleton.2 rfl) h2
     | b k y z =>
       have h1:0≤k:=h1
       rcases List.mem_cons.1 h2 with e | h2
       · omega
       · rcases List.mem_append.1 h2 with h2 | h2
         · exact up y (List.mem_cons_self ..) h2
         · exact up z (List.mem_cons_of_mem _ (List.mem_singleton.2 rfl)) h2
variable {a:Int→Nat}
end G
end Ev.Ty
end
section
namespace Ev.Ty
open Go Ev
open Tm
set_option linter.unusedSimpArgs false
set_option linter.unusedVariables false
theorem flat_inj {a:Int→Nat}:∀ (x y:Tm) (r r':List Int),x.ok a→y.ok a→x.flat++r=y.flat++r'→x=y∧r=r':=by
 have hd:∀ {n m:Int} {A B:List Int},n::A=m::B→n=m:=fun h=>(List.cons.inj h).1
 intro x
 induction x with
 | v n =>
   intro y r r' h1 h2 h
   cases y with
   | v m=>have h:n=m∧r=r':=List.cons.inj h; exact ⟨by rw [h.1],h.2⟩
   | k m=>have e:=hd h; have h1:n < 0:=h1; have:=h2.1; omega
   | u m y=>have e:=hd h; have h1:n < 0:=h1; have:=h2.1; omega
   | b m y z=>have e:=hd h; have h1:n < 0:=h1; have:=h2.1; omega
 | k n =>
   intro y r r' h1 h2 h
   cases y with
   | v m=>have e:=hd h; have h2:m < 0:=h2; have:=h1.1; omega
   | k m=>have h:n=m∧r=r':=List.cons.inj h; exact ⟨by rw [h.1],h.2⟩
   | u m y=>have e:=hd h; have h1:=h1.2; have h2:=h2.2.1; rw [e] at h1; omega
   | b m y z=>have e:=hd h; have h1:=h1.2; have h2:=h2.2.1; rw [e] at h1; omega
 | u n x ih =>
   intro y r r' h1 h2 h
   cases y with
   | v m=>have e:=hd h; have h2:m < 0:=h2; have:=h1.1; omega
   | k m=>have e:=hd h; have h1:=h1.2.1; have h2:=h2.2; rw [e] at h1; omega
   | u m y =>
     have h:n=m∧x.flat++r=y.flat++r':=List.cons.inj h
     obtain ⟨e1,e2⟩:=ih y r r' h1.2.2 h2.2.2 h.2
     exact ⟨by rw [h.1,e1],e2⟩
   | b m y z=>have e:=hd h; have h1:=h1.2.1; have h2:=h2.2.1; rw [e] at h1; omega
 | b n x w ih1 ih2 =>
   intro y r r' h1 h2 h
   cases y with
   | v m=>have e:=hd h; have h2:m < 0:=h2; have:=h1.1; omega
   | k m=>have e:=hd h; have h1:=h1.2.1; have h2:=h2.2; rw [e] at h1; omega
   | u m y=>have e:=hd h; have h1:=h1.2.1; have h2:=h2.2.1; rw [e] at h1; omega
   | b m y z =>
     have h:n=m∧(x.flat++w.flat)++r=(y.flat++z.flat)++r':=List.cons.inj h
     have h':=h.2
     rw [List.append_assoc,List.append_assoc] at h'
     obtain ⟨e1,e2⟩:=ih1 y _ _ h1.2.2.1 h2.2.2.1 h'
     obtain ⟨e3,e4⟩:=ih2 z _ _ h1.2.2.2 h2.2.2.2 e2
     exact ⟨by rw [h.1,e1,e3],e4⟩
theorem flat_iff {a:Int→Nat} {x y:Tm} (hx:x.ok a) (hy:y.ok a):x.flat=y.flat↔x=y :=
 ⟨fun h=>(flat_inj x y [] [] hx hy (by rw [h])).1,fun h=>by rw [h]⟩
inductive F2 {α β:Type} (R:α→β→Prop):List α→List β→Prop
 | nil:F2 R [] []
 | cons {a b A B}:R a b→F2 R A B→F2 R (a::A) (b::B)
theorem F2.any {α β:Type} {R:α→β→Prop} {f:α→Bool} {P:β→Prop} {A:List α} {B:List β} (h:F2 R A B) (hf:∀ a b,R a b→b∈B→(f a=true↔P b)):A.any f=true↔∃ b,b∈B∧P b:=by
 induction h with
 | nil=>simp
 | @cons a b A B hr _ ih =>
   rw [List.any_cons,Bool.or_eq_true,hf a b hr (List.mem_cons_self ..),ih fun a b hr hb=>hf a b hr (List.mem_cons_of_mem _ hb)]
   constructor
   · rintro (h | ⟨b',h1,h2⟩)
     · exact ⟨b,List.mem_cons_self .., h⟩
     · exact ⟨b',List.mem_cons_of_mem _ h1,h2⟩
   · rintro ⟨b',h1,h2⟩
     rcases List.mem_cons.1 h1 with rfl | h1
     · exact .inl h2
     · exact .inr ⟨b',h1,h2⟩
def At (l:List Symbol) (t:List Int) (i:Nat) (x:Tm):Prop:=x.ok (ar l)∧∃ r,t.drop i=x.flat++r
theorem At.facts {l:List Symbol} {t:List Int} {i:Nat} {x:Tm} (h:At l t i x):i < t.length∧t.getD i 0=x.head∧endAt l t i=i+x.flat.length∧subAt l t i=x.flat:=by
 obtain ⟨hx,r,h⟩:=h
 obtain ⟨h1,h2,h3⟩:=at_head h
 have hs:skip (ar l) 1 (t.drop i)=some r:=by
  rw [h,skip_flat (fun n hn=>ar_neg l hn) x r 0 hx,q3q]
 have hl:(t.drop i).length=x.flat.length+r.length:=by rw [h,List.length_append]
 rw [List.length_drop] at hl
 have he:endAt l t i=i+x.flat.length:=by
  unfold endAt
  rw [hs]
  show t.length - r.length=_
  omega
 refine ⟨h1,?_,he,?_⟩
 · rw [List.getD_eq_getElem?_getD,h2]; rfl
 · unfold subAt
   rw [he,List.drop_take,Nat.add_sub_cancel_left,h,List.take_left]
theorem At.next {l:List Symbol} {t:List Int} {i:Nat} {n:Int} {x:Tm} {r:List Int} (hx:x.ok (ar l)) (h:t.drop i=n::(x.flat++r)):At l t (i+1) x:=⟨hx,r,by
 rw [← List.drop_drop,h]; rfl⟩
theorem At.args {l:List Symbol} {t:List Int} {i:Nat} {x:Tm} (h:At l t i x):F2 (At l t) (q3y l t i) x.args:=by
 obtain ⟨_,h2,_,_⟩:=h.facts
 obtain ⟨hx,r,h⟩:=h
 unfold q3y
 rw [h2,← hx.len (fun n hn=>ar_neg l hn)]
 cases x with
 | v n=>exact .nil
 | k n=>exact .nil
 | u n x=>exact .cons (At.next hx.2.2 h) .nil
 | b n x y =>
   have h:t.drop i=n::(x.flat++(y.flat++r)):=by rw [h]; simp [Tm.flat]
   have a1:=At.next hx.2.2.1 h
   refine .cons a1 (.cons ⟨hx.2.2.2,r,?_⟩ .nil)
   rw [a1.facts.2.2.1,← List.drop_drop,← List.drop_drop,h]
   show (x.flat++(y.flat++r)).drop _=_
   rw [List.drop_left]
theorem diff_unique {p q p' q':Tm} {B C B' C':List Tm}:∀ A A':List Tm,A++p::B=A'++p'::B'→A++q::C=A'++q'::C'→p≠q→p'≠q'→p=p'∧q=q'
 | [],[],h1,h2,_,_=>by simp at h1 h2; exact ⟨h1.1,h2.1⟩
 | [],d::A',h1,h2,h,_=>by simp at h1 h2; exact absurd (h1.1.trans h2.1.symm) h
 | d::A,[],h1,h2,_,h=>by simp at h1 h2; exact absurd (h1.1.symm.trans h2.1) h
 | d::A,d'::A',h1,h2,h,h'=>by
   simp at h1 h2
   exact diff_unique A A' h1.2 h2.2 h h'
theorem G_iff {r:Int→Int} {x y:Tm}:G r x y↔(∃ p,p∈x.args∧(p=y∨G r p y))∨((∀ q,q∈y.args→G r x q)∧((0≤x.head∧0≤y.head∧r y.head < r x.head)∨(0≤x.head∧x.head=y.head∧∃ A B C p q,x.args=A++p::B∧y.args=A++q::C∧G r p q))):=by
 constructor
 · intro h
   cases h with
   | eq hp=>exact .inl ⟨_,hp,.inl rfl⟩
   | sub hp h=>exact .inl ⟨_,hp,.inr h⟩
   | big z1 z2 h1 h2=>exact .inr ⟨h2,.inl ⟨z1,z2,h1⟩⟩
   | lex z1 he h2 e1 e2 h=>exact .inr ⟨h2,.inr ⟨z1,he,_,_,_,_,_,e1,e2,h⟩⟩
 · rintro (⟨p,hp,rfl | h⟩ | ⟨h2,⟨z1,z2,h1⟩ | ⟨z1,he,A,B,C,p,q,e1,e2,h⟩⟩)
   · exact .eq hp
   · exact .sub hp h
   · exact .big z1 z2 h1 h2
   · exact .lex z1 he h2 e1 e2 h
section
variable {l:List Symbol} {o a b:List Int}
theorem find_first {S T:List Nat} {A B:List Tm} (hA:F2 (At l a) S A) (hB:F2 (At l b) T B) (hl:A.length=B.length) :
 (((S.zip T).find? fun x => !decide (subAt l a x.1=subAt l b x.2))=none∧A=B) ∨
 ∃ s t P p q X Y,((S.zip T).find? fun x => !decide (subAt l a x.1=subAt l b x.2))=some (s,t)∧A=P++p::X∧B=P++q::Y∧p≠q∧At l a s p∧At l b t q:=by
 induction hA generalizing T B with
 | nil =>
   cases hB with
   | nil=>exact .inl ⟨rfl,rfl⟩
   | cons _ _=>simp at hl
 | @cons s p S A hr _ ih =>
   cases hB with
   | nil=>simp at hl
   | @cons t q T B hr' hB =>
     rw [List.zip_cons_cons,List.find?_cons]
     have e:subAt l a s=subAt l b t↔p=q:=by rw [hr.facts.2.2.2,hr'.facts.2.2.2]; exact flat_iff hr.1 hr'.1
     by_cases h:p=q
     · rw [show (!decide (subAt l a s=subAt l b t))=false by rw [decide_eq_true (e.2 h)]; rfl]
       rcases ih hB (by simpa using hl) with ⟨h1,h2⟩ | ⟨s',t',P,p',q',X,Y,h1,h2,h3,h4⟩
       · exact .inl ⟨h1,by rw [h,h2]⟩
       · exact .inr ⟨s',t',p::P,p',q',X,Y,h1,by rw [h2]; rfl,by rw [h3,h]; rfl,h4⟩
     · rw [show (!decide (subAt l a s=subAt l b t))=true by rw [decide_eq_false (fun k=>h (e.1 k))]; rfl]
       exact .inr ⟨s,t,[],p,q,A,B,rfl,rfl,rfl,h,hr,hr'⟩
theorem gt_G (ha:TermOk l a) (hb:TermOk l b) (hin:∀ n∈a,0≤n→n∈o):∀ (n:Nat) {i j:Nat} {x y:Tm},x.size+y.size≤n→At l a i x→At l b j y→(gt l o a b i j=true↔G (rank o) x y):=by
 intro n
 induction n with
 | zero=>intro i j x y hn _ _; cases x <;> simp [Tm.size] at hn
 | succ n ih =>
   intro i j x y hn hx hy
   obtain ⟨i1,i2,_,i4⟩:=hx.facts
   obtain ⟨j1,j2,_,j4⟩:=hy.facts
   have hxo:0≤x.head→x.head∈o:=hin _ (by rw [← i2,List.getD_eq_getElem?_getD,List.getElem?_eq_getElem i1]; exact List.getElem_mem _)
   have c1:(q3y l a i).any (fun p=>decide (subAt l a p=subAt l b j)||gt l o a b p j)=true↔∃ p,p∈x.args∧(p=y∨G (rank o) p y):=by
    refine hx.args.any fun p z hz hm => ?_
    rw [Bool.or_eq_true,decide_eq_true_iff,hz.facts.2.2.2,j4,flat_iff hz.1 hy.1,ih (by have:=q3w hm; omega) hz hy]
   have c2:(q3y l b j).any (fun q => !gt l o a b i q)=true↔∃ q,q∈y.args∧¬ G (rank o) x q:=by
    refine hy.args.any fun p z hz hm => ?_
    rw [Bool.not_eq_true',← Bool.not_eq_true,ih (by have:=q3w hm; omega) hx hz]
   by_cases hy0:y.head < 0
   · obtain ⟨n',rfl⟩:∃ n',y = .v n':=by
      cases y with
      | v m=>exact ⟨m,rfl⟩
      | k m=>exact absurd hy.1.1 (by show ¬ 0≤m; have:m < 0:=hy0; omega)
      | u m y=>exact absurd hy.1.1 (by show ¬ 0≤m; have:m < 0:=hy0; omega)
      | b m y z=>exact absurd hy.1.1 (by show ¬ 0≤m; have:m < 0:=hy0; omega)
     have j2:b.getD j 0=n':=j2
     have hn':n' < 0:=hy0
     rw [gt_eq ha hb i1 j1,G.var hn' _ (Nat.le_refl _) hx.1]
     unfold cell
     rw [j2,i2,if_pos hn',i4,Bool.and_eq_true,decide_eq_true_iff,decide_eq_true_iff]
   by_cases hx0:x.head < 0
   · rw [gt_eq ha hb i1 j1]
     unfold cell
     rw [j2,i2,if_neg hy0,if_pos hx0]
     refine ⟨(fun h=>by cases h),fun h => ?_⟩
     cases h with
     | eq hp=>have:=hx.1.head hp; omega
     | sub hp _=>have:=hx.1.head hp; omega
     | big z _ _ _=>omega
     | lex z _ _ _ _ _=>omega
   rw [gt_eq ha hb i1 j1,G_iff]
   unfold cell
   rw [j2,i2,if_neg hy0,if_neg hx0]
   have hy0:0≤y.head:=by omega
   have hx0:0≤x.head:=by omega
   have hxo:=hxo hx0
   by_cases k1:∃ p,p∈x.args∧(p=y∨G (rank o) p y)
   · rw [if_pos (c1.2 k1)]
     exact ⟨fun _ => .inl k1,fun _=>rfl⟩
   · rw [if_neg (fun h=>k1 (c1.1 h))]
     by_cases k2:∃ q,q∈y.args∧¬ G (rank o) x q
     · have k3:¬ ∀ q,q∈y.args→G (rank o) x q:=fun h=>by obtain ⟨q,h1,h2⟩:=k2; exact h2 (h q h1)
       rw [if_pos (c2.2 k2)]
       have e:(if rank o x.head < rank o y.head then false else false)=false:=by split <;> rfl
       rw [e]
       exact ⟨(fun h=>by cases h),fun h=>h.elim (fun h=>absurd h k1) fun h=>absurd h.1 k3⟩
     · have k3:∀ q,q∈y.args→G (rank o) x q:=fun q hq=>Classical.byContradiction fun h=>k2 ⟨q,hq,h⟩
       rw [if_neg (fun h=>k2 (c2.1 h))]
       by_cases k4:rank o x.head < rank o y.head
       · rw [if_pos k4]
         refine ⟨(fun h=>by cases h),fun h => ?_⟩
         rcases h with h | ⟨_,h | ⟨_,h,_⟩⟩
         · exact absurd h k1
         · have:=h.2.2; omega
         · rw [h] at k4; omega
       · rw [if_neg k4]
         by_cases k5:rank o y.head < rank o x.head
         · rw [if_pos k5]
           exact ⟨fun _ => .inr ⟨k3,.inl ⟨hx0,hy0,k5⟩⟩,fun _=>rfl⟩
         · rw [if_neg k5]
           have he:x.head=y.head:=rank_inj hxo (by omega)
           rcases find_first hx.args hy.args (by rw [hx.1.len (fun n hn=>ar_neg l hn),hy.1.len (fun n hn=>ar_neg l hn),he]) with ⟨h1,h2⟩ | ⟨s,t,P,p,q,X,Y,h1,h2,h3,h4,h5,h6⟩
           · rw [h1]
             refine ⟨(fun h=>by cases h),fun h => ?_⟩
             rcases h with h | ⟨_,h | ⟨_,_,A,B,C,p,q,e1,e2,h⟩⟩
             · exact absurd h k1
             · have:=h.2.2; omega
             · have e:=e1.symm.trans (h2.trans e2)
               have e:=List.append_cancel_left e
               have e:p=q∧B=C:=by simpa using e
               rw [e.1] at h
               exact absurd h (G.irrefl q.size (Nat.le_refl _))
           · rw [h1]
             have mp:p∈x.args:=by rw [h2]; simp
             have mq:q∈y.args:=by rw [h3]; simp
             show gt l o a b s t=true↔_
             rw [ih (by have:=q3w mp; have:=q3w mq; omega) h5 h6]
             refine ⟨fun h => .inr ⟨k3,.inr ⟨hx0,he,P,X,Y,p,q,h2,h3,h⟩⟩,fun h => ?_⟩
             rcases h with h | ⟨_,h | ⟨_,_,A,B,C,p',q',e1,e2,h⟩⟩
             · exact absurd h k1
             · have:=h.2.2; omega
             · obtain ⟨g1,g2⟩:=diff_unique P A (h2.symm.trans e1) (h3.symm.trans e2) h4 (fun e=>by rw [e] at h; exact G.irrefl q'.size (Nat.le_refl _) h)
               rw [g1,g2]; exact h
end
def Closed (l:List Symbol) (t:List Int):Prop:=TermOk l t∧∀ n∈t,0≤n
theorem gr_of {a:Int→Nat}:∀ x:Tm,x.ok a→(∀ n∈x.flat,0≤n)→x.gr a
 | .v n,h,h2=>by have h:n < 0:=h; have:=h2 n (List.mem_singleton.2 rfl); omega
 | .k n,h,_=>h
 | .u n x,h,h2=>⟨h.1,h.2.1,gr_of x h.2.2 fun m hm=>h2 m (List.mem_cons_of_mem _ hm)⟩
 | .b n x y,h,h2=>⟨h.1,h.2.1,gr_of x h.2.2.1 fun m hm=>h2 m (List.mem_cons_of_mem _ (List.mem_append_left _ hm)),gr_of y h.2.2.2 fun m hm=>h2 m (List.mem_cons_of_mem _ (List.mem_append_right _ hm))⟩
theorem Closed.at {l:List Symbol} (ok:SigOk ⟨l⟩) {t:List Int} (h:Closed l t):∃ x,At l t 0 x∧t=x.flat∧x.gr (ar l):=by
 obtain ⟨x,hx,e⟩:=h.1.tree ok
 exact ⟨x,⟨hx,[],by simpa using e⟩,e,gr_of x hx (e ▸ h.2)⟩
section
variable {l:List Symbol} (ok:SigOk ⟨l⟩) {o:List Int} (ho:∀ n:Int,0≤n→n < l.length→n∈o)
include ok ho
theorem Closed.inO {t:List Int} (h:Closed l t):∀ n∈t,0≤n→n∈o:=fun n hn h0=>by
 have:=h.1.node n hn
 unfold q4x at this
 rw [Bool.or_eq_true,q75,q75] at this
 exact ho n h0 (by omega)
end
end Ev.Ty
end
section
namespace Ev.Ty
open Go Ev
open Enc (enc)
open Sm (sm)
set_option linter.unusedSimpArgs false
set_option linter.unusedVariables false
def Drawn (code:List UInt8) (p c:Int) (P:T→Prop) (r:R):Prop:=∃ x p',r=some (x,[.agg [slc code,.int .i64 p']])∧p≤p'∧p'≤p+c∧P x
theorem q76 {code:List UInt8} {p c:Int} {P:T→Prop} {g:FuncId} {args:List T} (hx:X g=none) (n:Nat) (h:Drawn code p c P (callK prog A H LIM n g args)):Drawn code p c P (LIM g args):=by
 obtain ⟨x,p',e,h⟩:=h
 exact ⟨x,p',lim_of hx n e,h⟩
theorem Drawn.more {code:List UInt8} {p p1 c c1:Int} {P P1:T→Prop} {r:R} (h:Drawn code p1 c1 P1 r) (h1:p≤p1) (h2:p1+c1≤p+c) (hP:∀ x,P1 x→P x):Drawn code p c P r:=by
 obtain ⟨x,p',e,a,b,q⟩:=h
 exact ⟨x,p',e,by omega,by omega,hP x q⟩
theorem q4l {code:List UInt8} {p p' c:Int} {P:T→Prop} {x:T} (h1:p≤p'∧p'≤p+c) (h:P x):Drawn code p c P (some (x,[.agg [slc code,.int .i64 p']])):=⟨x,p',rfl,h1.1,h1.2,h⟩
theorem q5p {Q:R→Prop} {code:List UInt8} {p c:Int} {P:T→Prop} {r:R} {K:T × List T→R} (h:Drawn code p c P r)
 (k:∀ x p',p≤p'→p'≤p+c→P x→Q (K (x,[.agg [slc code,.int .i64 p']]))):Q (r.bind K):=by
 obtain ⟨x,p',rfl,a,b,q⟩:=h
 exact k x p' a b q
theorem q64 {σ:Type} {S:Nat→σ→R} {Q:R→Prop} (I:σ→Prop) (μ:σ→Nat) (step:∀ m s,I s→Q (S (m+1) s)∨∃ s',S (m+1) s=S m s'∧I s'∧μ s' < μ s):∀ f s,I s→μ s < f→Q (S f s):=by
 intro f
 induction f with
 | zero=>intro s _ h; omega
 | succ f ih =>
   intro s hi hm
   rcases step f s hi with h | ⟨s',e,hi',hm'⟩
   · exact h
   · rw [e]; exact ih s' hi' (by omega)
@[simp] theorem oBx_bx (c:List T):oBx (.bx c)=some c:=Eq.trans rfl rfl
theorem tmod_nn {a b:Int} (ha:0≤a) (hb:0 < b):0≤Int.tmod a b∧Int.tmod a b < b:=⟨Int.tmod_nonneg b ha,Int.tmod_lt_of_pos a hb⟩
abbrev src (code:List UInt8) (p:Int):T := .rref [slc code,.int .i64 p] 0
theorem u8_bound (b:UInt8):(0:Int)≤(b.toNat:Int)∧(b.toNat:Int) < 256:=⟨by omega,by have:=b.toNat_lt; omega⟩
section
variable {code:List UInt8} (hc:code.length≤2097152)
include hc
theorem at_idx {p:Int} (hp:0≤p) (hl:0 < code.length):∃ i:Nat,Int.tmod p (code.length:Int)=i∧i < code.length:=by
 obtain ⟨h1,h2⟩:=tmod_nn hp (show (0:Int) < (code.length:Int) by omega)
 exact ⟨(Int.tmod p (code.length:Int)).toNat,by omega,by omega⟩
theorem q1c (p n:Int) (hp:0≤p∧p≤1099511627776) :
 ∃ v:Int,LIM F.q1c [.rref [slc code,.int .i64 p] 0,.int .i64 n]=some (.int .i64 v,[.agg [slc code,.int .i64 (p+1)]])∧0≤v∧(1≤n→v < n):=by
 have e1:IntKind.wrap .i64 (p+1)=p+1:=q2u (by omega)
 have e2:IntKind.wrap .i64 (p+1 - 1)=p:=by rw [q2u (by omega)]; omega
 by_cases hn:n < 1
 · refine ⟨0,q51 rfl 0 ((q1c.ev _ _ _ _).trans ?_),by omega,by omega⟩
   simp only [evz,Nat.reduceLT,hn,e1]
 rw [Int.not_lt] at hn
 have hn0:¬ n=0:=by omega
 by_cases hl:code.length=0
 · obtain ⟨q1,q2⟩:=tmod_nn (a:=p*7) (b:=n) (by omega) (by omega)
   refine ⟨Int.tmod (p*7) n,q51 rfl 0 ((q1c.ev _ _ _ _).trans ?_),q1,fun _=>q2⟩
   have z:((code.length:Nat):Int)=0:=by omega
   have z1:¬ n < 1:=by omega
   simp only [evz,Nat.reduceLT,z1,z,hn0,e1,e2,q2u (x:=p*7) (by omega)]
 have z1:¬ n < 1:=by omega
 obtain ⟨i,hi,hil⟩:=at_idx hc hp.1 (by omega)
 obtain ⟨j,hj,hjl⟩:=at_idx (code:=code) hc (p:=p+1) (by omega) (by omega)
 have b1:=u8_bound code[i]
 have b2:=u8_bound code[j]
 have hd:0≤Int.tdiv p code.length∧Int.tdiv p code.length≤p:=⟨Int.tdiv_nonneg hp.1 (by omega),Int.tdiv_le_self _ hp.1⟩
 have d1:¬ ((code.length:Nat):Int)=0:=by omega
 generalize hk:Int.tdiv p code.length=d at hd
 have w1:IntKind.wrap .i64 d=d:=q2u (by omega)
 have w2:IntKind.wrap .i64 (d*37)=d*37:=q2u (by omega)
 have w3:IntKind.wrap .i64 (code[i].toNat:Int)=(code[i].toNat:Int):=q2u (by omega)
 have w4:IntKind.wrap .i64 (code[j].toNat:Int)=(code[j].toNat:Int):=q2u (by omega)
 have w5:IntKind.wrap .i64 ((code[i].toNat:Int)+d*37)=(code[i].toNat:Int)+d*37:=q2u (by omega)
 have w6:IntKind.wrap .i64 (((code[i].toNat:Int)+d*37)*251)=((code[i].toNat:Int)+d*37)*251:=q2u (by omega)
 have w7:IntKind.wrap .i64 ((code[j].toNat:Int)*13)=(code[j].toNat:Int)*13:=q2u (by omega)
 have w8:IntKind.wrap .i64 (((code[i].toNat:Int)+d*37)*251+(code[j].toNat:Int)*13)=((code[i].toNat:Int)+d*37)*251+(code[j].toNat:Int)*13:=q2u (by omega)
 have w9:IntKind.wrap .i64 (((code[i].toNat:Int)+d*37)*251+(code[j].toNat:Int)*13+p)=((code[i].toNat:Int)+d*37)*251+(code[j].toNat:Int)*13+p:=q2u (by omega)
 by_cases hbig:n > 200
 · obtain ⟨q1,q2⟩:=tmod_nn (a:=((code[i].toNat:Int)+d*37)*251+(code[j].toNat:Int)*13+p) (b:=n) (by omega) (by omega)
   refine ⟨_,q51 rfl 0 ((q1c.ev _ _ _ _).trans ?_),q1,fun _=>q2⟩
   simp only [evz,Nat.reduceLT,z1,d1,hn0,e1,e2,hi,hil,hj,hjl,List.getElem?_eq_getElem,enc_u8,hbig,hk,w1,w2,w3,w4,w5,w6,w7,w8,w9]
 · obtain ⟨q1,q2⟩:=tmod_nn (a:=(code[i].toNat:Int)+d*37) (b:=n) (by omega) (by omega)
   refine ⟨_,q51 rfl 0 ((q1c.ev _ _ _ _).trans ?_),q1,fun _=>q2⟩
   simp only [evz,Nat.reduceLT,z1,d1,hn0,e1,e2,hi,hil,hj,hjl,List.getElem?_eq_getElem,enc_u8,hbig,hk,w1,w2,w3,w4,w5,w6,w7,w8,w9]
theorem q8t {Q:R→Prop} {p n:Int} {K:T × List T→R} (hp:0≤p∧p≤1099511627776) (k:∀ v:Int,0≤v→(1≤n→v < n)→Q (K (.int .i64 v,[.agg [slc code,.int .i64 (p+1)]]))) :
 Q ((LIM F.q1c [.rref [slc code,.int .i64 p] 0,.int .i64 n]).bind K):=by
 obtain ⟨v,e,h1,h2⟩:=q1c hc p n hp
 rw [e]; exact k v h1 h2
theorem q27 (p n:Int) (hp:0≤p∧p≤1099511627776):∃ b:Bool,LIM F.q27 [.rref [slc code,.int .i64 p] 0,.int .i64 n]=some (.bool b,[.agg [slc code,.int .i64 (p+1)]]):=by
 obtain ⟨v,e,_⟩:=q1c hc p n hp
 exact ⟨decide (v=0),q51 rfl 0 ((q27.ev _ _ _ _).trans (by simp only [evz,Nat.reduceLT,e]))⟩
theorem q6r {Q:R→Prop} {p n:Int} {K:T × List T→R} (hp:0≤p∧p≤1099511627776) (k:∀ b:Bool,Q (K (.bool b,[.agg [slc code,.int .i64 (p+1)]]))) :
 Q ((LIM F.q27 [.rref [slc code,.int .i64 p] 0,.int .i64 n]).bind K):=by
 obtain ⟨b,e⟩:=q27 hc p n hp
 rw [e]; exact k b
theorem q29 (p:Int) (l:List Int) {ts:List T} (hts:cells l=ts) (hl:l≠[]) (hp:0≤p∧p≤1099511627776) :
 ∃ v∈l,LIM F.q29 [.rref [slc code,.int .i64 p] 0,.sl 1 ts]=some (.int .i64 v,[.agg [slc code,.int .i64 (p+1)]]):=by
 subst hts
 have h0:0 < l.length:=List.length_pos_iff.2 hl
 have hd:(cells l).length / 1=l.length:=q5b rfl
 obtain ⟨v,e,h1,h2⟩:=q1c hc p (l.length:Int) hp
 obtain ⟨i,rfl⟩:∃ i:Nat,v=i:=⟨v.toNat,by omega⟩
 have hi:i < l.length:=by have:=h2 (by omega); omega
 refine ⟨l[i],List.getElem_mem hi,q51 rfl 0 ((q29.ev _ _ _ _).trans ?_)⟩
 simp only [evz,Nat.reduceLT,e,hi,List.getElem?_eq_getElem,q1r]
theorem pick_s {Q:R→Prop} {p:Int} (l:List Int) {ts:List T} {K:T × List T→R} (hts:cells l=ts) (hl:l≠[]) (hp:0≤p∧p≤1099511627776) (k:∀ v:Int,v∈l→Q (K (.int .i64 v,[.agg [slc code,.int .i64 (p+1)]]))) :
 Q ((LIM F.q29 [.rref [slc code,.int .i64 p] 0,.sl 1 ts]).bind K):=by
 obtain ⟨v,hv,e⟩:=q29 hc p l hts hl hp
 rw [e]; exact k v hv
omit hc in
theorem q45:Call F.q45 [slc code] (.bool (decide ((code.length:Int) > 1048576))):=q0v rfl 0 ((q45.ev _ _).trans (by simp only [evz,Nat.reduceLT]))
omit hc in
theorem q44:LIM F.q44 [slc code]=some (.bx [slc code,.int .i64 0],[]):=q51 rfl 0 (q44.ev _ _)
end
end Ev.Ty
end
section
namespace Ev.Ty
open Go Ev
open Enc (enc)
open Sm (sm)
set_option linter.unusedSimpArgs false
set_option linter.unusedVariables false
set_option maxHeartbeats 1000000
structure Grown (l:List Symbol) (m:Nat) (vars:Int) (t:List Int):Prop where
 pos:1≤t.length
 le:t.length≤m
 node:∀ n∈t,(0≤n∧n < l.length)∨(-vars≤n∧n ≤ -1)
 tree:∃ x:Tm,x.ok (ar l)∧t=x.flat
theorem Grown.ok {l:List Symbol} {m:Nat} {vars:Int} {t:List Int} (h:Grown l m vars t) (hm:m≤24) (hv:vars≤12):TermOk l t:=by
 refine ⟨h.pos,Nat.le_trans h.le hm,fun n hn => ?_,?_⟩
 · rw [q4o]; rcases h.node n hn with h | h
   · exact .inl h
   · exact .inr (by omega)
 · obtain ⟨x,hx,rfl⟩:=h.tree
   have:=Tm.skip_flat (a:=ar l) (fun n hn=>ar_neg l hn) x [] 0 hx
   rwa [List.append_nil] at this
section
variable {code:List UInt8} (hc:code.length≤2097152) {l:List Symbol} (ok:SigOk ⟨l⟩)
def TermS (code:List UInt8) (l:List Symbol) (p:Int) (m:Nat) (vars:Int) (r:R):Prop:=∃ t p',r=some (slc t,[.agg [slc code,.int .i64 p']])∧p≤p'∧p'≤p+3*(t.length:Int)∧Grown l m vars t
include hc ok
theorem l3_var (p q:Int) (m:Nat) (vars:Int) (hm:1≤m) (hv:1≤vars∧vars≤12) (hp:0≤p∧p≤q∧q≤p+2∧q≤1099511627776) :
 TermS code l p m vars ((LIM F.q1c [.rref [slc code,.int .i64 q] 0,.int .i64 vars]).bind fun r=>(oCons r.2).bind fun p2=>(oNil p2.2).bind fun _=>(oAgg p2.1).bind fun c3=>(oCons c3).bind fun p4=>(oSl 1 p4.1).bind fun c5=>(oCons p4.2).bind fun p6=>(oInt .i64 p6.1).bind fun n7=>(oNil p6.2).bind fun _=>(oInt .i64 r.1).bind fun n8=>some (.sl 1 [.int .i64 (IntKind.wrap .i64 ((-1:Int) - n8))],[.agg [.sl 1 (cells code),.int .i64 n7]])):=by
 refine q8t hc (by omega) fun v h1 h2 => ?_
 have h2:=h2 hv.1
 simp only [evz,Nat.reduceLT]
 rw [q2u (by omega)]
 exact ⟨[-1 - v],q+1,rfl,by omega,by simp; omega,⟨by simp,by simp; omega,fun n hn => .inr (by rw [List.mem_singleton.1 hn]; omega),.v (-1 - v),by show -1 - v < 0; omega,rfl⟩⟩
noncomputable def l3fin (l:List Symbol) (code:List UInt8) (m vars x4 p:Int):R :=
 (bif inB x4 ((cells l).length / 2) then (((cells l)[(((Int.toNat x4)*2)+1)]?).bind fun e71=>((oInt .i64 e71).bind fun n72=>(bif ((n72 == (1:Int))) then ((LIM F.q0b [(.rref [(.sl 1 (cells code)),(.int .i64 p)] 0),(.rref [(.sl 2 (cells l))] 0),(.int .i64 (IntKind.wrap .i64 (m - (1:Int)))),(.int .i64 vars)]).bind fun r73=>((oCons r73.2).bind fun p74=>((oNil p74.2).bind fun _=>((oAgg p74.1).bind fun c75=>((oCons c75).bind fun p76=>((oSl 1 p76.1).bind fun c77=>((oCons p76.2).bind fun p78=>((oInt .i64 p78.1).bind fun n79=>((oNil p78.2).bind fun _=>((oSl 1 r73.1).bind fun c80=>(bif (c80).all T.scalar then (bif Nat.ble ((1+(c80).length)*8) (140737488355328*1) then some ((.sl 1 ([(.int .i64 x4)]++c80:List T)),[(.agg [(.sl 1 (cells code)),(.int .i64 n79)])]) else none) else none))))))))))) else (bif ((n72 == (2:Int))) then ((LIM F.q0b [(.rref [(.sl 1 (cells code)),(.int .i64 p)] 0),(.rref [(.sl 2 (cells l))] 0),(.int .i64 (IntKind.wrap .i64 (m - (2:Int)))),(.int .i64 vars)]).bind fun r81=>((oCons r81.2).bind fun p82=>((oNil p82.2).bind fun _=>((oAgg p82.1).bind fun c83=>((oCons c83).bind fun p84=>((oSl 1 p84.1).bind fun c85=>((oCons p84.2).bind fun p86=>((oInt .i64 p86.1).bind fun n87=>((oNil p86.2).bind fun _=>((oSl 1 r81.1).bind fun c88=>(bif (c88).all T.scalar then (bif Nat.ble ((1+(c88).length)*8) (140737488355328*1) then ((LIM F.q0b [(.rref [(.sl 1 (cells code)),(.int .i64 n87)] 0),(.rref [(.sl 2 (cells l))] 0),(.int .i64 (IntKind.wrap .i64 ((IntKind.wrap .i64 (m - (1:Int))) - ((((c88).length / 1):Nat):Int)))),(.int .i64 vars)]).bind fun r89=>((oCons r89.2).bind fun p90=>((oNil p90.2).bind fun _=>((oAgg p90.1).bind fun c91=>((oCons c91).bind fun p92=>((oSl 1 p92.1).bind fun c93=>((oCons p92.2).bind fun p94=>((oInt .i64 p94.1).bind fun n95=>((oNil p94.2).bind fun _=>((oSl 1 r89.1).bind fun c96=>(bif (c96).all T.scalar then (bif Nat.ble (((([(.int .i64 x4)]++c88:List T)).length+(c96).length)*8) (140737488355328*1) then some ((.sl 1 (([(.int .i64 x4)]++c88:List T)++c96:List T)),[(.agg [(.sl 1 (cells code)),(.int .i64 n95)])]) else none) else none))))))))))) else none) else none))))))))))) else some ((.sl 1 [(.int .i64 x4)]),[(.agg [(.sl 1 (cells code)),(.int .i64 p)])]))))) else none)
theorem l3_fin (p q:Int) (m:Nat) (vars:Int) (hm:1≤m∧m≤1000) (hv:0≤vars∧vars≤12) (hp:0≤p∧p≤q∧q≤p+3∧p+10*(m:Int)≤1099511020000)
 (ih:∀ k,1≤k→k < m→∀ p,0≤p∧p+10*(k:Int)≤1099511020000→TermS code l p k vars (LIM F.q0b [.rref [slc code,.int .i64 p] 0,.rref [slc l] 0,.int .i64 k,.int .i64 vars]))
 (i:Nat) (hi:i < l.length) (ha:l[i].arity < m):TermS code l p m vars (l3fin l code m vars i q):=by
 obtain ⟨a1,a2⟩:=ok.arity l[i] (List.getElem_mem hi)
 have har:(ar l (i:Int):Int)=l[i].arity:=(ar_eq ok (n:=(i:Int)) (by omega) (by simpa using hi)).symm
 unfold l3fin
 have hn0:(0:Int)≤i∧(i:Int) < l.length:=by omega
 simp only [evz,Nat.reduceLT,hi,List.getElem?_eq_getElem,q2k]
 by_cases h1:l[i].arity=1
 · simp only [evz,Nat.reduceLT,h1]
   rw [q2u (by omega),show (m:Int) - 1=((m - 1:Nat):Int) by omega]
   obtain ⟨t,p',e,q1,q2,g⟩:=ih (m - 1) (by omega) (by omega) q (by omega)
   have hl:=g.le
   have e2:(cells t).length=t.length:=by rw [q0t]; simp
   simp only [evz,Nat.reduceLT,e,q3n]
   rw [q22 (q3v (by rw [e2]; omega))]
   refine ⟨(i:Int)::t,p',rfl,by omega,by simp; omega,⟨by simp,by simp; omega,fun n hn => ?_,?_⟩⟩
   · rcases List.mem_cons.1 hn with rfl | hn
     · exact .inl hn0
     · exact g.node n hn
   · obtain ⟨x,hx,rfl⟩:=g.tree
     exact ⟨.u i x,⟨by omega,by omega,hx⟩,rfl⟩
 by_cases h2:l[i].arity=2
 · simp only [evz,Nat.reduceLT,h2,Int.reduceEq]
   rw [q2u (x:=(m:Int) - 2) (by omega),show (m:Int) - 2=((m - 2:Nat):Int) by omega]
   obtain ⟨t,p',e,q1,q2,g⟩:=ih (m - 2) (by omega) (by omega) q (by omega)
   have hl:=g.le
   have hl1:=g.pos
   have e2:(cells t).length=t.length:=by rw [q0t]; simp
   simp only [evz,Nat.reduceLT,e,q3n]
   rw [q22 (q3v (by rw [e2]; omega)),q2u (x:=(m:Int) - 1) (by omega),q2u (by omega),show (m:Int) - 1 - (t.length:Int)=((m - 1 - t.length:Nat):Int) by omega]
   obtain ⟨t2,p2,e',q3,q4,g2⟩:=ih (m - 1 - t.length) (by omega) (by omega) p' (by omega)
   have hl2:=g2.le
   have e3:(cells t2).length=t2.length:=by rw [q0t]; simp
   simp only [evz,Nat.reduceLT,e',q3n]
   rw [q22 (q3v (by simp only [List.length_append,List.length_singleton]; rw [e2,e3]; omega))]
   refine ⟨(i:Int)::(t++t2),p2,by rw [List.append_assoc,← q36]; rfl,by omega,by simp; omega,⟨by simp,by simp; omega,fun n hn => ?_,?_⟩⟩
   · rcases List.mem_cons.1 hn with rfl | hn
     · exact .inl hn0
     · rcases List.mem_append.1 hn with hn | hn
       · exact g.node n hn
       · exact g2.node n hn
   · obtain ⟨x,hx,rfl⟩:=g.tree
     obtain ⟨y,hy,rfl⟩:=g2.tree
     exact ⟨.b i x y,⟨by omega,by omega,hx,hy⟩,rfl⟩
 simp only [evz,Nat.reduceLT,h1,h2]
 exact ⟨[(i:Int)],q,rfl,by omega,by simp; omega,⟨by simp,by simp; omega,fun n hn=>by rw [List.mem_singleton.1 hn]; exact .inl hn0,.k i,⟨by omega,by omega⟩,rfl⟩⟩
omit hc ok in
theorem mod_step {n d k c:Nat} (h:(n+(d+1)) % k=c):((n+1) % k+d) % k=c:=by
 rw [Nat.mod_add_mod,show n+1+d=n+(d+1) by omega]; exact h
omit hc ok in
theorem mod_to {n c k:Nat} (hn:n < k) (hc:c < k):∃ d,d < k∧(n+d) % k=c:=by
 by_cases h:n≤c
 · exact ⟨c - n,by omega,by rw [show n+(c - n)=c by omega,Nat.mod_eq_of_lt hc]⟩
 · exact ⟨c+k - n,by omega,by rw [show n+(c+k - n)=c+k by omega,Nat.add_mod_right,Nat.mod_eq_of_lt hc]⟩
theorem l3_loops (p q:Int) (m:Nat) (vars:Int) (hm:1≤m∧m≤1000) (hv:0≤vars∧vars≤12) (hp:0≤p∧p≤q∧q≤p+3∧p+10*(m:Int)≤1099511020000)
 (ih:∀ k,1≤k→k < m→∀ p,0≤p∧p+10*(k:Int)≤1099511020000→TermS code l p k vars (LIM F.q0b [.rref [slc code,.int .i64 p] 0,.rref [slc l] 0,.int .i64 k,.int .i64 vars]))
 (i:Nat) (hi:i < l.length):TermS code l p m vars (q0b.at0 10 10 (q0b.st0 (cells l) m vars l.length i 0 (cells code) q)):=by
 have hle:=ok.le
 simp only at hle
 obtain ⟨y,hy,hy0⟩:=ok.const
 obtain ⟨c,hcl,hcy⟩:=List.getElem_of_mem hy
 have hcl:c < l.length:=hcl
 have hca:l[c].arity=0:=by
  have:l[c]=y:=hcy
  rw [this]; exact hy0
 have fin:=l3_fin hc ok p q m vars hm hv hp ih
 have step2:∀ i,i < l.length→TermS code l p m vars (q0b.at2 10 10 (q0b.st2 (cells l) m vars l.length (i:Nat) 0 (cells code) q)):=fun i hi=>by
  obtain ⟨d,hd,hdc⟩:=mod_to hi hcl
  refine q64 (σ:=Nat × Nat × Nat) (S:=fun k s=>q0b.at2 10 k (q0b.st2 (cells l) m vars l.length (s.1:Nat) (s.2.1:Nat) (cells code) q)) (fun s=>s.1 < l.length∧(s.1+s.2.2) % l.length=c∧s.2.1+s.2.2 < l.length) (fun s=>s.2.2) (fun k s hs => ?_) _ (i,0,d) ⟨hi,hdc,by simp only; omega⟩ (by simp only; omega)
  obtain ⟨n,j,d⟩:=s
  obtain ⟨h1,h2,h3⟩:=hs
  simp only at h1 h2 h3 ⊢
  have hj:j < l.length:=by omega
  have hl0:¬ ((l.length:Nat):Int)=0:=by omega
  by_cases ha:l[n].arity > 0
  · right
    cases d with
    | zero =>
      rw [Nat.add_zero,Nat.mod_eq_of_lt h1] at h2
      subst h2
      omega
    | succ d =>
      refine ⟨((n+1) % l.length,j+1,d),?_,⟨Nat.mod_lt _ (by omega),mod_step h2,by simp only; omega⟩,by simp only; omega⟩
      simp only [q0b.next2,q0b.round2,evz,Nat.reduceLT,hj,h1,List.getElem?_eq_getElem,q2k,ha,hl0]
      rw [q0l (by omega),q0l (by omega)]
      congr 2
  · left
    have hf:=fin n h1 (by omega)
    simp only [q0b.next2,q0b.round2,evz,Nat.reduceLT,hj,h1,List.getElem?_eq_getElem,q2k,ha]
    unfold l3fin at hf
    simp only [evz,Nat.reduceLT,h1,List.getElem?_eq_getElem,q2k] at hf
    exact hf
 obtain ⟨d,hd,hdc⟩:=mod_to hi hcl
 refine q64 (σ:=Nat × Nat × Nat) (S:=fun k s=>q0b.at0 10 k (q0b.st0 (cells l) m vars l.length (s.1:Nat) (s.2.1:Nat) (cells code) q)) (fun s=>s.1 < l.length∧(s.1+s.2.2) % l.length=c∧s.2.1+s.2.2 < l.length) (fun s=>s.2.2) (fun k s hs => ?_) _ (i,0,d) ⟨hi,hdc,by simp only; omega⟩ (by simp only; omega)
 obtain ⟨n,j,d⟩:=s
 obtain ⟨h1,h2,h3⟩:=hs
 simp only at h1 h2 h3 ⊢
 have hj:j < l.length:=by omega
 have hl0:¬ ((l.length:Nat):Int)=0:=by omega
 by_cases ha:l[n].arity ≥ m
 · right
   cases d with
   | zero =>
     rw [Nat.add_zero,Nat.mod_eq_of_lt h1] at h2
     subst h2
     omega
   | succ d =>
     refine ⟨((n+1) % l.length,j+1,d),?_,⟨Nat.mod_lt _ (by omega),mod_step h2,by simp only; omega⟩,by simp only; omega⟩
     simp only [q0b.next0,q0b.round0,evz,Nat.reduceLT,hj,h1,List.getElem?_eq_getElem,q2k,ha,hl0]
     rw [q0l (by omega),q0l (by omega)]
     congr 2
 · left
   simp only [q0b.next0,q0b.round0,evz,Nat.reduceLT,hj,h1,List.getElem?_eq_getElem,q2k,ha]
   by_cases hm2:(m:Int) < 2
   · simp only [evz,Nat.reduceLT,hm2]
     exact step2 n h1
   · have hf:=fin n h1 (by omega)
     unfold l3fin at hf
     simp only [evz,Nat.reduceLT,h1,List.getElem?_eq_getElem,q2k] at hf
     simp only [evz,Nat.reduceLT,hm2]
     exact hf
theorem spec_l3DrawS (vars:Int) (hv:0≤vars∧vars≤12):∀ (m:Nat),1≤m→m≤1000→∀ p,0≤p∧p+10*(m:Int)≤1099511020000→TermS code l p m vars (LIM F.q0b [.rref [slc code,.int .i64 p] 0,.rref [slc l] 0,.int .i64 m,.int .i64 vars]):=by
 intro m
 induction m using Nat.strongRecOn with
 | ind m ih =>
   intro hm1 hm2 p hp
   have hle:=ok.le
   have hpos:=ok.pos
   simp only at hle hpos
   suffices h:TermS code l p m vars (callK prog A H LIM 10 F.q0b [.rref [slc code,.int .i64 p] 0,.rref [slc l] 0,.int .i64 m,.int .i64 vars]) by
    obtain ⟨t,p',e,r⟩:=h
    exact ⟨t,p',lim_of rfl 10 e,r⟩
   rw [show callK prog A H LIM 10 F.q0b [.rref [slc code,.int .i64 p] 0,.rref [slc l] 0,.int .i64 m,.int .i64 vars]=_ from q0b.ev _ _ _ _ _ _]
   have node:∀ q,p≤q→q≤p+2→TermS code l p m vars ((LIM F.q1c [.rref [slc code,.int .i64 q] 0,.int .i64 (l.length:Int)]).bind fun r=>(oCons r.2).bind fun p2=>(oNil p2.2).bind fun _=>(oAgg p2.1).bind fun c3=>(oCons c3).bind fun p4=>(oSl 1 p4.1).bind fun c5=>(oCons p4.2).bind fun p6=>(oInt .i64 p6.1).bind fun n7=>(oNil p6.2).bind fun _=>(oInt .i64 r.1).bind fun n8=>q0b.at0 10 10 (q0b.st0 (cells l) m vars l.length n8 0 (cells code) n7)):=fun q q1 q2=>by
    refine q8t hc (by omega) fun v h1 h2 => ?_
    have h2:=h2 (by omega)
    obtain ⟨i,rfl⟩:∃ i:Nat,v=i:=⟨v.toNat,by omega⟩
    simp only [evz,Nat.reduceLT]
    exact l3_loops hc ok p (q+1) m vars ⟨hm1,hm2⟩ hv (by omega) (fun k k1 k2 p hp=>ih k k2 k1 (by omega) p hp) i (by omega)
   by_cases hv0:vars > 0
   · simp only [evz,Nat.reduceLT,hv0]
     have rest:∀ q,p≤q→q≤p+1→TermS code l p m vars ((LIM F.q27 [.rref [slc code,.int .i64 q] 0,.int .i64 4]).bind fun r=>(oCons r.2).bind fun p2=>(oNil p2.2).bind fun _=>(oAgg p2.1).bind fun c3=>(oCons c3).bind fun p4=>(oSl 1 p4.1).bind fun c5=>(oCons p4.2).bind fun p6=>(oInt .i64 p6.1).bind fun n7=>(oNil p6.2).bind fun _=>(oBool r.1).bind fun b8 =>
      bif b8 then ((LIM F.q1c [.rref [slc code,.int .i64 n7] 0,.int .i64 vars]).bind fun r=>(oCons r.2).bind fun p2=>(oNil p2.2).bind fun _=>(oAgg p2.1).bind fun c3=>(oCons c3).bind fun p4=>(oSl 1 p4.1).bind fun c5=>(oCons p4.2).bind fun p6=>(oInt .i64 p6.1).bind fun n7=>(oNil p6.2).bind fun _=>(oInt .i64 r.1).bind fun n8=>some (.sl 1 [.int .i64 (IntKind.wrap .i64 ((-1:Int) - n8))],[.agg [slc code,.int .i64 n7]]))
      else ((LIM F.q1c [.rref [slc code,.int .i64 n7] 0,.int .i64 (l.length:Int)]).bind fun r=>(oCons r.2).bind fun p2=>(oNil p2.2).bind fun _=>(oAgg p2.1).bind fun c3=>(oCons c3).bind fun p4=>(oSl 1 p4.1).bind fun c5=>(oCons p4.2).bind fun p6=>(oInt .i64 p6.1).bind fun n7=>(oNil p6.2).bind fun _=>(oInt .i64 r.1).bind fun n8=>q0b.at0 10 10 (q0b.st0 (cells l) m vars l.length n8 0 (cells code) n7))):=fun q q1 q2=>by
      refine q6r hc (by omega) fun b => ?_
      simp only [evz,Nat.reduceLT]
      cases b with
      | true=>exact l3_var hc ok p (q+1) m vars hm1 (by omega) (by omega)
      | false=>exact node (q+1) (by omega) (by omega)
     by_cases hm3:(m:Int) < 2
     · simp only [evz,Nat.reduceLT,hm3]
       refine q6r hc (by omega) fun b => ?_
       simp only [evz,Nat.reduceLT]
       cases b with
       | true=>exact l3_var hc ok p (p+1) m vars hm1 (by omega) (by omega)
       | false=>exact rest (p+1) (by omega) (by omega)
     · simp only [evz,Nat.reduceLT,hm3]
       exact rest p (by omega) (by omega)
   · simp only [evz,Nat.reduceLT,hv0]
     exact node p (by omega) (by omega)
theorem q0b (p most vars:Int) (hm:1≤most∧most≤1000) (hv:0≤vars∧vars≤12) (hp:0≤p∧p≤1099511000000) :
 Drawn code p 3000 (fun x=>∃ t,x=slc t∧Grown l most.toNat vars t) (LIM F.q0b [.rref [slc code,.int .i64 p] 0,.rref [slc l] 0,.int .i64 most,.int .i64 vars]):=by
 obtain ⟨t,p',e,h1,h2,g⟩:=spec_l3DrawS hc ok vars hv most.toNat (by omega) (by omega) p (by omega)
 rw [show ((most.toNat:Nat):Int)=most by omega] at e
 have:=g.le
 exact ⟨_,p',e,h1,by omega,t,rfl,g⟩
end
end Ev.Ty
end
section
namespace Ev.Ty
theorem pigeon:∀ (k:Nat) (o:List Int),o.Nodup→(∀ n∈o,0≤n∧n < k)→o.length≤k
 | 0,o,_,h=>by
   cases o with
   | nil=>simp
   | cons x o=>have:=h x (by simp); omega
 | k+1,o,hn,h=>by
   by_cases hk:(k:Int)∈o
   · have h1:=List.length_erase_of_mem hk
     have:=pigeon k (o.erase (k:Int)) (hn.erase _) fun n hm=>by
      have hm':=(hn.mem_erase_iff).1 hm
      have:=h n hm'.2
      omega
     omega
   · have:=pigeon k o hn fun n hm=>by
      have:=h n hm
      have:n≠(k:Int):=fun e=>hk (e ▸ hm)
      omega
     omega
end Ev.Ty
end
section
namespace Ev.Ty
open Go Ev
open Enc (enc)
open Sm (sm)
set_option linter.unusedSimpArgs false
set_option linter.unusedVariables false
def orderF (l:List Symbol) (o:List Int):Int:=if o.length≠l.length then 2 else if (o.any fun n => !inR n 0 (l.length - 1))=true then 3 else if twice o=true then 6 else 0
def q3m (s:Signature) (o:List Int):Int:=if q30 s≠0 then q30 s else orderF s.symbols o
theorem orderOk {l:List Symbol} {o:List Int} (h:orderF l o=0):o.length=l.length∧∀ n:Int,0≤n→n < l.length→n∈o:=by
 unfold orderF at h
 split at h
 · cases h
 rename_i h1
 split at h
 · cases h
 rename_i h2
 split at h
 · cases h
 rename_i h3
 have h1:o.length=l.length:=by omega
 refine ⟨h1,fun n hn hl=>Classical.byContradiction fun hno => ?_⟩
 have hnd:o.Nodup:=by
  unfold twice at h3
  simpa using h3
 have hr:∀ m∈o,0≤m∧m < l.length:=fun m hm=>by
  simp only [List.any_eq_true,not_exists,not_and,Bool.not_eq_true',Bool.not_eq_false] at h2
  have:=q75.1 (h2 m hm)
  omega
 have:=pigeon l.length (n::o) (List.nodup_cons.2 ⟨hno,hnd⟩) fun m hm=>by
  rcases List.mem_cons.1 hm with rfl | hm
  · exact ⟨hn,hl⟩
  · exact hr m hm
 simp at this
 omega
theorem q4i {l:List Symbol} (hs:l.length≤4294967296) (n:Int):Call F.q4i [.agg [slc l],.int .i64 n] (.bool (inR n 0 (l.length - 1))):=by
 refine q0v rfl 0 ((q4i.ev _ _ _).trans ?_)
 simp only [evz,Nat.reduceLT,q2u (x:=(l.length:Int) - 1) (by omega),(q3i _ _ _).eq]
theorem q4g {l:List Symbol} (hs:l.length≤4294967296) (n:Int):Call F.q4g [.rref [slc l] 0,.int .i64 n] (.bool (inR n 0 (l.length - 1))):=by
 refine q0v rfl 0 ((q4g.ev _ _ _).trans ?_)
 simp only [evz,Nat.reduceLT,q2u (x:=(l.length:Int) - 1) (by omega),(q4w _ _ _).eq]
theorem take_mem_pairs (o:List Int):((List.range o.length).any fun k=>o[k]?.any fun x=>decide (x∈o.take k))=twice o:=by
 have:=twice_pairs (fun x:Int=>x) o
 rw [List.map_id'] at this
 rw [← this,Bool.eq_iff_iff]
 simp only [List.any_eq_true,List.mem_range]
 constructor
 · rintro ⟨k,hk,h⟩
   rw [List.getElem?_eq_getElem hk,Option.any_some,decide_eq_true_iff] at h
   obtain ⟨j,hj,he⟩:=List.getElem_of_mem h
   rw [List.length_take] at hj
   rw [List.getElem_take] at he
   refine ⟨k,hk,j,by omega,?_⟩
   rw [List.getElem?_eq_getElem hk,List.getElem?_eq_getElem (show j < o.length by omega)]
   simp [he]
 · rintro ⟨i,hi,j,hj,h⟩
   rw [List.getElem?_eq_getElem hi,List.getElem?_eq_getElem (show j < o.length by omega)] at h
   refine ⟨i,hi,?_⟩
   rw [List.getElem?_eq_getElem hi,Option.any_some,decide_eq_true_iff]
   have he:o[i]=o[j]:=by simpa using h
   rw [he]
   exact List.mem_take_iff_getElem.2 ⟨j,by omega,rfl⟩
theorem q11 (l:List Symbol) (hs:l.length≤4294967296) (o:List Int) (ho:o.length≤4294967296):Call F.q11 [.agg [slc l],slc o] (.int .i64 (q3m ⟨l⟩ o)):=by
 have hi:Call F.q0g [slc o,.clo F.q2r [.rref [slc l] 0]] (.int .i64 (idx (fun n => !inR n 0 (l.length - 1)) o)):=by
  refine q0v rfl (o.length+1) ((q07.ev _ _ _).trans ?_)
  simp only [evz,Nat.reduceLT]
  refine q6o (S:=fun m k=>q07.at0 (o.length+1) m (q07.st0 (cells o) (cells l) o.length (k:Nat))) (fun m k h => ?_) (fun m => ?_) (Nat.lt_succ_self _)
  · have hlk:o[k]?=some o[k]:=List.getElem?_eq_getElem h
    have hc:Call F.q2r [.int .i64 o[k],.rref [slc l] 0] (.bool (!inR o[k] 0 (l.length - 1))):=by
     refine q0v rfl 0 ((q2r.ev _ _ _).trans ?_)
     simp only [evz,Nat.reduceLT,(q4i hs _).eq]
    simp only [q07.next0,q07.round0,evz,Nat.reduceLT,h,hlk,q1r,hc.eq]
    rw [q0l (by omega)]
    cases inR o[k] 0 (l.length - 1) <;> rfl
  · simp only [q07.next0,q07.round0,evz,Nat.reduceLT,Nat.lt_irrefl]
 have hc:Call F.q1w [slc o,.clo F.q2r [.rref [slc l] 0]] (.bool (o.any fun n => !inR n 0 (l.length - 1))):=by
  refine q0v rfl 0 ((q5k.ev _ _ _).trans ?_)
  simp only [evz,Nat.reduceLT,hi.eq,q7f]
 refine q0v rfl (o.length+1) ((q11.ev _ _ _).trans ?_)
 simp only [evz,Nat.reduceLT,(q04 l hs).eq,q3m,orderF]
 by_cases h1:q30 ⟨l⟩=0
 case neg=>simp only [h1,evz,Nat.reduceLT,ne_eq,not_false_eq_true]
 by_cases h2:o.length=l.length
 case neg =>
  have h2':¬ ((o.length:Int)=(l.length:Int)):=by omega
  simp only [h1,h2,h2',evz,Nat.reduceLT,ne_eq,not_true_eq_false,not_false_eq_true]
 have h2':((o.length:Int)=(l.length:Int)):=by omega
 cases h3:o.any fun n => !inR n 0 (l.length - 1) with
 | true =>
   rw [h3] at hc
   simp only [h1,h2',h2,evz,Nat.reduceLT,ne_eq,not_true_eq_false,hc.eq]
 | false =>
   rw [h3] at hc
   simp only [h1,h2',h2,evz,Nat.reduceLT,ne_eq,not_true_eq_false,hc.eq]
   rw [← h2',← h2]
   refine (any_loop (n:=o.length) (bad:=fun k=>o[k]?.any fun x=>decide (x∈o.take k)) (r:=some (.int .i64 6,[])) (z:=some (.int .i64 0,[]))
    (S:=fun m k=>q11.at0 (o.length+1) m (q11.st0 (cells o) (cells o) o.length (k:Nat))) (fun m k h => ?_) (fun m => ?_) (Nat.lt_succ_self _)).trans ?_
   · have hlk:o[k]?=some o[k]:=List.getElem?_eq_getElem h
     have hm:=(q2a (o.take k) o[k] (by simp; omega)).eq
     simp only [q11.next0,q11.round0,evz,Nat.reduceLT,h,hlk,q1r]
     rw [q22 (by simp; omega),Nat.zero_mul,List.drop_zero,q7u o 1 k rfl,sl_cells (k:=1) (l:=o.take k) rfl,hm,q0l (by omega)]
     by_cases e:o[k]∈o.take k <;> simp [e,evz,Nat.reduceLT]
   · simp only [q11.next0,q11.round0,evz,Nat.reduceLT,Nat.lt_irrefl]
   · rw [take_mem_pairs]
     cases twice o <;> rfl
theorem q0c (l:List Symbol) (hs:l.length≤4294967296) (o:List Int) (ho:o.length≤4294967296):Call F.q0c [.rref [slc l] 0,slc o] (.int .i64 (orderF l o)):=by
 obtain ⟨n,hn⟩:∃ n,n=o.length+1:=⟨_,rfl⟩
 refine q0v rfl n ((q0c.ev _ _ _).trans ?_)
 simp only [evz,Nat.reduceLT,orderF]
 by_cases h2:o.length=l.length
 case neg =>
  have h2':¬ ((o.length:Int)=(l.length:Int)):=by omega
  simp only [h2,h2',evz,Nat.reduceLT,ne_eq,not_true_eq_false,not_false_eq_true]
 have h2':((o.length:Int)=(l.length:Int)):=by omega
 simp only [h2',h2,evz,Nat.reduceLT,ne_eq,not_true_eq_false]
 have two:=any_loop (n:=o.length) (bad:=fun i=>(List.range i).any fun j=>o[i]?.any fun x=>o[j]?.any fun y=>decide (x=y))
  (S:=fun m i=>q0c.at2 n m (q0c.st2 (cells o) (i:Nat))) (r:=some (.int .i64 6,[])) (z:=some (.int .i64 0,[]))
  (fun m i h=>by
   have hlk:o[i]?=some o[i]:=List.getElem?_eq_getElem h
   simp only [q0c.next2,q0c.round2,evz,Nat.reduceLT,h]
   refine any_loop (n:=i) (f:=n) (bad:=fun j=>o[i]?.any fun x=>o[j]?.any fun y=>decide (x=y))
    (S:=fun m' j=>q0c.at4 n (q0c.at2 n m) m' (q0c.st4 (cells o) (i:Nat) (j:Nat))) (fun m' j hj => ?_) (fun m' => ?_) (by omega)
   · have hj':j < o.length:=by omega
     have hjk:o[j]?=some o[j]:=List.getElem?_eq_getElem hj'
     simp only [q0c.next4,q0c.round4,evz,Nat.reduceLT,h,hj,hj',hlk,hjk,q1r]
     rw [q0l (by omega)]
     by_cases e:o[i]=o[j] <;> simp [e]
   · simp only [q0c.next4,q0c.round4,evz,Nat.reduceLT,Nat.lt_irrefl]
     rw [q0l (by omega)])
  (fun m=>by simp only [q0c.next2,q0c.round2,evz,Nat.reduceLT,Nat.lt_irrefl]) (show o.length < n by omega)
 have tp:=twice_pairs (fun x:Int=>x) o
 rw [List.map_id'] at tp
 rw [tp] at two
 refine (q7n (l:=o) (p:=fun x => !inR x 0 (l.length - 1)) (S:=fun m k=>q0c.at0 n m (q0c.st0 (cells l) (cells o) (k:Nat))) (r:=some (.int .i64 3,[])) (z:=if twice o=true then some (.int .i64 6,[]) else some (.int .i64 0,[])) (fun m k h => ?_) (fun m => ?_) (show o.length < n by omega)).trans ?_
 · have hlk:o[k]?=some o[k]:=List.getElem?_eq_getElem h
   simp only [q0c.next0,q0c.round0,evz,Nat.reduceLT,h,hlk,q1r,(q4g hs _).eq]
   rw [q0l (by omega)]
   cases inR o[k] 0 (l.length - 1) <;> rfl
 · simp only [q0c.next0,q0c.round0,evz,Nat.reduceLT,Nat.lt_irrefl]
   exact two
 · cases o.any fun x => !inR x 0 (l.length - 1) <;> cases twice o <;> rfl
theorem q3h (l:List Symbol) (hs:l.length≤4294967296) (o:List Int) (ho:o.length≤4294967296):Call F.q3h [.agg [slc l],slc o] (.int .i64 (q3m ⟨l⟩ o)):=by
 refine q0v rfl 0 ((q3h.ev _ _ _).trans ?_)
 simp only [evz,Nat.reduceLT,(q01 l hs).eq,(q0c l hs o ho).eq,q3m]
 by_cases h1:q30 ⟨l⟩=0
 · simp only [h1,evz,Nat.reduceLT,ne_eq,not_true_eq_false]
 · simp only [h1,evz,Nat.reduceLT,ne_eq,not_false_eq_true]
def falling (l:List Symbol) (o:List Int) (rs:List Equation):Bool := !rs.any fun e => !gt l o e.left e.right 0 0
def q5z (s:Signature) (o:List Int) (rs:List Equation):Bool:=decide (q3m s o=0)&&decide (q6j s.symbols rs=0)&&falling s.symbols o rs
theorem q6k {l:List Symbol} (h:q30 ⟨l⟩=0):SigOk ⟨l⟩:=(sigOk_iff _).1 h
theorem q1m {l:List Symbol} (ok:SigOk ⟨l⟩) {o:List Int} (ho:orderF l o=0) {rs:List Equation} (hr:∀ e∈rs,EqOk l e) (hn:rs.length≤4294967296) :
 Call F.q1m [.rref [slc l] 0,slc o,slc rs] (.bool (falling l o rs)):=by
 obtain ⟨h1,h2⟩:=orderOk ho
 have hls:l.length≤6:=ok.le
 refine q0v rfl (rs.length+1) ((q1m.ev _ _ _ _).trans ?_)
 refine (q7n (l:=rs) (p:=fun e => !gt l o e.left e.right 0 0) (r:=some (.bool false,[])) (z:=some (.bool true,[])) (S:=fun m k=>q1m.at0 (rs.length+1) m (q1m.st0 (cells l) (cells o) (cells rs) (k:Nat))) (fun m k h => ?_) (fun m => ?_) (Nat.lt_succ_self _)).trans ?_
 · have hlk:rs[k]?=some rs[k]:=List.getElem?_eq_getElem h
   have he:=hr _ (List.getElem_mem h)
   simp only [q1m.next0,q1m.round0,evz,Nat.reduceLT,h,hlk,q3p,(q56 ok he.left he.right (by omega) h2).eq]
   rw [q0l (by omega)]
   cases gt l o rs[k].left rs[k].right 0 0 <;> rfl
 · simp only [q1m.next0,q1m.round0,evz,Nat.reduceLT,Nat.lt_irrefl]
 · unfold falling
   cases rs.any fun e => !gt l o e.left e.right 0 0 <;> rfl
theorem q3l (s:Signature) (o:List Int) (rs:List Equation) (hs:sm 1048576 s) (ho:sm 1048576 o) (hr:sm 1048576 rs):Call F.q3l [.agg (enc s),slc o,slc rs] (.bool (q5z s o rs)):=by
 obtain ⟨l⟩:=s
 have hsl:l.length≤4294967296:=Nat.le_trans hs.1 (by omega)
 have hol:o.length≤4294967296:=Nat.le_trans ho.1 (by omega)
 have hrl:rs.length≤4294967296:=Nat.le_trans hr.1 (by omega)
 show Call F.q3l [.agg [slc l],slc o,slc rs] _
 refine q0v rfl 0 ((q3l.ev _ _ _ _).trans ?_)
 simp only [evz,Nat.reduceLT,(q3h l hsl o hol).eq,q5z]
 by_cases h1:q3m ⟨l⟩ o=0
 case neg=>simp only [h1,evz,Nat.reduceLT,Bool.false_and]
 have h0:q30 ⟨l⟩=0:=by
  unfold q3m at h1
  split at h1
  · rename_i h; exact absurd h1 h
  · rename_i h; simpa using h
 have hf:orderF l o=0:=by unfold q3m at h1; rw [if_neg (by simpa using h0)] at h1; exact h1
 have ok:=q6k h0
 simp only [h1,evz,Nat.reduceLT,(q1e l ok rs (q2l (by omega) hr)).eq,Bool.true_and]
 by_cases h2:q6j l rs=0
 case neg=>simp only [h2,evz,Nat.reduceLT,Bool.false_and]
 simp only [h2,evz,Nat.reduceLT,(q1m ok hf (eqsOk_iff.1 h2).2 hrl).eq,Bool.true_and]
end Ev.Ty
end
section
namespace Ev.Ty
open Go Ev
open Enc (enc)
open Sm (sm)
set_option linter.unusedSimpArgs false
set_option linter.unusedVariables false
end Ev.Ty
end
section
namespace Ev.Ty
open Go Ev
open Enc (enc)
open Sm (sm)
set_option linter.unusedSimpArgs false
set_option linter.unusedVariables false
def rise (n:Nat):List Int:=(List.range n).map fun (i:Nat)=>(i:Int)
theorem rise_succ (n:Nat):rise (n+1)=rise n++[(n:Int)]:=by simp [rise,List.range_succ]
theorem q81 (n:Nat):(rise n).length=n:=by simp [rise]
theorem rise_loop {n:Nat} {S:Nat→Nat→List Int→R} {z:List Int→R} (step:∀ m k,k < n→S (m+1) k (rise k)=S m (k+1) (rise (k+1))) (stop:∀ m,S (m+1) n (rise n)=z (rise n)) {f:Nat} (hf:n < f) :
 S f 0 []=z (rise n):=by
 have:∀ m k,k≤n→n < m+k→S m k (rise k)=z (rise n):=by
  intro m
  induction m with
  | zero=>intros; omega
  | succ m ih =>
    intro k hk hm
    by_cases h:k < n
    · rw [step m k h]; exact ih (k+1) (by omega) (by omega)
    · obtain rfl:k=n:=by omega
      exact stop m
 exact this f 0 (by omega) (by omega)
theorem q23 (n:Nat) (hs:n≤1048576):Call F.q23 [.int .i64 n] (slc (rise n)):=by
 refine q0v rfl (n+1) ((q23.ev _ _).trans ?_)
 refine rise_loop (n:=n) (S:=fun m k o=>q23.at0 (n+1) m (q23.st0 n (k:Nat) (cells o))) (z:=fun o=>some (slc o,[])) (fun m k h => ?_) (fun m => ?_) (by omega)
 · simp only [q23.next0,q23.round0,evz,Nat.reduceLT,h,q0t,q81,q39,q2d,← rise_succ]
   rw [q0l (by omega),q22 (q3v (by omega))]
 · simp only [q23.next0,q23.round0,evz,Nat.reduceLT,Nat.lt_irrefl]
end Ev.Ty
end
section
namespace Ev.Ty
open Go Ev
open Enc (enc)
open Sm (sm)
set_option linter.unusedSimpArgs false
set_option linter.unusedVariables false
set_option maxHeartbeats 1000000
def ba (l:List UInt8):ByteArray:=ByteArray.mk l.toArray
def sigA:List Symbol:=[⟨ba [101],0⟩,⟨ba [105],1⟩,⟨ba [109],2⟩,⟨ba [97],0⟩]
def sigB:List Symbol:=[⟨ba [97],0⟩,⟨ba [115,117,99],1⟩,⟨ba [97,100,100],2⟩,⟨ba [98],0⟩]
def sigC:List Symbol:=[⟨ba [97],0⟩,⟨ba [102],1⟩,⟨ba [103],1⟩]
def sigD:List Symbol:=[⟨ba [97],0⟩,⟨ba [98],0⟩,⟨ba [101],0⟩,⟨ba [109],2⟩,⟨ba [105],1⟩,⟨ba [115,117,99],1⟩]
def sigE:List Symbol:=[⟨ba [97],0⟩]
theorem sigA_ok:SigOk ⟨sigA⟩:=q6k (by decide)
theorem sigB_ok:SigOk ⟨sigB⟩:=q6k (by decide)
theorem sigC_ok:SigOk ⟨sigC⟩:=q6k (by decide)
theorem sigD_ok:SigOk ⟨sigD⟩:=q6k (by decide)
theorem sigE_ok:SigOk ⟨sigE⟩:=q6k (by decide)
theorem name_small {b:ByteArray} (h:nameOk b=true):b.size≤3:=by
 unfold nameOk at h
 rw [Bool.and_eq_true,decide_eq_true_iff] at h
 exact h.1.2
theorem SigOk.small {l:List Symbol} (ok:SigOk ⟨l⟩):sm 7 (Signature.mk l):=⟨Nat.le_trans ok.le (by omega),fun x hx=>Nat.le_trans (name_small (ok.name x hx)) (by omega)⟩
theorem perm_swap (o:List Int) {i:Nat} (h:i+1 < o.length):((o.set i o[i+1]).set (i+1) (o[i]'(by omega))).Perm o:=by
 obtain ⟨A,x,y,B,rfl,rfl⟩:∃ A x y B,o=A++x::y::B∧A.length=i:=by
  refine ⟨o.take i,o[i],o[i+1],o.drop (i+2),?_,by rw [List.length_take]; omega⟩
  rw [← List.drop_eq_getElem_cons h,← List.drop_eq_getElem_cons (by omega),List.take_append_drop]
 have e1:(A++x::y::B)[A.length+1]=y:=by simp [List.getElem_append_right]
 have e2:(A++x::y::B)[A.length]'(by simp)=x:=by simp [List.getElem_append_right]
 rw [e1,e2,List.set_append_right _ _ (Nat.le_refl _),List.set_append_right _ _ (by omega)]
 simp only [Nat.sub_self,List.set_cons_zero,show A.length+1 - A.length=1 by omega,List.set_cons_succ]
 exact (List.Perm.swap x y B).append_left A
def Places (l:List Symbol) (o:List Int):Prop:=o.Perm (rise l.length)
theorem Places.order {l:List Symbol} {o:List Int} (h:Places l o):orderF l o=0:=by
 have hl:o.length=l.length:=by have:=h.length_eq; rwa [q81] at this
 have hm:∀ n∈o,0≤n∧n < l.length:=fun n hn=>by
  have:=(h.mem_iff).1 hn
  unfold rise at this
  obtain ⟨k,hk,rfl⟩:=List.mem_map.1 this
  have:=List.mem_range.1 hk
  omega
 have hd:o.Nodup:=by
  refine (h.nodup_iff).2 ?_
  unfold rise
  rw [List.Nodup,List.pairwise_map]
  exact List.nodup_range.imp fun {a b} hab e=>hab (Int.ofNat_inj.1 e)
 unfold orderF
 rw [if_neg (by omega),if_neg,if_neg]
 · unfold twice; simpa using hd
 · rw [Bool.not_eq_true,List.any_eq_false]
   intro n hn
   obtain ⟨a,b⟩:=hm n hn
   unfold inR
   simp; omega
section
variable {code:List UInt8} (hc:code.length≤2097152)
include hc
theorem q74 (p:Int) (hp:0≤p∧p≤1099511000000):Drawn code p 1 (fun x=>∃ l:List Symbol,x = .agg [slc l]∧SigOk ⟨l⟩) (LIM F.q74 [.rref [slc code,.int .i64 p] 0]):=by
 refine q76 rfl 0 ?_
 rw [show callK prog A H LIM 0 F.q74 [.rref [slc code,.int .i64 p] 0]=_ from q74.ev _ _ _]
 refine q8t hc (by omega) fun v h1 h2 => ?_
 simp only [evz,Nat.reduceLT]
 have leaf:∀ l:List Symbol,SigOk ⟨l⟩→Drawn code p 1 (fun x=>∃ l:List Symbol,x = .agg [slc l]∧SigOk ⟨l⟩) (some (.agg [slc l],[.agg [slc code,.int .i64 (p+1)]])):=fun l hl=>q4l (by omega) ⟨l,rfl,hl⟩
 repeat' split
 all_goals first | exact leaf sigA sigA_ok | exact leaf sigB sigB_ok | exact leaf sigC sigC_ok | exact leaf sigD sigD_ok | exact leaf sigE sigE_ok
omit hc in
theorem set_sym {l:List Symbol} {i:Nat} (hi:i < l.length) (n:ByteArray):setCells (cells l) (i*2) [.str n]=cells (l.set i ⟨n,l[i].arity⟩):=by
 have:=fset_gen (o:=l) (i:=i) (n:=2) (j:=0) (x:=l[i]) (x':=⟨n,l[i].arity⟩) (c := .str n) rfl hi (by decide) (by rw [q2k,q2k]; rfl)
 rwa [set_same (List.getElem?_eq_getElem hi)] at this
omit hc in
theorem set_ar {l:List Symbol} {i:Nat} (hi:i < l.length) (n:Int):setCells (cells l) (i*2+1) [.int .i64 n]=cells (l.set i ⟨l[i].name,n⟩):=by
 have:=fset_gen (o:=l) (i:=i) (n:=2) (j:=1) (x:=l[i]) (x':=⟨l[i].name,n⟩) (c := .int .i64 n) rfl hi (by decide) (by rw [q2k,q2k]; rfl)
 rwa [set_same (List.getElem?_eq_getElem hi)] at this
theorem q0q (p:Int) (hp:0≤p∧p≤1099511000000):Drawn code p 5 (fun x=>∃ l:List Symbol,x = .agg [slc l]∧sm 7 (Signature.mk l)) (LIM F.q0q [.rref [slc code,.int .i64 p] 0]):=by
 refine q76 rfl 10 ?_
 rw [show callK prog A H LIM 10 F.q0q [.rref [slc code,.int .i64 p] 0]=_ from q0q.ev _ _ _]
 refine q5p (q74 hc p (by omega)) ?_
 rintro _ p1 a1 b1 ⟨l,rfl,ok⟩
 have hle:=ok.le
 have hpos:=ok.pos
 simp only at hle hpos
 have sml:=ok.small
 have leaf:∀ (l:List Symbol) (p2:Int),p≤p2∧p2≤p+5→sm 7 (Signature.mk l)→Drawn code p 5 (fun x=>∃ l:List Symbol,x = .agg [slc l]∧sm 7 (Signature.mk l)) (some (.agg [slc l],[.agg [slc code,.int .i64 p2]])):=fun l p2 h hl=>q4l h ⟨l,rfl,hl⟩
 have setS:∀ (i:Nat) (y:Symbol),y.name.size≤7→sm 7 (Signature.mk (l.set i y)):=fun i y hy=>⟨by show (l.set i y).length≤7; rw [List.length_set]; omega,fun x hx=>by
  rcases List.mem_or_eq_of_mem_set hx with h | rfl
  · exact sml.2 x h
  · exact hy⟩
 simp only [evz,Nat.reduceLT]
 refine q6r hc (by omega) fun b => ?_
 simp only [evz,Nat.reduceLT]
 cases b with
 | false=>simp only [evz,Nat.reduceLT,Bool.not_false]; exact leaf l _ (by omega) sml
 | true =>
   simp only [evz,Nat.reduceLT,Bool.not_true]
   refine q8t hc (by omega) fun v h1 h2 => ?_
   simp only [evz,Nat.reduceLT]
   split
   · exact leaf [] _ (by omega) ⟨by simp,by simp⟩
   split
   · rw [q2u (by omega),show (l.length:Int) - 1=((l.length - 1:Nat):Int) by omega]
     have hi:l.length - 1 < l.length:=by omega
     have z:(l.length - 1)*2+1≤l.length*2:=by omega
     simp only [evz,Nat.reduceLT,hi,q8b,q7y,z,set_sym hi]
     exact leaf _ _ (by omega) (setS _ _ (show (ba [97,98,99,100]).size≤7 by decide))
   split
   · refine q8t hc (by omega) fun x k1 k2 => ?_
     obtain ⟨i,rfl⟩:∃ i:Nat,x=i:=⟨x.toNat,by omega⟩
     have hi:i < l.length:=by have:=k2 (by omega); omega
     have z:i*2+1≤l.length*2:=by omega
     simp only [evz,Nat.reduceLT,hi,q8b,q7y,z,set_sym hi]
     exact leaf _ _ (by omega) (setS _ _ (show (ba [97,66]).size≤7 by decide))
   split
   · refine q8t hc (by omega) fun x k1 k2 => ?_
     obtain ⟨i,rfl⟩:∃ i:Nat,x=i:=⟨x.toNat,by omega⟩
     have hi:i < l.length:=by have:=k2 (by omega); omega
     simp only [evz,Nat.reduceLT]
     refine pick_s hc [3,-1] rfl (by simp) (by omega) fun y hy => ?_
     have z:i*2+1+1≤l.length*2:=by omega
     simp only [evz,Nat.reduceLT,hi,q8b,q7y,z,set_ar hi]
     exact leaf _ _ (by omega) (setS _ _ (sml.2 l[i] (List.getElem_mem hi)))
   split
   · have h0:0 < l.length:=by omega
     have e0:inB 0 l.length=true:=(q7a 0 _).trans (by simpa using h0)
     have g0:(cells l)[0]?=some (.str l[0].name):=by
      have:=get0 (l:=l) (k:=2) (i:=0) rfl
      rw [Nat.zero_mul] at this
      rw [this,List.getElem?_eq_getElem h0]; rfl
     have g1:(cells l)[1]?=some (.int .i64 l[0].arity):=by
      have:=get1 (l:=l) (k:=2) (i:=0) rfl (by decide)
      rw [Nat.zero_mul,Nat.zero_add] at this
      rw [this,List.getElem?_eq_getElem h0]; rfl
     simp only [evz,Nat.reduceLT,e0,g0,g1]
     rw [q22 (q3v (by rw [q0t]; simp only [q7y]; omega))]
     have e9:cells l++[.str l[0].name,.int .i64 l[0].arity]=cells (l++[l[0]]):=by rw [q36,q7t]; rfl
     rw [e9]
     refine leaf _ _ (by omega) ⟨by show (l++[l[0]]).length≤7; simp; omega,fun x hx => ?_⟩
     rcases List.mem_append.1 hx with h | h
     · exact sml.2 x h
     · rw [List.mem_singleton.1 h]; exact sml.2 _ (List.getElem_mem h0)
   split
   · refine q64 (σ:=Nat × List Symbol) (S:=fun m s=>q0q.at3 10 m (q0q.st3 l.length (s.1:Nat) (cells code) (p1+1+1) (cells s.2))) (fun s=>s.1≤l.length∧s.2.length=l.length∧sm 7 (Signature.mk s.2)) (fun s=>l.length - s.1) (fun m s hs => ?_) _ (0,l) ⟨by simp,rfl,sml⟩ (by simp only; omega)
     obtain ⟨k,o⟩:=s
     obtain ⟨q1,q2,q3⟩:=hs
     simp only at q1 q2 q3 ⊢
     by_cases hk:k < l.length
     · right
       have hko:k < o.length:=by omega
       have z:k*2+1+1≤o.length*2:=by omega
       refine ⟨(k+1,o.set k ⟨o[k].name,1⟩),?_,⟨by simp only; omega,by simp [q2],⟨by show (o.set k _).length≤7; rw [List.length_set]; omega,fun x hx => ?_⟩⟩,by simp only; omega⟩
       · simp only [q0q.next3,q0q.round3,evz,Nat.reduceLT,hk,hko,q8b,q7y,z,set_ar hko]
         rw [q0l (by omega)]
       · rcases List.mem_or_eq_of_mem_set hx with h | rfl
         · exact q3.2 x h
         · exact q3.2 o[k] (List.getElem_mem hko)
     · left
       simp only [q0q.next3,q0q.round3,evz,Nat.reduceLT,hk]
       exact leaf _ _ (by omega) q3
   refine q64 (σ:=List Symbol) (S:=fun m s=>q0q.at1 10 m (q0q.st1 (cells code) (p1+1+1) (cells s))) (fun s=>s.length≤7∧sm 7 (Signature.mk s)) (fun s=>7 - s.length) (fun m s hs => ?_) _ l ⟨by omega,sml⟩ (by omega)
   obtain ⟨k1,k2⟩:=hs
   by_cases hk:s.length < 7
   · right
     have hk2:((s.length:Nat):Int) < 7:=by omega
     refine ⟨s++[⟨ba [122],0⟩],?_,⟨by simp; omega,⟨by show (s++_).length≤7; simp; omega,fun x hx => ?_⟩⟩,by simp; omega⟩
     · simp only [q0q.next1,q0q.round1,evz,Nat.reduceLT,hk2]
       rw [q22 (q3v (by rw [q0t]; simp only [q7y]; omega)),q36,q7t]
       rfl
     · rcases List.mem_append.1 hx with h | h
       · exact k2.2 x h
       · rw [List.mem_singleton.1 h]; show (ba [122]).size≤7; decide
   · left
     have hk2:¬ ((s.length:Nat):Int) < 7:=by omega
     simp only [q0q.next1,q0q.round1,evz,Nat.reduceLT,hk2]
     exact leaf _ _ (by omega) k2
theorem q0r (p:Int) (hp:0≤p∧p≤1099511000000) (l:List Symbol) (hl:l.length≤1000):Drawn code p 4 (fun x=>∃ o,x=slc o∧Places l o) (LIM F.q0r [.rref [slc code,.int .i64 p] 0,.agg [slc l]]):=by
 refine q76 rfl 10 ?_
 rw [show callK prog A H LIM 10 F.q0r [.rref [slc code,.int .i64 p] 0,.agg [slc l]]=_ from q0r.ev _ _ _ _]
 simp only [evz,Nat.reduceLT,(q23 l.length (by omega)).eq]
 refine q8t hc (by omega) fun v h1 h2 => ?_
 simp only [evz,Nat.reduceLT]
 refine q64 (σ:=Int × Int × List Int) (S:=fun m s=>q0r.at0 10 m (q0r.st0 s.1 (cells code) s.2.1 (cells s.2.2))) (fun s=>0≤s.1∧s.1≤3∧p≤s.2.1∧s.2.1≤p+1+(3 - s.1)∧Places l s.2.2) (fun s=>s.1.toNat) (fun m s hs => ?_) _ (v,p+1,rise l.length) ⟨h1,by simp only; omega,by simp only; omega,by simp only; omega,List.Perm.refl _⟩ (by simp only; omega)
 obtain ⟨a,q,o⟩:=s
 obtain ⟨k1,k2,k3,k4,k5⟩:=hs
 simp only at k1 k2 k3 k4 k5 ⊢
 have hol:o.length=l.length:=by have:=k5.length_eq; rwa [q81] at this
 by_cases ha:a > 0
 · by_cases ho:((o.length:Nat):Int) > 1
   · right
     obtain ⟨x,e,x1,x2⟩:=q1c hc q ((o.length:Int) - 1) (by omega)
     obtain ⟨i,rfl⟩:∃ i:Nat,x=i:=⟨x.toNat,by omega⟩
     have hi:i+1 < o.length:=by have:=x2 (by omega); omega
     have hi0:i < o.length:=by omega
     refine ⟨(a - 1,q+1,(o.set i o[i+1]).set (i+1) o[i]),?_,⟨by simp only; omega,by simp only; omega,by simp only; omega,by simp only; omega,(perm_swap o hi).trans k5⟩,by simp only; omega⟩
     have z1:i*1+1≤o.length*1:=by omega
     have z2:(i+1)*1+1≤o.length*1:=by omega
     simp only [q0r.next0,q0r.round0,evz,Nat.reduceLT,ha,ho]
     rw [q2u (x:=(o.length:Int) - 1) (by omega)]
     have hi':i+1 < (o.set i o[i+1]).length:=by rw [List.length_set]; exact hi
     simp only [evz,Nat.reduceLT,e,q0l (show i < 9223372036854775807 by omega),hi,hi0,List.getElem?_eq_getElem,q1r,q8b,q39,z1,set_Int hi0,List.length_set,z2,set_Int hi']
     rw [q2u (x:=a - 1) (by omega)]
   · left
     simp only [q0r.next0,q0r.round0,evz,Nat.reduceLT,ha,ho]
     exact q4l (by omega) ⟨o,rfl,k5⟩
 · left
   simp only [q0r.next0,q0r.round0,evz,Nat.reduceLT,ha]
   exact q4l (by omega) ⟨o,rfl,k5⟩
theorem q46 (p:Int) (hp:0≤p∧p≤1099511000000) (l:List Symbol) (hl:l.length≤1000):Drawn code p 10 (fun x=>∃ o:List Int,x=slc o∧o.length≤l.length) (LIM F.q46 [.rref [slc code,.int .i64 p] 0,.agg [slc l]]):=by
 refine q76 rfl 10 ?_
 rw [show callK prog A H LIM 10 F.q46 [.rref [slc code,.int .i64 p] 0,.agg [slc l]]=_ from q46.ev _ _ _ _]
 refine q5p (q0r hc p (by omega) l hl) ?_
 rintro _ p1 a1 b1 ⟨o,rfl,ho⟩
 have hol:o.length=l.length:=by have:=ho.length_eq; rwa [q81] at this
 have leaf:∀ (o:List Int) (p2:Int),p≤p2∧p2≤p+10→o.length≤l.length→Drawn code p 10 (fun x=>∃ o:List Int,x=slc o∧o.length≤l.length) (some (slc o,[.agg [slc code,.int .i64 p2]])):=fun o p2 h hl=>q4l h ⟨o,rfl,hl⟩
 simp only [evz,Nat.reduceLT]
 split
 · exact leaf o _ (by omega) (by omega)
 rename_i hne
 refine q6r hc (by omega) fun b => ?_
 simp only [evz,Nat.reduceLT]
 cases b with
 | false=>simp only [evz,Nat.reduceLT,Bool.not_false]; exact leaf o _ (by omega) (by omega)
 | true =>
   simp only [evz,Nat.reduceLT,Bool.not_true]
   refine q8t hc (by omega) fun v h1 h2 => ?_
   simp only [evz,Nat.reduceLT]
   have h0:0 < o.length:=by omega
   have e0:inB 0 o.length=true:=(q7a 0 _).trans (by simpa using h0)
   have z0:0+1≤o.length*1:=by omega
   have s0:∀ n:Int,setCells (cells o) 0 [.int .i64 n]=cells (o.set 0 n):=fun n=>by
    have:=set_Int (l:=o) h0 n
    rwa [Nat.zero_mul] at this
   split
   · have z1:(1:Int)≤(o.length:Int):=by omega
     simp only [evz,Nat.reduceLT,z1,Int.le_refl,Bool.and_self,Int.reduceLE]
     have e9:((cells o).take (o.length*1)).drop (1*1)=cells (o.drop 1):=by
      rw [q7u o 1 _ rfl,List.take_length,cells_drop o 1 1 rfl]
     rw [e9]
     exact leaf (o.drop 1) _ (by omega) (by rw [List.length_drop]; omega)
   split
   · refine pick_s hc [6,-1] rfl (by simp) (by omega) fun y hy => ?_
     simp only [evz,Nat.reduceLT,e0,q8b,q39,z0,s0]
     exact leaf (o.set 0 y) _ (by omega) (by rw [List.length_set]; omega)
   · rw [q2u (by omega),show (o.length:Int) - 1=((o.length - 1:Nat):Int) by omega]
     have hi:o.length - 1 < o.length:=by omega
     simp only [evz,Nat.reduceLT,hi,List.getElem?_eq_getElem,q1r,e0,q8b,q39,z0,s0]
     exact leaf _ _ (by omega) (by rw [List.length_set]; omega)
theorem q0y (p most vars:Int) (l:List Symbol) (hl:l.length≤1000) (hm:1≤most∧most≤1000) (hv:0≤vars∧vars≤12) (hp:0≤p∧p≤1099510000000) :
 Drawn code p 3200 (fun x=>∃ t:List Int,x=slc t∧t.length≤1001) (LIM F.q0y [.rref [slc code,.int .i64 p] 0,.rref [slc l] 0,.int .i64 most,.int .i64 vars]):=by
 have leaf:∀ (t:List Int) (p2:Int),p≤p2∧p2≤p+3200→t.length≤1001→Drawn code p 3200 (fun x=>∃ t:List Int,x=slc t∧t.length≤1001) (some (slc t,[.agg [slc code,.int .i64 p2]])):=fun t p2 h hl=>q4l h ⟨t,rfl,hl⟩
 refine q76 rfl 30 ?_
 rw [show callK prog A H LIM 30 F.q0y [.rref [slc code,.int .i64 p] 0,.rref [slc l] 0,.int .i64 most,.int .i64 vars]=_ from q0y.ev _ _ _ _ _ _]
 simp only [evz,Nat.reduceLT]
 split
 · exact leaf [0] p (by omega) (by simp)
 simp only [(q01 l (by omega)).eq,evz,Nat.reduceLT]
 split
 case isFalse=>exact leaf [0] p (by omega) (by simp)
 rename_i hs
 have ok:=q6k hs
 refine q5p (q0b hc ok p most vars hm hv (by omega)) ?_
 rintro _ p1 a1 b1 ⟨t,rfl,g⟩
 have tl:=g.le
 have tp:=g.pos
 simp only [evz,Nat.reduceLT]
 refine q6r hc (by omega) fun b => ?_
 simp only [evz,Nat.reduceLT]
 cases b with
 | false=>simp only [evz,Nat.reduceLT,Bool.not_false]; exact leaf t _ (by omega) (by omega)
 | true =>
   simp only [evz,Nat.reduceLT,Bool.not_true]
   refine q8t hc (by omega) fun v h1 h2 => ?_
   simp only [evz,Nat.reduceLT]
   split
   · rw [q2u (by omega),show (t.length:Int) - 1=((t.length - 1:Nat):Int) by omega]
     have z1:(0:Int)≤((t.length - 1:Nat):Int):=by omega
     have z2:((t.length - 1:Nat):Int)≤(t.length:Int):=by omega
     simp only [evz,Nat.reduceLT,z1,z2,Bool.and_self]
     rw [q7u t 1 _ rfl]
     exact leaf _ _ (by omega) (by rw [List.length_take]; omega)
   split
   · rw [q22 (q3v (by rw [q0t]; simp only [q39]; omega)),q2d]
     exact leaf _ _ (by omega) (by simp; omega)
   split
   · refine q8t hc (by omega) fun x k1 k2 => ?_
     obtain ⟨i,rfl⟩:∃ i:Nat,x=i:=⟨x.toNat,by omega⟩
     have hi:i < t.length:=by have:=k2 (by omega); omega
     simp only [evz,Nat.reduceLT]
     refine pick_s hc [(l.length:Int),-13,-12] rfl (by simp) (by omega) fun y hy => ?_
     have z:i*1+1≤t.length*1:=by omega
     simp only [evz,Nat.reduceLT,hi,q8b,q39,z,set_Int hi]
     exact leaf _ _ (by omega) (by rw [List.length_set]; omega)
   refine q64 (σ:=Nat × Int × List Int) (S:=fun m s=>q0y.at1 30 m (q0y.st1 (s.1:Nat) (cells code) s.2.1 (cells s.2.2))) (fun s=>s.1≤25∧s.2.2.length=s.1∧p≤s.2.1∧s.2.1=p1+1+1+2*(s.1:Int)) (fun s=>25 - s.1) (fun m s hs => ?_) _ (0,p1+1+1,[]) ⟨by simp,rfl,by simp only; omega,by simp⟩ (by simp)
   obtain ⟨k,q,o⟩:=s
   obtain ⟨q1,q2,q3,q4⟩:=hs
   simp only at q1 q2 q3 q4 ⊢
   obtain ⟨x,hx,e⟩:=q29 hc q [24,25] (ts:=[.int .i64 24,.int .i64 25]) rfl (by simp) (by omega)
   have hx':x≤25:=by simp only [List.mem_cons,List.not_mem_nil,or_false] at hx; omega
   by_cases hk:(k:Int) < x
   · right
     obtain ⟨y,hy,e'⟩:=q29 hc (q+1) [1,2,0] (ts:=[.int .i64 1,.int .i64 2,.int .i64 0]) rfl (by simp) (by omega)
     refine ⟨(k+1,q+1+1,o++[y]),?_,⟨by simp only; omega,by simp [q2],by simp only; omega,by simp only; omega⟩,by simp only; omega⟩
     simp only [q0y.next1,q0y.round1,evz,Nat.reduceLT,e,hk,e']
     rw [q22 (q3v (by rw [q0t]; simp only [q39]; omega)),q0l (by omega),q2d]
   · left
     simp only [q0y.next1,q0y.round1,evz,Nat.reduceLT,e,hk]
     exact leaf o _ (by omega) (by omega)
end
end Ev.Ty
end
section
namespace Ev.Ty
open Go Ev
open Tm
set_option linter.unusedSimpArgs false
set_option linter.unusedVariables false
namespace Tm
def inst (σ:Int→Tm):Tm→Tm
 | v n=>σ n
 | k n=>k n
 | u n x=>u n (x.inst σ)
 | b n x y=>b n (x.inst σ) (y.inst σ)
theorem q8s {σ:Int→Tm} {a:Int→Nat} {t:Tm} (h:t.ok a) (h0:0≤t.head):(t.inst σ).args=t.args.map (inst σ)∧(t.inst σ).head=t.head:=by
 cases t with
 | v n=>have h:n < 0:=h; have h0:0≤n:=h0; omega
 | k n=>exact ⟨rfl,rfl⟩
 | u n x=>exact ⟨rfl,rfl⟩
 | b n x y=>exact ⟨rfl,rfl⟩
theorem inst_ok {σ:Int→Tm} {a:Int→Nat} (hσ:∀ n,n < 0→(σ n).ok a):∀ {t:Tm},t.ok a→(t.inst σ).ok a
 | .v n,h=>hσ n h
 | .k _,h=>h
 | .u _ _,h=>⟨h.1,h.2.1,inst_ok hσ h.2.2⟩
 | .b _ _ _,h=>⟨h.1,h.2.1,inst_ok hσ h.2.2.1,inst_ok hσ h.2.2.2⟩
inductive Part:Tm→Tm→Prop
 | arg {p t}:p∈t.args→Part p t
 | deep {p q t}:q∈t.args→Part p q→Part p t
end Tm
namespace G
variable {r:Int→Int}
theorem above {t p:Tm} (h:Tm.Part p t):G r t p:=by
 induction h with
 | arg h=>exact .eq h
 | deep h _ ih=>exact .sub h ih
theorem stable {a:Int→Nat} {σ:Int→Tm} {s t:Tm} (h:G r s t):s.ok a→t.ok a→G r (s.inst σ) (t.inst σ):=by
 induction h with
 | @eq s p hp =>
   intro hs _
   exact .eq (by rw [(q8s hs (hs.head hp)).1]; exact List.mem_map.2 ⟨_,hp,rfl⟩)
 | @sub s t p hp _ ih =>
   intro hs ht
   exact .sub (by rw [(q8s hs (hs.head hp)).1]; exact List.mem_map.2 ⟨_,hp,rfl⟩) (ih (hs.args hp) ht)
 | @big s t z1 z2 hr _ ih =>
   intro hs ht
   obtain ⟨_,e2⟩:=q8s (σ:=σ) hs z1
   obtain ⟨e3,e4⟩:=q8s (σ:=σ) ht z2
   refine .big (by rw [e2]; exact z1) (by rw [e4]; exact z2) (by rw [e2,e4]; exact hr) fun q hq => ?_
   rw [e3] at hq
   obtain ⟨q',hq',rfl⟩:=List.mem_map.1 hq
   exact ih q' hq' hs (ht.args hq')
 | @lex s t A B C x y z1 he _ e1 e2 _ ih ih2 =>
   intro hs ht
   obtain ⟨f1,f2⟩:=q8s (σ:=σ) hs z1
   obtain ⟨f3,f4⟩:=q8s (σ:=σ) ht (he ▸ z1)
   refine .lex (A:=A.map (inst σ)) (B:=B.map (inst σ)) (C:=C.map (inst σ)) (x:=x.inst σ) (y:=y.inst σ) (by rw [f2]; exact z1) (by rw [f2,f4]; exact he) (fun q hq => ?_) (by rw [f1,e1,List.map_append,List.map_cons]) (by rw [f3,e2,List.map_append,List.map_cons]) ?_
   · rw [f3] at hq
     obtain ⟨q',hq',rfl⟩:=List.mem_map.1 hq
     exact ih q' hq' hs (ht.args hq')
   · exact ih2 (hs.args (by rw [e1]; simp)) (ht.args (by rw [e2]; simp))
theorem ctx {s t x y:Tm} {A B:List Tm} (z:0≤s.head) (he:s.head=t.head) (e1:s.args=A++x::B) (e2:t.args=A++y::B) (h:G r x y):G r s t:=by
 refine .lex z he (fun q hq => ?_) e1 e2 h
 rw [e2] at hq
 rcases List.mem_append.1 hq with hq | hq
 · exact .eq (by rw [e1]; exact List.mem_append_left _ hq)
 · rcases List.mem_cons.1 hq with rfl | hq
   · exact .sub (by rw [e1]; simp) h
   · exact .eq (by rw [e1]; simp [hq])
end G
end Ev.Ty
end
section
namespace Ev.Ty
open Go Ev
open Tm
set_option linter.unusedSimpArgs false
set_option linter.unusedVariables false
section
variable {l:List Symbol} (ok:SigOk ⟨l⟩) {o:List Int} (ho:∀ n:Int,0≤n→n < l.length→n∈o)
include ok
theorem TermOk.atZero {t:List Int} (h:TermOk l t):∃ x,At l t 0 x∧t=x.flat:=by
 obtain ⟨x,hx,e⟩:=h.tree ok
 exact ⟨x,⟨hx,[],by simpa using e⟩,e⟩
include ho
theorem TermOk.inO {t:List Int} (h:TermOk l t):∀ n∈t,0≤n→n∈o:=fun n hn h0=>by
 have:=h.node n hn
 unfold q4x at this
 rw [Bool.or_eq_true,q75,q75] at this
 exact ho n h0 (by omega)
theorem q97 {a b:List Int} {x y:Tm} (ha:TermOk l a) (hb:TermOk l b) (hx:x.ok (ar l)) (hy:y.ok (ar l)) (ea:a=x.flat) (eb:b=y.flat):gt l o a b 0 0=true↔G (rank o) x y :=
 gt_G ha hb (ha.inO ok ho) _ (Nat.le_refl _) ⟨hx,[],by simpa using ea⟩ ⟨hy,[],by simpa using eb⟩
theorem not_self {t:List Int} (h:TermOk l t):gt l o t t 0 0=false:=by
 obtain ⟨x,hx,e⟩:=h.atZero ok
 cases q:gt l o t t 0 0
 · rfl
 · exact absurd ((q97 ok ho h h hx.1 hx.1 e e).1 q) (G.irrefl _ (Nat.le_refl _))
end
end Ev.Ty
end
section
namespace Ev.Ty
open Go Ev
open Enc (enc)
open Sm (sm)
set_option linter.unusedSimpArgs false
set_option linter.unusedVariables false
set_option maxHeartbeats 1000000
theorem q1k (l:List Symbol) (hl:l.length≤1000) (s:ByteArray):∃ n:Int,Call F.q1k [.rref [slc l] 0,.str s] (.int .i64 n):=by
 suffices h:∃ r,callK prog A H LIM (l.length+1) F.q1k [.rref [slc l] 0,.str s]=r∧∃ n:Int,r=some (.int .i64 n,[]) by
  obtain ⟨_,e,n,rfl⟩:=h
  exact ⟨n,q0v rfl _ e⟩
 refine ⟨_,q1k.ev _ _ _,?_⟩
 refine q64 (Q:=fun r=>∃ n:Int,r=some (.int .i64 n,[])) (σ:=Nat) (S:=fun m k=>q1k.at0 (l.length+1) m (q1k.st0 (cells l) s (k:Nat))) (fun k=>k≤l.length) (fun k=>l.length - k) (fun m k hk => ?_) _ 0 (by omega) (by omega)
 by_cases h:k < l.length
 · have g0:=get0 (l:=l) (k:=2) (i:=k) rfl
   have ek:l[k]?=some l[k]:=List.getElem?_eq_getElem h
   by_cases e:l[k].name=s
   · left
     exact ⟨(k:Int),by simp only [q1k.next0,q1k.round0,evz,Nat.reduceLT,h,g0,ek,e,beq_self_eq_true,q2k]⟩
   · right
     refine ⟨k+1,?_,by omega,by omega⟩
     simp only [q1k.next0,q1k.round0,evz,Nat.reduceLT,h,g0,ek,e,q2k]
     rw [q0l (by omega)]
 · left
   exact ⟨-1,by simp only [q1k.next0,q1k.round0,evz,Nat.reduceLT,h]⟩
def CutQ (s:ByteArray) (r:R):Prop:=∃ xs:List ByteArray,r=some (.sl 1 (xs.map .str),[])∧xs.length≤s.size+1∧∀ x∈xs,x.size≤s.size
theorem q1z (s:ByteArray) (hs:s.size≤1000) (c:Int):∃ xs:List ByteArray,Call F.q1z [.str s,.int .u8 c] (.sl 1 (xs.map .str))∧xs.length≤s.size+1∧∀ x∈xs,x.size≤s.size:=by
 suffices h:∃ r,callK prog A H LIM (s.size+2) F.q1z [.str s,.int .u8 c]=r∧CutQ s r by
  obtain ⟨_,e,n,rfl,h⟩:=h
  exact ⟨n,q0v rfl _ e,h⟩
 refine ⟨_,q1z.ev _ _ _,?_⟩
 have z:([]:List T)=([]:List ByteArray).map .str:=rfl
 rw [z]
 refine q64 (Q:=CutQ s) (σ:=Nat × Nat × List ByteArray) (S:=fun m q=>q1z.at0 (s.size+2) m (q1z.st0 s c (q.1:Nat) (q.2.1:Nat) (q.2.2.map .str))) (fun q=>q.1≤q.2.1∧q.2.1≤s.size+1∧q.2.2.length≤q.2.1∧∀ x∈q.2.2,x.size≤s.size) (fun q=>s.size+1 - q.2.1) (fun m q hq => ?_) _ (0,0,[]) ⟨by simp,by simp,by simp,by simp⟩ (by simp only; omega)
 obtain ⟨a,k,xs⟩:=q
 obtain ⟨h1,h2,h3,h4⟩:=hq
 simp only at h1 h2 h3 h4 ⊢
 by_cases hk:k≤s.size
 case neg =>
  left
  have hk':¬ (k:Int)≤(s.size:Int):=by omega
  exact ⟨xs,by simp only [q1z.next0,q1z.round0,evz,Nat.reduceLT,hk'],by omega,h4⟩
 right
 have hk':(k:Int)≤(s.size:Int):=by omega
 have ha':(0:Int)≤(a:Int):=by omega
 have hak:(a:Int)≤(k:Int):=by omega
 have put:∀ x∈xs++[s.extract a k],x.size≤s.size:=fun x hx=>by
  rcases List.mem_append.1 hx with h | h
  · exact h4 x h
  · rw [List.mem_singleton.1 h,ByteArray.size_extract]; omega
 have cell:(xs.map T.str)++[.str (s.extract a k)]=(xs++[s.extract a k]).map .str:=by rw [List.map_append]; rfl
 have blen:Nat.ble (((xs.map T.str).length+1)*16) (140737488355328*1)=true:=q3v (by rw [List.length_map]; omega)
 by_cases e:k=s.size
 · refine ⟨(k+1,k+1,xs++[s.extract a k]),?_,⟨by simp only; omega,by simp only; omega,by simp; omega,put⟩,by simp only; omega⟩
   have e':((k:Nat):Int)=(s.size:Int):=by omega
   simp only [q1z.next0,q1z.round0,evz,Nat.reduceLT,hk',e',beq_self_eq_true,ha',hak,Int.le_refl,decide_true,Bool.and_self,← cell]
   rw [← e] at *
   simp only [evz,Nat.reduceLT,hak,decide_true,Bool.and_self,blen]
   rw [q0l (by omega)]
 · have e':¬ ((k:Nat):Int)=(s.size:Int):=by omega
   have hlt:k < s.size:=by omega
   by_cases eb:((s.data.getD k 0).toNat:Int)=c
   · refine ⟨(k+1,k+1,xs++[s.extract a k]),?_,⟨by simp only; omega,by simp only; omega,by simp; omega,put⟩,by simp only; omega⟩
     simp only [q1z.next0,q1z.round0,evz,Nat.reduceLT,hk',e',hlt,eb,ha',hak,decide_true,Bool.and_self,blen,← cell]
     rw [q0l (by omega)]
   · refine ⟨(a,k+1,xs),?_,⟨by simp only; omega,by simp only; omega,by simp only; omega,h4⟩,by simp only; omega⟩
     simp only [q1z.next0,q1z.round0,evz,Nat.reduceLT,hk',e',hlt,eb]
     rw [q0l (by omega)]
def NodesQ (s:ByteArray) (r:R):Prop:=∃ (t:List Int) (b:Bool),r=some (.tup [slc t,.bool b],[])∧t.length≤s.size
theorem nodes_inner {l:List Symbol} (hl:l.length≤1000) (s:ByteArray) (hs:s.size≤1000) (N:Nat) (L:St→R) (a:Nat) (t:List Int) (ht:t.length≤a) (k0:Nat) (ha:a≤k0)
 (K:∀ (e:Nat) (n:Int),k0≤e→e≤s.size→NodesQ s (L (q0f.st0 (cells l) s (e:Nat) (cells (t++[n]))))):∀ (d k f:Nat),k+d=s.size→k0≤k→d < f →
 NodesQ s (q0f.at3 N L f (q0f.st3 (cells l) s (a:Nat) (k:Nat) (cells t))):=by
 intro d
 induction d with
 | zero =>
   intro k f hk h0 hf
   obtain ⟨f,rfl⟩:∃ g,f=g+1:=⟨f - 1,by omega⟩
   have n1:¬ (k:Int) < (s.size:Int):=by omega
   have c1:(0:Int)≤(a:Int):=by omega
   have c2:(a:Int)≤(k:Int):=by omega
   have c3:(k:Int)≤(s.size:Int):=by omega
   obtain ⟨n,en⟩:=q1k l hl (s.extract a k)
   have blen:Nat.ble (((cells t).length+1)*8) (140737488355328*1)=true:=q3v (by rw [q0t,q39]; omega)
   simp only [q0f.next3,q0f.round3,n1,c1,c2,c3,decide_true,decide_false,Bool.and_self,cond_true,cond_false,Int.toNat_natCast,en.eq,evz,Nat.reduceLT]
   by_cases hn:n < 0
   · simp only [hn,evz,Nat.reduceLT]
     exact ⟨[],false,rfl,by simp⟩
   · simp only [hn,evz,Nat.reduceLT,blen]
     rw [q2d]
     exact K k n h0 (by omega)
 | succ d ih =>
   intro k f hk h0 hf
   obtain ⟨f,rfl⟩:∃ g,f=g+1:=⟨f - 1,by omega⟩
   have n1:(k:Int) < (s.size:Int):=by omega
   have n2:k < s.size:=by omega
   have c1:(0:Int)≤(a:Int):=by omega
   have c2:(a:Int)≤(k:Int):=by omega
   have c3:(k:Int)≤(s.size:Int):=by omega
   obtain ⟨n,en⟩:=q1k l hl (s.extract a k)
   have blen:Nat.ble (((cells t).length+1)*8) (140737488355328*1)=true:=q3v (by rw [q0t,q39]; omega)
   have stop:NodesQ s (if n < 0 then some (.tup [.sl 1 [],.bool false],[]) else L (q0f.st0 (cells l) s (k:Nat) (cells t++[.int .i64 n]))):=by
    by_cases hn:n < 0
    · rw [if_pos hn]; exact ⟨[],false,rfl,by simp⟩
    · rw [if_neg hn,q2d]
      exact K k n h0 (by omega)
   have ih:=ih (k+1) f (by omega) (by omega) (by omega)
   simp only [q0f.next3,q0f.round3,n1,n2,c1,c2,c3,q7a,decide_true,decide_false,Bool.and_self,cond_true,cond_false,Int.toNat_natCast,en.eq,evz,Nat.reduceLT,blen,q0l (by omega:k < 9223372036854775807)]
   split
   · split
     · exact ih
     · exact stop
   · exact stop
theorem q0f {l:List Symbol} (hl:l.length≤1000) (s:ByteArray) (hs:s.size≤1000):∃ (t:List Int) (b:Bool),Call F.q0f [.rref [slc l] 0,.str s] (.tup [slc t,.bool b])∧t.length≤s.size:=by
 suffices h:∃ r,callK prog A H LIM (s.size+1) F.q0f [.rref [slc l] 0,.str s]=r∧NodesQ s r by
  obtain ⟨_,e,t,b,rfl,h⟩:=h
  exact ⟨t,b,q0v rfl _ e,h⟩
 refine ⟨_,q0f.ev _ _ _,?_⟩
 have key:∀ (d k f:Nat) (t:List Int),k+d=s.size→t.length≤k→d < f→NodesQ s (q0f.at0 (s.size+1) f (q0f.st0 (cells l) s (k:Nat) (cells t))):=by
  intro d
  induction d using Nat.strongRecOn with
  | ind d ih =>
    intro k f t hk ht hf
    obtain ⟨f,rfl⟩:∃ g,f=g+1:=⟨f - 1,by omega⟩
    by_cases hk0:k < s.size
    case neg =>
     have n1:¬ (k:Int) < (s.size:Int):=by omega
     simp only [q0f.next0,q0f.round0,evz,Nat.reduceLT,n1]
     exact ⟨t,true,rfl,by omega⟩
    have n1:(k:Int) < (s.size:Int):=by omega
    have next:NodesQ s (q0f.at0 (s.size+1) f (q0f.st0 (cells l) s ((k+1:Nat):Int) (cells t))):=ih (d - 1) (by omega) (k+1) f t (by omega) (by omega) (by omega)
    have put:∀ n:Int,NodesQ s (q0f.at0 (s.size+1) f (q0f.st0 (cells l) s ((k+1:Nat):Int) (cells t++[.int .i64 n]))):=fun n=>by
     rw [q2d]
     exact ih (d - 1) (by omega) (k+1) f _ (by omega) (by simp; omega) (by omega)
    have bad:NodesQ s (some (.tup [.sl 1 [],.bool false],[])):=⟨[],false,rfl,by simp⟩
    have blen:Nat.ble (((cells t).length+1)*8) (140737488355328*1)=true:=q3v (by rw [q0t,q39]; omega)
    have word:((s.data.getD k 0).toNat:Int) ≥ 97→((s.data.getD k 0).toNat:Int)≤122→NodesQ s (q0f.at3 (s.size+1) (q0f.at0 (s.size+1) f) (s.size+1) (q0f.st3 (cells l) s (k:Nat) (k:Nat) (cells t))):=fun w1 w2=>by
     have:=nodes_inner hl s hs (s.size+1) (q0f.at0 (s.size+1) f) k t ht (k+1) (by omega) (fun e n h1 h2=>ih (s.size - e) (by omega) e f _ (by omega) (by simp; omega) (by omega)) (d - 1) (k+1) s.size (by omega) (by omega) (by omega)
     simp only [q0f.next3,q0f.round3,n1,hk0,q7a,decide_true,cond_true,Int.toNat_natCast,w1,w2,q0l (by omega:k < 9223372036854775807)]
     exact this
    simp only [q0f.next0,q0f.round0,n1,hk0,q7a,decide_true,cond_true,Int.toNat_natCast,evz,Nat.reduceLT,blen,q0l (by omega:k < 9223372036854775807)]
    repeat' split
    all_goals first | with_reducible exact next | with_reducible exact bad | with_reducible exact put _ | (with_reducible apply word <;> assumption)
 exact key s.size 0 (s.size+1) [] (by omega) (by simp) (by omega)
section
variable {l:List Symbol} (ok:SigOk ⟨l⟩)
include ok
theorem node_sym {t:List Int} (ht:TermOk l t) {i:Nat} (hi:i < t.length) (h0:0≤t[i]):∃ k:Nat,t[i]=k∧∃ h:k < l.length,ar l t[i]=l[k].arity.toNat∧0≤l[k].arity∧l[k].arity≤2∧l[k].name.size≤3:=by
 have hn:=ht.node _ (List.getElem_mem hi)
 unfold q4x inR at hn
 simp only [Bool.or_eq_true,Bool.and_eq_true,decide_eq_true_eq] at hn
 have hk:t[i].toNat < l.length:=by omega
 refine ⟨t[i].toNat,by omega,hk,?_,(ok.arity _ (List.getElem_mem hk)).1,(ok.arity _ (List.getElem_mem hk)).2,name_small (ok.name _ (List.getElem_mem hk))⟩
 unfold ar
 rw [if_neg (by omega),List.getElem?_eq_getElem hk]
 rfl
def TextQ (c:Nat) (r:R):Prop:=∃ s:ByteArray,r=some (.str s,[])∧s.size≤c
theorem spec_l4TextAt {t:List Int} (ht:TermOk l t):∀ (x:Tm) (i:Nat),At l t i x→TextQ (6*x.flat.length) (LIM F.q1s [.rref [slc l] 0,slc t,.int .i64 i]):=by
 have lb:(ByteArray.mk #[40]).size=1:=rfl
 have rb:(ByteArray.mk #[41]).size=1:=rfl
 have cm:(ByteArray.mk #[44]).size=1:=rfl
 have hle:=ht.le
 intro x
 induction x with
 | v n =>
   intro i h
   obtain ⟨h1,h2,_,_⟩:=h.facts
   have hn:n < 0:=h.1
   have e:t[i]=n:=by rw [List.getD_eq_getElem?_getD,List.getElem?_eq_getElem h1] at h2; exact h2
   have ei:t[i]?=some n:=by rw [List.getElem?_eq_getElem h1,e]
   have ev:=q1s.ev 0 (cells l) (cells t) i
   simp only [evz,Nat.reduceLT,h1,ei,q1r,hn] at ev
   refine ⟨_,lim_of rfl 0 ev,?_⟩
   show ByteArray.size (ByteArray.push ByteArray.empty _)≤6*[n].length
   rw [ByteArray.size_push]; show 0+1≤6*1; decide
 | k n =>
   intro i h
   obtain ⟨h1,h2,_,_⟩:=h.facts
   have hn:0≤n∧ar l n=0:=h.1
   have e:t[i]=n:=by rw [List.getD_eq_getElem?_getD,List.getElem?_eq_getElem h1] at h2; exact h2
   subst e
   obtain ⟨q,eq,hq,q1,q2,q3,q4⟩:=node_sym ok ht h1 hn.1
   have ei:t[i]?=some (q:Int):=by rw [List.getElem?_eq_getElem h1,eq]
   have e0:l[q].arity=0:=by omega
   have hn':¬ (q:Int) < 0:=by omega
   have ek:l[q]?=some l[q]:=List.getElem?_eq_getElem hq
   refine ⟨l[q].name,lim_of rfl 0 ((q1s.ev _ _ _ _).trans ?_),by show _≤6*1; omega⟩
   simp only [evz,Nat.reduceLT,h1,ei,q1r,hn',hq,get0 (l:=l) (k:=2) rfl,get1 (l:=l) (k:=2) rfl,ek,q2k,e0]
 | u n y ihy =>
   intro i h
   obtain ⟨h1,h2,_,_⟩:=h.facts
   have hn:0≤n∧ar l n=1:=⟨h.1.1,h.1.2.1⟩
   have e:t[i]=n:=by rw [List.getD_eq_getElem?_getD,List.getElem?_eq_getElem h1] at h2; exact h2
   have hy:At l t (i+1) y:=by
    obtain ⟨hx,r,hr⟩:=h
    exact At.next hx.2.2 hr
   obtain ⟨y1,_,y3,_⟩:=hy.facts
   have yl:y.flat.length≤24:=by
    have:=(q2o ht y1).2.1
    omega
   subst e
   obtain ⟨q,eq,hq,q1,q2,q3,q4⟩:=node_sym ok ht h1 hn.1
   have ei:t[i]?=some (q:Int):=by rw [List.getElem?_eq_getElem h1,eq]
   have e0:l[q].arity=1:=by omega
   have hn':¬ (q:Int) < 0:=by omega
   have ek:l[q]?=some l[q]:=List.getElem?_eq_getElem hq
   obtain ⟨s,es,hs⟩:=ihy (i+1) hy
   have b1:l[q].name.size+1≤9223372036854775807:=by omega
   have ee:=(q7j ok ht y1).eq
   refine ⟨(l[q].name++ByteArray.mk #[40])++s++ByteArray.mk #[41],lim_of rfl 2 ((q1s.ev _ _ _ _).trans ?_),?_⟩
   · simp only [evz,Nat.reduceLT,h1,ei,q1r,hn',hq,get0 (l:=l) (k:=2) rfl,get1 (l:=l) (k:=2) rfl,ek,q2k,e0,lb,b1,q0l (by omega:i < 9223372036854775807)]
     have c1:(l[q].name++ByteArray.mk #[40]).size+s.size≤9223372036854775807:=by rw [ByteArray.size_append,lb]; omega
     have c2:((l[q].name++ByteArray.mk #[40])++s).size+1≤9223372036854775807:=by rw [ByteArray.size_append,ByteArray.size_append,lb]; omega
     simp only [q1s.next0,q1s.round0,evz,Nat.reduceLT,es,c1,ee,rb,c2]
     rfl
   · rw [ByteArray.size_append,ByteArray.size_append,ByteArray.size_append,lb,rb]
     show _≤6*(t[i]::y.flat).length
     rw [List.length_cons]; omega
 | b n y z ihy ihz =>
   intro i h
   obtain ⟨h1,h2,_,_⟩:=h.facts
   have hn:0≤n∧ar l n=2:=⟨h.1.1,h.1.2.1⟩
   have e:t[i]=n:=by rw [List.getD_eq_getElem?_getD,List.getElem?_eq_getElem h1] at h2; exact h2
   have hy:At l t (i+1) y:=by
    obtain ⟨hx,r,hr⟩:=h
    exact At.next (n:=n) hx.2.2.1 (r:=z.flat++r) (by rw [hr]; simp [Tm.flat])
   obtain ⟨y1,_,y3,_⟩:=hy.facts
   have hz:At l t (endAt l t (i+1)) z:=by
    obtain ⟨hx,r,hr⟩:=h
    refine ⟨hx.2.2.2,r,?_⟩
    rw [y3,← List.drop_drop,← List.drop_drop,hr]
    simp [Tm.flat]
   obtain ⟨z1,_,z3,_⟩:=hz.facts
   have el:=(q2o ht z1).2.1
   have yl:y.flat.length≤24:=by omega
   have zl:z.flat.length≤24:=by omega
   subst e
   obtain ⟨q,eq,hq,q1,q2,q3,q4⟩:=node_sym ok ht h1 hn.1
   have ei:t[i]?=some (q:Int):=by rw [List.getElem?_eq_getElem h1,eq]
   have e0:l[q].arity=2:=by omega
   have hn':¬ (q:Int) < 0:=by omega
   have ek:l[q]?=some l[q]:=List.getElem?_eq_getElem hq
   obtain ⟨s,es,hs⟩:=ihy (i+1) hy
   obtain ⟨s2,es2,hs2⟩:=ihz _ hz
   have b1:l[q].name.size+1≤9223372036854775807:=by omega
   have ee:=(q7j ok ht y1).eq
   have ee2:=(q7j ok ht z1).eq
   refine ⟨(((l[q].name++ByteArray.mk #[40])++s)++ByteArray.mk #[44])++s2++ByteArray.mk #[41],lim_of rfl 3 ((q1s.ev _ _ _ _).trans ?_),?_⟩
   · simp only [evz,Nat.reduceLT,h1,ei,q1r,hn',hq,get0 (l:=l) (k:=2) rfl,get1 (l:=l) (k:=2) rfl,ek,q2k,e0,lb,b1,q0l (by omega:i < 9223372036854775807)]
     have c1:(l[q].name++ByteArray.mk #[40]).size+s.size≤9223372036854775807:=by rw [ByteArray.size_append,lb]; omega
     have c2:((l[q].name++ByteArray.mk #[40])++s).size+1≤9223372036854775807:=by rw [ByteArray.size_append,ByteArray.size_append,lb]; omega
     have c3:(((l[q].name++ByteArray.mk #[40])++s)++ByteArray.mk #[44]).size+s2.size≤9223372036854775807:=by rw [ByteArray.size_append,ByteArray.size_append,ByteArray.size_append,lb,cm]; omega
     have c4:((((l[q].name++ByteArray.mk #[40])++s)++ByteArray.mk #[44])++s2).size+1≤9223372036854775807:=by rw [ByteArray.size_append,ByteArray.size_append,ByteArray.size_append,ByteArray.size_append,lb,cm]; omega
     simp only [q1s.next0,q1s.round0,evz,Nat.reduceLT,es,c1,ee,rb,c2,es2,ee2,cm,c3,c4]
     rfl
   · rw [ByteArray.size_append,ByteArray.size_append,ByteArray.size_append,ByteArray.size_append,ByteArray.size_append,lb,rb,cm]
     show _≤6*(t[i]::(y.flat++z.flat)).length
     rw [List.length_cons,List.length_append]; omega
theorem q5q (s:ByteArray) (hs:s.size≤1000):∃ t:List Int,Call F.q5q [.rref [slc l] 0,.str s] (slc t)∧t.length≤168:=by
 have hle:=ok.le
 simp only at hle
 suffices h:∃ r,callK prog A H LIM 0 F.q5q [.rref [slc l] 0,.str s]=r∧∃ t:List Int,r=some (slc t,[])∧t.length≤168 by
  obtain ⟨_,e,t,rfl,h⟩:=h
  exact ⟨t,q0v rfl _ e,h⟩
 refine ⟨_,q5q.ev _ _ _,?_⟩
 by_cases hb:(s.size:Int) > 168
 · simp only [evz,Nat.reduceLT,hb]; exact ⟨[],rfl,by simp⟩
 obtain ⟨t,b,en,ht⟩:=q0f (l:=l) (by omega) s hs
 simp only [evz,Nat.reduceLT,hb,en.eq,(q0u l ok t (by omega)).eq]
 cases b with
 | false=>exact ⟨[],rfl,by simp⟩
 | true =>
   simp only [evz,Nat.reduceLT,Bool.not_true]
   by_cases h0:q2s l t=0
   · have ok':=(q4r l t).1 h0
     obtain ⟨x,hx,_⟩:=TermOk.atZero ok ok'
     obtain ⟨w,ew,_⟩:=spec_l4TextAt ok ok' x 0 hx
     have ew:LIM F.q1s [.rref [slc l] 0,slc t,.int .i64 0]=some (.str w,[]):=ew
     simp only [h0,evz,Nat.reduceLT,ew,ne_eq,not_true_eq_false]
     split
     · exact ⟨t,rfl,by omega⟩
     · exact ⟨[],rfl,by simp⟩
   · simp only [h0,evz,Nat.reduceLT,ne_eq,not_false_eq_true]
     exact ⟨[],rfl,by simp⟩
theorem q3x (s:ByteArray) (hs:s.size≤1000):∃ (c:Int) (a b:List Int),Call F.q3x [.agg [slc l],.str s] (.agg [.int .i64 c,slc a,slc b])∧(c=0→EqOk l ⟨a,b⟩):=by
 have hle:=ok.le
 simp only at hle
 let Q:R→Prop:=fun r=>∃ (c:Int) (a b:List Int),r=some (.agg [.int .i64 c,slc a,slc b],[])∧(c=0→EqOk l ⟨a,b⟩)
 suffices h:∃ r,callK prog A H LIM 0 F.q3x [.agg [slc l],.str s]=r∧Q r by
  obtain ⟨_,e,c,a,b,rfl,h⟩:=h
  exact ⟨c,a,b,q0v rfl _ e,h⟩
 refine ⟨_,q3x.ev _ _ _,?_⟩
 have bad:Q (some (.agg [.int .i64 5,.sl 1 [],.sl 1 []],[])):=⟨5,[],[],rfl,by omega⟩
 obtain ⟨xs,ex,x1,x2⟩:=q1z s hs 61
 have es:=(q01 l (by omega)).eq
 rw [(sigOk_iff _).2 ok] at es
 simp only [evz,Nat.reduceLT,es,ex.eq,List.length_map]
 by_cases hb:(s.size:Int) > 337
 · simp only [hb,evz,Nat.reduceLT]; exact bad
 simp only [hb,evz,Nat.reduceLT]
 match xs,x2 with
 | [x,y],x2 =>
   have hx:=x2 x (by simp)
   have hy:=x2 y (by simp)
   obtain ⟨a,ea,ha⟩:=q5q ok x (by omega)
   obtain ⟨b,eb,hb⟩:=q5q ok y (by omega)
   have ef:LIM F.q52 [.rref [slc l] 0,.rref [.sl 1 (cells a),.sl 1 (cells b)] 0]=_:=(q52 l ok a b (by omega) (by omega)).eq
   by_cases h0:q34 l ⟨a,b⟩=0
   · have r:Q (some (.agg [.int .i64 0,.sl 1 (cells a),.sl 1 (cells b)],[])):=⟨0,a,b,rfl,fun _=>eqOk_iff.1 h0⟩
     simpa [ea.eq,eb.eq,ef,h0,inB] using r
   · simpa [ea.eq,eb.eq,ef,h0,inB] using bad
 | [],_=>simpa using bad
 | [x],_=>simpa using bad
 | x::y::z::r,_ =>
   have hne:¬ ((r.length:Int)+1+1+1=2):=by omega
   simpa [hne] using bad
end
end Ev.Ty
end
section
namespace Ev.Ty
open Go Ev
open Enc (enc)
open Sm (sm)
set_option linter.unusedSimpArgs false
set_option linter.unusedVariables false
set_option maxHeartbeats 2000000
set_option maxRecDepth 10000
theorem Grown.eq {l:List Symbol} {m n:Nat} {v w:Int} {a b:List Int} (ha:Grown l m v a) (hb:Grown l n w b) (h1:m≤24) (h2:n≤24) (h3:v≤6) (h4:w≤6):EqOk l ⟨a,b⟩ :=
 ⟨ha.ok h1 (by omega),hb.ok h2 (by omega),fun n hn=>by rcases ha.node n hn with h | h <;> omega,fun n hn=>by rcases hb.node n hn with h | h <;> omega⟩
theorem q5m (l:List Symbol) (hs:l.length≤4294967296) (t:List Int) (ht:t.length≤4294967296):Call F.q5m [.agg [slc l],slc t] (.int .i64 (q4k ⟨l⟩ t)):=by
 refine q0v rfl 0 ((q5m.ev _ _ _).trans ?_)
 simp only [evz,Nat.reduceLT,(q01 l hs).eq,q4k]
 by_cases h:q30 ⟨l⟩=0
 · simp only [h,evz,Nat.reduceLT,ne_eq,not_true_eq_false,(q0u l (q6k h) t ht).eq]
 · simp only [h,evz,Nat.reduceLT,ne_eq,not_false_eq_true]
section
variable {code:List UInt8} (hc:code.length≤2097152)
include hc
theorem q1t {l:List Symbol} (ok:SigOk ⟨l⟩) (p:Int) (hp:0≤p∧p≤1099510000000) :
 Drawn code p 6100 (fun x=>∃ a b:List Int,x = .agg [slc a,slc b]∧EqOk l ⟨a,b⟩) (LIM F.q1t [.rref [slc code,.int .i64 p] 0,.rref [slc l] 0]):=by
 refine q76 rfl 20 ?_
 rw [show callK prog A H LIM 20 F.q1t [.rref [slc code,.int .i64 p] 0,.rref [slc l] 0]=_ from q1t.ev _ _ _ _]
 refine q8t hc (by omega) fun v h1 h2 => ?_
 have h2:=h2 (by omega)
 obtain ⟨v,rfl⟩:∃ n:Nat,v=n:=⟨v.toNat,by omega⟩
 simp only [evz,Nat.reduceLT]
 generalize hX:([.str _,.str _,.str _,.str _,.str _,.str _,.str _,.str _,.str _,.str _,.str _,.str _,.str _,.str _,.str _,.str _,.str _,.str _]:List T)=X
 have hlen:X.length=18:=by rw [← hX]; rfl
 have hX:∃ Y:List ByteArray,X=Y.map .str∧∀ y∈Y,y.size≤1000:=by
  subst hX
  refine ⟨[_,_,_,_,_,_,_,_,_,_,_,_,_,_,_,_,_,_],rfl,?_⟩
  intro y hy
  simp only [List.mem_cons,List.not_mem_nil,or_false] at hy
  rcases hy with rfl | rfl | rfl | rfl | rfl | rfl | rfl | rfl | rfl | rfl | rfl | rfl | rfl | rfl | rfl | rfl | rfl | rfl <;> decide
 obtain ⟨Y,rfl,hY⟩:=hX
 rw [List.length_map] at hlen
 refine q64 (σ:=Nat) (S:=fun m k=>q1t.at0 20 m (q1t.st0 (cells l) 18 (v:Nat) (k:Nat) (cells code) (p+1) (Y.map .str))) (fun k=>k≤18) (fun k=>18 - k) (fun m k hk => ?_) _ 0 (by omega) (by omega)
 by_cases h:k < 18
 · have hi:(v+k) % 18 < Y.length:=by omega
   have w:IntKind.wrap .i64 (((v:Nat):Int)+(k:Nat))=((v+k:Nat):Int):=by rw [q2u (by omega)]; omega
   have w2:Int.tmod ((v+k:Nat):Int) 18=(((v+k) % 18:Nat):Int):=by rw [Int.tmod_eq_emod_of_nonneg (by omega)]; omega
   have hk':((k:Nat):Int) < 18:=by omega
   have ei:Y[(v+k) % 18]?=some Y[(v+k) % 18]:=List.getElem?_eq_getElem hi
   obtain ⟨c,a,b,er,hr⟩:=q3x ok Y[(v+k) % 18] (hY _ (List.getElem_mem hi))
   by_cases h0:c=0
   · left
     subst h0
     simp only [q1t.next0,q1t.round0,evz,Nat.reduceLT,hk',w,w2,q7a,hi,List.length_map,List.getElem?_map,ei,Option.map_some,Option.bind_some,Int.toNat_natCast,Nat.mul_one,Nat.div_one,er.eq,show ¬ (18:Int)=0 by decide]
     exact q4l (by omega) ⟨a,b,rfl,hr rfl⟩
   · right
     refine ⟨k+1,?_,by omega,by omega⟩
     simp only [q1t.next0,q1t.round0,evz,Nat.reduceLT,hk',w,w2,q7a,hi,List.length_map,List.getElem?_map,ei,Option.map_some,Option.bind_some,Int.toNat_natCast,Nat.mul_one,Nat.div_one,er.eq,h0,show ¬ (18:Int)=0 by decide]
     rw [q0l (by omega)]
 · left
   have hk':¬ ((k:Nat):Int) < 18:=by omega
   simp only [q1t.next0,q1t.round0,evz,Nat.reduceLT,hk']
   refine q5p (q0b hc ok (p+1) 4 2 (by omega) (by omega) (by omega)) ?_
   rintro _ p1 a1 b1 ⟨a,rfl,ha⟩
   simp only [evz,Nat.reduceLT]
   refine q5p (q0b hc ok p1 2 2 (by omega) (by omega) (by omega)) ?_
   rintro _ p2 a2 b2 ⟨b,rfl,hb⟩
   simp only [evz,Nat.reduceLT]
   exact q4l (by omega) ⟨a,b,rfl,ha.eq hb (by decide) (by decide) (by decide) (by decide)⟩
theorem q5r {l:List Symbol} (ok:SigOk ⟨l⟩) (p:Int) (hp:0≤p∧p≤1099500000000) :
 Drawn code p 6200 (fun x=>∃ a b:List Int,x = .agg [slc a,slc b]∧EqOk l ⟨a,b⟩) (LIM F.q5r [.rref [slc code,.int .i64 p] 0,.rref [slc l] 0]):=by
 refine q76 rfl 0 ?_
 rw [show callK prog A H LIM 0 F.q5r [.rref [slc code,.int .i64 p] 0,.rref [slc l] 0]=_ from q5r.ev _ _ _ _]
 refine q6r hc (by omega) fun b => ?_
 simp only [evz,Nat.reduceLT]
 cases b with
 | true =>
   simp only [evz,Nat.reduceLT]
   refine pick_s hc [4,7,9] rfl (by simp) (by omega) fun v hv => ?_
   have hv':4≤v∧v≤9:=by
    simp only [List.mem_cons,List.not_mem_nil,or_false] at hv; omega
   simp only [evz,Nat.reduceLT]
   refine q5p (q0b hc ok _ v 3 (by omega) (by omega) (by omega)) ?_
   rintro _ p1 a1 b1 ⟨a,rfl,ha⟩
   simp only [evz,Nat.reduceLT]
   refine pick_s hc [1,3,5] rfl (by simp) (by omega) fun w hw => ?_
   have hw':1≤w∧w≤5:=by
    simp only [List.mem_cons,List.not_mem_nil,or_false] at hw; omega
   simp only [evz,Nat.reduceLT]
   refine q5p (q0b hc ok _ w 3 (by omega) (by omega) (by omega)) ?_
   rintro _ p2 a2 b2 ⟨b,rfl,hb⟩
   simp only [evz,Nat.reduceLT]
   exact q4l (by omega) ⟨a,b,rfl,ha.eq hb (by omega) (by omega) (by decide) (by decide)⟩
 | false =>
   simp only [evz,Nat.reduceLT]
   refine q5p (q1t hc ok _ (by omega)) ?_
   rintro _ p1 a1 b1 ⟨a,b,rfl,h⟩
   simp only [evz,Nat.reduceLT]
   exact q4l (by omega) ⟨a,b,rfl,h⟩
theorem q3g {l:List Symbol} (hl:l.length≤1000) (p:Int) (hp:0≤p∧p≤1099490000000) :
 Drawn code p 6500 (fun x=>∃ a b:List Int,x = .agg [slc a,slc b]∧a.length≤1001∧b.length≤1001) (LIM F.q3g [.rref [slc code,.int .i64 p] 0,.rref [slc l] 0]):=by
 refine q76 rfl 0 ?_
 rw [show callK prog A H LIM 0 F.q3g [.rref [slc code,.int .i64 p] 0,.rref [slc l] 0]=_ from q3g.ev _ _ _ _]
 simp only [evz,Nat.reduceLT,(q01 l (by omega)).eq]
 by_cases h0:q30 ⟨l⟩=0
 case neg =>
  simp only [h0,evz,Nat.reduceLT,ne_eq,not_false_eq_true]
  exact q4l (by omega) ⟨[0],[0],rfl,by simp,by simp⟩
 have ok:=q6k h0
 simp only [h0,evz,Nat.reduceLT,ne_eq,not_true_eq_false]
 refine q6r hc (by omega) fun b => ?_
 simp only [evz,Nat.reduceLT]
 cases b with
 | true =>
   simp only [evz,Nat.reduceLT]
   refine q5p (q0y hc _ 9 7 l hl (by omega) (by omega) (by omega)) ?_
   rintro _ p1 a1 b1 ⟨a,rfl,ha⟩
   simp only [evz,Nat.reduceLT]
   refine q5p (q0y hc _ 5 12 l hl (by omega) (by omega) (by omega)) ?_
   rintro _ p2 a2 b2 ⟨b,rfl,hb⟩
   simp only [evz,Nat.reduceLT]
   exact q4l (by omega) ⟨a,b,rfl,ha,hb⟩
 | false =>
   simp only [evz,Nat.reduceLT]
   refine q5p (q5r hc ok _ (by omega)) ?_
   rintro _ p1 a1 b1 ⟨a,b,rfl,h⟩
   simp only [evz,Nat.reduceLT]
   have h1:=h.left.le
   have h2:=h.right.le
   simp only at h1 h2
   exact q4l (by omega) ⟨a,b,rfl,by omega,by omega⟩
omit hc in
theorem q53 (l:List Symbol) (hl:l.length≤1000) (t:List Int) (ht:t.length≤2000) (n:Int) (u:List Int) (hu:u.length≤1000000):∃ (c:Int) (r:List Int),Call F.q53 [.agg [slc l],slc t,.int .i64 n,slc u] (.agg [.int .i64 c,slc r])∧r.length≤24:=by
 suffices h:∃ r,callK prog A H LIM 0 F.q53 [.agg [slc l],slc t,.int .i64 n,slc u]=r∧∃ (c:Int) (x:List Int),r=some (.agg [.int .i64 c,slc x],[])∧x.length≤24 by
  obtain ⟨_,e,c,x,rfl,h⟩:=h
  exact ⟨c,x,q0v rfl _ e,h⟩
 have bad:∀ c:Int,∃ (c':Int) (x:List Int),(some (.agg [.int .i64 c,.sl 1 []],[]):R)=some (.agg [.int .i64 c',slc x],[])∧x.length≤24:=fun c=>⟨c,[],rfl,by simp⟩
 refine ⟨_,q53.ev _ _ _ _ _,?_⟩
 simp only [evz,Nat.reduceLT,(q5m l (by omega) t (by omega)).eq,(q5i t n (by omega)).eq]
 by_cases h1:q4k ⟨l⟩ t=0
 case neg=>simp only [h1,evz,Nat.reduceLT,ne_eq,not_false_eq_true]; exact bad _
 have hs:q30 ⟨l⟩=0:=Classical.byContradiction fun hne=>by unfold q4k at h1; rw [if_pos hne] at h1; exact hne h1
 have ok:=q6k hs
 have ht':TermOk l t:=(q4r l t).1 (by rw [q4k,if_neg (by simpa using hs)] at h1; exact h1)
 simp only [h1,evz,Nat.reduceLT,ne_eq,not_true_eq_false,(q0u l ok u (by omega)).eq]
 cases h2:inR n 0 (t.length - 1)
 · simp only [evz,Nat.reduceLT,Bool.not_false]; exact bad _
 · obtain ⟨q,rfl⟩:∃ q:Nat,n=q:=⟨n.toNat,by unfold inR at h2; simp only [Bool.and_eq_true,decide_eq_true_eq] at h2; omega⟩
   have hq:q < t.length:=by unfold inR at h2; simp only [Bool.and_eq_true,decide_eq_true_eq] at h2; omega
   simp only [evz,Nat.reduceLT,Bool.not_true]
   by_cases h3:q2s l u=0
   · simp only [h3,evz,Nat.reduceLT,ne_eq,not_true_eq_false,(q4c ok ht' hq u (by omega)).eq]
     split
     · exact bad _
     · exact ⟨0,_,rfl,by omega⟩
   · simp only [h3,evz,Nat.reduceLT,ne_eq,not_false_eq_true]; exact bad _
end
end Ev.Ty
end
section
namespace Ev.Ty
open Go Ev
open Enc (enc)
open Sm (sm)
set_option linter.unusedSimpArgs false
set_option linter.unusedVariables false
set_option maxHeartbeats 2000000
set_option maxRecDepth 10000
structure BindS (vs:List Int) (ts:List (List Int)):Prop where
 vlen:vs.length≤12
 tlen:ts.length≤12
 size:∀ t∈ts,t.length≤1001
section
variable {code:List UInt8} (hc:code.length≤2097152)
include hc
theorem q1o {l:List Symbol} (ok:SigOk ⟨l⟩) (p n:Int) (hn:0≤n∧n≤12) (hp:0≤p∧p≤1099490000000) :
 Drawn code p 40000 (fun x=>∃ vs ts,x = .agg [slc vs,slc ts]∧BindS vs ts∧BindOk vs ts) (LIM F.q1o [.rref [slc code,.int .i64 p] 0,.rref [slc l] 0,.int .i64 n]):=by
 refine q76 rfl 20 ?_
 rw [show callK prog A H LIM 20 F.q1o [.rref [slc code,.int .i64 p] 0,.rref [slc l] 0,.int .i64 n]=_ from q1o.ev _ _ _ _ _]
 refine q64 (σ:=Int × Int × List Int × List (List Int)) (S:=fun m s=>q1o.at0 20 m (q1o.st0 (cells l) n s.1 (cells code) s.2.1 (cells s.2.2.1) (cells s.2.2.2))) (fun s=>0≤s.1∧s.1≤n∧p≤s.2.1∧s.2.1≤p+s.1*3003∧(s.2.2.1.length:Int)≤s.1∧s.2.2.1.length=s.2.2.2.length∧(∀ v∈s.2.2.1,0≤v)∧∀ t∈s.2.2.2,1≤t.length∧t.length≤1001) (fun s=>(n - s.1).toNat) (fun m s hs => ?_) _ (0,p,[],[]) ⟨by simp only; omega,by simp only; omega,by simp only; omega,by simp only; omega,by simp,by simp,by simp,by simp⟩ (by simp only; omega)
 obtain ⟨k,q,vs,ts⟩:=s
 obtain ⟨h1,h2,h3,h4,h5,h6,h8,h7⟩:=hs
 simp only at h1 h2 h3 h4 h5 h6 h8 h7 ⊢
 by_cases hk:k < n
 case neg =>
  left
  simp only [q1o.next0,q1o.round0,evz,Nat.reduceLT,hk]
  exact q4l (by omega) ⟨vs,ts,rfl,⟨by omega,by omega,fun t ht=>(h7 t ht).2⟩,⟨h6,by omega,h8,fun t ht=>⟨(h7 t ht).1,by have:=(h7 t ht).2; omega⟩⟩⟩
 right
 have wk:IntKind.wrap .i64 (k+1)=k+1:=q2u (by omega)
 obtain ⟨b,ec⟩:=q27 hc q 3 (by omega)
 cases b with
 | true =>
   refine ⟨(k+1,q+1,vs,ts),?_,⟨by simp only; omega,by simp only; omega,by simp only; omega,by simp only; omega,by simp only; omega,h6,h8,h7⟩,by simp only; omega⟩
   simp only [q1o.next0,q1o.round0,evz,Nat.reduceLT,hk,ec,wk,Bool.not_true]
 | false =>
   obtain ⟨v,hv,ep⟩:=q29 hc (q+1) [1,3,4] (ts:=[.int .i64 1,.int .i64 3,.int .i64 4]) rfl (by simp) (by omega)
   have hv':1≤v∧v≤4:=by
    simp only [List.mem_cons,List.not_mem_nil,or_false] at hv; omega
   obtain ⟨_,q2,et,c1,c2,t,rfl,ht⟩:=q0b hc ok (q+1+1) v 4 (by omega) (by omega) (by omega)
   have htl:=ht.le
   refine ⟨(k+1,q2,vs++[k],ts++[t]),?_,⟨by simp only; omega,by simp only; omega,by simp only; omega,by simp only; omega,by simp; omega,by simp [h6],fun x hx => ?_,fun x hx => ?_⟩,by simp only; omega⟩
   · simp only [q1o.next0,q1o.round0,evz,Nat.reduceLT,hk,ec,wk,Bool.not_false,ep,et]
     rw [q22 (q3v (by rw [q0t]; simp only [q39]; omega)),q22 (q3v (by rw [q0t]; simp only [sz_list]; omega)),q6a,q2d]
   · rcases List.mem_append.1 hx with h | h
     · exact h8 x h
     · rw [List.mem_singleton.1 h]; omega
   · rcases List.mem_append.1 hx with h | h
     · exact h7 x h
     · rw [List.mem_singleton.1 h]; exact ⟨ht.pos,by omega⟩
end
end Ev.Ty
end
section
namespace Ev.Ty
open Go Ev
open Enc (enc)
open Sm (sm)
set_option linter.unusedSimpArgs false
set_option linter.unusedVariables false
section
variable (e:Nat→Nat) (f:Nat→Int)
def downStep (k:Nat) (s:Int × Int):Int × Int:=if s.1 ≥ 0∧e k ≥ e s.1.toNat then s else if f k ≥ 0 then ((k:Int),f k) else s
def down:Nat→Int × Int→Int × Int
 | 0,s=>s
 | k+1,s=>down k (downStep e f k s)
def upStep (s:Int × Int × Int) (k:Nat):Int × Int × Int:=if (e k:Int) > s.2.2 then s else if f k ≥ 0 then ((k:Int),f k,(e k:Int)) else s
def IsBest (lo hi:Nat) (s:Int × Int):Prop :=
 (s=(-1,-1)∧∀ a,lo≤a→a < hi→f a < 0) ∨
  ∃ a,lo≤a∧a < hi∧s=((a:Int),f a)∧f a ≥ 0∧∀ a',lo≤a'→a' < hi→f a' ≥ 0→e a < e a'∨(e a=e a'∧a'≤a)
theorem IsBest.down {k n:Nat} {s:Int × Int} (h:IsBest e f (k+1) n s) (hk:k < n):IsBest e f k n (downStep e f k s):=by
 unfold downStep
 rcases h with ⟨rfl,h⟩ | ⟨a,h1,h2,rfl,h3,h4⟩
 · rw [if_neg (by simp)]
   by_cases hf:f k ≥ 0
   · rw [if_pos hf]
     refine .inr ⟨k,Nat.le_refl _,hk,rfl,hf,fun a' q1 q2 q3 => ?_⟩
     by_cases hak:a'=k
     · subst hak; exact .inr ⟨rfl,Nat.le_refl _⟩
     · have:=h a' (by omega) q2; omega
   · rw [if_neg hf]
     refine .inl ⟨rfl,fun a' q1 q2 => ?_⟩
     by_cases hak:a'=k
     · subst hak; omega
     · exact h a' (by omega) q2
 · by_cases hc:e k ≥ e a
   · rw [if_pos ⟨by simp,by simpa using hc⟩]
     refine .inr ⟨a,by omega,h2,rfl,h3,fun a' q1 q2 q3 => ?_⟩
     by_cases hak:a'=k
     · subst hak
       rcases Nat.lt_or_ge (e a) (e a') with q | q
       · exact .inl q
       · exact .inr ⟨by omega,by omega⟩
     · exact h4 a' (by omega) q2 q3
   · rw [if_neg (by simp only [Int.toNat_natCast]; exact fun h=>hc h.2)]
     by_cases hf:f k ≥ 0
     · rw [if_pos hf]
       refine .inr ⟨k,Nat.le_refl _,hk,rfl,hf,fun a' q1 q2 q3 => ?_⟩
       by_cases hak:a'=k
       · subst hak; exact .inr ⟨rfl,Nat.le_refl _⟩
       · rcases h4 a' (by omega) q2 q3 with q | q <;> exact .inl (by omega)
     · rw [if_neg hf]
       refine .inr ⟨a,by omega,h2,rfl,h3,fun a' q1 q2 q3 => ?_⟩
       by_cases hak:a'=k
       · subst hak; omega
       · exact h4 a' (by omega) q2 q3
theorem down_best (n:Nat):∀ (k:Nat) (s:Int × Int),k≤n→IsBest e f k n s→IsBest e f 0 n (down e f k s)
 | 0,s,_,h=>h
 | k+1,s,hk,h=>down_best n k _ (by omega) (h.down e f (by omega))
theorem IsBest.up {k:Nat} {s:Int × Int × Int} (he:∀ a,e a≤24) (h:IsBest e f 0 k (s.1,s.2.1)) (hs:(s.1 = -1∧s.2.2=25)∨∃ a:Nat,s.1=a∧s.2.2=e a) :
 IsBest e f 0 (k+1) ((upStep e f s k).1,(upStep e f s k).2.1)∧(((upStep e f s k).1 = -1∧(upStep e f s k).2.2=25)∨∃ a:Nat,(upStep e f s k).1=a∧(upStep e f s k).2.2=e a):=by
 have hek:=he k
 obtain ⟨p,r,d⟩:=s
 unfold upStep
 simp only at h hs ⊢
 rcases h with ⟨hp,h⟩ | ⟨a,h1,h2,hp,h3,h4⟩
 · simp only [Prod.mk.injEq] at hp
   obtain ⟨rfl,rfl⟩:=hp
   have hd:d=25:=by
    rcases hs with ⟨_,h⟩ | ⟨a,h,_⟩
    · exact h
    · omega
   subst hd
   rw [if_neg (by omega)]
   by_cases hf:f k ≥ 0
   · rw [if_pos hf]
     refine ⟨.inr ⟨k,by omega,by omega,rfl,hf,fun a' q1 q2 q3 => ?_⟩,.inr ⟨k,rfl,rfl⟩⟩
     by_cases hak:a'=k
     · subst hak; exact .inr ⟨rfl,Nat.le_refl _⟩
     · have:=h a' (by omega) (by omega); omega
   · rw [if_neg hf]
     refine ⟨.inl ⟨rfl,fun a' q1 q2 => ?_⟩,.inl ⟨rfl,rfl⟩⟩
     by_cases hak:a'=k
     · subst hak; omega
     · exact h a' (by omega) (by omega)
 · simp only [Prod.mk.injEq] at hp
   obtain ⟨rfl,rfl⟩:=hp
   have hd:d=e a:=by
    rcases hs with ⟨h,_⟩ | ⟨a',h,h'⟩
    · omega
    · have:a=a':=by omega
      rw [this]; exact h'
   subst hd
   by_cases hc:(e k:Int) > e a
   · rw [if_pos hc]
     refine ⟨.inr ⟨a,by omega,by omega,rfl,h3,fun a' q1 q2 q3 => ?_⟩,.inr ⟨a,rfl,rfl⟩⟩
     by_cases hak:a'=k
     · subst hak; exact .inl (by omega)
     · exact h4 a' (by omega) (by omega) q3
   · rw [if_neg hc]
     by_cases hf:f k ≥ 0
     · rw [if_pos hf]
       refine ⟨.inr ⟨k,by omega,by omega,rfl,hf,fun a' q1 q2 q3 => ?_⟩,.inr ⟨k,rfl,rfl⟩⟩
       by_cases hak:a'=k
       · subst hak; exact .inr ⟨rfl,Nat.le_refl _⟩
       · rcases h4 a' (by omega) (by omega) q3 with q | ⟨q,_⟩
         · exact .inl (by omega)
         · rcases Nat.lt_or_ge (e k) (e a') with q' | q'
           · exact .inl q'
           · exact .inr ⟨by omega,by omega⟩
     · rw [if_neg hf]
       refine ⟨.inr ⟨a,by omega,by omega,rfl,h3,fun a' q1 q2 q3 => ?_⟩,.inr ⟨a,rfl,rfl⟩⟩
       by_cases hak:a'=k
       · subst hak; omega
       · exact h4 a' (by omega) (by omega) q3
theorem IsBest.unique {n:Nat} {s s':Int × Int} (h:IsBest e f 0 n s) (h':IsBest e f 0 n s'):s=s':=by
 rcases h with ⟨rfl,h⟩ | ⟨a,h1,h2,rfl,h3,h4⟩ <;> rcases h' with ⟨rfl,h'⟩ | ⟨b,k1,k2,rfl,k3,k4⟩
 · rfl
 · have:=h b (by omega) k2; omega
 · have:=h' a (by omega) h2; omega
 · have q1:=h4 b (by omega) k2 k3
   have q2:=k4 a (by omega) h2 h3
   have:a=b:=by omega
   rw [this]
def upAll (n:Nat):Int × Int × Int:=(List.range n).foldl (upStep e f) (-1,-1,25)
theorem upAll_best (he:∀ a,e a≤24):∀ n,IsBest e f 0 n ((upAll e f n).1,(upAll e f n).2.1)∧(((upAll e f n).1 = -1∧(upAll e f n).2.2=25)∨∃ a:Nat,(upAll e f n).1=a∧(upAll e f n).2.2=e a)
 | 0=>⟨.inl ⟨rfl,fun a _ h=>by omega⟩,.inl ⟨rfl,rfl⟩⟩
 | n+1=>by
   have ih:=upAll_best he n
   have e0:upAll e f (n+1)=upStep e f (upAll e f n) n:=by unfold upAll; rw [List.range_succ,List.foldl_append]; rfl
   rw [e0]
   exact ih.1.up e f he ih.2
theorem down_up (he:∀ a,e a≤24) (n:Nat):down e f n (-1,-1)=((upAll e f n).1,(upAll e f n).2.1) :=
 (down_best e f n n (-1,-1) (Nat.le_refl _) (.inl ⟨rfl,fun a _ h=>by omega⟩)).unique e f (upAll_best e f he n).1
end
def fits (l:List Symbol) (rs:List Equation) (t:List Int) (p:Nat):Int:=idx (fun e=>(q41 l e.left t p).isSome) rs
def redex (l:List Symbol) (rs:List Equation) (t:List Int):Int × Int:=down (endAt l t) (fits l rs t) t.length (-1,-1)
theorem endAt_le (l:List Symbol) (t:List Int) (p:Nat):endAt l t p≤t.length:=by
 unfold endAt
 split <;> omega
theorem redex_up {l:List Symbol} {rs:List Equation} {t:List Int} (ht:TermOk l t):redex l rs t=((upAll (endAt l t) (fits l rs t) t.length).1,(upAll (endAt l t) (fits l rs t) t.length).2.1) :=
 down_up _ _ (fun a=>Nat.le_trans (endAt_le l t a) ht.le) _
theorem redex_at {l:List Symbol} {rs:List Equation} {t:List Int}:redex l rs t=(-1,-1)∨∃ a k:Nat,∃ h:k < rs.length,a < t.length∧redex l rs t=((a:Int),(k:Int))∧(q41 l rs[k].left t a).isSome=true:=by
 rcases down_best (endAt l t) (fits l rs t) t.length t.length (-1,-1) (Nat.le_refl _) (.inl ⟨rfl,fun a _ h=>by omega⟩) with ⟨h,_⟩ | ⟨a,_,h2,h3,h4,_⟩
 · exact .inl h
 · rcases q60 (fun e:Equation=>(q41 l e.left t a).isSome) rs with ⟨h5,_⟩ | ⟨k,hk,h5,h6,_⟩
   · have:fits l rs t a = -1:=h5
     omega
   · have e1:fits l rs t a=(k:Nat):=h5
     exact .inr ⟨a,k,hk,h2,by unfold redex; rw [h3,e1],h6⟩
theorem skip_applied {l:List Symbol} {b:Bnd} {k:Nat} (hb:MB l b k) (hk:k≤24):∀ (q x:List Int) (m:Nat),skip (ar l) m q=some []→skip (ar l) m (q1q b.1 b.2 q++x)=some x
 | [],x,m,h=>by
   obtain ⟨rfl,_⟩:=skip_nil h
   rw [q3q]; rfl
 | n::q,x,m,h=>by
   cases m with
   | zero=>rw [q3q] at h; cases h
   | succ m =>
     rw [skip] at h
     have ih:=skip_applied hb hk q x _ h
     have e:q1q b.1 b.2 (n::q)=(q3d b.1 b.2 (-1 - n)).getD [n]++q1q b.1 b.2 q:=by simp [q1q]
     rw [e,List.append_assoc]
     cases ho:q3d b.1 b.2 (-1 - n) with
     | none =>
       show skip (ar l) (m+1) (n::(q1q b.1 b.2 q++x))=_
       rw [skip]; exact ih
     | some o =>
       have hn:n < 0:=by
        rcases Int.lt_or_le n 0 with h | h
        · exact h
        · rw [bindOf_neg (hb.ok hk) (by omega)] at ho; cases ho
       rw [ar_neg l hn,Nat.add_zero] at ih
       have ht:=hb.tm o (q5e ho)
       show skip (ar l) (m+1) (o++(q1q b.1 b.2 q++x))=_
       rw [show m+1=1+m by omega,q88,skip_append ht.skip]
       exact ih
theorem skip_repl {a:Int→Nat} {y y' z:List Int} (hy:skip a 1 (y++z)=some z) (hy':skip a 1 (y'++z)=some z):∀ (x:List Int) (k:Nat),skip a k (x++(y++z))=some []→skip a k (x++(y'++z))=some []
 | [],0,h=>by
   rw [q3q] at h
   rw [List.nil_append] at h
   rw [Option.some.inj h] at hy
   cases hy
 | [],k+1,h=>by
   rw [List.nil_append,show k+1=1+k by omega,q88] at h ⊢
   rw [hy] at h
   rw [hy']
   exact h
 | n::x,0,h=>by rw [q3q] at h; cases h
 | n::x,k+1,h=>by
   rw [List.cons_append,skip] at h ⊢
   exact skip_repl hy hy' x _ h
theorem applied_node {l:List Symbol} {b:Bnd} {k:Nat} (hb:MB l b k) {q:List Int} (hq:∀ n∈q,q4x l n=true):∀ n∈q1q b.1 b.2 q,q4x l n=true:=fun n hn=>by
 unfold q1q at hn
 obtain ⟨m,hm,hn⟩:=List.mem_flatMap.1 hn
 cases ho:q3d b.1 b.2 (-1 - m) with
 | none=>rw [ho] at hn; rw [List.mem_singleton.1 hn]; exact hq m hm
 | some o=>rw [ho] at hn; exact (hb.tm o (q5e ho)).node n hn
theorem repl_ok {l:List Symbol} {t q:List Int} (ht:TermOk l t) (hq:TermOk l q) {p:Nat} (hp:p < t.length) {b:Bnd} {k:Nat} (hb:MB l b k) (hk:k≤24) (h:(q4m l t p (q1q b.1 b.2 q)).length≤24) :
 TermOk l (q4m l t p (q1q b.1 b.2 q)):=by
 obtain ⟨h1,h2,h3⟩:=q48 ht hp
 have hs:skip (ar l) 1 (q4m l t p (q1q b.1 b.2 q))=some []:=by
  unfold q4m
  rw [List.append_assoc]
  refine skip_repl (y:=subAt l t p) (by rw [← h1]; exact h3) (skip_applied hb hk q _ 1 hq.skip) (t.take p) 1 ?_
  rw [← h1,List.take_append_drop]
  exact ht.skip
 refine ⟨?_,h,fun n hn => ?_,hs⟩
 · rcases Nat.eq_zero_or_pos (q4m l t p (q1q b.1 b.2 q)).length with h | h
   · rw [List.eq_nil_of_length_eq_zero h] at hs; cases hs
   · exact h
 · unfold q4m at hn
   rcases List.mem_append.1 hn with hn | hn
   · rcases List.mem_append.1 hn with hn | hn
     · exact ht.node n (List.mem_of_mem_take hn)
     · exact applied_node hb hq.node n hn
   · exact ht.node n (List.mem_of_mem_drop hn)
def q5x (l:List Symbol) (e:Equation) (t:List Int) (p:Nat):TermResult:=match q41 l e.left t p with
 | none=>⟨4,[]⟩
 | some b=>if 24 < (q4m l t p (q1q b.1 b.2 e.right)).length then ⟨2,[]⟩ else ⟨0,q4m l t p (q1q b.1 b.2 e.right)⟩
theorem stepAt_ok {l:List Symbol} {e:Equation} {t:List Int} (he:EqOk l e) (ht:TermOk l t) {p:Nat} (hp:p < t.length) (h:(q5x l e t p).code=0):TermOk l (q5x l e t p).term:=by
 unfold q5x at h ⊢
 cases hm:q41 l e.left t p with
 | none=>rw [hm] at h; cases h
 | some b =>
   rw [hm] at h
   simp only at h ⊢
   split at h
   · cases h
   · rename_i h24
     rw [if_neg h24]
     have hb:=matchAt_ok he.left ht hp hm
     exact repl_ok ht he.right hp hb he.left.le (by omega)
def norm (l:List Symbol) (rs:List Equation):Nat→Nat→List Int→NormalResult
 | 0,k,t=>if (redex l rs t).1 < 0 then ⟨0,t,k⟩ else ⟨9,[],0⟩
 | m+1,k,t=>if (redex l rs t).1 < 0 then ⟨0,t,k⟩ else
   if (q5x l (rs.getD (redex l rs t).2.toNat ⟨[],[]⟩) t (redex l rs t).1.toNat).code≠0 then ⟨(q5x l (rs.getD (redex l rs t).2.toNat ⟨[],[]⟩) t (redex l rs t).1.toNat).code,[],0⟩
   else norm l rs m (k+1) (q5x l (rs.getD (redex l rs t).2.toNat ⟨[],[]⟩) t (redex l rs t).1.toNat).term
def q2h (s:Signature) (rs:List Equation) (t:List Int):Int:=if q5d s rs≠0 then q5d s rs else q2s s.symbols t
def q7x (s:Signature) (rs:List Equation) (t:List Int):RedexResult :=
 if q2h s rs t≠0 then ⟨q2h s rs t,0,0⟩ else if (redex s.symbols rs t).1 < 0 then ⟨4,0,0⟩ else ⟨0,(redex s.symbols rs t).1,(redex s.symbols rs t).2⟩
def q6h (s:Signature) (rs:List Equation) (r p:Int) (t:List Int):TermResult :=
 if q2h s rs t≠0 then ⟨q2h s rs t,[]⟩ else if inR r 0 (rs.length - 1)=false∨inR p 0 (t.length - 1)=false then ⟨3,[]⟩ else q5x s.symbols (rs.getD r.toNat ⟨[],[]⟩) t p.toNat
def q7h (s:Signature) (rs:List Equation) (t:List Int) (fuel:Int):NormalResult :=
 if q2h s rs t≠0 then ⟨q2h s rs t,[],0⟩ else if inR fuel 0 200=false then ⟨3,[],0⟩ else norm s.symbols rs fuel.toNat 0 t
end Ev.Ty
end
section
namespace Ev.Ty
open Go Ev
open Enc (enc)
open Sm (sm)
set_option linter.unusedSimpArgs false
set_option linter.unusedVariables false
theorem ins_take {α:Type} {l:List α} {i k:Nat} (x:α) (hi:i≤k) (hk:k < l.length):(ins l i x).take (k+2)=(ins l i x).take (k+1)++[l[k]]:=by
 have hlen:=q72 l i x (by omega)
 have h:k+1 < (ins l i x).length:=by omega
 have e:(ins l i x)[k+1]=l[k]:=by
  have:=ins_get l x i (by omega) (k+1)
  rw [if_neg (by omega),if_neg (by omega),Nat.add_sub_cancel,List.getElem?_eq_getElem hk] at this
  have h2:(ins l i x)[k+1]?=some l[k]:=this
  rw [List.getElem?_eq_getElem h] at h2
  exact Option.some.inj h2
 rw [← e]
 exact (List.take_append_getElem h).symm
theorem ins_take_eq {α:Type} {l:List α} {i:Nat} (x:α) (hi:i≤l.length):(ins l i x).take (i+1)=l.take i++[x]:=by
 unfold ins
 rw [List.take_append,List.take_of_length_le (by simp; omega)]
 simp [Nat.min_eq_left hi]
theorem ins_end {α:Type} (l:List α) (x:α):ins l l.length x=l++[x]:=by simp [ins]
theorem q4v (vs:List Int) (i:Nat) (v:Int) (hi:i≤vs.length) (hl:vs.length < 4294967296):Call F.q4v [slc vs,.int .i64 i,.sl 1 [.int .i64 v]] (slc (ins vs i v)):=by
 refine lim_ext (e:=insE 8) rfl (Ev.of fun m => ?_)
 have hc:(cells vs).length=vs.length:=by rw [q0t,q39,Nat.mul_one]
 show (bif _ then _ else _)=_
 rw [q22 (by simp [hc,hl,Nat.ble_eq]; omega)]
 have e1:=q7u vs 1 i rfl
 have e2:=cells_drop vs 1 i rfl
 rw [Nat.mul_one] at e1 e2
 rw [Int.toNat_natCast,e1,e2]
 show some (T.sl 1 (cells (vs.take i)++T.int .i64 v::cells (vs.drop i)),[])=_
 unfold ins slc
 rw [q36,q6e]
 rfl
theorem q4n (ts:List (List Int)) (i:Nat) (t:List Int) (hi:i≤ts.length) (hl:ts.length < 4294967296):Call F.q4n [slc ts,.int .i64 i,.sl 1 [slc t]] (slc (ins ts i t)):=by
 refine lim_ext (e:=insE 24) rfl (Ev.of fun m => ?_)
 have hc:(cells ts).length=ts.length:=by rw [q0t,show Enc.sz (List Int)=1 from rfl,Nat.mul_one]
 show (bif _ then _ else _)=_
 rw [q22 (by simp [hc,hl,Nat.ble_eq]; omega)]
 have e1:=q7u ts 1 i rfl
 have e2:=cells_drop ts 1 i rfl
 rw [Nat.mul_one] at e1 e2
 rw [Int.toNat_natCast,e1,e2]
 show some (T.sl 1 (cells (ts.take i)++slc t::cells (ts.drop i)),[])=_
 unfold ins
 show _=some (T.sl 1 (cells (ts.take i++t::ts.drop i)),[])
 rw [q36,q6e]
 rfl
theorem q0s (vs:List Int) (ts:List (List Int)) (v:Int) (t:List Int) (hl:vs.length=ts.length) (hs:vs.length≤1000) (ht:t.length≤4294967296) :
 LIM F.q0s [.rref [slc vs,slc ts] 0,.int .i64 v,slc t]=some (.tup [],[.agg [slc (bput (vs,ts) v t).1,slc (bput (vs,ts) v t).2]]):=by
 have hi:=insAt_le vs v
 refine q51 rfl 1002 ((q0s.ev _ _ _ _ _).trans ?_)
 have loop:∀ n k f,k+n=insAt vs v→n < f→q0s.at0 1002 f (q0s.st0 v (cells t) (k:Nat) (cells vs) (cells ts))=some (.tup [],[.agg [slc (bput (vs,ts) v t).1,slc (bput (vs,ts) v t).2]]):=by
  intro n
  induction n with
  | zero =>
    intro k f hk hf
    obtain ⟨f,rfl⟩:∃ x,f=x+1:=⟨f - 1,by omega⟩
    obtain rfl:k=insAt vs v:=by omega
    have q1:=(q4v vs (insAt vs v) v hi (by omega)).eq
    have q2:=(q4n ts (insAt vs v) t (by omega) (by omega)).eq
    by_cases h:insAt vs v < vs.length
    · have hs:=insAt_stop vs v h
      have hlk:vs[insAt vs v]?=some vs[insAt vs v]:=List.getElem?_eq_getElem h
      simp only [q0s.next0,q0s.round0,evz,Nat.reduceLT,h,hlk,q1r,hs,q1,(q2y t ht).eq,q2]
      rfl
    · simp only [q0s.next0,q0s.round0,evz,Nat.reduceLT,h,q1,(q2y t ht).eq,q2]
      rfl
  | succ n ih =>
    intro k f hk hf
    obtain ⟨f,rfl⟩:∃ x,f=x+1:=⟨f - 1,by omega⟩
    have h:k < vs.length:=by omega
    have hlt:=insAt_lt vs v k (by omega) h
    have hlk:vs[k]?=some vs[k]:=List.getElem?_eq_getElem h
    simp only [q0s.next0,q0s.round0,evz,Nat.reduceLT,h,hlk,q1r,hlt]
    rw [q0l (by omega)]
    exact ih (k+1) f (by omega) (by omega)
 exact loop (insAt vs v) 0 1002 (by omega) (by omega)
def q7r (vs:List Int) (ts:List (List Int)) (v:Int) (t:List Int) (k:Nat):Bool × List Int × List (List Int) :=
 if k≤insAt vs v then (false,vs.take k,ts.take k) else (true,(ins vs (insAt vs v) v).take (k+1),(ins ts (insAt vs v) t).take (k+1))
theorem q1f (vs:List Int) (ts:List (List Int)) (v:Int) (t:List Int) (hl:vs.length=ts.length) (hs:vs.length≤1000) (ht:t.length≤4096) (hv:v∉vs) (htm:∀ x∈ts,x.length≤4096) :
 Call F.q1f [.rref [slc vs,slc ts] 0,.int .i64 v,slc t] (.agg [slc (bput (vs,ts) v t).1,slc (bput (vs,ts) v t).2]):=by
 have hi:=insAt_le vs v
 refine q0v rfl 1002 ((q1f.ev _ _ _ _ _).trans ?_)
 have key:=run_loop (n:=vs.length) (f:=1002) (S:=fun m k (s:Bool × List Int × List (List Int))=>q1f.at0 1002 m (q1f.st0 (cells vs) (cells ts) v (cells t) s.1 (k:Nat) (cells s.2.1) (cells s.2.2)))
  (st:=q7r vs ts v t) (z:=some (.agg [slc (bput (vs,ts) v t).1,slc (bput (vs,ts) v t).2],[])) (fun m k h => ?_) (fun m => ?_) (by omega)
 · have e0:q7r vs ts v t 0=(false,[],[]):=by unfold q7r; rw [if_pos (Nat.zero_le _)]; rfl
   rw [e0] at key
   exact key
 · have h':k < ts.length:=by omega
   have hlk:vs[k]?=some vs[k]:=List.getElem?_eq_getElem h
   have htk:ts[k]?=some ts[k]:=List.getElem?_eq_getElem h'
   have hx:=(q5w ts[k] (by have:=htm _ (List.getElem_mem h'); omega)).eq
   have hx2:=(q5w t (by omega)).eq
   have hne:vs[k]≠v:=fun e=>hv (e ▸ List.getElem_mem h)
   have len1:∀ q,((cells (vs.take q)).length)≤1000:=fun q=>by rw [q0t,q39]; simp; omega
   have len2:∀ q,((cells (ts.take q)).length)≤1000:=fun q=>by rw [q0t,show Enc.sz (List Int)=1 from rfl]; simp; omega
   have len3:∀ q,((cells ((ins vs (insAt vs v) v).take q)).length)≤1001:=fun q=>by rw [q0t,q39,List.length_take,q72 _ _ _ hi]; omega
   have len4:∀ q,((cells ((ins ts (insAt vs v) t).take q)).length)≤1001:=fun q=>by rw [q0t,show Enc.sz (List Int)=1 from rfl,List.length_take,q72 _ _ _ (by omega)]; omega
   have tk1:vs.take (k+1)=vs.take k++[vs[k]]:=(List.take_append_getElem h).symm
   have tk2:ts.take (k+1)=ts.take k++[ts[k]]:=(List.take_append_getElem h').symm
   rcases Nat.lt_trichotomy k (insAt vs v) with c | c | c
   · have hlt:=insAt_lt vs v k c h
     have hgt:¬ vs[k] > v:=by omega
     have e1:q7r vs ts v t k=(false,vs.take k,ts.take k):=if_pos (by omega)
     have e2:q7r vs ts v t (k+1)=(false,vs.take k++[vs[k]],ts.take k++[ts[k]]):=by unfold q7r; rw [if_pos (by omega),tk1,tk2]
     rw [e1,e2]
     simp only [q1f.next0,q1f.round0,evz,Nat.reduceLT,h,h',hlk,htk,q1r,q9b,hgt,hx,q2d,q6a]
     rw [q22 (q3v (by have:=len1 k; omega)),q22 (q3v (by have:=len2 k; omega)),q0l (by omega)]
   · have hs:=insAt_stop vs v (by omega)
     have hs:¬ vs[k] < v:=by
      have:vs[insAt vs v]'(by omega)=vs[k]:=by congr 1; omega
      rw [this] at hs; exact hs
     have hgt:vs[k] > v:=by omega
     have e1:q7r vs ts v t k=(false,vs.take k,ts.take k):=if_pos (by omega)
     have e2:q7r vs ts v t (k+1)=(true,(vs.take k++[v])++[vs[k]],(ts.take k++[t])++[ts[k]]):=by
      unfold q7r
      rw [if_neg (by omega),← c,ins_take v (Nat.le_refl _) h,ins_take t (Nat.le_refl _) h',ins_take_eq v (by omega),ins_take_eq t (by omega)]
     rw [e1,e2]
     simp only [q1f.next0,q1f.round0,evz,Nat.reduceLT,h,h',hlk,htk,q1r,q9b,hgt,hx,hx2,q2d,q6a]
     have l1:=len1 k
     have l2:=len2 k
     have l3:(cells (vs.take k++[v])).length≤1001:=by rw [q36,List.length_append,q0t [v]]; simp; omega
     have l4:(cells (ts.take k++[t])).length≤1001:=by rw [q36,List.length_append,q0t [t]]; simp [show Enc.sz (List Int)=1 from rfl]; omega
     rw [q22 (q3v (by omega)),q22 (q3v (by omega)),q22 (q3v (by omega)),q22 (q3v (by omega)),q0l (by omega)]
   · have e1:q7r vs ts v t k=(true,(ins vs (insAt vs v) v).take (k+1),(ins ts (insAt vs v) t).take (k+1)):=if_neg (by omega)
     have e2:q7r vs ts v t (k+1)=(true,(ins vs (insAt vs v) v).take (k+1)++[vs[k]],(ins ts (insAt vs v) t).take (k+1)++[ts[k]]):=by
      unfold q7r
      rw [if_neg (by omega),ins_take v (by omega) h,ins_take t (by omega) h']
     rw [e1,e2]
     simp only [q1f.next0,q1f.round0,evz,Nat.reduceLT,h,h',hlk,htk,q1r,q9b,hx,q2d,q6a]
     rw [q22 (q3v (by have:=len3 (k+1); omega)),q22 (q3v (by have:=len4 (k+1); omega)),q0l (by omega)]
 · have hx2:=(q5w t (by omega)).eq
   by_cases c:insAt vs v=vs.length
   · have e1:q7r vs ts v t vs.length=(false,vs,ts):=by
      unfold q7r
      rw [if_pos (by omega),List.take_length,hl,List.take_length]
     have e2:bput (vs,ts) v t=(vs++[v],ts++[t]):=by
      unfold bput
      rw [c,ins_end]
      simp only [Prod.mk.injEq,true_and]
      rw [hl,ins_end]
     rw [e1,e2]
     simp only [q1f.next0,q1f.round0,evz,Nat.reduceLT,Nat.lt_irrefl,hx2,q2d,q6a]
     rw [q22 (q3v (by rw [q0t,q39]; omega)),q22 (q3v (by rw [q0t,show Enc.sz (List Int)=1 from rfl]; omega))]
   · have e1:q7r vs ts v t vs.length=(true,ins vs (insAt vs v) v,ins ts (insAt vs v) t):=by
      unfold q7r
      rw [if_neg (by omega),List.take_of_length_le (by rw [q72 _ _ _ hi]; omega),List.take_of_length_le (by rw [q72 _ _ _ (by omega)]; omega)]
     rw [e1]
     simp only [q1f.next0,q1f.round0,evz,Nat.reduceLT,Nat.lt_irrefl]
     rfl
def mT:Option Bnd→T
 | none => .tup [.agg [.sl 1 [],.sl 1 []],.bool false]
 | some b => .tup [.agg [slc b.1,slc b.2],.bool true]
section
variable {l:List Symbol} (ok:SigOk ⟨l⟩)
include ok
theorem q1g {pat u:List Int} (hq:TermOk l pat) (hu:TermOk l u):Call F.q1g [.agg [slc l],slc pat,slc u] (mT (q41 l pat u 0)):=by
 have hul:=hu.le
 have hpl:=hq.le
 refine q0v rfl 25 ((q1g.ev _ _ _ _).trans ?_)
 simp only [q5b,q39]
 have loop:∀ (q:List Int) (b:Bnd) (p k f:Nat),pat.drop k=q→q.length < f→Both l u q p []→MB l b k→k+q.length=pat.length →
  q1g.at0 25 f (q1g.st0 (cells u) (p:Nat) (cells pat) pat.length (k:Nat) (cells l) (cells b.1) (cells b.2)) =
   some (match mgo l u q b p with | none=>T.tup [.agg [.sl 1 [],.sl 1 []],.bool false] | some x => .tup [.agg [slc x.1.1,slc x.1.2],.bool (decide (x.2=u.length))],[]):=by
  intro q
  induction q with
  | nil =>
    intro b p k f hd hf hB hb hk
    obtain ⟨f,rfl⟩:∃ x,f=x+1:=⟨f - 1,by omega⟩
    have h:¬ k < pat.length:=by simp at hk; omega
    simp only [q1g.next0,q1g.round0,evz,Nat.reduceLT,h,mgo,Int.ofNat_inj]
  | cons n q ih =>
    intro b p k f hd hf hB hb hk
    rw [List.length_cons] at hf hk
    obtain ⟨f,rfl⟩:∃ x,f=x+1:=⟨f - 1,by omega⟩
    have h:k < pat.length:=by omega
    have hn:pat[k]=n:=by
     have:=congrArg (fun x=>x[0]?) hd
     simp only [List.getElem?_drop,Nat.add_zero,List.getElem?_cons_zero] at this
     rw [List.getElem?_eq_getElem h] at this
     exact Option.some.inj this
    have hd':pat.drop (k+1)=q:=by rw [← List.drop_drop,hd]; rfl
    have hlk:pat[k]?=some n:=by rw [List.getElem?_eq_getElem h,hn]
    have hp:=hB.lt
    have hpk:u[p]?=some u[p]:=List.getElem?_eq_getElem hp
    have hnode:=q4o.1 (hq.node n (hn ▸ List.getElem_mem h))
    have hp':¬ ((p:Int) ≥ (u.length:Int)):=by omega
    have hls:l.length≤6:=ok.le
    obtain ⟨h3,h4,_⟩:=q2o hu hp
    have hsl:=(q48 hu hp).2.1
    rw [mgo,if_neg (by omega)]
    by_cases c:0≤n
    · have c':n ≥ 0:=c
      rw [if_pos c,q7g hp]
      by_cases e:u[p]=n
      · simp only [q1g.next0,q1g.round0,evz,Nat.reduceLT,h,hlk,hp,hpk,hp',q1r,c',e]
        rw [q0l (by omega),q0l (by omega)]
        exact ih b (p+1) (k+1) f hd' (by omega) (hB.node (by rw [q7g hp,e])) (hb.up (by omega)) (by omega)
      · simp only [q1g.next0,q1g.round0,evz,Nat.reduceLT,h,hlk,hp,hpk,hp',q1r,c',e]
    · have c':¬ n ≥ 0:=c
      rw [if_neg c]
      have hof:=(q43 b.1 b.2 (-1 - n) hb.len (by have:=hb.le; omega)).eq
      have hB':=hB.var hu (by omega)
      have hw:IntKind.wrap .i64 (-1 - n) = -1 - n:=q2u (by omega)
      have hw2:IntKind.wrap .i64 ((p:Int)+((subAt l u p).length:Nat))=((p+(subAt l u p).length:Nat):Int):=by rw [q2u (by omega)]; omega
      have hsub:=(q2z ok hu hp).eq
      have hbl:=hb.le
      cases hbo:q3d b.1 b.2 (-1 - n) with
      | none =>
        rw [hbo] at hof
        have hbind:=q0s b.1 b.2 (-1 - n) (subAt l u p) hb.len (by omega) (by omega)
        simp only [q1g.next0,q1g.round0,evz,Nat.reduceLT,h,hlk,hp',q1r,c',hsub,hw,hof,ofT,q3n,hbind,hw2]
        rw [q0l (by omega)]
        exact ih (bput b (-1 - n) (subAt l u p)) _ (k+1) f hd' (by omega) hB' (hb.put (by omega) (q6f hu hp)) (by omega)
      | some o =>
        rw [hbo] at hof
        have ho:=hb.tm o (q5e hbo)
        have hol:=ho.le
        have heq:=(q0h o (subAt l u p) ⟨by omega,fun _ _=>trivial⟩).eq
        show _=some (match (if o=subAt l u p then mgo l u q b (p+(subAt l u p).length) else none) with | none=>_ | some x=>_,[])
        by_cases e:o=subAt l u p
        · rw [if_pos e]
          rw [e] at heq
          simp only [q1g.next0,q1g.round0,evz,Nat.reduceLT,h,hlk,hp',q1r,c',hsub,hw,hof,ofT,q3n,heq,e,hw2]
          rw [q0l (by omega)]
          exact ih b _ (k+1) f hd' (by omega) hB' (hb.up (by omega)) (by omega)
        · rw [if_neg e]
          simp only [q1g.next0,q1g.round0,evz,Nat.reduceLT,h,hlk,hp',q1r,c',hsub,hw,hof,ofT,q3n,heq,e]
 have hpos:=hu.pos
 have e0:u.drop (endAt l u 0)=[]:=by
  have:=(q48 hu (p:=0) (by omega)).2.2
  rw [List.drop_zero,hu.skip] at this
  exact (Option.some.inj this).symm
 have hB:=Both.start hu hq (p:=0) (by omega)
 rw [e0] at hB
 have hmain:=loop pat ([],[]) 0 0 25 rfl (by omega) hB (MB.nil l) (by omega)
 have hen:=mgo_end hu pat ([],[]) 0 0 hB (by omega) (MB.nil l) (by omega) hq.node
 unfold q41
 cases hm:mgo l u pat ([],[]) 0 with
 | none=>rw [hm] at hmain; exact hmain
 | some x =>
   rw [hm] at hmain
   obtain ⟨h1,h2,_⟩:=hen x hm
   have hx:x.2=u.length:=by
    have:=congrArg List.length h1
    rw [List.length_drop] at this
    simp at this
    omega
   have hmain:q1g.at0 25 25 (q1g.st0 (cells u) (0:Nat) (cells pat) pat.length (0:Nat) (cells l) (cells ([]:List Int)) (cells ([]:List (List Int))))=some (T.tup [.agg [slc x.1.1,slc x.1.2],.bool (decide (x.2=u.length))],[]):=hmain
   rw [hx,decide_eq_true rfl] at hmain
   exact hmain
theorem q10 {pat u:List Int} (hq:TermOk l pat) (hu:TermOk l u) {p0:Nat} (hp0:p0 < u.length):Call F.q10 [.rref [slc l] 0,slc pat,slc u,.int .i64 p0] (mT (q41 l pat u p0)):=by
 have hul:=hu.le
 have hpl:=hq.le
 refine q0v rfl 25 ((q10.ev _ _ _ _ _).trans ?_)
 have loop:∀ (q:List Int) (b:Bnd) (p k f:Nat),pat.drop k=q→q.length < f→Both l u q p (u.drop (endAt l u p0))→MB l b k→k+q.length=pat.length →
  q10.at0 25 f (q10.st0 (cells l) (cells pat) (cells u) (p:Nat) (k:Nat) (cells b.1) (cells b.2))=some (mT ((mgo l u q b p).map (·.1)),[]):=by
  intro q
  induction q with
  | nil =>
    intro b p k f hd hf hB hb hk
    obtain ⟨f,rfl⟩:∃ x,f=x+1:=⟨f - 1,by omega⟩
    have h:¬ k < pat.length:=by simp at hk; omega
    simp only [q10.next0,q10.round0,evz,Nat.reduceLT,h,mgo,Option.map_some,mT]
  | cons n q ih =>
    intro b p k f hd hf hB hb hk
    rw [List.length_cons] at hf hk
    obtain ⟨f,rfl⟩:∃ x,f=x+1:=⟨f - 1,by omega⟩
    have h:k < pat.length:=by omega
    have hn:pat[k]=n:=by
     have:=congrArg (fun x=>x[0]?) hd
     simp only [List.getElem?_drop,Nat.add_zero,List.getElem?_cons_zero] at this
     rw [List.getElem?_eq_getElem h] at this
     exact Option.some.inj this
    have hd':pat.drop (k+1)=q:=by rw [← List.drop_drop,hd]; rfl
    have hlk:pat[k]?=some n:=by rw [List.getElem?_eq_getElem h,hn]
    have hp:=hB.lt
    have hpk:u[p]?=some u[p]:=List.getElem?_eq_getElem hp
    have hnode:=q4o.1 (hq.node n (hn ▸ List.getElem_mem h))
    have hp':¬ ((p:Int) ≥ (u.length:Int)):=by omega
    have hls:l.length≤6:=ok.le
    obtain ⟨h3,h4,_⟩:=q2o hu hp
    have hsl:=(q48 hu hp).2.1
    rw [mgo,if_neg (by omega)]
    by_cases c:0≤n
    · have c':n ≥ 0:=c
      rw [if_pos c,q7g hp]
      by_cases e:u[p]=n
      · simp only [q10.next0,q10.round0,evz,Nat.reduceLT,h,hlk,hp,hpk,hp',q1r,c',e]
        rw [q0l (by omega),q0l (by omega)]
        exact ih b (p+1) (k+1) f hd' (by omega) (hB.node (by rw [q7g hp,e])) (hb.up (by omega)) (by omega)
      · simp only [q10.next0,q10.round0,evz,Nat.reduceLT,h,hlk,hp,hpk,hp',q1r,c',e,Option.map_none,mT]
    · have c':¬ n ≥ 0:=c
      rw [if_neg c]
      have hof:=(q1y b.1 b.2 (-1 - n) hb.len (by have:=hb.le; omega)).eq
      have hB':=hB.var hu (by omega)
      have hw:IntKind.wrap .i64 (-1 - n) = -1 - n:=q2u (by omega)
      have hw2:IntKind.wrap .i64 ((p:Int)+((subAt l u p).length:Nat))=((p+(subAt l u p).length:Nat):Int):=by rw [q2u (by omega)]; omega
      have hsub:=(q79 ok hu hp).eq
      have hbl:=hb.le
      cases hbo:q3d b.1 b.2 (-1 - n) with
      | none =>
        rw [hbo] at hof
        have hbind:=(q1f b.1 b.2 (-1 - n) (subAt l u p) hb.len (by omega) (by omega) (bindOf_none hb.len hbo) fun x hx=>by have:=(hb.tm x hx).le; omega).eq
        simp only [q10.next0,q10.round0,evz,Nat.reduceLT,h,hlk,hp',q1r,c',hsub,hw,hof,Option.getD_none,q3n,hbind,hw2,List.length_nil,Int.natCast_zero,Int.ofNat_zero]
        rw [q0l (by omega)]
        exact ih (bput b (-1 - n) (subAt l u p)) _ (k+1) f hd' (by omega) hB' (hb.put (by omega) (q6f hu hp)) (by omega)
      | some o =>
        rw [hbo] at hof
        have ho:=hb.tm o (q5e hbo)
        have hol:=ho.le
        have hop:=ho.pos
        have ho0:¬ ((o.length:Int)=0):=by omega
        have heq:=(q1p o (subAt l u p) ⟨by omega,fun _ _=>trivial⟩).eq
        show _=some (mT ((if o=subAt l u p then mgo l u q b (p+(subAt l u p).length) else none).map (·.1)),[])
        by_cases e:o=subAt l u p
        · rw [if_pos e]
          have ho1:¬ (((subAt l u p).length:Int)=0):=by omega
          rw [e] at heq
          simp only [q10.next0,q10.round0,evz,Nat.reduceLT,h,hlk,hp',q1r,c',hsub,hw,hof,Option.getD_some,q3n,heq,e,ho0,ho1,hw2]
          rw [q0l (by omega)]
          exact ih b _ (k+1) f hd' (by omega) hB' (hb.up (by omega)) (by omega)
        · rw [if_neg e]
          simp only [q10.next0,q10.round0,evz,Nat.reduceLT,h,hlk,hp',q1r,c',hsub,hw,hof,Option.getD_some,q3n,heq,e,ho0,Option.map_none,mT]
 exact loop pat ([],[]) p0 0 25 rfl (by omega) (Both.start hu hq hp0) (MB.nil l) (by omega)
end
end Ev.Ty
end
section
namespace Ev.Ty
open Go Ev
open Enc (enc)
open Sm (sm)
set_option linter.unusedSimpArgs false
set_option linter.unusedVariables false
section
variable {l:List Symbol} (ok:SigOk ⟨l⟩) {rs:List Equation} (hr:∀ e∈rs,EqOk l e) (hn:rs.length≤12)
include ok hr hn
theorem q68 {t:List Int} (ht:TermOk l t) {p:Nat} (hp:p < t.length):Call F.q68 [.agg [slc l],slc rs,slc t,.int .i64 p] (.int .i64 (fits l rs t p)):=by
 have hu:=q6f ht hp
 have hi:Call F.q13 [slc rs,.clo F.q50 [.rref [slc l] 0,.rref [slc (subAt l t p)] 0]] (.int .i64 (fits l rs t p)):=by
  refine q0v rfl (rs.length+1) ((q08.ev _ _ _ _).trans ?_)
  simp only [evz,Nat.reduceLT]
  refine q6o (S:=fun m k=>q08.at0 (rs.length+1) m (q08.st0 (cells rs) (cells l) (cells (subAt l t p)) rs.length (k:Nat))) (fun m k h => ?_) (fun m => ?_) (Nat.lt_succ_self _)
  · have hlk:rs[k]?=some rs[k]:=List.getElem?_eq_getElem h
    have he:=hr _ (List.getElem_mem h)
    have hc:Call F.q50 [.agg [slc rs[k].left,slc rs[k].right],.rref [slc l] 0,.rref [slc (subAt l t p)] 0] (.bool (q41 l rs[k].left t p).isSome):=by
     refine q0v rfl 0 ((q50.ev _ _ _ _ _).trans ?_)
     have hm:=(q1g ok he.left hu).eq
     rw [q93 he.left ht hp] at hm
     cases hmm:q41 l rs[k].left t p with
     | none=>rw [hmm] at hm; simp only [evz,Nat.reduceLT,hm,mT]; rfl
     | some b=>rw [hmm] at hm; simp only [evz,Nat.reduceLT,hm,mT]; rfl
    simp only [q08.next0,q08.round0,evz,Nat.reduceLT,h,hlk,q3p,hc.eq]
    rw [q0l (by omega)]
    cases (q41 l rs[k].left t p).isSome <;> rfl
  · simp only [q08.next0,q08.round0,evz,Nat.reduceLT,Nat.lt_irrefl]
 refine q0v rfl 0 ((q68.ev _ _ _ _ _).trans ?_)
 simp only [evz,Nat.reduceLT,(q2z ok ht hp).eq,hi.eq]
theorem q1x {t:List Int} (ht:TermOk l t) {p:Nat} (hp:p < t.length):Call F.q1x [.rref [slc l] 0,slc rs,slc t,.int .i64 p] (.int .i64 (fits l rs t p)):=by
 refine q0v rfl (rs.length+1) ((q1x.ev _ _ _ _ _).trans ?_)
 refine q6o (S:=fun m k=>q1x.at0 (rs.length+1) m (q1x.st0 (cells l) (cells rs) (cells t) (p:Nat) (k:Nat))) (fun m k h => ?_) (fun m => ?_) (Nat.lt_succ_self _)
 · have hlk:rs[k]?=some rs[k]:=List.getElem?_eq_getElem h
   have he:=hr _ (List.getElem_mem h)
   have hm:=(q10 ok he.left ht hp).eq
   cases hmm:q41 l rs[k].left t p with
   | none =>
     rw [hmm] at hm
     simp only [q1x.next0,q1x.round0,evz,Nat.reduceLT,h,hlk,q3p,hm,mT]
     rw [q0l (by omega)]
     rfl
   | some b =>
     rw [hmm] at hm
     simp only [q1x.next0,q1x.round0,evz,Nat.reduceLT,h,hlk,q3p,hm,mT]
     rfl
 · simp only [q1x.next0,q1x.round0,evz,Nat.reduceLT,Nat.lt_irrefl]
theorem q0o {t:List Int} (ht:TermOk l t):Call F.q0o [.agg [slc l],slc rs,slc t] (.tup [.int .i64 (redex l rs t).1,.int .i64 (redex l rs t).2,.bool (decide ((redex l rs t).1 ≥ 0))]):=by
 have hle:=ht.le
 have hpos:=ht.pos
 have loop:∀ (k f:Nat) (s:Int × Int),k≤t.length→k < f→IsBest (endAt l t) (fits l rs t) k t.length s →
  q0o.at0 25 f (q0o.st0 (cells rs) (cells t) s.1 s.2 ((k:Int) - 1) (cells l)) =
   some (.tup [.int .i64 (down (endAt l t) (fits l rs t) k s).1,.int .i64 (down (endAt l t) (fits l rs t) k s).2,.bool (decide ((down (endAt l t) (fits l rs t) k s).1 ≥ 0))],[]):=by
  intro k
  induction k with
  | zero =>
    intro f s hk hf hb
    obtain ⟨f,rfl⟩:∃ x,f=x+1:=⟨f - 1,by omega⟩
    have h1:¬ (((0:Nat):Int) - 1 ≥ 0):=by omega
    simp only [q0o.next0,q0o.round0,cond_dec]
    rw [if_neg h1]
    rfl
  | succ k ih =>
    intro f s hk hf hb
    obtain ⟨f,rfl⟩:∃ x,f=x+1:=⟨f - 1,by omega⟩
    have e:((k+1:Nat):Int) - 1=(k:Int):=by omega
    have h1:(k:Int) ≥ 0:=by omega
    have hkt:k < t.length:=by omega
    have hw:IntKind.wrap .i64 ((k:Int) - 1)=(k:Int) - 1:=q2u (by omega)
    have hb':=hb.down _ _ hkt
    have next:=ih f _ (by omega) (by omega) hb'
    have hra:=(q68 ok hr hn ht hkt).eq
    have hek:=(endOf_at ok ht hkt).eq
    rw [e,down]
    unfold downStep at next ⊢
    rcases hb with ⟨rfl,hno⟩ | ⟨a,ha1,ha2,rfl,ha3,ha4⟩
    · have hneg:¬ ((-1:Int) ≥ 0):=by omega
      rw [if_neg (fun h=>hneg h.1)] at next ⊢
      by_cases hf0:fits l rs t k ≥ 0
      · rw [if_pos hf0] at next ⊢
        simp only [q0o.next0,q0o.round0,evz,Nat.reduceLT,h1,hneg,hra,hf0,hw]
        exact next
      · rw [if_neg hf0] at next ⊢
        simp only [q0o.next0,q0o.round0,evz,Nat.reduceLT,h1,hneg,hra,hf0,hw]
        exact next
    · have hpa:((a:Int)) ≥ 0:=by omega
      have hea:=(endOf_at ok ht ha2).eq
      by_cases hc:endAt l t k ≥ endAt l t a
      · have hc':((endAt l t k:Nat):Int) ≥ ((endAt l t a:Nat):Int):=by omega
        have hcc:((a:Int),fits l rs t a).1 ≥ 0∧endAt l t k ≥ endAt l t (((a:Int),fits l rs t a).1).toNat:=⟨hpa,by simpa using hc⟩
        rw [if_pos hcc] at next ⊢
        simp only [q0o.next0,q0o.round0,evz,Nat.reduceLT,h1,hpa,hek,hea,hc',hw]
        exact next
      · have hc':¬ ((endAt l t k:Nat):Int) ≥ ((endAt l t a:Nat):Int):=by omega
        have hcc:¬ (((a:Int),fits l rs t a).1 ≥ 0∧endAt l t k ≥ endAt l t (((a:Int),fits l rs t a).1).toNat):=fun h=>hc (by simpa using h.2)
        rw [if_neg hcc] at next ⊢
        by_cases hf0:fits l rs t k ≥ 0
        · rw [if_pos hf0] at next ⊢
          simp only [q0o.next0,q0o.round0,evz,Nat.reduceLT,h1,hpa,hek,hea,hc',hra,hf0,hw]
          exact next
        · rw [if_neg hf0] at next ⊢
          simp only [q0o.next0,q0o.round0,evz,Nat.reduceLT,h1,hpa,hek,hea,hc',hra,hf0,hw]
          exact next
 refine q0v rfl 25 ((q0o.ev _ _ _ _).trans ?_)
 simp only [q5b,q39]
 rw [q2u (by omega)]
 exact loop t.length 25 (-1,-1) (Nat.le_refl _) (by omega) (.inl ⟨rfl,fun a h1 h2=>by omega⟩)
theorem q1j {t:List Int} (ht:TermOk l t):Call F.q1j [.rref [slc l] 0,slc rs,slc t] (.tup [.int .i64 (redex l rs t).1,.int .i64 (redex l rs t).2]):=by
 have hle:=ht.le
 refine q0v rfl 25 ((q1j.ev _ _ _ _).trans ?_)
 have key:=run_loop (n:=t.length) (f:=25) (S:=fun m k (s:Int × Int × Int)=>q1j.at0 25 m (q1j.st0 (cells l) (cells rs) (cells t) s.1 s.2.1 s.2.2 (k:Nat)))
  (st:=upAll (endAt l t) (fits l rs t)) (z:=some (.tup [.int .i64 (redex l rs t).1,.int .i64 (redex l rs t).2],[])) (fun m k h => ?_) (fun m => ?_) (by omega)
 · exact key
 · have e0:upAll (endAt l t) (fits l rs t) (k+1)=upStep (endAt l t) (fits l rs t) (upAll (endAt l t) (fits l rs t) k) k:=by unfold upAll; rw [List.range_succ,List.foldl_append]; rfl
   rw [e0]
   unfold upStep
   have hek:=(q7j ok ht h).eq
   have hra:=(q1x ok hr hn ht h).eq
   by_cases hc:((endAt l t k:Nat):Int) > (upAll (endAt l t) (fits l rs t) k).2.2
   · rw [if_pos hc]
     simp only [q1j.next0,q1j.round0,evz,Nat.reduceLT,h,hek,hc]
     rw [q0l (by omega)]
   · rw [if_neg hc]
     by_cases hf0:fits l rs t k ≥ 0
     · rw [if_pos hf0]
       simp only [q1j.next0,q1j.round0,evz,Nat.reduceLT,h,hek,hc,hra,hf0]
       rw [q0l (by omega)]
     · rw [if_neg hf0]
       simp only [q1j.next0,q1j.round0,evz,Nat.reduceLT,h,hek,hc,hra,hf0]
       rw [q0l (by omega)]
 · rw [redex_up ht]
   simp only [q1j.next0,q1j.round0,evz,Nat.reduceLT,Nat.lt_irrefl]
omit hr hn in
theorem q4e {e:Equation} (he:EqOk l e) {t:List Int} (ht:TermOk l t) {p:Nat} (hp:p < t.length):Call F.q4e [.agg [slc l],.agg [slc e.left,slc e.right],slc t,.int .i64 p] (.agg (enc (q5x l e t p))):=by
 have hu:=q6f ht hp
 have hm:=(q1g ok he.left hu).eq
 rw [q93 he.left ht hp] at hm
 refine q0v rfl 0 ((q4e.ev _ _ _ _ _ _).trans ?_)
 unfold q5x
 cases hmm:q41 l e.left t p with
 | none=>rw [hmm] at hm; simp only [evz,Nat.reduceLT,(q2z ok ht hp).eq,hm,mT]; rfl
 | some b =>
   rw [hmm] at hm
   have hb:=matchAt_ok he.left ht hp hmm
   have hbo:=hb.ok he.left.le
   have hrl:=he.right.le
   have hal:=q8j hbo e.right
   simp only [evz,Nat.reduceLT,(q2z ok ht hp).eq,hm,mT,(q0i b.1 b.2 hbo e.right (by omega) (he.right.range ok)).eq,(q61 ok ht hp (q1q b.1 b.2 e.right) (by omega)).eq]
   have hfit:=(q69 (q4m l t p (q1q b.1 b.2 e.right))).eq
   by_cases h24:24 < (q4m l t p (q1q b.1 b.2 e.right)).length
   · rw [if_pos h24] at hfit ⊢
     simp only [evz,Nat.reduceLT,hfit,q2v]
   · rw [if_neg h24] at hfit ⊢
     simp only [evz,Nat.reduceLT,hfit,q2v]
omit hr hn in
theorem q5n {e:Equation} (he:EqOk l e) {t:List Int} (ht:TermOk l t) {p:Nat} (hp:p < t.length):Call F.q5n [.rref [slc l] 0,.rref [slc e.left,slc e.right] 0,.int .i64 p,slc t] (.tup [slc (q5x l e t p).term,.int .i64 (q5x l e t p).code]):=by
 have hm:=(q10 ok he.left ht hp).eq
 refine q0v rfl 0 ((q5n.ev _ _ _ _ _ _).trans ?_)
 unfold q5x
 cases hmm:q41 l e.left t p with
 | none=>rw [hmm] at hm; simp only [evz,Nat.reduceLT,hm,mT]; rfl
 | some b =>
   rw [hmm] at hm
   have hb:=matchAt_ok he.left ht hp hmm
   have hbo:=hb.ok he.left.le
   have hrl:=he.right.le
   have hal:=q8j hbo e.right
   simp only [evz,Nat.reduceLT,hm,mT,(q17 b.1 b.2 hbo e.right (by omega) (he.right.range ok)).eq,(q4c ok ht hp (q1q b.1 b.2 e.right) (by omega)).eq]
   by_cases h24:24 < (q4m l t p (q1q b.1 b.2 e.right)).length
   · have h24':((q4m l t p (q1q b.1 b.2 e.right)).length:Int) > 24:=by omega
     rw [if_pos h24]
     simp only [evz,Nat.reduceLT,h24']
     rfl
   · have h24':¬ ((q4m l t p (q1q b.1 b.2 e.right)).length:Int) > 24:=by omega
     rw [if_neg h24]
     simp only [evz,Nat.reduceLT,h24']
omit ok hr hn in
theorem redex_range {l:List Symbol} {rs:List Equation} (t:List Int):(redex l rs t).1 < 0∨∃ a k:Nat,∃ h:k < rs.length,a < t.length∧(redex l rs t).1=a∧(redex l rs t).2=k:=by
 rcases redex_at (l:=l) (rs:=rs) (t:=t) with h | ⟨a,k,h,ha,e,_⟩
 · rw [h]; exact .inl (by simp)
 · rw [e]; exact .inr ⟨a,k,h,ha,rfl,rfl⟩
theorem q0x {t:List Int} (ht:TermOk l t) {fuel:Nat} (hfu:fuel≤200):Call F.q0x [.agg [slc l],slc rs,slc t,.int .i64 fuel] (.agg (enc (norm l rs fuel 0 t))):=by
 have hle:=ht.le
 have loop:∀ (m k f:Nat) (t:List Int),m+k=fuel→m < f→TermOk l t →
  q0x.at0 202 f (q0x.st0 (cells rs) (fuel:Nat) (k:Nat) (cells l) 0 0 (cells t))=some (.agg (enc (norm l rs m k t)),[]):=by
  intro m
  induction m with
  | zero =>
    intro k f t hk hf ht
    obtain ⟨f,rfl⟩:∃ x,f=x+1:=⟨f - 1,by omega⟩
    obtain rfl:k=fuel:=by omega
    have hfr:=(q0o ok hr hn ht).eq
    rw [norm]
    by_cases h0:(redex l rs t).1 < 0
    · have h0':¬ (redex l rs t).1 ≥ 0:=by omega
      rw [if_pos h0]
      simp only [q0x.next0,q0x.round0,evz,Nat.reduceLT,hfr,h0',Bool.not_false,q3j]
    · have h0':(redex l rs t).1 ≥ 0:=by omega
      rw [if_neg h0]
      simp only [q0x.next0,q0x.round0,evz,Nat.reduceLT,hfr,h0',Bool.not_true,q3j]
      rfl
  | succ m ih =>
    intro k f t hk hf ht
    obtain ⟨f,rfl⟩:∃ x,f=x+1:=⟨f - 1,by omega⟩
    have hfr:=(q0o ok hr hn ht).eq
    rw [norm]
    rcases redex_range (l:=l) (rs:=rs) t with h0 | ⟨a,q,hq,ha,e1,e2⟩
    · have h0':¬ (redex l rs t).1 ≥ 0:=by omega
      rw [if_pos h0]
      simp only [q0x.next0,q0x.round0,evz,Nat.reduceLT,hfr,h0',Bool.not_false,q3j]
    · have h0:¬ (redex l rs t).1 < 0:=by omega
      rw [e1,e2] at hfr
      have h0':((a:Nat):Int) ≥ 0:=by omega
      have hkf:¬ ((k:Int)=(fuel:Int)):=by omega
      have hlk:rs[q]?=some rs[q]:=List.getElem?_eq_getElem hq
      have he:=hr _ (List.getElem_mem hq)
      have hrw:=(q4e ok he ht ha).eq
      have hg:rs.getD (redex l rs t).2.toNat ⟨[],[]⟩=rs[q]:=by rw [e2,Int.toNat_natCast]; exact getE hq
      have hga:(redex l rs t).1.toNat=a:=by rw [e1,Int.toNat_natCast]
      rw [if_neg h0,hg,hga]
      have hsok:=stepAt_ok he ht ha
      rw [q2v] at hrw
      by_cases hcode:(q5x l rs[q] t a).code=0
      · rw [if_neg (by simpa using hcode)]
        simp only [q0x.next0,q0x.round0,evz,Nat.reduceLT,hfr,h0',hkf,Bool.not_true,hq,hlk,q3p,hrw,hcode]
        rw [q0l (by omega)]
        exact ih (k+1) f _ (by omega) (by omega) (hsok hcode)
      · rw [if_pos hcode]
        simp only [q0x.next0,q0x.round0,evz,Nat.reduceLT,hfr,h0',hkf,Bool.not_true,hq,hlk,q3p,hrw,hcode,q3j]
        rfl
 refine q0v rfl 202 ((q0x.ev _ _ _ _ _).trans ?_)
 simp only [evz,Nat.reduceLT,(q2y t (by omega)).eq]
 exact loop fuel 0 202 t (by omega) (by omega) ht
end
end Ev.Ty
end
section
namespace Ev.Ty
open Go Ev
open Enc (enc)
open Sm (sm)
set_option linter.unusedSimpArgs false
set_option linter.unusedVariables false
theorem q98 {l:List Symbol} {rs:List Equation} (h:q5d ⟨l⟩ rs=0):q30 ⟨l⟩=0∧SigOk ⟨l⟩∧rs.length≤12∧∀ e∈rs,EqOk l e:=by
 unfold q5d at h
 split at h
 · rename_i h1; exact absurd h h1
 rename_i h1
 have h1:q30 ⟨l⟩=0:=by simpa using h1
 unfold q84 at h
 split at h
 · rename_i h2; exact absurd h h2
 rename_i h2
 obtain ⟨q1,q2⟩:=eqsOk_iff.1 (show q6j l rs=0 by simpa using h2)
 exact ⟨h1,(sigOk_iff _).1 h1,q1,q2⟩
theorem q5u {l:List Symbol} {rs:List Equation} {t:List Int} (h:q2h ⟨l⟩ rs t=0):SigOk ⟨l⟩∧rs.length≤12∧(∀ e∈rs,EqOk l e)∧TermOk l t:=by
 unfold q2h at h
 split at h
 · rename_i h1; exact absurd h h1
 rename_i h1
 obtain ⟨_,q1,q2,q3⟩:=q98 (l:=l) (rs:=rs) (by simpa using h1)
 exact ⟨q1,q2,q3,(q4r _ _).1 h⟩
theorem q32 (l:List Symbol) (hs:l.length≤4294967296) (rs:List Equation) (hr:sm 4294967296 rs) (t:List Int) (ht:t.length≤4294967296) :
 Call F.q32 [.agg [slc l],slc rs,slc t] (.int .i64 (q2h ⟨l⟩ rs t)):=by
 refine q0v rfl 0 ((q32.ev _ _ _ _).trans ?_)
 simp only [evz,Nat.reduceLT,(q58 l hs rs hr).eq,(q2x l hs t ht).eq,(firstCode2 _ _).eq,q2h]
 by_cases h:q5d ⟨l⟩ rs=0
 · have h0:=(q98 h).1
   simp only [h,evz,Nat.reduceLT,ne_eq,not_true_eq_false,q4k,h0]
 · simp only [h,evz,Nat.reduceLT,ne_eq,not_false_eq_true]
theorem q5y (l:List Symbol) (hs:l.length≤4294967296) (rs:List Equation) (hr:sm 4294967296 rs) (t:List Int) (ht:t.length≤4294967296) :
 Call F.q5y [.rref [slc l] 0,slc rs,slc t] (.int .i64 (q2h ⟨l⟩ rs t)):=by
 refine q0v rfl 0 ((q5y.ev _ _ _ _).trans ?_)
 simp only [evz,Nat.reduceLT,(q57 l hs rs hr).eq,q2h]
 by_cases h:q5d ⟨l⟩ rs=0
 · have h0:=(q98 h).2.1
   simp only [h,evz,Nat.reduceLT,ne_eq,not_true_eq_false,(q0u l h0 t ht).eq]
 · simp only [h,evz,Nat.reduceLT,ne_eq,not_false_eq_true]
theorem q40 (s:Signature) (rs:List Equation) (t:List Int) (hs:sm 1048576 s) (hr:sm 1048576 rs) (ht:sm 1048576 t):Call F.q40 [.agg (enc s),slc rs,slc t] (.agg (enc (q7x s rs t))):=by
 obtain ⟨l⟩:=s
 have hsl:l.length≤4294967296:=Nat.le_trans hs.1 (by omega)
 have htl:t.length≤4294967296:=Nat.le_trans ht.1 (by omega)
 show Call F.q40 [.agg [slc l],slc rs,slc t] _
 refine q0v rfl 0 ((q40.ev _ _ _ _).trans ?_)
 simp only [evz,Nat.reduceLT,(q32 l hsl rs (q2l (by omega) hr) t htl).eq,q7x]
 by_cases h:q2h ⟨l⟩ rs t=0
 case neg=>simp only [h,evz,Nat.reduceLT,ne_eq,not_false_eq_true,q4j]
 obtain ⟨ok,q1,q2,q3⟩:=q5u h
 simp only [h,evz,Nat.reduceLT,ne_eq,not_true_eq_false,(q0o ok q2 q1 q3).eq]
 by_cases h0:(redex l rs t).1 < 0
 · have h0':¬ (redex l rs t).1 ≥ 0:=by omega
   simp only [h0,h0',evz,Nat.reduceLT,Bool.not_false,q4j]
 · have h0':(redex l rs t).1 ≥ 0:=by omega
   simp only [h0,h0',evz,Nat.reduceLT,Bool.not_true,q4j]
theorem q4f (s:Signature) (rs:List Equation) (t:List Int) (hs:sm 1048576 s) (hr:sm 1048576 rs) (ht:sm 1048576 t):Call F.q4f [.agg (enc s),slc rs,slc t] (.agg (enc (q7x s rs t))):=by
 obtain ⟨l⟩:=s
 have hsl:l.length≤4294967296:=Nat.le_trans hs.1 (by omega)
 have htl:t.length≤4294967296:=Nat.le_trans ht.1 (by omega)
 show Call F.q4f [.agg [slc l],slc rs,slc t] _
 refine q0v rfl 0 ((q4f.ev _ _ _ _).trans ?_)
 simp only [evz,Nat.reduceLT,(q5y l hsl rs (q2l (by omega) hr) t htl).eq,q7x]
 by_cases h:q2h ⟨l⟩ rs t=0
 case neg=>simp only [h,evz,Nat.reduceLT,ne_eq,not_false_eq_true,q4j]
 obtain ⟨ok,q1,q2,q3⟩:=q5u h
 simp only [h,evz,Nat.reduceLT,ne_eq,not_true_eq_false,(q1j ok q2 q1 q3).eq]
 by_cases h0:(redex l rs t).1 < 0
 · simp only [h0,evz,Nat.reduceLT,q4j]
 · simp only [h0,evz,Nat.reduceLT,q4j]
theorem q4b (s:Signature) (rs:List Equation) (r p:Int) (t:List Int) (hs:sm 1048576 s) (hr:sm 1048576 rs) (ht:sm 1048576 t):Call F.q4b [.agg (enc s),slc rs,.int .i64 r,.int .i64 p,slc t] (.agg (enc (q6h s rs r p t))):=by
 obtain ⟨l⟩:=s
 have hsl:l.length≤4294967296:=Nat.le_trans hs.1 (by omega)
 have htl:t.length≤4294967296:=Nat.le_trans ht.1 (by omega)
 have hrl:rs.length≤4294967296:=Nat.le_trans hr.1 (by omega)
 show Call F.q4b [.agg [slc l],slc rs,.int .i64 r,.int .i64 p,slc t] _
 refine q0v rfl 0 ((q4b.ev _ _ _ _ _ _).trans ?_)
 simp only [evz,Nat.reduceLT,(q32 l hsl rs (q2l (by omega) hr) t htl).eq,q6h,q2u (x:=(rs.length:Int) - 1) (by omega),q2u (x:=(t.length:Int) - 1) (by omega),(q3i _ _ _).eq]
 by_cases h:q2h ⟨l⟩ rs t=0
 case neg=>simp only [h,evz,Nat.reduceLT,ne_eq,not_false_eq_true,q2v,q7b]
 obtain ⟨ok,q1,q2,q3⟩:=q5u h
 cases h1:inR r 0 (rs.length - 1) with
 | false=>simp only [h,evz,Nat.reduceLT,ne_eq,not_true_eq_false,Bool.not_false,true_or,q2v,q7b]
 | true =>
   cases h2:inR p 0 (t.length - 1) with
   | false=>simp only [h,evz,Nat.reduceLT,ne_eq,not_true_eq_false,Bool.not_true,Bool.not_false,or_true,q2v,q7b]
   | true =>
     have hr1:=q75.1 h1
     have hp1:=q75.1 h2
     obtain ⟨k,rfl⟩:∃ k:Nat,r=k:=⟨r.toNat,by omega⟩
     obtain ⟨a,rfl⟩:∃ a:Nat,p=a:=⟨p.toNat,by omega⟩
     have hk:k < rs.length:=by omega
     have ha:a < t.length:=by omega
     have hlk:rs[k]?=some rs[k]:=List.getElem?_eq_getElem hk
     have he:=q2 _ (List.getElem_mem hk)
     have hrw:=(q4e ok he q3 ha).eq
     rw [q2v] at hrw
     simp only [h,evz,Nat.reduceLT,ne_eq,not_true_eq_false,Bool.not_true,or_self,hk,hlk,q3p,hrw,getE hk,q2v,reduceCtorEq]
theorem q4d (s:Signature) (rs:List Equation) (r p:Int) (t:List Int) (hs:sm 1048576 s) (hr:sm 1048576 rs) (ht:sm 1048576 t):Call F.q4d [.agg (enc s),slc rs,.int .i64 r,.int .i64 p,slc t] (.agg (enc (q6h s rs r p t))):=by
 obtain ⟨l⟩:=s
 have hsl:l.length≤4294967296:=Nat.le_trans hs.1 (by omega)
 have htl:t.length≤4294967296:=Nat.le_trans ht.1 (by omega)
 have hrl:rs.length≤4294967296:=Nat.le_trans hr.1 (by omega)
 show Call F.q4d [.agg [slc l],slc rs,.int .i64 r,.int .i64 p,slc t] _
 refine q0v rfl 0 ((q4d.ev _ _ _ _ _ _).trans ?_)
 simp only [evz,Nat.reduceLT,(q5y l hsl rs (q2l (by omega) hr) t htl).eq,q6h,q2u (x:=(rs.length:Int) - 1) (by omega),(q4w _ _ _).eq,(q5i t p htl).eq]
 by_cases h:q2h ⟨l⟩ rs t=0
 case neg=>simp only [h,evz,Nat.reduceLT,ne_eq,not_false_eq_true,q2v,q7b]
 obtain ⟨ok,q1,q2,q3⟩:=q5u h
 cases h1:inR r 0 (rs.length - 1) with
 | false=>simp only [h,evz,Nat.reduceLT,ne_eq,not_true_eq_false,Bool.not_false,true_or,q2v,q7b]
 | true =>
   cases h2:inR p 0 (t.length - 1) with
   | false=>simp only [h,evz,Nat.reduceLT,ne_eq,not_true_eq_false,Bool.not_true,Bool.not_false,or_true,q2v,q7b]
   | true =>
     have hr1:=q75.1 h1
     have hp1:=q75.1 h2
     obtain ⟨k,rfl⟩:∃ k:Nat,r=k:=⟨r.toNat,by omega⟩
     obtain ⟨a,rfl⟩:∃ a:Nat,p=a:=⟨p.toNat,by omega⟩
     have hk:k < rs.length:=by omega
     have ha:a < t.length:=by omega
     have hlk:rs[k]?=some rs[k]:=List.getElem?_eq_getElem hk
     have he:=q2 _ (List.getElem_mem hk)
     have hrw:=(q5n ok he q3 ha).eq
     have hwin:=q70 (k:=2) (i:=k) rfl hlk
     simp only [h,evz,Nat.reduceLT,ne_eq,not_true_eq_false,Bool.not_true,or_self,hk,hwin,q3p,hrw,getE hk,q2v,reduceCtorEq]
theorem norm_sm {l:List Symbol} {rs:List Equation} (hr:∀ e∈rs,EqOk l e):∀ (m k:Nat) (t:List Int),TermOk l t→sm 67108864 (norm l rs m k t)∧((norm l rs m k t).code=0→TermOk l (norm l rs m k t).term)
 | 0,k,t,ht=>by
   have:=ht.le
   rw [norm]
   split
   · exact ⟨⟨by simp only; omega,fun _ _=>trivial⟩,fun _=>ht⟩
   · exact ⟨⟨by simp,by simp⟩,fun h=>by cases h⟩
 | m+1,k,t,ht=>by
   have:=ht.le
   rw [norm]
   split
   · exact ⟨⟨by simp only; omega,fun _ _=>trivial⟩,fun _=>ht⟩
   rename_i h0
   split
   · rename_i hc
     exact ⟨⟨by simp,by simp⟩,fun h=>absurd h hc⟩
   · rename_i hc
     rcases redex_range (l:=l) (rs:=rs) t with h | ⟨a,q,hq,ha,e1,e2⟩
     · exact absurd h h0
     · have hg:rs.getD (redex l rs t).2.toNat ⟨[],[]⟩=rs[q]:=by rw [e2,Int.toNat_natCast]; exact getE hq
       have hga:(redex l rs t).1.toNat=a:=by rw [e1,Int.toNat_natCast]
       rw [hg,hga] at hc ⊢
       exact norm_sm hr m (k+1) _ (stepAt_ok (hr _ (List.getElem_mem hq)) ht ha (by simpa using hc))
theorem q2t (s:Signature) (rs:List Equation) (t:List Int) (fuel:Int) (hs:sm 1048576 s) (hr:sm 1048576 rs) (ht:sm 1048576 t):Call F.q2t [.agg (enc s),slc rs,slc t,.int .i64 fuel] (.agg (enc (q7h s rs t fuel))):=by
 obtain ⟨l⟩:=s
 have hsl:l.length≤4294967296:=Nat.le_trans hs.1 (by omega)
 have htl:t.length≤4294967296:=Nat.le_trans ht.1 (by omega)
 show Call F.q2t [.agg [slc l],slc rs,slc t,.int .i64 fuel] _
 refine q0v rfl 0 ((q2t.ev _ _ _ _ _).trans ?_)
 simp only [evz,Nat.reduceLT,(q32 l hsl rs (q2l (by omega) hr) t htl).eq,q7h,(q3i _ _ _).eq]
 by_cases h:q2h ⟨l⟩ rs t=0
 case neg=>simp only [h,evz,Nat.reduceLT,ne_eq,not_false_eq_true,q3j,q7b]
 obtain ⟨ok,q1,q2,q3⟩:=q5u h
 cases h1:inR fuel 0 200 with
 | false=>simp only [h,evz,Nat.reduceLT,ne_eq,not_true_eq_false,Bool.not_false,q3j,q7b]
 | true =>
   have hf1:=q75.1 h1
   obtain ⟨k,rfl⟩:∃ k:Nat,fuel=k:=⟨fuel.toNat,by omega⟩
   have hnf:=(q0x ok q2 q1 q3 (fuel:=k) (by omega)).eq
   rw [q3j] at hnf
   simp only [h,evz,Nat.reduceLT,ne_eq,not_true_eq_false,Bool.not_true,hnf,q3j,reduceCtorEq]
end Ev.Ty
end
section
namespace Ev.Ty
open Go Ev
open Enc (enc)
open Sm (sm)
set_option linter.unusedSimpArgs false
set_option linter.unusedVariables false
end Ev.Ty
end
section
namespace Ev.Ty
open Go Ev
open Enc (enc)
open Sm (sm)
set_option linter.unusedSimpArgs false
set_option linter.unusedVariables false
section
variable {l:List Symbol} {z:Nat} {tb:List (List Int)} (al:AlgOk l z tb)
include al
end
end Ev.Ty
end
section
namespace Ev.Ty
open Go Ev
open Enc (enc)
open Sm (sm)
set_option linter.unusedSimpArgs false
set_option linter.unusedVariables false
section
variable (l:List Symbol) (z:Int) (tb:List (List Int)) (hs:l.length≤4294967296) (ht:sm 4294967296 tb)
include hs ht
end
end Ev.Ty
end
section
namespace Ev.Ty
open Go Ev
open Enc (enc)
open Sm (sm)
set_option linter.unusedSimpArgs false
set_option linter.unusedVariables false
theorem cells_int_scalar (l:List Int):(cells l).all T.scalar=true:=by
 rw [← q6d,List.all_eq_true]
 intro x hx
 obtain ⟨n,_,rfl⟩:=List.mem_map.1 hx
 rfl
theorem q2e (l:List Int) (h:l.length≤4294967296):Call F.q2e [slc l] (slc l):=by
 refine q0v rfl 0 ((q2e.ev _ _).trans ?_)
 have hb:Nat.ble ((0+(cells l).length)*8) (140737488355328*1)=true:=by
  rw [Nat.ble_eq,q0t,q39]; omega
 rw [cells_int_scalar,hb]
 rfl
def eqOf (e:Entry):Equation:=⟨e.left,e.right⟩
section
variable (l:List Symbol) (z:Int) (tb:List (List Int)) (hs:l.length≤4294967296) (ht:sm 4294967296 tb)
include hs ht
end
end Ev.Ty
end
section
namespace Ev.Ty
open Go Ev
open Enc (enc)
open Sm (sm)
set_option linter.unusedSimpArgs false
set_option linter.unusedVariables false
theorem q8o {l:List Symbol} {o:List Int} (h:q3m ⟨l⟩ o=0):q30 ⟨l⟩=0∧orderF l o=0:=by
 unfold q3m at h
 by_cases h1:q30 ⟨l⟩=0
 · rw [if_neg (by simpa using h1)] at h; exact ⟨h1,h⟩
 · rw [if_pos (by simpa using h1)] at h; exact absurd h h1
section
variable {l:List Symbol} {o:List Int} (ok:SigOk ⟨l⟩) (hol:o.length≤1048576) (ho:∀ n:Int,0≤n→n < l.length→n∈o)
include ok hol ho
end
end Ev.Ty
end
section
namespace Ev.Ty
section
variable {α:Type} {lt:α→α→Bool} {S:α→Prop}
variable (h1:∀ a b c,S a→S b→S c→lt a b=true→lt b c=true→lt a c=true) (h2:∀ a b c,S a→S b→S c→lt a b=true→lt c b=false→lt a c=true) (h3:∀ a b,S a→S b→lt a b=true→lt b a=false)
include h1 h2 h3
variable (h4:∀ a b,S a→S b→a=b∨lt a b=true∨lt b a=true)
include h4
end
end Ev.Ty
end
section
namespace Ev.Ty
open Go Ev
open Enc (enc)
open Sm (sm)
set_option linter.unusedSimpArgs false
set_option linter.unusedVariables false
set_option maxHeartbeats 1000000
theorem q1d (a b:List Int) (ha:a.length≤4294967296):Call F.q1d [slc a,slc b] (.bool (decide (a=b))):=by
 refine q0v rfl (a.length+1) ((q1d.ev _ _ _).trans ?_)
 by_cases hl:a.length=b.length
 · have hl':((a.length:Nat):Int)=((b.length:Nat):Int):=by omega
   have key:∀ (d k f:Nat),k+d=a.length→d < f→q1d.at0 (a.length+1) f (q1d.st0 (cells a) (cells b) (k:Nat))=some (.bool (decide (a.drop k=b.drop k)),[]):=by
    intro d
    induction d with
    | zero =>
      intro k f hk hf
      obtain ⟨f,rfl⟩:∃ g,f=g+1:=⟨f - 1,by omega⟩
      have h1:¬ k < a.length:=by omega
      have e:a.drop k=b.drop k:=by rw [List.drop_eq_nil_of_le (by omega),List.drop_eq_nil_of_le (by omega)]
      simp only [q1d.next0,q1d.round0,evz,Nat.reduceLT,h1,e,decide_true]
    | succ d ih =>
      intro k f hk hf
      obtain ⟨f,rfl⟩:∃ g,f=g+1:=⟨f - 1,by omega⟩
      have h1:k < a.length:=by omega
      have h2:k < b.length:=by omega
      have i1:a[k]?=some a[k]:=List.getElem?_eq_getElem h1
      have i2:b[k]?=some b[k]:=List.getElem?_eq_getElem h2
      simp only [q1d.next0,q1d.round0,evz,Nat.reduceLT,h1,h2,i1,i2,q1r]
      rw [List.drop_eq_getElem_cons h1,List.drop_eq_getElem_cons h2]
      by_cases e:a[k]=b[k]
      · simp only [e,evz,Nat.reduceLT,q0l (by omega:k < 9223372036854775807),ih (k+1) f (by omega) (by omega),List.cons.injEq,true_and,bne_self_eq_false]
      · rw [decide_eq_false (fun h=>e (List.cons.inj h).1)]
        simp [e]
   have:=key a.length 0 (a.length+1) (by omega) (by omega)
   simp only [evz,Nat.reduceLT,hl',bne_self_eq_false]
   refine this.trans ?_
   rw [List.drop_zero,List.drop_zero]
 · have hl':¬ ((a.length:Nat):Int)=((b.length:Nat):Int):=by omega
   have hne:¬ a=b:=fun e=>hl (by rw [e])
   simp only [evz,Nat.reduceLT,hl',hne,ne_eq,not_false_eq_true,decide_true,decide_false]
def cmpV (l:List Symbol) (o a b:List Int):Int:=if a=b then 3 else if gt l o a b 0 0=true then 1 else if gt l o b a 0 0=true then 2 else 0
def cmpF (s:Signature) (o a b:List Int):Int:=if q3m s o=0 then if q4k s a=0 then q4k s b else q4k s a else q3m s o
def cmpR (s:Signature) (o a b:List Int):Int:=if cmpF s o a b=0 then cmpV s.symbols o a b else 0
theorem q5o {l:List Symbol} (h:q30 ⟨l⟩=0) (t:List Int):q4k ⟨l⟩ t=q2s l t:=by
 unfold q4k; rw [if_neg (by simpa using h)]
theorem cmpF_ok {l:List Symbol} {o a b:List Int} (h:cmpF ⟨l⟩ o a b=0):SigOk ⟨l⟩∧o.length≤1048576∧(∀ n:Int,0≤n→n < l.length→n∈o)∧TermOk l a∧TermOk l b:=by
 unfold cmpF at h
 by_cases h0:q3m ⟨l⟩ o=0
 · rw [if_pos h0] at h
   obtain ⟨h1,h2⟩:=q8o h0
   rw [q5o h1,q5o h1] at h
   obtain ⟨p1,p2⟩:=orderOk h2
   have ok:=q6k h1
   have hls:l.length≤6:=ok.le
   by_cases ha:q2s l a=0
   · rw [if_pos ha] at h
     exact ⟨ok,by omega,p2,(q4r l a).1 ha,(q4r l b).1 h⟩
   · rw [if_neg ha] at h; exact absurd h ha
 · rw [if_neg h0] at h; exact absurd h h0
section
variable {l:List Symbol} {o:List Int} (ok:SigOk ⟨l⟩) (hol:o.length≤1048576) (ho:∀ n:Int,0≤n→n < l.length→n∈o)
include ok hol ho
theorem q49 {a b:List Int} (ha:TermOk l a) (hb:TermOk l b):Call F.q49 [.agg [slc l],slc o,slc a,slc b] (.int .i64 (cmpV l o a b)):=by
 have h1:=ha.le
 refine q0v rfl 0 ((q49.ev _ _ _ _ _).trans ?_)
 simp only [evz,Nat.reduceLT,(q0h a b ⟨by omega,fun _ _=>trivial⟩).eq,(q4h ok ha hb hol ho).eq,(q4h ok hb ha hol ho).eq,cmpV]
 by_cases e:a=b
 · simp [e]
 · cases e1:gt l o a b 0 0
   · cases e2:gt l o b a 0 0 <;> simp [e]
   · simp [e]
theorem q5s {a b:List Int} (ha:TermOk l a) (hb:TermOk l b):Call F.q5s [.rref [slc l] 0,slc o,slc a,slc b] (.int .i64 (cmpV l o a b)):=by
 have h1:=ha.le
 refine q0v rfl 0 ((q5s.ev _ _ _ _ _).trans ?_)
 simp only [evz,Nat.reduceLT,(q1p a b ⟨by omega,fun _ _=>trivial⟩).eq,(q56 ok ha hb hol ho).eq,(q56 ok hb ha hol ho).eq,cmpV]
 by_cases e:a=b
 · simp [e]
 · cases e1:gt l o a b 0 0
   · cases e2:gt l o b a 0 0 <;> simp [e]
   · simp [e]
end
theorem q3u (l:List Symbol) (hsl:l.length≤4294967296) (o:List Int) (hol:o.length≤4294967296) (a b:List Int) (ha:a.length≤4294967296) (hb:b.length≤4294967296) :
 Call F.q3u [.agg [slc l],slc o,slc a,slc b] (.agg [.int .i64 (cmpF ⟨l⟩ o a b),.int .i64 (cmpR ⟨l⟩ o a b)]):=by
 refine q0v rfl 0 ((q3u.ev _ _ _ _ _).trans ?_)
 simp only [evz,Nat.reduceLT,(q11 l hsl o hol).eq,(q2x l hsl a ha).eq,(q2x l hsl b hb).eq,(impl_firstCode3 _ _ _).eq]
 have e:(if q3m ⟨l⟩ o=0 then if q4k ⟨l⟩ a=0 then q4k ⟨l⟩ b else q4k ⟨l⟩ a else q3m ⟨l⟩ o)=cmpF ⟨l⟩ o a b:=rfl
 rw [e,cmpR]
 by_cases h:cmpF ⟨l⟩ o a b=0
 · obtain ⟨ok,h1,h2,h3,h4⟩:=cmpF_ok h
   simp only [h,evz,Nat.reduceLT,ne_eq,not_true_eq_false,(q49 ok h1 h2 h3 h4).eq]
 · simp only [h,evz,Nat.reduceLT,ne_eq,not_false_eq_true]
section
variable {l:List Symbol} {o:List Int} (ok:SigOk ⟨l⟩) (hol:o.length≤1048576) (ho:∀ n:Int,0≤n→n < l.length→n∈o)
include ok hol ho
end
end Ev.Ty
end
section
namespace Ev.Ty
open Go Ev
open Enc (enc)
open Sm (sm)
set_option linter.unusedSimpArgs false
set_option linter.unusedVariables false
def Free (b:Bnd) (t:List Int):Prop:=∀ n∈t,(-1 - n)∉b.1
theorem bindOf_notMem {vs:List Int} {ts:List (List Int)} {v:Int} (h:v∉vs):q3d vs ts v=none:=by
 unfold q3d
 rcases q60 (fun x:Int=>decide (x=v)) vs with ⟨h1,_⟩ | ⟨i,hi,h1,hy,_⟩
 · rw [if_pos (by omega)]
 · have:vs[i]=v:=by simpa using hy
   exact absurd (this ▸ List.getElem_mem hi) h
theorem applied_free {b:Bnd}:∀ {t:List Int},Free b t→q1q b.1 b.2 t=t
 | [],_=>rfl
 | n::t,h=>by
   have ih:=applied_free (b:=b) (t:=t) fun m hm=>h m (List.mem_cons_of_mem _ hm)
   have e:q1q b.1 b.2 (n::t)=(q3d b.1 b.2 (-1 - n)).getD [n]++q1q b.1 b.2 t:=by simp [q1q]
   rw [e,bindOf_notMem (h n (by simp)),ih]; rfl
theorem applied_nodes {vs:List Int} {ts:List (List Int)} {P:Int→Prop} (ht:∀ x∈ts,∀ n∈x,P n) {t:List Int} (h:∀ n∈t,q3d vs ts (-1 - n)=none→P n):∀ n∈q1q vs ts t,P n:=fun n hn=>by
 unfold q1q at hn
 obtain ⟨m,hm,hn⟩:=List.mem_flatMap.1 hn
 cases ho:q3d vs ts (-1 - m) with
 | none=>rw [ho] at hn; rw [List.mem_singleton.1 hn]; exact h m hm ho
 | some o=>rw [ho] at hn; exact ht o (q5e ho) n hn
structure UB (l:List Symbol) (b:Bnd):Prop where
 mb:MB l b 12
 nd:b.1.Nodup
 free:∀ t∈b.2,Free b t
theorem UB.nil (l:List Symbol):UB l ([],[]):=⟨(MB.nil l).up (by omega),List.nodup_nil,by simp⟩
theorem UB.le {l:List Symbol} {b:Bnd} (h:UB l b):b.1.length≤12:=h.mb.le
theorem UB.applied_free {l:List Symbol} {b:Bnd} (h:UB l b) (t:List Int):Free b (q1q b.1 b.2 t):=applied_nodes h.free fun n _ hn=>bindOf_none h.mb.len hn
theorem UB.applied_ok {l:List Symbol} {b:Bnd} (h:UB l b) {t:List Int} (ht:TermOk l t) (hl:(q1q b.1 b.2 t).length≤24):TermOk l (q1q b.1 b.2 t):=by
 have hs:=skip_applied h.mb (by omega) t [] 1 ht.skip
 rw [List.append_nil] at hs
 refine ⟨?_,hl,applied_node h.mb ht.node,hs⟩
 rcases Nat.eq_zero_or_pos (q1q b.1 b.2 t).length with h0 | h0
 · rw [List.eq_nil_of_length_eq_zero h0] at hs; cases hs
 · exact h0
def one (v:Int) (t:List Int):Bnd:=([v],[t])
abbrev Pr:=Equation
def argsOf (l:List Symbol) (x y:List Int):List Pr:=((q3y l x 0).zip (q3y l y 0)).map fun p=>⟨subAt l x p.1,subAt l y p.2⟩
def psize (b:Bnd) (ps:List Pr):Nat:=(ps.map fun p=>(q1q b.1 b.2 p.left).length+(q1q b.1 b.2 p.right).length).sum
theorem sum_starts {l:List Symbol} {t:List Int} (ht:TermOk l t):∀ {n p:Nat} {r:List Int},skip (ar l) n (t.drop p)=some r→((q6v l t n p).map fun q=>(subAt l t q).length).sum+r.length=t.length - p
 | 0,p,r,h=>by
   rw [q3q] at h
   rw [← Option.some.inj h]
   simp [q6v]
 | n+1,p,r,h=>by
   obtain ⟨h1,h2,h3,h4⟩:=skip_one h
   have ih:=sum_starts ht h2
   have hs:=(q48 ht h1).2.1
   rw [q6v,List.map_cons,List.sum_cons]
   omega
theorem sum_args {l:List Symbol} {t:List Int} (ht:TermOk l t):((q3y l t 0).map fun q=>(subAt l t q).length).sum+1=t.length:=by
 have hp:=ht.pos
 obtain ⟨r,hr⟩:=args_skip ht (p:=0) (by omega)
 have hd:t.getD 0 0=t[0]:=q7g (by omega)
 have h:=sum_starts ht hr
 have hw:=ht.skip
 have e:t=t[0]::t.drop 1:=by
  have:=List.drop_eq_getElem_cons (l:=t) (i:=0) (by omega)
  rwa [List.drop_zero] at this
 rw [e,skip,Nat.zero_add] at hw
 rw [Nat.zero_add,hw] at hr
 have:r=[]:=(Option.some.inj hr).symm
 subst this
 unfold q3y
 rw [hd]
 simp at h ⊢
 omega
theorem zip_sum {α β:Type} (f:α→Nat) (g:β→Nat):∀ (A:List α) (B:List β),A.length=B.length→((A.zip B).map fun p=>f p.1+g p.2).sum=(A.map f).sum+(B.map g).sum
 | [],[],_=>rfl
 | a::A,b::B,h=>by
   have ih:=zip_sum f g A B (by simpa using h)
   simp only [List.zip_cons_cons,List.map_cons,List.sum_cons] at ih ⊢
   omega
 | [],_::_,h=>by simp at h
 | _::_,[],h=>by simp at h
theorem subAt_sub {l:List Symbol} {t:List Int} {p:Nat}:∀ n∈subAt l t p,n∈t:=fun n hn=>List.mem_of_mem_take (List.mem_of_mem_drop hn)
theorem q3w {l:List Symbol} {b:Bnd} {x y:List Int} (hx:TermOk l x) (hy:TermOk l y) (fx:Free b x) (fy:Free b y) (he:x.getD 0 0=y.getD 0 0):psize b (argsOf l x y)+2=x.length+y.length:=by
 have e:(argsOf l x y).map (fun p=>(q1q b.1 b.2 p.left).length+(q1q b.1 b.2 p.right).length)=((q3y l x 0).zip (q3y l y 0)).map fun p=>(subAt l x p.1).length+(subAt l y p.2).length:=by
  unfold argsOf
  rw [List.map_map]
  refine List.map_congr_left fun p hp => ?_
  show (q1q b.1 b.2 (subAt l x p.1)).length+(q1q b.1 b.2 (subAt l y p.2)).length=_
  rw [applied_free fun n hn=>fx n (subAt_sub n hn),applied_free fun n hn=>fy n (subAt_sub n hn)]
 have hl:(q3y l x 0).length=(q3y l y 0).length:=by unfold q3y; rw [q65,q65,he]
 unfold psize
 rw [e,zip_sum (fun p=>(subAt l x p).length) (fun q=>(subAt l y q).length) _ _ hl]
 have:=sum_args hx
 have:=sum_args hy
 omega
end Ev.Ty
end
section
namespace Ev.Ty
open Go Ev
open Enc (enc)
open Sm (sm)
set_option linter.unusedSimpArgs false
set_option linter.unusedVariables false
theorem applied_ge {b:Bnd} {l:List Symbol} {k:Nat} (hb:MB l b k):∀ t:List Int,t.length≤(q1q b.1 b.2 t).length
 | []=>by simp [q1q]
 | n::t=>by
   have ih:=applied_ge hb t
   have e:q1q b.1 b.2 (n::t)=(q3d b.1 b.2 (-1 - n)).getD [n]++q1q b.1 b.2 t:=by simp [q1q]
   rw [e,List.length_append,List.length_cons]
   cases ho:q3d b.1 b.2 (-1 - n) with
   | none=>simp; omega
   | some o =>
     have:=(hb.tm o (q5e ho)).pos
     simp; omega
def pstep (seen:List Int) (n:Int):Int × List Int :=
 if 0≤n then (n,seen) else if idx (fun x=>decide (x=n)) seen < 0 then (-1 - (seen.length:Int),seen++[n]) else (-1 - idx (fun x=>decide (x=n)) seen,seen)
def q3f:List Int→List Int→List Int × List Int
 | seen,[]=>([],seen)
 | seen,n::t=>((pstep seen n).1::(q3f (pstep seen n).2 t).1,(q3f (pstep seen n).2 t).2)
theorem q99:∀ (seen a b:List Int),q3f seen (a++b)=((q3f seen a).1++(q3f (q3f seen a).2 b).1,(q3f (q3f seen a).2 b).2)
 | seen,[],b=>rfl
 | seen,n::a,b=>by
   rw [List.cons_append,q3f,q99,q3f]; rfl
theorem q4z:∀ (seen t:List Int),(q3f seen t).1.length=t.length∧(q3f seen t).2.length≤seen.length+t.length∧seen.length≤(q3f seen t).2.length
 | seen,[]=>⟨rfl,by simp [q3f],by simp [q3f]⟩
 | seen,n::t=>by
   have ih:=q4z (pstep seen n).2 t
   have hp:(pstep seen n).2.length≤seen.length+1∧seen.length≤(pstep seen n).2.length:=by
    unfold pstep
    split
    · exact ⟨by simp,by simp⟩
    split
    · simp
    · exact ⟨by simp,by simp⟩
   rw [q3f]
   simp only [List.length_cons]
   omega
def plainE (e:Equation):Equation:=⟨(q3f [] e.left).1,(q3f (q3f [] e.left).2 e.right).1⟩
def seenE (e:Equation):List Int:=(q3f (q3f [] e.left).2 e.right).2
end Ev.Ty
end
