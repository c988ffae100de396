/- Steps on the way to RowDerives: TyRules, TyCmp, TyWalk, TyMatchP, TySortP, TyLpoP, TyLpo, TyDraw, TyDrawT, TyPigeon, TyOrd, TyTheory, TyAlgOf, TyDrawG, TyLpoS, TyPartP, TyRead, TyPool, TyDrawB, TyNormP, TyMatch, TyNorm, TyNormL, TyHasVar, TyHolds, TyAllHold, TyEntries, TySortT, TySortQ, TyGreat, TyUnifyP, TyPeakP, TyUnify, TyUnify2, TyPeak, TyPeak2, TyPeaks, TyAllPeaks, TyUnjoined, TyDeriveP. -/
import Derived.Test.YtgmpnljofoadnaaGreatDoorM4
set_option linter.unusedSectionVars false
set_option linter.unusedVariables false
set_option linter.unusedSimpArgs false
section
namespace Ev.Ty
open Go Ev
open Enc (enc)
open Sm (sm)
set_option linter.unusedSimpArgs false
set_option linter.unusedVariables false
theorem q35 (t v:List Int) (hs:t.length≤4294967296) (hv:v.length≤4294967296) :
 Call F.q2a [slc t,.clo F.q40 [.rref [slc v] 0]] (.bool (t.any fun n=>decide (n∉v))):=by
 have hi:Call F.q0s [slc t,.clo F.q40 [.rref [slc v] 0]] (.int .i64 (idx (fun n=>decide (n∉v)) t)):=by
  refine q0q rfl (t.length+1) ((q09.ev _ _ _).trans ?_)
  refine q7l (S:=fun m k=>q09.at0 (t.length+1) m (q09.st0 (cells t) _ _ (k:Nat))) (fun m k h => ?_) (fun m => ?_) (Nat.lt_succ_self _)
  · have hlk:t[k]?=some t[k]:=List.getElem?_eq_getElem h
    have hc:Call F.q40 [.int .i64 t[k],.rref [slc v] 0] (.bool (decide (t[k]∉v))):=by
     refine q0q rfl 0 ((q40.ev _ _ _).trans ?_)
     simp only [evz,Nat.reduceLT,(q1e v t[k] hv).eq,decide_not]
    simp only [q09.next0,q09.round0,evz,Nat.reduceLT,h,hlk,q28,hc.eq]
    rw [q0n (by omega)]
    by_cases e:t[k]∈v <;> simp [e]
  · simp only [q09.next0,q09.round0,evz,Nat.reduceLT,Nat.lt_irrefl]
 refine q0q rfl 0 ((q35.ev _ _ _).trans ?_)
 simp only [evz,Nat.reduceLT,hi.eq,q7o]
theorem varsOf_term {l:List Symbol} {t:List Int} (h:TermOk l t):Call F.q0m [.sl 1 [slc t]] (slc (q8g [t]))∧(q8g [t]).length≤24:=by
 have hle:=h.le
 have hvl:=varsOf_length [t]
 refine ⟨q0m [t] (by simp) (fun x hx => ?_) (by simp; omega),by simp at hvl; omega⟩
 simp only [List.mem_cons,List.not_mem_nil,or_false] at hx
 subst hx
 exact ⟨by omega,h.ge⟩
theorem head0 {l:List Symbol} {t:List Int} (h:TermOk l t):t[0]?=some (t.headD 0):=by
 have:=h.pos
 cases t with
 | nil=>simp at this
 | cons x r=>rfl
theorem q6r {l:List Symbol} {a b:List Int} (ha:TermOk l a) (hb:TermOk l b):Call F.q6r [.agg [slc a,slc b]] (.bool (ruleOk ⟨a,b⟩)):=by
 refine q0q rfl 0 ((q6r.ev _ _ _).trans ?_)
 obtain ⟨ca,la⟩:=varsOf_term ha
 obtain ⟨cb,lb⟩:=varsOf_term hb
 have h0:(cells a)[0]?=some (.int .i64 (a.headD 0)):=by
  have:=get0 (l:=a) (k:=1) (i:=0) q38
  rw [Nat.zero_mul] at this
  rw [this,head0 ha]; rfl
 have hin:inB 0 ((cells a).length / 1)=true:=by
  rw [q4j q38]
  have:=q62 0 a.length
  have hp:=ha.pos
  rw [show (0:Int)=((0:Nat):Int) from rfl,this]
  exact decide_eq_true hp
 have hc:=q35 (q8g [b]) (q8g [a]) (by omega) (by omega)
 rw [hin,cond_true,h0]
 simp only [evz,Nat.reduceLT,ruleOk]
 have e:((q8g [b]).any fun n=>decide (n∉q8g [a]))=b.any fun n=>decide (n < 0∧n∉a):=by
  rw [Bool.eq_iff_iff,List.any_eq_true,List.any_eq_true]
  constructor
  · rintro ⟨v,hv,h⟩
    rw [decide_eq_true_eq] at h
    obtain ⟨v0,t,ht,hm⟩:=q78.1 hv
    simp only [List.mem_cons,List.not_mem_nil,or_false] at ht
    subst ht
    refine ⟨-1 - v,hm,?_⟩
    rw [decide_eq_true_eq]
    exact ⟨by omega,fun hn=>h (q78.2 ⟨v0,a,by simp,hn⟩)⟩
  · rintro ⟨n,hn,h⟩
    rw [decide_eq_true_eq] at h
    refine ⟨-1 - n,q78.2 ⟨by omega,b,by simp,by rw [show -1 - (-1 - n)=n by omega]; exact hn⟩,?_⟩
    rw [decide_eq_true_eq]
    intro hm
    obtain ⟨_,t,ht,hm'⟩:=q78.1 hm
    simp only [List.mem_cons,List.not_mem_nil,or_false] at ht
    subst ht
    rw [show -1 - (-1 - n)=n by omega] at hm'
    exact h.2 hm'
 by_cases h1:a.headD 0 < 0
 · have h2:¬ 0≤a.headD 0:=by omega
   simp only [h1,h2,evz,Nat.reduceLT,Bool.false_and]
 · have h2:0≤a.headD 0:=by omega
   simp only [h1,h2,evz,Nat.reduceLT,ca.eq,cb.eq,hc.eq,e,Bool.true_and]
theorem q3v (l:List Symbol) (hs:l.length≤4294967296) (es:List Equation) (he:sm 4294967296 es):Call F.q3v [.agg [slc l],slc es] (.int .i64 (q3q ⟨l⟩ es)):=by
 refine q0q rfl 0 ((q3v.ev _ _ _).trans ?_)
 simp only [evz,Nat.reduceLT,(q0i l hs es he).eq,q3q,q7s]
 by_cases h1:q2f ⟨l⟩=0
 case neg=>simp only [h1,evz,Nat.reduceLT,ne_eq,not_false_eq_true]
 simp only [h1,evz,Nat.reduceLT,ne_eq,not_true_eq_false]
 by_cases h2:q49 l es=0
 case neg=>simp only [h2,evz,Nat.reduceLT,not_false_eq_true]
 obtain ⟨hlen,hok⟩:=q76.1 h2
 have hi:Call F.q2h [slc es,.clo F.q2s []] (.int .i64 (idx (fun e => !ruleOk e) es)):=by
  refine q0q rfl (es.length+1) ((q03.ev _ _).trans ?_)
  simp only [evz,Nat.reduceLT]
  refine q7l (S:=fun m k=>q03.at0 (es.length+1) m (q03.st0 (cells es) es.length (k:Nat))) (fun m k h => ?_) (fun m => ?_) (Nat.lt_succ_self _)
  · have hlk:es[k]?=some es[k]:=List.getElem?_eq_getElem h
    have ho:=hok es[k] (List.getElem_mem h)
    have hc:Call F.q2s [.agg [slc es[k].left,slc es[k].right]] (.bool (!ruleOk es[k])):=by
     refine q0q rfl 0 ((q2s.ev _ _ _).trans ?_)
     simp only [evz,Nat.reduceLT,(q6r ho.left ho.right).eq]
    simp only [q03.next0,q03.round0,evz,Nat.reduceLT,h,hlk,q4y,hc.eq]
    rw [q0n (by omega)]
    cases ruleOk es[k] <;> rfl
  · simp only [q03.next0,q03.round0,evz,Nat.reduceLT,Nat.lt_irrefl]
 have hc:Call F.q4o [slc es,.clo F.q2s []] (.bool (es.any fun e => !ruleOk e)):=by
  refine q0q rfl 0 ((q55.ev _ _).trans ?_)
  simp only [evz,Nat.reduceLT,hi.eq,q7o]
 simp only [h2,evz,Nat.reduceLT,not_true_eq_false,hc.eq]
 cases es.any fun e => !ruleOk e <;> rfl
theorem q1f (t:List Int) (x:Int) (hl:t.length≤4294967296):Call F.q1f [slc t,.int .i64 x] (.int .i64 (t.count x:Nat)):=by
 have loop:∀ m k (c:Nat),k≤t.length→t.length < m+k→c≤k →
  q1f.at0 (t.length+1) m (q1f.st0 (cells t) x (c:Nat) (k:Nat))=some (.int .i64 ((c+(t.drop k).count x:Nat):Int),[]):=by
  intro m
  induction m with
  | zero=>intros; omega
  | succ m ih =>
    intro k c hk hm hc
    by_cases h:k < t.length
    · have hlk:t[k]?=some t[k]:=List.getElem?_eq_getElem h
      simp only [q1f.next0,q1f.round0,evz,Nat.reduceLT,h,hlk,q28]
      rw [q0n (by omega),q0n (by omega),List.drop_eq_getElem_cons h,List.count_cons]
      by_cases e:t[k]=x
      · simp only [e,evz,Nat.reduceLT]
        rw [ih (k+1) (c+1) (by omega) (by omega) (by omega)]
        simp
        omega
      · simp only [e,evz,Nat.reduceLT]
        rw [ih (k+1) c (by omega) (by omega) (by omega)]
        simp [e]
    · obtain rfl:k=t.length:=by omega
      simp only [q1f.next0,q1f.round0,evz,Nat.reduceLT,Nat.lt_irrefl,List.drop_length,List.count_nil,Nat.add_zero]
 refine q0q rfl (t.length+1) ((q1f.ev _ _ _).trans ?_)
 have:=loop (t.length+1) 0 0 (by omega) (by omega) (by omega)
 rw [List.drop_zero,Nat.zero_add] at this
 exact this
theorem q0k (l:List Symbol) (ok:SigOk ⟨l⟩) (es:List Equation) (he:sm 4294967296 es):Call F.q0k [.rref [slc l] 0,slc es] (.int .i64 (q7s l es)):=by
 refine q0q rfl 25 ((q0k.ev _ _ _).trans ?_)
 simp only [evz,Nat.reduceLT,(q1g l ok es he).eq,q7s]
 by_cases h2:q49 l es=0
 case neg=>simp only [h2,evz,Nat.reduceLT,ne_eq,not_false_eq_true]
 obtain ⟨hlen,hok⟩:=q76.1 h2
 simp only [h2,evz,Nat.reduceLT,ne_eq,not_true_eq_false]
 have inner:∀ (L0:St→R) (k:Nat) (h:k < es.length), 
  q0k.at2 25 L0 25 (q0k.st2 (cells es) (k:Nat) ((0:Nat):Int))=if (es[k].right.any fun n=>decide (n < 0∧n∉es[k].left))=true then some (.int .i64 1,[]) else L0 (q0k.st0 (cells es) ((k+1:Nat):Int)):=fun L0 k h=>by
  have hlk:es[k]?=some es[k]:=List.getElem?_eq_getElem h
  have ho:=hok es[k] (List.getElem_mem h)
  have hle:=ho.right.le
  have hle':=ho.left.le
  refine q8i (l:=es[k].right) (p:=fun n=>decide (n < 0∧n∉es[k].left)) (r:=some (.int .i64 1,[])) (S:=fun m j=>q0k.at2 25 L0 m (q0k.st2 (cells es) (k:Nat) (j:Nat))) (fun m j hj => ?_) (fun m => ?_) (by omega)
  · have hlj:es[k].right[j]?=some es[k].right[j]:=List.getElem?_eq_getElem hj
    simp only [q0k.next2,q0k.round2,evz,Nat.reduceLT,h,hlk,hj,hlj,q4y,q28,(q1f es[k].left es[k].right[j] (by omega)).eq]
    rw [q0n (by omega)]
    by_cases q1:es[k].right[j] < 0
    · by_cases q2:es[k].right[j]∈es[k].left
      · have q3:0 < es[k].left.count es[k].right[j]:=List.count_pos_iff.2 q2
        have q4:¬ ((es[k].left.count es[k].right[j]:Nat):Int)=0:=by omega
        simp only [q1,q2,q4,evz,Nat.reduceLT,not_true_eq_false,and_false,Bool.false_eq_true]
      · have q3:es[k].left.count es[k].right[j]=0:=List.count_eq_zero.2 q2
        simp only [q1,q2,q3,evz,Nat.reduceLT,not_false_eq_true,and_true,Int.natCast_zero]
    · simp only [q1,evz,Nat.reduceLT,false_and,Bool.false_eq_true]
  · simp only [q0k.next2,q0k.round2,evz,Nat.reduceLT,h,hlk,q4y,Nat.lt_irrefl]
    rw [q0n (by omega)]
 refine (q8i (l:=es) (p:=fun e => !ruleOk e) (r:=some (.int .i64 1,[])) (z:=some (.int .i64 0,[])) (S:=fun m k=>q0k.at0 25 m (q0k.st0 (cells es) (k:Nat))) (fun m k h => ?_) (fun m => ?_) (show es.length < 25 by omega)).trans ?_
 · have hlk:es[k]?=some es[k]:=List.getElem?_eq_getElem h
   have ho:=hok es[k] (List.getElem_mem h)
   have h0:(cells es[k].left)[0]?=some (.int .i64 (es[k].left.headD 0)):=by
    have:=get0 (l:=es[k].left) (k:=1) (i:=0) q38
    rw [Nat.zero_mul] at this
    rw [this,head0 ho.left]; rfl
   have hin:inB 0 es[k].left.length=true:=by
    have:=q62 0 es[k].left.length
    have hp:=ho.left.pos
    rw [show (0:Int)=((0:Nat):Int) from rfl,this]
    exact decide_eq_true hp
   simp only [q0k.next0,q0k.round0,evz,Nat.reduceLT,h,hlk,q4y,hin,h0,ruleOk]
   by_cases q1:es[k].left.headD 0 < 0
   · have q2:¬ 0≤es[k].left.headD 0:=by omega
     simp only [q1,q2,evz,Nat.reduceLT,Bool.false_and,Bool.not_false]
   · have q2:0≤es[k].left.headD 0:=by omega
     simp only [q1,q2,evz,Nat.reduceLT,Bool.true_and,Bool.not_not]
     exact inner _ k h
 · simp only [q0k.next0,q0k.round0,evz,Nat.reduceLT,Nat.lt_irrefl]
 · cases es.any fun e => !ruleOk e <;> rfl
theorem q3s (l:List Symbol) (hs:l.length≤4294967296) (es:List Equation) (he:sm 4294967296 es):Call F.q3s [.agg [slc l],slc es] (.int .i64 (q3q ⟨l⟩ es)):=by
 refine q0q rfl 0 ((q3s.ev _ _ _).trans ?_)
 simp only [evz,Nat.reduceLT,(q00 l hs).eq,q3q]
 by_cases h1:q2f ⟨l⟩=0
 case neg=>simp only [h1,evz,Nat.reduceLT,ne_eq,not_false_eq_true]
 have ok:=(q5t _).1 h1
 simp only [h1,evz,Nat.reduceLT,ne_eq,not_true_eq_false,(q0k l ok es he).eq]
end Ev.Ty
end
section
namespace Ev.Ty
open Go Ev
open Enc (enc)
open Sm (sm)
set_option linter.unusedSimpArgs false
set_option linter.unusedVariables false
def q67 (l:List Symbol) (t:List Int):Nat→Nat→List Nat
 | 0,_=>[]
 | n+1,p=>p::q67 l t n (endAt l t p)
def q34 (l:List Symbol) (t:List Int) (p:Nat):List Nat:=q67 l t (ar l (t.getD p 0)) (p+1)
theorem q60 (l:List Symbol) (t:List Int):∀ n p,(q67 l t n p).length=n
 | 0,_=>rfl
 | n+1,p=>by rw [q67,List.length_cons,q60 l t n]
theorem skip_one {l:List Symbol} {t:List Int} {p n:Nat} {r:List Int} (h:skip (ar l) (n+1) (t.drop p)=some r):p < t.length∧skip (ar l) n (t.drop (endAt l t p))=some r∧p < endAt l t p∧endAt l t p≤t.length:=by
 have hp:p < t.length:=by
  rcases Nat.lt_or_ge p t.length with h1 | h1
  · exact h1
  · rw [List.drop_of_length_le h1] at h; cases h
 rw [show n+1=1+n by omega,q8a] at h
 cases h1:skip (ar l) 1 (t.drop p) with
 | none=>rw [h1] at h; cases h
 | some q =>
   rw [h1] at h
   have h2:=skip_at h1
   have e:endAt l t p=t.length - q.length:=by unfold endAt; rw [h1]
   have h3:=h2.2.2 (by omega)
   refine ⟨hp,?_,by rw [e]; omega,by rw [e]; omega⟩
   rw [e,← h2.1]
   exact h
theorem startsN_mem {l:List Symbol} {t:List Int}:∀ {n p:Nat} {r:List Int},skip (ar l) n (t.drop p)=some r→∀ q∈q67 l t n p,p≤q∧q < t.length
 | 0,p,r,h,q,hq=>by cases hq
 | n+1,p,r,h,q,hq=>by
   obtain ⟨h1,h2,h3,h4⟩:=skip_one h
   rcases List.mem_cons.1 hq with rfl | hq
   · exact ⟨Nat.le_refl _,h1⟩
   · have:=startsN_mem h2 q hq
     exact ⟨by omega,this.2⟩
theorem args_skip {l:List Symbol} {t:List Int} (ok:TermOk l t) {p:Nat} (hp:p < t.length):∃ r,skip (ar l) (ar l t[p]) (t.drop (p+1))=some r:=by
 obtain ⟨q,hq⟩:=skip_inner (p:=p) ok.skip (by simpa using hp)
 rw [List.drop_eq_getElem_cons hp,skip] at hq
 exact ⟨q,by simpa using hq⟩
theorem q5y {l:List Symbol} {t:List Int} (ok:TermOk l t) {p:Nat} (hp:p < t.length) {q:Nat} (hq:q∈q34 l t p):p < q∧q < t.length:=by
 obtain ⟨r,hr⟩:=args_skip ok hp
 have hd:t.getD p 0=t[p]:=q73 hp
 unfold q34 at hq
 rw [hd] at hq
 have:=startsN_mem hr q hq
 exact ⟨by omega,this.2⟩
def rank (o:List Int) (n:Int):Int:=idx (fun x=>decide (x=n)) o
def cell (l:List Symbol) (o a b:List Int) (above:Nat→Nat→Bool) (i j:Nat):Bool :=
 if b.getD j 0 < 0 then decide (0≤a.getD i 0)&&decide (b.getD j 0∈subAt l a i)
 else if a.getD i 0 < 0 then false
 else if (q34 l a i).any (fun p=>decide (subAt l a p=subAt l b j)||above p j) then true
 else if rank o (a.getD i 0) < rank o (b.getD j 0) then false
 else if (q34 l b j).any (fun q => !above i q) then false
 else if rank o (b.getD j 0) < rank o (a.getD i 0) then true
 else match ((q34 l a i).zip (q34 l b j)).find? fun x => !decide (subAt l a x.1=subAt l b x.2) with
  | some x=>above x.1 x.2
  | none=>false
theorem cell_congr {l:List Symbol} {o a b:List Int} (ha:TermOk l a) (hb:TermOk l b) {f g:Nat→Nat→Bool} {i j:Nat} (hi:i < a.length) (hj:j < b.length)
 (h:∀ p q,i≤p→j≤q→p < a.length→q < b.length→(i < p∨j < q)→f p q=g p q):cell l o a b f i j=cell l o a b g i j:=by
 have h1:(q34 l a i).any (fun p=>decide (subAt l a p=subAt l b j)||f p j)=(q34 l a i).any (fun p=>decide (subAt l a p=subAt l b j)||g p j):=by
  rw [Bool.eq_iff_iff,List.any_eq_true,List.any_eq_true]
  constructor
  · rintro ⟨p,hp,h1⟩
    have:=q5y ha hi hp
    exact ⟨p,hp,by rw [← h p j (by omega) (Nat.le_refl _) this.2 hj (.inl this.1)]; exact h1⟩
  · rintro ⟨p,hp,h1⟩
    have:=q5y ha hi hp
    exact ⟨p,hp,by rw [h p j (by omega) (Nat.le_refl _) this.2 hj (.inl this.1)]; exact h1⟩
 have h2:(q34 l b j).any (fun q => !f i q)=(q34 l b j).any (fun q => !g i q):=by
  rw [Bool.eq_iff_iff,List.any_eq_true,List.any_eq_true]
  constructor
  · rintro ⟨p,hp,h1⟩
    have:=q5y hb hj hp
    exact ⟨p,hp,by rw [← h i p (Nat.le_refl _) (by omega) hi this.2 (.inr this.1)]; exact h1⟩
  · rintro ⟨p,hp,h1⟩
    have:=q5y hb hj hp
    exact ⟨p,hp,by rw [h i p (Nat.le_refl _) (by omega) hi this.2 (.inr this.1)]; exact h1⟩
 unfold cell
 rw [h1,h2]
 cases hf:((q34 l a i).zip (q34 l b j)).find? fun x => !decide (subAt l a x.1=subAt l b x.2) with
 | none=>rfl
 | some x =>
   have hm:=List.mem_of_find?_eq_some hf
   have hm1:=q5y ha hi (List.of_mem_zip hm).1
   have hm2:=q5y hb hj (List.of_mem_zip hm).2
   simp only [h x.1 x.2 (by omega) (by omega) hm1.2 hm2.2 (.inl hm1.1)]
def gtN (l:List Symbol) (o a b:List Int):Nat→Nat→Nat→Bool
 | 0,_,_=>false
 | n+1,i,j=>cell l o a b (gtN l o a b n) i j
def gt (l:List Symbol) (o a b:List Int) (i j:Nat):Bool:=gtN l o a b (a.length+b.length+1) i j
theorem gtN_stable {l:List Symbol} {o a b:List Int} (ha:TermOk l a) (hb:TermOk l b):∀ (d n m i j:Nat),i < a.length→j < b.length→(a.length - i)+(b.length - j)≤d→d < n→d < m→gtN l o a b n i j=gtN l o a b m i j:=by
 intro d
 induction d with
 | zero=>intros; omega
 | succ d ih =>
   intro n m i j hi hj hd hn hm
   obtain ⟨n,rfl⟩:∃ q,n=q+1:=⟨n - 1,by omega⟩
   obtain ⟨m,rfl⟩:∃ q,m=q+1:=⟨m - 1,by omega⟩
   rw [gtN,gtN]
   exact cell_congr ha hb hi hj fun p q h1 h2 h3 h4 h5=>ih n m p q h3 h4 (by omega) (by omega) (by omega)
theorem gt_eq {l:List Symbol} {o a b:List Int} (ha:TermOk l a) (hb:TermOk l b) {i j:Nat} (hi:i < a.length) (hj:j < b.length):gt l o a b i j=cell l o a b (gt l o a b) i j:=by
 show gtN l o a b (a.length+b.length+1) i j=_
 rw [gtN]
 exact cell_congr ha hb hi hj fun p q h1 h2 h3 h4 h5=>gtN_stable ha hb ((a.length - p)+(b.length - q)) _ _ p q h3 h4 (Nat.le_refl _) (by omega) (by omega)
def ints (l:List Nat):List Int:=l.map fun (n:Nat)=>(n:Int)
section
variable {l:List Symbol} (ok:SigOk ⟨l⟩)
include ok
theorem q0p {t:List Int} (ht:TermOk l t) {p:Nat} (hp:p < t.length):Call F.q0p [.agg [slc l],slc t,.int .i64 p] (slc (ints (q34 l t p))):=by
 have hle:=ht.le
 have har:=ar_le (l:=l) ok t[p]
 refine q0q rfl 4 ((q0p.ev _ _ _ _).trans ?_)
 simp only [evz,Nat.reduceLT,hp,List.getElem?_eq_getElem,q28,(q5f ok t[p] (ht.node _ (List.getElem_mem hp))).eq]
 rw [q0n (by omega)]
 have loop:∀ n k q f (out:List Int) r,k+n=ar l t[p]→n < f→skip (ar l) n (t.drop q)=some r→out.length=k →
  q0p.at0 4 f (q0p.st0 (cells t) (q:Nat) (ar l t[p]:Nat) (k:Nat) (cells l) (cells out))=some (slc (out++ints (q67 l t n q)),[]):=by
  intro n
  induction n with
  | zero =>
    intro k q f out r hk hf hs ho
    obtain ⟨f,rfl⟩:∃ x,f=x+1:=⟨f - 1,by omega⟩
    have:¬ k < ar l t[p]:=by omega
    simp only [q0p.next0,q0p.round0,evz,Nat.reduceLT,this,q67,ints,List.map_nil,List.append_nil]
  | succ n ih =>
    intro k q f out r hk hf hs ho
    obtain ⟨f,rfl⟩:∃ x,f=x+1:=⟨f - 1,by omega⟩
    obtain ⟨h1,h2,h3,h4⟩:=skip_one hs
    have hlt:k < ar l t[p]:=by omega
    simp only [q0p.next0,q0p.round0,evz,Nat.reduceLT,hlt,(endOf_at ok ht h1).eq,q2d]
    rw [q1m (q3i (by rw [q0j,q38]; omega)),q0n (by omega)]
    by_cases hn:n=0
    · subst hn
      obtain ⟨f,rfl⟩:∃ x,f=x+1:=⟨f - 1,by omega⟩
      have:¬ k+1 < ar l t[p]:=by omega
      simp only [q0p.next0,q0p.round0,evz,Nat.reduceLT,this,q67,ints,List.map_nil,List.map_cons]
    · rw [ih (k+1) (endAt l t q) f (out++[(q:Int)]) r (by omega) (by omega) h2 (by simp [ho])]
      simp [q67,ints]
 obtain ⟨r,hr⟩:=args_skip ht hp
 have hd:t.getD p 0=t[p]:=q73 hp
 have:=loop (ar l t[p]) 0 (p+1) 4 [] r (by omega) (by omega) hr (by simp)
 unfold q34
 rw [hd]
 simpa using this
end
theorem mpAt_map:∀ (l:List (Int × Int × Bool)) (a b:Int) (i j:Nat),(mpAt l a b i).map (·.2)=(mpAt l a b j).map (·.2)
 | [],_,_,_,_=>rfl
 | (x,y,v)::r,a,b,i,j=>by
   rw [mpAt,mpAt]
   cases (a == x&&b == y) with
   | true=>rfl
   | false=>exact mpAt_map r a b (i+1) (j+1)
theorem q81 (x y:Int) (v:Bool) (r:List (Int × Int × Bool)) (a b:Int):q8m ((x,y,v)::r) a b=bif a == x&&b == y then some v else q8m r a b:=by
 unfold q8m
 rw [mpAt]
 cases (a == x&&b == y) with
 | true=>rfl
 | false=>exact mpAt_map r a b 1 0
theorem mpFind_put:∀ (l:List (Int × Int × Bool)) (x y:Int) (v:Bool) (a b:Int),q8m (mpPut l x y v) a b=bif a == x&&b == y then some v else q8m l a b
 | [],x,y,v,a,b=>by rw [mpPut,q81]
 | (x',y',v')::r,x,y,v,a,b=>by
   rw [mpPut]
   cases h:(x == x'&&y == y') with
   | true =>
     simp only [Bool.and_eq_true,beq_iff_eq] at h
     obtain ⟨rfl,rfl⟩:=h
     rw [cond_true,q81,q81]
     cases (a == x&&b == y) <;> rfl
   | false =>
     rw [cond_false,q81,q81,mpFind_put r]
     cases h1:(a == x'&&b == y') with
     | false=>rfl
     | true =>
       cases h2:(a == x&&b == y) with
       | false=>rfl
       | true =>
         simp only [Bool.and_eq_true,beq_iff_eq] at h1 h2
         obtain ⟨rfl,rfl⟩:=h1
         obtain ⟨rfl,rfl⟩:=h2
         simp at h
def Good (l:List Symbol) (o a b:List Int) (m:List (Int × Int × Bool)):Prop:=∀ (p q:Nat) (v:Bool),q8m m p q=some v→v=gt l o a b p q
theorem Good.put {l:List Symbol} {o a b:List Int} {m:List (Int × Int × Bool)} (h:Good l o a b m) (i j:Nat):Good l o a b (mpPut m i j (gt l o a b i j)):=fun p q v hv=>by
 rw [mpFind_put] at hv
 cases hc:(((p:Int) == (i:Int))&&((q:Int) == (j:Int))) with
 | true =>
   rw [hc,cond_true] at hv
   simp only [Bool.and_eq_true,beq_iff_eq,Int.ofNat_inj] at hc
   obtain ⟨rfl,rfl⟩:=hc
   exact (Option.some.inj hv).symm
 | false=>rw [hc,cond_false] at hv; exact h p q v hv
section
variable {l:List Symbol} (ok:SigOk ⟨l⟩) {o a b:List Int} (ha:TermOk l a) (hb:TermOk l b)
include ok ha hb
omit ok ha hb in
theorem ints_get {A:List Nat} {k:Nat} (h:k < A.length):(ints A)[k]?=some ((A[k]:Nat):Int):=by simp [ints,h]
omit ok ha hb in
theorem ints_length (A:List Nat):(ints A).length=A.length:=by simp [ints]
omit ok ha hb in
theorem starts_le (ok:SigOk ⟨l⟩) (t:List Int) (p:Nat):(q34 l t p).length≤2:=by
 unfold q34; rw [q60]; exact ar_le ok _
end
theorem q1z (o:List Int) (x:Int) (hl:o.length≤4294967296):Call F.q1z [slc o,.int .i64 x] (.int .i64 (rank o x)):=by
 refine q0q rfl (o.length+1) ((q1z.ev _ _ _).trans ?_)
 refine q7l (S:=fun m k=>q1z.at0 (o.length+1) m (q1z.st0 (cells o) x (k:Nat))) (fun m k h => ?_) (fun m => ?_) (Nat.lt_succ_self _)
 · have hlk:o[k]?=some o[k]:=List.getElem?_eq_getElem h
   simp only [q1z.next0,q1z.round0,evz,Nat.reduceLT,h,hlk,q28,decide_eq_true_eq]
   rw [q0n (by omega)]
 · simp only [q1z.next0,q1z.round0,evz,Nat.reduceLT,Nat.lt_irrefl]
section
variable {l:List Symbol} (ok:SigOk ⟨l⟩)
include ok
omit ok in
theorem at_bound {i j la lb:Nat} (hi:i < la) (hj:j < lb):i*lb+j < la*lb:=by
 have:i*lb+lb≤la*lb:=by rw [← Nat.succ_mul]; exact Nat.mul_le_mul_right _ hi
 omega
section
variable {o a b:List Int} (ha:TermOk l a) (hb:TermOk l b) {T:List Bool} (hT:T.length=a.length*b.length)
include ha hb hT
end
def Done (l:List Symbol) (o a b:List Int) (T:List Bool) (n:Nat):Prop :=
 T.length=a.length*b.length∧∀ p q,p < a.length→q < b.length→n≤p*b.length+q→T.getD (p*b.length+q) false=gt l o a b p q
omit ok in
theorem at_inj {n p q i j:Nat} (hq:q < n) (hj:j < n) (h:p*n+q=i*n+j):p=i∧q=j:=by
 rcases Nat.lt_trichotomy p i with h1 | h1 | h1
 · have:(p+1)*n≤i*n:=Nat.mul_le_mul_right _ h1
   rw [Nat.succ_mul] at this; omega
 · subst h1; exact ⟨rfl,by omega⟩
 · have:(i+1)*n≤p*n:=Nat.mul_le_mul_right _ h1
   rw [Nat.succ_mul] at this; omega
omit ok in
theorem Done.cell {o a b:List Int} (ha:TermOk l a) (hb:TermOk l b) {T:List Bool} {i j:Nat} (hi:i < a.length) (hj:j < b.length) (h:Done l o a b T (i*b.length+(j+1))) :
 cell l o a b (fun p q=>T.getD (p*b.length+q) false) i j=gt l o a b i j:=by
 rw [gt_eq ha hb hi hj]
 refine cell_congr ha hb hi hj fun p q h1 h2 h3 h4 h5=>h.2 p q h3 h4 ?_
 have h6:i*b.length≤p*b.length:=Nat.mul_le_mul_right _ h1
 rcases h5 with h5 | h5
 · have:(i+1)*b.length≤p*b.length:=Nat.mul_le_mul_right _ h5
   rw [Nat.succ_mul] at this; omega
 · omega
omit ok in
theorem Done.set {o a b:List Int} {T:List Bool} {i j:Nat} (hi:i < a.length) (hj:j < b.length) (h:Done l o a b T (i*b.length+(j+1))):Done l o a b (T.set (i*b.length+j) (gt l o a b i j)) (i*b.length+j):=by
 have hin:=at_bound hi hj
 refine ⟨by rw [List.length_set]; exact h.1,fun p q hp hq hle => ?_⟩
 by_cases e:i*b.length+j=p*b.length+q
 · obtain ⟨rfl,rfl⟩:=at_inj hq hj e.symm
   simp [List.getD_eq_getElem?_getD,h.1,hin]
 · have:=h.2 p q hp hq (by omega)
   rw [← this,List.getD_eq_getElem?_getD,List.getD_eq_getElem?_getD,List.getElem?_set_ne e]
end
end Ev.Ty
end
section
namespace Ev.Ty
open Go Ev
open Enc (enc)
open Sm (sm)
set_option linter.unusedSimpArgs false
set_option linter.unusedVariables false
theorem TermOk.range {l:List Symbol} (ok:SigOk ⟨l⟩) {t:List Int} (h:TermOk l t):∀ n∈t,-4611686018427387904≤n∧n≤4611686018427387904:=fun n hn=>by
 have:=q50.1 (h.node n hn)
 have hle:l.length≤6:=ok.le
 omega
theorem q3b (l:List Symbol) (hs:l.length≤4294967296) (es:List Equation) (he:sm 4294967296 es) :
 Call F.q3b [.agg [slc l],slc es] (.int .i64 (if q2f ⟨l⟩≠0 then q2f ⟨l⟩ else q49 l es)):=by
 refine q0q rfl 0 ((q3b.ev _ _ _).trans ?_)
 simp only [evz,Nat.reduceLT,(q00 l hs).eq]
 by_cases h1:q2f ⟨l⟩=0
 case neg=>simp only [h1,evz,Nat.reduceLT,ne_eq,not_false_eq_true]
 simp only [h1,evz,Nat.reduceLT,ne_eq,not_true_eq_false,(q1g l ((q5t _).1 h1) es he).eq]
theorem q68 (t:List Int):Call F.q68 [slc t] (.agg (enc (if 24 < t.length then (⟨2,[]⟩:TermResult) else ⟨0,t⟩))):=by
 refine q0q rfl 0 ((q68.ev _ _).trans ?_)
 simp only [evz,Nat.reduceLT,gt_iff_lt]
 by_cases h:24 < t.length
 · have h':(24:Int) < t.length:=by omega
   simp only [h,h',evz,Nat.reduceLT,q2l,q36]
 · have h':¬ (24:Int) < t.length:=by omega
   simp only [h,h',evz,Nat.reduceLT,q2l]
theorem q5a (t:List Int) (n:Int) (hl:t.length≤4294967296):Call F.q5a [slc t,.int .i64 n] (.bool (inR n 0 (t.length - 1))):=by
 refine q0q rfl 0 ((q5a.ev _ _ _).trans ?_)
 simp only [evz,Nat.reduceLT,q2j (x:=(t.length:Int) - 1) (by omega),(q14 _ _ _).eq]
theorem getE {es:List Equation} {k:Nat} (h:k < es.length):es.getD k ⟨[],[]⟩=es[k]:=by rw [List.getD_eq_getElem?_getD,List.getElem?_eq_getElem h]; rfl
end Ev.Ty
end
section
namespace Ev.Ty
open Go Ev
open Enc (enc)
open Sm (sm)
set_option linter.unusedSimpArgs false
set_option linter.unusedVariables false
theorem q91 {a:Int→Nat}:∀ {x r q:List Int} {k:Nat},skip a k x=some q→skip a k (x++r)=some (q++r)
 | x,r,q,0,h=>by rw [q37] at h; cases h; rw [q37]
 | [],r,q,k+1,h=>by cases h
 | n::x,r,q,k+1,h=>by
   rw [skip] at h
   rw [List.cons_append,skip]
   exact q91 h
theorem skip_cut {a:Int→Nat}:∀ {x r:List Int} {k:Nat},skip a k (x++r)=some r→skip a k x=some []
 | x,r,0,h=>by
   rw [q37] at h
   have:=congrArg List.length (Option.some.inj h)
   rw [List.length_append] at this
   have:x=[]:=List.eq_nil_of_length_eq_zero (by omega)
   subst this; rfl
 | [],r,k+1,h=>by
   obtain ⟨p,hp,hk⟩:=q8w h
   have h1:=congrArg List.length hp
   rw [List.nil_append,List.length_append] at h1
   have h2:=hk (by omega)
   omega
 | n::x,r,k+1,h=>by
   rw [List.cons_append,skip] at h
   rw [skip]
   exact skip_cut h
theorem skip_nil {a:Int→Nat} {m:Nat} {r:List Int} (h:skip a m []=some r):m=0∧r=[]:=by
 cases m with
 | zero=>rw [q37] at h; cases h; exact ⟨rfl,rfl⟩
 | succ m=>cases h
theorem q56 {l:List Symbol} {t:List Int} (ht:TermOk l t) {p:Nat} (hp:p < t.length):t.drop p=subAt l t p++t.drop (endAt l t p)∧(subAt l t p).length=endAt l t p - p∧skip (ar l) 1 (t.drop p)=some (t.drop (endAt l t p)):=by
 obtain ⟨h1,h2,_⟩:=q44 ht hp
 have hl:(subAt l t p).length=endAt l t p - p:=by simp [subAt]; omega
 refine ⟨?_,hl,?_⟩
 · have e:t.drop (endAt l t p)=(t.drop p).drop (endAt l t p - p):=by rw [List.drop_drop]; congr 1; omega
   have e2:subAt l t p=(t.drop p).take (endAt l t p - p):=by unfold subAt; rw [List.drop_take]
   rw [e,e2,List.take_append_drop]
 · obtain ⟨q,hq⟩:=skip_inner (p:=p) ht.skip (by simpa using hp)
   have:=(skip_at hq).1
   rw [hq]
   unfold endAt
   rw [hq]
   exact congrArg some this
theorem q6l {l:List Symbol} {t:List Int} (ht:TermOk l t) {p:Nat} (hp:p < t.length):TermOk l (subAt l t p):=by
 obtain ⟨h1,h2,h3⟩:=q56 ht hp
 obtain ⟨h4,h5,_⟩:=q44 ht hp
 have:=ht.le
 refine ⟨by omega,by omega,fun n hn=>ht.node n ?_,?_⟩
 · exact List.mem_of_mem_drop (h1 ▸ List.mem_append_left _ hn)
 · rw [h1] at h3; exact skip_cut h3
theorem sub_place {l:List Symbol} {t:List Int} (ht:TermOk l t) {p:Nat} (hp:p < t.length) {i:Nat} (hi:i < (subAt l t p).length) :
 p+i < t.length∧(subAt l t p).getD i 0=t.getD (p+i) 0∧endAt l t (p+i)=p+endAt l (subAt l t p) i∧subAt l (subAt l t p) i=subAt l t (p+i):=by
 obtain ⟨h1,h2,h3⟩:=q56 ht hp
 obtain ⟨h4,h5,_⟩:=q44 ht hp
 have hu:=q6l ht hp
 have hpi:p+i < t.length:=by omega
 obtain ⟨h6,h7,h8⟩:=q56 hu hi
 obtain ⟨k1,k2,k3⟩:=q56 ht hpi
 obtain ⟨h9,h10,_⟩:=q44 hu hi
 obtain ⟨k4,k5,_⟩:=q44 ht hpi
 have hd:t.drop (p+i)=(subAt l t p).drop i++t.drop (endAt l t p):=by
  rw [← List.drop_drop,h1,List.drop_append_of_le_length (by omega)]
 have e1:endAt l t (p+i)=p+endAt l (subAt l t p) i:=by
  have h:=q91 (r:=t.drop (endAt l t p)) h8
  rw [← hd,k3] at h
  have:=congrArg List.length (Option.some.inj h)
  simp only [List.length_drop,List.length_append] at this
  omega
 refine ⟨hpi,?_,e1,?_⟩
 · have:=congrArg (fun x=>x[0]?) hd
   simp only [List.getElem?_drop,Nat.add_zero] at this
   rw [List.getD_eq_getElem?_getD,List.getD_eq_getElem?_getD,this,List.getElem?_append_left (by simp; omega),List.getElem?_drop,Nat.add_zero]
 · have q1:subAt l t (p+i)=(t.drop (p+i)).take (endAt l t (p+i) - (p+i)):=by unfold subAt; rw [List.drop_take]
   have q2:subAt l (subAt l t p) i=((subAt l t p).drop i).take (endAt l (subAt l t p) i - i):=by
    show ((subAt l t p).take (endAt l (subAt l t p) i)).drop i=_
    rw [List.drop_take]
   rw [q1,q2,hd,e1,List.take_append_of_le_length (by simp; omega)]
   congr 1; omega
abbrev Bnd:=List Int × List (List Int)
def insAt (vs:List Int) (v:Int):Nat:=(vs.takeWhile fun x=>decide (x < v)).length
def ins {α:Type} (l:List α) (i:Nat) (x:α):List α:=l.take i++x::l.drop i
def bput (b:Bnd) (v:Int) (t:List Int):Bnd:=(ins b.1 (insAt b.1 v) v,ins b.2 (insAt b.1 v) t)
theorem insAt_le (vs:List Int) (v:Int):insAt vs v≤vs.length:=by
 have:=(List.takeWhile_sublist (l:=vs) (p:=fun x=>decide (x < v))).length_le
 exact this
theorem insAt_lt:∀ (vs:List Int) (v:Int) (i:Nat) (h:i < insAt vs v) (h':i < vs.length),vs[i] < v
 | [],v,i,h,h'=>by simp at h'
 | x::vs,v,i,h,h'=>by
   unfold insAt at h
   rw [List.takeWhile_cons] at h
   by_cases hx:x < v
   · rw [if_pos (by simpa using hx)] at h
     cases i with
     | zero=>exact hx
     | succ i=>exact insAt_lt vs v i (by simpa [insAt] using h) (by simpa using h')
   · rw [if_neg (by simpa using hx)] at h; simp at h
theorem insAt_stop:∀ (vs:List Int) (v:Int) (h':insAt vs v < vs.length),¬ vs[insAt vs v] < v
 | [],v,h'=>by simp at h'
 | x::vs,v,h'=>by
   by_cases hx:x < v
   · have e:insAt (x::vs) v=insAt vs v+1:=by unfold insAt; rw [List.takeWhile_cons,if_pos (by simpa using hx)]; rfl
     have:=insAt_stop vs v (by rw [e] at h'; simpa using h')
     simpa [e] using this
   · have e:insAt (x::vs) v=0:=by unfold insAt; rw [List.takeWhile_cons,if_neg (by simpa using hx)]; rfl
     simpa [e] using hx
theorem q5z {α:Type} (l:List α) (i:Nat) (x:α) (h:i≤l.length):(ins l i x).length=l.length+1:=by simp [ins]; omega
theorem mem_ins {α:Type} {l:List α} {i:Nat} {x y:α} (h:y∈ins l i x):y=x∨y∈l:=by
 unfold ins at h
 rcases List.mem_append.1 h with h | h
 · exact .inr (List.mem_of_mem_take h)
 · rcases List.mem_cons.1 h with h | h
   · exact .inl h
   · exact .inr (List.mem_of_mem_drop h)
structure MB (l:List Symbol) (b:Bnd) (k:Nat):Prop where
 len:b.1.length=b.2.length
 le:b.1.length≤k
 var:∀ v∈b.1,0≤v∧v≤11
 tm:∀ t∈b.2,TermOk l t
theorem MB.nil (l:List Symbol):MB l ([],[]) 0:=⟨rfl,Nat.le_refl _,by simp,by simp⟩
theorem MB.up {l:List Symbol} {b:Bnd} {k k':Nat} (h:MB l b k) (hk:k≤k'):MB l b k':=⟨h.len,Nat.le_trans h.le hk,h.var,h.tm⟩
theorem MB.put {l:List Symbol} {b:Bnd} {k:Nat} (h:MB l b k) {v:Int} (hv:0≤v∧v≤11) {t:List Int} (ht:TermOk l t):MB l (bput b v t) (k+1):=by
 have hi:=insAt_le b.1 v
 have hlen:=h.len
 have:=h.le
 refine ⟨?_,?_,fun x hx => ?_,fun x hx => ?_⟩
 · unfold bput; rw [q5z _ _ _ hi,q5z _ _ _ (by omega)]; omega
 · unfold bput; rw [q5z _ _ _ hi]; omega
 · rcases mem_ins hx with rfl | hx
   · exact hv
   · exact h.var x hx
 · rcases mem_ins hx with rfl | hx
   · exact ht
   · exact h.tm x hx
theorem MB.ok {l:List Symbol} {b:Bnd} {k:Nat} (h:MB l b k) (hk:k≤24):BindOk b.1 b.2 :=
 ⟨h.len,by have:=h.le; omega,fun v hv=>(h.var v hv).1,fun t ht=>⟨(h.tm t ht).pos,by have:=(h.tm t ht).le; omega⟩⟩
theorem bindOf_none {vs:List Int} {ts:List (List Int)} (hl:vs.length=ts.length) {v:Int} (h:q4w vs ts v=none):v∉vs:=fun hv=>by
 unfold q4w at h
 rcases q7c (fun x:Int=>decide (x=v)) vs with ⟨h1,hno⟩ | ⟨i,hi,h1,_,_⟩
 · have:=hno v hv; simp at this
 · rw [h1,if_neg (by omega),Int.toNat_natCast,List.getElem?_eq_getElem (by omega)] at h
   cases h
def mgo (l:List Symbol) (t:List Int):List Int→Bnd→Nat→Option (Bnd × Nat)
 | [],b,p=>some (b,p)
 | n::q,b,p =>
   if t.length≤p then none
   else if 0≤n then (if t.getD p 0=n then mgo l t q b (p+1) else none)
   else match q4w b.1 b.2 (-1 - n) with
    | none=>mgo l t q (bput b (-1 - n) (subAt l t p)) (p+(subAt l t p).length)
    | some o=>if o=subAt l t p then mgo l t q b (p+(subAt l t p).length) else none
structure Both (l:List Symbol) (t q:List Int) (p:Nat) (r:List Int):Prop where
 both:∃ m,skip (ar l) m q=some []∧skip (ar l) m (t.drop p)=some r
theorem Both.start {l:List Symbol} {t q:List Int} (ht:TermOk l t) (hq:TermOk l q) {p:Nat} (hp:p < t.length):Both l t q p (t.drop (endAt l t p)):=⟨1,hq.skip,(q56 ht hp).2.2⟩
theorem Both.stop {l:List Symbol} {t:List Int} {p:Nat} {r:List Int} (h:Both l t [] p r):t.drop p=r:=by
 obtain ⟨m,h1,h2⟩:=h.both
 obtain ⟨rfl,_⟩:=skip_nil h1
 rw [q37] at h2
 exact Option.some.inj h2
theorem Both.lt {l:List Symbol} {t q:List Int} {n:Int} {p:Nat} {r:List Int} (h:Both l t (n::q) p r):p < t.length:=by
 obtain ⟨m,h1,h2⟩:=h.both
 cases m with
 | zero=>rw [q37] at h1; cases h1
 | succ m =>
   rcases Nat.lt_or_ge p t.length with h | h
   · exact h
   · rw [List.drop_of_length_le h] at h2; cases h2
theorem Both.node {l:List Symbol} {t q:List Int} {n:Int} {p:Nat} {r:List Int} (h:Both l t (n::q) p r) (hn:t.getD p 0=n):Both l t q (p+1) r:=by
 have hp:=h.lt
 obtain ⟨m,h1,h2⟩:=h.both
 cases m with
 | zero=>rw [q37] at h1; cases h1
 | succ m =>
   rw [List.drop_eq_getElem_cons hp,skip,← q73 hp,hn] at h2
   rw [skip] at h1
   exact ⟨_,h1,h2⟩
theorem Both.var {l:List Symbol} {t q:List Int} {n:Int} {p:Nat} {r:List Int} (ht:TermOk l t) (h:Both l t (n::q) p r) (hn:n < 0):Both l t q (p+(subAt l t p).length) r:=by
 have hp:=h.lt
 obtain ⟨h3,h4,h5⟩:=q56 ht hp
 obtain ⟨h6,h7,_⟩:=q44 ht hp
 obtain ⟨m,h1,h2⟩:=h.both
 cases m with
 | zero=>rw [q37] at h1; cases h1
 | succ m =>
   rw [skip,ar_neg l hn,Nat.add_zero] at h1
   rw [show m+1=1+m by omega,q8a,h5] at h2
   refine ⟨m,h1,?_⟩
   rw [h4,show p+(endAt l t p - p)=endAt l t p by omega]
   exact h2
theorem mgo_sub {l:List Symbol} {t:List Int} (ht:TermOk l t) {p:Nat} (hp:p < t.length):∀ (q:List Int) (b:Bnd) (i:Nat),Both l (subAt l t p) q i [] →
 mgo l t q b (p+i)=(mgo l (subAt l t p) q b i).map fun x=>(x.1,p+x.2)
 | [],b,i,h=>rfl
 | n::q,b,i,h=>by
   have hu:=q6l ht hp
   have hi:=h.lt
   obtain ⟨h1,h2,h3,h4⟩:=sub_place ht hp hi
   have n1:¬ t.length≤p+i:=by omega
   have n2:¬ (subAt l t p).length≤i:=by omega
   rw [mgo,mgo,if_neg n1,if_neg n2,h2,h4]
   by_cases hn:0≤n
   · rw [if_pos hn,if_pos hn]
     by_cases e:t.getD (p+i) 0=n
     · rw [if_pos e,if_pos e]
       exact mgo_sub ht hp q b (i+1) (h.node (by rw [h2,e]))
     · rw [if_neg e,if_neg e]; rfl
   · rw [if_neg hn,if_neg hn]
     have hv:=h.var hu (by omega)
     rw [h4] at hv
     cases q4w b.1 b.2 (-1 - n) with
     | none =>
       have:=mgo_sub ht hp q (bput b (-1 - n) (subAt l t (p+i))) _ hv
       rw [← Nat.add_assoc] at this
       exact this
     | some o =>
       show (if o=_ then _ else none)=Option.map _ (if o=_ then _ else none)
       by_cases e:o=subAt l t (p+i)
       · rw [if_pos e,if_pos e]
         have:=mgo_sub ht hp q b _ hv
         rw [← Nat.add_assoc] at this
         exact this
       · rw [if_neg e,if_neg e]; rfl
theorem mgo_end {l:List Symbol} {t:List Int} (ht:TermOk l t) {r:List Int}:∀ (q:List Int) (b:Bnd) (p k:Nat),Both l t q p r→p≤t.length→MB l b k→k+q.length≤24→(∀ n∈q,q5m l n=true)→∀ x,mgo l t q b p=some x→t.drop x.2=r∧x.2≤t.length∧MB l x.1 (k+q.length)
 | [],b,p,k,h,hp,hb,hk,hq,x,hx=>by
   cases hx
   exact ⟨h.stop,hp,by simpa using hb⟩
 | n::q,b,p,k,h,hp,hb,hk,hq,x,hx=>by
   have hlt:=h.lt
   obtain ⟨h6,h7,_⟩:=q44 ht hlt
   have hs:=(q56 ht hlt).2.1
   rw [mgo,if_neg (by omega)] at hx
   rw [List.length_cons] at hk ⊢
   have e0:k+1+q.length=k+(q.length+1):=by omega
   by_cases hn:0≤n
   · rw [if_pos hn] at hx
     split at hx
     · rename_i e
       have:=mgo_end ht q b (p+1) (k+1) (h.node e) (by omega) (hb.up (by omega)) (by omega) (fun n hn=>hq n (List.mem_cons_of_mem _ hn)) x hx
       rw [e0] at this; exact this
     · cases hx
   · rw [if_neg hn] at hx
     have hnode:=q50.1 (hq n (by simp))
     split at hx
     · have:=mgo_end ht q _ _ (k+1) (h.var ht (by omega)) (by omega) (hb.put (v := -1 - n) (by omega) (q6l ht hlt)) (by omega) (fun n hn=>hq n (List.mem_cons_of_mem _ hn)) x hx
       rw [e0] at this; exact this
     · split at hx
       · have:=mgo_end ht q b _ (k+1) (h.var ht (by omega)) (by omega) (hb.up (by omega)) (by omega) (fun n hn=>hq n (List.mem_cons_of_mem _ hn)) x hx
         rw [e0] at this; exact this
       · cases hx
def q6f (l:List Symbol) (q t:List Int) (p:Nat):Option Bnd:=(mgo l t q ([],[]) p).map (·.1)
theorem matchAt_sub {l:List Symbol} {q t:List Int} (hq:TermOk l q) (ht:TermOk l t) {p:Nat} (hp:p < t.length):q6f l q (subAt l t p) 0=q6f l q t p:=by
 have hu:=q6l ht hp
 have hb:=Both.start hu hq (p:=0) (by have:=hu.pos; omega)
 have he:t.drop p=subAt l t p++t.drop (endAt l t p):=(q56 ht hp).1
 have e0:(subAt l t p).drop (endAt l (subAt l t p) 0)=[]:=by
  have:=(q56 hu (p:=0) (by have:=hu.pos; omega)).2.2
  rw [List.drop_zero,hu.skip] at this
  exact (Option.some.inj this).symm
 rw [e0] at hb
 have:=mgo_sub ht hp q ([],[]) 0 hb
 unfold q6f
 rw [Nat.add_zero] at this
 rw [this]
 cases mgo l (subAt l t p) q ([],[]) 0 <;> rfl
theorem matchAt_ok {l:List Symbol} {q t:List Int} (hq:TermOk l q) (ht:TermOk l t) {p:Nat} (hp:p < t.length) {b:Bnd} (h:q6f l q t p=some b):MB l b q.length:=by
 unfold q6f at h
 rw [Option.map_eq_some_iff] at h
 obtain ⟨x,hx,rfl⟩:=h
 have:=(mgo_end ht q ([],[]) p 0 (Both.start ht hq hp) (by omega) (MB.nil l) (by have:=hq.le; omega) hq.node x hx).2.2
 simpa using this
end Ev.Ty
end
section
namespace Ev.Ty
section
variable {α:Type} (lt:α→α→Bool)
variable {lt}
end
end Ev.Ty
end
section
namespace Ev.Ty
open Go Ev
set_option linter.unusedSimpArgs false
set_option linter.unusedVariables false
namespace Tm
def args:Tm→List Tm
 | v _=>[]
 | k _=>[]
 | u _ x=>[x]
 | b _ x y=>[x,y]
def size:Tm→Nat
 | v _=>1
 | k _=>1
 | u _ x=>x.size+1
 | b _ x y=>x.size+y.size+1
theorem q57 {p t:Tm} (h:p∈t.args):p.size < t.size:=by
 cases t with
 | v n=>cases h
 | k n=>cases h
 | u n x=>rw [List.mem_singleton.1 h]; exact Nat.lt_succ_self _
 | b n x y =>
   rcases List.mem_cons.1 h with rfl | h
   · show p.size < p.size+y.size+1; omega
   · rw [List.mem_singleton.1 h]; show y.size < x.size+y.size+1; omega
def gr (a:Int→Nat):Tm→Prop
 | v _=>False
 | k n=>0≤n∧a n=0
 | u n x=>0≤n∧a n=1∧x.gr a
 | b n x y=>0≤n∧a n=2∧x.gr a∧y.gr a
variable {a:Int→Nat}
theorem gr.args {t p:Tm} (h:t.gr a) (hp:p∈t.args):p.gr a:=by
 cases t with
 | v n=>cases h
 | k n=>cases hp
 | u n x=>rw [List.mem_singleton.1 hp]; exact h.2.2
 | b n x y =>
   rcases List.mem_cons.1 hp with rfl | hp
   · exact h.2.2.1
   · rw [List.mem_singleton.1 hp]; exact h.2.2.2
theorem gr.ok:∀ {t:Tm},t.gr a→t.ok a
 | .v _,h=>h.elim
 | .k _,h=>h
 | .u _ _,h=>⟨h.1,h.2.1,h.2.2.ok⟩
 | .b _ _ _,h=>⟨h.1,h.2.1,h.2.2.1.ok,h.2.2.2.ok⟩
theorem gr.head {t:Tm} (h:t.gr a):0≤t.head∧t.args.length=a t.head:=by
 cases t with
 | v n=>cases h
 | k n=>exact ⟨h.1,h.2.symm⟩
 | u n x=>exact ⟨h.1,h.2.1.symm⟩
 | b n x y=>exact ⟨h.1,h.2.1.symm⟩
theorem ok.args {t p:Tm} (h:t.ok a) (hp:p∈t.args):p.ok a:=by
 cases t with
 | v n=>cases hp
 | k n=>cases hp
 | u n x=>rw [List.mem_singleton.1 hp]; exact h.2.2
 | b n x y =>
   rcases List.mem_cons.1 hp with rfl | hp
   · exact h.2.2.1
   · rw [List.mem_singleton.1 hp]; exact h.2.2.2
theorem ok.len {t:Tm} (ha:∀ n,n < 0→a n=0) (h:t.ok a):t.args.length=a t.head:=by
 cases t with
 | v n=>exact (ha n h).symm
 | k n=>exact h.2.symm
 | u n x=>exact h.2.1.symm
 | b n x y=>exact h.2.1.symm
theorem ok.head {t p:Tm} (h:t.ok a) (hp:p∈t.args):0≤t.head:=by
 cases t with
 | v n=>cases hp
 | k n=>cases hp
 | u n x=>exact h.1
 | b n x y=>exact h.1
theorem args_flat {t p:Tm} (hp:p∈t.args) {n:Int} (hn:n∈p.flat):n∈t.flat:=by
 cases t with
 | v m=>cases hp
 | k m=>cases hp
 | u m x=>rw [List.mem_singleton.1 hp] at hn; exact List.mem_cons_of_mem _ hn
 | b m x y =>
   rcases List.mem_cons.1 hp with rfl | hp
   · exact List.mem_cons_of_mem _ (List.mem_append_left _ hn)
   · rw [List.mem_singleton.1 hp] at hn; exact List.mem_cons_of_mem _ (List.mem_append_right _ hn)
end Tm
open Tm
inductive G (r:Int→Int):Tm→Tm→Prop
 | eq {s p}:p∈s.args→G r s p
 | sub {s t p}:p∈s.args→G r p t→G r s t
 | big {s t}:0≤s.head→0≤t.head→r t.head < r s.head→(∀ q,q∈t.args→G r s q)→G r s t
 | lex {s t A B C x y}:0≤s.head→s.head=t.head→(∀ q,q∈t.args→G r s q)→s.args=A++x::B→t.args=A++y::C→G r x y→G r s t
namespace G
variable {r:Int→Int}
theorem arg {s t q:Tm} (h:G r s t) (hq:q∈t.args):G r s q:=by
 induction h with
 | eq hp=>exact .sub hp (.eq hq)
 | sub hp _ ih=>exact .sub hp (ih hq)
 | big _ _ _ h=>exact h q hq
 | lex _ _ h _ _ _=>exact h q hq
theorem trans:∀ (n:Nat) {s t u:Tm},s.size+t.size+u.size≤n→G r s t→G r t u→G r s u:=by
 intro n
 induction n with
 | zero=>intro s t u hn h1 h2; cases s <;> simp [Tm.size] at hn
 | succ n ih =>
   intro s t u hn h1 h2
   cases h1 with
   | eq hp=>exact .sub hp h2
   | sub hp h1 =>
     have:=q57 hp
     exact .sub hp (ih (by omega) h1 h2)
   | big z1 z2 hr hq =>
     have h1:G r s t := .big z1 z2 hr hq
     cases h2 with
     | eq hu=>exact hq _ hu
     | sub hp h2 =>
       have:=q57 hp
       exact ih (by omega) (hq _ hp) h2
     | big _ z3 hr2 hq2=>exact .big z1 z3 (Int.lt_trans hr2 hr) fun w hw=>ih (by have:=q57 hw; omega) h1 (hq2 w hw)
     | lex z3 he hq2 _ _ _=>exact .big z1 (he ▸ z3) (he ▸ hr) fun w hw=>ih (by have:=q57 hw; omega) h1 (hq2 w hw)
   | @lex _ _ A B C x y z1 he hq e1 e2 hxy =>
     have h1:G r s t := .lex z1 he hq e1 e2 hxy
     cases h2 with
     | eq hu=>exact hq _ hu
     | sub hp h2 =>
       have:=q57 hp
       exact ih (by omega) (hq _ hp) h2
     | big _ z3 hr2 hq2=>exact .big z1 z3 (by rw [he]; exact hr2) fun w hw=>ih (by have:=q57 hw; omega) h1 (hq2 w hw)
     | @lex _ _ A' B' C' x' y' z3 he2 hq2 e3 e4 hxy2 =>
       have hall:∀ w,w∈u.args→G r s w:=fun w hw=>ih (by have:=q57 hw; omega) h1 (hq2 w hw)
       have hx:x.size < s.size:=q57 (by rw [e1]; simp)
       have hy:y.size < t.size:=q57 (by rw [e2]; simp)
       have hy':y'.size < u.size:=q57 (by rw [e4]; simp)
       rcases List.append_eq_append_iff.1 (e2.symm.trans e3) with ⟨D,hA,hD⟩ | ⟨D,hA,hD⟩
       · cases D with
         | nil =>
           rw [List.append_nil] at hA
           have hD:y=x'∧C=B':=by simpa using hD
           subst hA
           refine .lex z1 (he.trans he2) hall e1 e4 (ih (by omega) hxy (hD.1 ▸ hxy2))
         | cons d D =>
           have hD:y=d∧C=D++x'::B':=by simpa using hD
           rw [hA,List.append_assoc] at e4
           rw [← hD.1] at e4
           exact .lex z1 (he.trans he2) hall e1 e4 hxy
       · cases D with
         | nil =>
           rw [List.append_nil] at hA
           have hD:x'=y∧B'=C:=by simpa using hD
           subst hA
           refine .lex z1 (he.trans he2) hall e1 e4 (ih (by omega) hxy (hD.1 ▸ hxy2))
         | cons d D =>
           have hD:x'=d∧B'=D++y::C:=by simpa using hD
           rw [hA,List.append_assoc] at e1
           rw [← hD.1] at e1
           exact .lex z1 (he.trans he2) hall e1 e4 hxy2
theorem var {a:Int→Nat} {n:Int} (hn:n < 0):∀ (m:Nat) {x:Tm},x.size≤m→x.ok a→(G r x (.v n)↔0≤x.head∧n∈x.flat):=by
 intro m
 induction m with
 | zero=>intro x hm _; cases x <;> simp [Tm.size] at hm
 | succ m ih =>
   intro x hm hx
   have up:∀ p,p∈x.args→n∈p.flat→G r x (.v n):=fun p hp hnp=>by
    have hpo:=hx.args hp
    by_cases h0:0≤p.head
    · exact .sub hp ((ih (by have:=q57 hp; omega) hpo).2 ⟨h0,hnp⟩)
    · cases p with
      | v k=>rw [List.mem_singleton.1 hnp]; exact .eq hp
      | k k=>exact absurd hpo.1 h0
      | u k y=>exact absurd hpo.1 h0
      | b k y z=>exact absurd hpo.1 h0
   constructor
   · intro h
     cases h with
     | eq hp=>exact ⟨hx.head hp,args_flat hp (List.mem_singleton.2 rfl)⟩
     | sub hp h=>exact ⟨hx.head hp,args_flat hp ((ih (by have:=q57 hp; omega) (hx.args hp)).1 h).2⟩
     | big _ z _ _=>exact absurd z (by show ¬ 0≤n; omega)
     | lex z e _ _ _ _ =>
       have e:x.head=n:=e
       omega
   · rintro ⟨h1,h2⟩
     cases x with
     | v k=>have h1:0≤k:=h1; have hx:k < 0:=hx; omega
     | k k =>
       have h1:0≤k:=h1
       have:=List.mem_singleton.1 h2
       omega
     | u k y =>
       have h1:0≤k:=h1
       rcases List.mem_cons.1 h2 with e | h2
       · omega
       · exact up y (List.mem_singleton.2 rfl) h2
     | b k y z =>
       have h1:0≤k:=h1
       rcases List.mem_cons.1 h2 with e | h2
       · omega
       · rcases List.mem_append.1 h2 with h2 | h2
         · exact up y (List.mem_cons_self ..) h2
         · exact up z (List.mem_cons_of_mem _ (List.mem_singleton.2 rfl)) h2
variable {a:Int→Nat}
end G
end Ev.Ty
end
section
namespace Ev.Ty
open Go Ev
open Tm
set_option linter.unusedSimpArgs false
set_option linter.unusedVariables false
inductive F2 {α β:Type} (R:α→β→Prop):List α→List β→Prop
 | nil:F2 R [] []
 | cons {a b A B}:R a b→F2 R A B→F2 R (a::A) (b::B)
theorem F2.any {α β:Type} {R:α→β→Prop} {f:α→Bool} {P:β→Prop} {A:List α} {B:List β} (h:F2 R A B) (hf:∀ a b,R a b→b∈B→(f a=true↔P b)):A.any f=true↔∃ b,b∈B∧P b:=by
 induction h with
 | nil=>simp
 | @cons a b A B hr _ ih =>
   rw [List.any_cons,Bool.or_eq_true,hf a b hr (List.mem_cons_self ..),ih fun a b hr hb=>hf a b hr (List.mem_cons_of_mem _ hb)]
   constructor
   · rintro (h | ⟨b',h1,h2⟩)
     · exact ⟨b,List.mem_cons_self .., h⟩
     · exact ⟨b',List.mem_cons_of_mem _ h1,h2⟩
   · rintro ⟨b',h1,h2⟩
     rcases List.mem_cons.1 h1 with rfl | h1
     · exact .inl h2
     · exact .inr ⟨b',h1,h2⟩
def At (l:List Symbol) (t:List Int) (i:Nat) (x:Tm):Prop:=x.ok (ar l)∧∃ r,t.drop i=x.flat++r
theorem At.facts {l:List Symbol} {t:List Int} {i:Nat} {x:Tm} (h:At l t i x):i < t.length∧t.getD i 0=x.head∧endAt l t i=i+x.flat.length∧subAt l t i=x.flat:=by
 obtain ⟨hx,r,h⟩:=h
 obtain ⟨h1,h2,h3⟩:=at_head h
 have hs:skip (ar l) 1 (t.drop i)=some r:=by
  rw [h,skip_flat (fun n hn=>ar_neg l hn) x r 0 hx,q37]
 have hl:(t.drop i).length=x.flat.length+r.length:=by rw [h,List.length_append]
 rw [List.length_drop] at hl
 have he:endAt l t i=i+x.flat.length:=by
  unfold endAt
  rw [hs]
  show t.length - r.length=_
  omega
 refine ⟨h1,?_,he,?_⟩
 · rw [List.getD_eq_getElem?_getD,h2]; rfl
 · unfold subAt
   rw [he,List.drop_take,Nat.add_sub_cancel_left,h,List.take_left]
theorem At.next {l:List Symbol} {t:List Int} {i:Nat} {n:Int} {x:Tm} {r:List Int} (hx:x.ok (ar l)) (h:t.drop i=n::(x.flat++r)):At l t (i+1) x:=⟨hx,r,by
 rw [← List.drop_drop,h]; rfl⟩
theorem At.args {l:List Symbol} {t:List Int} {i:Nat} {x:Tm} (h:At l t i x):F2 (At l t) (q34 l t i) x.args:=by
 obtain ⟨_,h2,_,_⟩:=h.facts
 obtain ⟨hx,r,h⟩:=h
 unfold q34
 rw [h2,← hx.len (fun n hn=>ar_neg l hn)]
 cases x with
 | v n=>exact .nil
 | k n=>exact .nil
 | u n x=>exact .cons (At.next hx.2.2 h) .nil
 | b n x y =>
   have h:t.drop i=n::(x.flat++(y.flat++r)):=by rw [h]; simp [Tm.flat]
   have a1:=At.next hx.2.2.1 h
   refine .cons a1 (.cons ⟨hx.2.2.2,r,?_⟩ .nil)
   rw [a1.facts.2.2.1,← List.drop_drop,← List.drop_drop,h]
   show (x.flat++(y.flat++r)).drop _=_
   rw [List.drop_left]
section
variable {l:List Symbol} {o a b:List Int}
end
def Closed (l:List Symbol) (t:List Int):Prop:=TermOk l t∧∀ n∈t,0≤n
theorem gr_of {a:Int→Nat}:∀ x:Tm,x.ok a→(∀ n∈x.flat,0≤n)→x.gr a
 | .v n,h,h2=>by have h:n < 0:=h; have:=h2 n (List.mem_singleton.2 rfl); omega
 | .k n,h,_=>h
 | .u n x,h,h2=>⟨h.1,h.2.1,gr_of x h.2.2 fun m hm=>h2 m (List.mem_cons_of_mem _ hm)⟩
 | .b n x y,h,h2=>⟨h.1,h.2.1,gr_of x h.2.2.1 fun m hm=>h2 m (List.mem_cons_of_mem _ (List.mem_append_left _ hm)),gr_of y h.2.2.2 fun m hm=>h2 m (List.mem_cons_of_mem _ (List.mem_append_right _ hm))⟩
theorem Closed.at {l:List Symbol} (ok:SigOk ⟨l⟩) {t:List Int} (h:Closed l t):∃ x,At l t 0 x∧t=x.flat∧x.gr (ar l):=by
 obtain ⟨x,hx,e⟩:=h.1.tree ok
 exact ⟨x,⟨hx,[],by simpa using e⟩,e,gr_of x hx (e ▸ h.2)⟩
section
variable {l:List Symbol} (ok:SigOk ⟨l⟩) {o:List Int} (ho:∀ n:Int,0≤n→n < l.length→n∈o)
include ok ho
end
end Ev.Ty
end
section
namespace Ev.Ty
open Go Ev
open Enc (enc)
open Sm (sm)
set_option linter.unusedSimpArgs false
set_option linter.unusedVariables false
def Drawn (code:List UInt8) (p c:Int) (P:T→Prop) (r:R):Prop:=∃ x p',r=some (x,[.agg [slc code,.int .i64 p']])∧p≤p'∧p'≤p+c∧P x
theorem q7j {code:List UInt8} {p c:Int} {P:T→Prop} {g:FuncId} {args:List T} (hx:X g=none) (n:Nat) (h:Drawn code p c P (callK prog A H LIM n g args)):Drawn code p c P (LIM g args):=by
 obtain ⟨x,p',e,h⟩:=h
 exact ⟨x,p',lim_of hx n e,h⟩
theorem Drawn.more {code:List UInt8} {p p1 c c1:Int} {P P1:T→Prop} {r:R} (h:Drawn code p1 c1 P1 r) (h1:p≤p1) (h2:p1+c1≤p+c) (hP:∀ x,P1 x→P x):Drawn code p c P r:=by
 obtain ⟨x,p',e,a,b,q⟩:=h
 exact ⟨x,p',e,by omega,by omega,hP x q⟩
theorem q4g {code:List UInt8} {p p' c:Int} {P:T→Prop} {x:T} (h1:p≤p'∧p'≤p+c) (h:P x):Drawn code p c P (some (x,[.agg [slc code,.int .i64 p']])):=⟨x,p',rfl,h1.1,h1.2,h⟩
theorem q65 {Q:R→Prop} {code:List UInt8} {p c:Int} {P:T→Prop} {r:R} {K:T × List T→R} (h:Drawn code p c P r)
 (k:∀ x p',p≤p'→p'≤p+c→P x→Q (K (x,[.agg [slc code,.int .i64 p']]))):Q (r.bind K):=by
 obtain ⟨x,p',rfl,a,b,q⟩:=h
 exact k x p' a b q
theorem q75 {σ:Type} {S:Nat→σ→R} {Q:R→Prop} (I:σ→Prop) (μ:σ→Nat) (step:∀ m s,I s→Q (S (m+1) s)∨∃ s',S (m+1) s=S m s'∧I s'∧μ s' < μ s):∀ f s,I s→μ s < f→Q (S f s):=by
 intro f
 induction f with
 | zero=>intro s _ h; omega
 | succ f ih =>
   intro s hi hm
   rcases step f s hi with h | ⟨s',e,hi',hm'⟩
   · exact h
   · rw [e]; exact ih s' hi' (by omega)
@[simp] theorem oBx_bx (c:List T):oBx (.bx c)=some c:=Eq.trans rfl rfl
theorem tmod_nn {a b:Int} (ha:0≤a) (hb:0 < b):0≤Int.tmod a b∧Int.tmod a b < b:=⟨Int.tmod_nonneg b ha,Int.tmod_lt_of_pos a hb⟩
abbrev src (code:List UInt8) (p:Int):T := .rref [slc code,.int .i64 p] 0
theorem u8_bound (b:UInt8):(0:Int)≤(b.toNat:Int)∧(b.toNat:Int) < 256:=⟨by omega,by have:=b.toNat_lt; omega⟩
section
variable {code:List UInt8} (hc:code.length≤2097152)
include hc
theorem at_idx {p:Int} (hp:0≤p) (hl:0 < code.length):∃ i:Nat,Int.tmod p (code.length:Int)=i∧i < code.length:=by
 obtain ⟨h1,h2⟩:=tmod_nn hp (show (0:Int) < (code.length:Int) by omega)
 exact ⟨(Int.tmod p (code.length:Int)).toNat,by omega,by omega⟩
theorem q16 (p n:Int) (hp:0≤p∧p≤1099511627776) :
 ∃ v:Int,LIM F.q16 [.rref [slc code,.int .i64 p] 0,.int .i64 n]=some (.int .i64 v,[.agg [slc code,.int .i64 (p+1)]])∧0≤v∧(1≤n→v < n):=by
 have e1:IntKind.wrap .i64 (p+1)=p+1:=q2j (by omega)
 have e2:IntKind.wrap .i64 (p+1 - 1)=p:=by rw [q2j (by omega)]; omega
 by_cases hn:n < 1
 · refine ⟨0,q83 rfl 0 ((q16.ev _ _ _ _).trans ?_),by omega,by omega⟩
   simp only [evz,Nat.reduceLT,hn,e1]
 rw [Int.not_lt] at hn
 have hn0:¬ n=0:=by omega
 by_cases hl:code.length=0
 · obtain ⟨q1,q2⟩:=tmod_nn (a:=p*7) (b:=n) (by omega) (by omega)
   refine ⟨Int.tmod (p*7) n,q83 rfl 0 ((q16.ev _ _ _ _).trans ?_),q1,fun _=>q2⟩
   have z:((code.length:Nat):Int)=0:=by omega
   have z1:¬ n < 1:=by omega
   simp only [evz,Nat.reduceLT,z1,z,hn0,e1,e2,q2j (x:=p*7) (by omega)]
 have z1:¬ n < 1:=by omega
 obtain ⟨i,hi,hil⟩:=at_idx hc hp.1 (by omega)
 obtain ⟨j,hj,hjl⟩:=at_idx (code:=code) hc (p:=p+1) (by omega) (by omega)
 have b1:=u8_bound code[i]
 have b2:=u8_bound code[j]
 have hd:0≤Int.tdiv p code.length∧Int.tdiv p code.length≤p:=⟨Int.tdiv_nonneg hp.1 (by omega),Int.tdiv_le_self _ hp.1⟩
 have d1:¬ ((code.length:Nat):Int)=0:=by omega
 generalize hk:Int.tdiv p code.length=d at hd
 have w1:IntKind.wrap .i64 d=d:=q2j (by omega)
 have w2:IntKind.wrap .i64 (d*37)=d*37:=q2j (by omega)
 have w3:IntKind.wrap .i64 (code[i].toNat:Int)=(code[i].toNat:Int):=q2j (by omega)
 have w4:IntKind.wrap .i64 (code[j].toNat:Int)=(code[j].toNat:Int):=q2j (by omega)
 have w5:IntKind.wrap .i64 ((code[i].toNat:Int)+d*37)=(code[i].toNat:Int)+d*37:=q2j (by omega)
 have w6:IntKind.wrap .i64 (((code[i].toNat:Int)+d*37)*251)=((code[i].toNat:Int)+d*37)*251:=q2j (by omega)
 have w7:IntKind.wrap .i64 ((code[j].toNat:Int)*13)=(code[j].toNat:Int)*13:=q2j (by omega)
 have w8:IntKind.wrap .i64 (((code[i].toNat:Int)+d*37)*251+(code[j].toNat:Int)*13)=((code[i].toNat:Int)+d*37)*251+(code[j].toNat:Int)*13:=q2j (by omega)
 have w9:IntKind.wrap .i64 (((code[i].toNat:Int)+d*37)*251+(code[j].toNat:Int)*13+p)=((code[i].toNat:Int)+d*37)*251+(code[j].toNat:Int)*13+p:=q2j (by omega)
 by_cases hbig:n > 200
 · obtain ⟨q1,q2⟩:=tmod_nn (a:=((code[i].toNat:Int)+d*37)*251+(code[j].toNat:Int)*13+p) (b:=n) (by omega) (by omega)
   refine ⟨_,q83 rfl 0 ((q16.ev _ _ _ _).trans ?_),q1,fun _=>q2⟩
   simp only [evz,Nat.reduceLT,z1,d1,hn0,e1,e2,hi,hil,hj,hjl,List.getElem?_eq_getElem,enc_u8,hbig,hk,w1,w2,w3,w4,w5,w6,w7,w8,w9]
 · obtain ⟨q1,q2⟩:=tmod_nn (a:=(code[i].toNat:Int)+d*37) (b:=n) (by omega) (by omega)
   refine ⟨_,q83 rfl 0 ((q16.ev _ _ _ _).trans ?_),q1,fun _=>q2⟩
   simp only [evz,Nat.reduceLT,z1,d1,hn0,e1,e2,hi,hil,hj,hjl,List.getElem?_eq_getElem,enc_u8,hbig,hk,w1,w2,w3,w4,w5,w6,w7,w8,w9]
theorem q6h {Q:R→Prop} {p n:Int} {K:T × List T→R} (hp:0≤p∧p≤1099511627776) (k:∀ v:Int,0≤v→(1≤n→v < n)→Q (K (.int .i64 v,[.agg [slc code,.int .i64 (p+1)]]))) :
 Q ((LIM F.q16 [.rref [slc code,.int .i64 p] 0,.int .i64 n]).bind K):=by
 obtain ⟨v,e,h1,h2⟩:=q16 hc p n hp
 rw [e]; exact k v h1 h2
theorem q2u (p n:Int) (hp:0≤p∧p≤1099511627776):∃ b:Bool,LIM F.q2u [.rref [slc code,.int .i64 p] 0,.int .i64 n]=some (.bool b,[.agg [slc code,.int .i64 (p+1)]]):=by
 obtain ⟨v,e,_⟩:=q16 hc p n hp
 exact ⟨decide (v=0),q83 rfl 0 ((q2u.ev _ _ _ _).trans (by simp only [evz,Nat.reduceLT,e]))⟩
theorem q8c {Q:R→Prop} {p n:Int} {K:T × List T→R} (hp:0≤p∧p≤1099511627776) (k:∀ b:Bool,Q (K (.bool b,[.agg [slc code,.int .i64 (p+1)]]))) :
 Q ((LIM F.q2u [.rref [slc code,.int .i64 p] 0,.int .i64 n]).bind K):=by
 obtain ⟨b,e⟩:=q2u hc p n hp
 rw [e]; exact k b
theorem q32 (p:Int) (l:List Int) {ts:List T} (hts:cells l=ts) (hl:l≠[]) (hp:0≤p∧p≤1099511627776) :
 ∃ v∈l,LIM F.q32 [.rref [slc code,.int .i64 p] 0,.sl 1 ts]=some (.int .i64 v,[.agg [slc code,.int .i64 (p+1)]]):=by
 subst hts
 have h0:0 < l.length:=List.length_pos_iff.2 hl
 have hd:(cells l).length / 1=l.length:=q4j rfl
 obtain ⟨v,e,h1,h2⟩:=q16 hc p (l.length:Int) hp
 obtain ⟨i,rfl⟩:∃ i:Nat,v=i:=⟨v.toNat,by omega⟩
 have hi:i < l.length:=by have:=h2 (by omega); omega
 refine ⟨l[i],List.getElem_mem hi,q83 rfl 0 ((q32.ev _ _ _ _).trans ?_)⟩
 simp only [evz,Nat.reduceLT,e,hi,List.getElem?_eq_getElem,q28]
theorem pick_s {Q:R→Prop} {p:Int} (l:List Int) {ts:List T} {K:T × List T→R} (hts:cells l=ts) (hl:l≠[]) (hp:0≤p∧p≤1099511627776) (k:∀ v:Int,v∈l→Q (K (.int .i64 v,[.agg [slc code,.int .i64 (p+1)]]))) :
 Q ((LIM F.q32 [.rref [slc code,.int .i64 p] 0,.sl 1 ts]).bind K):=by
 obtain ⟨v,hv,e⟩:=q32 hc p l hts hl hp
 rw [e]; exact k v hv
omit hc in
theorem q61:Call F.q61 [slc code] (.bool (decide ((code.length:Int) > 1048576))):=q0q rfl 0 ((q61.ev _ _).trans (by simp only [evz,Nat.reduceLT]))
omit hc in
theorem q5d:LIM F.q5d [slc code]=some (.bx [slc code,.int .i64 0],[]):=q83 rfl 0 (q5d.ev _ _)
end
end Ev.Ty
end
section
namespace Ev.Ty
open Go Ev
open Enc (enc)
open Sm (sm)
set_option linter.unusedSimpArgs false
set_option linter.unusedVariables false
set_option maxHeartbeats 1000000
structure Grown (l:List Symbol) (m:Nat) (vars:Int) (t:List Int):Prop where
 pos:1≤t.length
 le:t.length≤m
 node:∀ n∈t,(0≤n∧n < l.length)∨(-vars≤n∧n ≤ -1)
 tree:∃ x:Tm,x.ok (ar l)∧t=x.flat
theorem Grown.ok {l:List Symbol} {m:Nat} {vars:Int} {t:List Int} (h:Grown l m vars t) (hm:m≤24) (hv:vars≤12):TermOk l t:=by
 refine ⟨h.pos,Nat.le_trans h.le hm,fun n hn => ?_,?_⟩
 · rw [q50]; rcases h.node n hn with h | h
   · exact .inl h
   · exact .inr (by omega)
 · obtain ⟨x,hx,rfl⟩:=h.tree
   have:=Tm.skip_flat (a:=ar l) (fun n hn=>ar_neg l hn) x [] 0 hx
   rwa [List.append_nil] at this
section
variable {code:List UInt8} (hc:code.length≤2097152) {l:List Symbol} (ok:SigOk ⟨l⟩)
def TermS (code:List UInt8) (l:List Symbol) (p:Int) (m:Nat) (vars:Int) (r:R):Prop:=∃ t p',r=some (slc t,[.agg [slc code,.int .i64 p']])∧p≤p'∧p'≤p+3*(t.length:Int)∧Grown l m vars t
include hc ok
theorem l3_var (p q:Int) (m:Nat) (vars:Int) (hm:1≤m) (hv:1≤vars∧vars≤12) (hp:0≤p∧p≤q∧q≤p+2∧q≤1099511627776) :
 TermS code l p m vars ((LIM F.q16 [.rref [slc code,.int .i64 q] 0,.int .i64 vars]).bind fun r=>(oCons r.2).bind fun p2=>(oNil p2.2).bind fun _=>(oAgg p2.1).bind fun c3=>(oCons c3).bind fun p4=>(oSl 1 p4.1).bind fun c5=>(oCons p4.2).bind fun p6=>(oInt .i64 p6.1).bind fun n7=>(oNil p6.2).bind fun _=>(oInt .i64 r.1).bind fun n8=>some (.sl 1 [.int .i64 (IntKind.wrap .i64 ((-1:Int) - n8))],[.agg [.sl 1 (cells code),.int .i64 n7]])):=by
 refine q6h hc (by omega) fun v h1 h2 => ?_
 have h2:=h2 hv.1
 simp only [evz,Nat.reduceLT]
 rw [q2j (by omega)]
 exact ⟨[-1 - v],q+1,rfl,by omega,by simp; omega,⟨by simp,by simp; omega,fun n hn => .inr (by rw [List.mem_singleton.1 hn]; omega),.v (-1 - v),by show -1 - v < 0; omega,rfl⟩⟩
noncomputable def l3fin (l:List Symbol) (code:List UInt8) (m vars x4 p:Int):R :=
 (bif inB x4 ((cells l).length / 2) then (((cells l)[(((Int.toNat x4)*2)+1)]?).bind fun e71=>((oInt .i64 e71).bind fun n72=>(bif ((n72 == (1:Int))) then ((LIM F.q0a [(.rref [(.sl 1 (cells code)),(.int .i64 p)] 0),(.rref [(.sl 2 (cells l))] 0),(.int .i64 (IntKind.wrap .i64 (m - (1:Int)))),(.int .i64 vars)]).bind fun r73=>((oCons r73.2).bind fun p74=>((oNil p74.2).bind fun _=>((oAgg p74.1).bind fun c75=>((oCons c75).bind fun p76=>((oSl 1 p76.1).bind fun c77=>((oCons p76.2).bind fun p78=>((oInt .i64 p78.1).bind fun n79=>((oNil p78.2).bind fun _=>((oSl 1 r73.1).bind fun c80=>(bif (c80).all T.scalar then (bif Nat.ble ((1+(c80).length)*8) (140737488355328*1) then some ((.sl 1 ([(.int .i64 x4)]++c80:List T)),[(.agg [(.sl 1 (cells code)),(.int .i64 n79)])]) else none) else none))))))))))) else (bif ((n72 == (2:Int))) then ((LIM F.q0a [(.rref [(.sl 1 (cells code)),(.int .i64 p)] 0),(.rref [(.sl 2 (cells l))] 0),(.int .i64 (IntKind.wrap .i64 (m - (2:Int)))),(.int .i64 vars)]).bind fun r81=>((oCons r81.2).bind fun p82=>((oNil p82.2).bind fun _=>((oAgg p82.1).bind fun c83=>((oCons c83).bind fun p84=>((oSl 1 p84.1).bind fun c85=>((oCons p84.2).bind fun p86=>((oInt .i64 p86.1).bind fun n87=>((oNil p86.2).bind fun _=>((oSl 1 r81.1).bind fun c88=>(bif (c88).all T.scalar then (bif Nat.ble ((1+(c88).length)*8) (140737488355328*1) then ((LIM F.q0a [(.rref [(.sl 1 (cells code)),(.int .i64 n87)] 0),(.rref [(.sl 2 (cells l))] 0),(.int .i64 (IntKind.wrap .i64 ((IntKind.wrap .i64 (m - (1:Int))) - ((((c88).length / 1):Nat):Int)))),(.int .i64 vars)]).bind fun r89=>((oCons r89.2).bind fun p90=>((oNil p90.2).bind fun _=>((oAgg p90.1).bind fun c91=>((oCons c91).bind fun p92=>((oSl 1 p92.1).bind fun c93=>((oCons p92.2).bind fun p94=>((oInt .i64 p94.1).bind fun n95=>((oNil p94.2).bind fun _=>((oSl 1 r89.1).bind fun c96=>(bif (c96).all T.scalar then (bif Nat.ble (((([(.int .i64 x4)]++c88:List T)).length+(c96).length)*8) (140737488355328*1) then some ((.sl 1 (([(.int .i64 x4)]++c88:List T)++c96:List T)),[(.agg [(.sl 1 (cells code)),(.int .i64 n95)])]) else none) else none))))))))))) else none) else none))))))))))) else some ((.sl 1 [(.int .i64 x4)]),[(.agg [(.sl 1 (cells code)),(.int .i64 p)])]))))) else none)
theorem l3_fin (p q:Int) (m:Nat) (vars:Int) (hm:1≤m∧m≤1000) (hv:0≤vars∧vars≤12) (hp:0≤p∧p≤q∧q≤p+3∧p+10*(m:Int)≤1099511020000)
 (ih:∀ k,1≤k→k < m→∀ p,0≤p∧p+10*(k:Int)≤1099511020000→TermS code l p k vars (LIM F.q0a [.rref [slc code,.int .i64 p] 0,.rref [slc l] 0,.int .i64 k,.int .i64 vars]))
 (i:Nat) (hi:i < l.length) (ha:l[i].arity < m):TermS code l p m vars (l3fin l code m vars i q):=by
 obtain ⟨a1,a2⟩:=ok.arity l[i] (List.getElem_mem hi)
 have har:(ar l (i:Int):Int)=l[i].arity:=(ar_eq ok (n:=(i:Int)) (by omega) (by simpa using hi)).symm
 unfold l3fin
 have hn0:(0:Int)≤i∧(i:Int) < l.length:=by omega
 simp only [evz,Nat.reduceLT,hi,List.getElem?_eq_getElem,q30]
 by_cases h1:l[i].arity=1
 · simp only [evz,Nat.reduceLT,h1]
   rw [q2j (by omega),show (m:Int) - 1=((m - 1:Nat):Int) by omega]
   obtain ⟨t,p',e,q1,q2,g⟩:=ih (m - 1) (by omega) (by omega) q (by omega)
   have hl:=g.le
   have e2:(cells t).length=t.length:=by rw [q0j]; simp
   simp only [evz,Nat.reduceLT,e,q3o]
   rw [q1m (q3i (by rw [e2]; omega))]
   refine ⟨(i:Int)::t,p',rfl,by omega,by simp; omega,⟨by simp,by simp; omega,fun n hn => ?_,?_⟩⟩
   · rcases List.mem_cons.1 hn with rfl | hn
     · exact .inl hn0
     · exact g.node n hn
   · obtain ⟨x,hx,rfl⟩:=g.tree
     exact ⟨.u i x,⟨by omega,by omega,hx⟩,rfl⟩
 by_cases h2:l[i].arity=2
 · simp only [evz,Nat.reduceLT,h2,Int.reduceEq]
   rw [q2j (x:=(m:Int) - 2) (by omega),show (m:Int) - 2=((m - 2:Nat):Int) by omega]
   obtain ⟨t,p',e,q1,q2,g⟩:=ih (m - 2) (by omega) (by omega) q (by omega)
   have hl:=g.le
   have hl1:=g.pos
   have e2:(cells t).length=t.length:=by rw [q0j]; simp
   simp only [evz,Nat.reduceLT,e,q3o]
   rw [q1m (q3i (by rw [e2]; omega)),q2j (x:=(m:Int) - 1) (by omega),q2j (by omega),show (m:Int) - 1 - (t.length:Int)=((m - 1 - t.length:Nat):Int) by omega]
   obtain ⟨t2,p2,e',q3,q4,g2⟩:=ih (m - 1 - t.length) (by omega) (by omega) p' (by omega)
   have hl2:=g2.le
   have e3:(cells t2).length=t2.length:=by rw [q0j]; simp
   simp only [evz,Nat.reduceLT,e',q3o]
   rw [q1m (q3i (by simp only [List.length_append,List.length_singleton]; rw [e2,e3]; omega))]
   refine ⟨(i:Int)::(t++t2),p2,by rw [List.append_assoc,← q2m]; rfl,by omega,by simp; omega,⟨by simp,by simp; omega,fun n hn => ?_,?_⟩⟩
   · rcases List.mem_cons.1 hn with rfl | hn
     · exact .inl hn0
     · rcases List.mem_append.1 hn with hn | hn
       · exact g.node n hn
       · exact g2.node n hn
   · obtain ⟨x,hx,rfl⟩:=g.tree
     obtain ⟨y,hy,rfl⟩:=g2.tree
     exact ⟨.b i x y,⟨by omega,by omega,hx,hy⟩,rfl⟩
 simp only [evz,Nat.reduceLT,h1,h2]
 exact ⟨[(i:Int)],q,rfl,by omega,by simp; omega,⟨by simp,by simp; omega,fun n hn=>by rw [List.mem_singleton.1 hn]; exact .inl hn0,.k i,⟨by omega,by omega⟩,rfl⟩⟩
omit hc ok in
theorem mod_step {n d k c:Nat} (h:(n+(d+1)) % k=c):((n+1) % k+d) % k=c:=by
 rw [Nat.mod_add_mod,show n+1+d=n+(d+1) by omega]; exact h
omit hc ok in
theorem mod_to {n c k:Nat} (hn:n < k) (hc:c < k):∃ d,d < k∧(n+d) % k=c:=by
 by_cases h:n≤c
 · exact ⟨c - n,by omega,by rw [show n+(c - n)=c by omega,Nat.mod_eq_of_lt hc]⟩
 · exact ⟨c+k - n,by omega,by rw [show n+(c+k - n)=c+k by omega,Nat.add_mod_right,Nat.mod_eq_of_lt hc]⟩
theorem l3_loops (p q:Int) (m:Nat) (vars:Int) (hm:1≤m∧m≤1000) (hv:0≤vars∧vars≤12) (hp:0≤p∧p≤q∧q≤p+3∧p+10*(m:Int)≤1099511020000)
 (ih:∀ k,1≤k→k < m→∀ p,0≤p∧p+10*(k:Int)≤1099511020000→TermS code l p k vars (LIM F.q0a [.rref [slc code,.int .i64 p] 0,.rref [slc l] 0,.int .i64 k,.int .i64 vars]))
 (i:Nat) (hi:i < l.length):TermS code l p m vars (q0a.at0 10 10 (q0a.st0 (cells l) m vars l.length i 0 (cells code) q)):=by
 have hle:=ok.le
 simp only at hle
 obtain ⟨y,hy,hy0⟩:=ok.const
 obtain ⟨c,hcl,hcy⟩:=List.getElem_of_mem hy
 have hcl:c < l.length:=hcl
 have hca:l[c].arity=0:=by
  have:l[c]=y:=hcy
  rw [this]; exact hy0
 have fin:=l3_fin hc ok p q m vars hm hv hp ih
 have step2:∀ i,i < l.length→TermS code l p m vars (q0a.at2 10 10 (q0a.st2 (cells l) m vars l.length (i:Nat) 0 (cells code) q)):=fun i hi=>by
  obtain ⟨d,hd,hdc⟩:=mod_to hi hcl
  refine q75 (σ:=Nat × Nat × Nat) (S:=fun k s=>q0a.at2 10 k (q0a.st2 (cells l) m vars l.length (s.1:Nat) (s.2.1:Nat) (cells code) q)) (fun s=>s.1 < l.length∧(s.1+s.2.2) % l.length=c∧s.2.1+s.2.2 < l.length) (fun s=>s.2.2) (fun k s hs => ?_) _ (i,0,d) ⟨hi,hdc,by simp only; omega⟩ (by simp only; omega)
  obtain ⟨n,j,d⟩:=s
  obtain ⟨h1,h2,h3⟩:=hs
  simp only at h1 h2 h3 ⊢
  have hj:j < l.length:=by omega
  have hl0:¬ ((l.length:Nat):Int)=0:=by omega
  by_cases ha:l[n].arity > 0
  · right
    cases d with
    | zero =>
      rw [Nat.add_zero,Nat.mod_eq_of_lt h1] at h2
      subst h2
      omega
    | succ d =>
      refine ⟨((n+1) % l.length,j+1,d),?_,⟨Nat.mod_lt _ (by omega),mod_step h2,by simp only; omega⟩,by simp only; omega⟩
      simp only [q0a.next2,q0a.round2,evz,Nat.reduceLT,hj,h1,List.getElem?_eq_getElem,q30,ha,hl0]
      rw [q0n (by omega),q0n (by omega)]
      congr 2
  · left
    have hf:=fin n h1 (by omega)
    simp only [q0a.next2,q0a.round2,evz,Nat.reduceLT,hj,h1,List.getElem?_eq_getElem,q30,ha]
    unfold l3fin at hf
    simp only [evz,Nat.reduceLT,h1,List.getElem?_eq_getElem,q30] at hf
    exact hf
 obtain ⟨d,hd,hdc⟩:=mod_to hi hcl
 refine q75 (σ:=Nat × Nat × Nat) (S:=fun k s=>q0a.at0 10 k (q0a.st0 (cells l) m vars l.length (s.1:Nat) (s.2.1:Nat) (cells code) q)) (fun s=>s.1 < l.length∧(s.1+s.2.2) % l.length=c∧s.2.1+s.2.2 < l.length) (fun s=>s.2.2) (fun k s hs => ?_) _ (i,0,d) ⟨hi,hdc,by simp only; omega⟩ (by simp only; omega)
 obtain ⟨n,j,d⟩:=s
 obtain ⟨h1,h2,h3⟩:=hs
 simp only at h1 h2 h3 ⊢
 have hj:j < l.length:=by omega
 have hl0:¬ ((l.length:Nat):Int)=0:=by omega
 by_cases ha:l[n].arity ≥ m
 · right
   cases d with
   | zero =>
     rw [Nat.add_zero,Nat.mod_eq_of_lt h1] at h2
     subst h2
     omega
   | succ d =>
     refine ⟨((n+1) % l.length,j+1,d),?_,⟨Nat.mod_lt _ (by omega),mod_step h2,by simp only; omega⟩,by simp only; omega⟩
     simp only [q0a.next0,q0a.round0,evz,Nat.reduceLT,hj,h1,List.getElem?_eq_getElem,q30,ha,hl0]
     rw [q0n (by omega),q0n (by omega)]
     congr 2
 · left
   simp only [q0a.next0,q0a.round0,evz,Nat.reduceLT,hj,h1,List.getElem?_eq_getElem,q30,ha]
   by_cases hm2:(m:Int) < 2
   · simp only [evz,Nat.reduceLT,hm2]
     exact step2 n h1
   · have hf:=fin n h1 (by omega)
     unfold l3fin at hf
     simp only [evz,Nat.reduceLT,h1,List.getElem?_eq_getElem,q30] at hf
     simp only [evz,Nat.reduceLT,hm2]
     exact hf
theorem spec_l3DrawS (vars:Int) (hv:0≤vars∧vars≤12):∀ (m:Nat),1≤m→m≤1000→∀ p,0≤p∧p+10*(m:Int)≤1099511020000→TermS code l p m vars (LIM F.q0a [.rref [slc code,.int .i64 p] 0,.rref [slc l] 0,.int .i64 m,.int .i64 vars]):=by
 intro m
 induction m using Nat.strongRecOn with
 | ind m ih =>
   intro hm1 hm2 p hp
   have hle:=ok.le
   have hpos:=ok.pos
   simp only at hle hpos
   suffices h:TermS code l p m vars (callK prog A H LIM 10 F.q0a [.rref [slc code,.int .i64 p] 0,.rref [slc l] 0,.int .i64 m,.int .i64 vars]) by
    obtain ⟨t,p',e,r⟩:=h
    exact ⟨t,p',lim_of rfl 10 e,r⟩
   rw [show callK prog A H LIM 10 F.q0a [.rref [slc code,.int .i64 p] 0,.rref [slc l] 0,.int .i64 m,.int .i64 vars]=_ from q0a.ev _ _ _ _ _ _]
   have node:∀ q,p≤q→q≤p+2→TermS code l p m vars ((LIM F.q16 [.rref [slc code,.int .i64 q] 0,.int .i64 (l.length:Int)]).bind fun r=>(oCons r.2).bind fun p2=>(oNil p2.2).bind fun _=>(oAgg p2.1).bind fun c3=>(oCons c3).bind fun p4=>(oSl 1 p4.1).bind fun c5=>(oCons p4.2).bind fun p6=>(oInt .i64 p6.1).bind fun n7=>(oNil p6.2).bind fun _=>(oInt .i64 r.1).bind fun n8=>q0a.at0 10 10 (q0a.st0 (cells l) m vars l.length n8 0 (cells code) n7)):=fun q q1 q2=>by
    refine q6h hc (by omega) fun v h1 h2 => ?_
    have h2:=h2 (by omega)
    obtain ⟨i,rfl⟩:∃ i:Nat,v=i:=⟨v.toNat,by omega⟩
    simp only [evz,Nat.reduceLT]
    exact l3_loops hc ok p (q+1) m vars ⟨hm1,hm2⟩ hv (by omega) (fun k k1 k2 p hp=>ih k k2 k1 (by omega) p hp) i (by omega)
   by_cases hv0:vars > 0
   · simp only [evz,Nat.reduceLT,hv0]
     have rest:∀ q,p≤q→q≤p+1→TermS code l p m vars ((LIM F.q2u [.rref [slc code,.int .i64 q] 0,.int .i64 4]).bind fun r=>(oCons r.2).bind fun p2=>(oNil p2.2).bind fun _=>(oAgg p2.1).bind fun c3=>(oCons c3).bind fun p4=>(oSl 1 p4.1).bind fun c5=>(oCons p4.2).bind fun p6=>(oInt .i64 p6.1).bind fun n7=>(oNil p6.2).bind fun _=>(oBool r.1).bind fun b8 =>
      bif b8 then ((LIM F.q16 [.rref [slc code,.int .i64 n7] 0,.int .i64 vars]).bind fun r=>(oCons r.2).bind fun p2=>(oNil p2.2).bind fun _=>(oAgg p2.1).bind fun c3=>(oCons c3).bind fun p4=>(oSl 1 p4.1).bind fun c5=>(oCons p4.2).bind fun p6=>(oInt .i64 p6.1).bind fun n7=>(oNil p6.2).bind fun _=>(oInt .i64 r.1).bind fun n8=>some (.sl 1 [.int .i64 (IntKind.wrap .i64 ((-1:Int) - n8))],[.agg [slc code,.int .i64 n7]]))
      else ((LIM F.q16 [.rref [slc code,.int .i64 n7] 0,.int .i64 (l.length:Int)]).bind fun r=>(oCons r.2).bind fun p2=>(oNil p2.2).bind fun _=>(oAgg p2.1).bind fun c3=>(oCons c3).bind fun p4=>(oSl 1 p4.1).bind fun c5=>(oCons p4.2).bind fun p6=>(oInt .i64 p6.1).bind fun n7=>(oNil p6.2).bind fun _=>(oInt .i64 r.1).bind fun n8=>q0a.at0 10 10 (q0a.st0 (cells l) m vars l.length n8 0 (cells code) n7))):=fun q q1 q2=>by
      refine q8c hc (by omega) fun b => ?_
      simp only [evz,Nat.reduceLT]
      cases b with
      | true=>exact l3_var hc ok p (q+1) m vars hm1 (by omega) (by omega)
      | false=>exact node (q+1) (by omega) (by omega)
     by_cases hm3:(m:Int) < 2
     · simp only [evz,Nat.reduceLT,hm3]
       refine q8c hc (by omega) fun b => ?_
       simp only [evz,Nat.reduceLT]
       cases b with
       | true=>exact l3_var hc ok p (p+1) m vars hm1 (by omega) (by omega)
       | false=>exact rest (p+1) (by omega) (by omega)
     · simp only [evz,Nat.reduceLT,hm3]
       exact rest p (by omega) (by omega)
   · simp only [evz,Nat.reduceLT,hv0]
     exact node p (by omega) (by omega)
theorem q0a (p most vars:Int) (hm:1≤most∧most≤1000) (hv:0≤vars∧vars≤12) (hp:0≤p∧p≤1099511000000) :
 Drawn code p 3000 (fun x=>∃ t,x=slc t∧Grown l most.toNat vars t) (LIM F.q0a [.rref [slc code,.int .i64 p] 0,.rref [slc l] 0,.int .i64 most,.int .i64 vars]):=by
 obtain ⟨t,p',e,h1,h2,g⟩:=spec_l3DrawS hc ok vars hv most.toNat (by omega) (by omega) p (by omega)
 rw [show ((most.toNat:Nat):Int)=most by omega] at e
 have:=g.le
 exact ⟨_,p',e,h1,by omega,t,rfl,g⟩
end
end Ev.Ty
end
section
namespace Ev.Ty
theorem pigeon:∀ (k:Nat) (o:List Int),o.Nodup→(∀ n∈o,0≤n∧n < k)→o.length≤k
 | 0,o,_,h=>by
   cases o with
   | nil=>simp
   | cons x o=>have:=h x (by simp); omega
 | k+1,o,hn,h=>by
   by_cases hk:(k:Int)∈o
   · have h1:=List.length_erase_of_mem hk
     have:=pigeon k (o.erase (k:Int)) (hn.erase _) fun n hm=>by
      have hm':=(hn.mem_erase_iff).1 hm
      have:=h n hm'.2
      omega
     omega
   · have:=pigeon k o hn fun n hm=>by
      have:=h n hm
      have:n≠(k:Int):=fun e=>hk (e ▸ hm)
      omega
     omega
end Ev.Ty
end
section
namespace Ev.Ty
open Go Ev
open Enc (enc)
open Sm (sm)
set_option linter.unusedSimpArgs false
set_option linter.unusedVariables false
def orderF (l:List Symbol) (o:List Int):Int:=if o.length≠l.length then 2 else if (o.any fun n => !inR n 0 (l.length - 1))=true then 3 else if twice o=true then 6 else 0
theorem q5e {l:List Symbol} (hs:l.length≤4294967296) (n:Int):Call F.q5e [.agg [slc l],.int .i64 n] (.bool (inR n 0 (l.length - 1))):=by
 refine q0q rfl 0 ((q5e.ev _ _ _).trans ?_)
 simp only [evz,Nat.reduceLT,q2j (x:=(l.length:Int) - 1) (by omega),(q2g _ _ _).eq]
theorem q5h {l:List Symbol} (hs:l.length≤4294967296) (n:Int):Call F.q5h [.rref [slc l] 0,.int .i64 n] (.bool (inR n 0 (l.length - 1))):=by
 refine q0q rfl 0 ((q5h.ev _ _ _).trans ?_)
 simp only [evz,Nat.reduceLT,q2j (x:=(l.length:Int) - 1) (by omega),(q14 _ _ _).eq]
theorem q89 {l:List Symbol} (h:q2f ⟨l⟩=0):SigOk ⟨l⟩:=(q5t _).1 h
end Ev.Ty
end
section
namespace Ev.Ty
open Go Ev
open Enc (enc)
open Sm (sm)
set_option linter.unusedSimpArgs false
set_option linter.unusedVariables false
end Ev.Ty
end
section
namespace Ev.Ty
open Go Ev
open Enc (enc)
open Sm (sm)
set_option linter.unusedSimpArgs false
set_option linter.unusedVariables false
def rise (n:Nat):List Int:=(List.range n).map fun (i:Nat)=>(i:Int)
theorem rise_length (n:Nat):(rise n).length=n:=by simp [rise]
end Ev.Ty
end
section
namespace Ev.Ty
open Go Ev
open Enc (enc)
open Sm (sm)
set_option linter.unusedSimpArgs false
set_option linter.unusedVariables false
set_option maxHeartbeats 1000000
def ba (l:List UInt8):ByteArray:=ByteArray.mk l.toArray
def sigA:List Symbol:=[⟨ba [101],0⟩,⟨ba [105],1⟩,⟨ba [109],2⟩,⟨ba [97],0⟩]
def sigB:List Symbol:=[⟨ba [97],0⟩,⟨ba [115,117,99],1⟩,⟨ba [97,100,100],2⟩,⟨ba [98],0⟩]
def sigC:List Symbol:=[⟨ba [97],0⟩,⟨ba [102],1⟩,⟨ba [103],1⟩]
def sigD:List Symbol:=[⟨ba [97],0⟩,⟨ba [98],0⟩,⟨ba [101],0⟩,⟨ba [109],2⟩,⟨ba [105],1⟩,⟨ba [115,117,99],1⟩]
def sigE:List Symbol:=[⟨ba [97],0⟩]
theorem sigA_ok:SigOk ⟨sigA⟩:=q89 (by decide)
theorem sigB_ok:SigOk ⟨sigB⟩:=q89 (by decide)
theorem sigC_ok:SigOk ⟨sigC⟩:=q89 (by decide)
theorem sigD_ok:SigOk ⟨sigD⟩:=q89 (by decide)
theorem sigE_ok:SigOk ⟨sigE⟩:=q89 (by decide)
theorem name_small {b:ByteArray} (h:nameOk b=true):b.size≤3:=by
 unfold nameOk at h
 rw [Bool.and_eq_true,decide_eq_true_iff] at h
 exact h.1.2
theorem SigOk.small {l:List Symbol} (ok:SigOk ⟨l⟩):sm 7 (Signature.mk l):=⟨Nat.le_trans ok.le (by omega),fun x hx=>Nat.le_trans (name_small (ok.name x hx)) (by omega)⟩
def Places (l:List Symbol) (o:List Int):Prop:=o.Perm (rise l.length)
theorem Places.order {l:List Symbol} {o:List Int} (h:Places l o):orderF l o=0:=by
 have hl:o.length=l.length:=by have:=h.length_eq; rwa [rise_length] at this
 have hm:∀ n∈o,0≤n∧n < l.length:=fun n hn=>by
  have:=(h.mem_iff).1 hn
  unfold rise at this
  obtain ⟨k,hk,rfl⟩:=List.mem_map.1 this
  have:=List.mem_range.1 hk
  omega
 have hd:o.Nodup:=by
  refine (h.nodup_iff).2 ?_
  unfold rise
  rw [List.Nodup,List.pairwise_map]
  exact List.nodup_range.imp fun {a b} hab e=>hab (Int.ofNat_inj.1 e)
 unfold orderF
 rw [if_neg (by omega),if_neg,if_neg]
 · unfold twice; simpa using hd
 · rw [Bool.not_eq_true,List.any_eq_false]
   intro n hn
   obtain ⟨a,b⟩:=hm n hn
   unfold inR
   simp; omega
section
variable {code:List UInt8} (hc:code.length≤2097152)
include hc
theorem q6x (p:Int) (hp:0≤p∧p≤1099511000000):Drawn code p 1 (fun x=>∃ l:List Symbol,x = .agg [slc l]∧SigOk ⟨l⟩) (LIM F.q6x [.rref [slc code,.int .i64 p] 0]):=by
 refine q7j rfl 0 ?_
 rw [show callK prog A H LIM 0 F.q6x [.rref [slc code,.int .i64 p] 0]=_ from q6x.ev _ _ _]
 refine q6h hc (by omega) fun v h1 h2 => ?_
 simp only [evz,Nat.reduceLT]
 have leaf:∀ l:List Symbol,SigOk ⟨l⟩→Drawn code p 1 (fun x=>∃ l:List Symbol,x = .agg [slc l]∧SigOk ⟨l⟩) (some (.agg [slc l],[.agg [slc code,.int .i64 (p+1)]])):=fun l hl=>q4g (by omega) ⟨l,rfl,hl⟩
 repeat' split
 all_goals first | exact leaf sigA sigA_ok | exact leaf sigB sigB_ok | exact leaf sigC sigC_ok | exact leaf sigD sigD_ok | exact leaf sigE sigE_ok
theorem q0t (p most vars:Int) (l:List Symbol) (hl:l.length≤1000) (hm:1≤most∧most≤1000) (hv:0≤vars∧vars≤12) (hp:0≤p∧p≤1099510000000) :
 Drawn code p 3200 (fun x=>∃ t:List Int,x=slc t∧t.length≤1001) (LIM F.q0t [.rref [slc code,.int .i64 p] 0,.rref [slc l] 0,.int .i64 most,.int .i64 vars]):=by
 have leaf:∀ (t:List Int) (p2:Int),p≤p2∧p2≤p+3200→t.length≤1001→Drawn code p 3200 (fun x=>∃ t:List Int,x=slc t∧t.length≤1001) (some (slc t,[.agg [slc code,.int .i64 p2]])):=fun t p2 h hl=>q4g h ⟨t,rfl,hl⟩
 refine q7j rfl 30 ?_
 rw [show callK prog A H LIM 30 F.q0t [.rref [slc code,.int .i64 p] 0,.rref [slc l] 0,.int .i64 most,.int .i64 vars]=_ from q0t.ev _ _ _ _ _ _]
 simp only [evz,Nat.reduceLT]
 split
 · exact leaf [0] p (by omega) (by simp)
 simp only [(q00 l (by omega)).eq,evz,Nat.reduceLT]
 split
 case isFalse=>exact leaf [0] p (by omega) (by simp)
 rename_i hs
 have ok:=q89 hs
 refine q65 (q0a hc ok p most vars hm hv (by omega)) ?_
 rintro _ p1 a1 b1 ⟨t,rfl,g⟩
 have tl:=g.le
 have tp:=g.pos
 simp only [evz,Nat.reduceLT]
 refine q8c hc (by omega) fun b => ?_
 simp only [evz,Nat.reduceLT]
 cases b with
 | false=>simp only [evz,Nat.reduceLT,Bool.not_false]; exact leaf t _ (by omega) (by omega)
 | true =>
   simp only [evz,Nat.reduceLT,Bool.not_true]
   refine q6h hc (by omega) fun v h1 h2 => ?_
   simp only [evz,Nat.reduceLT]
   split
   · rw [q2j (by omega),show (t.length:Int) - 1=((t.length - 1:Nat):Int) by omega]
     have z1:(0:Int)≤((t.length - 1:Nat):Int):=by omega
     have z2:((t.length - 1:Nat):Int)≤(t.length:Int):=by omega
     simp only [evz,Nat.reduceLT,z1,z2,Bool.and_self]
     rw [q7b t 1 _ rfl]
     exact leaf _ _ (by omega) (by rw [List.length_take]; omega)
   split
   · rw [q1m (q3i (by rw [q0j]; simp only [q38]; omega)),q2d]
     exact leaf _ _ (by omega) (by simp; omega)
   split
   · refine q6h hc (by omega) fun x k1 k2 => ?_
     obtain ⟨i,rfl⟩:∃ i:Nat,x=i:=⟨x.toNat,by omega⟩
     have hi:i < t.length:=by have:=k2 (by omega); omega
     simp only [evz,Nat.reduceLT]
     refine pick_s hc [(l.length:Int),-13,-12] rfl (by simp) (by omega) fun y hy => ?_
     have z:i*1+1≤t.length*1:=by omega
     simp only [evz,Nat.reduceLT,hi,cells_le,q38,z,set_Int hi]
     exact leaf _ _ (by omega) (by rw [List.length_set]; omega)
   refine q75 (σ:=Nat × Int × List Int) (S:=fun m s=>q0t.at1 30 m (q0t.st1 (s.1:Nat) (cells code) s.2.1 (cells s.2.2))) (fun s=>s.1≤25∧s.2.2.length=s.1∧p≤s.2.1∧s.2.1=p1+1+1+2*(s.1:Int)) (fun s=>25 - s.1) (fun m s hs => ?_) _ (0,p1+1+1,[]) ⟨by simp,rfl,by simp only; omega,by simp⟩ (by simp)
   obtain ⟨k,q,o⟩:=s
   obtain ⟨q1,q2,q3,q4⟩:=hs
   simp only at q1 q2 q3 q4 ⊢
   obtain ⟨x,hx,e⟩:=q32 hc q [24,25] (ts:=[.int .i64 24,.int .i64 25]) rfl (by simp) (by omega)
   have hx':x≤25:=by simp only [List.mem_cons,List.not_mem_nil,or_false] at hx; omega
   by_cases hk:(k:Int) < x
   · right
     obtain ⟨y,hy,e'⟩:=q32 hc (q+1) [1,2,0] (ts:=[.int .i64 1,.int .i64 2,.int .i64 0]) rfl (by simp) (by omega)
     refine ⟨(k+1,q+1+1,o++[y]),?_,⟨by simp only; omega,by simp [q2],by simp only; omega,by simp only; omega⟩,by simp only; omega⟩
     simp only [q0t.next1,q0t.round1,evz,Nat.reduceLT,e,hk,e']
     rw [q1m (q3i (by rw [q0j]; simp only [q38]; omega)),q0n (by omega),q2d]
   · left
     simp only [q0t.next1,q0t.round1,evz,Nat.reduceLT,e,hk]
     exact leaf o _ (by omega) (by omega)
end
end Ev.Ty
end
section
namespace Ev.Ty
open Go Ev
open Tm
set_option linter.unusedSimpArgs false
set_option linter.unusedVariables false
namespace Tm
inductive Part:Tm→Tm→Prop
 | arg {p t}:p∈t.args→Part p t
 | deep {p q t}:q∈t.args→Part p q→Part p t
end Tm
namespace G
variable {r:Int→Int}
theorem above {t p:Tm} (h:Tm.Part p t):G r t p:=by
 induction h with
 | arg h=>exact .eq h
 | deep h _ ih=>exact .sub h ih
end G
end Ev.Ty
end
section
namespace Ev.Ty
open Go Ev
open Tm
set_option linter.unusedSimpArgs false
set_option linter.unusedVariables false
section
variable {l:List Symbol} (ok:SigOk ⟨l⟩) {o:List Int} (ho:∀ n:Int,0≤n→n < l.length→n∈o)
include ok
theorem TermOk.atZero {t:List Int} (h:TermOk l t):∃ x,At l t 0 x∧t=x.flat:=by
 obtain ⟨x,hx,e⟩:=h.tree ok
 exact ⟨x,⟨hx,[],by simpa using e⟩,e⟩
include ho
end
end Ev.Ty
end
section
namespace Ev.Ty
open Go Ev
open Enc (enc)
open Sm (sm)
set_option linter.unusedSimpArgs false
set_option linter.unusedVariables false
set_option maxHeartbeats 1000000
theorem q1k (l:List Symbol) (hl:l.length≤1000) (s:ByteArray):∃ n:Int,Call F.q1k [.rref [slc l] 0,.str s] (.int .i64 n):=by
 suffices h:∃ r,callK prog A H LIM (l.length+1) F.q1k [.rref [slc l] 0,.str s]=r∧∃ n:Int,r=some (.int .i64 n,[]) by
  obtain ⟨_,e,n,rfl⟩:=h
  exact ⟨n,q0q rfl _ e⟩
 refine ⟨_,q1k.ev _ _ _,?_⟩
 refine q75 (Q:=fun r=>∃ n:Int,r=some (.int .i64 n,[])) (σ:=Nat) (S:=fun m k=>q1k.at0 (l.length+1) m (q1k.st0 (cells l) s (k:Nat))) (fun k=>k≤l.length) (fun k=>l.length - k) (fun m k hk => ?_) _ 0 (by omega) (by omega)
 by_cases h:k < l.length
 · have g0:=get0 (l:=l) (k:=2) (i:=k) rfl
   have ek:l[k]?=some l[k]:=List.getElem?_eq_getElem h
   by_cases e:l[k].name=s
   · left
     exact ⟨(k:Int),by simp only [q1k.next0,q1k.round0,evz,Nat.reduceLT,h,g0,ek,e,beq_self_eq_true,q30]⟩
   · right
     refine ⟨k+1,?_,by omega,by omega⟩
     simp only [q1k.next0,q1k.round0,evz,Nat.reduceLT,h,g0,ek,e,q30]
     rw [q0n (by omega)]
 · left
   exact ⟨-1,by simp only [q1k.next0,q1k.round0,evz,Nat.reduceLT,h]⟩
def CutQ (s:ByteArray) (r:R):Prop:=∃ xs:List ByteArray,r=some (.sl 1 (xs.map .str),[])∧xs.length≤s.size+1∧∀ x∈xs,x.size≤s.size
theorem q1v (s:ByteArray) (hs:s.size≤1000) (c:Int):∃ xs:List ByteArray,Call F.q1v [.str s,.int .u8 c] (.sl 1 (xs.map .str))∧xs.length≤s.size+1∧∀ x∈xs,x.size≤s.size:=by
 suffices h:∃ r,callK prog A H LIM (s.size+2) F.q1v [.str s,.int .u8 c]=r∧CutQ s r by
  obtain ⟨_,e,n,rfl,h⟩:=h
  exact ⟨n,q0q rfl _ e,h⟩
 refine ⟨_,q1v.ev _ _ _,?_⟩
 have z:([]:List T)=([]:List ByteArray).map .str:=rfl
 rw [z]
 refine q75 (Q:=CutQ s) (σ:=Nat × Nat × List ByteArray) (S:=fun m q=>q1v.at0 (s.size+2) m (q1v.st0 s c (q.1:Nat) (q.2.1:Nat) (q.2.2.map .str))) (fun q=>q.1≤q.2.1∧q.2.1≤s.size+1∧q.2.2.length≤q.2.1∧∀ x∈q.2.2,x.size≤s.size) (fun q=>s.size+1 - q.2.1) (fun m q hq => ?_) _ (0,0,[]) ⟨by simp,by simp,by simp,by simp⟩ (by simp only; omega)
 obtain ⟨a,k,xs⟩:=q
 obtain ⟨h1,h2,h3,h4⟩:=hq
 simp only at h1 h2 h3 h4 ⊢
 by_cases hk:k≤s.size
 case neg =>
  left
  have hk':¬ (k:Int)≤(s.size:Int):=by omega
  exact ⟨xs,by simp only [q1v.next0,q1v.round0,evz,Nat.reduceLT,hk'],by omega,h4⟩
 right
 have hk':(k:Int)≤(s.size:Int):=by omega
 have ha':(0:Int)≤(a:Int):=by omega
 have hak:(a:Int)≤(k:Int):=by omega
 have put:∀ x∈xs++[s.extract a k],x.size≤s.size:=fun x hx=>by
  rcases List.mem_append.1 hx with h | h
  · exact h4 x h
  · rw [List.mem_singleton.1 h,ByteArray.size_extract]; omega
 have cell:(xs.map T.str)++[.str (s.extract a k)]=(xs++[s.extract a k]).map .str:=by rw [List.map_append]; rfl
 have blen:Nat.ble (((xs.map T.str).length+1)*16) (140737488355328*1)=true:=q3i (by rw [List.length_map]; omega)
 by_cases e:k=s.size
 · refine ⟨(k+1,k+1,xs++[s.extract a k]),?_,⟨by simp only; omega,by simp only; omega,by simp; omega,put⟩,by simp only; omega⟩
   have e':((k:Nat):Int)=(s.size:Int):=by omega
   simp only [q1v.next0,q1v.round0,evz,Nat.reduceLT,hk',e',beq_self_eq_true,ha',hak,Int.le_refl,decide_true,Bool.and_self,← cell]
   rw [← e] at *
   simp only [evz,Nat.reduceLT,hak,decide_true,Bool.and_self,blen]
   rw [q0n (by omega)]
 · have e':¬ ((k:Nat):Int)=(s.size:Int):=by omega
   have hlt:k < s.size:=by omega
   by_cases eb:((s.data.getD k 0).toNat:Int)=c
   · refine ⟨(k+1,k+1,xs++[s.extract a k]),?_,⟨by simp only; omega,by simp only; omega,by simp; omega,put⟩,by simp only; omega⟩
     simp only [q1v.next0,q1v.round0,evz,Nat.reduceLT,hk',e',hlt,eb,ha',hak,decide_true,Bool.and_self,blen,← cell]
     rw [q0n (by omega)]
   · refine ⟨(a,k+1,xs),?_,⟨by simp only; omega,by simp only; omega,by simp only; omega,h4⟩,by simp only; omega⟩
     simp only [q1v.next0,q1v.round0,evz,Nat.reduceLT,hk',e',hlt,eb]
     rw [q0n (by omega)]
def NodesQ (s:ByteArray) (r:R):Prop:=∃ (t:List Int) (b:Bool),r=some (.tup [slc t,.bool b],[])∧t.length≤s.size
theorem nodes_inner {l:List Symbol} (hl:l.length≤1000) (s:ByteArray) (hs:s.size≤1000) (N:Nat) (L:St→R) (a:Nat) (t:List Int) (ht:t.length≤a) (k0:Nat) (ha:a≤k0)
 (K:∀ (e:Nat) (n:Int),k0≤e→e≤s.size→NodesQ s (L (q0f.st0 (cells l) s (e:Nat) (cells (t++[n]))))):∀ (d k f:Nat),k+d=s.size→k0≤k→d < f →
 NodesQ s (q0f.at3 N L f (q0f.st3 (cells l) s (a:Nat) (k:Nat) (cells t))):=by
 intro d
 induction d with
 | zero =>
   intro k f hk h0 hf
   obtain ⟨f,rfl⟩:∃ g,f=g+1:=⟨f - 1,by omega⟩
   have n1:¬ (k:Int) < (s.size:Int):=by omega
   have c1:(0:Int)≤(a:Int):=by omega
   have c2:(a:Int)≤(k:Int):=by omega
   have c3:(k:Int)≤(s.size:Int):=by omega
   obtain ⟨n,en⟩:=q1k l hl (s.extract a k)
   have blen:Nat.ble (((cells t).length+1)*8) (140737488355328*1)=true:=q3i (by rw [q0j,q38]; omega)
   simp only [q0f.next3,q0f.round3,n1,c1,c2,c3,decide_true,decide_false,Bool.and_self,cond_true,cond_false,Int.toNat_natCast,en.eq,evz,Nat.reduceLT]
   by_cases hn:n < 0
   · simp only [hn,evz,Nat.reduceLT]
     exact ⟨[],false,rfl,by simp⟩
   · simp only [hn,evz,Nat.reduceLT,blen]
     rw [q2d]
     exact K k n h0 (by omega)
 | succ d ih =>
   intro k f hk h0 hf
   obtain ⟨f,rfl⟩:∃ g,f=g+1:=⟨f - 1,by omega⟩
   have n1:(k:Int) < (s.size:Int):=by omega
   have n2:k < s.size:=by omega
   have c1:(0:Int)≤(a:Int):=by omega
   have c2:(a:Int)≤(k:Int):=by omega
   have c3:(k:Int)≤(s.size:Int):=by omega
   obtain ⟨n,en⟩:=q1k l hl (s.extract a k)
   have blen:Nat.ble (((cells t).length+1)*8) (140737488355328*1)=true:=q3i (by rw [q0j,q38]; omega)
   have stop:NodesQ s (if n < 0 then some (.tup [.sl 1 [],.bool false],[]) else L (q0f.st0 (cells l) s (k:Nat) (cells t++[.int .i64 n]))):=by
    by_cases hn:n < 0
    · rw [if_pos hn]; exact ⟨[],false,rfl,by simp⟩
    · rw [if_neg hn,q2d]
      exact K k n h0 (by omega)
   have ih:=ih (k+1) f (by omega) (by omega) (by omega)
   simp only [q0f.next3,q0f.round3,n1,n2,c1,c2,c3,q62,decide_true,decide_false,Bool.and_self,cond_true,cond_false,Int.toNat_natCast,en.eq,evz,Nat.reduceLT,blen,q0n (by omega:k < 9223372036854775807)]
   split
   · split
     · exact ih
     · exact stop
   · exact stop
theorem q0f {l:List Symbol} (hl:l.length≤1000) (s:ByteArray) (hs:s.size≤1000):∃ (t:List Int) (b:Bool),Call F.q0f [.rref [slc l] 0,.str s] (.tup [slc t,.bool b])∧t.length≤s.size:=by
 suffices h:∃ r,callK prog A H LIM (s.size+1) F.q0f [.rref [slc l] 0,.str s]=r∧NodesQ s r by
  obtain ⟨_,e,t,b,rfl,h⟩:=h
  exact ⟨t,b,q0q rfl _ e,h⟩
 refine ⟨_,q0f.ev _ _ _,?_⟩
 have key:∀ (d k f:Nat) (t:List Int),k+d=s.size→t.length≤k→d < f→NodesQ s (q0f.at0 (s.size+1) f (q0f.st0 (cells l) s (k:Nat) (cells t))):=by
  intro d
  induction d using Nat.strongRecOn with
  | ind d ih =>
    intro k f t hk ht hf
    obtain ⟨f,rfl⟩:∃ g,f=g+1:=⟨f - 1,by omega⟩
    by_cases hk0:k < s.size
    case neg =>
     have n1:¬ (k:Int) < (s.size:Int):=by omega
     simp only [q0f.next0,q0f.round0,evz,Nat.reduceLT,n1]
     exact ⟨t,true,rfl,by omega⟩
    have n1:(k:Int) < (s.size:Int):=by omega
    have next:NodesQ s (q0f.at0 (s.size+1) f (q0f.st0 (cells l) s ((k+1:Nat):Int) (cells t))):=ih (d - 1) (by omega) (k+1) f t (by omega) (by omega) (by omega)
    have put:∀ n:Int,NodesQ s (q0f.at0 (s.size+1) f (q0f.st0 (cells l) s ((k+1:Nat):Int) (cells t++[.int .i64 n]))):=fun n=>by
     rw [q2d]
     exact ih (d - 1) (by omega) (k+1) f _ (by omega) (by simp; omega) (by omega)
    have bad:NodesQ s (some (.tup [.sl 1 [],.bool false],[])):=⟨[],false,rfl,by simp⟩
    have blen:Nat.ble (((cells t).length+1)*8) (140737488355328*1)=true:=q3i (by rw [q0j,q38]; omega)
    have word:((s.data.getD k 0).toNat:Int) ≥ 97→((s.data.getD k 0).toNat:Int)≤122→NodesQ s (q0f.at3 (s.size+1) (q0f.at0 (s.size+1) f) (s.size+1) (q0f.st3 (cells l) s (k:Nat) (k:Nat) (cells t))):=fun w1 w2=>by
     have:=nodes_inner hl s hs (s.size+1) (q0f.at0 (s.size+1) f) k t ht (k+1) (by omega) (fun e n h1 h2=>ih (s.size - e) (by omega) e f _ (by omega) (by simp; omega) (by omega)) (d - 1) (k+1) s.size (by omega) (by omega) (by omega)
     simp only [q0f.next3,q0f.round3,n1,hk0,q62,decide_true,cond_true,Int.toNat_natCast,w1,w2,q0n (by omega:k < 9223372036854775807)]
     exact this
    simp only [q0f.next0,q0f.round0,n1,hk0,q62,decide_true,cond_true,Int.toNat_natCast,evz,Nat.reduceLT,blen,q0n (by omega:k < 9223372036854775807)]
    repeat' split
    all_goals first | with_reducible exact next | with_reducible exact bad | with_reducible exact put _ | (with_reducible apply word <;> assumption)
 exact key s.size 0 (s.size+1) [] (by omega) (by simp) (by omega)
section
variable {l:List Symbol} (ok:SigOk ⟨l⟩)
include ok
theorem node_sym {t:List Int} (ht:TermOk l t) {i:Nat} (hi:i < t.length) (h0:0≤t[i]):∃ k:Nat,t[i]=k∧∃ h:k < l.length,ar l t[i]=l[k].arity.toNat∧0≤l[k].arity∧l[k].arity≤2∧l[k].name.size≤3:=by
 have hn:=ht.node _ (List.getElem_mem hi)
 unfold q5m inR at hn
 simp only [Bool.or_eq_true,Bool.and_eq_true,decide_eq_true_eq] at hn
 have hk:t[i].toNat < l.length:=by omega
 refine ⟨t[i].toNat,by omega,hk,?_,(ok.arity _ (List.getElem_mem hk)).1,(ok.arity _ (List.getElem_mem hk)).2,name_small (ok.name _ (List.getElem_mem hk))⟩
 unfold ar
 rw [if_neg (by omega),List.getElem?_eq_getElem hk]
 rfl
def TextQ (c:Nat) (r:R):Prop:=∃ s:ByteArray,r=some (.str s,[])∧s.size≤c
theorem spec_l4TextAt {t:List Int} (ht:TermOk l t):∀ (x:Tm) (i:Nat),At l t i x→TextQ (6*x.flat.length) (LIM F.q1q [.rref [slc l] 0,slc t,.int .i64 i]):=by
 have lb:(ByteArray.mk #[40]).size=1:=rfl
 have rb:(ByteArray.mk #[41]).size=1:=rfl
 have cm:(ByteArray.mk #[44]).size=1:=rfl
 have hle:=ht.le
 intro x
 induction x with
 | v n =>
   intro i h
   obtain ⟨h1,h2,_,_⟩:=h.facts
   have hn:n < 0:=h.1
   have e:t[i]=n:=by rw [List.getD_eq_getElem?_getD,List.getElem?_eq_getElem h1] at h2; exact h2
   have ei:t[i]?=some n:=by rw [List.getElem?_eq_getElem h1,e]
   have ev:=q1q.ev 0 (cells l) (cells t) i
   simp only [evz,Nat.reduceLT,h1,ei,q28,hn] at ev
   refine ⟨_,lim_of rfl 0 ev,?_⟩
   show ByteArray.size (ByteArray.push ByteArray.empty _)≤6*[n].length
   rw [ByteArray.size_push]; show 0+1≤6*1; decide
 | k n =>
   intro i h
   obtain ⟨h1,h2,_,_⟩:=h.facts
   have hn:0≤n∧ar l n=0:=h.1
   have e:t[i]=n:=by rw [List.getD_eq_getElem?_getD,List.getElem?_eq_getElem h1] at h2; exact h2
   subst e
   obtain ⟨q,eq,hq,q1,q2,q3,q4⟩:=node_sym ok ht h1 hn.1
   have ei:t[i]?=some (q:Int):=by rw [List.getElem?_eq_getElem h1,eq]
   have e0:l[q].arity=0:=by omega
   have hn':¬ (q:Int) < 0:=by omega
   have ek:l[q]?=some l[q]:=List.getElem?_eq_getElem hq
   refine ⟨l[q].name,lim_of rfl 0 ((q1q.ev _ _ _ _).trans ?_),by show _≤6*1; omega⟩
   simp only [evz,Nat.reduceLT,h1,ei,q28,hn',hq,get0 (l:=l) (k:=2) rfl,get1 (l:=l) (k:=2) rfl,ek,q30,e0]
 | u n y ihy =>
   intro i h
   obtain ⟨h1,h2,_,_⟩:=h.facts
   have hn:0≤n∧ar l n=1:=⟨h.1.1,h.1.2.1⟩
   have e:t[i]=n:=by rw [List.getD_eq_getElem?_getD,List.getElem?_eq_getElem h1] at h2; exact h2
   have hy:At l t (i+1) y:=by
    obtain ⟨hx,r,hr⟩:=h
    exact At.next hx.2.2 hr
   obtain ⟨y1,_,y3,_⟩:=hy.facts
   have yl:y.flat.length≤24:=by
    have:=(q44 ht y1).2.1
    omega
   subst e
   obtain ⟨q,eq,hq,q1,q2,q3,q4⟩:=node_sym ok ht h1 hn.1
   have ei:t[i]?=some (q:Int):=by rw [List.getElem?_eq_getElem h1,eq]
   have e0:l[q].arity=1:=by omega
   have hn':¬ (q:Int) < 0:=by omega
   have ek:l[q]?=some l[q]:=List.getElem?_eq_getElem hq
   obtain ⟨s,es,hs⟩:=ihy (i+1) hy
   have b1:l[q].name.size+1≤9223372036854775807:=by omega
   have ee:=(l3End_at ok ht y1).eq
   refine ⟨(l[q].name++ByteArray.mk #[40])++s++ByteArray.mk #[41],lim_of rfl 2 ((q1q.ev _ _ _ _).trans ?_),?_⟩
   · simp only [evz,Nat.reduceLT,h1,ei,q28,hn',hq,get0 (l:=l) (k:=2) rfl,get1 (l:=l) (k:=2) rfl,ek,q30,e0,lb,b1,q0n (by omega:i < 9223372036854775807)]
     have c1:(l[q].name++ByteArray.mk #[40]).size+s.size≤9223372036854775807:=by rw [ByteArray.size_append,lb]; omega
     have c2:((l[q].name++ByteArray.mk #[40])++s).size+1≤9223372036854775807:=by rw [ByteArray.size_append,ByteArray.size_append,lb]; omega
     simp only [q1q.next0,q1q.round0,evz,Nat.reduceLT,es,c1,ee,rb,c2]
     rfl
   · rw [ByteArray.size_append,ByteArray.size_append,ByteArray.size_append,lb,rb]
     show _≤6*(t[i]::y.flat).length
     rw [List.length_cons]; omega
 | b n y z ihy ihz =>
   intro i h
   obtain ⟨h1,h2,_,_⟩:=h.facts
   have hn:0≤n∧ar l n=2:=⟨h.1.1,h.1.2.1⟩
   have e:t[i]=n:=by rw [List.getD_eq_getElem?_getD,List.getElem?_eq_getElem h1] at h2; exact h2
   have hy:At l t (i+1) y:=by
    obtain ⟨hx,r,hr⟩:=h
    exact At.next (n:=n) hx.2.2.1 (r:=z.flat++r) (by rw [hr]; simp [Tm.flat])
   obtain ⟨y1,_,y3,_⟩:=hy.facts
   have hz:At l t (endAt l t (i+1)) z:=by
    obtain ⟨hx,r,hr⟩:=h
    refine ⟨hx.2.2.2,r,?_⟩
    rw [y3,← List.drop_drop,← List.drop_drop,hr]
    simp [Tm.flat]
   obtain ⟨z1,_,z3,_⟩:=hz.facts
   have el:=(q44 ht z1).2.1
   have yl:y.flat.length≤24:=by omega
   have zl:z.flat.length≤24:=by omega
   subst e
   obtain ⟨q,eq,hq,q1,q2,q3,q4⟩:=node_sym ok ht h1 hn.1
   have ei:t[i]?=some (q:Int):=by rw [List.getElem?_eq_getElem h1,eq]
   have e0:l[q].arity=2:=by omega
   have hn':¬ (q:Int) < 0:=by omega
   have ek:l[q]?=some l[q]:=List.getElem?_eq_getElem hq
   obtain ⟨s,es,hs⟩:=ihy (i+1) hy
   obtain ⟨s2,es2,hs2⟩:=ihz _ hz
   have b1:l[q].name.size+1≤9223372036854775807:=by omega
   have ee:=(l3End_at ok ht y1).eq
   have ee2:=(l3End_at ok ht z1).eq
   refine ⟨(((l[q].name++ByteArray.mk #[40])++s)++ByteArray.mk #[44])++s2++ByteArray.mk #[41],lim_of rfl 3 ((q1q.ev _ _ _ _).trans ?_),?_⟩
   · simp only [evz,Nat.reduceLT,h1,ei,q28,hn',hq,get0 (l:=l) (k:=2) rfl,get1 (l:=l) (k:=2) rfl,ek,q30,e0,lb,b1,q0n (by omega:i < 9223372036854775807)]
     have c1:(l[q].name++ByteArray.mk #[40]).size+s.size≤9223372036854775807:=by rw [ByteArray.size_append,lb]; omega
     have c2:((l[q].name++ByteArray.mk #[40])++s).size+1≤9223372036854775807:=by rw [ByteArray.size_append,ByteArray.size_append,lb]; omega
     have c3:(((l[q].name++ByteArray.mk #[40])++s)++ByteArray.mk #[44]).size+s2.size≤9223372036854775807:=by rw [ByteArray.size_append,ByteArray.size_append,ByteArray.size_append,lb,cm]; omega
     have c4:((((l[q].name++ByteArray.mk #[40])++s)++ByteArray.mk #[44])++s2).size+1≤9223372036854775807:=by rw [ByteArray.size_append,ByteArray.size_append,ByteArray.size_append,ByteArray.size_append,lb,cm]; omega
     simp only [q1q.next0,q1q.round0,evz,Nat.reduceLT,es,c1,ee,rb,c2,es2,ee2,cm,c3,c4]
     rfl
   · rw [ByteArray.size_append,ByteArray.size_append,ByteArray.size_append,ByteArray.size_append,ByteArray.size_append,lb,rb,cm]
     show _≤6*(t[i]::(y.flat++z.flat)).length
     rw [List.length_cons,List.length_append]; omega
theorem q5i (s:ByteArray) (hs:s.size≤1000):∃ t:List Int,Call F.q5i [.rref [slc l] 0,.str s] (slc t)∧t.length≤168:=by
 have hle:=ok.le
 simp only at hle
 suffices h:∃ r,callK prog A H LIM 0 F.q5i [.rref [slc l] 0,.str s]=r∧∃ t:List Int,r=some (slc t,[])∧t.length≤168 by
  obtain ⟨_,e,t,rfl,h⟩:=h
  exact ⟨t,q0q rfl _ e,h⟩
 refine ⟨_,q5i.ev _ _ _,?_⟩
 by_cases hb:(s.size:Int) > 168
 · simp only [evz,Nat.reduceLT,hb]; exact ⟨[],rfl,by simp⟩
 obtain ⟨t,b,en,ht⟩:=q0f (l:=l) (by omega) s hs
 simp only [evz,Nat.reduceLT,hb,en.eq,(q0y l ok t (by omega)).eq]
 cases b with
 | false=>exact ⟨[],rfl,by simp⟩
 | true =>
   simp only [evz,Nat.reduceLT,Bool.not_true]
   by_cases h0:q3p l t=0
   · have ok':=(q6w l t).1 h0
     obtain ⟨x,hx,_⟩:=TermOk.atZero ok ok'
     obtain ⟨w,ew,_⟩:=spec_l4TextAt ok ok' x 0 hx
     have ew:LIM F.q1q [.rref [slc l] 0,slc t,.int .i64 0]=some (.str w,[]):=ew
     simp only [h0,evz,Nat.reduceLT,ew,ne_eq,not_true_eq_false]
     split
     · exact ⟨t,rfl,by omega⟩
     · exact ⟨[],rfl,by simp⟩
   · simp only [h0,evz,Nat.reduceLT,ne_eq,not_false_eq_true]
     exact ⟨[],rfl,by simp⟩
theorem q41 (s:ByteArray) (hs:s.size≤1000):∃ (c:Int) (a b:List Int),Call F.q41 [.agg [slc l],.str s] (.agg [.int .i64 c,slc a,slc b])∧(c=0→EqOk l ⟨a,b⟩):=by
 have hle:=ok.le
 simp only at hle
 let Q:R→Prop:=fun r=>∃ (c:Int) (a b:List Int),r=some (.agg [.int .i64 c,slc a,slc b],[])∧(c=0→EqOk l ⟨a,b⟩)
 suffices h:∃ r,callK prog A H LIM 0 F.q41 [.agg [slc l],.str s]=r∧Q r by
  obtain ⟨_,e,c,a,b,rfl,h⟩:=h
  exact ⟨c,a,b,q0q rfl _ e,h⟩
 refine ⟨_,q41.ev _ _ _,?_⟩
 have bad:Q (some (.agg [.int .i64 5,.sl 1 [],.sl 1 []],[])):=⟨5,[],[],rfl,by omega⟩
 obtain ⟨xs,ex,x1,x2⟩:=q1v s hs 61
 have es:=(q00 l (by omega)).eq
 rw [(q5t _).2 ok] at es
 simp only [evz,Nat.reduceLT,es,ex.eq,List.length_map]
 by_cases hb:(s.size:Int) > 337
 · simp only [hb,evz,Nat.reduceLT]; exact bad
 simp only [hb,evz,Nat.reduceLT]
 match xs,x2 with
 | [x,y],x2 =>
   have hx:=x2 x (by simp)
   have hy:=x2 y (by simp)
   obtain ⟨a,ea,ha⟩:=q5i ok x (by omega)
   obtain ⟨b,eb,hb⟩:=q5i ok y (by omega)
   have ef:LIM F.q43 [.rref [slc l] 0,.rref [.sl 1 (cells a),.sl 1 (cells b)] 0]=_:=(q43 l ok a b (by omega) (by omega)).eq
   by_cases h0:q25 l ⟨a,b⟩=0
   · have r:Q (some (.agg [.int .i64 0,.sl 1 (cells a),.sl 1 (cells b)],[])):=⟨0,a,b,rfl,fun _=>eqOk_iff.1 h0⟩
     simpa [ea.eq,eb.eq,ef,h0,inB] using r
   · simpa [ea.eq,eb.eq,ef,h0,inB] using bad
 | [],_=>simpa using bad
 | [x],_=>simpa using bad
 | x::y::z::r,_ =>
   have hne:¬ ((r.length:Int)+1+1+1=2):=by omega
   simpa [hne] using bad
end
end Ev.Ty
end
section
namespace Ev.Ty
open Go Ev
open Enc (enc)
open Sm (sm)
set_option linter.unusedSimpArgs false
set_option linter.unusedVariables false
set_option maxHeartbeats 2000000
set_option maxRecDepth 10000
theorem Grown.eq {l:List Symbol} {m n:Nat} {v w:Int} {a b:List Int} (ha:Grown l m v a) (hb:Grown l n w b) (h1:m≤24) (h2:n≤24) (h3:v≤6) (h4:w≤6):EqOk l ⟨a,b⟩ :=
 ⟨ha.ok h1 (by omega),hb.ok h2 (by omega),fun n hn=>by rcases ha.node n hn with h | h <;> omega,fun n hn=>by rcases hb.node n hn with h | h <;> omega⟩
section
variable {code:List UInt8} (hc:code.length≤2097152)
include hc
theorem q1r {l:List Symbol} (ok:SigOk ⟨l⟩) (p:Int) (hp:0≤p∧p≤1099510000000) :
 Drawn code p 6100 (fun x=>∃ a b:List Int,x = .agg [slc a,slc b]∧EqOk l ⟨a,b⟩) (LIM F.q1r [.rref [slc code,.int .i64 p] 0,.rref [slc l] 0]):=by
 refine q7j rfl 20 ?_
 rw [show callK prog A H LIM 20 F.q1r [.rref [slc code,.int .i64 p] 0,.rref [slc l] 0]=_ from q1r.ev _ _ _ _]
 refine q6h hc (by omega) fun v h1 h2 => ?_
 have h2:=h2 (by omega)
 obtain ⟨v,rfl⟩:∃ n:Nat,v=n:=⟨v.toNat,by omega⟩
 simp only [evz,Nat.reduceLT]
 generalize hX:([.str _,.str _,.str _,.str _,.str _,.str _,.str _,.str _,.str _,.str _,.str _,.str _,.str _,.str _,.str _,.str _,.str _,.str _]:List T)=X
 have hlen:X.length=18:=by rw [← hX]; rfl
 have hX:∃ Y:List ByteArray,X=Y.map .str∧∀ y∈Y,y.size≤1000:=by
  subst hX
  refine ⟨[_,_,_,_,_,_,_,_,_,_,_,_,_,_,_,_,_,_],rfl,?_⟩
  intro y hy
  simp only [List.mem_cons,List.not_mem_nil,or_false] at hy
  rcases hy with rfl | rfl | rfl | rfl | rfl | rfl | rfl | rfl | rfl | rfl | rfl | rfl | rfl | rfl | rfl | rfl | rfl | rfl <;> decide
 obtain ⟨Y,rfl,hY⟩:=hX
 rw [List.length_map] at hlen
 refine q75 (σ:=Nat) (S:=fun m k=>q1r.at0 20 m (q1r.st0 (cells l) 18 (v:Nat) (k:Nat) (cells code) (p+1) (Y.map .str))) (fun k=>k≤18) (fun k=>18 - k) (fun m k hk => ?_) _ 0 (by omega) (by omega)
 by_cases h:k < 18
 · have hi:(v+k) % 18 < Y.length:=by omega
   have w:IntKind.wrap .i64 (((v:Nat):Int)+(k:Nat))=((v+k:Nat):Int):=by rw [q2j (by omega)]; omega
   have w2:Int.tmod ((v+k:Nat):Int) 18=(((v+k) % 18:Nat):Int):=by rw [Int.tmod_eq_emod_of_nonneg (by omega)]; omega
   have hk':((k:Nat):Int) < 18:=by omega
   have ei:Y[(v+k) % 18]?=some Y[(v+k) % 18]:=List.getElem?_eq_getElem hi
   obtain ⟨c,a,b,er,hr⟩:=q41 ok Y[(v+k) % 18] (hY _ (List.getElem_mem hi))
   by_cases h0:c=0
   · left
     subst h0
     simp only [q1r.next0,q1r.round0,evz,Nat.reduceLT,hk',w,w2,q62,hi,List.length_map,List.getElem?_map,ei,Option.map_some,Option.bind_some,Int.toNat_natCast,Nat.mul_one,Nat.div_one,er.eq,show ¬ (18:Int)=0 by decide]
     exact q4g (by omega) ⟨a,b,rfl,hr rfl⟩
   · right
     refine ⟨k+1,?_,by omega,by omega⟩
     simp only [q1r.next0,q1r.round0,evz,Nat.reduceLT,hk',w,w2,q62,hi,List.length_map,List.getElem?_map,ei,Option.map_some,Option.bind_some,Int.toNat_natCast,Nat.mul_one,Nat.div_one,er.eq,h0,show ¬ (18:Int)=0 by decide]
     rw [q0n (by omega)]
 · left
   have hk':¬ ((k:Nat):Int) < 18:=by omega
   simp only [q1r.next0,q1r.round0,evz,Nat.reduceLT,hk']
   refine q65 (q0a hc ok (p+1) 4 2 (by omega) (by omega) (by omega)) ?_
   rintro _ p1 a1 b1 ⟨a,rfl,ha⟩
   simp only [evz,Nat.reduceLT]
   refine q65 (q0a hc ok p1 2 2 (by omega) (by omega) (by omega)) ?_
   rintro _ p2 a2 b2 ⟨b,rfl,hb⟩
   simp only [evz,Nat.reduceLT]
   exact q4g (by omega) ⟨a,b,rfl,ha.eq hb (by decide) (by decide) (by decide) (by decide)⟩
theorem q4n {l:List Symbol} (ok:SigOk ⟨l⟩) (p:Int) (hp:0≤p∧p≤1099500000000) :
 Drawn code p 6200 (fun x=>∃ a b:List Int,x = .agg [slc a,slc b]∧EqOk l ⟨a,b⟩) (LIM F.q4n [.rref [slc code,.int .i64 p] 0,.rref [slc l] 0]):=by
 refine q7j rfl 0 ?_
 rw [show callK prog A H LIM 0 F.q4n [.rref [slc code,.int .i64 p] 0,.rref [slc l] 0]=_ from q4n.ev _ _ _ _]
 refine q8c hc (by omega) fun b => ?_
 simp only [evz,Nat.reduceLT]
 cases b with
 | true =>
   simp only [evz,Nat.reduceLT]
   refine pick_s hc [4,7,9] rfl (by simp) (by omega) fun v hv => ?_
   have hv':4≤v∧v≤9:=by
    simp only [List.mem_cons,List.not_mem_nil,or_false] at hv; omega
   simp only [evz,Nat.reduceLT]
   refine q65 (q0a hc ok _ v 3 (by omega) (by omega) (by omega)) ?_
   rintro _ p1 a1 b1 ⟨a,rfl,ha⟩
   simp only [evz,Nat.reduceLT]
   refine pick_s hc [1,3,5] rfl (by simp) (by omega) fun w hw => ?_
   have hw':1≤w∧w≤5:=by
    simp only [List.mem_cons,List.not_mem_nil,or_false] at hw; omega
   simp only [evz,Nat.reduceLT]
   refine q65 (q0a hc ok _ w 3 (by omega) (by omega) (by omega)) ?_
   rintro _ p2 a2 b2 ⟨b,rfl,hb⟩
   simp only [evz,Nat.reduceLT]
   exact q4g (by omega) ⟨a,b,rfl,ha.eq hb (by omega) (by omega) (by decide) (by decide)⟩
 | false =>
   simp only [evz,Nat.reduceLT]
   refine q65 (q1r hc ok _ (by omega)) ?_
   rintro _ p1 a1 b1 ⟨a,b,rfl,h⟩
   simp only [evz,Nat.reduceLT]
   exact q4g (by omega) ⟨a,b,rfl,h⟩
theorem q3h {l:List Symbol} (hl:l.length≤1000) (p:Int) (hp:0≤p∧p≤1099490000000) :
 Drawn code p 6500 (fun x=>∃ a b:List Int,x = .agg [slc a,slc b]∧a.length≤1001∧b.length≤1001) (LIM F.q3h [.rref [slc code,.int .i64 p] 0,.rref [slc l] 0]):=by
 refine q7j rfl 0 ?_
 rw [show callK prog A H LIM 0 F.q3h [.rref [slc code,.int .i64 p] 0,.rref [slc l] 0]=_ from q3h.ev _ _ _ _]
 simp only [evz,Nat.reduceLT,(q00 l (by omega)).eq]
 by_cases h0:q2f ⟨l⟩=0
 case neg =>
  simp only [h0,evz,Nat.reduceLT,ne_eq,not_false_eq_true]
  exact q4g (by omega) ⟨[0],[0],rfl,by simp,by simp⟩
 have ok:=q89 h0
 simp only [h0,evz,Nat.reduceLT,ne_eq,not_true_eq_false]
 refine q8c hc (by omega) fun b => ?_
 simp only [evz,Nat.reduceLT]
 cases b with
 | true =>
   simp only [evz,Nat.reduceLT]
   refine q65 (q0t hc _ 9 7 l hl (by omega) (by omega) (by omega)) ?_
   rintro _ p1 a1 b1 ⟨a,rfl,ha⟩
   simp only [evz,Nat.reduceLT]
   refine q65 (q0t hc _ 5 12 l hl (by omega) (by omega) (by omega)) ?_
   rintro _ p2 a2 b2 ⟨b,rfl,hb⟩
   simp only [evz,Nat.reduceLT]
   exact q4g (by omega) ⟨a,b,rfl,ha,hb⟩
 | false =>
   simp only [evz,Nat.reduceLT]
   refine q65 (q4n hc ok _ (by omega)) ?_
   rintro _ p1 a1 b1 ⟨a,b,rfl,h⟩
   simp only [evz,Nat.reduceLT]
   have h1:=h.left.le
   have h2:=h.right.le
   simp only at h1 h2
   exact q4g (by omega) ⟨a,b,rfl,by omega,by omega⟩
end
end Ev.Ty
end
section
namespace Ev.Ty
open Go Ev
open Enc (enc)
open Sm (sm)
set_option linter.unusedSimpArgs false
set_option linter.unusedVariables false
set_option maxHeartbeats 2000000
set_option maxRecDepth 10000
structure BindS (vs:List Int) (ts:List (List Int)):Prop where
 vlen:vs.length≤12
 tlen:ts.length≤12
 size:∀ t∈ts,t.length≤1001
section
variable {code:List UInt8} (hc:code.length≤2097152)
include hc
end
end Ev.Ty
end
section
namespace Ev.Ty
open Go Ev
open Enc (enc)
open Sm (sm)
set_option linter.unusedSimpArgs false
set_option linter.unusedVariables false
section
variable (e:Nat→Nat) (f:Nat→Int)
def upStep (s:Int × Int × Int) (k:Nat):Int × Int × Int:=if (e k:Int) > s.2.2 then s else if f k ≥ 0 then ((k:Int),f k,(e k:Int)) else s
def IsBest (lo hi:Nat) (s:Int × Int):Prop :=
 (s=(-1,-1)∧∀ a,lo≤a→a < hi→f a < 0) ∨
  ∃ a,lo≤a∧a < hi∧s=((a:Int),f a)∧f a ≥ 0∧∀ a',lo≤a'→a' < hi→f a' ≥ 0→e a < e a'∨(e a=e a'∧a'≤a)
theorem IsBest.up {k:Nat} {s:Int × Int × Int} (he:∀ a,e a≤24) (h:IsBest e f 0 k (s.1,s.2.1)) (hs:(s.1 = -1∧s.2.2=25)∨∃ a:Nat,s.1=a∧s.2.2=e a) :
 IsBest e f 0 (k+1) ((upStep e f s k).1,(upStep e f s k).2.1)∧(((upStep e f s k).1 = -1∧(upStep e f s k).2.2=25)∨∃ a:Nat,(upStep e f s k).1=a∧(upStep e f s k).2.2=e a):=by
 have hek:=he k
 obtain ⟨p,r,d⟩:=s
 unfold upStep
 simp only at h hs ⊢
 rcases h with ⟨hp,h⟩ | ⟨a,h1,h2,hp,h3,h4⟩
 · simp only [Prod.mk.injEq] at hp
   obtain ⟨rfl,rfl⟩:=hp
   have hd:d=25:=by
    rcases hs with ⟨_,h⟩ | ⟨a,h,_⟩
    · exact h
    · omega
   subst hd
   rw [if_neg (by omega)]
   by_cases hf:f k ≥ 0
   · rw [if_pos hf]
     refine ⟨.inr ⟨k,by omega,by omega,rfl,hf,fun a' q1 q2 q3 => ?_⟩,.inr ⟨k,rfl,rfl⟩⟩
     by_cases hak:a'=k
     · subst hak; exact .inr ⟨rfl,Nat.le_refl _⟩
     · have:=h a' (by omega) (by omega); omega
   · rw [if_neg hf]
     refine ⟨.inl ⟨rfl,fun a' q1 q2 => ?_⟩,.inl ⟨rfl,rfl⟩⟩
     by_cases hak:a'=k
     · subst hak; omega
     · exact h a' (by omega) (by omega)
 · simp only [Prod.mk.injEq] at hp
   obtain ⟨rfl,rfl⟩:=hp
   have hd:d=e a:=by
    rcases hs with ⟨h,_⟩ | ⟨a',h,h'⟩
    · omega
    · have:a=a':=by omega
      rw [this]; exact h'
   subst hd
   by_cases hc:(e k:Int) > e a
   · rw [if_pos hc]
     refine ⟨.inr ⟨a,by omega,by omega,rfl,h3,fun a' q1 q2 q3 => ?_⟩,.inr ⟨a,rfl,rfl⟩⟩
     by_cases hak:a'=k
     · subst hak; exact .inl (by omega)
     · exact h4 a' (by omega) (by omega) q3
   · rw [if_neg hc]
     by_cases hf:f k ≥ 0
     · rw [if_pos hf]
       refine ⟨.inr ⟨k,by omega,by omega,rfl,hf,fun a' q1 q2 q3 => ?_⟩,.inr ⟨k,rfl,rfl⟩⟩
       by_cases hak:a'=k
       · subst hak; exact .inr ⟨rfl,Nat.le_refl _⟩
       · rcases h4 a' (by omega) (by omega) q3 with q | ⟨q,_⟩
         · exact .inl (by omega)
         · rcases Nat.lt_or_ge (e k) (e a') with q' | q'
           · exact .inl q'
           · exact .inr ⟨by omega,by omega⟩
     · rw [if_neg hf]
       refine ⟨.inr ⟨a,by omega,by omega,rfl,h3,fun a' q1 q2 q3 => ?_⟩,.inr ⟨a,rfl,rfl⟩⟩
       by_cases hak:a'=k
       · subst hak; omega
       · exact h4 a' (by omega) (by omega) q3
end
def fits (l:List Symbol) (rs:List Equation) (t:List Int) (p:Nat):Int:=idx (fun e=>(q6f l e.left t p).isSome) rs
theorem q82 {l:List Symbol} {b:Bnd} {k:Nat} (hb:MB l b k) (hk:k≤24):∀ (q x:List Int) (m:Nat),skip (ar l) m q=some []→skip (ar l) m (q0d b.1 b.2 q++x)=some x
 | [],x,m,h=>by
   obtain ⟨rfl,_⟩:=skip_nil h
   rw [q37]; rfl
 | n::q,x,m,h=>by
   cases m with
   | zero=>rw [q37] at h; cases h
   | succ m =>
     rw [skip] at h
     have ih:=q82 hb hk q x _ h
     have e:q0d b.1 b.2 (n::q)=(q4w b.1 b.2 (-1 - n)).getD [n]++q0d b.1 b.2 q:=by simp [q0d]
     rw [e,List.append_assoc]
     cases ho:q4w b.1 b.2 (-1 - n) with
     | none =>
       show skip (ar l) (m+1) (n::(q0d b.1 b.2 q++x))=_
       rw [skip]; exact ih
     | some o =>
       have hn:n < 0:=by
        rcases Int.lt_or_le n 0 with h | h
        · exact h
        · rw [bindOf_neg (hb.ok hk) (by omega)] at ho; cases ho
       rw [ar_neg l hn,Nat.add_zero] at ih
       have ht:=hb.tm o (q5w ho)
       show skip (ar l) (m+1) (o++(q0d b.1 b.2 q++x))=_
       rw [show m+1=1+m by omega,q8a,q91 ht.skip]
       exact ih
theorem skip_repl {a:Int→Nat} {y y' z:List Int} (hy:skip a 1 (y++z)=some z) (hy':skip a 1 (y'++z)=some z):∀ (x:List Int) (k:Nat),skip a k (x++(y++z))=some []→skip a k (x++(y'++z))=some []
 | [],0,h=>by
   rw [q37] at h
   rw [List.nil_append] at h
   rw [Option.some.inj h] at hy
   cases hy
 | [],k+1,h=>by
   rw [List.nil_append,show k+1=1+k by omega,q8a] at h ⊢
   rw [hy] at h
   rw [hy']
   exact h
 | n::x,0,h=>by rw [q37] at h; cases h
 | n::x,k+1,h=>by
   rw [List.cons_append,skip] at h ⊢
   exact skip_repl hy hy' x _ h
theorem applied_node {l:List Symbol} {b:Bnd} {k:Nat} (hb:MB l b k) {q:List Int} (hq:∀ n∈q,q5m l n=true):∀ n∈q0d b.1 b.2 q,q5m l n=true:=fun n hn=>by
 unfold q0d at hn
 obtain ⟨m,hm,hn⟩:=List.mem_flatMap.1 hn
 cases ho:q4w b.1 b.2 (-1 - m) with
 | none=>rw [ho] at hn; rw [List.mem_singleton.1 hn]; exact hq m hm
 | some o=>rw [ho] at hn; exact (hb.tm o (q5w ho)).node n hn
theorem repl_ok {l:List Symbol} {t q:List Int} (ht:TermOk l t) (hq:TermOk l q) {p:Nat} (hp:p < t.length) {b:Bnd} {k:Nat} (hb:MB l b k) (hk:k≤24) (h:(q48 l t p (q0d b.1 b.2 q)).length≤24) :
 TermOk l (q48 l t p (q0d b.1 b.2 q)):=by
 obtain ⟨h1,h2,h3⟩:=q56 ht hp
 have hs:skip (ar l) 1 (q48 l t p (q0d b.1 b.2 q))=some []:=by
  unfold q48
  rw [List.append_assoc]
  refine skip_repl (y:=subAt l t p) (by rw [← h1]; exact h3) (q82 hb hk q _ 1 hq.skip) (t.take p) 1 ?_
  rw [← h1,List.take_append_drop]
  exact ht.skip
 refine ⟨?_,h,fun n hn => ?_,hs⟩
 · rcases Nat.eq_zero_or_pos (q48 l t p (q0d b.1 b.2 q)).length with h | h
   · rw [List.eq_nil_of_length_eq_zero h] at hs; cases hs
   · exact h
 · unfold q48 at hn
   rcases List.mem_append.1 hn with hn | hn
   · rcases List.mem_append.1 hn with hn | hn
     · exact ht.node n (List.mem_of_mem_take hn)
     · exact applied_node hb hq.node n hn
   · exact ht.node n (List.mem_of_mem_drop hn)
def stepAt (l:List Symbol) (e:Equation) (t:List Int) (p:Nat):TermResult:=match q6f l e.left t p with
 | none=>⟨4,[]⟩
 | some b=>if 24 < (q48 l t p (q0d b.1 b.2 e.right)).length then ⟨2,[]⟩ else ⟨0,q48 l t p (q0d b.1 b.2 e.right)⟩
theorem stepAt_ok {l:List Symbol} {e:Equation} {t:List Int} (he:EqOk l e) (ht:TermOk l t) {p:Nat} (hp:p < t.length) (h:(stepAt l e t p).code=0):TermOk l (stepAt l e t p).term:=by
 unfold stepAt at h ⊢
 cases hm:q6f l e.left t p with
 | none=>rw [hm] at h; cases h
 | some b =>
   rw [hm] at h
   simp only at h ⊢
   split at h
   · cases h
   · rename_i h24
     rw [if_neg h24]
     have hb:=matchAt_ok he.left ht hp hm
     exact repl_ok ht he.right hp hb he.left.le (by omega)
def q4x (s:Signature) (rs:List Equation) (t:List Int):Int:=if q3q s rs≠0 then q3q s rs else q3p s.symbols t
def q3r (s:Signature) (rs:List Equation) (r p:Int) (t:List Int):TermResult :=
 if q4x s rs t≠0 then ⟨q4x s rs t,[]⟩ else if inR r 0 (rs.length - 1)=false∨inR p 0 (t.length - 1)=false then ⟨3,[]⟩ else stepAt s.symbols (rs.getD r.toNat ⟨[],[]⟩) t p.toNat
end Ev.Ty
end
section
namespace Ev.Ty
open Go Ev
open Enc (enc)
open Sm (sm)
set_option linter.unusedSimpArgs false
set_option linter.unusedVariables false
theorem ins_take {α:Type} {l:List α} {i k:Nat} (x:α) (hi:i≤k) (hk:k < l.length):(ins l i x).take (k+2)=(ins l i x).take (k+1)++[l[k]]:=by
 have hlen:=q5z l i x (by omega)
 have h:k+1 < (ins l i x).length:=by omega
 have e:(ins l i x)[k+1]=l[k]:=by
  have:=ins_get l x i (by omega) (k+1)
  rw [if_neg (by omega),if_neg (by omega),Nat.add_sub_cancel,List.getElem?_eq_getElem hk] at this
  have h2:(ins l i x)[k+1]?=some l[k]:=this
  rw [List.getElem?_eq_getElem h] at h2
  exact Option.some.inj h2
 rw [← e]
 exact (List.take_append_getElem h).symm
theorem ins_take_eq {α:Type} {l:List α} {i:Nat} (x:α) (hi:i≤l.length):(ins l i x).take (i+1)=l.take i++[x]:=by
 unfold ins
 rw [List.take_append,List.take_of_length_le (by simp; omega)]
 simp [Nat.min_eq_left hi]
theorem ins_end {α:Type} (l:List α) (x:α):ins l l.length x=l++[x]:=by simp [ins]
theorem q4q (vs:List Int) (i:Nat) (v:Int) (hi:i≤vs.length) (hl:vs.length < 4294967296):Call F.q4q [slc vs,.int .i64 i,.sl 1 [.int .i64 v]] (slc (ins vs i v)):=by
 refine lim_ext (e:=insE 8) rfl (Ev.of fun m => ?_)
 have hc:(cells vs).length=vs.length:=by rw [q0j,q38,Nat.mul_one]
 show (bif _ then _ else _)=_
 rw [q1m (by simp [hc,hl,Nat.ble_eq]; omega)]
 have e1:=q7b vs 1 i rfl
 have e2:=cells_drop vs 1 i rfl
 rw [Nat.mul_one] at e1 e2
 rw [Int.toNat_natCast,e1,e2]
 show some (T.sl 1 (cells (vs.take i)++T.int .i64 v::cells (vs.drop i)),[])=_
 unfold ins slc
 rw [q2m,q6y]
 rfl
theorem q4i (ts:List (List Int)) (i:Nat) (t:List Int) (hi:i≤ts.length) (hl:ts.length < 4294967296):Call F.q4i [slc ts,.int .i64 i,.sl 1 [slc t]] (slc (ins ts i t)):=by
 refine lim_ext (e:=insE 24) rfl (Ev.of fun m => ?_)
 have hc:(cells ts).length=ts.length:=by rw [q0j,show Enc.sz (List Int)=1 from rfl,Nat.mul_one]
 show (bif _ then _ else _)=_
 rw [q1m (by simp [hc,hl,Nat.ble_eq]; omega)]
 have e1:=q7b ts 1 i rfl
 have e2:=cells_drop ts 1 i rfl
 rw [Nat.mul_one] at e1 e2
 rw [Int.toNat_natCast,e1,e2]
 show some (T.sl 1 (cells (ts.take i)++slc t::cells (ts.drop i)),[])=_
 unfold ins
 show _=some (T.sl 1 (cells (ts.take i++t::ts.drop i)),[])
 rw [q2m,q6y]
 rfl
theorem q0o (vs:List Int) (ts:List (List Int)) (v:Int) (t:List Int) (hl:vs.length=ts.length) (hs:vs.length≤1000) (ht:t.length≤4294967296) :
 LIM F.q0o [.rref [slc vs,slc ts] 0,.int .i64 v,slc t]=some (.tup [],[.agg [slc (bput (vs,ts) v t).1,slc (bput (vs,ts) v t).2]]):=by
 have hi:=insAt_le vs v
 refine q83 rfl 1002 ((q0o.ev _ _ _ _ _).trans ?_)
 have loop:∀ n k f,k+n=insAt vs v→n < f→q0o.at0 1002 f (q0o.st0 v (cells t) (k:Nat) (cells vs) (cells ts))=some (.tup [],[.agg [slc (bput (vs,ts) v t).1,slc (bput (vs,ts) v t).2]]):=by
  intro n
  induction n with
  | zero =>
    intro k f hk hf
    obtain ⟨f,rfl⟩:∃ x,f=x+1:=⟨f - 1,by omega⟩
    obtain rfl:k=insAt vs v:=by omega
    have q1:=(q4q vs (insAt vs v) v hi (by omega)).eq
    have q2:=(q4i ts (insAt vs v) t (by omega) (by omega)).eq
    by_cases h:insAt vs v < vs.length
    · have hs:=insAt_stop vs v h
      have hlk:vs[insAt vs v]?=some vs[insAt vs v]:=List.getElem?_eq_getElem h
      simp only [q0o.next0,q0o.round0,evz,Nat.reduceLT,h,hlk,q28,hs,q1,(q23 t ht).eq,q2]
      rfl
    · simp only [q0o.next0,q0o.round0,evz,Nat.reduceLT,h,q1,(q23 t ht).eq,q2]
      rfl
  | succ n ih =>
    intro k f hk hf
    obtain ⟨f,rfl⟩:∃ x,f=x+1:=⟨f - 1,by omega⟩
    have h:k < vs.length:=by omega
    have hlt:=insAt_lt vs v k (by omega) h
    have hlk:vs[k]?=some vs[k]:=List.getElem?_eq_getElem h
    simp only [q0o.next0,q0o.round0,evz,Nat.reduceLT,h,hlk,q28,hlt]
    rw [q0n (by omega)]
    exact ih (k+1) f (by omega) (by omega)
 exact loop (insAt vs v) 0 1002 (by omega) (by omega)
def q7i (vs:List Int) (ts:List (List Int)) (v:Int) (t:List Int) (k:Nat):Bool × List Int × List (List Int) :=
 if k≤insAt vs v then (false,vs.take k,ts.take k) else (true,(ins vs (insAt vs v) v).take (k+1),(ins ts (insAt vs v) t).take (k+1))
theorem q15 (vs:List Int) (ts:List (List Int)) (v:Int) (t:List Int) (hl:vs.length=ts.length) (hs:vs.length≤1000) (ht:t.length≤4096) (hv:v∉vs) (htm:∀ x∈ts,x.length≤4096) :
 Call F.q15 [.rref [slc vs,slc ts] 0,.int .i64 v,slc t] (.agg [slc (bput (vs,ts) v t).1,slc (bput (vs,ts) v t).2]):=by
 have hi:=insAt_le vs v
 refine q0q rfl 1002 ((q15.ev _ _ _ _ _).trans ?_)
 have key:=q8v (n:=vs.length) (f:=1002) (S:=fun m k (s:Bool × List Int × List (List Int))=>q15.at0 1002 m (q15.st0 (cells vs) (cells ts) v (cells t) s.1 (k:Nat) (cells s.2.1) (cells s.2.2)))
  (st:=q7i vs ts v t) (z:=some (.agg [slc (bput (vs,ts) v t).1,slc (bput (vs,ts) v t).2],[])) (fun m k h => ?_) (fun m => ?_) (by omega)
 · have e0:q7i vs ts v t 0=(false,[],[]):=by unfold q7i; rw [if_pos (Nat.zero_le _)]; rfl
   rw [e0] at key
   exact key
 · have h':k < ts.length:=by omega
   have hlk:vs[k]?=some vs[k]:=List.getElem?_eq_getElem h
   have htk:ts[k]?=some ts[k]:=List.getElem?_eq_getElem h'
   have hx:=(q4h ts[k] (by have:=htm _ (List.getElem_mem h'); omega)).eq
   have hx2:=(q4h t (by omega)).eq
   have hne:vs[k]≠v:=fun e=>hv (e ▸ List.getElem_mem h)
   have len1:∀ q,((cells (vs.take q)).length)≤1000:=fun q=>by rw [q0j,q38]; simp; omega
   have len2:∀ q,((cells (ts.take q)).length)≤1000:=fun q=>by rw [q0j,show Enc.sz (List Int)=1 from rfl]; simp; omega
   have len3:∀ q,((cells ((ins vs (insAt vs v) v).take q)).length)≤1001:=fun q=>by rw [q0j,q38,List.length_take,q5z _ _ _ hi]; omega
   have len4:∀ q,((cells ((ins ts (insAt vs v) t).take q)).length)≤1001:=fun q=>by rw [q0j,show Enc.sz (List Int)=1 from rfl,List.length_take,q5z _ _ _ (by omega)]; omega
   have tk1:vs.take (k+1)=vs.take k++[vs[k]]:=(List.take_append_getElem h).symm
   have tk2:ts.take (k+1)=ts.take k++[ts[k]]:=(List.take_append_getElem h').symm
   rcases Nat.lt_trichotomy k (insAt vs v) with c | c | c
   · have hlt:=insAt_lt vs v k c h
     have hgt:¬ vs[k] > v:=by omega
     have e1:q7i vs ts v t k=(false,vs.take k,ts.take k):=if_pos (by omega)
     have e2:q7i vs ts v t (k+1)=(false,vs.take k++[vs[k]],ts.take k++[ts[k]]):=by unfold q7i; rw [if_pos (by omega),tk1,tk2]
     rw [e1,e2]
     simp only [q15.next0,q15.round0,evz,Nat.reduceLT,h,h',hlk,htk,q28,q8s,hgt,hx,q2d,q72]
     rw [q1m (q3i (by have:=len1 k; omega)),q1m (q3i (by have:=len2 k; omega)),q0n (by omega)]
   · have hs:=insAt_stop vs v (by omega)
     have hs:¬ vs[k] < v:=by
      have:vs[insAt vs v]'(by omega)=vs[k]:=by congr 1; omega
      rw [this] at hs; exact hs
     have hgt:vs[k] > v:=by omega
     have e1:q7i vs ts v t k=(false,vs.take k,ts.take k):=if_pos (by omega)
     have e2:q7i vs ts v t (k+1)=(true,(vs.take k++[v])++[vs[k]],(ts.take k++[t])++[ts[k]]):=by
      unfold q7i
      rw [if_neg (by omega),← c,ins_take v (Nat.le_refl _) h,ins_take t (Nat.le_refl _) h',ins_take_eq v (by omega),ins_take_eq t (by omega)]
     rw [e1,e2]
     simp only [q15.next0,q15.round0,evz,Nat.reduceLT,h,h',hlk,htk,q28,q8s,hgt,hx,hx2,q2d,q72]
     have l1:=len1 k
     have l2:=len2 k
     have l3:(cells (vs.take k++[v])).length≤1001:=by rw [q2m,List.length_append,q0j [v]]; simp; omega
     have l4:(cells (ts.take k++[t])).length≤1001:=by rw [q2m,List.length_append,q0j [t]]; simp [show Enc.sz (List Int)=1 from rfl]; omega
     rw [q1m (q3i (by omega)),q1m (q3i (by omega)),q1m (q3i (by omega)),q1m (q3i (by omega)),q0n (by omega)]
   · have e1:q7i vs ts v t k=(true,(ins vs (insAt vs v) v).take (k+1),(ins ts (insAt vs v) t).take (k+1)):=if_neg (by omega)
     have e2:q7i vs ts v t (k+1)=(true,(ins vs (insAt vs v) v).take (k+1)++[vs[k]],(ins ts (insAt vs v) t).take (k+1)++[ts[k]]):=by
      unfold q7i
      rw [if_neg (by omega),ins_take v (by omega) h,ins_take t (by omega) h']
     rw [e1,e2]
     simp only [q15.next0,q15.round0,evz,Nat.reduceLT,h,h',hlk,htk,q28,q8s,hx,q2d,q72]
     rw [q1m (q3i (by have:=len3 (k+1); omega)),q1m (q3i (by have:=len4 (k+1); omega)),q0n (by omega)]
 · have hx2:=(q4h t (by omega)).eq
   by_cases c:insAt vs v=vs.length
   · have e1:q7i vs ts v t vs.length=(false,vs,ts):=by
      unfold q7i
      rw [if_pos (by omega),List.take_length,hl,List.take_length]
     have e2:bput (vs,ts) v t=(vs++[v],ts++[t]):=by
      unfold bput
      rw [c,ins_end]
      simp only [Prod.mk.injEq,true_and]
      rw [hl,ins_end]
     rw [e1,e2]
     simp only [q15.next0,q15.round0,evz,Nat.reduceLT,Nat.lt_irrefl,hx2,q2d,q72]
     rw [q1m (q3i (by rw [q0j,q38]; omega)),q1m (q3i (by rw [q0j,show Enc.sz (List Int)=1 from rfl]; omega))]
   · have e1:q7i vs ts v t vs.length=(true,ins vs (insAt vs v) v,ins ts (insAt vs v) t):=by
      unfold q7i
      rw [if_neg (by omega),List.take_of_length_le (by rw [q5z _ _ _ hi]; omega),List.take_of_length_le (by rw [q5z _ _ _ (by omega)]; omega)]
     rw [e1]
     simp only [q15.next0,q15.round0,evz,Nat.reduceLT,Nat.lt_irrefl]
     rfl
def mT:Option Bnd→T
 | none => .tup [.agg [.sl 1 [],.sl 1 []],.bool false]
 | some b => .tup [.agg [slc b.1,slc b.2],.bool true]
section
variable {l:List Symbol} (ok:SigOk ⟨l⟩)
include ok
theorem q1i {pat u:List Int} (hq:TermOk l pat) (hu:TermOk l u):Call F.q1i [.agg [slc l],slc pat,slc u] (mT (q6f l pat u 0)):=by
 have hul:=hu.le
 have hpl:=hq.le
 refine q0q rfl 25 ((q1i.ev _ _ _ _).trans ?_)
 simp only [q4j,q38]
 have loop:∀ (q:List Int) (b:Bnd) (p k f:Nat),pat.drop k=q→q.length < f→Both l u q p []→MB l b k→k+q.length=pat.length →
  q1i.at0 25 f (q1i.st0 (cells u) (p:Nat) (cells pat) pat.length (k:Nat) (cells l) (cells b.1) (cells b.2)) =
   some (match mgo l u q b p with | none=>T.tup [.agg [.sl 1 [],.sl 1 []],.bool false] | some x => .tup [.agg [slc x.1.1,slc x.1.2],.bool (decide (x.2=u.length))],[]):=by
  intro q
  induction q with
  | nil =>
    intro b p k f hd hf hB hb hk
    obtain ⟨f,rfl⟩:∃ x,f=x+1:=⟨f - 1,by omega⟩
    have h:¬ k < pat.length:=by simp at hk; omega
    simp only [q1i.next0,q1i.round0,evz,Nat.reduceLT,h,mgo,Int.ofNat_inj]
  | cons n q ih =>
    intro b p k f hd hf hB hb hk
    rw [List.length_cons] at hf hk
    obtain ⟨f,rfl⟩:∃ x,f=x+1:=⟨f - 1,by omega⟩
    have h:k < pat.length:=by omega
    have hn:pat[k]=n:=by
     have:=congrArg (fun x=>x[0]?) hd
     simp only [List.getElem?_drop,Nat.add_zero,List.getElem?_cons_zero] at this
     rw [List.getElem?_eq_getElem h] at this
     exact Option.some.inj this
    have hd':pat.drop (k+1)=q:=by rw [← List.drop_drop,hd]; rfl
    have hlk:pat[k]?=some n:=by rw [List.getElem?_eq_getElem h,hn]
    have hp:=hB.lt
    have hpk:u[p]?=some u[p]:=List.getElem?_eq_getElem hp
    have hnode:=q50.1 (hq.node n (hn ▸ List.getElem_mem h))
    have hp':¬ ((p:Int) ≥ (u.length:Int)):=by omega
    have hls:l.length≤6:=ok.le
    obtain ⟨h3,h4,_⟩:=q44 hu hp
    have hsl:=(q56 hu hp).2.1
    rw [mgo,if_neg (by omega)]
    by_cases c:0≤n
    · have c':n ≥ 0:=c
      rw [if_pos c,q73 hp]
      by_cases e:u[p]=n
      · simp only [q1i.next0,q1i.round0,evz,Nat.reduceLT,h,hlk,hp,hpk,hp',q28,c',e]
        rw [q0n (by omega),q0n (by omega)]
        exact ih b (p+1) (k+1) f hd' (by omega) (hB.node (by rw [q73 hp,e])) (hb.up (by omega)) (by omega)
      · simp only [q1i.next0,q1i.round0,evz,Nat.reduceLT,h,hlk,hp,hpk,hp',q28,c',e]
    · have c':¬ n ≥ 0:=c
      rw [if_neg c]
      have hof:=(q47 b.1 b.2 (-1 - n) hb.len (by have:=hb.le; omega)).eq
      have hB':=hB.var hu (by omega)
      have hw:IntKind.wrap .i64 (-1 - n) = -1 - n:=q2j (by omega)
      have hw2:IntKind.wrap .i64 ((p:Int)+((subAt l u p).length:Nat))=((p+(subAt l u p).length:Nat):Int):=by rw [q2j (by omega)]; omega
      have hsub:=(q3e ok hu hp).eq
      have hbl:=hb.le
      cases hbo:q4w b.1 b.2 (-1 - n) with
      | none =>
        rw [hbo] at hof
        have hbind:=q0o b.1 b.2 (-1 - n) (subAt l u p) hb.len (by omega) (by omega)
        simp only [q1i.next0,q1i.round0,evz,Nat.reduceLT,h,hlk,hp',q28,c',hsub,hw,hof,ofT,q3o,hbind,hw2]
        rw [q0n (by omega)]
        exact ih (bput b (-1 - n) (subAt l u p)) _ (k+1) f hd' (by omega) hB' (hb.put (by omega) (q6l hu hp)) (by omega)
      | some o =>
        rw [hbo] at hof
        have ho:=hb.tm o (q5w hbo)
        have hol:=ho.le
        have heq:=(q0h o (subAt l u p) ⟨by omega,fun _ _=>trivial⟩).eq
        show _=some (match (if o=subAt l u p then mgo l u q b (p+(subAt l u p).length) else none) with | none=>_ | some x=>_,[])
        by_cases e:o=subAt l u p
        · rw [if_pos e]
          rw [e] at heq
          simp only [q1i.next0,q1i.round0,evz,Nat.reduceLT,h,hlk,hp',q28,c',hsub,hw,hof,ofT,q3o,heq,e,hw2]
          rw [q0n (by omega)]
          exact ih b _ (k+1) f hd' (by omega) hB' (hb.up (by omega)) (by omega)
        · rw [if_neg e]
          simp only [q1i.next0,q1i.round0,evz,Nat.reduceLT,h,hlk,hp',q28,c',hsub,hw,hof,ofT,q3o,heq,e]
 have hpos:=hu.pos
 have e0:u.drop (endAt l u 0)=[]:=by
  have:=(q56 hu (p:=0) (by omega)).2.2
  rw [List.drop_zero,hu.skip] at this
  exact (Option.some.inj this).symm
 have hB:=Both.start hu hq (p:=0) (by omega)
 rw [e0] at hB
 have hmain:=loop pat ([],[]) 0 0 25 rfl (by omega) hB (MB.nil l) (by omega)
 have hen:=mgo_end hu pat ([],[]) 0 0 hB (by omega) (MB.nil l) (by omega) hq.node
 unfold q6f
 cases hm:mgo l u pat ([],[]) 0 with
 | none=>rw [hm] at hmain; exact hmain
 | some x =>
   rw [hm] at hmain
   obtain ⟨h1,h2,_⟩:=hen x hm
   have hx:x.2=u.length:=by
    have:=congrArg List.length h1
    rw [List.length_drop] at this
    simp at this
    omega
   have hmain:q1i.at0 25 25 (q1i.st0 (cells u) (0:Nat) (cells pat) pat.length (0:Nat) (cells l) (cells ([]:List Int)) (cells ([]:List (List Int))))=some (T.tup [.agg [slc x.1.1,slc x.1.2],.bool (decide (x.2=u.length))],[]):=hmain
   rw [hx,decide_eq_true rfl] at hmain
   exact hmain
theorem q0z {pat u:List Int} (hq:TermOk l pat) (hu:TermOk l u) {p0:Nat} (hp0:p0 < u.length):Call F.q0z [.rref [slc l] 0,slc pat,slc u,.int .i64 p0] (mT (q6f l pat u p0)):=by
 have hul:=hu.le
 have hpl:=hq.le
 refine q0q rfl 25 ((q0z.ev _ _ _ _ _).trans ?_)
 have loop:∀ (q:List Int) (b:Bnd) (p k f:Nat),pat.drop k=q→q.length < f→Both l u q p (u.drop (endAt l u p0))→MB l b k→k+q.length=pat.length →
  q0z.at0 25 f (q0z.st0 (cells l) (cells pat) (cells u) (p:Nat) (k:Nat) (cells b.1) (cells b.2))=some (mT ((mgo l u q b p).map (·.1)),[]):=by
  intro q
  induction q with
  | nil =>
    intro b p k f hd hf hB hb hk
    obtain ⟨f,rfl⟩:∃ x,f=x+1:=⟨f - 1,by omega⟩
    have h:¬ k < pat.length:=by simp at hk; omega
    simp only [q0z.next0,q0z.round0,evz,Nat.reduceLT,h,mgo,Option.map_some,mT]
  | cons n q ih =>
    intro b p k f hd hf hB hb hk
    rw [List.length_cons] at hf hk
    obtain ⟨f,rfl⟩:∃ x,f=x+1:=⟨f - 1,by omega⟩
    have h:k < pat.length:=by omega
    have hn:pat[k]=n:=by
     have:=congrArg (fun x=>x[0]?) hd
     simp only [List.getElem?_drop,Nat.add_zero,List.getElem?_cons_zero] at this
     rw [List.getElem?_eq_getElem h] at this
     exact Option.some.inj this
    have hd':pat.drop (k+1)=q:=by rw [← List.drop_drop,hd]; rfl
    have hlk:pat[k]?=some n:=by rw [List.getElem?_eq_getElem h,hn]
    have hp:=hB.lt
    have hpk:u[p]?=some u[p]:=List.getElem?_eq_getElem hp
    have hnode:=q50.1 (hq.node n (hn ▸ List.getElem_mem h))
    have hp':¬ ((p:Int) ≥ (u.length:Int)):=by omega
    have hls:l.length≤6:=ok.le
    obtain ⟨h3,h4,_⟩:=q44 hu hp
    have hsl:=(q56 hu hp).2.1
    rw [mgo,if_neg (by omega)]
    by_cases c:0≤n
    · have c':n ≥ 0:=c
      rw [if_pos c,q73 hp]
      by_cases e:u[p]=n
      · simp only [q0z.next0,q0z.round0,evz,Nat.reduceLT,h,hlk,hp,hpk,hp',q28,c',e]
        rw [q0n (by omega),q0n (by omega)]
        exact ih b (p+1) (k+1) f hd' (by omega) (hB.node (by rw [q73 hp,e])) (hb.up (by omega)) (by omega)
      · simp only [q0z.next0,q0z.round0,evz,Nat.reduceLT,h,hlk,hp,hpk,hp',q28,c',e,Option.map_none,mT]
    · have c':¬ n ≥ 0:=c
      rw [if_neg c]
      have hof:=(q1u b.1 b.2 (-1 - n) hb.len (by have:=hb.le; omega)).eq
      have hB':=hB.var hu (by omega)
      have hw:IntKind.wrap .i64 (-1 - n) = -1 - n:=q2j (by omega)
      have hw2:IntKind.wrap .i64 ((p:Int)+((subAt l u p).length:Nat))=((p+(subAt l u p).length:Nat):Int):=by rw [q2j (by omega)]; omega
      have hsub:=(q51 ok hu hp).eq
      have hbl:=hb.le
      cases hbo:q4w b.1 b.2 (-1 - n) with
      | none =>
        rw [hbo] at hof
        have hbind:=(q15 b.1 b.2 (-1 - n) (subAt l u p) hb.len (by omega) (by omega) (bindOf_none hb.len hbo) fun x hx=>by have:=(hb.tm x hx).le; omega).eq
        simp only [q0z.next0,q0z.round0,evz,Nat.reduceLT,h,hlk,hp',q28,c',hsub,hw,hof,Option.getD_none,q3o,hbind,hw2,List.length_nil,Int.natCast_zero,Int.ofNat_zero]
        rw [q0n (by omega)]
        exact ih (bput b (-1 - n) (subAt l u p)) _ (k+1) f hd' (by omega) hB' (hb.put (by omega) (q6l hu hp)) (by omega)
      | some o =>
        rw [hbo] at hof
        have ho:=hb.tm o (q5w hbo)
        have hol:=ho.le
        have hop:=ho.pos
        have ho0:¬ ((o.length:Int)=0):=by omega
        have heq:=(q1l o (subAt l u p) ⟨by omega,fun _ _=>trivial⟩).eq
        show _=some (mT ((if o=subAt l u p then mgo l u q b (p+(subAt l u p).length) else none).map (·.1)),[])
        by_cases e:o=subAt l u p
        · rw [if_pos e]
          have ho1:¬ (((subAt l u p).length:Int)=0):=by omega
          rw [e] at heq
          simp only [q0z.next0,q0z.round0,evz,Nat.reduceLT,h,hlk,hp',q28,c',hsub,hw,hof,Option.getD_some,q3o,heq,e,ho0,ho1,hw2]
          rw [q0n (by omega)]
          exact ih b _ (k+1) f hd' (by omega) hB' (hb.up (by omega)) (by omega)
        · rw [if_neg e]
          simp only [q0z.next0,q0z.round0,evz,Nat.reduceLT,h,hlk,hp',q28,c',hsub,hw,hof,Option.getD_some,q3o,heq,e,ho0,Option.map_none,mT]
 exact loop pat ([],[]) p0 0 25 rfl (by omega) (Both.start hu hq hp0) (MB.nil l) (by omega)
end
end Ev.Ty
end
section
namespace Ev.Ty
open Go Ev
open Enc (enc)
open Sm (sm)
set_option linter.unusedSimpArgs false
set_option linter.unusedVariables false
section
variable {l:List Symbol} (ok:SigOk ⟨l⟩) {rs:List Equation} (hr:∀ e∈rs,EqOk l e) (hn:rs.length≤12)
include ok hr hn
omit hr hn in
theorem q5k {e:Equation} (he:EqOk l e) {t:List Int} (ht:TermOk l t) {p:Nat} (hp:p < t.length):Call F.q5k [.agg [slc l],.agg [slc e.left,slc e.right],slc t,.int .i64 p] (.agg (enc (stepAt l e t p))):=by
 have hu:=q6l ht hp
 have hm:=(q1i ok he.left hu).eq
 rw [matchAt_sub he.left ht hp] at hm
 refine q0q rfl 0 ((q5k.ev _ _ _ _ _ _).trans ?_)
 unfold stepAt
 cases hmm:q6f l e.left t p with
 | none=>rw [hmm] at hm; simp only [evz,Nat.reduceLT,(q3e ok ht hp).eq,hm,mT]; rfl
 | some b =>
   rw [hmm] at hm
   have hb:=matchAt_ok he.left ht hp hmm
   have hbo:=hb.ok he.left.le
   have hrl:=he.right.le
   have hal:=q5x hbo e.right
   simp only [evz,Nat.reduceLT,(q3e ok ht hp).eq,hm,mT,(q0e b.1 b.2 hbo e.right (by omega) (he.right.range ok)).eq,(q4s ok ht hp (q0d b.1 b.2 e.right) (by omega)).eq]
   have hfit:=(q68 (q48 l t p (q0d b.1 b.2 e.right))).eq
   by_cases h24:24 < (q48 l t p (q0d b.1 b.2 e.right)).length
   · rw [if_pos h24] at hfit ⊢
     simp only [evz,Nat.reduceLT,hfit,q2l]
   · rw [if_neg h24] at hfit ⊢
     simp only [evz,Nat.reduceLT,hfit,q2l]
omit hr hn in
theorem q5j {e:Equation} (he:EqOk l e) {t:List Int} (ht:TermOk l t) {p:Nat} (hp:p < t.length):Call F.q5j [.rref [slc l] 0,.rref [slc e.left,slc e.right] 0,.int .i64 p,slc t] (.tup [slc (stepAt l e t p).term,.int .i64 (stepAt l e t p).code]):=by
 have hm:=(q0z ok he.left ht hp).eq
 refine q0q rfl 0 ((q5j.ev _ _ _ _ _ _).trans ?_)
 unfold stepAt
 cases hmm:q6f l e.left t p with
 | none=>rw [hmm] at hm; simp only [evz,Nat.reduceLT,hm,mT]; rfl
 | some b =>
   rw [hmm] at hm
   have hb:=matchAt_ok he.left ht hp hmm
   have hbo:=hb.ok he.left.le
   have hrl:=he.right.le
   have hal:=q5x hbo e.right
   simp only [evz,Nat.reduceLT,hm,mT,(q0w b.1 b.2 hbo e.right (by omega) (he.right.range ok)).eq,(q4f ok ht hp (q0d b.1 b.2 e.right) (by omega)).eq]
   by_cases h24:24 < (q48 l t p (q0d b.1 b.2 e.right)).length
   · have h24':((q48 l t p (q0d b.1 b.2 e.right)).length:Int) > 24:=by omega
     rw [if_pos h24]
     simp only [evz,Nat.reduceLT,h24']
     rfl
   · have h24':¬ ((q48 l t p (q0d b.1 b.2 e.right)).length:Int) > 24:=by omega
     rw [if_neg h24]
     simp only [evz,Nat.reduceLT,h24']
end
end Ev.Ty
end
section
namespace Ev.Ty
open Go Ev
open Enc (enc)
open Sm (sm)
set_option linter.unusedSimpArgs false
set_option linter.unusedVariables false
theorem q77 {l:List Symbol} {rs:List Equation} (h:q3q ⟨l⟩ rs=0):q2f ⟨l⟩=0∧SigOk ⟨l⟩∧rs.length≤12∧∀ e∈rs,EqOk l e:=by
 unfold q3q at h
 split at h
 · rename_i h1; exact absurd h h1
 rename_i h1
 have h1:q2f ⟨l⟩=0:=by simpa using h1
 unfold q7s at h
 split at h
 · rename_i h2; exact absurd h h2
 rename_i h2
 obtain ⟨q1,q2⟩:=q76.1 (show q49 l rs=0 by simpa using h2)
 exact ⟨h1,(q5t _).1 h1,q1,q2⟩
theorem rewriteFault_ok {l:List Symbol} {rs:List Equation} {t:List Int} (h:q4x ⟨l⟩ rs t=0):SigOk ⟨l⟩∧rs.length≤12∧(∀ e∈rs,EqOk l e)∧TermOk l t:=by
 unfold q4x at h
 split at h
 · rename_i h1; exact absurd h h1
 rename_i h1
 obtain ⟨_,q1,q2,q3⟩:=q77 (l:=l) (rs:=rs) (by simpa using h1)
 exact ⟨q1,q2,q3,(q6w _ _).1 h⟩
theorem q4b (l:List Symbol) (hs:l.length≤4294967296) (rs:List Equation) (hr:sm 4294967296 rs) (t:List Int) (ht:t.length≤4294967296) :
 Call F.q4b [.agg [slc l],slc rs,slc t] (.int .i64 (q4x ⟨l⟩ rs t)):=by
 refine q0q rfl 0 ((q4b.ev _ _ _ _).trans ?_)
 simp only [evz,Nat.reduceLT,(q3v l hs rs hr).eq,(q3u l hs t ht).eq,(firstCode2 _ _).eq,q4x]
 by_cases h:q3q ⟨l⟩ rs=0
 · have h0:=(q77 h).1
   simp only [h,evz,Nat.reduceLT,ne_eq,not_true_eq_false,termFault,h0]
 · simp only [h,evz,Nat.reduceLT,ne_eq,not_false_eq_true]
theorem q6s (l:List Symbol) (hs:l.length≤4294967296) (rs:List Equation) (hr:sm 4294967296 rs) (t:List Int) (ht:t.length≤4294967296) :
 Call F.q6s [.rref [slc l] 0,slc rs,slc t] (.int .i64 (q4x ⟨l⟩ rs t)):=by
 refine q0q rfl 0 ((q6s.ev _ _ _ _).trans ?_)
 simp only [evz,Nat.reduceLT,(q3s l hs rs hr).eq,q4x]
 by_cases h:q3q ⟨l⟩ rs=0
 · have h0:=(q77 h).2.1
   simp only [h,evz,Nat.reduceLT,ne_eq,not_true_eq_false,(q0y l h0 t ht).eq]
 · simp only [h,evz,Nat.reduceLT,ne_eq,not_false_eq_true]
theorem q3l (s:Signature) (rs:List Equation) (r p:Int) (t:List Int) (hs:sm 1048576 s) (hr:sm 1048576 rs) (ht:sm 1048576 t):Call F.q3l [.agg (enc s),slc rs,.int .i64 r,.int .i64 p,slc t] (.agg (enc (q3r s rs r p t))):=by
 obtain ⟨l⟩:=s
 have hsl:l.length≤4294967296:=Nat.le_trans hs.1 (by omega)
 have htl:t.length≤4294967296:=Nat.le_trans ht.1 (by omega)
 have hrl:rs.length≤4294967296:=Nat.le_trans hr.1 (by omega)
 show Call F.q3l [.agg [slc l],slc rs,.int .i64 r,.int .i64 p,slc t] _
 refine q0q rfl 0 ((q3l.ev _ _ _ _ _ _).trans ?_)
 simp only [evz,Nat.reduceLT,(q4b l hsl rs (q29 (by omega) hr) t htl).eq,q3r,q2j (x:=(rs.length:Int) - 1) (by omega),q2j (x:=(t.length:Int) - 1) (by omega),(q2g _ _ _).eq]
 by_cases h:q4x ⟨l⟩ rs t=0
 case neg=>simp only [h,evz,Nat.reduceLT,ne_eq,not_false_eq_true,q2l,q36]
 obtain ⟨ok,q1,q2,q3⟩:=rewriteFault_ok h
 cases h1:inR r 0 (rs.length - 1) with
 | false=>simp only [h,evz,Nat.reduceLT,ne_eq,not_true_eq_false,Bool.not_false,true_or,q2l,q36]
 | true =>
   cases h2:inR p 0 (t.length - 1) with
   | false=>simp only [h,evz,Nat.reduceLT,ne_eq,not_true_eq_false,Bool.not_true,Bool.not_false,or_true,q2l,q36]
   | true =>
     have hr1:=q6g.1 h1
     have hp1:=q6g.1 h2
     obtain ⟨k,rfl⟩:∃ k:Nat,r=k:=⟨r.toNat,by omega⟩
     obtain ⟨a,rfl⟩:∃ a:Nat,p=a:=⟨p.toNat,by omega⟩
     have hk:k < rs.length:=by omega
     have ha:a < t.length:=by omega
     have hlk:rs[k]?=some rs[k]:=List.getElem?_eq_getElem hk
     have he:=q2 _ (List.getElem_mem hk)
     have hrw:=(q5k ok he q3 ha).eq
     rw [q2l] at hrw
     simp only [h,evz,Nat.reduceLT,ne_eq,not_true_eq_false,Bool.not_true,or_self,hk,hlk,q4y,hrw,getE hk,q2l,reduceCtorEq]
theorem q3k (s:Signature) (rs:List Equation) (r p:Int) (t:List Int) (hs:sm 1048576 s) (hr:sm 1048576 rs) (ht:sm 1048576 t):Call F.q3k [.agg (enc s),slc rs,.int .i64 r,.int .i64 p,slc t] (.agg (enc (q3r s rs r p t))):=by
 obtain ⟨l⟩:=s
 have hsl:l.length≤4294967296:=Nat.le_trans hs.1 (by omega)
 have htl:t.length≤4294967296:=Nat.le_trans ht.1 (by omega)
 have hrl:rs.length≤4294967296:=Nat.le_trans hr.1 (by omega)
 show Call F.q3k [.agg [slc l],slc rs,.int .i64 r,.int .i64 p,slc t] _
 refine q0q rfl 0 ((q3k.ev _ _ _ _ _ _).trans ?_)
 simp only [evz,Nat.reduceLT,(q6s l hsl rs (q29 (by omega) hr) t htl).eq,q3r,q2j (x:=(rs.length:Int) - 1) (by omega),(q14 _ _ _).eq,(q5a t p htl).eq]
 by_cases h:q4x ⟨l⟩ rs t=0
 case neg=>simp only [h,evz,Nat.reduceLT,ne_eq,not_false_eq_true,q2l,q36]
 obtain ⟨ok,q1,q2,q3⟩:=rewriteFault_ok h
 cases h1:inR r 0 (rs.length - 1) with
 | false=>simp only [h,evz,Nat.reduceLT,ne_eq,not_true_eq_false,Bool.not_false,true_or,q2l,q36]
 | true =>
   cases h2:inR p 0 (t.length - 1) with
   | false=>simp only [h,evz,Nat.reduceLT,ne_eq,not_true_eq_false,Bool.not_true,Bool.not_false,or_true,q2l,q36]
   | true =>
     have hr1:=q6g.1 h1
     have hp1:=q6g.1 h2
     obtain ⟨k,rfl⟩:∃ k:Nat,r=k:=⟨r.toNat,by omega⟩
     obtain ⟨a,rfl⟩:∃ a:Nat,p=a:=⟨p.toNat,by omega⟩
     have hk:k < rs.length:=by omega
     have ha:a < t.length:=by omega
     have hlk:rs[k]?=some rs[k]:=List.getElem?_eq_getElem hk
     have he:=q2 _ (List.getElem_mem hk)
     have hrw:=(q5j ok he q3 ha).eq
     have hwin:=q42 (k:=2) (i:=k) rfl hlk
     simp only [h,evz,Nat.reduceLT,ne_eq,not_true_eq_false,Bool.not_true,or_self,hk,hwin,q4y,hrw,getE hk,q2l,reduceCtorEq]
end Ev.Ty
end
section
namespace Ev.Ty
open Go Ev
open Enc (enc)
open Sm (sm)
set_option linter.unusedSimpArgs false
set_option linter.unusedVariables false
end Ev.Ty
end
section
namespace Ev.Ty
open Go Ev
open Enc (enc)
open Sm (sm)
set_option linter.unusedSimpArgs false
set_option linter.unusedVariables false
section
variable {l:List Symbol} {z:Nat} {tb:List (List Int)} (al:AlgOk l z tb)
include al
end
end Ev.Ty
end
section
namespace Ev.Ty
open Go Ev
open Enc (enc)
open Sm (sm)
set_option linter.unusedSimpArgs false
set_option linter.unusedVariables false
section
variable (l:List Symbol) (z:Int) (tb:List (List Int)) (hs:l.length≤4294967296) (ht:sm 4294967296 tb)
include hs ht
end
end Ev.Ty
end
section
namespace Ev.Ty
open Go Ev
open Enc (enc)
open Sm (sm)
set_option linter.unusedSimpArgs false
set_option linter.unusedVariables false
theorem cells_int_scalar (l:List Int):(cells l).all T.scalar=true:=by
 rw [← q69,List.all_eq_true]
 intro x hx
 obtain ⟨n,_,rfl⟩:=List.mem_map.1 hx
 rfl
theorem q27 (l:List Int) (h:l.length≤4294967296):Call F.q27 [slc l] (slc l):=by
 refine q0q rfl 0 ((q27.ev _ _).trans ?_)
 have hb:Nat.ble ((0+(cells l).length)*8) (140737488355328*1)=true:=by
  rw [Nat.ble_eq,q0j,q38]; omega
 rw [cells_int_scalar,hb]
 rfl
def eqOf (e:Entry):Equation:=⟨e.left,e.right⟩
theorem entry_eqn (e:Entry):Call F.q1o [.agg (enc e)] (.agg [slc e.left,slc e.right]):=q0q rfl 0 (q1o.ev _ _ _ _ _ _ _ _)
theorem q2y (e:Entry) (h:sm 4294967296 e):Call F.q2y [.rref (enc e) 0] (.agg [slc e.left,slc e.right]):=by
 refine q0q rfl 0 ((q2y.ev _ _ _ _ _ _ _ _).trans ?_)
 simp only [evz,Nat.reduceLT,(q27 e.left h.1.1).eq,(q27 e.right h.2.1).eq]
def q5v (l:List Symbol) (es:List Entry):Int :=
 if 500 < es.length then 2 else (es.findSome? fun e=>if q25 l (eqOf e)≠0 then some (q25 l (eqOf e)) else none).getD 0
theorem entsOk {l:List Symbol} {es:List Entry} (h:q5v l es=0):es.length≤500∧∀ e∈es,EqOk l (eqOf e):=by
 unfold q5v at h
 by_cases h1:500 < es.length
 · rw [if_pos h1] at h; cases h
 · rw [if_neg h1] at h
   refine ⟨by omega,fun e he=>eqOk_iff.1 ?_⟩
   cases hf:es.findSome? fun e=>if q25 l (eqOf e)≠0 then some (q25 l (eqOf e)) else none with
   | none =>
     rw [q74] at hf
     have:=hf e he
     by_cases h:q25 l (eqOf e)=0
     · exact h
     · simp [h] at this
   | some c =>
     rw [hf] at h
     obtain ⟨e',he',h2⟩:=List.exists_of_findSome?_eq_some hf
     by_cases h3:q25 l (eqOf e')=0
     · simp [h3] at h2
     · simp [h3] at h2
       subst h2
       exact absurd h h3
theorem ents_sm {es:List Entry} {k:Nat} (he:sm 4294967296 es) (h:k < es.length):sm 4294967296 es[k]:=he.2 es[k] (List.getElem_mem h)
theorem q0r (l:List Symbol) (hs:l.length≤4294967296) (es:List Entry) (he:sm 4294967296 es) :
 ∃ c,Call F.q0r [.agg [slc l],slc es] (.int .i64 c)∧(q2f ⟨l⟩=0→c=q5v l es):=by
 by_cases h2:500 < es.length
 · refine ⟨2,q0q rfl (es.length+1) ((q0r.ev _ _ _).trans ?_),fun _=>by unfold q5v; rw [if_pos h2]⟩
   have h2':(500:Int) < es.length:=by omega
   simp only [evz,Nat.reduceLT,gt_iff_lt,h2']
 have h2':¬ (500:Int) < es.length:=by omega
 obtain ⟨q,hq⟩:∃ q:Entry→Int,q=fun e=>if q2f ⟨l⟩≠0 then q2f ⟨l⟩ else q25 l (eqOf e):=⟨_,rfl⟩
 refine ⟨(es.findSome? fun e=>if q e≠0 then some (q e) else none).getD 0,q0q rfl (es.length+1) ((q0r.ev _ _ _).trans ?_),fun h => ?_⟩
 · simp only [evz,Nat.reduceLT,gt_iff_lt,h2']
   refine (q7e (l:=es) (g:=fun e=>if q e≠0 then some (some (.int .i64 (q e),[])) else none) (z:=some (.int .i64 0,[])) (S:=fun m k=>q0r.at0 (es.length+1) m (q0r.st0 (cells es) es.length (k:Nat) (cells l)))
    (fun m k h => ?_) (fun m => ?_) (Nat.lt_succ_self _)).trans ?_
   · have hlk:es[k]?=some es[k]:=List.getElem?_eq_getElem h
     have hsm:=ents_sm he h
     have hc:=q2v l hs es[k].left es[k].right hsm.1.1 hsm.2.1
     have hee:=entry_eqn es[k]
     rw [q31] at hee
     rw [show (if q2f ⟨l⟩≠0 then q2f ⟨l⟩ else q25 l ⟨es[k].left,es[k].right⟩)=q es[k] by rw [hq]; rfl] at hc
     simp only [q0r.next0,q0r.round0,evz,Nat.reduceLT,h,hlk,q31,hee.eq,hc.eq]
     rw [q0n (by omega)]
     by_cases e:q es[k]=0
     · simp [e]
     · simp [e]
   · simp only [q0r.next0,q0r.round0,evz,Nat.reduceLT,Nat.lt_irrefl]
   · have:=q66 (fun e=>if q e≠0 then some (q e) else none) (fun n=>(some (T.int .i64 n,[]):R)) es
     rw [show (fun e=>(if q e≠0 then some (q e) else none).map fun n=>(some (T.int .i64 n,[]):R))=fun e=>if q e≠0 then some (some (T.int .i64 (q e),[])) else none from funext fun e=>by by_cases h:q e=0 <;> simp [h]] at this
     rw [this]
     cases es.findSome? fun e=>if q e≠0 then some (q e) else none <;> rfl
 · unfold q5v
   rw [if_neg h2,hq]
   simp only [h,ne_eq,not_true_eq_false,if_false]
theorem q1b (l:List Symbol) (ok:SigOk ⟨l⟩) (es:List Entry) (he:sm 4294967296 es):Call F.q1b [.rref [slc l] 0,slc es] (.int .i64 (q5v l es)):=by
 refine q0q rfl (es.length+1) ((q1b.ev _ _ _).trans ?_)
 simp only [evz,Nat.reduceLT,q5v,gt_iff_lt]
 by_cases h2:500 < es.length
 · have h2':(500:Int) < es.length:=by omega
   simp only [h2,h2',evz,Nat.reduceLT]
 have h2':¬ (500:Int) < es.length:=by omega
 simp only [h2,h2',evz,Nat.reduceLT]
 refine (q7e (l:=es) (g:=fun e=>if q25 l (eqOf e)≠0 then some (some (.int .i64 (q25 l (eqOf e)),[])) else none) (z:=some (.int .i64 0,[])) (S:=fun m k=>q1b.at0 (es.length+1) m (q1b.st0 (cells l) (cells es) (k:Nat)))
  (fun m k h => ?_) (fun m => ?_) (Nat.lt_succ_self _)).trans ?_
 · have hlk:es[k]?=some es[k]:=List.getElem?_eq_getElem h
   have hsm:=ents_sm he h
   have hc:Call F.q43 [.rref [slc l] 0,.rref [slc es[k].left,slc es[k].right] 0] (.int .i64 (q25 l (eqOf es[k]))):=q43 l ok es[k].left es[k].right hsm.1.1 hsm.2.1
   simp only [q1b.next0,q1b.round0,evz,Nat.reduceLT,h,hlk,q42 q7k hlk,(q2y es[k] hsm).eq,hc.eq]
   rw [q0n (by omega)]
   by_cases e:q25 l (eqOf es[k])=0
   · simp [e]
   · simp [e]
 · simp only [q1b.next0,q1b.round0,evz,Nat.reduceLT,Nat.lt_irrefl]
 · have:=q66 (fun e=>if q25 l (eqOf e)≠0 then some (q25 l (eqOf e)) else none) (fun n=>(some (T.int .i64 n,[]):R)) es
   rw [show (fun e=>(if q25 l (eqOf e)≠0 then some (q25 l (eqOf e)) else none).map fun n=>(some (T.int .i64 n,[]):R))=fun e=>if q25 l (eqOf e)≠0 then some (some (T.int .i64 (q25 l (eqOf e)),[])) else none from funext fun e=>by by_cases h:q25 l (eqOf e)=0 <;> simp [h]] at this
   rw [this]
   cases es.findSome? fun e=>if q25 l (eqOf e)≠0 then some (q25 l (eqOf e)) else none <;> rfl
section
variable (l:List Symbol) (z:Int) (tb:List (List Int)) (hs:l.length≤4294967296) (ht:sm 4294967296 tb)
include hs ht
end
end Ev.Ty
end
section
namespace Ev.Ty
open Go Ev
open Enc (enc)
open Sm (sm)
set_option linter.unusedSimpArgs false
set_option linter.unusedVariables false
section
variable {l:List Symbol} {o:List Int} (ok:SigOk ⟨l⟩) (hol:o.length≤1048576) (ho:∀ n:Int,0≤n→n < l.length→n∈o)
include ok hol ho
end
end Ev.Ty
end
section
namespace Ev.Ty
section
variable {α:Type} {lt:α→α→Bool} {S:α→Prop}
variable (h1:∀ a b c,S a→S b→S c→lt a b=true→lt b c=true→lt a c=true) (h2:∀ a b c,S a→S b→S c→lt a b=true→lt c b=false→lt a c=true) (h3:∀ a b,S a→S b→lt a b=true→lt b a=false)
include h1 h2 h3
variable (h4:∀ a b,S a→S b→a=b∨lt a b=true∨lt b a=true)
include h4
end
end Ev.Ty
end
section
namespace Ev.Ty
open Go Ev
open Enc (enc)
open Sm (sm)
set_option linter.unusedSimpArgs false
set_option linter.unusedVariables false
set_option maxHeartbeats 1000000
section
variable {l:List Symbol} {o:List Int} (ok:SigOk ⟨l⟩) (hol:o.length≤1048576) (ho:∀ n:Int,0≤n→n < l.length→n∈o)
include ok hol ho
end
section
variable {l:List Symbol} {o:List Int} (ok:SigOk ⟨l⟩) (hol:o.length≤1048576) (ho:∀ n:Int,0≤n→n < l.length→n∈o)
include ok hol ho
end
end Ev.Ty
end
section
namespace Ev.Ty
open Go Ev
open Enc (enc)
open Sm (sm)
set_option linter.unusedSimpArgs false
set_option linter.unusedVariables false
def Free (b:Bnd) (t:List Int):Prop:=∀ n∈t,(-1 - n)∉b.1
theorem bindOf_notMem {vs:List Int} {ts:List (List Int)} {v:Int} (h:v∉vs):q4w vs ts v=none:=by
 unfold q4w
 rcases q7c (fun x:Int=>decide (x=v)) vs with ⟨h1,_⟩ | ⟨i,hi,h1,hy,_⟩
 · rw [if_pos (by omega)]
 · have:vs[i]=v:=by simpa using hy
   exact absurd (this ▸ List.getElem_mem hi) h
theorem applied_free {b:Bnd}:∀ {t:List Int},Free b t→q0d b.1 b.2 t=t
 | [],_=>rfl
 | n::t,h=>by
   have ih:=applied_free (b:=b) (t:=t) fun m hm=>h m (List.mem_cons_of_mem _ hm)
   have e:q0d b.1 b.2 (n::t)=(q4w b.1 b.2 (-1 - n)).getD [n]++q0d b.1 b.2 t:=by simp [q0d]
   rw [e,bindOf_notMem (h n (by simp)),ih]; rfl
theorem applied_nodes {vs:List Int} {ts:List (List Int)} {P:Int→Prop} (ht:∀ x∈ts,∀ n∈x,P n) {t:List Int} (h:∀ n∈t,q4w vs ts (-1 - n)=none→P n):∀ n∈q0d vs ts t,P n:=fun n hn=>by
 unfold q0d at hn
 obtain ⟨m,hm,hn⟩:=List.mem_flatMap.1 hn
 cases ho:q4w vs ts (-1 - m) with
 | none=>rw [ho] at hn; rw [List.mem_singleton.1 hn]; exact h m hm ho
 | some o=>rw [ho] at hn; exact ht o (q5w ho) n hn
structure UB (l:List Symbol) (b:Bnd):Prop where
 mb:MB l b 12
 nd:b.1.Nodup
 free:∀ t∈b.2,Free b t
theorem UB.nil (l:List Symbol):UB l ([],[]):=⟨(MB.nil l).up (by omega),List.nodup_nil,by simp⟩
theorem UB.le {l:List Symbol} {b:Bnd} (h:UB l b):b.1.length≤12:=h.mb.le
theorem UB.applied_free {l:List Symbol} {b:Bnd} (h:UB l b) (t:List Int):Free b (q0d b.1 b.2 t):=applied_nodes h.free fun n _ hn=>bindOf_none h.mb.len hn
theorem UB.applied_ok {l:List Symbol} {b:Bnd} (h:UB l b) {t:List Int} (ht:TermOk l t) (hl:(q0d b.1 b.2 t).length≤24):TermOk l (q0d b.1 b.2 t):=by
 have hs:=q82 h.mb (by omega) t [] 1 ht.skip
 rw [List.append_nil] at hs
 refine ⟨?_,hl,applied_node h.mb ht.node,hs⟩
 rcases Nat.eq_zero_or_pos (q0d b.1 b.2 t).length with h0 | h0
 · rw [List.eq_nil_of_length_eq_zero h0] at hs; cases hs
 · exact h0
def one (v:Int) (t:List Int):Bnd:=([v],[t])
def q63 (b:Bnd) (v:Int) (t:List Int):Option Bnd :=
 if (b.2.any fun x=>decide (24 < (q0d [v] [t] x).length))=true then none else some (bput (b.1,b.2.map (q0d [v] [t])) v t)
theorem bindOf_one (v:Int) (t:List Int) (w:Int):q4w [v] [t] w=if v=w then some t else none:=by
 by_cases h:v=w
 · subst h; simp [q4w,idx]
 · rw [if_neg h]; exact bindOf_notMem (by simpa using fun e=>h e.symm)
theorem one_mb {l:List Symbol} {v:Int} (hv:0≤v∧v≤11) {t:List Int} (ht:TermOk l t):MB l (one v t) 1:=⟨rfl,Nat.le_refl _,fun x hx=>by rw [List.mem_singleton.1 hx]; exact hv,fun x hx=>by rw [List.mem_singleton.1 hx]; exact ht⟩
theorem ins_nodup {l:List Int} {i:Nat} {x:Int} (h:l.Nodup) (hx:x∉l):(ins l i x).Nodup:=by
 unfold ins
 have hp:(l.take i++x::l.drop i).Perm (x::l):=by
  refine List.perm_middle.trans ?_
  rw [List.take_append_drop]
 exact hp.nodup_iff.2 (List.nodup_cons.2 ⟨hx,h⟩)
theorem mem_ins_iff {l:List Int} {i:Nat} {x y:Int}:y∈ins l i x↔y=x∨y∈l:=by
 unfold ins
 constructor
 · intro h
   rcases List.mem_append.1 h with h | h
   · exact .inr (List.mem_of_mem_take h)
   · rcases List.mem_cons.1 h with h | h
     · exact .inl h
     · exact .inr (List.mem_of_mem_drop h)
 · rintro (rfl | h)
   · simp
   · rw [← List.take_append_drop i l,List.mem_append] at h
     rcases h with h | h
     · exact List.mem_append_left _ h
     · exact List.mem_append_right _ (List.mem_cons_of_mem _ h)
theorem pigeon_ub {vs:List Int} (h:vs.Nodup) (hv:∀ v∈vs,0≤v∧v≤11):vs.length≤12:=pigeon 12 vs h fun v hm=>by have:=hv v hm; omega
theorem bindAll_ub {l:List Symbol} {b:Bnd} (h:UB l b) {v:Int} (hv:0≤v∧v≤11) (hnb:v∉b.1) {t:List Int} (ht:TermOk l t) (hf:Free b t) (hvt:(-1 - v)∉t) {b':Bnd} (hb:q63 b v t=some b') :
 UB l b'∧b'.1.length=b.1.length+1:=by
 unfold q63 at hb
 split at hb
 · cases hb
 rename_i hany
 cases hb
 have hi:=insAt_le b.1 v
 have hlen:=h.mb.len
 have hmem:∀ w,w∈(bput (b.1,b.2.map (q0d [v] [t])) v t).1↔w=v∨w∈b.1:=fun w=>mem_ins_iff
 have hnd:(bput (b.1,b.2.map (q0d [v] [t])) v t).1.Nodup:=ins_nodup h.nd hnb
 have hvar:∀ w∈(bput (b.1,b.2.map (q0d [v] [t])) v t).1,0≤w∧w≤11:=fun w hw=>by
  rcases (hmem w).1 hw with rfl | hw
  · exact hv
  · exact h.mb.var w hw
 have hl1:(bput (b.1,b.2.map (q0d [v] [t])) v t).1.length=b.1.length+1:=q5z _ _ _ hi
 have hone:=one_mb hv ht
 have tm:∀ x∈(bput (b.1,b.2.map (q0d [v] [t])) v t).2,TermOk l x∧Free (bput (b.1,b.2.map (q0d [v] [t])) v t) x:=fun x hx=>by
  rcases mem_ins hx with rfl | hx
  · refine ⟨ht,fun n hn hm => ?_⟩
    rcases (hmem _).1 hm with e | hm
    · exact hvt (by have:n = -1 - v:=by omega
                    exact this ▸ hn)
    · exact hf n hn hm
  · obtain ⟨y,hy,rfl⟩:=List.mem_map.1 hx
    have hyo:=h.mb.tm y hy
    have hle:(q0d [v] [t] y).length≤24:=by
     rcases Nat.lt_or_ge 24 (q0d [v] [t] y).length with h24 | h24
     · exact absurd (List.any_eq_true.2 ⟨y,hy,decide_eq_true h24⟩) hany
     · exact h24
    refine ⟨?_,?_⟩
    · have hs:=q82 hone (by omega) y [] 1 hyo.skip
      rw [List.append_nil] at hs
      refine ⟨?_,hle,applied_node hone hyo.node,hs⟩
      rcases Nat.eq_zero_or_pos (q0d [v] [t] y).length with h0 | h0
      · have hs:skip (ar l) 1 (q0d [v] [t] y)=some []:=hs
        rw [List.eq_nil_of_length_eq_zero h0] at hs; cases hs
      · exact h0
    · refine applied_nodes (P:=fun n=>(-1 - n)∉(bput (b.1,b.2.map (q0d [v] [t])) v t).1) (fun z hz n hn hm => ?_) (fun n hn hno hm => ?_)
      · rw [List.mem_singleton.1 hz] at hn
        rcases (hmem _).1 hm with e | hm
        · exact hvt (by have:n = -1 - v:=by omega
                        exact this ▸ hn)
        · exact hf n hn hm
      · rcases (hmem _).1 hm with e | hm
        · rw [bindOf_one,if_pos e.symm] at hno; cases hno
        · exact h.free y hy n hn hm
 refine ⟨⟨⟨?_,?_,hvar,fun x hx=>(tm x hx).1⟩,hnd,fun x hx=>(tm x hx).2⟩,hl1⟩
 · rw [hl1]
   show _=(ins (b.2.map (q0d [v] [t])) (insAt b.1 v) t).length
   rw [q5z _ _ _ (by simp; omega)]; simp; omega
 · exact pigeon_ub hnd hvar
abbrev Pr:=Equation
def q5p (l:List Symbol) (x y:List Int):List Pr:=((q34 l x 0).zip (q34 l y 0)).map fun p=>⟨subAt l x p.1,subAt l y p.2⟩
def psize (b:Bnd) (ps:List Pr):Nat:=(ps.map fun p=>(q0d b.1 b.2 p.left).length+(q0d b.1 b.2 p.right).length).sum
theorem sum_starts {l:List Symbol} {t:List Int} (ht:TermOk l t):∀ {n p:Nat} {r:List Int},skip (ar l) n (t.drop p)=some r→((q67 l t n p).map fun q=>(subAt l t q).length).sum+r.length=t.length - p
 | 0,p,r,h=>by
   rw [q37] at h
   rw [← Option.some.inj h]
   simp [q67]
 | n+1,p,r,h=>by
   obtain ⟨h1,h2,h3,h4⟩:=skip_one h
   have ih:=sum_starts ht h2
   have hs:=(q56 ht h1).2.1
   rw [q67,List.map_cons,List.sum_cons]
   omega
theorem sum_args {l:List Symbol} {t:List Int} (ht:TermOk l t):((q34 l t 0).map fun q=>(subAt l t q).length).sum+1=t.length:=by
 have hp:=ht.pos
 obtain ⟨r,hr⟩:=args_skip ht (p:=0) (by omega)
 have hd:t.getD 0 0=t[0]:=q73 (by omega)
 have h:=sum_starts ht hr
 have hw:=ht.skip
 have e:t=t[0]::t.drop 1:=by
  have:=List.drop_eq_getElem_cons (l:=t) (i:=0) (by omega)
  rwa [List.drop_zero] at this
 rw [e,skip,Nat.zero_add] at hw
 rw [Nat.zero_add,hw] at hr
 have:r=[]:=(Option.some.inj hr).symm
 subst this
 unfold q34
 rw [hd]
 simp at h ⊢
 omega
theorem zip_sum {α β:Type} (f:α→Nat) (g:β→Nat):∀ (A:List α) (B:List β),A.length=B.length→((A.zip B).map fun p=>f p.1+g p.2).sum=(A.map f).sum+(B.map g).sum
 | [],[],_=>rfl
 | a::A,b::B,h=>by
   have ih:=zip_sum f g A B (by simpa using h)
   simp only [List.zip_cons_cons,List.map_cons,List.sum_cons] at ih ⊢
   omega
 | [],_::_,h=>by simp at h
 | _::_,[],h=>by simp at h
theorem subAt_sub {l:List Symbol} {t:List Int} {p:Nat}:∀ n∈subAt l t p,n∈t:=fun n hn=>List.mem_of_mem_take (List.mem_of_mem_drop hn)
theorem q57 {l:List Symbol} {b:Bnd} {x y:List Int} (hx:TermOk l x) (hy:TermOk l y) (fx:Free b x) (fy:Free b y) (he:x.getD 0 0=y.getD 0 0):psize b (q5p l x y)+2=x.length+y.length:=by
 have e:(q5p l x y).map (fun p=>(q0d b.1 b.2 p.left).length+(q0d b.1 b.2 p.right).length)=((q34 l x 0).zip (q34 l y 0)).map fun p=>(subAt l x p.1).length+(subAt l y p.2).length:=by
  unfold q5p
  rw [List.map_map]
  refine List.map_congr_left fun p hp => ?_
  show (q0d b.1 b.2 (subAt l x p.1)).length+(q0d b.1 b.2 (subAt l y p.2)).length=_
  rw [applied_free fun n hn=>fx n (subAt_sub n hn),applied_free fun n hn=>fy n (subAt_sub n hn)]
 have hl:(q34 l x 0).length=(q34 l y 0).length:=by unfold q34; rw [q60,q60,he]
 unfold psize
 rw [e,zip_sum (fun p=>(subAt l x p).length) (fun q=>(subAt l y q).length) _ _ hl]
 have:=sum_args hx
 have:=sum_args hy
 omega
theorem args_ok {l:List Symbol} {x y:List Int} (hx:TermOk l x) (hy:TermOk l y):∀ p∈q5p l x y,TermOk l p.left∧TermOk l p.right:=fun p hp=>by
 unfold q5p at hp
 obtain ⟨q,hq,rfl⟩:=List.mem_map.1 hp
 have h1:=q5y hx (p:=0) (by have:=hx.pos; omega) (List.of_mem_zip hq).1
 have h2:=q5y hy (p:=0) (by have:=hy.pos; omega) (List.of_mem_zip hq).2
 exact ⟨q6l hx h1.2,q6l hy h2.2⟩
def unif (l:List Symbol):Nat→Bnd→List Pr→Option (Bnd ⊕ Int)
 | 0,_,_=>none
 | _+1,b,[]=>some (.inl b)
 | n+1,b,p::ps =>
   if 24 < (q0d b.1 b.2 p.left).length∨24 < (q0d b.1 b.2 p.right).length then some (.inr 2)
   else if q0d b.1 b.2 p.left=q0d b.1 b.2 p.right then unif l n b ps
   else if (q0d b.1 b.2 p.left).getD 0 0 < 0 then
    if (q0d b.1 b.2 p.left).getD 0 0∈q0d b.1 b.2 p.right then some (.inr 4) else match q63 b (-1 - (q0d b.1 b.2 p.left).getD 0 0) (q0d b.1 b.2 p.right) with
     | none=>some (.inr 2)
     | some b'=>unif l n b' ps
   else if (q0d b.1 b.2 p.right).getD 0 0 < 0 then
    if (q0d b.1 b.2 p.right).getD 0 0∈q0d b.1 b.2 p.left then some (.inr 4) else match q63 b (-1 - (q0d b.1 b.2 p.right).getD 0 0) (q0d b.1 b.2 p.left) with
     | none=>some (.inr 2)
     | some b'=>unif l n b' ps
   else if (q0d b.1 b.2 p.left).getD 0 0≠(q0d b.1 b.2 p.right).getD 0 0 then some (.inr 4)
   else unif l n b (q5p l (q0d b.1 b.2 p.left) (q0d b.1 b.2 p.right)++ps)
theorem unif_mono {l:List Symbol}:∀ {n m:Nat} {b:Bnd} {ps:List Pr} {r:Bnd ⊕ Int},unif l n b ps=some r→n≤m→unif l m b ps=some r
 | 0,m,b,ps,r,h,hm=>by cases h
 | n+1,m,b,ps,r,h,hm=>by
   obtain ⟨m,rfl⟩:∃ q,m=q+1:=⟨m - 1,by omega⟩
   have ih:∀ {b:Bnd} {ps:List Pr} {r:Bnd ⊕ Int},unif l n b ps=some r→unif l m b ps=some r:=fun h=>unif_mono h (by omega)
   cases ps with
   | nil=>exact h
   | cons p ps =>
     rw [unif] at h ⊢
     split at h
     · rename_i c; rw [if_pos c]; exact h
     rename_i c
     rw [if_neg c]
     split at h
     · rename_i c; rw [if_pos c]; exact ih h
     rename_i c
     rw [if_neg c]
     split at h
     · rename_i c
       rw [if_pos c]
       split at h
       · rename_i c; rw [if_pos c]; exact h
       rename_i c
       rw [if_neg c]
       split at h
       · exact h
       · exact ih h
     rename_i c
     rw [if_neg c]
     split at h
     · rename_i c
       rw [if_pos c]
       split at h
       · rename_i c; rw [if_pos c]; exact h
       rename_i c
       rw [if_neg c]
       split at h
       · exact h
       · exact ih h
     rename_i c
     rw [if_neg c]
     split at h
     · rename_i c; rw [if_pos c]; exact h
     rename_i c
     rw [if_neg c]
     exact ih h
theorem UB.head_var {l:List Symbol} {b:Bnd} (h:UB l b) {t:List Int} (hx:TermOk l (q0d b.1 b.2 t)) (hn:(q0d b.1 b.2 t).getD 0 0 < 0) :
 (0 ≤ -1 - (q0d b.1 b.2 t).getD 0 0 ∧ -1 - (q0d b.1 b.2 t).getD 0 0≤11) ∧ -1 - (q0d b.1 b.2 t).getD 0 0∉b.1:=by
 have hp:=hx.pos
 have hd:(q0d b.1 b.2 t).getD 0 0=(q0d b.1 b.2 t)[0]:=q73 (by omega)
 have hm:(q0d b.1 b.2 t).getD 0 0∈q0d b.1 b.2 t:=by rw [hd]; exact List.getElem_mem _
 have:=q50.1 (hx.node _ hm)
 exact ⟨by omega,h.applied_free t _ hm⟩
theorem unif_ends {l:List Symbol}:∀ (d k:Nat) (b:Bnd) (ps:List Pr),UB l b→(∀ p∈ps,TermOk l p.left∧TermOk l p.right)→12 - b.1.length≤d→psize b ps≤k →
 ∃ n r,unif l n b ps=some r∧∀ b',r = .inl b'→UB l b':=by
 intro d
 induction d with
 | zero =>
   intro k
   induction k using Nat.strongRecOn with
   | _ k ihk=>exact fun b ps=>unif_step 0 k (fun d' hd'=>by omega) ihk b ps
 | succ d ihd =>
   intro k
   induction k using Nat.strongRecOn with
   | _ k ihk=>exact fun b ps=>unif_step (d+1) k (fun d' hd' k b ps h1 h2 h3 h4=>ihd k b ps h1 h2 (by omega) h4) ihk b ps
where
 unif_step {l:List Symbol} (d k:Nat)
  (ihd:∀ d',d' < d→∀ (k:Nat) (b:Bnd) (ps:List Pr),UB l b→(∀ p∈ps,TermOk l p.left∧TermOk l p.right)→12 - b.1.length≤d'→psize b ps≤k→∃ n r,unif l n b ps=some r∧∀ b',r = .inl b'→UB l b')
  (ihk:∀ k',k' < k→∀ (b:Bnd) (ps:List Pr),UB l b→(∀ p∈ps,TermOk l p.left∧TermOk l p.right)→12 - b.1.length≤d→psize b ps≤k'→∃ n r,unif l n b ps=some r∧∀ b',r = .inl b'→UB l b')
  (b:Bnd) (ps:List Pr) (hb:UB l b) (hps:∀ p∈ps,TermOk l p.left∧TermOk l p.right) (hd:12 - b.1.length≤d) (hk:psize b ps≤k):∃ n r,unif l n b ps=some r∧∀ b',r = .inl b'→UB l b':=by
  cases ps with
  | nil=>exact ⟨1,.inl b,rfl,fun b' e=>by cases e; exact hb⟩
  | cons p ps =>
    have hp:=hps p (by simp)
    have hps':∀ q∈ps,TermOk l q.left∧TermOk l q.right:=fun q hq=>hps q (List.mem_cons_of_mem _ hq)
    have hsz:psize b (p::ps)=(q0d b.1 b.2 p.left).length+(q0d b.1 b.2 p.right).length+psize b ps:=by simp [psize]
    by_cases c1:24 < (q0d b.1 b.2 p.left).length∨24 < (q0d b.1 b.2 p.right).length
    · exact ⟨1,.inr 2,by rw [unif,if_pos c1],fun _ e=>by cases e⟩
    have hx:=hb.applied_ok hp.1 (by omega)
    have hy:=hb.applied_ok hp.2 (by omega)
    have hxp:=hx.pos
    by_cases c2:q0d b.1 b.2 p.left=q0d b.1 b.2 p.right
    · obtain ⟨n,r,h1,h2⟩:=ihk (psize b ps) (by omega) b ps hb hps' hd (Nat.le_refl _)
      exact ⟨n+1,r,by rw [unif,if_neg c1,if_pos c2]; exact h1,h2⟩
    have bindcase:∀ (u t:List Int),TermOk l (q0d b.1 b.2 u)→TermOk l (q0d b.1 b.2 t)→(q0d b.1 b.2 u).getD 0 0 < 0→(q0d b.1 b.2 u).getD 0 0∉q0d b.1 b.2 t→∀ b',q63 b (-1 - (q0d b.1 b.2 u).getD 0 0) (q0d b.1 b.2 t)=some b' →
     ∃ n r,unif l n b' ps=some r∧∀ b',r = .inl b'→UB l b':=fun u t hu ht hneg hno b' hb'=>by
     obtain ⟨hv,hnb⟩:=hb.head_var hu hneg
     obtain ⟨q1,q2⟩:=bindAll_ub hb hv hnb ht (hb.applied_free t) (by rw [show -1 - (-1 - (q0d b.1 b.2 u).getD 0 0)=(q0d b.1 b.2 u).getD 0 0 by omega]; exact hno) hb'
     have:=q1.le
     exact ihd (d - 1) (by omega) (psize b' ps) b' ps q1 hps' (by omega) (Nat.le_refl _)
    by_cases c3:(q0d b.1 b.2 p.left).getD 0 0 < 0
    · by_cases c4:(q0d b.1 b.2 p.left).getD 0 0∈q0d b.1 b.2 p.right
      · exact ⟨1,.inr 4,by rw [unif,if_neg c1,if_neg c2,if_pos c3,if_pos c4],fun _ e=>by cases e⟩
      cases hb':q63 b (-1 - (q0d b.1 b.2 p.left).getD 0 0) (q0d b.1 b.2 p.right) with
      | none=>exact ⟨1,.inr 2,by rw [unif,if_neg c1,if_neg c2,if_pos c3,if_neg c4,hb'],fun _ e=>by cases e⟩
      | some b' =>
        obtain ⟨n,r,h1,h2⟩:=bindcase p.left p.right hx hy c3 c4 b' hb'
        exact ⟨n+1,r,by rw [unif,if_neg c1,if_neg c2,if_pos c3,if_neg c4,hb']; exact h1,h2⟩
    by_cases c5:(q0d b.1 b.2 p.right).getD 0 0 < 0
    · by_cases c4:(q0d b.1 b.2 p.right).getD 0 0∈q0d b.1 b.2 p.left
      · exact ⟨1,.inr 4,by rw [unif,if_neg c1,if_neg c2,if_neg c3,if_pos c5,if_pos c4],fun _ e=>by cases e⟩
      cases hb':q63 b (-1 - (q0d b.1 b.2 p.right).getD 0 0) (q0d b.1 b.2 p.left) with
      | none=>exact ⟨1,.inr 2,by rw [unif,if_neg c1,if_neg c2,if_neg c3,if_pos c5,if_neg c4,hb'],fun _ e=>by cases e⟩
      | some b' =>
        obtain ⟨n,r,h1,h2⟩:=bindcase p.right p.left hy hx c5 c4 b' hb'
        exact ⟨n+1,r,by rw [unif,if_neg c1,if_neg c2,if_neg c3,if_pos c5,if_neg c4,hb']; exact h1,h2⟩
    by_cases c6:(q0d b.1 b.2 p.left).getD 0 0=(q0d b.1 b.2 p.right).getD 0 0
    · have ha:=q57 (b:=b) hx hy (hb.applied_free _) (hb.applied_free _) c6
      have happ:psize b (q5p l (q0d b.1 b.2 p.left) (q0d b.1 b.2 p.right)++ps)=psize b (q5p l (q0d b.1 b.2 p.left) (q0d b.1 b.2 p.right))+psize b ps:=by simp [psize]
      obtain ⟨n,r,h1,h2⟩:=ihk _ (show psize b (q5p l (q0d b.1 b.2 p.left) (q0d b.1 b.2 p.right)++ps) < k by omega) b _ hb (fun q hq=>by
       rcases List.mem_append.1 hq with hq | hq
       · exact args_ok hx hy q hq
       · exact hps' q hq) hd (Nat.le_refl _)
      exact ⟨n+1,r,by rw [unif,if_neg c1,if_neg c2,if_neg c3,if_neg c5,if_neg (by simpa using c6)]; exact h1,h2⟩
    · exact ⟨1,.inr 4,by rw [unif,if_neg c1,if_neg c2,if_neg c3,if_neg c5,if_pos c6],fun _ e=>by cases e⟩
end Ev.Ty
end
section
namespace Ev.Ty
open Go Ev
open Enc (enc)
open Sm (sm)
set_option linter.unusedSimpArgs false
set_option linter.unusedVariables false
def q4a (t:List Int) (by_:Int):List Int:=t.map fun n=>if n < 0 then n - by_ else n
theorem skip_map {a:Int→Nat} {f:Int→Int}:∀ {t:List Int} {k:Nat} {r:List Int},(∀ n∈t,a (f n)=a n)→skip a k t=some r→skip a k (t.map f)=some (r.map f)
 | t,0,r,_,h=>by rw [q37] at h; cases h; rw [q37]
 | [],k+1,r,_,h=>by cases h
 | n::t,k+1,r,hf,h=>by
   rw [skip] at h
   rw [List.map_cons,skip,hf n (by simp)]
   exact skip_map (fun m hm=>hf m (List.mem_cons_of_mem _ hm)) h
theorem shift_ok {l:List Symbol} {t:List Int} (ht:TermOk l t) (hlow:∀ n∈t,-6≤n):TermOk l (q4a t 6):=by
 refine ⟨by unfold q4a; rw [List.length_map]; exact ht.pos,by unfold q4a; rw [List.length_map]; exact ht.le,fun n hn => ?_,?_⟩
 · unfold q4a at hn
   obtain ⟨m,hm,rfl⟩:=List.mem_map.1 hn
   have h1:=q50.1 (ht.node m hm)
   have h2:=hlow m hm
   rw [q50]
   split <;> omega
 · refine skip_map (fun n hn => ?_) ht.skip
   by_cases h:n < 0
   · rw [if_pos h,ar_neg l h,ar_neg l (by omega)]
   · rw [if_neg h]
theorem q7n {b:Bnd} {l:List Symbol} {k:Nat} (hb:MB l b k):∀ t:List Int,t.length≤(q0d b.1 b.2 t).length
 | []=>by simp [q0d]
 | n::t=>by
   have ih:=q7n hb t
   have e:q0d b.1 b.2 (n::t)=(q4w b.1 b.2 (-1 - n)).getD [n]++q0d b.1 b.2 t:=by simp [q0d]
   rw [e,List.length_append,List.length_cons]
   cases ho:q4w b.1 b.2 (-1 - n) with
   | none=>simp; omega
   | some o =>
     have:=(hb.tm o (q5w ho)).pos
     simp; omega
def pstep (seen:List Int) (n:Int):Int × List Int :=
 if 0≤n then (n,seen) else if idx (fun x=>decide (x=n)) seen < 0 then (-1 - (seen.length:Int),seen++[n]) else (-1 - idx (fun x=>decide (x=n)) seen,seen)
def q2b:List Int→List Int→List Int × List Int
 | seen,[]=>([],seen)
 | seen,n::t=>((pstep seen n).1::(q2b (pstep seen n).2 t).1,(q2b (pstep seen n).2 t).2)
theorem q8q:∀ (seen a b:List Int),q2b seen (a++b)=((q2b seen a).1++(q2b (q2b seen a).2 b).1,(q2b (q2b seen a).2 b).2)
 | seen,[],b=>rfl
 | seen,n::a,b=>by
   rw [List.cons_append,q2b,q8q,q2b]; rfl
theorem q3x:∀ (seen t:List Int),(q2b seen t).1.length=t.length∧(q2b seen t).2.length≤seen.length+t.length∧seen.length≤(q2b seen t).2.length
 | seen,[]=>⟨rfl,by simp [q2b],by simp [q2b]⟩
 | seen,n::t=>by
   have ih:=q3x (pstep seen n).2 t
   have hp:(pstep seen n).2.length≤seen.length+1∧seen.length≤(pstep seen n).2.length:=by
    unfold pstep
    split
    · exact ⟨by simp,by simp⟩
    split
    · simp
    · exact ⟨by simp,by simp⟩
   rw [q2b]
   simp only [List.length_cons]
   omega
theorem plainL_node:∀ (seen t:List Int),∀ m∈(q2b seen t).1,(0≤m∧m∈t)∨(m < 0 ∧ -((q2b seen t).2.length:Int)≤m)
 | seen,[],m,h=>by cases h
 | seen,n::t,m,h=>by
   rw [q2b] at h ⊢
   have hl:=(q3x (pstep seen n).2 t).2.2
   rcases List.mem_cons.1 h with rfl | h
   · unfold pstep at hl ⊢
     split
     · exact .inl ⟨by assumption,by simp⟩
     rename_i h0
     rw [if_neg h0] at hl
     split
     · rename_i h1
       rw [if_pos h1] at hl
       simp only [List.length_append,List.length_singleton] at hl
       exact .inr ⟨by simp only; omega,by simp only; omega⟩
     · rename_i h1
       rw [if_neg h1] at hl
       rcases q7c (fun x:Int=>decide (x=n)) seen with ⟨h2,_⟩ | ⟨i,hi,h2,_⟩
       · omega
       · simp only at hl ⊢
         exact .inr ⟨by omega,by omega⟩
   · rcases plainL_node (pstep seen n).2 t m h with h | h
     · exact .inl ⟨h.1,List.mem_cons_of_mem _ h.2⟩
     · exact .inr h
def plainE (e:Equation):Equation:=⟨(q2b [] e.left).1,(q2b (q2b [] e.left).2 e.right).1⟩
def seenE (e:Equation):List Int:=(q2b (q2b [] e.left).2 e.right).2
theorem plainL_skip {l:List Symbol}:∀ (t seen r:List Int) (k:Nat),skip (ar l) k t=some r→∃ r',skip (ar l) k (q2b seen t).1=some r'∧r'.length=r.length
 | [],seen,r,k,h=>by
   obtain ⟨rfl,rfl⟩:=skip_nil h
   exact ⟨[],by rw [q37]; rfl,rfl⟩
 | n::t,seen,r,0,h=>by
   rw [q37] at h
   cases h
   exact ⟨_,q37 _,(q3x seen (n::t)).1⟩
 | n::t,seen,r,k+1,h=>by
   rw [skip] at h
   obtain ⟨r',h1,h2⟩:=plainL_skip t (pstep seen n).2 r _ h
   refine ⟨r',?_,h2⟩
   rw [q2b,skip]
   have e:ar l (pstep seen n).1=ar l n:=by
    unfold pstep
    split
    · rfl
    rename_i h0
    split
    · rw [ar_neg l (by simp only; omega),ar_neg l (by omega)]
    · rename_i h1
      rw [ar_neg l (by simp only; omega),ar_neg l (by omega)]
   rw [e]
   exact h1
theorem plain_term {l:List Symbol} {t seen:List Int} (ht:TermOk l t) (h6:(q2b seen t).2.length≤6):TermOk l (q2b seen t).1∧∀ n∈(q2b seen t).1,-6≤n:=by
 have hl:=(q3x seen t).1
 obtain ⟨r',h1,h2⟩:=plainL_skip (l:=l) t seen [] 1 ht.skip
 have:r'=[]:=List.eq_nil_of_length_eq_zero h2
 subst this
 refine ⟨⟨by rw [hl]; exact ht.pos,by rw [hl]; exact ht.le,fun n hn => ?_,h1⟩,fun n hn => ?_⟩
 · rcases plainL_node seen t n hn with ⟨q1,q2⟩ | ⟨q1,q2⟩
   · exact ht.node n q2
   · rw [q50]; omega
 · rcases plainL_node seen t n hn with ⟨q1,_⟩ | ⟨_,q2⟩ <;> omega
theorem plain_ok {l:List Symbol} {e:Equation} (hl:TermOk l e.left) (hr:TermOk l e.right) (h6:(seenE e).length≤6):EqOk l (plainE e):=by
 have h1:=(q3x (q2b [] e.left).2 e.right).2.2
 have h2:(q2b (q2b [] e.left).2 e.right).2.length≤6:=h6
 obtain ⟨q1,q2⟩:=plain_term (seen:=[]) hl (by omega)
 obtain ⟨q3,q4⟩:=plain_term (seen:=(q2b [] e.left).2) hr h2
 exact ⟨q1,q3,q2,q4⟩
open Classical in
noncomputable def unifR (l:List Symbol) (a b:List Int):Bnd ⊕ Int:=if h:∃ n r,unif l n ([],[]) [⟨a,b⟩]=some r then Classical.choose (Classical.choose_spec h) else .inr 0
theorem q7m {l:List Symbol} {a b:List Int} (ha:TermOk l a) (hb:TermOk l b):(∃ n,unif l n ([],[]) [⟨a,b⟩]=some (unifR l a b))∧∀ x,unifR l a b = .inl x→UB l x:=by
 obtain ⟨n,r,h1,h2⟩:=unif_ends (l:=l) 12 _ ([],[]) [⟨a,b⟩] (UB.nil l) (fun p hp=>by rw [List.mem_singleton.1 hp]; exact ⟨ha,hb⟩) (by simp) (Nat.le_refl _)
 have h:∃ n r,unif l n ([],[]) [⟨a,b⟩]=some r:=⟨n,r,h1⟩
 have e:unifR l a b=Classical.choose (Classical.choose_spec h):=by unfold unifR; rw [dif_pos h]
 have hs:=Classical.choose_spec (Classical.choose_spec h)
 rw [← e] at hs
 refine ⟨⟨_,hs⟩,fun x hx => ?_⟩
 have:unifR l a b=r:=by
  have q1:=unif_mono hs (Nat.le_max_left _ n)
  have q2:=unif_mono h1 (Nat.le_max_right (Classical.choose h) n)
  rw [q1] at q2
  exact Option.some.inj q2
 exact h2 x (this ▸ hx)
noncomputable def peakR (l:List Symbol) (o i:Equation) (p:Nat):EquationResult:=match unifR l (subAt l o.left p) (q4a i.left 6) with
 | .inr c=>⟨c,⟨[],[]⟩⟩
 | .inl b =>
   if 24 < (q0d b.1 b.2 o.right).length∨24 < (q0d b.1 b.2 (q48 l o.left p (q4a i.right 6))).length then ⟨2,⟨[],[]⟩⟩
   else if 6 < (seenE ⟨q0d b.1 b.2 o.right,q0d b.1 b.2 (q48 l o.left p (q4a i.right 6))⟩).length then ⟨2,⟨[],[]⟩⟩
   else ⟨0,plainE ⟨q0d b.1 b.2 o.right,q0d b.1 b.2 (q48 l o.left p (q4a i.right 6))⟩⟩
end Ev.Ty
end
section
namespace Ev.Ty
open Go Ev
open Enc (enc)
open Sm (sm)
set_option linter.unusedSimpArgs false
set_option linter.unusedVariables false
def ustep (l:List Symbol) {α:Type} (b:Bnd) (p:Pr) (ps:List Pr) (out:Bnd ⊕ Int→α) (next:Bnd→List Pr→α):α :=
 if 24 < (q0d b.1 b.2 p.left).length∨24 < (q0d b.1 b.2 p.right).length then out (.inr 2)
 else if q0d b.1 b.2 p.left=q0d b.1 b.2 p.right then next b ps
 else if (q0d b.1 b.2 p.left).getD 0 0 < 0 then
  if (q0d b.1 b.2 p.left).getD 0 0∈q0d b.1 b.2 p.right then out (.inr 4) else match q63 b (-1 - (q0d b.1 b.2 p.left).getD 0 0) (q0d b.1 b.2 p.right) with
   | none=>out (.inr 2)
   | some b'=>next b' ps
 else if (q0d b.1 b.2 p.right).getD 0 0 < 0 then
  if (q0d b.1 b.2 p.right).getD 0 0∈q0d b.1 b.2 p.left then out (.inr 4) else match q63 b (-1 - (q0d b.1 b.2 p.right).getD 0 0) (q0d b.1 b.2 p.left) with
   | none=>out (.inr 2)
   | some b'=>next b' ps
 else if (q0d b.1 b.2 p.left).getD 0 0≠(q0d b.1 b.2 p.right).getD 0 0 then out (.inr 4)
 else next b (q5p l (q0d b.1 b.2 p.left) (q0d b.1 b.2 p.right)++ps)
def StackOk (b:Bnd) (ps:List Pr):Prop:=∃ new old:List Pr,ps=new++old∧psize b new≤46∧old.length≤24*b.1.length+1
theorem psize_len {l:List Symbol} {b:Bnd} (hb:UB l b):∀ {ps:List Pr},(∀ p∈ps,TermOk l p.left∧TermOk l p.right)→2*ps.length≤psize b ps
 | [],_=>by simp [psize]
 | p::ps,h=>by
   have ih:=psize_len hb (ps:=ps) fun q hq=>h q (List.mem_cons_of_mem _ hq)
   have hp:=h p (by simp)
   have h1:=q7n hb.mb p.left
   have h2:=q7n hb.mb p.right
   have:=hp.1.pos
   have:=hp.2.pos
   simp only [psize,List.map_cons,List.sum_cons,List.length_cons] at ih ⊢
   omega
theorem StackOk.len {l:List Symbol} {b:Bnd} (hb:UB l b) {ps:List Pr} (hps:∀ p∈ps,TermOk l p.left∧TermOk l p.right) (h:StackOk b ps):ps.length≤400:=by
 obtain ⟨new,old,rfl,h1,h2⟩:=h
 have:=psize_len hb (ps:=new) fun q hq=>hps q (List.mem_append_left _ hq)
 have:=hb.le
 rw [List.length_append]
 omega
theorem psize_cons (b:Bnd) (p:Pr) (ps:List Pr):psize b (p::ps)=(q0d b.1 b.2 p.left).length+(q0d b.1 b.2 p.right).length+psize b ps:=by simp [psize]
theorem psize_append (b:Bnd) (ps qs:List Pr):psize b (ps++qs)=psize b ps+psize b qs:=by simp [psize]
theorem StackOk.tail {b:Bnd} {p:Pr} {ps:List Pr} (h:StackOk b (p::ps)):StackOk b ps:=by
 obtain ⟨new,old,e,h1,h2⟩:=h
 cases new with
 | nil =>
   rw [List.nil_append] at e
   subst e
   exact ⟨[],ps,rfl,by simp [psize],by simp at h2; omega⟩
 | cons q new =>
   rw [List.cons_append] at e
   injection e with e1 e2
   rw [psize_cons] at h1
   exact ⟨new,old,e2,by omega,h2⟩
theorem StackOk.bind {l:List Symbol} {b b':Bnd} (hb:UB l b) {p:Pr} {ps:List Pr} (hps:∀ q∈p::ps,TermOk l q.left∧TermOk l q.right) (h:StackOk b (p::ps)) (hl:b'.1.length=b.1.length+1):StackOk b' ps:=by
 obtain ⟨new,old,e,h1,h2⟩:=h.tail
 have:=psize_len hb (ps:=new) fun q hq=>hps q (List.mem_cons_of_mem _ (e ▸ List.mem_append_left _ hq))
 exact ⟨[],ps,rfl,by simp [psize],by rw [e,List.length_append]; omega⟩
theorem StackOk.args {b:Bnd} {p:Pr} {ps qs:List Pr} (h:StackOk b (p::ps)) (hq:psize b qs+2=(q0d b.1 b.2 p.left).length+(q0d b.1 b.2 p.right).length) (h1:(q0d b.1 b.2 p.left).length≤24) (h2:(q0d b.1 b.2 p.right).length≤24):StackOk b (qs++ps):=by
 obtain ⟨new,old,e,h3,h4⟩:=h
 cases new with
 | nil =>
   rw [List.nil_append] at e
   subst e
   exact ⟨qs,ps,rfl,by omega,by simp at h4; omega⟩
 | cons q new =>
   rw [List.cons_append] at e
   injection e with e1 e2
   subst e1
   rw [psize_cons] at h3
   exact ⟨qs++new,old,by rw [e2,List.append_assoc],by rw [psize_append]; omega,h4⟩
theorem unif_loop {l:List Symbol} {α:Type} {S:Nat→Bnd→List Pr→α} {out:Bnd ⊕ Int→α} (hnil:∀ f b,S (f+1) b []=out (.inl b))
 (hstep:∀ f b p ps,UB l b→TermOk l p.left→TermOk l p.right→(∀ q∈ps,TermOk l q.left∧TermOk l q.right)→ps.length≤400→S (f+1) b (p::ps)=ustep l b p ps out (S f)) :
 ∀ (n f:Nat) (b:Bnd) (ps:List Pr) (r:Bnd ⊕ Int),n≤f→UB l b→(∀ p∈ps,TermOk l p.left∧TermOk l p.right)→StackOk b ps→unif l n b ps=some r→S f b ps=out r
 | 0,f,b,ps,r,hf,hb,hps,hst,h=>by cases h
 | n+1,f,b,ps,r,hf,hb,hps,hst,h=>by
   obtain ⟨f,rfl⟩:∃ q,f=q+1:=⟨f - 1,by omega⟩
   have ih:=unif_loop hnil hstep n f
   cases ps with
   | nil=>cases h; exact hnil f b
   | cons p ps =>
     have hp:=hps p (by simp)
     have hps':∀ q∈ps,TermOk l q.left∧TermOk l q.right:=fun q hq=>hps q (List.mem_cons_of_mem _ hq)
     have hlen:=hst.len hb hps
     rw [hstep f b p ps hb hp.1 hp.2 hps' (by simp at hlen; omega)]
     unfold ustep
     rw [unif] at h
     split at h
     · rename_i c; rw [if_pos c]; cases h; rfl
     rename_i c1
     rw [if_neg c1]
     have hx:=hb.applied_ok hp.1 (by omega)
     have hy:=hb.applied_ok hp.2 (by omega)
     have bindcase:∀ (u t:List Int),TermOk l (q0d b.1 b.2 u)→TermOk l (q0d b.1 b.2 t)→(q0d b.1 b.2 u).getD 0 0 < 0→(q0d b.1 b.2 u).getD 0 0∉q0d b.1 b.2 t→∀ b',q63 b (-1 - (q0d b.1 b.2 u).getD 0 0) (q0d b.1 b.2 t)=some b' →
      unif l n b' ps=some r→S f b' ps=out r:=fun u t hu ht hneg hno b' hb' hr=>by
      obtain ⟨hv,hnb⟩:=hb.head_var hu hneg
      obtain ⟨q1,q2⟩:=bindAll_ub hb hv hnb ht (hb.applied_free t) (by rw [show -1 - (-1 - (q0d b.1 b.2 u).getD 0 0)=(q0d b.1 b.2 u).getD 0 0 by omega]; exact hno) hb'
      exact ih b' ps r (by omega) q1 hps' (hst.bind hb hps q2) hr
     split at h
     · rename_i c; rw [if_pos c]; exact ih b ps r (by omega) hb hps' hst.tail h
     rename_i c2
     rw [if_neg c2]
     split at h
     · rename_i c3
       rw [if_pos c3]
       split at h
       · rename_i c; rw [if_pos c]; cases h; rfl
       rename_i c4
       rw [if_neg c4]
       cases hb':q63 b (-1 - (q0d b.1 b.2 p.left).getD 0 0) (q0d b.1 b.2 p.right) with
       | none=>rw [hb'] at h; cases h; rfl
       | some b'=>rw [hb'] at h; exact bindcase p.left p.right hx hy c3 c4 b' hb' h
     rename_i c3
     rw [if_neg c3]
     split at h
     · rename_i c5
       rw [if_pos c5]
       split at h
       · rename_i c; rw [if_pos c]; cases h; rfl
       rename_i c4
       rw [if_neg c4]
       cases hb':q63 b (-1 - (q0d b.1 b.2 p.right).getD 0 0) (q0d b.1 b.2 p.left) with
       | none=>rw [hb'] at h; cases h; rfl
       | some b'=>rw [hb'] at h; exact bindcase p.right p.left hy hx c5 c4 b' hb' h
     rename_i c5
     rw [if_neg c5]
     split at h
     · rename_i c; rw [if_pos c]; cases h; rfl
     rename_i c6
     rw [if_neg c6]
     have ha:=q57 (b:=b) hx hy (hb.applied_free _) (hb.applied_free _) (by simpa using c6)
     exact ih b _ r (by omega) hb (fun q hq=>by
      rcases List.mem_append.1 hq with hq | hq
      · exact args_ok hx hy q hq
      · exact hps' q hq) (hst.args ha hx.le hy.le) h
theorem cells_tail (p:Pr) (ps:List Pr):((cells (p::ps)).take ((p::ps).length*2)).drop (1*2)=cells ps:=by
 rw [q7b (p::ps) 2 _ rfl,List.take_length,cells_drop _ 2 1 rfl]; rfl
def uT:Bnd ⊕ Int→R
 | .inl b=>some (.tup [.agg [slc b.1,slc b.2],.int .i64 0],[])
 | .inr c=>some (.tup [.agg [.sl 1 [],.sl 1 []],.int .i64 c],[])
theorem q7r {l:List Symbol} {t:List Int} (h:TermOk l t):(cells t)[0]?=some (.int .i64 (t.getD 0 0)):=by
 have hp:=h.pos
 have:=get0 (l:=t) (k:=1) (i:=0) rfl
 rw [Nat.zero_mul] at this
 rw [this,List.getElem?_eq_getElem (by omega),q73 (by omega)]; rfl
section
variable {l:List Symbol} (ok:SigOk ⟨l⟩)
include ok
theorem impl_unify5 {b:Bnd} (hb:UB l b) {ps:List Pr} {u t:List Int} (hu:TermOk l u) (ht:TermOk l t) (hv:0 ≤ -1 - u.getD 0 0 ∧ -1 - u.getD 0 0≤11) {N:Nat} (hN:20≤N) (L0:St→R) :
 q0c.at5 N L0 N (q0c.st5 (cells ps) (cells u) (cells t) b.2.length (0:Nat) (cells l) (cells b.1) (cells b.2) [.int .i64 (-1 - u.getD 0 0)] [slc t]) =
  match q63 b (-1 - u.getD 0 0) t with
  | none=>uT (.inr 2)
  | some b'=>L0 (q0c.st0 (cells ps) (cells l) (cells b'.1) (cells b'.2)):=by
 have hbl:=hb.le
 have hlen:=hb.mb.len
 have htl:=ht.le
 have hpu:=hu.pos
 have hone:=one_mb (l:=l) hv ht
 have hbo:=hone.ok (by omega)
 obtain ⟨v,hve⟩:∃ v,v = -1 - u.getD 0 0:=⟨_,rfl⟩
 have hwr:IntKind.wrap .i64 (-1 - u.getD 0 0)=v:=by rw [q2j (by omega),hve]
 rw [← hve] at hv hone hbo ⊢
 have loop:∀ n k f,k+n=b.2.length→n < f →
  q0c.at5 N L0 f (q0c.st5 (cells ps) (cells u) (cells t) b.2.length (k:Nat) (cells l) (cells b.1) (cells ((b.2.take k).map (q0d [v] [t])++b.2.drop k)) [.int .i64 v] [slc t]) =
   if ((b.2.drop k).any fun x=>decide (24 < (q0d [v] [t] x).length))=true then uT (.inr 2) else
    L0 (q0c.st0 (cells ps) (cells l) (cells (bput (b.1,b.2.map (q0d [v] [t])) v t).1) (cells (bput (b.1,b.2.map (q0d [v] [t])) v t).2)):=by
  intro n
  induction n with
  | zero =>
    intro k f hk hf
    obtain ⟨f,rfl⟩:∃ x,f=x+1:=⟨f - 1,by omega⟩
    obtain rfl:k=b.2.length:=by omega
    rw [List.take_length,List.drop_of_length_le (Nat.le_refl _),List.append_nil]
    have hbind:=q0o b.1 (b.2.map (q0d [v] [t])) v t (by simp; omega) (by omega) (by omega)
    have hu0:=q7r hu
    have hpu':(0:Int) < u.length:=by omega
    simp only [q0c.next5,q0c.round5,evz,Nat.reduceLT,Nat.lt_irrefl,hu0,hwr,sl_cells (k:=1) (l:=t) rfl,hbind,List.any_nil,Bool.false_eq_true]
    rw [show inB (0:Int) u.length=true from (q62 0 u.length).trans (by simp; omega)]
    rfl
  | succ n ih =>
    intro k f hk hf
    obtain ⟨f,rfl⟩:∃ x,f=x+1:=⟨f - 1,by omega⟩
    have hkl:k < b.2.length:=by omega
    have hto:=hb.mb.tm _ (List.getElem_mem hkl)
    have htol:=hto.le
    have happ:LIM F.q0e [.agg [.sl 1 [.int .i64 v],.sl 1 [slc t]],slc b.2[k]]=some (slc (q0d [v] [t] b.2[k]),[]):=(q0e [v] [t] hbo b.2[k] (by omega) (hto.range ok)).eq
    obtain ⟨M,hM⟩:∃ M,M=(b.2.take k).map (q0d [v] [t])++b.2.drop k:=⟨_,rfl⟩
    have hMl:M.length=b.2.length:=by rw [hM]; simp; omega
    have hMk:M[k]?=some b.2[k]:=by
     rw [hM,List.getElem?_append_right (by simp; omega)]
     simp [Nat.min_eq_left (Nat.le_of_lt hkl),List.getElem?_eq_getElem hkl]
    have hkM:k < M.length:=by omega
    have hget:(cells M)[k*1]?=some (slc b.2[k]):=by
     rw [get0 (l:=M) (k:=1) (i:=k) rfl,hMk]; rfl
    have hkc:k*1 < (cells M).length:=by rw [q0j]; simp [show Enc.sz (List Int)=1 from rfl]; omega
    have hset:(cells M).set (k*1) (slc (q0d [v] [t] b.2[k]))=cells (M.set k (q0d [v] [t] b.2[k])):=by
     have:=set_List (l:=M) hkM (q0d [v] [t] b.2[k])
     simpa [setCells] using this
    have hnext:M.set k (q0d [v] [t] b.2[k])=(b.2.take (k+1)).map (q0d [v] [t])++b.2.drop (k+1):=by
     have e1:b.2.take (k+1)=b.2.take k++[b.2[k]]:=(List.take_append_getElem hkl).symm
     rw [hM,e1,List.map_append,List.set_append_right _ _ (by simp; omega)]
     rw [show k - ((b.2.take k).map (q0d [v] [t])).length=0 by simp; omega,List.drop_eq_getElem_cons hkl,List.set_cons_zero]
     simp
    rw [← hM,List.drop_eq_getElem_cons hkl,List.any_cons]
    have hin:inB (k:Int) ((cells M).length / 1)=true:=by rw [q62]; simp [q0j,show Enc.sz (List Int)=1 from rfl]; omega
    by_cases h24:24 < (q0d [v] [t] b.2[k]).length
    · have h24':((q0d [v] [t] b.2[k]).length:Int) > 24:=by omega
      simp only [q0c.next5,q0c.round5,Int.toNat_natCast,hget,hin,List.set_set,List.length_set,List.getElem?_set_self hkc,hkc,evz,Nat.reduceLT,hkl,happ,hkM,h24',h24,Bool.true_or]
      rfl
    · have h24':¬ ((q0d [v] [t] b.2[k]).length:Int) > 24:=by omega
      simp only [q0c.next5,q0c.round5,Int.toNat_natCast,hget,hin,List.set_set,List.length_set,List.getElem?_set_self hkc,hkc,evz,Nat.reduceLT,hkl,happ,hkM,h24',h24,Bool.false_or,sl_cells (k:=1) (l:=q0d [v] [t] b.2[k]) rfl,hset,hnext]
      rw [q0n (by omega)]
      exact ih (k+1) f (by omega) (by omega)
 have:=loop b.2.length 0 N (by omega) (by omega)
 rw [List.take_zero,List.map_nil,List.nil_append,List.drop_zero] at this
 rw [this]
 unfold q63
 by_cases h:(b.2.any fun x=>decide (24 < (q0d [v] [t] x).length))=true
 · rw [if_pos h,if_pos h]
 · rw [if_neg h,if_neg h]
theorem impl_unify3 {b:Bnd} {ps:List Pr} (hps:ps.length≤400) {x y:List Int} (hx:TermOk l x) (hy:TermOk l y) (he:x.getD 0 0=y.getD 0 0) {N:Nat} (hN:20≤N) (L0:St→R) :
 q0c.at3 N L0 N (q0c.st3 (cells ps) (cells x) (cells y) (q34 l x 0).length (0:Nat) (cells l) (cells b.1) (cells b.2) (cells (ints (q34 l y 0))) (cells (ints (q34 l x 0))) (cells ([]:List Pr))) =
  L0 (q0c.st0 (cells (q5p l x y++ps)) (cells l) (cells b.1) (cells b.2)):=by
 have hl:(q34 l x 0).length=(q34 l y 0).length:=by unfold q34; rw [q60,q60,he]
 have h2:=starts_le ok x 0
 have hmx:∀ q∈q34 l x 0,q < x.length:=fun q hq=>(q5y hx (p:=0) (by have:=hx.pos; omega) hq).2
 have hmy:∀ q∈q34 l y 0,q < y.length:=fun q hq=>(q5y hy (p:=0) (by have:=hy.pos; omega) hq).2
 have hzl:((q34 l x 0).zip (q34 l y 0)).length=(q34 l x 0).length:=by rw [List.length_zip]; omega
 have key:=q8v (n:=(q34 l x 0).length) (f:=N) (S:=fun m k (o:List Pr)=>q0c.at3 N L0 m (q0c.st3 (cells ps) (cells x) (cells y) (q34 l x 0).length (k:Nat) (cells l) (cells b.1) (cells b.2) (cells (ints (q34 l y 0))) (cells (ints (q34 l x 0))) (cells o)))
  (st:=fun k=>(q5p l x y).take k) (z:=L0 (q0c.st0 (cells (q5p l x y++ps)) (cells l) (cells b.1) (cells b.2))) (fun m k h => ?_) (fun m => ?_) (by omega)
 · exact key
 · have hky:k < (q34 l y 0).length:=by omega
   have hax:(ints (q34 l x 0))[k]?=some (((q34 l x 0)[k]:Nat):Int):=ints_get h
   have hay:(ints (q34 l y 0))[k]?=some (((q34 l y 0)[k]:Nat):Int):=ints_get hky
   have hsx:=(q3e ok hx (hmx _ (List.getElem_mem h))).eq
   have hsy:=(q3e ok hy (hmy _ (List.getElem_mem hky))).eq
   have hal:k < (q5p l x y).length:=by unfold q5p; rw [List.length_map,hzl]; exact h
   have hak:(q5p l x y)[k]=⟨subAt l x (q34 l x 0)[k],subAt l y (q34 l y 0)[k]⟩:=by simp [q5p]
   have e1:(q5p l x y).take (k+1)=(q5p l x y).take k++[⟨subAt l x (q34 l x 0)[k],subAt l y (q34 l y 0)[k]⟩]:=by rw [← hak]; exact (List.take_append_getElem hal).symm
   have e2:∀ (A:List Pr) (p q:List Int),cells A++[slc p,slc q]=cells (A++[⟨p,q⟩]):=fun A p q=>by rw [q2m]; rfl
   rw [e1]
   simp only [q0c.next3,q0c.round3,evz,Nat.reduceLT,h,hky,ints_length,hax,hay,q28,hsx,hsy,e2]
   rw [q0n (by omega),q1m (q3i (by rw [q0j,q6a]; simp; omega))]
 · rw [List.take_of_length_le (by unfold q5p; rw [List.length_map,hzl]; exact Nat.le_refl _)]
   have hal:(q5p l x y).length≤2:=by unfold q5p; rw [List.length_map,hzl]; exact h2
   simp only [q0c.next3,q0c.round3,evz,Nat.reduceLT,Nat.lt_irrefl,← q2m]
   rw [q1m (q3i (by rw [q0j,q0j,q6a]; omega))]
theorem q0c {a b:List Int} (ha:TermOk l a) (hb:TermOk l b):LIM F.q0c [.agg [slc l],slc a,slc b]=uT (unifR l a b):=by
 obtain ⟨⟨n,hn⟩,_⟩:=q7m ha hb
 have hcall:∀ r,callK prog Ev.A H LIM (n+20) F.q0c [.agg [slc l],slc a,slc b]=uT r→LIM F.q0c [.agg [slc l],slc a,slc b]=uT r:=fun r h=>by
  cases r with
  | inl x=>exact q0q rfl _ h
  | inr x=>exact q0q rfl _ h
 refine hcall _ ((q0c.ev _ _ _ _).trans ?_)
 have loop:=unif_loop (l:=l) (S:=fun f (b:Bnd) (ps:List Pr)=>q0c.at0 (n+20) f (q0c.st0 (cells ps) (cells l) (cells b.1) (cells b.2))) (out:=uT)
  (fun f b=>by
   simp only [q0c.next0,q0c.round0,cells_nil,List.length_nil]
   rfl)
  (fun f b p ps hb h1 h2 hps hl => ?_) n (n+20) ([],[]) [⟨a,b⟩] _ (by omega) (UB.nil l) (fun p hp=>by rw [List.mem_singleton.1 hp]; exact ⟨ha,hb⟩) ⟨[],_,rfl,by simp [psize],by simp⟩ hn
 · exact loop
 · have hbo:=hb.mb.ok (by omega)
   have hl1:=h1.le
   have hl2:=h2.le
   have a1:=(q0e b.1 b.2 hbo p.left (by omega) (h1.range ok)).eq
   have a2:=(q0e b.1 b.2 hbo p.right (by omega) (h2.range ok)).eq
   have g0:(cells (p::ps))[0]?=some (slc p.left):=rfl
   have g1:(cells (p::ps))[1]?=some (slc p.right):=rfl
   have hpl:((p::ps).length:Int) > 0:=by simp
   have hin:inB (0:Int) (p::ps).length=true:=(q62 0 _).trans (by simp)
   have hfx:=hb.applied_free p.left
   have hfy:=hb.applied_free p.right
   have hox:=fun h=>hb.applied_ok h1 h
   have hoy:=fun h=>hb.applied_ok h2 h
   have hhx:=fun h h'=>hb.head_var (hox h) h'
   have hhy:=fun h h'=>hb.head_var (hoy h) h'
   have hb1:decide (0≤(1:Int))=true:=rfl
   have hb2:(1:Int)≤((p::ps).length:Int):=by simp only [List.length_cons]; omega
   have hlx:=q5x hbo p.left
   have hly:=q5x hbo p.right
   obtain ⟨Z,hZ⟩:∃ Z,Z=ustep l b p ps uT (fun (b:Bnd) (ps:List Pr)=>q0c.at0 (n+20) f (q0c.st0 (cells ps) (cells l) (cells b.1) (cells b.2))):=⟨_,rfl⟩
   show _=ustep l b p ps uT (fun (b:Bnd) (ps:List Pr)=>q0c.at0 (n+20) f (q0c.st0 (cells ps) (cells l) (cells b.1) (cells b.2)))
   rw [← hZ]
   unfold ustep at hZ
   simp only [q0c.next0,q0c.round0,evz,Nat.reduceLT,hpl,hin,g0,g1,a1,a2,hb1,hb2,Int.le_refl,Bool.and_self,cells_tail]
   generalize q0d b.1 b.2 p.left=x at *
   generalize q0d b.1 b.2 p.right=y at *
   by_cases c1:24 < x.length
   · have c1':(x.length:Int) > 24:=by omega
     rw [if_pos (.inl c1)] at hZ
     simp only [c1',evz,Nat.reduceLT]
     rw [hZ]
     rfl
   by_cases c1b:24 < y.length
   · have c1':¬ (x.length:Int) > 24:=by omega
     have c1b':(y.length:Int) > 24:=by omega
     rw [if_pos (.inr c1b)] at hZ
     simp only [c1',c1b',evz,Nat.reduceLT]
     rw [hZ]
     rfl
   have c1':¬ (x.length:Int) > 24:=by omega
   have c1b':¬ (y.length:Int) > 24:=by omega
   have hx:=hox (by omega)
   have hy:=hoy (by omega)
   have hxp:=hx.pos
   have hyp:=hy.pos
   have heq:=(q0h x y ⟨by omega,fun _ _=>trivial⟩).eq
   rw [if_neg (by omega)] at hZ
   by_cases c2:x=y
   · rw [if_pos c2] at hZ
     rw [decide_eq_true c2] at heq
     simp only [c1',c1b',evz,Nat.reduceLT,heq]
     rw [hZ]
   rw [if_neg c2] at hZ
   rw [decide_eq_false c2] at heq
   have x0:=q7r hx
   have y0:=q7r hy
   have inx:inB (0:Int) x.length=true:=(q62 0 _).trans (by simp; omega)
   have iny:inB (0:Int) y.length=true:=(q62 0 _).trans (by simp; omega)
   by_cases c3:x.getD 0 0 < 0
   · have c3':¬ x.getD 0 0 ≥ 0:=by omega
     obtain ⟨hv,_⟩:=hhx (by omega) c3
     have hct:=(q1e y (x.getD 0 0) (by omega)).eq
     have h5:=impl_unify5 ok hb (ps:=ps) hx hy hv (N:=n+20) (by omega) (q0c.at0 (n+20) f)
     rw [if_pos c3] at hZ
     by_cases c4:x.getD 0 0∈y
     · rw [if_pos c4] at hZ
       rw [decide_eq_true c4] at hct
       simp only [c1',c1b',evz,Nat.reduceLT,heq,inx,x0,c3,c3',hct]
       rw [hZ]
       rfl
     · rw [if_neg c4] at hZ
       rw [decide_eq_false c4] at hct
       simp only [c1',c1b',evz,Nat.reduceLT,heq,inx,x0,c3,c3',hct,q2j (x := -1 - x.getD 0 0) (by omega),sl_cells (k:=1) (l:=y) rfl]
       rw [hZ]
       exact h5
   rw [if_neg c3] at hZ
   have c3':x.getD 0 0 ≥ 0:=by omega
   by_cases c5:y.getD 0 0 < 0
   · obtain ⟨hv,_⟩:=hhy (by omega) c5
     have hct:=(q1e x (y.getD 0 0) (by omega)).eq
     have h5:=impl_unify5 ok hb (ps:=ps) hy hx hv (N:=n+20) (by omega) (q0c.at0 (n+20) f)
     rw [if_pos c5] at hZ
     by_cases c4:y.getD 0 0∈x
     · rw [if_pos c4] at hZ
       rw [decide_eq_true c4] at hct
       simp only [c1',c1b',evz,Nat.reduceLT,heq,inx,iny,x0,y0,c3,c3',c5,hct]
       rw [hZ]
       rfl
     · rw [if_neg c4] at hZ
       rw [decide_eq_false c4] at hct
       simp only [c1',c1b',evz,Nat.reduceLT,heq,inx,iny,x0,y0,c3,c3',c5,hct,q2j (x := -1 - y.getD 0 0) (by omega),sl_cells (k:=1) (l:=x) rfl]
       rw [hZ]
       exact h5
   rw [if_neg c5] at hZ
   by_cases c6:x.getD 0 0=y.getD 0 0
   · rw [if_neg (by simpa using c6)] at hZ
     have h3:=impl_unify3 ok (b:=b) (ps:=ps) hl hx hy c6 (N:=n+20) (by omega) (q0c.at0 (n+20) f)
     have sx:=(q0p ok hx (p:=0) (by omega)).eq
     have sy:=(q0p ok hy (p:=0) (by omega)).eq
     simp only [c1',c1b',evz,Nat.reduceLT,heq,inx,iny,x0,y0,c3,c5,c6]
     rw [c6] at c3
     have sx':LIM F.q0p [.agg [slc l],slc x,.int .i64 0]=some (slc (ints (q34 l x 0)),[]):=sx
     have sy':LIM F.q0p [.agg [slc l],slc y,.int .i64 0]=some (slc (ints (q34 l y 0)),[]):=sy
     simp only [c5,evz,Nat.reduceLT,sx',sy',ints_length]
     rw [hZ]
     exact h3
   · rw [if_pos c6] at hZ
     simp only [c1',c1b',evz,Nat.reduceLT,heq,inx,iny,x0,y0,c3,c5,c6]
     rw [hZ]
     rfl
end
end Ev.Ty
end
section
namespace Ev.Ty
open Go Ev
open Enc (enc)
open Sm (sm)
set_option linter.unusedSimpArgs false
set_option linter.unusedVariables false
def sbindR (b:Bnd) (v:Int) (t:List Int):Bnd ⊕ Int:=if -1 - v∈t then .inr 4 else match q63 b v t with
 | none => .inr 2
 | some b' => .inl b'
section
variable {l:List Symbol} (ok:SigOk ⟨l⟩)
include ok
theorem q1j {b:Bnd} (hb:UB l b) {v:Int} (hv:0≤v∧v≤11) (hnb:v∉b.1) {t:List Int} (ht:TermOk l t) :
 LIM F.q1j [.rref [slc b.1,slc b.2] 0,.int .i64 v,slc t]=uT (sbindR b v t):=by
 have hcall:∀ r,callK prog Ev.A H LIM 20 F.q1j [.rref [slc b.1,slc b.2] 0,.int .i64 v,slc t]=uT r→LIM F.q1j [.rref [slc b.1,slc b.2] 0,.int .i64 v,slc t]=uT r:=fun r h=>by
  cases r with
  | inl x=>exact q0q rfl _ h
  | inr x=>exact q0q rfl _ h
 have hbl:=hb.le
 have hlen:=hb.mb.len
 have htl:=ht.le
 have hone:=one_mb (l:=l) hv ht
 have hbo:=hone.ok (by omega)
 refine hcall _ ((q1j.ev _ _ _ _ _).trans ?_)
 have hc:=(q1f t (-1 - v) (by omega)).eq
 have hi:=(q4h b.1 (by omega)).eq
 unfold sbindR
 by_cases hm : -1 - v∈t
 · have h0:((t.count (-1 - v):Nat):Int) > 0:=by have:=List.count_pos_iff.2 hm; omega
   rw [if_pos hm]
   simp only [evz,Nat.reduceLT,q2j (x := -1 - v) (by omega),hc,h0]
   rfl
 have h0:¬ ((t.count (-1 - v):Nat):Int) > 0:=by rw [List.count_eq_zero.2 hm]; omega
 rw [if_neg hm]
 simp only [evz,Nat.reduceLT,q2j (x := -1 - v) (by omega),hc,h0,hi]
 have loop:∀ n k f,k+n=b.2.length→n < f→(∀ x∈b.2.take k,(q0d [v] [t] x).length≤24) →
  q1j.at0 20 f (q1j.st0 (cells b.1) (cells b.2) v (cells t) (k:Nat) [.int .i64 v] [slc t] (cells b.1) (cells ((b.2.take k).map (q0d [v] [t])))) =
   if ((b.2.drop k).any fun x=>decide (24 < (q0d [v] [t] x).length))=true then uT (.inr 2) else uT (.inl (bput (b.1,b.2.map (q0d [v] [t])) v t)):=by
  intro n
  induction n with
  | zero =>
    intro k f hk hf hq
    obtain ⟨f,rfl⟩:∃ x,f=x+1:=⟨f - 1,by omega⟩
    obtain rfl:k=b.2.length:=by omega
    rw [List.take_length] at hq ⊢
    rw [List.drop_of_length_le (Nat.le_refl _)]
    have hw:=(q15 b.1 (b.2.map (q0d [v] [t])) v t (by simp; omega) (by omega) (by omega) hnb (fun x hx=>by
     obtain ⟨y,hy,rfl⟩:=List.mem_map.1 hx
     have:=hq y hy
     omega)).eq
    simp only [q1j.next0,q1j.round0,evz,Nat.reduceLT,Nat.lt_irrefl,hw,List.any_nil,Bool.false_eq_true,if_false]
    rfl
  | succ n ih =>
    intro k f hk hf hq
    obtain ⟨f,rfl⟩:∃ x,f=x+1:=⟨f - 1,by omega⟩
    have hkl:k < b.2.length:=by omega
    have hto:=hb.mb.tm _ (List.getElem_mem hkl)
    have htol:=hto.le
    have happ:LIM F.q0w [.rref [.sl 1 [.int .i64 v],.sl 1 [slc t]] 0,slc b.2[k]]=some (slc (q0d [v] [t] b.2[k]),[]):=(q0w [v] [t] hbo b.2[k] (by omega) (hto.range ok)).eq
    have hg:b.2[k]?=some b.2[k]:=List.getElem?_eq_getElem hkl
    have he:∀ x:List Int,(enc x)[0]?=some (slc x):=fun _=>rfl
    rw [List.drop_eq_getElem_cons hkl,List.any_cons]
    have e1:(b.2.take (k+1)).map (q0d [v] [t])=(b.2.take k).map (q0d [v] [t])++[q0d [v] [t] b.2[k]]:=by rw [← List.take_append_getElem hkl,List.map_append]; rfl
    by_cases h24:24 < (q0d [v] [t] b.2[k]).length
    · have h24':((q0d [v] [t] b.2[k]).length:Int) > 24:=by omega
      simp only [q1j.next0,q1j.round0,evz,Nat.reduceLT,hkl,hg,he,happ,h24',h24,Bool.true_or]
      rfl
    · have h24':¬ ((q0d [v] [t] b.2[k]).length:Int) > 24:=by omega
      simp only [q1j.next0,q1j.round0,evz,Nat.reduceLT,hkl,hg,he,happ,h24',h24,Bool.false_or]
      rw [q0n (by omega),q1m (q3i (by rw [q0j,show Enc.sz (List Int)=1 from rfl]; simp; omega))]
      have:=ih (k+1) f (by omega) (by omega) (fun x hx=>by
       rw [← List.take_append_getElem hkl] at hx
       rcases List.mem_append.1 hx with hx | hx
       · exact hq x hx
       · rw [List.mem_singleton.1 hx]; omega)
      rw [e1,q2m] at this
      exact this
 have:=loop b.2.length 0 20 (by omega) (by omega) (by simp)
 rw [List.take_zero,List.map_nil,List.drop_zero] at this
 refine this.trans ?_
 unfold q63
 by_cases h:(b.2.any fun x=>decide (24 < (q0d [v] [t] x).length))=true
 · rw [if_pos h,if_pos h]
 · rw [if_neg h,if_neg h]
theorem q1y {x y:List Int} (hx:TermOk l x) (hy:TermOk l y) (h0:0≤x.getD 0 0) (he:x.getD 0 0=y.getD 0 0):Call F.q1y [.rref [slc l] 0,slc x,slc y] (slc (q5p l x y)):=by
 have hlx:=hx.le
 have hly:=hy.le
 have hxp:=hx.pos
 have hyp:=hy.pos
 have hdx:x.getD 0 0=x[0]:=q73 (by omega)
 have hdy:y.getD 0 0=y[0]:=q73 (by omega)
 have har:=ar_le (l:=l) ok x[0]
 have hnode:=q50.1 (hx.node _ (List.getElem_mem (n:=0) (by omega)))
 have hls:l.length≤6:=ok.le
 obtain ⟨u,hu⟩:∃ u:Nat,x[0]=u:=⟨x[0].toNat,by omega⟩
 have hul:u < l.length:=by omega
 have hare:(l[u]).arity=(ar l x[0]:Nat):=by
  have:=ar_eq ok (n:=x[0]) (by omega) (by rw [hu]; simpa using hul)
  simpa [hu] using this
 have hin:inB (0:Int) x.length=true:=(q62 0 _).trans (by simp; omega)
 have hx0:=q7r hx
 rw [hdx,hu] at hx0
 have hlu:l[u]?=some l[u]:=List.getElem?_eq_getElem hul
 refine q0q rfl 4 ((q1y.ev _ _ _ _).trans ?_)
 have loop:∀ n k q r f (out:List Pr) rx ry,k+n=ar l x[0]→n < f→skip (ar l) n (x.drop q)=some rx→skip (ar l) n (y.drop r)=some ry→out.length=k →
  q1y.at0 4 f (q1y.st0 (cells l) (cells x) (cells y) (q:Nat) (r:Nat) (k:Nat) (cells out)) =
   some (slc (out++((q67 l x n q).zip (q67 l y n r)).map fun p=>(⟨subAt l x p.1,subAt l y p.2⟩:Pr)),[]):=by
  intro n
  induction n with
  | zero =>
    intro k q r f out rx ry hk hf h1 h2 ho
    obtain ⟨f,rfl⟩:∃ x,f=x+1:=⟨f - 1,by omega⟩
    have:¬ k < ar l x[0]:=by omega
    rw [hu] at this
    simp only [q1y.next0,q1y.round0,evz,Nat.reduceLT,hin,hx0,hlu,hul,q30,hare,q67,List.zip_nil_left,List.map_nil,List.append_nil,hu,this]
  | succ n ih =>
    intro k q r f out rx ry hk hf h1 h2 ho
    obtain ⟨f,rfl⟩:∃ x,f=x+1:=⟨f - 1,by omega⟩
    obtain ⟨a1,a2,a3,a4⟩:=skip_one h1
    obtain ⟨b1,b2,b3,b4⟩:=skip_one h2
    have hlt:k < ar l x[0]:=by omega
    rw [hu] at hlt
    have sx:=(q51 ok hx a1).eq
    have sy:=(q51 ok hy b1).eq
    have ex:q+(subAt l x q).length=endAt l x q:=by unfold subAt; simp; omega
    have ey:r+(subAt l y r).length=endAt l y r:=by unfold subAt; simp; omega
    have ic:=ih (k+1) (endAt l x q) (endAt l y r) f (out++[⟨subAt l x q,subAt l y r⟩]) rx ry (by omega) (by omega) a2 b2 (by simp [ho])
    simp only [q1y.next0,q1y.round0,evz,Nat.reduceLT,hin,hx0,hlu,hul,q30,hare,hu,hlt,sx,sy]
    rw [q2j (x:=(q:Int)+_) (by omega),q2j (x:=(r:Int)+_) (by omega),q0n (by omega),q1m (q3i (by rw [q0j,q6a]; omega))]
    rw [show (q:Int)+((subAt l x q).length:Nat)=(endAt l x q:Nat) by omega,show (r:Int)+((subAt l y r).length:Nat)=(endAt l y r:Nat) by omega]
    rw [q2m] at ic
    refine Eq.trans ?_ (ic.trans ?_)
    · rfl
    · rw [q67,q67,List.zip_cons_cons,List.map_cons,List.append_assoc]; rfl
 obtain ⟨rx,hrx⟩:=args_skip hx (p:=0) (by omega)
 obtain ⟨ry,hry⟩:=args_skip hy (p:=0) (by omega)
 have hay:ar l y[0]=ar l x[0]:=by rw [← hdx,← hdy,he]
 rw [hay] at hry
 have:=loop (ar l x[0]) 0 1 1 4 [] rx ry (by omega) (by omega) hrx hry rfl
 unfold q5p q34
 rw [hdx,hdy,hay]
 exact this
theorem q10 {a b:List Int} (ha:TermOk l a) (hb:TermOk l b):LIM F.q10 [.rref [slc l] 0,slc a,slc b]=uT (unifR l a b):=by
 obtain ⟨⟨n,hn⟩,_⟩:=q7m ha hb
 have hal:=ha.le
 have hbl:=hb.le
 have hcall:∀ r,callK prog Ev.A H LIM (n+20) F.q10 [.rref [slc l] 0,slc a,slc b]=uT r→LIM F.q10 [.rref [slc l] 0,slc a,slc b]=uT r:=fun r h=>by
  cases r with
  | inl x=>exact q0q rfl _ h
  | inr x=>exact q0q rfl _ h
 refine hcall _ ((q10.ev _ _ _ _).trans ?_)
 have i1:=(q4h a (by omega)).eq
 have i2:=(q4h b (by omega)).eq
 simp only [evz,Nat.reduceLT,i1,i2]
 have loop:=unif_loop (l:=l) (S:=fun f (b:Bnd) (ps:List Pr)=>q10.at0 (n+20) f (q10.st0 (cells l) (cells ps) (cells b.1) (cells b.2))) (out:=uT)
  (fun f b=>by
   simp only [q10.next0,q10.round0,cells_nil,List.length_nil]
   rfl)
  (fun f b p ps hb h1 h2 hps hl => ?_) n (n+20) ([],[]) [⟨a,b⟩] _ (by omega) (UB.nil l) (fun p hp=>by rw [List.mem_singleton.1 hp]; exact ⟨ha,hb⟩) ⟨[],_,rfl,by simp [psize],by simp⟩ hn
 · exact loop
 · have hbo:=hb.mb.ok (by omega)
   have hl1:=h1.le
   have hl2:=h2.le
   have a1:=(q0w b.1 b.2 hbo p.left (by omega) (h1.range ok)).eq
   have a2:=(q0w b.1 b.2 hbo p.right (by omega) (h2.range ok)).eq
   have g0:(cells (p::ps))[0]?=some (slc p.left):=rfl
   have g1:(cells (p::ps))[1]?=some (slc p.right):=rfl
   have hpl:((p::ps).length:Int) > 0:=by simp
   have hin:inB (0:Int) (p::ps).length=true:=(q62 0 _).trans (by simp)
   have hfx:=hb.applied_free p.left
   have hfy:=hb.applied_free p.right
   have hox:=fun h=>hb.applied_ok h1 h
   have hoy:=fun h=>hb.applied_ok h2 h
   have hhx:=fun h h'=>hb.head_var (hox h) h'
   have hhy:=fun h h'=>hb.head_var (hoy h) h'
   have hb1:decide (0≤(1:Int))=true:=rfl
   have hb2:(1:Int)≤((p::ps).length:Int):=by simp only [List.length_cons]; omega
   have hlx:=q5x hbo p.left
   have hly:=q5x hbo p.right
   obtain ⟨Z,hZ⟩:∃ Z,Z=ustep l b p ps uT (fun (b:Bnd) (ps:List Pr)=>q10.at0 (n+20) f (q10.st0 (cells l) (cells ps) (cells b.1) (cells b.2))):=⟨_,rfl⟩
   show _=ustep l b p ps uT (fun (b:Bnd) (ps:List Pr)=>q10.at0 (n+20) f (q10.st0 (cells l) (cells ps) (cells b.1) (cells b.2)))
   rw [← hZ]
   unfold ustep at hZ
   simp only [q10.next0,q10.round0,evz,Nat.reduceLT,hpl,hin,g0,g1,a1,a2,hb1,hb2,Int.le_refl,Bool.and_self,cells_tail]
   generalize q0d b.1 b.2 p.left=x at *
   generalize q0d b.1 b.2 p.right=y at *
   by_cases c1:24 < x.length
   · have c1':(x.length:Int) > 24:=by omega
     rw [if_pos (.inl c1)] at hZ
     simp only [c1',evz,Nat.reduceLT]
     rw [hZ]
     rfl
   by_cases c1b:24 < y.length
   · have c1':¬ (x.length:Int) > 24:=by omega
     have c1b':(y.length:Int) > 24:=by omega
     rw [if_pos (.inr c1b)] at hZ
     simp only [c1',c1b',evz,Nat.reduceLT]
     rw [hZ]
     rfl
   have c1':¬ (x.length:Int) > 24:=by omega
   have c1b':¬ (y.length:Int) > 24:=by omega
   have hx:=hox (by omega)
   have hy:=hoy (by omega)
   have hxp:=hx.pos
   have hyp:=hy.pos
   have heq:=(q1l x y ⟨by omega,fun _ _=>trivial⟩).eq
   rw [if_neg (by omega)] at hZ
   by_cases c2:x=y
   · rw [if_pos c2] at hZ
     rw [decide_eq_true c2] at heq
     simp only [c1',c1b',evz,Nat.reduceLT,heq]
     rw [hZ]
   rw [if_neg c2] at hZ
   rw [decide_eq_false c2] at heq
   have x0:=q7r hx
   have y0:=q7r hy
   have inx:inB (0:Int) x.length=true:=(q62 0 _).trans (by simp; omega)
   have iny:inB (0:Int) y.length=true:=(q62 0 _).trans (by simp; omega)
   by_cases c3:x.getD 0 0 < 0
   · obtain ⟨hv,hnb⟩:=hhx (by omega) c3
     have h5:=q1j ok hb hv hnb hy
     unfold sbindR at h5
     rw [show -1 - (-1 - x.getD 0 0)=x.getD 0 0 by omega] at h5
     rw [if_pos c3] at hZ
     by_cases c4:x.getD 0 0∈y
     · rw [if_pos c4] at hZ h5
       simp only [c1',c1b',evz,Nat.reduceLT,heq,inx,x0,c3,q2j (x := -1 - x.getD 0 0) (by omega),h5]
       rw [hZ]
       rfl
     · rw [if_neg c4] at hZ h5
       simp only [c1',c1b',evz,Nat.reduceLT,heq,inx,x0,c3,q2j (x := -1 - x.getD 0 0) (by omega),h5]
       rw [hZ]
       cases q63 b (-1 - x.getD 0 0) y with
       | none=>rfl
       | some b'=>rfl
   rw [if_neg c3] at hZ
   by_cases c5:y.getD 0 0 < 0
   · obtain ⟨hv,hnb⟩:=hhy (by omega) c5
     have h5:=q1j ok hb hv hnb hx
     unfold sbindR at h5
     rw [show -1 - (-1 - y.getD 0 0)=y.getD 0 0 by omega] at h5
     rw [if_pos c5] at hZ
     by_cases c4:y.getD 0 0∈x
     · rw [if_pos c4] at hZ h5
       simp only [c1',c1b',evz,Nat.reduceLT,heq,inx,iny,x0,y0,c3,c5,q2j (x := -1 - y.getD 0 0) (by omega),h5]
       rw [hZ]
       rfl
     · rw [if_neg c4] at hZ h5
       simp only [c1',c1b',evz,Nat.reduceLT,heq,inx,iny,x0,y0,c3,c5,q2j (x := -1 - y.getD 0 0) (by omega),h5]
       rw [hZ]
       cases q63 b (-1 - y.getD 0 0) x with
       | none=>rfl
       | some b'=>rfl
   rw [if_neg c5] at hZ
   by_cases c6:x.getD 0 0=y.getD 0 0
   · rw [if_neg (by simpa using c6)] at hZ
     have h3:=(q1y ok hx hy (by omega) c6).eq
     have hal:(q5p l x y).length≤2:=by
      have:=starts_le ok x 0
      unfold q5p; rw [List.length_map,List.length_zip]; omega
     rw [c6] at x0 c3
     simp only [c1',c1b',evz,Nat.reduceLT,heq,inx,iny,x0,y0,c3,c5,eq_self,h3]
     rw [q1m (q3i (by rw [q0j,q0j,q6a]; omega)),← q2m]
     rw [hZ]
   · rw [if_pos c6] at hZ
     simp only [c1',c1b',evz,Nat.reduceLT,heq,inx,iny,x0,y0,c3,c5,c6]
     rw [hZ]
     rfl
end
end Ev.Ty
end
section
namespace Ev.Ty
open Go Ev
open Enc (enc)
open Sm (sm)
set_option linter.unusedSimpArgs false
set_option linter.unusedVariables false
theorem q4e (t:List Int) (b:Int):(q4a t b).length=t.length:=by simp [q4a]
theorem shiftT_succ {t:List Int} {b:Int} {k:Nat} (h:k < t.length):q4a (t.take (k+1)) b=q4a (t.take k) b++[if t[k] < 0 then t[k] - b else t[k]]:=by
 rw [← List.take_append_getElem h]; unfold q4a; rw [List.map_append]; rfl
theorem q1c (t:List Int) (ht:t.length≤4096) (hr:∀ n∈t,-4611686018427387904≤n):Call F.q1c [slc t,.int .i64 6] (slc (q4a t 6)):=by
 refine q0q rfl (t.length+1) ((q1c.ev _ _ _).trans ?_)
 simp only [evz,Nat.reduceLT,(q23 t (by omega)).eq]
 have key:=q8v (n:=t.length) (f:=t.length+1) (S:=fun m k (o:List Int)=>q1c.at0 (t.length+1) m (q1c.st0 6 t.length (k:Nat) (cells o)))
  (st:=fun k=>q4a (t.take k) 6++t.drop k) (z:=some (slc (q4a t 6),[])) (fun m k h => ?_) (fun m => ?_) (by omega)
 · exact key
 · have hn:=hr t[k] (List.getElem_mem h)
   have e1:q4a (t.take (k+1)) 6++t.drop (k+1)=(q4a (t.take k) 6++t.drop k).set k (if t[k] < 0 then t[k] - 6 else t[k]):=by
    rw [shiftT_succ h,List.set_append_right _ _ (by rw [q4e]; simp; omega),List.drop_eq_getElem_cons h]
    rw [show k - (q4a (t.take k) 6).length=0 by rw [q4e]; simp; omega,List.set_cons_zero]
    simp
   obtain ⟨M,hM⟩:∃ M,M=q4a (t.take k) 6++t.drop k:=⟨_,rfl⟩
   have hMl:M.length=t.length:=by rw [hM]; simp [q4e]; omega
   have hMk:M[k]?=some t[k]:=by
    rw [hM,List.getElem?_append_right (by rw [q4e]; simp; omega)]
    simp [q4e,Nat.min_eq_left (Nat.le_of_lt h),List.getElem?_eq_getElem h]
   rw [e1,← hM]
   have hkM:k < M.length:=by omega
   have hkc:k*1+1≤(cells M).length:=by rw [q0j,q38]; omega
   simp only [q1c.next0,q1c.round0,evz,Nat.reduceLT,h,hMk,hkM,q28]
   by_cases hneg:t[k] < 0
   · rw [q2j (x:=t[k] - 6) (by omega)]
     have:=set_Int hkM (t[k] - 6)
     simp only [hneg,evz,Nat.reduceLT,this,hkc]
     rw [q0n (by omega)]
   · have hs:M.set k t[k]=M:=set_same hMk
     simp only [hneg,evz,Nat.reduceLT,hs]
     rw [q0n (by omega)]
 · rw [List.take_length,List.drop_of_length_le (Nat.le_refl _),List.append_nil]
   simp only [q1c.next0,q1c.round0,evz,Nat.reduceLT,Nat.lt_irrefl]
theorem q1d (t:List Int) (ht:t.length≤4096) (hr:∀ n∈t,-4611686018427387904≤n):Call F.q1d [slc t,.int .i64 6] (slc (q4a t 6)):=by
 refine q0q rfl (t.length+1) ((q1d.ev _ _ _).trans ?_)
 have key:=q8v (n:=t.length) (f:=t.length+1) (S:=fun m k (o:List Int)=>q1d.at0 (t.length+1) m (q1d.st0 (cells t) 6 (k:Nat) (cells o)))
  (st:=fun k=>q4a (t.take k) 6) (z:=some (slc (q4a t 6),[])) (fun m k h => ?_) (fun m => ?_) (by omega)
 · exact key
 · have hn:=hr t[k] (List.getElem_mem h)
   have hlk:t[k]?=some t[k]:=List.getElem?_eq_getElem h
   have hb:Nat.ble (((cells (q4a (t.take k) 6)).length+1)*8) (140737488355328*1)=true:=q3i (by rw [q0j,q38,q4e]; simp; omega)
   rw [shiftT_succ h]
   simp only [q1d.next0,q1d.round0,evz,Nat.reduceLT,h,hlk,q28]
   by_cases hneg:t[k] < 0
   · rw [q2j (x:=t[k] - 6) (by omega)]
     simp only [hneg,evz,Nat.reduceLT,q2d]
     rw [q0n (by omega),q1m hb]
   · simp only [hneg,evz,Nat.reduceLT,q2d]
     rw [q0n (by omega),q1m hb]
 · rw [List.take_length]
   simp only [q1d.next0,q1d.round0,evz,Nat.reduceLT,Nat.lt_irrefl]
theorem q80 {s:List Int} {n:Int}:idx (fun x=>decide (x=n)) s < 0↔n∉s:=by
 rcases q7c (fun x:Int=>decide (x=n)) s with ⟨h1,h2⟩ | ⟨i,hi,h1,h2,_⟩
 · exact ⟨fun _ hm=>by have:=h2 n hm; simp at this,fun _=>by omega⟩
 · exact ⟨fun h=>by omega,fun h=>absurd ((show s[i]=n by simpa using h2) ▸ List.getElem_mem hi) h⟩
theorem idx_snoc {s:List Int} {n:Int} (h:n∉s):idx (fun x=>decide (x=n)) (s++[n])=s.length:=by
 unfold idx
 have:(s++[n]).findIdx? (fun x=>decide (x=n))=some s.length:=by
  rw [List.findIdx?_append]
  have h0:s.findIdx? (fun x=>decide (x=n))=none:=by
   rw [List.findIdx?_eq_none_iff]
   intro x hx
   have:x≠n:=fun e=>h (e ▸ hx)
   simpa using this
  rw [h0]
  simp [List.findIdx?_cons]
 rw [this]
theorem idx_range (s:List Int) (n:Int) : -1≤idx (fun x=>decide (x=n)) s∧idx (fun x=>decide (x=n)) s < s.length+1:=by
 rcases q7c (fun x:Int=>decide (x=n)) s with ⟨h1,_⟩ | ⟨i,hi,h1,_,_⟩ <;> omega
def plSt (seen t:List Int) (k:Nat):List Int × List Int:=((q2b seen (t.take k)).1++t.drop k,(q2b seen (t.take k)).2)
theorem plSt_len (seen t:List Int) {k:Nat} (hk:k≤t.length):(plSt seen t k).1.length=t.length:=by
 have:=(q3x seen (t.take k)).1
 unfold plSt; simp only [List.length_append,this]; simp; omega
theorem plSt_get (seen t:List Int) {k:Nat} (h:k < t.length):(plSt seen t k).1[k]?=some t[k]:=by
 have hl:=(q3x seen (t.take k)).1
 rw [List.length_take,Nat.min_eq_left (Nat.le_of_lt h)] at hl
 unfold plSt
 simp only
 rw [List.getElem?_append_right (by omega),hl,Nat.sub_self,List.drop_eq_getElem_cons h]; rfl
theorem plSt_seen (seen t:List Int) (k:Nat):(plSt seen t k).2.length≤seen.length+k:=by
 have:=(q3x seen (t.take k)).2.1
 unfold plSt
 simp at this ⊢
 omega
theorem plSt_succ (seen t:List Int) {k:Nat} (h:k < t.length):plSt seen t (k+1)=((plSt seen t k).1.set k (pstep (plSt seen t k).2 t[k]).1,(pstep (plSt seen t k).2 t[k]).2):=by
 have hl:=(q3x seen (t.take k)).1
 rw [List.length_take,Nat.min_eq_left (Nat.le_of_lt h)] at hl
 unfold plSt
 simp only
 rw [← List.take_append_getElem h,q8q,List.set_append_right _ _ (by omega),hl,Nat.sub_self,List.drop_eq_getElem_cons h,List.set_cons_zero]
 simp [q2b]
theorem plSt_zero (seen t:List Int):plSt seen t 0=(t,seen):=by simp [plSt,q2b]
theorem plSt_end (seen t:List Int):plSt seen t t.length=q2b seen t:=by simp [plSt]
theorem plSt_pos (seen t:List Int) {k:Nat} (h:k < t.length) (h0:0≤t[k]):plSt seen t (k+1)=plSt seen t k:=by
 have e:=plSt_succ seen t h
 have:pstep (plSt seen t k).2 t[k]=(t[k],(plSt seen t k).2):=by unfold pstep; rw [if_pos h0]
 rw [e,this,set_same (plSt_get seen t h)]
theorem plSt_new (seen t:List Int) {k:Nat} (h:k < t.length) (h0:¬ 0≤t[k]) (hn:t[k]∉(plSt seen t k).2) :
 plSt seen t (k+1)=((plSt seen t k).1.set k (-1 - ((plSt seen t k).2.length:Int)),(plSt seen t k).2++[t[k]]):=by
 rw [plSt_succ seen t h]
 unfold pstep
 rw [if_neg h0,if_pos (q80.2 hn)]
theorem plSt_old (seen t:List Int) {k:Nat} (h:k < t.length) (h0:¬ 0≤t[k]) (hn:t[k]∈(plSt seen t k).2) :
 plSt seen t (k+1)=((plSt seen t k).1.set k (-1 - idx (fun x=>decide (x=t[k])) (plSt seen t k).2),(plSt seen t k).2):=by
 rw [plSt_succ seen t h]
 unfold pstep
 rw [if_neg h0,if_neg (fun e=>q80.1 e hn)]
theorem impl_plain2 (seen t r:List Int) (hs:seen.length≤4096) (ht:t.length≤4096) {N:Nat} (hN:t.length < N) (L0:St→R) :
 q08.at2 N L0 N (q08.st2 2 (0:Nat) t.length (0:Nat) (cells seen) (cells t) (cells r))=L0 (q08.st0 2 (1:Nat) (cells (q2b seen t).2) (cells (q2b seen t).1) (cells r)):=by
 have key:=q8v (n:=t.length) (f:=N) (S:=fun m k (o:List Int × List Int)=>q08.at2 N L0 m (q08.st2 2 (0:Nat) t.length (k:Nat) (cells o.2) (cells o.1) (cells r)))
  (st:=fun k=>plSt seen t k) (z:=L0 (q08.st0 2 (1:Nat) (cells (q2b seen t).2) (cells (q2b seen t).1) (cells r))) (fun m k h => ?_) (fun m => ?_) (by omega)
 · rw [plSt_zero] at key; exact key
 · have hl:=plSt_len seen t (Nat.le_of_lt h)
   have hg:=plSt_get seen t h
   have hsl:=plSt_seen seen t k
   have hp:=plSt_pos seen t h
   have hnw:=plSt_new seen t h
   have hod:=plSt_old seen t h
   generalize plSt seen t (k+1)=P at *
   generalize plSt seen t k=Q at *
   obtain ⟨M,s⟩:=Q
   simp only at hl hg hsl hp hnw hod
   have hkM:k < M.length:=by omega
   have hkc:k*1+1≤(cells M).length:=by rw [q0j,q38]; omega
   have hct:=(q1e s t[k] (by omega)).eq
   have hix:=(q0b s t[k] (by omega)).eq
   have hix':=(q0b (s++[t[k]]) t[k] (by simp; omega)).eq
   have hrg:=idx_range s t[k]
   by_cases h0:0≤t[k]
   · have h0':t[k] ≥ 0:=h0
     rw [hp h0]
     simp only [q08.next2,q08.round2,evz,Nat.reduceLT,h,hg,hkM,q28,h0']
     rw [q0n (by omega)]
   · have h0':¬ t[k] ≥ 0:=h0
     by_cases hm:t[k]∈s
     · rw [hod h0 hm]
       rw [decide_eq_true hm] at hct
       have:=set_Int hkM (-1 - idx (fun x=>decide (x=t[k])) s)
       simp only [q08.next2,q08.round2,evz,Nat.reduceLT,h,hg,hkM,q28,h0',hct,hix,q2j (x := -1 - idx (fun x=>decide (x=t[k])) s) (by omega),this,hkc]
       rw [q0n (by omega)]
     · rw [hnw h0 hm]
       rw [decide_eq_false hm] at hct
       rw [idx_snoc hm] at hix'
       have:=set_Int hkM (-1 - (s.length:Int))
       simp only [q08.next2,q08.round2,evz,Nat.reduceLT,h,hg,hkM,q28,h0',hct,q2d,hix',q2j (x := -1 - (s.length:Int)) (by omega),this,hkc]
       rw [q0n (by omega),q1m (q3i (by rw [q0j,q38]; omega))]
 · rw [plSt_end]
   simp only [q08.next2,q08.round2,evz,Nat.reduceLT,Nat.lt_irrefl]
   rw [q0n (by omega)]
theorem impl_plain3 (seen t r:List Int) (hs:seen.length≤4096) (ht:t.length≤4096) {N:Nat} (hN:t.length < N) (L0:St→R) :
 q08.at1002 N L0 N (q08.st1002 2 (1:Nat) t.length (0:Nat) (cells seen) (cells r) (cells t))=L0 (q08.st0 2 (2:Nat) (cells (q2b seen t).2) (cells r) (cells (q2b seen t).1)):=by
 have key:=q8v (n:=t.length) (f:=N) (S:=fun m k (o:List Int × List Int)=>q08.at1002 N L0 m (q08.st1002 2 (1:Nat) t.length (k:Nat) (cells o.2) (cells r) (cells o.1)))
  (st:=fun k=>plSt seen t k) (z:=L0 (q08.st0 2 (2:Nat) (cells (q2b seen t).2) (cells r) (cells (q2b seen t).1))) (fun m k h => ?_) (fun m => ?_) (by omega)
 · rw [plSt_zero] at key; exact key
 · have hl:=plSt_len seen t (Nat.le_of_lt h)
   have hg:=plSt_get seen t h
   have hsl:=plSt_seen seen t k
   have hp:=plSt_pos seen t h
   have hnw:=plSt_new seen t h
   have hod:=plSt_old seen t h
   generalize plSt seen t (k+1)=P at *
   generalize plSt seen t k=Q at *
   obtain ⟨M,s⟩:=Q
   simp only at hl hg hsl hp hnw hod
   have hkM:k < M.length:=by omega
   have hkc:k*1+1≤(cells M).length:=by rw [q0j,q38]; omega
   have hct:=(q1e s t[k] (by omega)).eq
   have hix:=(q0b s t[k] (by omega)).eq
   have hix':=(q0b (s++[t[k]]) t[k] (by simp; omega)).eq
   have hrg:=idx_range s t[k]
   by_cases h0:0≤t[k]
   · have h0':t[k] ≥ 0:=h0
     rw [hp h0]
     simp only [q08.next1002,q08.round1002,evz,Nat.reduceLT,h,hg,hkM,q28,h0']
     rw [q0n (by omega)]
   · have h0':¬ t[k] ≥ 0:=h0
     by_cases hm:t[k]∈s
     · rw [hod h0 hm]
       rw [decide_eq_true hm] at hct
       have:=set_Int hkM (-1 - idx (fun x=>decide (x=t[k])) s)
       simp only [q08.next1002,q08.round1002,evz,Nat.reduceLT,h,hg,hkM,q28,h0',hct,hix,q2j (x := -1 - idx (fun x=>decide (x=t[k])) s) (by omega),this,hkc]
       rw [q0n (by omega)]
     · rw [hnw h0 hm]
       rw [decide_eq_false hm] at hct
       rw [idx_snoc hm] at hix'
       have:=set_Int hkM (-1 - (s.length:Int))
       simp only [q08.next1002,q08.round1002,evz,Nat.reduceLT,h,hg,hkM,q28,h0',hct,q2d,hix',q2j (x := -1 - (s.length:Int)) (by omega),this,hkc]
       rw [q0n (by omega),q1m (q3i (by rw [q0j,q38]; omega))]
 · rw [plSt_end]
   simp only [q08.next1002,q08.round1002,evz,Nat.reduceLT,Nat.lt_irrefl]
   rw [q0n (by omega)]
theorem impl_plain0 (a b:List Int) (ha:a.length≤1024) {N:Nat} (hN:1100≤N) (f:Nat) :
 q08.at0 N (f+1) (q08.st0 2 (0:Int) [] (cells a) (cells b))=q08.at0 N f (q08.st0 2 (1:Nat) (cells (q2b [] a).2) (cells (q2b [] a).1) (cells b)):=by
 have h2:=impl_plain2 [] a b (by simp) (by omega) (N:=N) (by omega) (q08.at0 N f)
 rw [show ((0:Nat):Int)=0 from rfl,cells_nil] at h2
 rw [q08.next0,q08.round0]
 simp only [q4j,q38]
 rw [q1m (by decide),q1m (by decide),q1m (by decide)]
 exact h2
theorem impl_plain1 (seen a b:List Int) (hs:seen.length≤4096) (hb:b.length≤1024) {N:Nat} (hN:1100≤N) (f:Nat) :
 q08.at0 N (f+1) (q08.st0 2 (1:Nat) (cells seen) (cells a) (cells b))=q08.at0 N f (q08.st0 2 (2:Nat) (cells (q2b seen b).2) (cells a) (cells (q2b seen b).1)):=by
 have h3:=impl_plain3 seen b a hs (by omega) (N:=N) (by omega) (q08.at0 N f)
 rw [show ((0:Nat):Int)=0 from rfl] at h3
 rw [q08.next0,q08.round0]
 simp only [q4j,q38]
 rw [q1m (by decide),q1m (by decide),cond_neg (by decide),q1m (by decide)]
 exact h3
theorem impl_plain4 (s a b:List Int) {N:Nat} (f:Nat):q08.at0 N (f+1) (q08.st0 2 (2:Nat) (cells s) (cells a) (cells b))=some (.tup [.agg [slc a,slc b],.bool (decide (s.length≤6))],[]):=by
 rw [q08.next0,q08.round0]
 simp only [q4j,q38]
 rw [cond_neg (by decide),show decide (((s.length:Nat):Int)≤6)=decide (s.length≤6) from decide_eq_decide.2 (by omega)]
 rfl
theorem q08 (a b:List Int) (ha:a.length≤1024) (hb:b.length≤1024):Call F.q08 [.agg [slc a,slc b]] (.tup [.agg [slc (plainE ⟨a,b⟩).left,slc (plainE ⟨a,b⟩).right],.bool (decide ((seenE ⟨a,b⟩).length≤6))]):=by
 obtain ⟨m,hm⟩:∃ m,1100≤m:=⟨1100,Nat.le_refl _⟩
 refine q0q rfl (m+1+1+1) ((q08.ev _ _ _).trans ?_)
 have ho:Call F.q3j [.agg [slc a,slc b]] (.agg [slc a,slc b]):=by
  refine q0q rfl 0 ((q3j.ev _ _ _).trans ?_)
  simp only [evz,Nat.reduceLT,(q23 a (by omega)).eq,(q23 b (by omega)).eq]
 simp only [evz,Nat.reduceLT,ho.eq]
 have hs1:=(q3x [] a).2.1
 have e0:=impl_plain0 a b ha (N:=m+1+1+1) (by omega) (m+1+1)
 have e1:=impl_plain1 (q2b [] a).2 (q2b [] a).1 b (by simp at hs1; omega) hb (N:=m+1+1+1) (by omega) (m+1)
 exact e0.trans (e1.trans (impl_plain4 _ _ _ m))
theorem q13 (a b:List Int) (ha:a.length≤1024) (hb:b.length≤1024):Call F.q13 [.rref [slc a,slc b] 0]
 (.tup [.agg [slc (if (seenE ⟨a,b⟩).length≤6 then (plainE ⟨a,b⟩).left else []),slc (if (seenE ⟨a,b⟩).length≤6 then (plainE ⟨a,b⟩).right else [])],.bool (decide ((seenE ⟨a,b⟩).length≤6))]):=by
 refine q0q rfl 3000 ((q13.ev _ _ _).trans ?_)
 simp only [evz,Nat.reduceLT,(q4h a (by omega)).eq,q3o,← q2m]
 rw [q1m (q3i (by rw [q0j,q0j,q38]; omega))]
 have htl:(a++b).length≤2048:=by simp; omega
 obtain ⟨t,hte⟩:∃ t,t=a++b:=⟨_,rfl⟩
 rw [← hte] at htl ⊢
 have key:=q8v (n:=t.length) (f:=3000) (S:=fun m k (o:List Int × List Int)=>q13.at0 3000 m (q13.st0 (cells a) (cells b) (k:Nat) (cells o.1) (cells o.2)))
  (st:=fun k=>plSt [] t k) (z:=some (.tup [.agg [slc (if (seenE ⟨a,b⟩).length≤6 then (plainE ⟨a,b⟩).left else []),slc (if (seenE ⟨a,b⟩).length≤6 then (plainE ⟨a,b⟩).right else [])],.bool (decide ((seenE ⟨a,b⟩).length≤6))],[])) (fun m k h => ?_) (fun m => ?_) (by omega)
 · rw [plSt_zero] at key; exact key
 · have hl:=plSt_len [] t (Nat.le_of_lt h)
   have hg:=plSt_get [] t h
   have hsl:=plSt_seen [] t k
   have hp:=plSt_pos [] t h
   have hnw:=plSt_new [] t h
   have hod:=plSt_old [] t h
   generalize plSt [] t (k+1)=P at *
   generalize plSt [] t k=Q at *
   obtain ⟨M,s⟩:=Q
   simp only at hl hg hsl hp hnw hod
   have hkM:k < M.length:=by omega
   have hkc:k*1+1≤(cells M).length:=by rw [q0j,q38]; omega
   have hix:=(q1z s t[k] (by simp at hsl; omega)).eq
   unfold rank at hix
   have hrg:=idx_range s t[k]
   have hsl':s.length≤2048:=by simp at hsl; omega
   by_cases h0:0≤t[k]
   · have h0':t[k] ≥ 0:=h0
     rw [hp h0]
     simp only [q13.next0,q13.round0,evz,Nat.reduceLT,h,hg,hkM,q28,h0']
     rw [q0n (by omega)]
   · have h0':¬ t[k] ≥ 0:=h0
     by_cases hm:t[k]∈s
     · rw [hod h0 hm]
       have:=set_Int hkM (-1 - idx (fun x=>decide (x=t[k])) s)
       have hi:¬ idx (fun x=>decide (x=t[k])) s < 0:=fun e=>q80.1 e hm
       simp only [q13.next0,q13.round0,evz,Nat.reduceLT,h,hg,hkM,q28,h0',hix,hi,q2j (x := -1 - idx (fun x=>decide (x=t[k])) s) (by omega),this,hkc]
       rw [q0n (by omega)]
     · rw [hnw h0 hm]
       have:=set_Int hkM (-1 - (s.length:Int))
       have hi:idx (fun x=>decide (x=t[k])) s < 0:=q80.2 hm
       simp only [q13.next0,q13.round0,evz,Nat.reduceLT,h,hg,hkM,q28,h0',hix,hi,q2d,q2j (x := -1 - (s.length:Int)) (by omega),this,hkc]
       rw [q0n (by omega),q1m (q3i (by rw [q0j,q38]; omega))]
 · rw [plSt_end,hte,q8q]
   have hl1:=(q3x [] a).1
   have hl2:=(q3x (q2b [] a).2 b).1
   have es:seenE ⟨a,b⟩=(q2b (q2b [] a).2 b).2:=rfl
   simp only [q13.next0,q13.round0,evz,Nat.reduceLT,List.length_append,hl1,hl2,Nat.lt_irrefl,es]
   by_cases h6:(q2b (q2b [] a).2 b).2.length≤6
   · have h6':¬ (((q2b (q2b [] a).2 b).2.length:Nat):Int) > 6:=by omega
     have c1:((((q2b [] a).1++(q2b (q2b [] a).2 b).1).take a.length).drop 0)=(q2b [] a).1:=by rw [List.drop_zero,← hl1,List.take_left]
     have c2:((((q2b [] a).1++(q2b (q2b [] a).2 b).1).take (a.length+b.length)).drop a.length)=(q2b (q2b [] a).2 b).1:=by
      rw [List.take_of_length_le (by rw [List.length_append]; omega),← hl1,List.drop_left]
     simp only [h6,h6',evz,Nat.reduceLT]
     rw [q1m (by simp; omega),slc_cut,c1,(q4h _ (by omega)).eq]
     simp only [evz,Nat.reduceLT]
     rw [q1m (by simp; omega),slc_cut,c2,(q4h _ (by omega)).eq]
     simp only [evz,Nat.reduceLT]
     rfl
   · have h6':(((q2b (q2b [] a).2 b).2.length:Nat):Int) > 6:=by omega
     simp only [h6,h6',evz,Nat.reduceLT,q36]
end Ev.Ty
end
section
namespace Ev.Ty
open Go Ev
open Enc (enc)
open Sm (sm)
set_option linter.unusedSimpArgs false
set_option linter.unusedVariables false
theorem unif_code {l:List Symbol}:∀ {n:Nat} {b:Bnd} {ps:List Pr} {c:Int},unif l n b ps=some (.inr c)→c=2∨c=4
 | 0,b,ps,c,h=>by cases h
 | n+1,b,[],c,h=>by cases h
 | n+1,b,p::ps,c,h=>by
   rw [unif] at h
   split at h
   · cases h; exact .inl rfl
   split at h
   · exact unif_code h
   split at h
   · split at h
     · cases h; exact .inr rfl
     split at h
     · cases h; exact .inl rfl
     · exact unif_code h
   split at h
   · split at h
     · cases h; exact .inr rfl
     split at h
     · cases h; exact .inl rfl
     · exact unif_code h
   split at h
   · cases h; exact .inr rfl
   · exact unif_code h
theorem unifR_code {l:List Symbol} {a b:List Int} (ha:TermOk l a) (hb:TermOk l b) {c:Int} (h:unifR l a b = .inr c):c=2∨c=4:=by
 obtain ⟨⟨n,hn⟩,_⟩:=q7m ha hb
 rw [h] at hn
 exact unif_code hn
theorem replAt_range {l:List Symbol} (ok:SigOk ⟨l⟩) {t u:List Int} (ht:TermOk l t) (hu:TermOk l u) (p:Nat):∀ n∈q48 l t p u,-4611686018427387904≤n∧n≤4611686018427387904:=fun n hn=>by
 unfold q48 at hn
 rcases List.mem_append.1 hn with hn | hn
 · rcases List.mem_append.1 hn with hn | hn
   · exact ht.range ok n (List.mem_of_mem_take hn)
   · exact hu.range ok n hn
 · exact ht.range ok n (List.mem_of_mem_drop hn)
section
variable {l:List Symbol} (ok:SigOk ⟨l⟩)
include ok
theorem q6p {o i:Equation} (ho:EqOk l o) (hi:EqOk l i) {p:Nat} (hp:p < o.left.length):Call F.q6p [.agg [slc l],.agg [slc o.left,slc o.right],.agg [slc i.left,slc i.right],.int .i64 p] (.agg (enc (peakR l o i p))):=by
 refine q0q rfl 0 ((q6p.ev _ _ _ _ _ _ _).trans ?_)
 have l1:=ho.left.le
 have l2:=ho.right.le
 have l3:=hi.left.le
 have l4:=hi.right.le
 have s1:=(q1c i.left (by omega) (fun n hn=>(hi.left.range ok n hn).1)).eq
 have s2:=(q1c i.right (by omega) (fun n hn=>(hi.right.range ok n hn).1)).eq
 have o1:=shift_ok hi.left hi.lowL
 have o2:=shift_ok hi.right hi.lowR
 have os:=q6l ho.left hp
 have hsub:=(q3e ok ho.left hp).eq
 have hu:=q0c ok os o1
 have hrp:=(q4s ok ho.left hp (q4a i.right 6) (by rw [q4e]; omega)).eq
 have hrl:=replAt_length (l:=l) (t:=o.left) (p:=p) (by_:=q4a i.right 6)
 rw [q4e] at hrl
 simp only [evz,Nat.reduceLT,s1,s2,hsub,hu,peakR]
 have hsp:=q7m os o1
 have hcd:=fun c=>unifR_code os o1 (c:=c)
 generalize unifR l (subAt l o.left p) (q4a i.left 6)=u at *
 cases u with
 | inr c =>
   have hc:¬ c=0:=by rcases hcd c rfl with h | h <;> omega
   simp only [uT,evz,Nat.reduceLT,hc,q1p,q36]
   rfl
 | inl b =>
   have hb:=hsp.2 b rfl
   have hbl:=hb.le
   have hbo:=hb.mb.ok (by omega)
   simp only [uT,evz,Nat.reduceLT,hrp]
   have hge:=q7n hb.mb (q48 l o.left p (q4a i.right 6))
   have a1:=(q0e b.1 b.2 hbo o.right (by omega) (ho.right.range ok)).eq
   have a2:=(q0e b.1 b.2 hbo (q48 l o.left p (q4a i.right 6)) (by omega) (replAt_range ok ho.left o2 p)).eq
   generalize q48 l o.left p (q4a i.right 6)=w at *
   generalize q0d b.1 b.2 o.right=x at *
   generalize q0d b.1 b.2 w=y at *
   by_cases c1:24 < w.length
   · have c1':(w.length:Int) > 24:=by omega
     have c2:24 < x.length∨24 < y.length := .inr (by omega)
     simp only [c1',c2,evz,Nat.reduceLT,q1p,q36]
   have c1':¬ (w.length:Int) > 24:=by omega
   simp only [c1',evz,Nat.reduceLT,a1,a2]
   by_cases c2:24 < x.length
   · have c2':(x.length:Int) > 24:=by omega
     simp only [c2,c2',true_or,evz,Nat.reduceLT,q1p,q36]
   by_cases c3:24 < y.length
   · have c2':¬ (x.length:Int) > 24:=by omega
     have c3':(y.length:Int) > 24:=by omega
     simp only [c3,c2',c3',or_true,evz,Nat.reduceLT,q1p,q36]
   have c2':¬ (x.length:Int) > 24:=by omega
   have c3':¬ (y.length:Int) > 24:=by omega
   have hpl:=(q08 x y (by omega) (by omega)).eq
   simp only [c2,c3,c2',c3',or_self,evz,Nat.reduceLT,hpl]
   by_cases c4:(seenE ⟨x,y⟩).length≤6
   · have c4':¬ 6 < (seenE ⟨x,y⟩).length:=by omega
     simp only [c4,c4',evz,Nat.reduceLT,Bool.not_true,q1p]
   · have c4':6 < (seenE ⟨x,y⟩).length:=by omega
     simp only [c4,c4',evz,Nat.reduceLT,Bool.not_false,q1p,q36]
theorem q6t {o i:Equation} (ho:EqOk l o) (hi:EqOk l i) {p:Nat} (hp:p < o.left.length):Call F.q6t [.rref [slc l] 0,.rref [slc o.left,slc o.right] 0,.rref [slc i.left,slc i.right] 0,.int .i64 p]
 (.tup [.agg [slc (peakR l o i p).equation.left,slc (peakR l o i p).equation.right],.int .i64 (peakR l o i p).code]):=by
 refine q0q rfl 0 ((q6t.ev _ _ _ _ _ _ _).trans ?_)
 have l1:=ho.left.le
 have l2:=ho.right.le
 have l3:=hi.left.le
 have l4:=hi.right.le
 have s1:=(q1d i.left (by omega) (fun n hn=>(hi.left.range ok n hn).1)).eq
 have s2:=(q1d i.right (by omega) (fun n hn=>(hi.right.range ok n hn).1)).eq
 have o1:=shift_ok hi.left hi.lowL
 have o2:=shift_ok hi.right hi.lowR
 have os:=q6l ho.left hp
 have hsub:=(q51 ok ho.left hp).eq
 have hu:=q10 ok os o1
 have hrp:=(q4f ok ho.left hp (q4a i.right 6) (by rw [q4e]; omega)).eq
 have hrl:=replAt_length (l:=l) (t:=o.left) (p:=p) (by_:=q4a i.right 6)
 rw [q4e] at hrl
 simp only [evz,Nat.reduceLT,s1,s2,hsub,hu,peakR]
 have hsp:=q7m os o1
 have hcd:=fun c=>unifR_code os o1 (c:=c)
 generalize unifR l (subAt l o.left p) (q4a i.left 6)=u at *
 cases u with
 | inr c =>
   have hc:¬ c=0:=by rcases hcd c rfl with h | h <;> omega
   simp only [uT,evz,Nat.reduceLT,hc,q1p,q36]
   rfl
 | inl b =>
   have hb:=hsp.2 b rfl
   have hbl:=hb.le
   have hbo:=hb.mb.ok (by omega)
   simp only [uT,evz,Nat.reduceLT,hrp]
   have hge:=q7n hb.mb (q48 l o.left p (q4a i.right 6))
   have a1:=(q0w b.1 b.2 hbo o.right (by omega) (ho.right.range ok)).eq
   have a2:=(q0w b.1 b.2 hbo (q48 l o.left p (q4a i.right 6)) (by omega) (replAt_range ok ho.left o2 p)).eq
   generalize q48 l o.left p (q4a i.right 6)=w at *
   generalize q0d b.1 b.2 o.right=x at *
   generalize q0d b.1 b.2 w=y at *
   simp only [evz,Nat.reduceLT,a1,a2]
   by_cases c2:24 < x.length
   · have c2':(x.length:Int) > 24:=by omega
     simp only [c2,c2',true_or,evz,Nat.reduceLT,q1p,q36]
   by_cases c3:24 < y.length
   · have c2':¬ (x.length:Int) > 24:=by omega
     have c3':(y.length:Int) > 24:=by omega
     simp only [c3,c2',c3',or_true,evz,Nat.reduceLT,q1p,q36]
   have c2':¬ (x.length:Int) > 24:=by omega
   have c3':¬ (y.length:Int) > 24:=by omega
   have hpl:=(q13 x y (by omega) (by omega)).eq
   simp only [c2,c3,c2',c3',or_self,evz,Nat.reduceLT,hpl]
   by_cases c4:(seenE ⟨x,y⟩).length≤6
   · have c4':¬ 6 < (seenE ⟨x,y⟩).length:=by omega
     simp only [c4,c4',evz,Nat.reduceLT,Bool.not_true,q1p]
   · have c4':6 < (seenE ⟨x,y⟩).length:=by omega
     simp only [c4,c4',evz,Nat.reduceLT,Bool.not_false,q1p,q36]
end
noncomputable def q7y (s:Signature) (o i:Equation) (p:Int):EquationResult :=
 if q3q s [o,i]≠0 then ⟨q3q s [o,i],⟨[],[]⟩⟩ else if inR p 0 (o.left.length - 1)=false then ⟨3,⟨[],[]⟩⟩ else if o.left.getD p.toNat 0 < 0 then ⟨1,⟨[],[]⟩⟩ else peakR s.symbols o i p.toNat
theorem pair_sm {o i:Equation} (ho:sm 1048576 o) (hi:sm 1048576 i):sm 4294967296 [o,i]:=⟨by simp,fun x hx=>by
 rcases List.mem_cons.1 hx with rfl | hx
 · exact q29 (by omega) ho
 · rw [List.mem_singleton.1 hx]; exact q29 (by omega) hi⟩
theorem q5s (s:Signature) (o i:Equation) (p:Int) (hs:sm 1048576 s) (ho:sm 1048576 o) (hi:sm 1048576 i):Call F.q5s [.agg (enc s),.agg (enc o),.agg (enc i),.int .i64 p] (.agg (enc (q7y s o i p))):=by
 obtain ⟨l⟩:=s
 have hsl:l.length≤4294967296:=Nat.le_trans hs.1 (by omega)
 have hol:o.left.length≤1048576:=ho.1.1
 have hf:LIM F.q3v [.agg [slc l],.sl 2 [slc o.left,slc o.right,slc i.left,slc i.right]]=some (.int .i64 (q3q ⟨l⟩ [o,i]),[]):=(q3v l hsl [o,i] (pair_sm ho hi)).eq
 show Call F.q5s [.agg [slc l],.agg [slc o.left,slc o.right],.agg [slc i.left,slc i.right],.int .i64 p] _
 refine q0q rfl 0 ((q5s.ev _ _ _ _ _ _ _).trans ?_)
 simp only [evz,Nat.reduceLT,hf,q7y,q2j (x:=(o.left.length:Int) - 1) (by omega),(q2g _ _ _).eq]
 by_cases h:q3q ⟨l⟩ [o,i]=0
 case neg=>simp only [h,evz,Nat.reduceLT,ne_eq,not_false_eq_true,q1p,q36]
 obtain ⟨_,ok,_,q2⟩:=q77 h
 have q2o:=q2 o (by simp)
 have q2i:=q2 i (by simp)
 cases h1:inR p 0 (o.left.length - 1) with
 | false=>simp only [h,evz,Nat.reduceLT,ne_eq,not_true_eq_false,Bool.not_false,q1p,q36]
 | true =>
   have hp1:=q6g.1 h1
   obtain ⟨a,rfl⟩:∃ a:Nat,p=a:=⟨p.toNat,by omega⟩
   have ha:a < o.left.length:=by omega
   have hlk:o.left[a]?=some o.left[a]:=List.getElem?_eq_getElem ha
   have hd:o.left.getD a 0=o.left[a]:=q73 ha
   have hpk:=(q6p ok q2o q2i ha).eq
   rw [q1p] at hpk
   simp only [h,evz,Nat.reduceLT,ne_eq,not_true_eq_false,Bool.not_true,ha,hlk,q28,hd,reduceCtorEq,hpk]
   by_cases h3:o.left[a] < 0 <;> simp only [h3,evz,Nat.reduceLT,q1p,q36]
theorem q5r (s:Signature) (o i:Equation) (p:Int) (hs:sm 1048576 s) (ho:sm 1048576 o) (hi:sm 1048576 i):Call F.q5r [.agg (enc s),.agg (enc o),.agg (enc i),.int .i64 p] (.agg (enc (q7y s o i p))):=by
 obtain ⟨l⟩:=s
 have hsl:l.length≤4294967296:=Nat.le_trans hs.1 (by omega)
 have hol:o.left.length≤1048576:=ho.1.1
 have hf:LIM F.q3s [.agg [slc l],.sl 2 [slc o.left,slc o.right,slc i.left,slc i.right]]=some (.int .i64 (q3q ⟨l⟩ [o,i]),[]):=(q3s l hsl [o,i] (pair_sm ho hi)).eq
 have h2:Call F.q8n [.rref [slc l] 0,.rref [slc o.left,slc o.right] 0,.rref [slc i.left,slc i.right] 0] (.int .i64 (q3q ⟨l⟩ [o,i])):=by
  refine q0q rfl 0 ((q8n.ev _ _ _ _ _ _).trans ?_)
  simp only [evz,Nat.reduceLT,hf]
 show Call F.q5r [.agg [slc l],.agg [slc o.left,slc o.right],.agg [slc i.left,slc i.right],.int .i64 p] _
 refine q0q rfl 0 ((q5r.ev _ _ _ _ _ _ _).trans ?_)
 simp only [evz,Nat.reduceLT,h2.eq,q7y,(q5a o.left p (by omega)).eq]
 by_cases h:q3q ⟨l⟩ [o,i]=0
 case neg=>simp only [h,evz,Nat.reduceLT,ne_eq,not_false_eq_true,q1p,q36]
 obtain ⟨_,ok,_,q2⟩:=q77 h
 have q2o:=q2 o (by simp)
 have q2i:=q2 i (by simp)
 cases h1:inR p 0 (o.left.length - 1) with
 | false=>simp only [h,evz,Nat.reduceLT,ne_eq,not_true_eq_false,Bool.not_false,q1p,q36]
 | true =>
   have hp1:=q6g.1 h1
   obtain ⟨a,rfl⟩:∃ a:Nat,p=a:=⟨p.toNat,by omega⟩
   have ha:a < o.left.length:=by omega
   have hlk:o.left[a]?=some o.left[a]:=List.getElem?_eq_getElem ha
   have hd:o.left.getD a 0=o.left[a]:=q73 ha
   have hpk:=(q6t ok q2o q2i ha).eq
   simp only [h,evz,Nat.reduceLT,ne_eq,not_true_eq_false,Bool.not_true,ha,hlk,q28,hd,reduceCtorEq,hpk]
   by_cases h3:o.left[a] < 0 <;> simp only [h3,evz,Nat.reduceLT,q1p,q36]
end Ev.Ty
end
section
namespace Ev.Ty
open Go Ev
open Enc (enc)
open Sm (sm)
set_option linter.unusedSimpArgs false
set_option linter.unusedVariables false
section
variable {l:List Symbol} (ok:SigOk ⟨l⟩)
include ok
end
end Ev.Ty
end
section
namespace Ev.Ty
open Go Ev
open Enc (enc)
open Sm (sm)
set_option linter.unusedSimpArgs false
set_option linter.unusedVariables false
section
variable {l:List Symbol} (ok:SigOk ⟨l⟩) {rs:List Equation} (hr:∀ e∈rs,EqOk l e) (hl:rs.length≤12)
include ok hr hl
end
end Ev.Ty
end
section
namespace Ev.Ty
open Go Ev
open Enc (enc)
open Sm (sm)
set_option linter.unusedSimpArgs false
set_option linter.unusedVariables false
theorem replAt_ok {l:List Symbol} {t u:List Int} (ht:TermOk l t) {p:Nat} (hp:p < t.length) (hu:TermOk l u) (h:(q48 l t p u).length≤24):TermOk l (q48 l t p u):=by
 obtain ⟨h1,h2,h3⟩:=q56 ht hp
 have hs:skip (ar l) 1 (q48 l t p u)=some []:=by
  unfold q48
  rw [List.append_assoc]
  refine skip_repl (y:=subAt l t p) (by rw [← h1]; exact h3) (by have:=q91 (r:=t.drop (endAt l t p)) hu.skip; simpa using this) (t.take p) 1 ?_
  rw [← h1,List.take_append_drop]
  exact ht.skip
 refine ⟨?_,h,fun n hn => ?_,hs⟩
 · rcases Nat.eq_zero_or_pos (q48 l t p u).length with h | h
   · rw [List.eq_nil_of_length_eq_zero h] at hs; cases hs
   · exact h
 · unfold q48 at hn
   rcases List.mem_append.1 hn with hn | hn
   · rcases List.mem_append.1 hn with hn | hn
     · exact ht.node n (List.mem_of_mem_take hn)
     · exact hu.node n hn
   · exact ht.node n (List.mem_of_mem_drop hn)
theorem peakR_ok {l:List Symbol} (ok:SigOk ⟨l⟩) {o i:Equation} (ho:EqOk l o) (hi:EqOk l i) {p:Nat} (hp:p < o.left.length) (h0:(peakR l o i p).code=0):EqOk l (peakR l o i p).equation:=by
 have o1:=shift_ok hi.left hi.lowL
 have o2:=shift_ok hi.right hi.lowR
 have os:=q6l ho.left hp
 have hsp:=q7m os o1
 have hcd:=fun c=>unifR_code os o1 (c:=c)
 unfold peakR at h0 ⊢
 split
 · rename_i c hc
   rw [hc] at h0
   have:=hcd c hc
   simp only at h0
   omega
 · rename_i b hb
   rw [hb] at h0
   simp only at h0
   split at h0
   · cases h0
   rename_i c1
   split at h0
   · cases h0
   rename_i c2
   rw [if_neg c1,if_neg c2]
   have hub:=hsp.2 b hb
   have hwl:=q7n hub.mb (q48 l o.left p (q4a i.right 6))
   exact plain_ok (hub.applied_ok ho.right (by omega)) (hub.applied_ok (replAt_ok ho.left hp o2 (by omega)) (by omega)) (by omega)
section
variable {l:List Symbol} {rs:List Equation} (hrf:q3q ⟨l⟩ rs=0) (hls:sm 1048576 (Signature.mk l)) (hrs:sm 1048576 rs) {fuel:Nat} (hf:fuel≤200)
include hrf hls hrs hf
end
end Ev.Ty
end
section
namespace Ev.Ty
open Go Ev
open Enc (enc)
open Sm (sm)
set_option linter.unusedSimpArgs false
set_option linter.unusedVariables false
theorem mgo_low {l:List Symbol} {t:List Int} (ht:∀ n∈t,-6≤n):∀ (q:List Int) (b:Bnd) (p:Nat),(∀ u∈b.2,∀ n∈u,-6≤n)→∀ x,mgo l t q b p=some x→∀ u∈x.1.2,∀ n∈u,-6≤n
 | [],b,p,hb,x,hx=>by
   cases hx
   exact hb
 | n::q,b,p,hb,x,hx=>by
   rw [mgo] at hx
   split at hx
   · cases hx
   split at hx
   · split at hx
     · exact mgo_low ht q b _ hb x hx
     · cases hx
   split at hx
   · refine mgo_low ht q _ _ (fun u hu => ?_) x hx
     rcases mem_ins hu with rfl | hu
     · intro m hm
       exact ht m (List.mem_of_mem_take (List.mem_of_mem_drop hm))
     · exact hb u hu
   · split at hx
     · exact mgo_low ht q b _ hb x hx
     · cases hx
theorem matchAt_low {l:List Symbol} {q t:List Int} (ht:∀ n∈t,-6≤n) {p:Nat} {b:Bnd} (h:q6f l q t p=some b):∀ u∈b.2,∀ n∈u,-6≤n:=by
 unfold q6f at h
 rw [Option.map_eq_some_iff] at h
 obtain ⟨x,hx,rfl⟩:=h
 exact mgo_low ht q ([],[]) p (by simp) x hx
theorem stepAt_low {l:List Symbol} {e:Equation} {t:List Int} (he:EqOk l e) (ht:∀ n∈t,-6≤n) {p:Nat}:∀ n∈(stepAt l e t p).term,-6≤n:=by
 intro n hn
 unfold stepAt at hn
 cases hm:q6f l e.left t p with
 | none=>rw [hm] at hn; cases hn
 | some b =>
   have hb:=matchAt_low ht hm
   rw [hm] at hn
   simp only at hn
   split at hn
   · cases hn
   unfold q48 at hn
   rcases List.mem_append.1 hn with hn | hn
   · rcases List.mem_append.1 hn with hn | hn
     · exact ht n (List.mem_of_mem_take hn)
     · unfold q0d at hn
       obtain ⟨m,h1,h2⟩:=List.mem_flatMap.1 hn
       cases ho:q4w b.1 b.2 (-1 - m) with
       | none=>rw [ho] at h2; simp only [Option.getD_none,List.mem_singleton] at h2; subst h2; exact he.lowR _ h1
       | some u=>rw [ho] at h2; exact hb u (q5w ho) n h2
   · exact ht n (List.mem_of_mem_drop hn)
def two (e:Entry):Bool:=decide (e.kind=4)||decide (e.kind=5)
def q3c (eqn enn:Nat) (e:Entry):Int :=
 if inR e.kind 1 5=false then 1
 else if (two e=false∧(e.b≠0∨e.place≠0))∨(e.kind≠4∧e.side≠0) then 1
 else if inR e.a 0 ((if e.kind=1 then (eqn:Int) else enn) - 1)=false∨(two e=true∧inR e.b 0 (enn - 1)=false)∨inR e.side 0 1=false then 3 else 0
structure NumsOk (eqn enn:Nat) (e:Entry):Prop where
 kind:e.kind=1∨e.kind=2∨e.kind=3∨e.kind=4∨e.kind=5
 a0:0≤e.a
 given:e.kind=1→e.a.toNat < eqn
 other:e.kind≠1→e.a.toNat < enn
 b:e.kind=4∨e.kind=5→0≤e.b∧e.b.toNat < enn
 side:e.side=0∨(e.kind=4∧e.side=1)
 zero:e.kind≠4→e.kind≠5→e.b=0∧e.place=0
theorem numsOk {eqn enn:Nat} {e:Entry} (h:q3c eqn enn e=0):NumsOk eqn enn e:=by
 unfold q3c at h
 by_cases h1:inR e.kind 1 5=false
 · rw [if_pos h1] at h; cases h
 rw [if_neg h1] at h
 by_cases h2:(two e=false∧(e.b≠0∨e.place≠0))∨(e.kind≠4∧e.side≠0)
 · rw [if_pos h2] at h; cases h
 rw [if_neg h2] at h
 by_cases h3:inR e.a 0 ((if e.kind=1 then (eqn:Int) else enn) - 1)=false∨(two e=true∧inR e.b 0 (enn - 1)=false)∨inR e.side 0 1=false
 · rw [if_pos h3] at h; cases h
 have h1:=q6g.1 (by simpa using h1:inR e.kind 1 5=true)
 have h4:inR e.a 0 ((if e.kind=1 then (eqn:Int) else enn) - 1)=true:=by
  cases hx:inR e.a 0 ((if e.kind=1 then (eqn:Int) else enn) - 1) with
  | true=>rfl
  | false=>exact absurd (Or.inl hx) h3
 have h5:inR e.side 0 1=true:=by
  cases hx:inR e.side 0 1 with
  | true=>rfl
  | false=>exact absurd (Or.inr (Or.inr hx)) h3
 have h4:=q6g.1 h4
 have h5:=q6g.1 h5
 refine ⟨by omega,by omega,fun hk => ?_,fun hk => ?_,fun hk => ?_,?_,fun q1 q2 => ?_⟩
 · rw [if_pos hk] at h4; omega
 · rw [if_neg hk] at h4; omega
 · have ht:two e=true:=by unfold two; rcases hk with hk | hk <;> simp [hk]
   have:inR e.b 0 (enn - 1)=true:=by
    cases hx:inR e.b 0 ((enn:Int) - 1) with
    | true=>rfl
    | false=>exact absurd (Or.inr (Or.inl ⟨ht,hx⟩)) h3
   have:=q6g.1 this
   omega
 · by_cases hk:e.kind=4
   · omega
   · left
     by_cases hs:e.side=0
     · exact hs
     · exact absurd (Or.inr ⟨hk,hs⟩) h2
 · have ht:two e=false:=by unfold two; simp [q1,q2]
   by_cases hb:e.b=0
   · by_cases hp:e.place=0
     · exact ⟨hb,hp⟩
     · exact absurd (Or.inl ⟨ht,Or.inr hp⟩) h2
   · exact absurd (Or.inl ⟨ht,Or.inl hb⟩) h2
noncomputable def derR (l:List Symbol) (eqs:List Equation) (ents:List Entry) (e:Entry):EquationResult :=
 if q3c eqs.length ents.length e≠0 then ⟨q3c eqs.length ents.length e,⟨[],[]⟩⟩
 else if e.kind=1 then ⟨0,eqs.getD e.a.toNat ⟨[],[]⟩⟩
 else if e.kind=2 then ⟨0,⟨(ents.getD e.a.toNat ⟨0,0,0,0,0,[],[]⟩).right,(ents.getD e.a.toNat ⟨0,0,0,0,0,[],[]⟩).left⟩⟩
 else if e.kind=3 then ⟨0,plainE (eqOf (ents.getD e.a.toNat ⟨0,0,0,0,0,[],[]⟩))⟩
 else if e.kind=5 then q7y ⟨l⟩ (eqOf (ents.getD e.a.toNat ⟨0,0,0,0,0,[],[]⟩)) (eqOf (ents.getD e.b.toNat ⟨0,0,0,0,0,[],[]⟩)) e.place
 else if e.side=0 then
  ⟨(q3r ⟨l⟩ [eqOf (ents.getD e.b.toNat ⟨0,0,0,0,0,[],[]⟩)] 0 e.place (ents.getD e.a.toNat ⟨0,0,0,0,0,[],[]⟩).left).code,
   ⟨(q3r ⟨l⟩ [eqOf (ents.getD e.b.toNat ⟨0,0,0,0,0,[],[]⟩)] 0 e.place (ents.getD e.a.toNat ⟨0,0,0,0,0,[],[]⟩).left).term,(ents.getD e.a.toNat ⟨0,0,0,0,0,[],[]⟩).right⟩⟩
 else
  ⟨(q3r ⟨l⟩ [eqOf (ents.getD e.b.toNat ⟨0,0,0,0,0,[],[]⟩)] 0 e.place (ents.getD e.a.toNat ⟨0,0,0,0,0,[],[]⟩).right).code,
   ⟨(ents.getD e.a.toNat ⟨0,0,0,0,0,[],[]⟩).left,(q3r ⟨l⟩ [eqOf (ents.getD e.b.toNat ⟨0,0,0,0,0,[],[]⟩)] 0 e.place (ents.getD e.a.toNat ⟨0,0,0,0,0,[],[]⟩).right).term⟩⟩
theorem getN {es:List Entry} {k:Nat} (h:k < es.length):es.getD k ⟨0,0,0,0,0,[],[]⟩=es[k]:=by rw [List.getD_eq_getElem?_getD,List.getElem?_eq_getElem h]; rfl
theorem rewriteAt_ok {l:List Symbol} {e:Equation} (he:EqOk l e) {t:List Int} (ht:TermOk l t) (hlow:∀ n∈t,-6≤n) {p:Int} (h:(q3r ⟨l⟩ [e] 0 p t).code=0):TermOk l (q3r ⟨l⟩ [e] 0 p t).term∧∀ n∈(q3r ⟨l⟩ [e] 0 p t).term,-6≤n:=by
 unfold q3r at h ⊢
 split at h
 · rename_i h1; exact absurd h h1
 rename_i h1
 rw [if_neg h1]
 split at h
 · cases h
 rename_i h2
 rw [if_neg h2]
 have h3:inR p 0 (t.length - 1)=true:=by
  cases hx:inR p 0 ((t.length:Int) - 1) with
  | true=>rfl
  | false=>exact absurd (.inr hx) h2
 have h3:=q6g.1 h3
 exact ⟨stepAt_ok he ht (by omega) h,stepAt_low he hlow⟩
theorem peakOf_ok {l:List Symbol} (ok:SigOk ⟨l⟩) {o i:Equation} (ho:EqOk l o) (hi:EqOk l i) {p:Int} (h0:(q7y ⟨l⟩ o i p).code=0):EqOk l (q7y ⟨l⟩ o i p).equation:=by
 unfold q7y at h0 ⊢
 split at h0
 · rename_i h1; exact absurd h0 h1
 rename_i h1
 rw [if_neg h1]
 split at h0
 · cases h0
 rename_i h2
 rw [if_neg h2]
 split at h0
 · cases h0
 rename_i h3
 rw [if_neg h3]
 have h2:=q6g.1 (Bool.not_eq_false _ ▸ h2:inR p 0 (o.left.length - 1)=true)
 exact peakR_ok ok ho hi (by omega) h0
theorem pstep_mem {seen:List Int} {n m:Int} (h:m∈(pstep seen n).2):m∈seen∨(m=n∧n < 0):=by
 unfold pstep at h
 split at h
 · exact .inl h
 split at h
 · rcases List.mem_append.1 h with h | h
   · exact .inl h
   · exact .inr ⟨List.mem_singleton.1 h,by omega⟩
 · exact .inl h
theorem pstep_nodup {seen:List Int} {n:Int} (h:seen.Nodup):(pstep seen n).2.Nodup:=by
 unfold pstep
 split
 · exact h
 split
 · rename_i h1
   rw [q80] at h1
   rw [List.nodup_append]
   exact ⟨h,by simp,fun a ha b hb=>by rw [List.mem_singleton.1 hb]; exact fun e=>h1 (e ▸ ha)⟩
 · exact h
theorem plainL_seen:∀ (t seen:List Int),seen.Nodup→(∀ m∈seen,-6≤m∧m < 0)→(∀ n∈t,-6≤n)→(q2b seen t).2.Nodup∧∀ m∈(q2b seen t).2,-6≤m∧m < 0
 | [],seen,h1,h2,_=>⟨h1,h2⟩
 | n::t,seen,h1,h2,h3=>by
   rw [q2b]
   refine plainL_seen t _ (pstep_nodup h1) (fun m hm => ?_) (fun m hm=>h3 m (List.mem_cons_of_mem _ hm))
   rcases pstep_mem hm with h | ⟨rfl,h⟩
   · exact h2 m h
   · exact ⟨h3 m (by simp),h⟩
theorem nodup_sub:∀ {s t:List Int},s.Nodup→s ⊆ t→s.length≤t.length
 | [],t,_,_=>Nat.zero_le _
 | x::s,t,h,hs=>by
   have hx:x∈t:=hs (by simp)
   rw [List.nodup_cons] at h
   have h1:s ⊆ t.erase x:=fun y hy=>by
    refine (List.mem_erase_of_ne (fun (e:y=x)=>h.1 (by rw [← e]; exact hy))).2 (hs (List.mem_cons_of_mem _ hy))
   have h2:=nodup_sub h.2 h1
   rw [List.length_erase_of_mem hx] at h2
   have:=List.length_pos_of_mem hx
   rw [List.length_cons]
   omega
theorem six {s:List Int} (h1:s.Nodup) (h2:∀ m∈s,-6≤m∧m < 0):s.length≤6:=by
 have:s ⊆ [-6,-5,-4,-3,-2,-1]:=fun m hm=>by
  have:=h2 m hm
  simp only [List.mem_cons,List.not_mem_nil,or_false]
  omega
 exact nodup_sub h1 this
theorem seen_six {l:List Symbol} {e:Equation} (he:EqOk l e):(seenE e).length≤6:=by
 obtain ⟨h1,h2⟩:=plainL_seen e.left [] (by simp) (by simp) he.lowL
 obtain ⟨h3,h4⟩:=plainL_seen e.right _ h1 h2 he.lowR
 exact six h3 h4
theorem derR_ok {l:List Symbol} (ok:SigOk ⟨l⟩) {eqs:List Equation} {ents:List Entry} {e:Entry} (hq:∀ x∈eqs,EqOk l x) (he:∀ x∈ents,EqOk l (eqOf x)) (h:(derR l eqs ents e).code=0):EqOk l (derR l eqs ents e).equation:=by
 unfold derR at h ⊢
 split at h
 · rename_i h1; exact absurd h h1
 rename_i h1
 rw [if_neg h1]
 have nk:=numsOk (Classical.not_not.1 h1)
 split at h
 · rename_i k1
   rw [if_pos k1,getE (nk.given k1)]
   exact hq _ (List.getElem_mem _)
 rename_i k1
 rw [if_neg k1,getN (nk.other k1)]
 have hea:=he _ (List.getElem_mem (nk.other k1))
 split at h
 · rename_i k2
   rw [if_pos k2]
   exact ⟨hea.right,hea.left,hea.lowR,hea.lowL⟩
 rename_i k2
 rw [if_neg k2]
 split at h
 · rename_i k3
   rw [if_pos k3]
   exact plain_ok hea.left hea.right (seen_six hea)
 rename_i k3
 rw [if_neg k3]
 have hk4:e.kind=4∨e.kind=5:=by rcases nk.kind with h | h | h | h | h <;> simp_all
 have heb:=he _ (List.getElem_mem (nk.b hk4).2)
 rw [getN (nk.b hk4).2]
 rw [getN (nk.b hk4).2,getN (nk.other k1)] at h
 split at h
 · rename_i k5
   rw [if_pos k5]
   exact peakOf_ok ok hea heb h
 rename_i k5
 rw [if_neg k5]
 split at h
 · rename_i k6
   rw [if_pos k6]
   obtain ⟨q1,q2⟩:=rewriteAt_ok heb hea.left hea.lowL h
   exact ⟨q1,hea.right,q2,hea.lowR⟩
 · rename_i k6
   rw [if_neg k6]
   obtain ⟨q1,q2⟩:=rewriteAt_ok heb hea.right hea.lowR h
   exact ⟨hea.left,q1,hea.lowL,q2⟩
end Ev.Ty
end
