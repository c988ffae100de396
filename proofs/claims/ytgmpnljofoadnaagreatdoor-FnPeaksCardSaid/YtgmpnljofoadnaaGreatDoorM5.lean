/- Steps on the way to RowPeaks: TyVars, TyEqs, TyRules, TyHolds, TyAllHold, TySame, TyBind, TyCmp, TyWalk, TyMatchP, TySortP, TyLpoP, TyLpo, TyLpoS, TyPartP, TyPigeon, TyOrd, TyNormP, TyMatch, TyNorm, TyNormL, TyHasVar, TyEntries, TySortT, TySortQ, TyGreat, TyStabP, TySoundP, TyRedexP, TyAlgOf, TySemP, TyUnifyP, TyPeakP, TyUnifS, TyUnify, TyUnify2. -/
import Derived.Test.YtgmpnljofoadnaaGreatDoorM4
set_option linter.unusedSectionVars false
set_option linter.unusedVariables false
set_option linter.unusedSimpArgs false
section
namespace Ev.Ty
open Go Ev
open Enc (enc)
open Sm (sm)
theorem q6z:∀ l:List Int,q6s l=cells l
 | []=>rfl
 | x::l=>by rw [q7a,← q6z l]; rfl
def qgh (l:List Int):List Int:=l.mergeSort fun x y=>decide (x≤y)
theorem q6v (l:List Int) (h:l.length≤4294967296):LIM F.q6v [slc l]=some (.tup [],[slc (qgh l)]):=by
 refine qdl (e:=sortE) rfl (Ev.of fun m => ?_)
 show ((qbl (cells l)).bind fun zs=>bif decide (zs.length < 4611686018427387904) then some (T.tup [],[T.sl 1 (q6s (zs.mergeSort fun x y=>decide (x≤y)))]) else none)=_
 rw [← q6z,q9l,Option.bind_some,decide_eq_true (by omega),cond_true,q6z]
 rfl
theorem q5i (l:List Int) (h:l.length≤4294967296):Call F.q5i [slc l] (slc (Lib.compact l)):=by
 refine qdl (e:=compactE) rfl (Ev.of fun m => ?_)
 show ((qbl (cells l)).bind fun zs=>bif decide (zs.length < 4611686018427387904) then some (T.sl 1 (q6s (Lib.compact zs)),[]) else none)=_
 rw [← q6z,q9l,Option.bind_some,decide_eq_true (by omega),cond_true,q6z]
 rfl
theorem qm9 {l:List Int} {x:Int}:x∈Lib.compact l↔x∈l:=by
 unfold Lib.compact Lib.compactUpTo
 simp only [List.mem_map,List.mem_filter,List.mem_range]
 constructor
 · rintro ⟨j,⟨hj,_⟩,rfl⟩
   rw [getElem!_pos _ j (by simpa using hj)]
   simp
 · intro h
   obtain ⟨i,hi,rfl⟩:=List.mem_iff_getElem.1 h
   have:∀ j,(hj:j < l.length)→∃ k,(k < l.length∧Lib.keeps l.toArray k=true)∧l.toArray[k]! = l[j]:=by
    intro j
    induction j with
    | zero=>intro hj; exact ⟨0,⟨hj,by simp [Lib.keeps]⟩,by simp [hj]⟩
    | succ j ih =>
      intro hj
      by_cases e:l[j+1]=l[j]
      · obtain ⟨k,hk,he⟩:=ih (by omega)
        exact ⟨k,hk,by rw [he,e]⟩
      · refine ⟨j+1,⟨hj,?_⟩,by simp [hj]⟩
        have hj':j < l.length:=by omega
        simp [Lib.keeps,hj,hj',e]
   exact this i hi
theorem qha (l:List Int):(Lib.compact l).length≤l.length:=qf7 l
def vars (t:List Int):List Int:=(t.filter fun n=>decide (n < 0)).map fun n => -1 - n
theorem qo3 {t:List Int} {v:Int}:v∈vars t↔0≤v∧(-1 - v)∈t:=by
 unfold vars
 simp only [List.mem_map,List.mem_filter,decide_eq_true_eq]
 constructor
 · rintro ⟨n,⟨hn,h0⟩,rfl⟩
   exact ⟨by omega,by rw [show -1 - (-1 - n)=n by omega]; exact hn⟩
 · rintro ⟨h0,h⟩
   exact ⟨-1 - v,⟨h,by omega⟩,by omega⟩
theorem qfm (t:List Int):(vars t).length≤t.length:=by
 unfold vars
 rw [List.length_map]; exact List.length_filter_le _ _
def qa3 (l:List (List Int)):List Int:=Lib.compact (qgh (l.flatMap vars))
theorem q8g {l:List (List Int)} {v:Int}:v∈qa3 l↔0≤v∧∃ t∈l,(-1 - v)∈t:=by
 unfold qa3 qgh
 rw [qm9,List.mem_mergeSort,List.mem_flatMap]
 constructor
 · rintro ⟨t,ht,h⟩
   obtain ⟨h0,h1⟩:=qo3.1 h
   exact ⟨h0,t,ht,h1⟩
 · rintro ⟨h0,t,ht,h1⟩
   exact ⟨t,ht,qo3.2 ⟨h0,h1⟩⟩
theorem qb4:∀ l:List (List Int),(l.flatMap vars).length≤(l.map List.length).sum
 | []=>by simp
 | t::l=>by
   rw [List.flatMap_cons,List.length_append,List.map_cons,List.sum_cons]
   have:=qfm t
   have:=qb4 l
   omega
theorem qcx (l:List (List Int)):(qa3 l).length≤(l.map List.length).sum:=by
 unfold qa3
 refine Nat.le_trans (qha _) ?_
 unfold qgh
 rw [List.length_mergeSort]
 exact qb4 l
theorem q0x (l:List (List Int)) (hl:l.length≤24) (ht:∀ t∈l,t.length≤4294967296∧∀ n∈t,-12≤n) (hsum:(l.map List.length).sum≤4294967296):Call F.q0x [slc l] (slc (qa3 l)):=by
 obtain ⟨N,hN⟩:∃ N,N=4294967297:=⟨_,rfl⟩
 have inner:∀ (L0:St→R) (x0:List T) (x1 x2:Int) (t:List Int),(∀ n∈t,-12≤n)→∀ m k (acc:List Int),k≤t.length→t.length < m+k→acc.length+t.length≤k+4294967296→t.length≤4294967296 →
  q0x.at2 N L0 m (q0x.st2 x0 x1 x2 (cells t) t.length (k:Nat) (cells acc))=L0 (q0x.st0 x0 x1 (IntKind.wrap .i64 (x2+1)) (cells (acc++vars (t.drop k)))):=by
  intro L0 x0 x1 x2 t hn m
  induction m with
  | zero=>intros; omega
  | succ m ih =>
    intro k acc hk hm hacc htl
    by_cases h:k < t.length
    · have hlk:t[k]?=some t[k]:=List.getElem?_eq_getElem h
      simp only [q0x.next2,q0x.round2,evz,Nat.reduceLT,h,hlk,q1j]
      rw [q0o (by omega),List.drop_eq_getElem_cons h]
      have hge:=hn t[k] (List.getElem_mem h)
      by_cases h0:t[k] < 0
      · have hble:Nat.ble (((cells acc).length+1)*8) (140737488355328*1)=true:=by
         rw [Nat.ble_eq,q0n,q3c]; omega
        rw [q1z (by omega),q2j,hble,ih (k+1) (acc++[-1 - t[k]]) (by omega) (by omega) (by rw [List.length_append]; simp; omega) htl]
        simp only [h0,evz,Nat.reduceLT,vars,List.filter_cons,List.map_cons,List.append_assoc,List.singleton_append]
      · rw [ih (k+1) acc (by omega) (by omega) (by omega) htl]
        simp only [h0,evz,Nat.reduceLT,vars,List.filter_cons,Bool.false_eq_true]
    · obtain rfl:k=t.length:=by omega
      simp only [q0x.next2,q0x.round2,evz,Nat.reduceLT,Nat.lt_irrefl,List.drop_length,vars,List.filter_nil,List.map_nil,List.append_nil]
 have outer:∀ m k (acc:List Int),k≤l.length→l.length < m+k→acc.length+((l.drop k).map List.length).sum≤4294967296 →
  q0x.at0 N m (q0x.st0 (cells l) l.length (k:Nat) (cells acc))=some (slc (Lib.compact (qgh (acc++(l.drop k).flatMap vars))),[]):=by
  intro m
  induction m with
  | zero=>intros; omega
  | succ m ih =>
    intro k acc hk hm hacc
    by_cases h:k < l.length
    · have hlk:l[k]?=some l[k]:=List.getElem?_eq_getElem h
      obtain ⟨q1,q2⟩:=ht l[k] (List.getElem_mem h)
      rw [List.drop_eq_getElem_cons h,List.map_cons,List.sum_cons] at hacc
      simp only [q0x.next0,q0x.round0,evz,Nat.reduceLT,h,hlk,q5m]
      have hin:=inner (q0x.at0 N m) (cells l) l.length (k:Nat) l[k] q2 N 0 acc (by omega) (by omega) (by omega) q1
      rw [List.drop_zero,q0o (by omega)] at hin
      refine Eq.trans hin ?_
      have:=qfm l[k]
      rw [ih (k+1) (acc++vars l[k]) (by omega) (by omega) (by rw [List.length_append]; omega),List.drop_eq_getElem_cons h,List.flatMap_cons,List.append_assoc]
    · obtain rfl:k=l.length:=by omega
      rw [List.drop_length] at hacc ⊢
      have hs:=q6v acc (by simpa using hacc)
      have hc:=q5i (qgh acc) (by unfold qgh; rw [List.length_mergeSort]; simpa using hacc)
      simp only [q0x.next0,q0x.round0,evz,Nat.reduceLT,Nat.lt_irrefl,List.flatMap_nil,List.append_nil]
      simp only [hs,hc.eq,evz,Nat.reduceLT]
 refine q0v rfl N ((q0x.ev _ _).trans ?_)
 have:=outer N 0 [] (by omega) (by omega) (by simpa using hsum)
 rw [List.drop_zero,List.nil_append] at this
 simp only [q4r,qqw]
 exact this
def low6 (t:List Int):Bool := !t.any fun n=>decide (n < -6)
theorem qby {t:List Int}:low6 t=true↔∀ n∈t,-6≤n:=by
 unfold low6
 rw [Bool.not_eq_true',List.any_eq_false]
 constructor
 · intro h n hn; have:=h n hn; simpa using this
 · intro h n hn; simpa using h n hn
def q3b (l:List Symbol) (e:Equation):Int :=
 if q3k l e.left≠0 then q3k l e.left else if q3k l e.right≠0 then q3k l e.right else if low6 e.left=true then (if low6 e.right=true then 0 else 3) else 3
def q6d (l:List Symbol) (es:List Equation):Int :=
 if 12 < es.length then 2 else (es.findSome? fun e=>if q3b l e≠0 then some (q3b l e) else none).getD 0
def qbe (e:Equation):Bool:=decide (0≤e.left.headD 0) && !e.right.any fun n=>decide (n < 0∧n∉e.left)
def q96 (l:List Symbol) (es:List Equation):Int:=if q6d l es≠0 then q6d l es else if (es.any fun e => !qbe e)=true then 1 else 0
def q3p (s:Signature) (es:List Equation):Int:=if q2z s≠0 then q2z s else q96 s.symbols es
structure EqOk (l:List Symbol) (e:Equation):Prop where
 left:TermOk l e.left
 right:TermOk l e.right
 lowL:∀ n∈e.left,-6≤n
 lowR:∀ n∈e.right,-6≤n
theorem qbt {l:List Symbol} {e:Equation}:q3b l e=0↔EqOk l e:=by
 unfold q3b
 constructor
 · intro h
   by_cases h1:q3k l e.left=0
   · by_cases h2:q3k l e.right=0
     · by_cases h3:low6 e.left=true
       · by_cases h4:low6 e.right=true
         · exact ⟨(q79 _ _).1 h1,(q79 _ _).1 h2,qby.1 h3,qby.1 h4⟩
         · simp [h1,h2,h3,h4] at h
       · simp [h1,h2,h3] at h
     · simp [h1,h2] at h
   · simp [h1] at h
 · intro h
   simp [(q79 _ _).2 h.left,(q79 _ _).2 h.right,qby.2 h.lowL,qby.2 h.lowR]
theorem qbp {l:List Symbol} {es:List Equation}:q6d l es=0↔es.length≤12∧∀ e∈es,EqOk l e:=by
 unfold q6d
 by_cases h:12 < es.length
 · rw [if_pos h]
   constructor
   · intro h; cases h
   · intro h'; omega
 · rw [if_neg h]
   have:(es.findSome? fun e=>if q3b l e≠0 then some (q3b l e) else none).getD 0=0↔∀ e∈es,q3b l e=0:=by
    cases hf:es.findSome? fun e=>if q3b l e≠0 then some (q3b l e) else none with
    | none =>
      rw [q84] at hf
      refine ⟨fun _ e he => ?_,fun _=>rfl⟩
      have:=hf e he
      by_cases h:q3b l e=0
      · exact h
      · simp [h] at this
    | some c =>
      obtain ⟨e,he,h1⟩:=List.exists_of_findSome?_eq_some hf
      by_cases h:q3b l e=0
      · simp [h] at h1
      · simp [h] at h1
        subst h1
        exact ⟨fun h'=>absurd h' h,fun h'=>absurd (h' e he) h⟩
   rw [this]
   constructor
   · intro h'; exact ⟨by omega,fun e he=>qbt.1 (h' e he)⟩
   · intro h' e he; exact qbt.2 (h'.2 e he)
theorem TermOk.ge {l:List Symbol} {t:List Int} (h:TermOk l t):∀ n∈t,-12≤n:=fun n hn=>by
 rcases q4e.1 (h.node n hn) with h | h <;> omega
theorem q1u (l:List Int) (x:Int) (hl:l.length≤4294967296):Call F.q1u [slc l,.int .i64 x] (.bool (decide (x∈l))):=by
 have hi:Call F.q0e [slc l,.int .i64 x] (.int .i64 (idx (fun y=>decide (x=y)) l)):=by
  refine q0v rfl (l.length+1) ((q0e.ev _ _ _).trans ?_)
  simp only [evz,Nat.reduceLT]
  refine q8h (S:=fun m k=>q0e.at0 (l.length+1) m (q0e.st0 (cells l) x l.length (k:Nat))) (fun m k h => ?_) (fun m => ?_) (Nat.lt_succ_self _)
  · have hlk:l[k]?=some l[k]:=List.getElem?_eq_getElem h
    simp only [q0e.next0,q0e.round0,evz,Nat.reduceLT,h,hlk,q1j]
    rw [q0o (by omega)]
    by_cases e:x=l[k] <;> simp [e]
  · simp only [q0e.next0,q0e.round0,evz,Nat.reduceLT,Nat.lt_irrefl]
 refine q0v rfl 0 ((q1u.ev _ _ _).trans ?_)
 simp only [evz,Nat.reduceLT,hi.eq,q8a]
 have:(l.any fun y=>decide (x=y))=decide (x∈l):=by
  rw [Bool.eq_iff_iff,List.any_eq_true,decide_eq_true_eq]
  constructor
  · rintro ⟨y,hy,h⟩; rw [decide_eq_true_eq] at h; rw [h]; exact hy
  · intro h; exact ⟨x,h,by simp⟩
 rw [this]
theorem q33 (t:List Int) (hs:t.length≤4294967296) :
 Call F.q28 [slc t,.clo F.q2u []] (.bool (t.any fun n=>decide (n ≥ 6))):=by
 have hi:Call F.q0q [slc t,.clo F.q2u []] (.int .i64 (idx (fun n=>decide (n ≥ 6)) t)):=by
  refine q0v rfl (t.length+1) ((q08.ev _ _).trans ?_)
  refine q8h (S:=fun m k=>q08.at0 (t.length+1) m (q08.st0 (cells t) _ (k:Nat))) (fun m k h => ?_) (fun m => ?_) (Nat.lt_succ_self _)
  · have hlk:t[k]?=some t[k]:=List.getElem?_eq_getElem h
    have hc:Call F.q2u [.int .i64 t[k]] (.bool (decide (t[k] ≥ 6))):=q0v rfl 0 (q2u.ev _ _)
    simp only [q08.next0,q08.round0,evz,Nat.reduceLT,h,hlk,q1j,hc.eq]
    rw [q0o (by omega)]
    by_cases e:t[k] ≥ 6 <;> simp [e]
  · simp only [q08.next0,q08.round0,evz,Nat.reduceLT,Nat.lt_irrefl]
 refine q0v rfl 0 ((q33.ev _ _).trans ?_)
 simp only [evz,Nat.reduceLT,hi.eq,q8a]
theorem q3d (l:List Symbol) (hs:l.length≤4294967296) (a b:List Int) (ha:a.length≤4294967296) (hb:b.length≤4294967296) :
 Call F.q3d [.agg [slc l],.agg [slc a,slc b]] (.int .i64 (if q2z ⟨l⟩≠0 then q2z ⟨l⟩ else q3b l ⟨a,b⟩)):=by
 refine q0v rfl 0 ((q3d.ev _ _ _ _).trans ?_)
 simp only [evz,Nat.reduceLT,(q4j l hs a ha).eq,(q4j l hs b hb).eq,(qbr _ _).eq,q8p,q3b]
 by_cases h1:q2z ⟨l⟩=0
 case neg=>simp only [h1,evz,Nat.reduceLT,ne_eq,not_false_eq_true]
 simp only [h1,evz,Nat.reduceLT,ne_eq,not_true_eq_false]
 by_cases h2:q3k l a=0
 case neg=>simp only [h2,evz,Nat.reduceLT,not_false_eq_true]
 by_cases h3:q3k l b=0
 case neg=>simp only [h2,h3,evz,Nat.reduceLT,not_true_eq_false,not_false_eq_true]
 have ta:=(q79 l a).1 h2
 have tb:=(q79 l b).1 h3
 have hal:=ta.le
 have hbl:=tb.le
 have hv:=q0x [a,b] (by simp) (fun t ht=>by
  simp only [List.mem_cons,List.not_mem_nil,or_false] at ht
  rcases ht with rfl | rfl
  · exact ⟨ha,ta.ge⟩
  · exact ⟨hb,tb.ge⟩) (by simp; omega)
 have hvl:=qcx [a,b]
 have hc:=q33 (qa3 [a,b]) (by simp at hvl; omega)
 simp only [h2,h3,evz,Nat.reduceLT,not_true_eq_false,show LIM F.q0x [.sl 1 [slc a,slc b]]=_ from hv,hc.eq]
 have e1:((qa3 [a,b]).any fun n=>decide (n ≥ 6)) = !(low6 a&&low6 b):=by
  rw [Bool.eq_iff_iff,List.any_eq_true,Bool.not_eq_true',Bool.eq_false_iff,ne_eq,Bool.and_eq_true,qby,qby]
  constructor
  · rintro ⟨v,hv,h6⟩ ⟨q1,q2⟩
    rw [decide_eq_true_eq] at h6
    obtain ⟨_,t,ht,hm⟩:=q8g.1 hv
    simp only [List.mem_cons,List.not_mem_nil,or_false] at ht
    rcases ht with rfl | rfl
    · have:=q1 _ hm; omega
    · have:=q2 _ hm; omega
  · intro h
    by_cases q1:∀ n∈a,-6≤n
    · have q2:¬ ∀ n∈b,-6≤n:=fun q2=>h ⟨q1,q2⟩
      simp only [Classical.not_forall] at q2
      obtain ⟨n,hn,hlt⟩:=q2
      exact ⟨-1 - n,q8g.2 ⟨by omega,b,by simp,by rw [show -1 - (-1 - n)=n by omega]; exact hn⟩,by simp; omega⟩
    · simp only [Classical.not_forall] at q1
      obtain ⟨n,hn,hlt⟩:=q1
      exact ⟨-1 - n,q8g.2 ⟨by omega,a,by simp,by rw [show -1 - (-1 - n)=n by omega]; exact hn⟩,by simp; omega⟩
 rw [e1]
 cases low6 a <;> cases low6 b <;> rfl
theorem q51 (l:List Symbol) (ok:SigOk ⟨l⟩) (a b:List Int) (ha:a.length≤4294967296) (hb:b.length≤4294967296) :
 Call F.q51 [.rref [slc l] 0,.rref [slc a,slc b] 0] (.int .i64 (q3b l ⟨a,b⟩)):=by
 have la:Call F.q2l [slc a] (.bool (low6 a)):=q2l a ha
 have lb:Call F.q2l [slc b] (.bool (low6 b)):=q2l b hb
 refine q0v rfl 0 ((q51.ev _ _ _ _).trans ?_)
 simp only [evz,Nat.reduceLT,(q17 l ok a ha).eq,(q17 l ok b hb).eq,la.eq,lb.eq,q3b]
 by_cases h2:q3k l a=0
 case neg=>simp only [h2,evz,Nat.reduceLT,ne_eq,not_false_eq_true]
 by_cases h3:q3k l b=0
 case neg=>simp only [h2,h3,evz,Nat.reduceLT,ne_eq,not_true_eq_false,not_false_eq_true]
 simp only [h2,h3,evz,Nat.reduceLT,ne_eq,not_true_eq_false]
 cases low6 a <;> cases low6 b <;> rfl
theorem qv2 {es:List Equation} {k:Nat} (he:sm 4294967296 es) (h:k < es.length):es[k].left.length≤4294967296∧es[k].right.length≤4294967296:=by
 have:=he.2 es[k] (List.getElem_mem h)
 exact ⟨this.1.1,this.2.1⟩
theorem q0y (l:List Symbol) (hs:l.length≤4294967296) (es:List Equation) (he:sm 4294967296 es) :
 Call F.q0y [.agg [slc l],slc es] (.int .i64 (if q2z ⟨l⟩≠0 then q2z ⟨l⟩ else q6d l es)):=by
 refine q0v rfl (es.length+1) ((q0y.ev _ _ _).trans ?_)
 simp only [evz,Nat.reduceLT,(q06 l hs).eq,q6d,gt_iff_lt]
 by_cases h1:q2z ⟨l⟩=0
 case neg=>simp only [h1,evz,Nat.reduceLT,ne_eq,not_false_eq_true]
 by_cases h2:12 < es.length
 · have h2':(12:Int) < es.length:=by omega
   simp only [h1,h2,h2',evz,Nat.reduceLT,ne_eq,not_true_eq_false]
 have h2':¬ (12:Int) < es.length:=by omega
 simp only [h1,h2,h2',evz,Nat.reduceLT,ne_eq,not_true_eq_false]
 refine (q8m (l:=es) (g:=fun e=>if q3b l e≠0 then some (some (.int .i64 (q3b l e),[])) else none) (z:=some (.int .i64 0,[])) (S:=fun m k=>q0y.at0 (es.length+1) m (q0y.st0 (cells es) es.length (k:Nat) (cells l)))
  (fun m k h => ?_) (fun m => ?_) (Nat.lt_succ_self _)).trans ?_
 · have hlk:es[k]?=some es[k]:=List.getElem?_eq_getElem h
   obtain ⟨q1,q2⟩:=qv2 he h
   have hc:=q3d l hs es[k].left es[k].right q1 q2
   rw [if_neg (by simpa using h1)] at hc
   simp only [q0y.next0,q0y.round0,evz,Nat.reduceLT,h,hlk,q52,hc.eq]
   rw [q0o (by omega)]
   by_cases e:q3b l es[k]=0
   · simp [e]
   · simp [e]
 · simp only [q0y.next0,q0y.round0,evz,Nat.reduceLT,Nat.lt_irrefl]
 · have:=q76 (fun e=>if q3b l e≠0 then some (q3b l e) else none) (fun n=>(some (T.int .i64 n,[]):R)) es
   rw [show (fun e=>(if q3b l e≠0 then some (q3b l e) else none).map fun n=>(some (T.int .i64 n,[]):R))=fun e=>if q3b l e≠0 then some (some (T.int .i64 (q3b l e),[])) else none from funext fun e=>by by_cases h:q3b l e=0 <;> simp [h]] at this
   rw [this]
   cases es.findSome? fun e=>if q3b l e≠0 then some (q3b l e) else none <;> rfl
theorem q1w (l:List Symbol) (ok:SigOk ⟨l⟩) (es:List Equation) (he:sm 4294967296 es):Call F.q1w [.rref [slc l] 0,slc es] (.int .i64 (q6d l es)):=by
 refine q0v rfl (es.length+1) ((q1w.ev _ _ _).trans ?_)
 simp only [evz,Nat.reduceLT,q6d,gt_iff_lt]
 by_cases h2:12 < es.length
 · have h2':(12:Int) < es.length:=by omega
   simp only [h2,h2',evz,Nat.reduceLT]
 have h2':¬ (12:Int) < es.length:=by omega
 simp only [h2,h2',evz,Nat.reduceLT]
 refine (q8m (l:=es) (g:=fun e=>if q3b l e≠0 then some (some (.int .i64 (q3b l e),[])) else none) (z:=some (.int .i64 0,[])) (S:=fun m k=>q1w.at0 (es.length+1) m (q1w.st0 (cells l) (cells es) (k:Nat)))
  (fun m k h => ?_) (fun m => ?_) (Nat.lt_succ_self _)).trans ?_
 · have hlk:es[k]?=some es[k]:=List.getElem?_eq_getElem h
   obtain ⟨q1,q2⟩:=qv2 he h
   have hc:=q51 l ok es[k].left es[k].right q1 q2
   simp only [q1w.next0,q1w.round0,evz,Nat.reduceLT,h,hlk,q68 q3y hlk,q52,hc.eq]
   rw [q0o (by omega)]
   by_cases e:q3b l es[k]=0
   · simp [e]
   · simp [e]
 · simp only [q1w.next0,q1w.round0,evz,Nat.reduceLT,Nat.lt_irrefl]
 · have:=q76 (fun e=>if q3b l e≠0 then some (q3b l e) else none) (fun n=>(some (T.int .i64 n,[]):R)) es
   rw [show (fun e=>(if q3b l e≠0 then some (q3b l e) else none).map fun n=>(some (T.int .i64 n,[]):R))=fun e=>if q3b l e≠0 then some (some (T.int .i64 (q3b l e),[])) else none from funext fun e=>by by_cases h:q3b l e=0 <;> simp [h]] at this
   rw [this]
   cases es.findSome? fun e=>if q3b l e≠0 then some (q3b l e) else none <;> rfl
theorem q3n (t v:List Int) (hs:t.length≤4294967296) (hv:v.length≤4294967296) :
 Call F.q28 [slc t,.clo F.q48 [.rref [slc v] 0]] (.bool (t.any fun n=>decide (n∉v))):=by
 have hi:Call F.q0q [slc t,.clo F.q48 [.rref [slc v] 0]] (.int .i64 (idx (fun n=>decide (n∉v)) t)):=by
  refine q0v rfl (t.length+1) ((q0d.ev _ _ _).trans ?_)
  refine q8h (S:=fun m k=>q0d.at0 (t.length+1) m (q0d.st0 (cells t) _ _ (k:Nat))) (fun m k h => ?_) (fun m => ?_) (Nat.lt_succ_self _)
  · have hlk:t[k]?=some t[k]:=List.getElem?_eq_getElem h
    have hc:Call F.q48 [.int .i64 t[k],.rref [slc v] 0] (.bool (decide (t[k]∉v))):=by
     refine q0v rfl 0 ((q48.ev _ _ _).trans ?_)
     simp only [evz,Nat.reduceLT,(q1u v t[k] hv).eq,decide_not]
    simp only [q0d.next0,q0d.round0,evz,Nat.reduceLT,h,hlk,q1j,hc.eq]
    rw [q0o (by omega)]
    by_cases e:t[k]∈v <;> simp [e]
  · simp only [q0d.next0,q0d.round0,evz,Nat.reduceLT,Nat.lt_irrefl]
 refine q0v rfl 0 ((q3n.ev _ _ _).trans ?_)
 simp only [evz,Nat.reduceLT,hi.eq,q8a]
theorem qgi {l:List Symbol} {t:List Int} (h:TermOk l t):Call F.q0x [.sl 1 [slc t]] (slc (qa3 [t]))∧(qa3 [t]).length≤24:=by
 have hle:=h.le
 have hvl:=qcx [t]
 refine ⟨q0x [t] (by simp) (fun x hx => ?_) (by simp; omega),by simp at hvl; omega⟩
 simp only [List.mem_cons,List.not_mem_nil,or_false] at hx
 subst hx
 exact ⟨by omega,h.ge⟩
theorem qx6 {l:List Symbol} {t:List Int} (h:TermOk l t):t[0]?=some (t.headD 0):=by
 have:=h.pos
 cases t with
 | nil=>simp at this
 | cons x r=>rfl
theorem q7v {l:List Symbol} {a b:List Int} (ha:TermOk l a) (hb:TermOk l b):Call F.q7v [.agg [slc a,slc b]] (.bool (qbe ⟨a,b⟩)):=by
 refine q0v rfl 0 ((q7v.ev _ _ _).trans ?_)
 obtain ⟨ca,la⟩:=qgi ha
 obtain ⟨cb,lb⟩:=qgi hb
 have h0:(cells a)[0]?=some (.int .i64 (a.headD 0)):=by
  have:=get0 (l:=a) (k:=1) (i:=0) q3c
  rw [Nat.zero_mul] at this
  rw [this,qx6 ha]; rfl
 have hin:inB 0 ((cells a).length / 1)=true:=by
  rw [q4r q3c]
  have:=q5f 0 a.length
  have hp:=ha.pos
  rw [show (0:Int)=((0:Nat):Int) from rfl,this]
  exact decide_eq_true hp
 have hc:=q3n (qa3 [b]) (qa3 [a]) (by omega) (by omega)
 rw [hin,cond_true,h0]
 simp only [evz,Nat.reduceLT,qbe]
 have e:((qa3 [b]).any fun n=>decide (n∉qa3 [a]))=b.any fun n=>decide (n < 0∧n∉a):=by
  rw [Bool.eq_iff_iff,List.any_eq_true,List.any_eq_true]
  constructor
  · rintro ⟨v,hv,h⟩
    rw [decide_eq_true_eq] at h
    obtain ⟨v0,t,ht,hm⟩:=q8g.1 hv
    simp only [List.mem_cons,List.not_mem_nil,or_false] at ht
    subst ht
    refine ⟨-1 - v,hm,?_⟩
    rw [decide_eq_true_eq]
    exact ⟨by omega,fun hn=>h (q8g.2 ⟨v0,a,by simp,hn⟩)⟩
  · rintro ⟨n,hn,h⟩
    rw [decide_eq_true_eq] at h
    refine ⟨-1 - n,q8g.2 ⟨by omega,b,by simp,by rw [show -1 - (-1 - n)=n by omega]; exact hn⟩,?_⟩
    rw [decide_eq_true_eq]
    intro hm
    obtain ⟨_,t,ht,hm'⟩:=q8g.1 hm
    simp only [List.mem_cons,List.not_mem_nil,or_false] at ht
    subst ht
    rw [show -1 - (-1 - n)=n by omega] at hm'
    exact h.2 hm'
 by_cases h1:a.headD 0 < 0
 · have h2:¬ 0≤a.headD 0:=by omega
   simp only [h1,h2,evz,Nat.reduceLT,Bool.false_and]
 · have h2:0≤a.headD 0:=by omega
   simp only [h1,h2,evz,Nat.reduceLT,ca.eq,cb.eq,hc.eq,e,Bool.true_and]
theorem q41 (l:List Symbol) (hs:l.length≤4294967296) (es:List Equation) (he:sm 4294967296 es):Call F.q41 [.agg [slc l],slc es] (.int .i64 (q3p ⟨l⟩ es)):=by
 refine q0v rfl 0 ((q41.ev _ _ _).trans ?_)
 simp only [evz,Nat.reduceLT,(q0y l hs es he).eq,q3p,q96]
 by_cases h1:q2z ⟨l⟩=0
 case neg=>simp only [h1,evz,Nat.reduceLT,ne_eq,not_false_eq_true]
 simp only [h1,evz,Nat.reduceLT,ne_eq,not_true_eq_false]
 by_cases h2:q6d l es=0
 case neg=>simp only [h2,evz,Nat.reduceLT,not_false_eq_true]
 obtain ⟨hlen,hok⟩:=qbp.1 h2
 have hi:Call F.q2x [slc es,.clo F.q3a []] (.int .i64 (idx (fun e => !qbe e) es)):=by
  refine q0v rfl (es.length+1) ((q07.ev _ _).trans ?_)
  simp only [evz,Nat.reduceLT]
  refine q8h (S:=fun m k=>q07.at0 (es.length+1) m (q07.st0 (cells es) es.length (k:Nat))) (fun m k h => ?_) (fun m => ?_) (Nat.lt_succ_self _)
  · have hlk:es[k]?=some es[k]:=List.getElem?_eq_getElem h
    have ho:=hok es[k] (List.getElem_mem h)
    have hc:Call F.q3a [.agg [slc es[k].left,slc es[k].right]] (.bool (!qbe es[k])):=by
     refine q0v rfl 0 ((q3a.ev _ _ _).trans ?_)
     simp only [evz,Nat.reduceLT,(q7v ho.left ho.right).eq]
    simp only [q07.next0,q07.round0,evz,Nat.reduceLT,h,hlk,q52,hc.eq]
    rw [q0o (by omega)]
    cases qbe es[k] <;> rfl
  · simp only [q07.next0,q07.round0,evz,Nat.reduceLT,Nat.lt_irrefl]
 have hc:Call F.q4w [slc es,.clo F.q3a []] (.bool (es.any fun e => !qbe e)):=by
  refine q0v rfl 0 ((q58.ev _ _).trans ?_)
  simp only [evz,Nat.reduceLT,hi.eq,q8a]
 simp only [h2,evz,Nat.reduceLT,not_true_eq_false,hc.eq]
 cases es.any fun e => !qbe e <;> rfl
theorem q1k (t:List Int) (x:Int) (hl:t.length≤4294967296):Call F.q1k [slc t,.int .i64 x] (.int .i64 (t.count x:Nat)):=by
 have loop:∀ m k (c:Nat),k≤t.length→t.length < m+k→c≤k →
  q1k.at0 (t.length+1) m (q1k.st0 (cells t) x (c:Nat) (k:Nat))=some (.int .i64 ((c+(t.drop k).count x:Nat):Int),[]):=by
  intro m
  induction m with
  | zero=>intros; omega
  | succ m ih =>
    intro k c hk hm hc
    by_cases h:k < t.length
    · have hlk:t[k]?=some t[k]:=List.getElem?_eq_getElem h
      simp only [q1k.next0,q1k.round0,evz,Nat.reduceLT,h,hlk,q1j]
      rw [q0o (by omega),q0o (by omega),List.drop_eq_getElem_cons h,List.count_cons]
      by_cases e:t[k]=x
      · simp only [e,evz,Nat.reduceLT]
        rw [ih (k+1) (c+1) (by omega) (by omega) (by omega)]
        simp
        omega
      · simp only [e,evz,Nat.reduceLT]
        rw [ih (k+1) c (by omega) (by omega) (by omega)]
        simp [e]
    · obtain rfl:k=t.length:=by omega
      simp only [q1k.next0,q1k.round0,evz,Nat.reduceLT,Nat.lt_irrefl,List.drop_length,List.count_nil,Nat.add_zero]
 refine q0v rfl (t.length+1) ((q1k.ev _ _ _).trans ?_)
 have:=loop (t.length+1) 0 0 (by omega) (by omega) (by omega)
 rw [List.drop_zero,Nat.zero_add] at this
 exact this
theorem q0u (l:List Symbol) (ok:SigOk ⟨l⟩) (es:List Equation) (he:sm 4294967296 es):Call F.q0u [.rref [slc l] 0,slc es] (.int .i64 (q96 l es)):=by
 refine q0v rfl 25 ((q0u.ev _ _ _).trans ?_)
 simp only [evz,Nat.reduceLT,(q1w l ok es he).eq,q96]
 by_cases h2:q6d l es=0
 case neg=>simp only [h2,evz,Nat.reduceLT,ne_eq,not_false_eq_true]
 obtain ⟨hlen,hok⟩:=qbp.1 h2
 simp only [h2,evz,Nat.reduceLT,ne_eq,not_true_eq_false]
 have inner:∀ (L0:St→R) (k:Nat) (h:k < es.length), 
  q0u.at2 25 L0 25 (q0u.st2 (cells es) (k:Nat) ((0:Nat):Int))=if (es[k].right.any fun n=>decide (n < 0∧n∉es[k].left))=true then some (.int .i64 1,[]) else L0 (q0u.st0 (cells es) ((k+1:Nat):Int)):=fun L0 k h=>by
  have hlk:es[k]?=some es[k]:=List.getElem?_eq_getElem h
  have ho:=hok es[k] (List.getElem_mem h)
  have hle:=ho.right.le
  have hle':=ho.left.le
  refine q83 (l:=es[k].right) (p:=fun n=>decide (n < 0∧n∉es[k].left)) (r:=some (.int .i64 1,[])) (S:=fun m j=>q0u.at2 25 L0 m (q0u.st2 (cells es) (k:Nat) (j:Nat))) (fun m j hj => ?_) (fun m => ?_) (by omega)
  · have hlj:es[k].right[j]?=some es[k].right[j]:=List.getElem?_eq_getElem hj
    simp only [q0u.next2,q0u.round2,evz,Nat.reduceLT,h,hlk,hj,hlj,q52,q1j,(q1k es[k].left es[k].right[j] (by omega)).eq]
    rw [q0o (by omega)]
    by_cases q1:es[k].right[j] < 0
    · by_cases q2:es[k].right[j]∈es[k].left
      · have q3:0 < es[k].left.count es[k].right[j]:=List.count_pos_iff.2 q2
        have q4:¬ ((es[k].left.count es[k].right[j]:Nat):Int)=0:=by omega
        simp only [q1,q2,q4,evz,Nat.reduceLT,not_true_eq_false,and_false,Bool.false_eq_true]
      · have q3:es[k].left.count es[k].right[j]=0:=List.count_eq_zero.2 q2
        simp only [q1,q2,q3,evz,Nat.reduceLT,not_false_eq_true,and_true,Int.natCast_zero]
    · simp only [q1,evz,Nat.reduceLT,false_and,Bool.false_eq_true]
  · simp only [q0u.next2,q0u.round2,evz,Nat.reduceLT,h,hlk,q52,Nat.lt_irrefl]
    rw [q0o (by omega)]
 refine (q83 (l:=es) (p:=fun e => !qbe e) (r:=some (.int .i64 1,[])) (z:=some (.int .i64 0,[])) (S:=fun m k=>q0u.at0 25 m (q0u.st0 (cells es) (k:Nat))) (fun m k h => ?_) (fun m => ?_) (show es.length < 25 by omega)).trans ?_
 · have hlk:es[k]?=some es[k]:=List.getElem?_eq_getElem h
   have ho:=hok es[k] (List.getElem_mem h)
   have h0:(cells es[k].left)[0]?=some (.int .i64 (es[k].left.headD 0)):=by
    have:=get0 (l:=es[k].left) (k:=1) (i:=0) q3c
    rw [Nat.zero_mul] at this
    rw [this,qx6 ho.left]; rfl
   have hin:inB 0 es[k].left.length=true:=by
    have:=q5f 0 es[k].left.length
    have hp:=ho.left.pos
    rw [show (0:Int)=((0:Nat):Int) from rfl,this]
    exact decide_eq_true hp
   simp only [q0u.next0,q0u.round0,evz,Nat.reduceLT,h,hlk,q52,hin,h0,qbe]
   by_cases q1:es[k].left.headD 0 < 0
   · have q2:¬ 0≤es[k].left.headD 0:=by omega
     simp only [q1,q2,evz,Nat.reduceLT,Bool.false_and,Bool.not_false]
   · have q2:0≤es[k].left.headD 0:=by omega
     simp only [q1,q2,evz,Nat.reduceLT,Bool.true_and,Bool.not_not]
     exact inner _ k h
 · simp only [q0u.next0,q0u.round0,evz,Nat.reduceLT,Nat.lt_irrefl]
 · cases es.any fun e => !qbe e <;> rfl
theorem q45 (l:List Symbol) (hs:l.length≤4294967296) (es:List Equation) (he:sm 4294967296 es):Call F.q45 [.agg [slc l],slc es] (.int .i64 (q3p ⟨l⟩ es)):=by
 refine q0v rfl 0 ((q45.ev _ _ _).trans ?_)
 simp only [evz,Nat.reduceLT,(q00 l hs).eq,q3p]
 by_cases h1:q2z ⟨l⟩=0
 case neg=>simp only [h1,evz,Nat.reduceLT,ne_eq,not_false_eq_true]
 have ok:=(q7j _).1 h1
 simp only [h1,evz,Nat.reduceLT,ne_eq,not_true_eq_false,(q0u l ok es he).eq]
def digs (z:Nat):Nat→Nat→List Int
 | 0,_=>[]
 | k+1,n=>((n % z:Nat):Int)::digs z k (n / z)
def odo (z:Nat):List Int→List Int
 | []=>[]
 | x::r=>if x+1 < z then (x+1)::r else 0::odo z r
theorem qay (z:Nat):∀ k n,(digs z k n).length=k
 | 0,_=>rfl
 | k+1,n=>by rw [digs,List.length_cons,qay z k]
theorem qc7 {z:Nat} (hz:0 < z):∀ k n,∀ x∈digs z k n,0≤x∧x≤(z:Int) - 1
 | 0,_=>by simp [digs]
 | k+1,n=>by
   intro x hx
   rw [digs,List.mem_cons] at hx
   rcases hx with rfl | hx
   · have:=Nat.mod_lt n hz; omega
   · exact qc7 hz k _ x hx
theorem qnr {z:Nat} (hz:0 < z):∀ k n,odo z (digs z k n)=digs z k (n+1)
 | 0,_=>rfl
 | k+1,n=>by
   rw [digs,odo,digs]
   have hm:=Nat.mod_lt n hz
   have hd:=Nat.div_add_mod n z
   by_cases h:n % z+1 < z
   · have e1:(n+1) % z=n % z+1:=by
      rw [Nat.add_mod,Nat.mod_eq_of_lt (show 1 < z by omega),Nat.mod_eq_of_lt h]
     have e2:(n+1) / z=n / z:=by
      rw [Nat.div_eq_iff hz]
      constructor <;> (have:=Nat.mul_comm z (n / z); omega)
     rw [if_pos (by omega),e1,e2]; rfl
   · have e0:n+1=(n / z+1)*z:=by
      rw [Nat.add_mul,Nat.one_mul,Nat.mul_comm (n / z) z]; omega
     have e1:(n+1) % z=0:=by rw [e0,Nat.mul_mod_left]
     have e2:(n+1) / z=n / z+1:=by rw [e0,Nat.mul_div_cancel _ hz]
     rw [if_neg (by omega),e1,e2,qnr hz k]; rfl
theorem qlc (z:Nat):∀ k,digs z k 0=List.replicate k 0
 | 0=>rfl
 | k+1=>by rw [digs,Nat.zero_mod,Nat.zero_div,qlc z k,List.replicate_succ]; rfl
noncomputable def qc9 (l:List Symbol) (z:Nat) (tb:List (List Int)) (e:Equation) (n:Nat):Bool :=
 decide ((q3v l e.left).eval z tb (digs z 6 n)≠(q3v l e.right).eval z tb (digs z 6 n))
noncomputable def q6u (l:List Symbol) (z:Nat) (tb:List (List Int)) (e:Equation):Bool := !(List.range (z ^ 6)).any (qc9 l z tb e)
section
variable {l:List Symbol} {z:Nat} {tb:List (List Int)} (al:AlgOk l z tb)
include al
theorem q8s {vs t:List Int} (hv:vs.length=6) (hr:∀ n∈vs,0≤n∧n≤(z:Int) - 1) (to:TermOk l t) (hlow:∀ n∈t,-6≤n) :
 Call F.q53 [.agg [.int .i64 z,slc tb],.agg [slc l],slc vs,slc t] (.int .i64 ((q3v l t).eval z tb vs)):=by
 obtain ⟨o1,o2⟩:=q43 al.sig to
 have hle:=to.le
 have hl6:(q3v l t).low 6:=Tm.low_of fun n hn=>by rw [← o2] at hn; exact hlow n hn
 have hsy:(q3v l t).syms l.length:=Tm.syms_of o1 fun n hn=>to.node n (by rw [o2]; exact hn)
 have he:=q0m al hv hr (by omega:t.length≤4294967296) (q3v l t) [] 0 (by rw [List.drop_zero,List.append_nil]; exact o2) o1 hsy hl6
 refine q0v rfl 0 ((q53.ev _ _ _ _ _ _).trans ?_)
 simp only [evz,Nat.reduceLT,show LIM F.q0m [.agg [.int .i64 z,slc tb],.agg [slc l],slc vs,slc t,.int .i64 0]=_ from he]
theorem qbf {vs t:List Int} (hv:vs.length=6) (hr:∀ n∈vs,0≤n∧n≤(z:Int) - 1) (to:TermOk l t) (hlow:∀ n∈t,-6≤n) :
 Call F.q1a [.rref [slc l] 0,.rref [.int .i64 z,slc tb] 0,slc vs,slc t,.int .i64 0] (.int .i64 ((q3v l t).eval z tb vs)):=by
 obtain ⟨o1,o2⟩:=q43 al.sig to
 have hle:=to.le
 have hl6:(q3v l t).low 6:=Tm.low_of fun n hn=>by rw [← o2] at hn; exact hlow n hn
 have hsy:(q3v l t).syms l.length:=Tm.syms_of o1 fun n hn=>to.node n (by rw [o2]; exact hn)
 exact q1a al hv hr to.node (by omega) (q3v l t) [] 0 (by rw [List.drop_zero,List.append_nil]; exact o2) o1 hsy hl6
theorem pow6:z ^ 6≤729∧0 < z∧z≤3:=by
 have:=al.size
 have h1:1≤z:=by omega
 have h3:z≤3:=by omega
 refine ⟨?_,by omega,h3⟩
 have:z=1∨z=2∨z=3:=by omega
 rcases this with rfl | rfl | rfl <;> decide
theorem q09 {e:Equation} (ho:EqOk l e):Call F.q09 [.agg [.int .i64 z,slc tb],.agg [slc l],.agg [slc e.left,slc e.right]] (.bool (q6u l z tb e)):=by
 obtain ⟨h729,hz0,hz3⟩:=pow6 al
 have hp:=q2p z 6 hz3 (by omega)
 refine q0v rfl 1000 ((q09.ev _ _ _ _ _ _).trans ?_)
 have inner:∀ (L0:St→R) (k:Nat),k < 729→∀ m j (v:List Int),v.length=6→(∀ x∈v,0≤x∧x≤(z:Int) - 1)→j≤6→6 < m+j →
  q09.at2 1000 L0 m (q09.st2 (z ^ 6:Nat) (k:Nat) ((6:Nat):Int) (j:Nat) z (cells tb) (cells l) (cells e.left) (cells e.right) (cells v)) =
   L0 (q09.st0 (z ^ 6:Nat) ((k+1:Nat):Int) z (cells tb) (cells l) (cells e.left) (cells e.right) (cells (v.take j++odo z (v.drop j)))):=by
  intro L0 k hk m
  induction m with
  | zero=>intros; omega
  | succ m ih =>
    intro j v hv hr hj hm
    by_cases h:j < 6
    · have hjv:j < v.length:=by omega
      have hlk:v[j]?=some v[j]:=List.getElem?_eq_getElem hjv
      obtain ⟨b1,b2⟩:=hr v[j] (List.getElem_mem hjv)
      have hls:∀ x:Int,(v.set j x)[j]?=some x:=fun x=>by rw [List.getElem?_set_self hjv]
      have hdc:decide (j*1+1≤(cells v).length)=true:=by rw [q0n,q3c]; exact decide_eq_true (by omega)
      have hdc':∀ x:Int,decide (j*1+1≤(cells (v.set j x)).length)=true:=fun x=>by rw [q0n,q3c,List.length_set]; exact decide_eq_true (by omega)
      simp only [q09.next2,q09.round2,evz,Nat.reduceLT,h,hjv,hlk,q1j,hdc]
      rw [q0o (by omega),q0o (by omega),q1z (show -9223372036854775808≤v[j]+1∧v[j]+1 < 9223372036854775808 by omega)]
      simp only [q8r hjv,evz,Nat.reduceLT,List.length_set,hjv,hls,q1j,hdc']
      rw [List.drop_eq_getElem_cons hjv,odo]
      by_cases hx:v[j]+1 < (z:Int)
      · simp only [hx,evz,Nat.reduceLT]
        rw [List.set_eq_take_append_cons_drop,if_pos hjv]
      · simp only [hx,evz,Nat.reduceLT]
        rw [q8r (by rw [List.length_set]; exact hjv),List.set_set,ih (j+1) (v.set j 0) (by rw [List.length_set]; exact hv) (fun x hx'=>by
         rcases List.mem_or_eq_of_mem_set hx' with h' | rfl
         · exact hr x h'
         · omega) (by omega) (by omega)]
        rw [List.drop_set_of_lt (by omega),List.take_succ_eq_append_getElem (by rw [List.length_set]; exact hjv),List.getElem_set_self,List.take_set_of_le (Nat.le_refl _),List.append_assoc,List.singleton_append,if_pos (by rw [q0n,q3c,List.length_set]; omega)]
    · obtain rfl:j=6:=by omega
      simp only [q09.next2,q09.round2,evz,Nat.reduceLT,Nat.lt_irrefl]
      rw [q0o (by omega),List.drop_of_length_le (by omega),odo,List.append_nil,List.take_of_length_le (by omega)]
 have outer:=qai (n:=z ^ 6) (bad:=qc9 l z tb e) (r:=some (.bool false,[])) (z:=some (.bool true,[]))
  (S:=fun m k=>q09.at0 1000 m (q09.st0 (z ^ 6:Nat) (k:Nat) z (cells tb) (cells l) (cells e.left) (cells e.right) (cells (digs z 6 k)))) (f:=1000)
  (fun m k hk=>by
   have hdl:=qay z 6 k
   have hdr:=qc7 hz0 6 k
   simp only [q09.next0,q09.round0,evz,Nat.reduceLT,hk,(q8s al hdl hdr ho.left ho.lowL).eq,(q8s al hdl hdr ho.right ho.lowR).eq,qc9,hdl]
   have hin:=inner (q09.at0 1000 m) k (by omega) 1000 0 (digs z 6 k) hdl hdr (by omega) (by omega)
   rw [List.take_zero,List.nil_append,List.drop_zero,qnr hz0] at hin
   by_cases hne:(q3v l e.left).eval z tb (digs z 6 k)=(q3v l e.right).eval z tb (digs z 6 k)
   · simp only [hne,evz,Nat.reduceLT,ne_eq,not_true_eq_false,Bool.false_eq_true]
     exact hin
   · simp only [hne,evz,Nat.reduceLT,ne_eq,not_false_eq_true])
  (fun m=>by simp only [q09.next0,q09.round0,evz,Nat.reduceLT,Nat.lt_irrefl]) (by omega)
 simp only [evz,Nat.reduceLT,show LIM F.q2p [.int .i64 z,.int .i64 6]=_ from hp]
 rw [qlc] at outer
 refine Eq.trans outer ?_
 unfold q6u
 cases (List.range (z ^ 6)).any (qc9 l z tb e) <;> rfl
theorem q0p {e:Equation} (ho:EqOk l e):Call F.q0p [.rref [slc l] 0,.rref [.int .i64 z,slc tb] 0,.rref [slc e.left,slc e.right] 0] (.bool (q6u l z tb e)):=by
 obtain ⟨h729,hz0,hz3⟩:=pow6 al
 have hp:=q4a z 6 hz3 (by omega)
 refine q0v rfl 1000 ((q0p.ev _ _ _ _ _ _).trans ?_)
 have inner:∀ (L0:St→R) (k:Nat),k < 729→∀ m j x (acc:List Int),acc.length=j→j≤6→6 < m+j→acc++digs z (6 - j) x=digs z 6 k→x≤729 →
  q0p.at2 1000 L0 m (q0p.st2 (cells l) z (cells tb) (cells e.left) (cells e.right) (k:Nat) (x:Nat) (j:Nat) (cells acc)) =
   if qc9 l z tb e k=true then some (.bool false,[]) else L0 (q0p.st0 (cells l) z (cells tb) (cells e.left) (cells e.right) ((k+1:Nat):Int)):=by
  intro L0 k hk m
  induction m with
  | zero=>intros; omega
  | succ m ih =>
    intro j x acc hacc hj hm hd hx
    by_cases h:j < 6
    · have h6:((j:Nat):Int) < 6:=by omega
      have hzi:¬ ((z:Nat):Int)=0:=by omega
      have hble:Nat.ble (((cells acc).length+1)*8) (140737488355328*1)=true:=by
       rw [Nat.ble_eq,q0n,q3c]; omega
      have hdiv:x / z≤x:=Nat.div_le_self _ _
      rw [show 6 - j=(6 - (j+1))+1 by omega,digs] at hd
      have hdm:Int.tdiv (x:Nat) (z:Nat)=((x / z:Nat):Int):=rfl
      generalize x / z=q at hdiv hdm hd
      simp only [q0p.next2,q0p.round2,evz,Nat.reduceLT,h6,hzi,hble]
      rw [hdm,show Int.tmod (x:Nat) (z:Nat)=((x % z:Nat):Int) from rfl,q0o (by omega),q1z (by omega),q2j]
      refine ih (j+1) q (acc++[((x % z:Nat):Int)]) (by rw [List.length_append,hacc]; rfl) (by omega) (by omega) ?_ (by omega)
      rw [List.append_assoc,List.singleton_append]
      exact hd
    · obtain rfl:j=6:=by omega
      rw [Nat.sub_self,digs,List.append_nil] at hd
      subst hd
      have hdl:=qay z 6 k
      have hdr:=qc7 hz0 6 k
      have h6:¬ ((6:Nat):Int) < 6:=by omega
      simp only [q0p.next2,q0p.round2,evz,Nat.reduceLT,h6,(qbf al hdl hdr ho.left ho.lowL).eq,(qbf al hdl hdr ho.right ho.lowR).eq,qc9]
      rw [q0o (by omega)]
      by_cases hne:(q3v l e.left).eval z tb (digs z 6 k)=(q3v l e.right).eval z tb (digs z 6 k)
      · simp only [hne,evz,Nat.reduceLT,ne_eq,not_true_eq_false,Bool.false_eq_true]
      · simp only [hne,evz,Nat.reduceLT,ne_eq,not_false_eq_true]
 have outer:=qai (n:=z ^ 6) (bad:=qc9 l z tb e) (r:=some (.bool false,[])) (z:=some (.bool true,[]))
  (S:=fun m k=>q0p.at0 1000 m (q0p.st0 (cells l) z (cells tb) (cells e.left) (cells e.right) (k:Nat))) (f:=1000)
  (fun m k hk=>by
   simp only [q0p.next0,q0p.round0,evz,Nat.reduceLT,show LIM F.q4a [.int .i64 z,.int .i64 6]=_ from hp,hk]
   exact inner (q0p.at0 1000 m) k (by omega) 1000 0 k [] rfl (by omega) (by omega) (by simp) (by omega))
  (fun m=>by simp only [q0p.next0,q0p.round0,evz,Nat.reduceLT,show LIM F.q4a [.int .i64 z,.int .i64 6]=_ from hp,Nat.lt_irrefl]) (by omega)
 refine Eq.trans outer ?_
 unfold q6u
 cases (List.range (z ^ 6)).any (qc9 l z tb e) <;> rfl
end
theorem q8f (b:Bool):Call F.q8f [.bool b] (.agg [.int .i64 0,.int .i64 (if b=true then 1 else 0)]):=by
 refine q0v rfl 0 ((q8f.ev _ _).trans ?_)
 cases b <;> rfl
theorem q7t (b:Bool):Call F.q7t [.bool b] (.agg [.int .i64 0,.int .i64 (if b=true then 1 else 0)]):=by
 refine q0v rfl 0 ((q7t.ev _ _).trans ?_)
 cases b <;> rfl
noncomputable def qoa (s:Signature) (a:Algebra) (e:Equation):IntResult :=
 if q6f s a≠0 then ⟨q6f s a,0⟩ else if q3b s.symbols e≠0 then ⟨q3b s.symbols e,0⟩ else ⟨0,if q6u s.symbols a.size.toNat a.tables e=true then 1 else 0⟩
noncomputable def qav (s:Signature) (a:Algebra) (es:List Equation):IntResult :=
 if q6f s a≠0 then ⟨q6f s a,0⟩ else if q6d s.symbols es≠0 then ⟨q6d s.symbols es,0⟩ else ⟨0,if (!es.any fun e => !q6u s.symbols a.size.toNat a.tables e)=true then 1 else 0⟩
section
variable (l:List Symbol) (z:Int) (tb:List (List Int)) (hs:l.length≤4294967296) (ht:sm 4294967296 tb)
include hs ht
theorem q8d (e:Equation) (he:sm 4294967296 e):Call F.q8d [.agg [slc l],.agg [.int .i64 z,slc tb],.agg [slc e.left,slc e.right]] (.agg (enc (qoa ⟨l⟩ ⟨z,tb⟩ e))):=by
 refine q0v rfl 0 ((q8d.ev _ _ _ _ _ _).trans ?_)
 simp only [evz,Nat.reduceLT,(q14 l z tb hs ht).eq,(q3d l hs e.left e.right he.1.1 he.2.1).eq,(qbr _ _).eq,qoa]
 by_cases h1:q6f ⟨l⟩ ⟨z,tb⟩=0
 case neg=>simp only [h1,evz,Nat.reduceLT,ne_eq,not_false_eq_true,q6i]
 have al:=qvs h1
 have hsg:=qkl h1
 obtain ⟨y,hy⟩:∃ y:Nat,z=y:=⟨z.toNat,by have:=al.size; omega⟩
 subst hy
 simp only [h1,hsg,evz,Nat.reduceLT,ne_eq,not_true_eq_false]
 by_cases h2:q3b l e=0
 case neg=>simp only [h2,evz,Nat.reduceLT,not_false_eq_true,q6i]
 have ho:=qbt.1 h2
 simp only [h2,evz,Nat.reduceLT,not_true_eq_false,(q09 al ho).eq,(q8f _).eq,q6i]
theorem q75 (es:List Equation) (he:sm 4294967296 es):Call F.q75 [.agg [slc l],.agg [.int .i64 z,slc tb],slc es] (.agg (enc (qav ⟨l⟩ ⟨z,tb⟩ es))):=by
 refine q0v rfl 0 ((q75.ev _ _ _ _ _).trans ?_)
 simp only [evz,Nat.reduceLT,(q0b l z tb hs ht).eq,qav]
 by_cases h1:q6f ⟨l⟩ ⟨z,tb⟩=0
 case neg=>simp only [h1,evz,Nat.reduceLT,ne_eq,not_false_eq_true,q6i]
 have al:=qvs h1
 obtain ⟨y,hy⟩:∃ y:Nat,z=y:=⟨z.toNat,by have:=al.size; omega⟩
 subst hy
 simp only [h1,evz,Nat.reduceLT,ne_eq,not_true_eq_false,(q1w l al.sig es he).eq]
 by_cases h2:q6d l es=0
 case neg=>simp only [h2,evz,Nat.reduceLT,not_false_eq_true,q6i]
 obtain ⟨hlen,hok⟩:=qbp.1 h2
 have hc:Call F.q2m [.rref [slc l] 0,.rref [.int .i64 y,slc tb] 0,slc es] (.bool (!es.any fun e => !q6u l y tb e)):=by
  refine q0v rfl (es.length+1) ((q2m.ev _ _ _ _ _).trans ?_)
  refine (q83 (l:=es) (p:=fun e => !q6u l y tb e) (r:=some (.bool false,[])) (z:=some (.bool true,[])) (S:=fun m k=>q2m.at0 (es.length+1) m (q2m.st0 (cells l) y (cells tb) (cells es) (k:Nat))) (fun m k h => ?_) (fun m => ?_) (Nat.lt_succ_self _)).trans ?_
  · have hlk:es[k]?=some es[k]:=List.getElem?_eq_getElem h
    have ho:=hok es[k] (List.getElem_mem h)
    simp only [q2m.next0,q2m.round0,evz,Nat.reduceLT,h,hlk,q68 q3y hlk,q52,(q0p al ho).eq]
    rw [q0o (by omega)]
    cases q6u l y tb es[k] <;> rfl
  · simp only [q2m.next0,q2m.round0,evz,Nat.reduceLT,Nat.lt_irrefl]
  · cases es.any fun e => !q6u l y tb e <;> rfl
 simp only [h2,evz,Nat.reduceLT,not_true_eq_false,hc.eq,(q7t _).eq,q6i,Int.toNat_natCast]
end
theorem q23 (l r:List Int) (hs:sm 4294967296 l):Call F.q23 [slc l,slc r] (.bool (decide (l=r))):=by
 refine q0v rfl (l.length+1) ((q23.ev _ _ _).trans ?_)
 simp only [q4r,q3c]
 by_cases hl:l.length=r.length
 · have loop:=qma hl (S:=fun m k=>q23.at0 (l.length+1) m (q23.st0 (cells l) (cells r) (k:Nat)))
    (fun m k h h'=>by
     have hlk:l[k]?=some l[k]:=List.getElem?_eq_getElem h
     have hrk:r[k]?=some r[k]:=List.getElem?_eq_getElem h'
     simp only [q23.next0,q23.round0,evz,Nat.reduceLT,h,h',hlk,hrk,q68 (l:=l) q3c hlk,q68 (l:=r) q3c hrk,q1j,qi2]
     rw [q0o (by have:=hs.1; omega)])
    (fun m=>by
     simp only [q23.next0,q23.round0,evz,Nat.reduceLT,Nat.lt_irrefl])
   rw [qd5 (by rw [hl]; exact bne_self_eq_false _)]
   exact loop
 · rw [q1h (by simp; omega)]
   simp only [show (l=r)=False from eq_false fun e=>hl (e ▸ rfl),decide_false]
theorem q0r (l r:List Int) (hs:sm 4294967296 l):Call F.q0r [slc l,slc r] (.bool (decide (l=r))):=by
 refine q0v rfl (l.length+1) ((q0r.ev _ _ _).trans ?_)
 simp only [q4r,q3c]
 by_cases hl:l.length=r.length
 · have loop:=qma hl (S:=fun m k=>q0r.at0 (l.length+1) m (q0r.st0 (cells l) (cells r) l.length (k:Nat)))
    (fun m k h h'=>by
     have hlk:l[k]?=some l[k]:=List.getElem?_eq_getElem h
     have hrk:r[k]?=some r[k]:=List.getElem?_eq_getElem h'
     simp only [q0r.next0,q0r.round0,evz,Nat.reduceLT,h,h',hlk,hrk,q68 (l:=l) q3c hlk,q68 (l:=r) q3c hrk,q1j,qi2]
     rw [q0o (by have:=hs.1; omega)])
    (fun m=>by
     simp only [q0r.next0,q0r.round0,evz,Nat.reduceLT,Nat.lt_irrefl])
   rw [qd5 (by rw [hl]; exact bne_self_eq_false _)]
   exact loop
 · rw [q1h (by simp; omega)]
   simp only [show (l=r)=False from eq_false fun e=>hl (e ▸ rfl),decide_false]
theorem q3m (v_left:List Int) (v_right:List Int) (w_left:List Int) (w_right:List Int) (hs:sm 4294967296 (Equation.mk v_left v_right)):Call F.q3m [.agg [slc v_left,slc v_right],.agg [slc w_left,slc w_right]] (.bool (decide ((Equation.mk v_left v_right)=(Equation.mk w_left w_right)))):=by
 refine q0v rfl 0 ((q3m.ev _ _ _ _ _ ).trans ?_)
 simp only [evz,Nat.reduceLT,(q0r _ _ hs.1).eq,(q0r _ _ hs.2).eq,Equation.mk.injEq]
 by_cases h0:v_left=w_left
 case neg=>simp only [h0,  beq_self_eq_true,decide_eq_false,not_false_eq_true,if_true,if_false,decide_false,decide_true,cond_false,cond_true,false_and,and_false,↓reduceIte]
 by_cases h1:v_right=w_right
 case neg=>simp only [h1,h0,  beq_self_eq_true,decide_eq_false,not_false_eq_true,if_true,if_false,decide_false,decide_true,cond_false,cond_true,false_and,and_false,↓reduceIte]
 simp only [h0,h1,if_true,decide_true,cond_true,and_true,and_self,beq_self_eq_true]
theorem q02 (l r:List Equation) (hs:sm 4294967296 l):Call F.q2y [slc l,slc r,.clo F.q3m []] (.bool (decide (l=r))):=by
 refine q0v rfl (l.length+1) ((q02.ev _ _ _).trans ?_)
 simp only [q4r,q3y]
 by_cases hl:l.length=r.length
 · have loop:=qma hl (S:=fun m k=>q02.at0 (l.length+1) m (q02.st0 (cells r) (cells l) l.length (k:Nat)))
    (fun m k h h'=>by
     have hlk:l[k]?=some l[k]:=List.getElem?_eq_getElem h
     have hrk:r[k]?=some r[k]:=List.getElem?_eq_getElem h'
     simp only [q02.next0,q02.round0,evz,Nat.reduceLT,h,h',hlk,hrk,q68 (l:=l) q3y hlk,q68 (l:=r) q3y hrk,q52,(q3m l[k].left l[k].right r[k].left r[k].right (hs.2 _ (List.getElem_mem h))).eq]
     rw [q0o (by have:=hs.1; omega)])
    (fun m=>by
     simp only [q02.next0,q02.round0,evz,Nat.reduceLT,Nat.lt_irrefl])
   rw [qd5 (by rw [hl]; exact bne_self_eq_false _)]
   exact loop
 · rw [q1h (by simp; omega)]
   simp only [show (l=r)=False from eq_false fun e=>hl (e ▸ rfl),decide_false]
theorem q44 (l r:List Equation) (hs:sm 4294967296 l):Call F.q44 [slc l,slc r] (.bool (decide (l=r))):=by
 refine q0v rfl 0 ((q44.ev _ _ _).trans ?_)
 simp only [evz,Nat.reduceLT,(q02 l r hs).eq]
theorem qc0 {a:Int→Nat}:∀ {t r:List Int} {k p:Nat},skip a k t=some r→p+r.length < t.length→∃ q,skip a 1 (t.drop p)=some q
 | [],r,k,p,h,hp=>by simp at hp
 | n::t,r,0,p,h,hp=>by
   rw [q3l] at h; cases h; omega
 | n::t,r,k+1,0,h,hp=>by
   rw [show k+1=1+k by omega,q9o] at h
   cases h1:skip a 1 (n::t) with
   | none=>rw [h1] at h; cases h
   | some q=>exact ⟨q,by simpa using h1⟩
 | n::t,r,k+1,p+1,h,hp=>by
   rw [skip] at h
   obtain ⟨q,hq⟩:=qc0 (p:=p) h (by simp at hp; omega)
   exact ⟨q,by simpa using hq⟩
def q6r (l:List Symbol) (t:List Int) (p:Nat):Nat:=match skip (ar l) 1 (t.drop p) with
 | some r=>t.length - r.length
 | none=>t.length
theorem q4s {l:List Symbol} {t:List Int} (ok:TermOk l t) {p:Nat} (hp:p < t.length) :
 p < q6r l t p∧q6r l t p≤t.length∧∀ z,q87 z t (skip (ar l) 1 (t.drop p))=(q6r l t p:Nat):=by
 obtain ⟨q,hq⟩:=qc0 (p:=p) ok.skip (by simpa using hp)
 have h:=qin hq
 unfold q6r
 rw [hq]
 refine ⟨?_,by simp only; omega,fun z=>rfl⟩
 have:=h.2.2 (by omega)
 simp only
 omega
section
variable {l:List Symbol} (ok:SigOk ⟨l⟩)
include ok
theorem qir {t:List Int} (ht:TermOk l t) {p:Nat} (hp:p < t.length):Call F.q2k [.agg [slc l],slc t,.int .i64 p] (.int .i64 (q6r l t p:Nat)):=by
 have h:=q2k ok t ht.node (by have:=ht.le; omega) p (Nat.le_of_lt hp)
 rwa [(q4s ht hp).2.2] at h
theorem q8u {t:List Int} (ht:TermOk l t) {p:Nat} (hp:p < t.length):Call F.q1v [.rref [slc l] 0,slc t,.int .i64 p] (.int .i64 (q6r l t p:Nat)):=by
 have h:=q1v ok t ht.node (by have:=ht.le; omega) p (Nat.le_of_lt hp)
 rwa [(q4s ht hp).2.2] at h
end
theorem qh0 (t:List Int) (i j:Nat):((cells t).take (j*1)).drop (i*1)=cells ((t.take j).drop i):=by
 rw [q92 t 1 j rfl,qa2 _ 1 i rfl]
def q3e (l:List Symbol) (t:List Int) (p:Nat):List Int:=(t.take (q6r l t p)).drop p
theorem qaf (t:List Int) (i j:Nat):T.sl 1 (((cells t).take (j*1)).drop (i*1))=slc ((t.take j).drop i):=by rw [qh0]; rfl
theorem q4p (l:List Int) (h:l.length≤4294967296):Call F.q2s [slc l] (slc l):=by
 refine q0v rfl 0 ((q2s.ev _ _).trans ?_)
 rw [q60,q1h rfl,q1h (q3t (by rw [q0n,q3c]; omega))]
 rfl
theorem q2q (l:List Int) (h:l.length≤4294967296):Call F.q2q [slc l] (slc l):=by
 refine qdl (e:=cloneE) rfl (Ev.of fun m => ?_)
 show (qbl (cells l)).bind _=_
 rw [← q6z,q9l]
 show (bif _ then _ else _)=_
 rw [q1h (by rw [decide_eq_true_iff]; omega),q6z]
 rfl
section
variable {l:List Symbol} (ok:SigOk ⟨l⟩)
include ok
theorem q4n {t:List Int} (ht:TermOk l t) {p:Nat} (hp:p < t.length):Call F.q4n [.agg [slc l],slc t,.int .i64 p] (slc (q3e l t p)):=by
 refine q0v rfl 0 ((q4n.ev _ _ _ _).trans ?_)
 obtain ⟨h1,h2,_⟩:=q4s ht hp
 simp only [evz,Nat.reduceLT,(qir ok ht hp).eq]
 rw [q1h (by simp; omega),qaf]
 rfl
theorem q64 {t:List Int} (ht:TermOk l t) {p:Nat} (hp:p < t.length):Call F.q64 [.rref [slc l] 0,slc t,.int .i64 p] (slc (q3e l t p)):=by
 refine q0v rfl 0 ((q64.ev _ _ _ _).trans ?_)
 obtain ⟨h1,h2,_⟩:=q4s ht hp
 have hle:=ht.le
 simp only [evz,Nat.reduceLT,(q8u ok ht hp).eq]
 rw [q1h (by simp; omega),qaf,(q4p _ (by simp; omega)).eq]
 simp only [evz,Nat.reduceLT]
 rfl
def q4d (l:List Symbol) (t:List Int) (p:Nat) (by_:List Int):List Int:=(t.take p++by_)++t.drop (q6r l t p)
theorem q6b {t:List Int} (ht:TermOk l t) {p:Nat} (hp:p < t.length) (by_:List Int) (hb:by_.length≤1048576):Call F.q6b [.agg [slc l],slc t,.int .i64 p,slc by_] (slc (q4d l t p by_)):=by
 refine q0v rfl 0 ((q6b.ev _ _ _ _ _).trans ?_)
 obtain ⟨h1,h2,_⟩:=q4s ht hp
 have hle:=ht.le
 simp only [q4r,q3c,Int.toNat_natCast]
 rw [q1h (by simp; omega),qaf,(q2q _ (by simp; omega)).eq]
 simp only [evz,Nat.reduceLT,q60,(qir ok ht hp).eq,qh0,← q2t,q4r,q3c,Int.toNat_natCast]
 rw [q1h (q3t (by rw [q0n,q0n,q3c]; simp; omega)),q1h (by simp; omega),q1h (q3t (by rw [q0n,q0n,q3c]; simp; omega))]
 simp [q4d,slc]
theorem q5x {t:List Int} (ht:TermOk l t) {p:Nat} (hp:p < t.length) (by_:List Int) (hb:by_.length≤1048576):Call F.q5x [.rref [slc l] 0,slc t,.int .i64 p,slc by_] (slc (q4d l t p by_)):=by
 refine q0v rfl 0 ((q5x.ev _ _ _ _ _).trans ?_)
 obtain ⟨h1,h2,_⟩:=q4s ht hp
 have hle:=ht.le
 simp only [q4r,q3c,Int.toNat_natCast]
 rw [q1h (by simp; omega),qaf,(q4p _ (by simp; omega)).eq]
 simp only [evz,Nat.reduceLT,q60,(q8u ok ht hp).eq,qh0,← q2t,q4r,q3c,Int.toNat_natCast]
 rw [q1h (q3t (by rw [q0n,q0n,q3c]; simp; omega)),q1h (by simp; omega),q1h (q3t (by rw [q0n,q0n,q3c]; simp; omega))]
 simp [q4d,slc]
end
theorem qct {l:List Symbol} {t:List Int} {p:Nat} {by_:List Int}:(q4d l t p by_).length≤t.length+by_.length+t.length:=by simp [q4d]; omega
def q40 (vs:List Int) (ts:List (List Int)) (v:Int):Option (List Int):=if idx (fun x=>decide (x=v)) vs < 0 then none else ts[(idx (fun x=>decide (x=v)) vs).toNat]?
theorem q0e (l:List Int) (x:Int) (hl:l.length≤4294967296):Call F.q0e [slc l,.int .i64 x] (.int .i64 (idx (fun y=>decide (y=x)) l)):=by
 refine q0v rfl (l.length+1) ((q0e.ev _ _ _).trans ?_)
 simp only [evz,Nat.reduceLT]
 refine q8h (S:=fun m k=>q0e.at0 (l.length+1) m (q0e.st0 (cells l) x l.length (k:Nat))) (fun m k h => ?_) (fun m => ?_) (Nat.lt_succ_self _)
 · have hlk:l[k]?=some l[k]:=List.getElem?_eq_getElem h
   simp only [q0e.next0,q0e.round0,evz,Nat.reduceLT,h,hlk,q1j]
   rw [q0o (by omega)]
   by_cases e:x=l[k]
   · simp [e]
   · have e':¬ l[k]=x:=fun h=>e h.symm
     simp [e,e']
 · simp only [q0e.next0,q0e.round0,evz,Nat.reduceLT,Nat.lt_irrefl]
def ofT:Option (List Int)→T
 | some t => .tup [slc t,.bool true]
 | none => .tup [slc ([]:List Int),.bool false]
theorem q55 (vs:List Int) (ts:List (List Int)) (v:Int) (hl:vs.length=ts.length) (hs:vs.length≤4294967296):Call F.q55 [.agg [slc vs,slc ts],.int .i64 v] (ofT (q40 vs ts v)):=by
 refine q0v rfl 0 ((q55.ev _ _ _ _).trans ?_)
 simp only [evz,Nat.reduceLT,(q0e vs v hs).eq,q40]
 rcases q7m (fun x:Int=>decide (x=v)) vs with ⟨h,_⟩ | ⟨i,hi,h,_,_⟩
 · simp only [h,evz,Nat.reduceLT,ofT,q4q,show ((-1:Int) < 0)=True from by simp]
 · have hn:¬ ((i:Nat):Int) < 0:=by omega
   have hit:i < ts.length:=by omega
   simp only [h,hn,evz,Nat.reduceLT,hit,List.getElem?_eq_getElem,q5m,ofT]
theorem q2f (vs:List Int) (ts:List (List Int)) (v:Int) (hl:vs.length=ts.length) (hs:vs.length≤4294967296):Call F.q2f [.rref [slc vs,slc ts] 0,.int .i64 v] (slc ((q40 vs ts v).getD [])):=by
 refine q0v rfl (vs.length+1) ((q2f.ev _ _ _ _).trans ?_)
 have loop:=q8m (l:=List.range vs.length) (g:=fun k=>if vs[k]?=some v then some (some (slc (ts[k]?.getD []),[])) else none) (z:=some (slc ([]:List Int),[]))
  (S:=fun m k=>q2f.at0 (vs.length+1) m (q2f.st0 (cells vs) (cells ts) v (k:Nat))) (fun m k h => ?_) (fun m => ?_) (f:=vs.length+1) (by simp)
 · refine loop.trans ?_
   unfold q40
   rcases q7m (fun x:Int=>decide (x=v)) vs with ⟨h,hno⟩ | ⟨i,hi,h,hyes,hno⟩
   · rw [h,if_pos (by omega)]
     have:(List.range vs.length).findSome? (fun k=>if vs[k]?=some v then some ((some (slc (ts[k]?.getD []),[]):R)) else none)=none:=by
      rw [List.findSome?_eq_none_iff]
      intro k hk
      rw [List.mem_range] at hk
      rw [if_neg]
      rw [List.getElem?_eq_getElem hk]
      intro e
      have:=hno _ (List.getElem_mem hk)
      simp at this e
      exact this e
     rw [this]; rfl
   · rw [h,if_neg (by omega)]
     have hit:i < ts.length:=by omega
     have:(List.range vs.length).findSome? (fun k=>if vs[k]?=some v then some ((some (slc (ts[k]?.getD []),[]):R)) else none)=some (some (slc ts[i],[])):=by
      rw [List.findSome?_eq_some_iff]
      refine ⟨List.range i,i,(List.range' (i+1) (vs.length - i - 1)),?_,?_,?_⟩
      · rw [List.range_eq_range',List.range_eq_range',← List.range'_succ,show vs.length - i - 1+1=vs.length - i by omega]
        have:=List.range'_append (s:=0) (m:=i) (n:=vs.length - i) (step:=1)
        simp only [Nat.one_mul,Nat.zero_add] at this
        rw [this,Nat.add_sub_cancel' (Nat.le_of_lt hi)]
      · have e1:vs[i]?=some v:=(List.getElem?_eq_getElem hi).trans (congrArg some (of_decide_eq_true hyes))
        have e2:ts[i]?=some ts[i]:=List.getElem?_eq_getElem hit
        simp only [e1,e2,if_true,Option.getD_some]
      · intro k hk
        rw [List.mem_range] at hk
        rw [if_neg]
        rw [List.getElem?_eq_getElem (by omega)]
        intro e
        have:=hno k hk
        simp at this e
        exact this e
     rw [this,Int.toNat_natCast,List.getElem?_eq_getElem hit]; rfl
 · rw [List.length_range] at h
   have hlk:vs[k]?=some vs[k]:=List.getElem?_eq_getElem h
   have hkt:k < ts.length:=by omega
   simp only [q2f.next0,q2f.round0,evz,Nat.reduceLT,h,hkt,hlk,List.getElem?_eq_getElem,q1j,q5m,List.getElem_range,Option.getD_some,Option.some.injEq]
   rw [q0o (by omega)]
   by_cases e:vs[k]=v <;> simp [e]
 · rw [List.length_range]
   simp only [q2f.next0,q2f.round0,evz,Nat.reduceLT,Nat.lt_irrefl,q4q]
def q03 (vs:List Int) (ts:List (List Int)) (t:List Int):List Int:=t.flatMap fun n=>(q40 vs ts (-1 - n)).getD [n]
structure BindOk (vs:List Int) (ts:List (List Int)):Prop where
 len:vs.length=ts.length
 le:vs.length≤1000
 nn:∀ v∈vs,0≤v
 tm:∀ t∈ts,1≤t.length∧t.length≤4096
theorem qdq {vs:List Int} {ts:List (List Int)} (ok:BindOk vs ts) {v:Int} (hv:v < 0):q40 vs ts v=none:=by
 unfold q40
 rcases q7m (fun x:Int=>decide (x=v)) vs with ⟨h,_⟩ | ⟨i,hi,h,hy,_⟩
 · rw [if_pos (by omega)]
 · have:=ok.nn _ (List.getElem_mem hi)
   simp at hy; omega
theorem q5g {vs:List Int} {ts:List (List Int)} {v:Int} {t:List Int} (h:q40 vs ts v=some t):t∈ts:=by
 unfold q40 at h
 split at h
 · cases h
 · exact List.mem_of_getElem? h
def q9r (vs:List Int) (ts:List (List Int)) (o:List Int) (n:Int):List Int:=o++(q40 vs ts (-1 - n)).getD [n]
theorem qf4 (vs:List Int) (ts:List (List Int)):∀ (t o:List Int),t.foldl (q9r vs ts) o=o++q03 vs ts t
 | [],o=>by simp [q03]
 | n::t,o=>by
   rw [List.foldl_cons,qf4 vs ts t]
   simp [q9r,q03]
def appI (k:Nat) (o:List Int):Prop:=o.length≤k*4096
theorem qf8 {vs:List Int} {ts:List (List Int)} (ok:BindOk vs ts) {k:Nat} {o:List Int} {n:Int} (h:appI k o):appI (k+1) (q9r vs ts o n):=by
 unfold appI q9r at *
 rw [List.length_append]
 cases hb:q40 vs ts (-1 - n) with
 | none=>simp; omega
 | some t=>have:=(ok.tm t (q5g hb)).2; simp; omega
theorem q8i {vs:List Int} {ts:List (List Int)} (ok:BindOk vs ts) (t:List Int):(q03 vs ts t).length≤t.length*4096:=by
 have:=qo1 (l:=t) (g:=q9r vs ts) appI (fun k o _ h=>qf8 ok h) [] (by simp [appI])
 rw [qf4] at this
 simpa [appI] using this
theorem q0k (vs:List Int) (ts:List (List Int)) (ok:BindOk vs ts) (t:List Int) (ht:t.length≤4096) (hr:∀ n∈t,-4611686018427387904≤n∧n≤4611686018427387904):Call F.q0k [.agg [slc vs,slc ts],slc t] (slc (q03 vs ts t)):=by
 have hle:=ok.le
 refine q0v rfl (t.length+1) ((q0k.ev _ _ _ _).trans ?_)
 simp only [q4r,q3c]
 have key:=qgn (l:=t) (f:=t.length+1) (S:=fun m k (o:List Int)=>q0k.at0 (t.length+1) m (q0k.st0 (cells t) t.length (k:Nat) (cells vs) (cells ts) (cells o))) (g:=q9r vs ts) (z:=fun (o:List Int)=>some (slc o,[])) appI
  (fun m k o h ho => ?_) (fun k o h ho=>qf8 ok ho) (fun m o ho => ?_) [] (by simp [appI]) (by omega)
 · rw [qf4] at key; exact key
 · have hn:=hr _ (List.getElem_mem h)
   have ho:o.length≤k*4096:=ho
   simp only [q0k.next0,q0k.round0,evz,Nat.reduceLT,h,List.getElem?_eq_getElem,q1j,q1z (x := -1 - t[k]) (by omega),(q55 vs ts (-1 - t[k]) ok.len (by omega)).eq,q9r]
   cases hb:q40 vs ts (-1 - t[k]) with
   | none =>
     simp only [ofT,evz,Nat.reduceLT,q60,Option.getD_none,← q2t]
     rw [q1h (q3t (by rw [q0n,q3c]; omega)),q2j,q0o (by omega)]
   | some x =>
     have hx:=(ok.tm x (q5g hb)).2
     simp only [ofT,evz,Nat.reduceLT,q60,Option.getD_some,← q2t]
     rw [q1h (q3t (by rw [q0n,q0n,q3c]; omega)),q0o (by omega)]
 · simp only [q0k.next0,q0k.round0,evz,Nat.reduceLT,Nat.lt_irrefl]
theorem q19 (vs:List Int) (ts:List (List Int)) (ok:BindOk vs ts) (t:List Int) (ht:t.length≤4096) (hr:∀ n∈t,-4611686018427387904≤n∧n≤4611686018427387904):Call F.q19 [.rref [slc vs,slc ts] 0,slc t] (slc (q03 vs ts t)):=by
 have hle:=ok.le
 refine q0v rfl (t.length+1) ((q19.ev _ _ _ _).trans ?_)
 have key:=qgn (l:=t) (f:=t.length+1) (S:=fun m k (o:List Int)=>q19.at0 (t.length+1) m (q19.st0 (cells vs) (cells ts) (cells t) (k:Nat) (cells o))) (g:=q9r vs ts) (z:=fun (o:List Int)=>some (slc o,[])) appI
  (fun m k o h ho => ?_) (fun k o h ho=>qf8 ok ho) (fun m o ho => ?_) [] (by simp [appI]) (by omega)
 · rw [qf4] at key; exact key
 · have hn:=hr _ (List.getElem_mem h)
   have ho:o.length≤k*4096:=ho
   by_cases hneg:t[k] < 0
   · simp only [q19.next0,q19.round0,evz,Nat.reduceLT,h,List.getElem?_eq_getElem,q1j,hneg,q1z (x := -1 - t[k]) (by omega),(q2f vs ts (-1 - t[k]) ok.len (by omega)).eq,q9r]
     cases hb:q40 vs ts (-1 - t[k]) with
     | none =>
       simp only [q4q,evz,Nat.reduceLT,List.all_nil,Option.getD_none,qdf,List.length_nil,← q2t,Int.natCast_zero,Nat.zero_div,Int.ofNat_zero]
       rw [q1h (q3t (by rw [q0n,q3c]; omega)),q2j,q0o (by omega)]
     | some x =>
       have hx:=ok.tm x (q5g hb)
       have hx0:¬ ((x.length:Int)=0):=by omega
       simp only [evz,Nat.reduceLT,q60,Option.getD_some,hx0,← q2t]
       rw [q1h (q3t (by rw [q0n,q0n,q3c]; omega)),q0o (by omega)]
   · simp only [q19.next0,q19.round0,evz,Nat.reduceLT,h,List.getElem?_eq_getElem,q1j,hneg,q9r,qdq ok (v := -1 - t[k]) (by omega),Option.getD_none]
     rw [q1h (q3t (by rw [q0n,q3c]; omega)),q2j,q0o (by omega)]
 · simp only [q19.next0,q19.round0,evz,Nat.reduceLT,Nat.lt_irrefl]
theorem q7p {vs:List Int} {k:Nat} (h:k < vs.length):vs.getD k 0=vs[k]:=by rw [List.getD_eq_getElem?_getD,List.getElem?_eq_getElem h]; rfl
def q66 (l:List Symbol) (t:List Int):Nat→Nat→List Nat
 | 0,_=>[]
 | n+1,p=>p::q66 l t n (q6r l t p)
def q36 (l:List Symbol) (t:List Int) (p:Nat):List Nat:=q66 l t (ar l (t.getD p 0)) (p+1)
theorem q6q (l:List Symbol) (t:List Int):∀ n p,(q66 l t n p).length=n
 | 0,_=>rfl
 | n+1,p=>by rw [q66,List.length_cons,q6q l t n]
theorem qc6 {l:List Symbol} {t:List Int} {p n:Nat} {r:List Int} (h:skip (ar l) (n+1) (t.drop p)=some r):p < t.length∧skip (ar l) n (t.drop (q6r l t p))=some r∧p < q6r l t p∧q6r l t p≤t.length:=by
 have hp:p < t.length:=by
  rcases Nat.lt_or_ge p t.length with h1 | h1
  · exact h1
  · rw [List.drop_of_length_le h1] at h; cases h
 rw [show n+1=1+n by omega,q9o] at h
 cases h1:skip (ar l) 1 (t.drop p) with
 | none=>rw [h1] at h; cases h
 | some q =>
   rw [h1] at h
   have h2:=qin h1
   have e:q6r l t p=t.length - q.length:=by unfold q6r; rw [h1]
   have h3:=h2.2.2 (by omega)
   refine ⟨hp,?_,by rw [e]; omega,by rw [e]; omega⟩
   rw [e,← h2.1]
   exact h
theorem qgb {l:List Symbol} {t:List Int}:∀ {n p:Nat} {r:List Int},skip (ar l) n (t.drop p)=some r→∀ q∈q66 l t n p,p≤q∧q < t.length
 | 0,p,r,h,q,hq=>by cases hq
 | n+1,p,r,h,q,hq=>by
   obtain ⟨h1,h2,h3,h4⟩:=qc6 h
   rcases List.mem_cons.1 hq with rfl | hq
   · exact ⟨Nat.le_refl _,h1⟩
   · have:=qgb h2 q hq
     exact ⟨by omega,this.2⟩
theorem qaa {l:List Symbol} {t:List Int} (ok:TermOk l t) {p:Nat} (hp:p < t.length):∃ r,skip (ar l) (ar l t[p]) (t.drop (p+1))=some r:=by
 obtain ⟨q,hq⟩:=qc0 (p:=p) ok.skip (by simpa using hp)
 rw [List.drop_eq_getElem_cons hp,skip] at hq
 exact ⟨q,by simpa using hq⟩
theorem q5h {l:List Symbol} {t:List Int} (ok:TermOk l t) {p:Nat} (hp:p < t.length) {q:Nat} (hq:q∈q36 l t p):p < q∧q < t.length:=by
 obtain ⟨r,hr⟩:=qaa ok hp
 have hd:t.getD p 0=t[p]:=q7p hp
 unfold q36 at hq
 rw [hd] at hq
 have:=qgb hr q hq
 exact ⟨by omega,this.2⟩
def rank (o:List Int) (n:Int):Int:=idx (fun x=>decide (x=n)) o
def cell (l:List Symbol) (o a b:List Int) (qu7:Nat→Nat→Bool) (i j:Nat):Bool :=
 if b.getD j 0 < 0 then decide (0≤a.getD i 0)&&decide (b.getD j 0∈q3e l a i)
 else if a.getD i 0 < 0 then false
 else if (q36 l a i).any (fun p=>decide (q3e l a p=q3e l b j)||qu7 p j) then true
 else if rank o (a.getD i 0) < rank o (b.getD j 0) then false
 else if (q36 l b j).any (fun q => !qu7 i q) then false
 else if rank o (b.getD j 0) < rank o (a.getD i 0) then true
 else match ((q36 l a i).zip (q36 l b j)).find? fun x => !decide (q3e l a x.1=q3e l b x.2) with
  | some x=>qu7 x.1 x.2
  | none=>false
theorem qe2 {l:List Symbol} {o a b:List Int} (ha:TermOk l a) (hb:TermOk l b) {f g:Nat→Nat→Bool} {i j:Nat} (hi:i < a.length) (hj:j < b.length)
 (h:∀ p q,i≤p→j≤q→p < a.length→q < b.length→(i < p∨j < q)→f p q=g p q):cell l o a b f i j=cell l o a b g i j:=by
 have h1:(q36 l a i).any (fun p=>decide (q3e l a p=q3e l b j)||f p j)=(q36 l a i).any (fun p=>decide (q3e l a p=q3e l b j)||g p j):=by
  rw [Bool.eq_iff_iff,List.any_eq_true,List.any_eq_true]
  constructor
  · rintro ⟨p,hp,h1⟩
    have:=q5h ha hi hp
    exact ⟨p,hp,by rw [← h p j (by omega) (Nat.le_refl _) this.2 hj (.inl this.1)]; exact h1⟩
  · rintro ⟨p,hp,h1⟩
    have:=q5h ha hi hp
    exact ⟨p,hp,by rw [h p j (by omega) (Nat.le_refl _) this.2 hj (.inl this.1)]; exact h1⟩
 have h2:(q36 l b j).any (fun q => !f i q)=(q36 l b j).any (fun q => !g i q):=by
  rw [Bool.eq_iff_iff,List.any_eq_true,List.any_eq_true]
  constructor
  · rintro ⟨p,hp,h1⟩
    have:=q5h hb hj hp
    exact ⟨p,hp,by rw [← h i p (Nat.le_refl _) (by omega) hi this.2 (.inr this.1)]; exact h1⟩
  · rintro ⟨p,hp,h1⟩
    have:=q5h hb hj hp
    exact ⟨p,hp,by rw [h i p (Nat.le_refl _) (by omega) hi this.2 (.inr this.1)]; exact h1⟩
 unfold cell
 rw [h1,h2]
 cases hf:((q36 l a i).zip (q36 l b j)).find? fun x => !decide (q3e l a x.1=q3e l b x.2) with
 | none=>rfl
 | some x =>
   have hm:=List.mem_of_find?_eq_some hf
   have hm1:=q5h ha hi (List.of_mem_zip hm).1
   have hm2:=q5h hb hj (List.of_mem_zip hm).2
   simp only [h x.1 x.2 (by omega) (by omega) hm1.2 hm2.2 (.inl hm1.1)]
def gtN (l:List Symbol) (o a b:List Int):Nat→Nat→Nat→Bool
 | 0,_,_=>false
 | n+1,i,j=>cell l o a b (gtN l o a b n) i j
def gt (l:List Symbol) (o a b:List Int) (i j:Nat):Bool:=gtN l o a b (a.length+b.length+1) i j
theorem qpn {l:List Symbol} {o a b:List Int} (ha:TermOk l a) (hb:TermOk l b):∀ (d n m i j:Nat),i < a.length→j < b.length→(a.length - i)+(b.length - j)≤d→d < n→d < m→gtN l o a b n i j=gtN l o a b m i j:=by
 intro d
 induction d with
 | zero=>intros; omega
 | succ d ih =>
   intro n m i j hi hj hd hn hm
   obtain ⟨n,rfl⟩:∃ q,n=q+1:=⟨n - 1,by omega⟩
   obtain ⟨m,rfl⟩:∃ q,m=q+1:=⟨m - 1,by omega⟩
   rw [gtN,gtN]
   exact qe2 ha hb hi hj fun p q h1 h2 h3 h4 h5=>ih n m p q h3 h4 (by omega) (by omega) (by omega)
theorem qxy {l:List Symbol} {o a b:List Int} (ha:TermOk l a) (hb:TermOk l b) {i j:Nat} (hi:i < a.length) (hj:j < b.length):gt l o a b i j=cell l o a b (gt l o a b) i j:=by
 show gtN l o a b (a.length+b.length+1) i j=_
 rw [gtN]
 exact qe2 ha hb hi hj fun p q h1 h2 h3 h4 h5=>qpn ha hb ((a.length - p)+(b.length - q)) _ _ p q h3 h4 (Nat.le_refl _) (by omega) (by omega)
def ints (l:List Nat):List Int:=l.map fun (n:Nat)=>(n:Int)
section
variable {l:List Symbol} (ok:SigOk ⟨l⟩)
include ok
theorem q0z {t:List Int} (ht:TermOk l t) {p:Nat} (hp:p < t.length):Call F.q0z [.agg [slc l],slc t,.int .i64 p] (slc (ints (q36 l t p))):=by
 have hle:=ht.le
 have har:=qmi (l:=l) ok t[p]
 refine q0v rfl 4 ((q0z.ev _ _ _ _).trans ?_)
 simp only [evz,Nat.reduceLT,hp,List.getElem?_eq_getElem,q1j,(q5s ok t[p] (ht.node _ (List.getElem_mem hp))).eq]
 rw [q0o (by omega)]
 have loop:∀ n k q f (out:List Int) r,k+n=ar l t[p]→n < f→skip (ar l) n (t.drop q)=some r→out.length=k →
  q0z.at0 4 f (q0z.st0 (cells t) (q:Nat) (ar l t[p]:Nat) (k:Nat) (cells l) (cells out))=some (slc (out++ints (q66 l t n q)),[]):=by
  intro n
  induction n with
  | zero =>
    intro k q f out r hk hf hs ho
    obtain ⟨f,rfl⟩:∃ x,f=x+1:=⟨f - 1,by omega⟩
    have:¬ k < ar l t[p]:=by omega
    simp only [q0z.next0,q0z.round0,evz,Nat.reduceLT,this,q66,ints,List.map_nil,List.append_nil]
  | succ n ih =>
    intro k q f out r hk hf hs ho
    obtain ⟨f,rfl⟩:∃ x,f=x+1:=⟨f - 1,by omega⟩
    obtain ⟨h1,h2,h3,h4⟩:=qc6 hs
    have hlt:k < ar l t[p]:=by omega
    simp only [q0z.next0,q0z.round0,evz,Nat.reduceLT,hlt,(qir ok ht h1).eq,q2j]
    rw [q1h (q3t (by rw [q0n,q3c]; omega)),q0o (by omega)]
    by_cases hn:n=0
    · subst hn
      obtain ⟨f,rfl⟩:∃ x,f=x+1:=⟨f - 1,by omega⟩
      have:¬ k+1 < ar l t[p]:=by omega
      simp only [q0z.next0,q0z.round0,evz,Nat.reduceLT,this,q66,ints,List.map_nil,List.map_cons]
    · rw [ih (k+1) (q6r l t q) f (out++[(q:Int)]) r (by omega) (by omega) h2 (by simp [ho])]
      simp [q66,ints]
 obtain ⟨r,hr⟩:=qaa ht hp
 have hd:t.getD p 0=t[p]:=q7p hp
 have:=loop (ar l t[p]) 0 (p+1) 4 [] r (by omega) (by omega) hr (by simp)
 unfold q36
 rw [hd]
 simpa using this
end
theorem qoc:∀ (l:List (Int × Int × Bool)) (a b:Int) (i j:Nat),(mpAt l a b i).map (·.2)=(mpAt l a b j).map (·.2)
 | [],_,_,_,_=>rfl
 | (x,y,v)::r,a,b,i,j=>by
   rw [mpAt,mpAt]
   cases (a == x&&b == y) with
   | true=>rfl
   | false=>exact qoc r a b (i+1) (j+1)
theorem q98 (x y:Int) (v:Bool) (r:List (Int × Int × Bool)) (a b:Int):qa8 ((x,y,v)::r) a b=bif a == x&&b == y then some v else qa8 r a b:=by
 unfold qa8
 rw [mpAt]
 cases (a == x&&b == y) with
 | true=>rfl
 | false=>exact qoc r a b 1 0
theorem qhn:∀ (l:List (Int × Int × Bool)) (x y:Int) (v:Bool) (a b:Int),qa8 (qdv l x y v) a b=bif a == x&&b == y then some v else qa8 l a b
 | [],x,y,v,a,b=>by rw [qdv,q98]
 | (x',y',v')::r,x,y,v,a,b=>by
   rw [qdv]
   cases h:(x == x'&&y == y') with
   | true =>
     simp only [Bool.and_eq_true,beq_iff_eq] at h
     obtain ⟨rfl,rfl⟩:=h
     rw [cond_true,q98,q98]
     cases (a == x&&b == y) <;> rfl
   | false =>
     rw [cond_false,q98,q98,qhn r]
     cases h1:(a == x'&&b == y') with
     | false=>rfl
     | true =>
       cases h2:(a == x&&b == y) with
       | false=>rfl
       | true =>
         simp only [Bool.and_eq_true,beq_iff_eq] at h1 h2
         obtain ⟨rfl,rfl⟩:=h1
         obtain ⟨rfl,rfl⟩:=h2
         simp at h
def Good (l:List Symbol) (o a b:List Int) (m:List (Int × Int × Bool)):Prop:=∀ (p q:Nat) (v:Bool),qa8 m p q=some v→v=gt l o a b p q
theorem Good.put {l:List Symbol} {o a b:List Int} {m:List (Int × Int × Bool)} (h:Good l o a b m) (i j:Nat):Good l o a b (qdv m i j (gt l o a b i j)):=fun p q v hv=>by
 rw [qhn] at hv
 cases hc:(((p:Int) == (i:Int))&&((q:Int) == (j:Int))) with
 | true =>
   rw [hc,cond_true] at hv
   simp only [Bool.and_eq_true,beq_iff_eq,Int.ofNat_inj] at hc
   obtain ⟨rfl,rfl⟩:=hc
   exact (Option.some.inj hv).symm
 | false=>rw [hc,cond_false] at hv; exact h p q v hv
theorem qed (l:List Symbol) (t:List Int) (p:Nat):(q3e l t p).length≤t.length:=by simp [q3e]; omega
section
variable {l:List Symbol} (ok:SigOk ⟨l⟩) {o a b:List Int} (ha:TermOk l a) (hb:TermOk l b)
include ok ha hb
omit ok ha hb in
theorem q9j {A:List Nat} {k:Nat} (h:k < A.length):(ints A)[k]?=some ((A[k]:Nat):Int):=by simp [ints,h]
omit ok ha hb in
theorem q4i (A:List Nat):(ints A).length=A.length:=by simp [ints]
omit ok ha hb in
theorem qup {x y:Int} (hx:x∈o) (h:rank o x=rank o y):x=y:=by
 unfold rank at h
 rcases q7m (fun z:Int=>decide (z=x)) o with ⟨h1,hno⟩ | ⟨i,hi,h1,hy1,_⟩
 · have:=hno x hx; simp at this
 · rcases q7m (fun z:Int=>decide (z=y)) o with ⟨h2,_⟩ | ⟨i',hi',h2,hy2,_⟩
   · omega
   · have:i=i':=by omega
     subst this
     simp at hy1 hy2
     rw [← hy1,← hy2]
omit ok ha hb in
theorem qd6 (ok:SigOk ⟨l⟩) (t:List Int) (p:Nat):(q36 l t p).length≤2:=by
 unfold q36; rw [q6q]; exact qmi ok _
end
theorem q22 (o:List Int) (x:Int) (hl:o.length≤4294967296):Call F.q22 [slc o,.int .i64 x] (.int .i64 (rank o x)):=by
 refine q0v rfl (o.length+1) ((q22.ev _ _ _).trans ?_)
 refine q8h (S:=fun m k=>q22.at0 (o.length+1) m (q22.st0 (cells o) x (k:Nat))) (fun m k h => ?_) (fun m => ?_) (Nat.lt_succ_self _)
 · have hlk:o[k]?=some o[k]:=List.getElem?_eq_getElem h
   simp only [q22.next0,q22.round0,evz,Nat.reduceLT,h,hlk,q1j,decide_eq_true_eq]
   rw [q0o (by omega)]
 · simp only [q22.next0,q22.round0,evz,Nat.reduceLT,Nat.lt_irrefl]
section
variable {l:List Symbol} (ok:SigOk ⟨l⟩)
include ok
theorem q1i {t:List Int} (ht:TermOk l t) {p:Nat} (hp:p < t.length) (hn:0≤t[p]):Call F.q1i [.rref [slc l] 0,slc t,.int .i64 p] (slc (ints (q36 l t p))):=by
 have hle:=ht.le
 have har:=qmi (l:=l) ok t[p]
 have hnode:=q4e.1 (ht.node _ (List.getElem_mem hp))
 have hls:l.length≤6:=ok.le
 obtain ⟨u,hu⟩:∃ u:Nat,t[p]=u:=⟨t[p].toNat,by omega⟩
 have hul:u < l.length:=by omega
 have hare:(l[u]).arity=(ar l t[p]:Nat):=by
  have:=qos ok (n:=t[p]) hn (by rw [hu]; simpa using hul)
  simpa [hu] using this
 refine q0v rfl 4 ((q1i.ev _ _ _ _).trans ?_)
 rw [q0o (by omega)]
 have loop:∀ n k q f (out:List Int) r,k+n=ar l t[p]→n < f→skip (ar l) n (t.drop q)=some r→out.length=k →
  q1i.at0 4 f (q1i.st0 (cells l) (cells t) (p:Nat) (q:Nat) (k:Nat) (cells out))=some (slc (out++ints (q66 l t n q)),[]):=by
  intro n
  induction n with
  | zero =>
    intro k q f out r hk hf hs ho
    obtain ⟨f,rfl⟩:∃ x,f=x+1:=⟨f - 1,by omega⟩
    have:¬ k < ar l t[p]:=by omega
    simp only [q1i.next0,q1i.round0,evz,Nat.reduceLT,hp,List.getElem?_eq_getElem,q1j,hu,hul,q2a,hare,q66,ints,List.map_nil,List.append_nil]
    rw [← hu,if_neg this]
  | succ n ih =>
    intro k q f out r hk hf hs ho
    obtain ⟨f,rfl⟩:∃ x,f=x+1:=⟨f - 1,by omega⟩
    obtain ⟨h1,h2,h3,h4⟩:=qc6 hs
    have hlt:k < ar l t[p]:=by omega
    simp only [q1i.next0,q1i.round0,evz,Nat.reduceLT,hp,List.getElem?_eq_getElem,q1j,hu,hul,q2a,hare,(q8u ok ht h1).eq,q2j]
    rw [← hu,if_pos hlt,q1h (q3t (by rw [q0n,q3c]; omega)),q0o (by omega),ih (k+1) (q6r l t q) f (out++[(q:Int)]) r (by omega) (by omega) h2 (by simp [ho])]
    simp [q66,ints]
 obtain ⟨r,hr⟩:=qaa ht hp
 have hd:t.getD p 0=t[p]:=q7p hp
 have:=loop (ar l t[p]) 0 (p+1) 4 [] r (by omega) (by omega) hr (by simp)
 unfold q36
 rw [hd]
 simpa using this
theorem q5q {a b:List Int} (ha:TermOk l a) (hb:TermOk l b) {i j:Nat} (hi:i < a.length) (hj:j < b.length):Call F.q5q [.rref [slc l] 0,slc a,.int .i64 i,slc b,.int .i64 j] (.bool (decide (q3e l a i=q3e l b j))):=by
 refine q0v rfl 0 ((q5q.ev _ _ _ _ _ _).trans ?_)
 obtain ⟨h1,h2,_⟩:=q4s ha hi
 obtain ⟨h3,h4,_⟩:=q4s hb hj
 have h5:=qed l a i
 have h6:=ha.le
 have hs:=(q23 (q3e l a i) (q3e l b j) ⟨by omega,fun _ _=>trivial⟩).eq
 simp only [evz,Nat.reduceLT,(q8u ok ha hi).eq,(q8u ok hb hj).eq]
 rw [q1h (by simp; omega),q1h (by simp; omega),qaf,qaf]
 unfold q3e at hs ⊢
 simp only [hs,evz,Nat.reduceLT]
omit ok in
theorem qdu:Enc.sz Bool=1:=rfl
omit ok in
theorem qjj (b:Bool):enc b=[.bool b]:=rfl
omit ok in
theorem bget {T:List Bool} {k:Nat} (h:k < T.length):(cells T)[k*1]?=some (.bool (T.getD k false)):=by
 rw [get0 (l:=T) (k:=1) (i:=k) rfl,List.getElem?_eq_getElem h,List.getD_eq_getElem?_getD,List.getElem?_eq_getElem h]; rfl
omit ok in
theorem qwg {T:List Bool} {k:Nat} (h:k < T.length):T[k]?=some (T.getD k false):=by
 rw [List.getElem?_eq_getElem h,List.getD_eq_getElem?_getD,List.getElem?_eq_getElem h]; rfl
omit ok in
theorem qar {i j la lb:Nat} (hi:i < la) (hj:j < lb):i*lb+j < la*lb:=by
 have:i*lb+lb≤la*lb:=by rw [← Nat.succ_mul]; exact Nat.mul_le_mul_right _ hi
 omega
omit ok in
theorem qiw {i j la lb:Nat} (hi:i < la) (hj:j < lb) (ha:la≤24) (hb:lb≤24):IntKind.wrap .i64 (IntKind.wrap .i64 ((i:Int)*(lb:Int))+(j:Int))=((i*lb+j:Nat):Int):=by
 have h1:=qar hi hj
 have h2:la*lb≤24*24:=Nat.mul_le_mul ha hb
 have e1:IntKind.wrap .i64 ((i:Int)*(lb:Int))=((i*lb:Nat):Int):=by rw [← Int.natCast_mul]; exact q1z (by omega)
 rw [e1,← Int.natCast_add]; exact q1z (by omega)
section
variable {o a b:List Int} (ha:TermOk l a) (hb:TermOk l b) {T:List Bool} (hT:T.length=a.length*b.length)
include ha hb hT
theorem qxw {A B:List Nat} (hAl:A.length≤2) (hA:∀ p∈A,p < a.length) (hB:∀ q∈B,q < b.length) :
 ∀ n k f,k+n=A.length→n < f →
  q0j.at4 8 f (q0j.st4 (cells l) (cells a) (cells b) (cells T) (b.length:Nat) (k:Nat) (cells (ints A)) (cells (ints B))) =
   some (.bool (match ((A.drop k).zip (B.drop k)).find? fun x => !decide (q3e l a x.1=q3e l b x.2) with | some x=>T.getD (x.1*b.length+x.2) false | none=>false),[]):=by
 have hla:=ha.le
 have hlb:=hb.le
 intro n
 induction n with
 | zero =>
   intro k f hk hf
   obtain ⟨f,rfl⟩:∃ x,f=x+1:=⟨f - 1,by omega⟩
   have:¬ k < A.length:=by omega
   simp only [q0j.next4,q0j.round4,evz,Nat.reduceLT,q4i,this,List.drop_of_length_le (show A.length≤k by omega),List.zip_nil_left,List.find?_nil]
 | succ n ihn =>
   intro k f hk hf
   obtain ⟨f,rfl⟩:∃ x,f=x+1:=⟨f - 1,by omega⟩
   have hkA:k < A.length:=by omega
   by_cases hkB:k < B.length
   · have hp:=hA _ (List.getElem_mem hkA)
     have hq:=hB _ (List.getElem_mem hkB)
     have hs:=(q5q ok ha hb hp hq).eq
     rw [List.drop_eq_getElem_cons hkA,List.drop_eq_getElem_cons hkB,List.zip_cons_cons,List.find?_cons]
     by_cases e:q3e l a A[k]=q3e l b B[k]
     · have:=ihn (k+1) f (by omega) (by omega)
       simp only [q0j.next4,q0j.round4,evz,Nat.reduceLT,hkA,hkB,q9j,q4i,q1j,hs,e,Bool.not_true]
       rw [q0o (by omega)]
       exact this
     · have hin:A[k]*b.length+B[k] < T.length:=by rw [hT]; exact qar hp hq
       simp only [q0j.next4,q0j.round4,evz,Nat.reduceLT,hkA,hkB,q9j,q4i,q1j,hs,e,Bool.not_false,qiw hp hq hla hlb,hin,qwg hin,qjj,qdu]
   · simp only [q0j.next4,q0j.round4,evz,Nat.reduceLT,hkA,hkB,q9j,q4i,List.drop_of_length_le (show B.length≤k by omega),List.zip_nil_right,List.find?_nil]
omit ok in
theorem qxs {i j:Nat} {A B:List Nat} {Rest:R} (hi:i < a.length) (hB:∀ q∈B,q < b.length) (hBl:B.length≤2)
 (hrest:∀ f,q0j.at2 8 (f+1) (q0j.st2 (cells l) (cells a) (cells b) (i:Nat) (j:Nat) (cells T) (b.length:Nat) (B.length:Nat) (cells (ints A)) (cells (ints B)))=Rest) :
 ∀ n k f,k+n=B.length→n < f →
  q0j.at2 8 f (q0j.st2 (cells l) (cells a) (cells b) (i:Nat) (j:Nat) (cells T) (b.length:Nat) (k:Nat) (cells (ints A)) (cells (ints B))) =
   if (B.drop k).any (fun q => !T.getD (i*b.length+q) false) then some (.bool false,[]) else Rest:=by
 have hla:=ha.le
 have hlb:=hb.le
 intro n
 induction n with
 | zero =>
   intro k f hk hf
   obtain ⟨f,rfl⟩:∃ x,f=x+1:=⟨f - 1,by omega⟩
   obtain rfl:k=B.length:=by omega
   rw [hrest,List.drop_of_length_le (Nat.le_refl _)]; rfl
 | succ n ihn =>
   intro k f hk hf
   obtain ⟨f,rfl⟩:∃ x,f=x+1:=⟨f - 1,by omega⟩
   have hkB:k < B.length:=by omega
   have hq:=hB _ (List.getElem_mem hkB)
   have hin:i*b.length+B[k] < T.length:=by rw [hT]; exact qar hi hq
   have:=ihn (k+1) f (by omega) (by omega)
   rw [List.drop_eq_getElem_cons hkB,List.any_cons]
   simp only [q0j.next2,q0j.round2,evz,Nat.reduceLT,hkB,q9j,q4i,q1j,qiw hi hq hla hlb,hin,qwg hin,qjj,qdu]
   cases T.getD (i*b.length+B[k]) false with
   | false=>simp
   | true =>
     rw [q0o (by omega)]
     simp only [evz,Nat.reduceLT,Bool.not_true,Bool.false_or]
     exact this
theorem qxz {o:List Int} {i j:Nat} {A:List Nat} {Rest:R} (hj:j < b.length) (hA:∀ p∈A,p < a.length) (hAl:A.length≤2)
 (hrest:∀ f,q0j.at0 8 (f+1) (q0j.st0 (cells l) (cells o) (cells a) (cells b) (i:Nat) (j:Nat) (cells T) (b.length:Nat) (A.length:Nat) (cells (ints A)))=Rest) :
 ∀ n k f,k+n=A.length→n < f →
  q0j.at0 8 f (q0j.st0 (cells l) (cells o) (cells a) (cells b) (i:Nat) (j:Nat) (cells T) (b.length:Nat) (k:Nat) (cells (ints A))) =
   if (A.drop k).any (fun p=>decide (q3e l a p=q3e l b j)||T.getD (p*b.length+j) false) then some (.bool true,[]) else Rest:=by
 have hla:=ha.le
 have hlb:=hb.le
 intro n
 induction n with
 | zero =>
   intro k f hk hf
   obtain ⟨f,rfl⟩:∃ x,f=x+1:=⟨f - 1,by omega⟩
   obtain rfl:k=A.length:=by omega
   rw [hrest,List.drop_of_length_le (Nat.le_refl _)]; rfl
 | succ n ihn =>
   intro k f hk hf
   obtain ⟨f,rfl⟩:∃ x,f=x+1:=⟨f - 1,by omega⟩
   have hkA:k < A.length:=by omega
   have hp:=hA _ (List.getElem_mem hkA)
   have hin:A[k]*b.length+j < T.length:=by rw [hT]; exact qar hp hj
   have:=ihn (k+1) f (by omega) (by omega)
   rw [List.drop_eq_getElem_cons hkA,List.any_cons]
   simp only [q0j.next0,q0j.round0,evz,Nat.reduceLT,hkA,q9j,q4i,q1j,qiw hp hj hla hlb,hin,qwg hin,qjj,qdu,(q5q ok ha hb hp hj).eq]
   cases T.getD (A[k]*b.length+j) false with
   | true=>simp
   | false =>
     by_cases e:q3e l a A[k]=q3e l b j
     · simp [e]
     · rw [q0o (by omega)]
       simp only [evz,Nat.reduceLT,e,Bool.or_false,Bool.false_or]
       exact this
theorem q0j (hol:o.length≤1048576) (ho:∀ n:Int,0≤n→n < l.length→n∈o) {i j:Nat} (hi:i < a.length) (hj:j < b.length) :
 Call F.q0j [.rref [slc l] 0,slc o,slc a,slc b,.int .i64 i,.int .i64 j,slc T] (.bool (cell l o a b (fun p q=>T.getD (p*b.length+q) false) i j)):=by
 have hai:a.getD i 0=a[i]:=q7p hi
 have hbj:b.getD j 0=b[j]:=q7p hj
 have hla:=ha.le
 have hlb:=hb.le
 have hsl:=qed l a i
 obtain ⟨h1,h2,_⟩:=q4s ha hi
 unfold cell
 rw [hai,hbj]
 refine q0v rfl 8 ((q0j.ev _ _ _ _ _ _ _ _).trans ?_)
 by_cases hy:b[j] < 0
 · by_cases hx:0≤a[i]
   · have hx':a[i] ≥ 0:=hx
     have hc:=(q1k (q3e l a i) b[j] (by omega)).eq
     have hm:decide (((List.count b[j] (q3e l a i):Nat):Int) > 0)=decide (b[j]∈q3e l a i):=by
      rw [decide_eq_decide,← List.count_pos_iff]; omega
     simp only [evz,Nat.reduceLT,hi,hj,List.getElem?_eq_getElem,q1j,hy,hx',hx,(q8u ok ha hi).eq,Bool.true_and]
     rw [q1h (by simp; omega),qaf]
     unfold q3e at hc hm ⊢
     simp only [hc,evz,Nat.reduceLT,hm]
   · have hx':¬ a[i] ≥ 0:=hx
     simp only [evz,Nat.reduceLT,hi,hj,List.getElem?_eq_getElem,q1j,hy,hx',hx,Bool.false_and]
 by_cases hx:a[i] < 0
 · simp only [evz,Nat.reduceLT,hi,hj,List.getElem?_eq_getElem,q1j,hy,hx]
 have hA:∀ p∈q36 l a i,i < p∧p < a.length:=fun p hp=>q5h ha hi hp
 have hB:∀ q∈q36 l b j,j < q∧q < b.length:=fun q hq=>q5h hb hj hq
 have hAl:=qd6 ok a i
 have hBl:=qd6 ok b j
 have ix:=(q22 o a[i] (by omega)).eq
 have iy:=(q22 o b[j] (by omega)).eq
 have sa:=(q1i ok ha hi (by omega)).eq
 have sb:=(q1i ok hb hj (by omega)).eq
 have hne:(rank o b[j] < rank o a[i])↔(¬ rank o a[i] < rank o b[j])∧a[i]≠b[j]:=by
  have n1:=q4e.1 (ha.node _ (List.getElem_mem hi))
  constructor
  · intro h
    refine ⟨by omega,fun e => ?_⟩
    rw [e] at h; omega
  · rintro ⟨h1,h2⟩
    rcases Int.lt_or_le (rank o b[j]) (rank o a[i]) with h | h
    · exact h
    · exact absurd (qup (ho _ (by omega) (by omega)) (by omega)) h2
 generalize hAA:q36 l a i=A at hA hAl sa
 generalize hBB:q36 l b j=B at hB hBl sb
 have e4:=qxw ok ha hb hT (A:=A) (B:=B) hAl (fun p hp=>(hA p hp).2) (fun q hq=>(hB q hq).2) A.length 0 8 (by omega) (by omega)
 let Rest2:R:=if a[i]≠b[j] then some (.bool true,[]) else some (.bool (match ((A.drop 0).zip (B.drop 0)).find? fun x => !decide (q3e l a x.1=q3e l b x.2) with | some x=>T.getD (x.1*b.length+x.2) false | none=>false),[])
 have e2:=qxs (l:=l) ha hb hT (i:=i) (j:=j) (A:=A) (B:=B) (Rest:=Rest2) hi (fun q hq=>(hB q hq).2) hBl (fun f=>by
  simp only [q0j.next2,q0j.round2,evz,Nat.reduceLT,Nat.lt_irrefl,q4i,hi,hj,List.getElem?_eq_getElem,q1j,Rest2]
  by_cases e:a[i]=b[j]
  · simp only [e,evz,Nat.reduceLT]
    rw [if_neg (fun h=>h rfl)]
    exact e4
  · simp [e]) B.length 0 8 (by omega) (by omega)
 let Rest0:R:=if rank o a[i] < rank o b[j] then some (.bool false,[]) else if (B.drop 0).any (fun q => !T.getD (i*b.length+q) false) then some (.bool false,[]) else Rest2
 have e0:=qxz ok ha hb hT (o:=o) (i:=i) (j:=j) (A:=A) (Rest:=Rest0) hj (fun p hp=>(hA p hp).2) hAl (fun f=>by
  simp only [q0j.next0,q0j.round0,evz,Nat.reduceLT,Nat.lt_irrefl,q4i,hi,hj,List.getElem?_eq_getElem,q1j,ix,iy,sb,Rest0]
  by_cases hr:rank o a[i] < rank o b[j]
  · rw [if_pos hr,if_pos hr]
  · rw [if_neg hr,if_neg hr]
    exact e2) A.length 0 8 (by omega) (by omega)
 simp only [evz,Nat.reduceLT,hi,hj,List.getElem?_eq_getElem,q1j,hy,hx,sa]
 refine Eq.trans e0 ?_
 simp only [Rest0,Rest2,List.drop_zero]
 by_cases c1:A.any (fun p=>decide (q3e l a p=q3e l b j)||T.getD (p*b.length+j) false)=true
 · rw [if_pos c1,if_pos c1]
 rw [if_neg c1,if_neg c1]
 by_cases c2:rank o a[i] < rank o b[j]
 · rw [if_pos c2,if_pos c2]
 rw [if_neg c2,if_neg c2]
 by_cases c3:B.any (fun q => !T.getD (i*b.length+q) false)=true
 · rw [if_pos c3,if_pos c3]
 rw [if_neg c3,if_neg c3]
 by_cases c4:rank o b[j] < rank o a[i]
 · rw [if_pos c4,if_pos (hne.1 c4).2]
 · rw [if_neg c4,if_neg (fun h=>c4 (hne.2 ⟨c2,h⟩))]
end
omit ok in
theorem qti {T:List Bool} {k:Nat} (h:k < T.length) (v:Bool):setCells (cells T) (k*1) [.bool v]=cells (T.set k v):=qbn T 1 k rfl v h
omit ok in
theorem qu0 (n:Nat):repT n [.bool false]=cells (List.replicate n false):=qrq n false
def Done (l:List Symbol) (o a b:List Int) (T:List Bool) (n:Nat):Prop :=
 T.length=a.length*b.length∧∀ p q,p < a.length→q < b.length→n≤p*b.length+q→T.getD (p*b.length+q) false=gt l o a b p q
omit ok in
theorem qx0 {n p q i j:Nat} (hq:q < n) (hj:j < n) (h:p*n+q=i*n+j):p=i∧q=j:=by
 rcases Nat.lt_trichotomy p i with h1 | h1 | h1
 · have:(p+1)*n≤i*n:=Nat.mul_le_mul_right _ h1
   rw [Nat.succ_mul] at this; omega
 · subst h1; exact ⟨rfl,by omega⟩
 · have:(i+1)*n≤p*n:=Nat.mul_le_mul_right _ h1
   rw [Nat.succ_mul] at this; omega
omit ok in
theorem Done.cell {o a b:List Int} (ha:TermOk l a) (hb:TermOk l b) {T:List Bool} {i j:Nat} (hi:i < a.length) (hj:j < b.length) (h:Done l o a b T (i*b.length+(j+1))) :
 cell l o a b (fun p q=>T.getD (p*b.length+q) false) i j=gt l o a b i j:=by
 rw [qxy ha hb hi hj]
 refine qe2 ha hb hi hj fun p q h1 h2 h3 h4 h5=>h.2 p q h3 h4 ?_
 have h6:i*b.length≤p*b.length:=Nat.mul_le_mul_right _ h1
 rcases h5 with h5 | h5
 · have:(i+1)*b.length≤p*b.length:=Nat.mul_le_mul_right _ h5
   rw [Nat.succ_mul] at this; omega
 · omega
omit ok in
theorem Done.set {o a b:List Int} {T:List Bool} {i j:Nat} (hi:i < a.length) (hj:j < b.length) (h:Done l o a b T (i*b.length+(j+1))):Done l o a b (T.set (i*b.length+j) (gt l o a b i j)) (i*b.length+j):=by
 have hin:=qar hi hj
 refine ⟨by rw [List.length_set]; exact h.1,fun p q hp hq hle => ?_⟩
 by_cases e:i*b.length+j=p*b.length+q
 · obtain ⟨rfl,rfl⟩:=qx0 hq hj e.symm
   simp [List.getD_eq_getElem?_getD,h.1,hin]
 · have:=h.2 p q hp hq (by omega)
   rw [← this,List.getD_eq_getElem?_getD,List.getD_eq_getElem?_getD,List.getElem?_set_ne e]
theorem qwz {o a b:List Int} (ha:TermOk l a) (hb:TermOk l b) (hol:o.length≤1048576) (ho:∀ n:Int,0≤n→n < l.length→n∈o) (L0:St→R) {i:Nat} (hi:i < a.length) :
 ∀ (k f:Nat) (T:List Bool),k≤b.length→k < f→Done l o a b T (i*b.length+k)→∃ T',Done l o a b T' (i*b.length) ∧
  q0w.at2 25 L0 f (q0w.st2 (cells l) (cells o) (cells a) (cells b) (b.length:Nat) (i:Nat) ((k:Int) - 1) (cells T)) =
   L0 (q0w.st0 (cells l) (cells o) (cells a) (cells b) (b.length:Nat) ((i:Int) - 1) (cells T')):=by
 have hla:=ha.le
 have hlb:=hb.le
 intro k
 induction k with
 | zero =>
   intro f T hk hf hd
   obtain ⟨f,rfl⟩:∃ x,f=x+1:=⟨f - 1,by omega⟩
   refine ⟨T,by simpa using hd,?_⟩
   have h1:¬ (((0:Nat):Int) - 1 ≥ 0):=by omega
   simp only [q0w.next2,q0w.round2,qf1]
   rw [if_neg h1,q1z (by omega)]
 | succ k ih =>
   intro f T hk hf hd
   obtain ⟨f,rfl⟩:∃ x,f=x+1:=⟨f - 1,by omega⟩
   have hj:k < b.length:=by omega
   have hin:i*b.length+k < T.length:=by rw [hd.1]; exact qar hi hj
   obtain ⟨T',hd',h'⟩:=ih f (T.set (i*b.length+k) (gt l o a b i k)) (by omega) (by omega) (hd.set hi hj)
   refine ⟨T',hd',?_⟩
   have e:((k+1:Nat):Int) - 1=(k:Int):=by omega
   have hc:=q0j ok ha hb hd.1 hol ho hi hj
   rw [hd.cell ha hb hi hj] at hc
   have h1:(k:Int) ≥ 0:=by omega
   rw [e]
   simp only [q0w.next2,q0w.round2,evz,Nat.reduceLT,h1,hc.eq,qiw hi hj hla hlb,hin,qdu]
   rw [q1z (by omega),if_pos (by rw [q0n,qdu]; omega),qti hin]
   exact h'
theorem q0w {o a b:List Int} (ha:TermOk l a) (hb:TermOk l b) (hol:o.length≤1048576) (ho:∀ n:Int,0≤n→n < l.length→n∈o) :
 ∃ T,Done l o a b T 0∧Call F.q0w [.rref [slc l] 0,slc o,slc a,slc b] (slc T):=by
 have hla:=ha.le
 have hlb:=hb.le
 have outer:∀ (m f:Nat) (T:List Bool),m≤a.length→m < f→Done l o a b T (m*b.length)→∃ T',Done l o a b T' 0 ∧
  q0w.at0 25 f (q0w.st0 (cells l) (cells o) (cells a) (cells b) (b.length:Nat) ((m:Int) - 1) (cells T))=some (slc T',[]):=by
  intro m
  induction m with
  | zero =>
    intro f T hm hf hd
    obtain ⟨f,rfl⟩:∃ x,f=x+1:=⟨f - 1,by omega⟩
    refine ⟨T,by simpa using hd,?_⟩
    have h1:¬ (((0:Nat):Int) - 1 ≥ 0):=by omega
    simp only [q0w.next0,q0w.round0,qf1]
    rw [if_neg h1]; rfl
  | succ m ih =>
    intro f T hm hf hd
    obtain ⟨f,rfl⟩:∃ x,f=x+1:=⟨f - 1,by omega⟩
    have e:((m+1:Nat):Int) - 1=(m:Int):=by omega
    have h1:(m:Int) ≥ 0:=by omega
    obtain ⟨T1,hd1,h1'⟩:=qwz ok ha hb hol ho (q0w.at0 25 f) (i:=m) (by omega) b.length 25 T (Nat.le_refl _) (by omega) (by rw [← Nat.succ_mul]; exact hd)
    obtain ⟨T',hd',h'⟩:=ih f T1 (by omega) (by omega) hd1
    refine ⟨T',hd',?_⟩
    rw [e]
    simp only [q0w.next0,q0w.round0,qf1]
    rw [if_pos h1,q1z (by omega),h1',h']
 have hmul:a.length*b.length≤24*24:=Nat.mul_le_mul hla hlb
 obtain ⟨T,hd,h⟩:=outer a.length 25 (List.replicate (a.length*b.length) false) (Nat.le_refl _) (by omega) ⟨by simp,fun p q hp hq hle=>by have:=qar hp hq; omega⟩
 refine ⟨T,hd,q0v rfl 25 ((q0w.ev _ _ _ _ _).trans ?_)⟩
 have hw:IntKind.wrap .i64 ((a.length:Int)*(b.length:Int))=((a.length*b.length:Nat):Int):=by rw [← Int.natCast_mul]; exact q1z (by omega)
 simp only [q4r,q3c,hw,Int.toNat_natCast,qu0]
 rw [q1h (by simp; omega),q1z (by omega)]
 exact h
theorem q6a {o a b:List Int} (ha:TermOk l a) (hb:TermOk l b) (hol:o.length≤1048576) (ho:∀ n:Int,0≤n→n < l.length→n∈o) :
 Call F.q6a [.rref [slc l] 0,slc o,slc a,slc b] (.bool (gt l o a b 0 0)):=by
 obtain ⟨T,hd,h⟩:=q0w ok ha hb hol ho
 have h1:=ha.pos
 have h2:=hb.pos
 have hT:0 < T.length:=by rw [hd.1]; exact Nat.mul_pos h1 h2
 have h3:=hd.2 0 0 h1 h2 (Nat.zero_le _)
 simp only [Nat.zero_mul,Nat.add_zero] at h3
 refine q0v rfl 0 ((q6a.ev _ _ _ _ _).trans ?_)
 have hg:=bget (T:=T) (k:=0) hT
 rw [Nat.zero_mul,h3] at hg
 simp only [evz,Nat.reduceLT,h.eq,qdu,hg]
 rw [show inB (0:Int) T.length=true from (q5f 0 T.length).trans (by simpa using hT)]
 rfl
end
theorem TermOk.range {l:List Symbol} (ok:SigOk ⟨l⟩) {t:List Int} (h:TermOk l t):∀ n∈t,-4611686018427387904≤n∧n≤4611686018427387904:=fun n hn=>by
 have:=q4e.1 (h.node n hn)
 have hle:l.length≤6:=ok.le
 omega
theorem q77 (t:List Int) (n:Int) (hl:t.length≤4294967296):Call F.q77 [slc t,.int .i64 n] (.bool (inR n 0 (t.length - 1))):=by
 refine q0v rfl 0 ((q77.ev _ _ _).trans ?_)
 simp only [evz,Nat.reduceLT,q1z (x:=(t.length:Int) - 1) (by omega),(q47 _ _ _).eq]
theorem qch {a:Int→Nat}:∀ {x r q:List Int} {k:Nat},skip a k x=some q→skip a k (x++r)=some (q++r)
 | x,r,q,0,h=>by rw [q3l] at h; cases h; rw [q3l]
 | [],r,q,k+1,h=>by cases h
 | n::x,r,q,k+1,h=>by
   rw [skip] at h
   rw [List.cons_append,skip]
   exact qch h
theorem qns {a:Int→Nat}:∀ {x r:List Int} {k:Nat},skip a k (x++r)=some r→skip a k x=some []
 | x,r,0,h=>by
   rw [q3l] at h
   have:=congrArg List.length (Option.some.inj h)
   rw [List.length_append] at this
   have:x=[]:=List.eq_nil_of_length_eq_zero (by omega)
   subst this; rfl
 | [],r,k+1,h=>by
   obtain ⟨p,hp,hk⟩:=qal h
   have h1:=congrArg List.length hp
   rw [List.nil_append,List.length_append] at h1
   have h2:=hk (by omega)
   omega
 | n::x,r,k+1,h=>by
   rw [List.cons_append,skip] at h
   rw [skip]
   exact qns h
theorem qjd {a:Int→Nat} {m:Nat} {r:List Int} (h:skip a m []=some r):m=0∧r=[]:=by
 cases m with
 | zero=>rw [q3l] at h; cases h; exact ⟨rfl,rfl⟩
 | succ m=>cases h
theorem qbk {l:List Symbol} {t:List Int} (ht:TermOk l t) {p:Nat} (hp:p < t.length):t.drop p=q3e l t p++t.drop (q6r l t p)∧(q3e l t p).length=q6r l t p - p∧skip (ar l) 1 (t.drop p)=some (t.drop (q6r l t p)):=by
 obtain ⟨h1,h2,_⟩:=q4s ht hp
 have hl:(q3e l t p).length=q6r l t p - p:=by simp [q3e]; omega
 refine ⟨?_,hl,?_⟩
 · have e:t.drop (q6r l t p)=(t.drop p).drop (q6r l t p - p):=by rw [List.drop_drop]; congr 1; omega
   have e2:q3e l t p=(t.drop p).take (q6r l t p - p):=by unfold q3e; rw [List.drop_take]
   rw [e,e2,List.take_append_drop]
 · obtain ⟨q,hq⟩:=qc0 (p:=p) ht.skip (by simpa using hp)
   have:=(qin hq).1
   rw [hq]
   unfold q6r
   rw [hq]
   exact congrArg some this
theorem qag {l:List Symbol} {t:List Int} (ht:TermOk l t) {p:Nat} (hp:p < t.length):TermOk l (q3e l t p):=by
 obtain ⟨h1,h2,h3⟩:=qbk ht hp
 obtain ⟨h4,h5,_⟩:=q4s ht hp
 have:=ht.le
 refine ⟨by omega,by omega,fun n hn=>ht.node n ?_,?_⟩
 · exact List.mem_of_mem_drop (h1 ▸ List.mem_append_left _ hn)
 · rw [h1] at h3; exact qns h3
abbrev Bnd:=List Int × List (List Int)
def q6w (vs:List Int) (v:Int):Nat:=(vs.takeWhile fun x=>decide (x < v)).length
def ins {α:Type} (l:List α) (i:Nat) (x:α):List α:=l.take i++x::l.drop i
def bput (b:Bnd) (v:Int) (t:List Int):Bnd:=(ins b.1 (q6w b.1 v) v,ins b.2 (q6w b.1 v) t)
theorem qd7 (vs:List Int) (v:Int):q6w vs v≤vs.length:=by
 have:=(List.takeWhile_sublist (l:=vs) (p:=fun x=>decide (x < v))).length_le
 exact this
theorem qjf:∀ (vs:List Int) (v:Int) (i:Nat) (h:i < q6w vs v) (h':i < vs.length),vs[i] < v
 | [],v,i,h,h'=>by simp at h'
 | x::vs,v,i,h,h'=>by
   unfold q6w at h
   rw [List.takeWhile_cons] at h
   by_cases hx:x < v
   · rw [if_pos (by simpa using hx)] at h
     cases i with
     | zero=>exact hx
     | succ i=>exact qjf vs v i (by simpa [q6w] using h) (by simpa using h')
   · rw [if_neg (by simpa using hx)] at h; simp at h
theorem qe4:∀ (vs:List Int) (v:Int) (h':q6w vs v < vs.length),¬ vs[q6w vs v] < v
 | [],v,h'=>by simp at h'
 | x::vs,v,h'=>by
   by_cases hx:x < v
   · have e:q6w (x::vs) v=q6w vs v+1:=by unfold q6w; rw [List.takeWhile_cons,if_pos (by simpa using hx)]; rfl
     have:=qe4 vs v (by rw [e] at h'; simpa using h')
     simpa [e] using this
   · have e:q6w (x::vs) v=0:=by unfold q6w; rw [List.takeWhile_cons,if_neg (by simpa using hx)]; rfl
     simpa [e] using hx
theorem q6p {α:Type} (l:List α) (i:Nat) (x:α) (h:i≤l.length):(ins l i x).length=l.length+1:=by simp [ins]; omega
theorem qlh {α:Type} {l:List α} {i:Nat} {x y:α} (h:y∈ins l i x):y=x∨y∈l:=by
 unfold ins at h
 rcases List.mem_append.1 h with h | h
 · exact .inr (List.mem_of_mem_take h)
 · rcases List.mem_cons.1 h with h | h
   · exact .inl h
   · exact .inr (List.mem_of_mem_drop h)
structure MB (l:List Symbol) (b:Bnd) (k:Nat):Prop where
 len:b.1.length=b.2.length
 le:b.1.length≤k
 var:∀ v∈b.1,0≤v∧v≤11
 tm:∀ t∈b.2,TermOk l t
theorem MB.nil (l:List Symbol):MB l ([],[]) 0:=⟨rfl,Nat.le_refl _,by simp,by simp⟩
theorem MB.up {l:List Symbol} {b:Bnd} {k k':Nat} (h:MB l b k) (hk:k≤k'):MB l b k':=⟨h.len,Nat.le_trans h.le hk,h.var,h.tm⟩
theorem MB.put {l:List Symbol} {b:Bnd} {k:Nat} (h:MB l b k) {v:Int} (hv:0≤v∧v≤11) {t:List Int} (ht:TermOk l t):MB l (bput b v t) (k+1):=by
 have hi:=qd7 b.1 v
 have hlen:=h.len
 have:=h.le
 refine ⟨?_,?_,fun x hx => ?_,fun x hx => ?_⟩
 · unfold bput; rw [q6p _ _ _ hi,q6p _ _ _ (by omega)]; omega
 · unfold bput; rw [q6p _ _ _ hi]; omega
 · rcases qlh hx with rfl | hx
   · exact hv
   · exact h.var x hx
 · rcases qlh hx with rfl | hx
   · exact ht
   · exact h.tm x hx
theorem MB.ok {l:List Symbol} {b:Bnd} {k:Nat} (h:MB l b k) (hk:k≤24):BindOk b.1 b.2 :=
 ⟨h.len,by have:=h.le; omega,fun v hv=>(h.var v hv).1,fun t ht=>⟨(h.tm t ht).pos,by have:=(h.tm t ht).le; omega⟩⟩
theorem qmm {vs:List Int} {ts:List (List Int)} (hl:vs.length=ts.length) {v:Int} (h:q40 vs ts v=none):v∉vs:=fun hv=>by
 unfold q40 at h
 rcases q7m (fun x:Int=>decide (x=v)) vs with ⟨h1,hno⟩ | ⟨i,hi,h1,_,_⟩
 · have:=hno v hv; simp at this
 · rw [h1,if_neg (by omega),Int.toNat_natCast,List.getElem?_eq_getElem (by omega)] at h
   cases h
def mgo (l:List Symbol) (t:List Int):List Int→Bnd→Nat→Option (Bnd × Nat)
 | [],b,p=>some (b,p)
 | n::q,b,p =>
   if t.length≤p then none
   else if 0≤n then (if t.getD p 0=n then mgo l t q b (p+1) else none)
   else match q40 b.1 b.2 (-1 - n) with
    | none=>mgo l t q (bput b (-1 - n) (q3e l t p)) (p+(q3e l t p).length)
    | some o=>if o=q3e l t p then mgo l t q b (p+(q3e l t p).length) else none
structure Both (l:List Symbol) (t q:List Int) (p:Nat) (r:List Int):Prop where
 both:∃ m,skip (ar l) m q=some []∧skip (ar l) m (t.drop p)=some r
theorem Both.stop {l:List Symbol} {t:List Int} {p:Nat} {r:List Int} (h:Both l t [] p r):t.drop p=r:=by
 obtain ⟨m,h1,h2⟩:=h.both
 obtain ⟨rfl,_⟩:=qjd h1
 rw [q3l] at h2
 exact Option.some.inj h2
theorem Both.lt {l:List Symbol} {t q:List Int} {n:Int} {p:Nat} {r:List Int} (h:Both l t (n::q) p r):p < t.length:=by
 obtain ⟨m,h1,h2⟩:=h.both
 cases m with
 | zero=>rw [q3l] at h1; cases h1
 | succ m =>
   rcases Nat.lt_or_ge p t.length with h | h
   · exact h
   · rw [List.drop_of_length_le h] at h2; cases h2
theorem Both.node {l:List Symbol} {t q:List Int} {n:Int} {p:Nat} {r:List Int} (h:Both l t (n::q) p r) (hn:t.getD p 0=n):Both l t q (p+1) r:=by
 have hp:=h.lt
 obtain ⟨m,h1,h2⟩:=h.both
 cases m with
 | zero=>rw [q3l] at h1; cases h1
 | succ m =>
   rw [List.drop_eq_getElem_cons hp,skip,← q7p hp,hn] at h2
   rw [skip] at h1
   exact ⟨_,h1,h2⟩
theorem Both.var {l:List Symbol} {t q:List Int} {n:Int} {p:Nat} {r:List Int} (ht:TermOk l t) (h:Both l t (n::q) p r) (hn:n < 0):Both l t q (p+(q3e l t p).length) r:=by
 have hp:=h.lt
 obtain ⟨h3,h4,h5⟩:=qbk ht hp
 obtain ⟨h6,h7,_⟩:=q4s ht hp
 obtain ⟨m,h1,h2⟩:=h.both
 cases m with
 | zero=>rw [q3l] at h1; cases h1
 | succ m =>
   rw [skip,q9k l hn,Nat.add_zero] at h1
   rw [show m+1=1+m by omega,q9o,h5] at h2
   refine ⟨m,h1,?_⟩
   rw [h4,show p+(q6r l t p - p)=q6r l t p by omega]
   exact h2
def qwj (l:List Symbol) (q t:List Int) (p:Nat):Option Bnd:=(mgo l t q ([],[]) p).map (·.1)
end Ev.Ty
end
section
namespace Ev.Ty
section
variable {α:Type} (lt:α→α→Bool)
variable {lt}
end
end Ev.Ty
end
section
namespace Ev.Ty
open Go Ev
namespace Tm
def args:Tm→List Tm
 | v _=>[]
 | k _=>[]
 | u _ x=>[x]
 | b _ x y=>[x,y]
def size:Tm→Nat
 | v _=>1
 | k _=>1
 | u _ x=>x.size+1
 | b _ x y=>x.size+y.size+1
theorem q59 {p t:Tm} (h:p∈t.args):p.size < t.size:=by
 cases t with
 | v n=>cases h
 | k n=>cases h
 | u n x=>rw [List.mem_singleton.1 h]; exact Nat.lt_succ_self _
 | b n x y =>
   rcases List.mem_cons.1 h with rfl | h
   · show p.size < p.size+y.size+1; omega
   · rw [List.mem_singleton.1 h]; show y.size < x.size+y.size+1; omega
def gr (a:Int→Nat):Tm→Prop
 | v _=>False
 | k n=>0≤n∧a n=0
 | u n x=>0≤n∧a n=1∧x.gr a
 | b n x y=>0≤n∧a n=2∧x.gr a∧y.gr a
variable {a:Int→Nat}
theorem gr.args {t p:Tm} (h:t.gr a) (hp:p∈t.args):p.gr a:=by
 cases t with
 | v n=>cases h
 | k n=>cases hp
 | u n x=>rw [List.mem_singleton.1 hp]; exact h.2.2
 | b n x y =>
   rcases List.mem_cons.1 hp with rfl | hp
   · exact h.2.2.1
   · rw [List.mem_singleton.1 hp]; exact h.2.2.2
theorem gr.ok:∀ {t:Tm},t.gr a→t.ok a
 | .v _,h=>h.elim
 | .k _,h=>h
 | .u _ _,h=>⟨h.1,h.2.1,h.2.2.ok⟩
 | .b _ _ _,h=>⟨h.1,h.2.1,h.2.2.1.ok,h.2.2.2.ok⟩
theorem gr.head {t:Tm} (h:t.gr a):0≤t.head∧t.args.length=a t.head:=by
 cases t with
 | v n=>cases h
 | k n=>exact ⟨h.1,h.2.symm⟩
 | u n x=>exact ⟨h.1,h.2.1.symm⟩
 | b n x y=>exact ⟨h.1,h.2.1.symm⟩
theorem ok.args {t p:Tm} (h:t.ok a) (hp:p∈t.args):p.ok a:=by
 cases t with
 | v n=>cases hp
 | k n=>cases hp
 | u n x=>rw [List.mem_singleton.1 hp]; exact h.2.2
 | b n x y =>
   rcases List.mem_cons.1 hp with rfl | hp
   · exact h.2.2.1
   · rw [List.mem_singleton.1 hp]; exact h.2.2.2
theorem ok.len {t:Tm} (ha:∀ n,n < 0→a n=0) (h:t.ok a):t.args.length=a t.head:=by
 cases t with
 | v n=>exact (ha n h).symm
 | k n=>exact h.2.symm
 | u n x=>exact h.2.1.symm
 | b n x y=>exact h.2.1.symm
theorem ok.head {t p:Tm} (h:t.ok a) (hp:p∈t.args):0≤t.head:=by
 cases t with
 | v n=>cases hp
 | k n=>cases hp
 | u n x=>exact h.1
 | b n x y=>exact h.1
theorem qjp {t p:Tm} (hp:p∈t.args) {n:Int} (hn:n∈p.flat):n∈t.flat:=by
 cases t with
 | v m=>cases hp
 | k m=>cases hp
 | u m x=>rw [List.mem_singleton.1 hp] at hn; exact List.mem_cons_of_mem _ hn
 | b m x y =>
   rcases List.mem_cons.1 hp with rfl | hp
   · exact List.mem_cons_of_mem _ (List.mem_append_left _ hn)
   · rw [List.mem_singleton.1 hp] at hn; exact List.mem_cons_of_mem _ (List.mem_append_right _ hn)
end Tm
open Tm
inductive G (r:Int→Int):Tm→Tm→Prop
 | eq {s p}:p∈s.args→G r s p
 | sub {s t p}:p∈s.args→G r p t→G r s t
 | big {s t}:0≤s.head→0≤t.head→r t.head < r s.head→(∀ q,q∈t.args→G r s q)→G r s t
 | lex {s t A B C x y}:0≤s.head→s.head=t.head→(∀ q,q∈t.args→G r s q)→s.args=A++x::B→t.args=A++y::C→G r x y→G r s t
namespace G
variable {r:Int→Int}
theorem arg {s t q:Tm} (h:G r s t) (hq:q∈t.args):G r s q:=by
 induction h with
 | eq hp=>exact .sub hp (.eq hq)
 | sub hp _ ih=>exact .sub hp (ih hq)
 | big _ _ _ h=>exact h q hq
 | lex _ _ h _ _ _=>exact h q hq
theorem trans:∀ (n:Nat) {s t u:Tm},s.size+t.size+u.size≤n→G r s t→G r t u→G r s u:=by
 intro n
 induction n with
 | zero=>intro s t u hn h1 h2; cases s <;> simp [Tm.size] at hn
 | succ n ih =>
   intro s t u hn h1 h2
   cases h1 with
   | eq hp=>exact .sub hp h2
   | sub hp h1 =>
     have:=q59 hp
     exact .sub hp (ih (by omega) h1 h2)
   | big z1 z2 hr hq =>
     have h1:G r s t := .big z1 z2 hr hq
     cases h2 with
     | eq hu=>exact hq _ hu
     | sub hp h2 =>
       have:=q59 hp
       exact ih (by omega) (hq _ hp) h2
     | big _ z3 hr2 hq2=>exact .big z1 z3 (Int.lt_trans hr2 hr) fun w hw=>ih (by have:=q59 hw; omega) h1 (hq2 w hw)
     | lex z3 he hq2 _ _ _=>exact .big z1 (he ▸ z3) (he ▸ hr) fun w hw=>ih (by have:=q59 hw; omega) h1 (hq2 w hw)
   | @lex _ _ A B C x y z1 he hq e1 e2 hxy =>
     have h1:G r s t := .lex z1 he hq e1 e2 hxy
     cases h2 with
     | eq hu=>exact hq _ hu
     | sub hp h2 =>
       have:=q59 hp
       exact ih (by omega) (hq _ hp) h2
     | big _ z3 hr2 hq2=>exact .big z1 z3 (by rw [he]; exact hr2) fun w hw=>ih (by have:=q59 hw; omega) h1 (hq2 w hw)
     | @lex _ _ A' B' C' x' y' z3 he2 hq2 e3 e4 hxy2 =>
       have hall:∀ w,w∈u.args→G r s w:=fun w hw=>ih (by have:=q59 hw; omega) h1 (hq2 w hw)
       have hx:x.size < s.size:=q59 (by rw [e1]; simp)
       have hy:y.size < t.size:=q59 (by rw [e2]; simp)
       have hy':y'.size < u.size:=q59 (by rw [e4]; simp)
       rcases List.append_eq_append_iff.1 (e2.symm.trans e3) with ⟨D,hA,hD⟩ | ⟨D,hA,hD⟩
       · cases D with
         | nil =>
           rw [List.append_nil] at hA
           have hD:y=x'∧C=B':=by simpa using hD
           subst hA
           refine .lex z1 (he.trans he2) hall e1 e4 (ih (by omega) hxy (hD.1 ▸ hxy2))
         | cons d D =>
           have hD:y=d∧C=D++x'::B':=by simpa using hD
           rw [hA,List.append_assoc] at e4
           rw [← hD.1] at e4
           exact .lex z1 (he.trans he2) hall e1 e4 hxy
       · cases D with
         | nil =>
           rw [List.append_nil] at hA
           have hD:x'=y∧B'=C:=by simpa using hD
           subst hA
           refine .lex z1 (he.trans he2) hall e1 e4 (ih (by omega) hxy (hD.1 ▸ hxy2))
         | cons d D =>
           have hD:x'=d∧B'=D++y::C:=by simpa using hD
           rw [hA,List.append_assoc] at e1
           rw [← hD.1] at e1
           exact .lex z1 (he.trans he2) hall e1 e4 hxy2
theorem var {a:Int→Nat} {n:Int} (hn:n < 0):∀ (m:Nat) {x:Tm},x.size≤m→x.ok a→(G r x (.v n)↔0≤x.head∧n∈x.flat):=by
 intro m
 induction m with
 | zero=>intro x hm _; cases x <;> simp [Tm.size] at hm
 | succ m ih =>
   intro x hm hx
   have up:∀ p,p∈x.args→n∈p.flat→G r x (.v n):=fun p hp hnp=>by
    have hpo:=hx.args hp
    by_cases h0:0≤p.head
    · exact .sub hp ((ih (by have:=q59 hp; omega) hpo).2 ⟨h0,hnp⟩)
    · cases p with
      | v k=>rw [List.mem_singleton.1 hnp]; exact .eq hp
      | k k=>exact absurd hpo.1 h0
      | u k y=>exact absurd hpo.1 h0
      | b k y z=>exact absurd hpo.1 h0
   constructor
   · intro h
     cases h with
     | eq hp=>exact ⟨hx.head hp,qjp hp (List.mem_singleton.2 rfl)⟩
     | sub hp h=>exact ⟨hx.head hp,qjp hp ((ih (by have:=q59 hp; omega) (hx.args hp)).1 h).2⟩
     | big _ z _ _=>exact absurd z (by show ¬ 0≤n; omega)
     | lex z e _ _ _ _ =>
       have e:x.head=n:=e
       omega
   · rintro ⟨h1,h2⟩
     cases x with
     | v k=>have h1:0≤k:=h1; have hx:k < 0:=hx; omega
     | k k =>
       have h1:0≤k:=h1
       have:=List.mem_singleton.1 h2
       omega
     | u k y =>
       have h1:0≤k:=h1
       rcases List.mem_cons.1 h2 with e | h2
       · omega
       · exact up y (List.mem_singleton.2 rfl) h2
     | b k y z =>
       have h1:0≤k:=h1
       rcases List.mem_cons.1 h2 with e | h2
       · omega
       · rcases List.mem_append.1 h2 with h2 | h2
         · exact up y (List.mem_cons_self ..) h2
         · exact up z (List.mem_cons_of_mem _ (List.mem_singleton.2 rfl)) h2
variable {a:Int→Nat}
end G
end Ev.Ty
end
section
namespace Ev.Ty
open Go Ev
open Tm
theorem qu8 {a:Int→Nat}:∀ (x y:Tm) (r r':List Int),x.ok a→y.ok a→x.flat++r=y.flat++r'→x=y∧r=r':=by
 have hd:∀ {n m:Int} {A B:List Int},n::A=m::B→n=m:=fun h=>(List.cons.inj h).1
 intro x
 induction x with
 | v n =>
   intro y r r' h1 h2 h
   cases y with
   | v m=>have h:n=m∧r=r':=List.cons.inj h; exact ⟨by rw [h.1],h.2⟩
   | k m=>have e:=hd h; have h1:n < 0:=h1; have:=h2.1; omega
   | u m y=>have e:=hd h; have h1:n < 0:=h1; have:=h2.1; omega
   | b m y z=>have e:=hd h; have h1:n < 0:=h1; have:=h2.1; omega
 | k n =>
   intro y r r' h1 h2 h
   cases y with
   | v m=>have e:=hd h; have h2:m < 0:=h2; have:=h1.1; omega
   | k m=>have h:n=m∧r=r':=List.cons.inj h; exact ⟨by rw [h.1],h.2⟩
   | u m y=>have e:=hd h; have h1:=h1.2; have h2:=h2.2.1; rw [e] at h1; omega
   | b m y z=>have e:=hd h; have h1:=h1.2; have h2:=h2.2.1; rw [e] at h1; omega
 | u n x ih =>
   intro y r r' h1 h2 h
   cases y with
   | v m=>have e:=hd h; have h2:m < 0:=h2; have:=h1.1; omega
   | k m=>have e:=hd h; have h1:=h1.2.1; have h2:=h2.2; rw [e] at h1; omega
   | u m y =>
     have h:n=m∧x.flat++r=y.flat++r':=List.cons.inj h
     obtain ⟨e1,e2⟩:=ih y r r' h1.2.2 h2.2.2 h.2
     exact ⟨by rw [h.1,e1],e2⟩
   | b m y z=>have e:=hd h; have h1:=h1.2.1; have h2:=h2.2.1; rw [e] at h1; omega
 | b n x w ih1 ih2 =>
   intro y r r' h1 h2 h
   cases y with
   | v m=>have e:=hd h; have h2:m < 0:=h2; have:=h1.1; omega
   | k m=>have e:=hd h; have h1:=h1.2.1; have h2:=h2.2; rw [e] at h1; omega
   | u m y=>have e:=hd h; have h1:=h1.2.1; have h2:=h2.2.1; rw [e] at h1; omega
   | b m y z =>
     have h:n=m∧(x.flat++w.flat)++r=(y.flat++z.flat)++r':=List.cons.inj h
     have h':=h.2
     rw [List.append_assoc,List.append_assoc] at h'
     obtain ⟨e1,e2⟩:=ih1 y _ _ h1.2.2.1 h2.2.2.1 h'
     obtain ⟨e3,e4⟩:=ih2 z _ _ h1.2.2.2 h2.2.2.2 e2
     exact ⟨by rw [h.1,e1,e3],e4⟩
theorem qj2 {a:Int→Nat} {x y:Tm} (hx:x.ok a) (hy:y.ok a):x.flat=y.flat↔x=y :=
 ⟨fun h=>(qu8 x y [] [] hx hy (by rw [h])).1,fun h=>by rw [h]⟩
inductive F2 {α β:Type} (R:α→β→Prop):List α→List β→Prop
 | nil:F2 R [] []
 | cons {a b A B}:R a b→F2 R A B→F2 R (a::A) (b::B)
theorem F2.any {α β:Type} {R:α→β→Prop} {f:α→Bool} {P:β→Prop} {A:List α} {B:List β} (h:F2 R A B) (hf:∀ a b,R a b→b∈B→(f a=true↔P b)):A.any f=true↔∃ b,b∈B∧P b:=by
 induction h with
 | nil=>simp
 | @cons a b A B hr _ ih =>
   rw [List.any_cons,Bool.or_eq_true,hf a b hr (List.mem_cons_self ..),ih fun a b hr hb=>hf a b hr (List.mem_cons_of_mem _ hb)]
   constructor
   · rintro (h | ⟨b',h1,h2⟩)
     · exact ⟨b,List.mem_cons_self .., h⟩
     · exact ⟨b',List.mem_cons_of_mem _ h1,h2⟩
   · rintro ⟨b',h1,h2⟩
     rcases List.mem_cons.1 h1 with rfl | h1
     · exact .inl h2
     · exact .inr ⟨b',h1,h2⟩
def At (l:List Symbol) (t:List Int) (i:Nat) (x:Tm):Prop:=x.ok (ar l)∧∃ r,t.drop i=x.flat++r
theorem At.facts {l:List Symbol} {t:List Int} {i:Nat} {x:Tm} (h:At l t i x):i < t.length∧t.getD i 0=x.head∧q6r l t i=i+x.flat.length∧q3e l t i=x.flat:=by
 obtain ⟨hx,r,h⟩:=h
 obtain ⟨h1,h2,h3⟩:=q9s h
 have hs:skip (ar l) 1 (t.drop i)=some r:=by
  rw [h,skip_flat (fun n hn=>q9k l hn) x r 0 hx,q3l]
 have hl:(t.drop i).length=x.flat.length+r.length:=by rw [h,List.length_append]
 rw [List.length_drop] at hl
 have he:q6r l t i=i+x.flat.length:=by
  unfold q6r
  rw [hs]
  show t.length - r.length=_
  omega
 refine ⟨h1,?_,he,?_⟩
 · rw [List.getD_eq_getElem?_getD,h2]; rfl
 · unfold q3e
   rw [he,List.drop_take,Nat.add_sub_cancel_left,h,List.take_left]
theorem At.next {l:List Symbol} {t:List Int} {i:Nat} {n:Int} {x:Tm} {r:List Int} (hx:x.ok (ar l)) (h:t.drop i=n::(x.flat++r)):At l t (i+1) x:=⟨hx,r,by
 rw [← List.drop_drop,h]; rfl⟩
theorem At.args {l:List Symbol} {t:List Int} {i:Nat} {x:Tm} (h:At l t i x):F2 (At l t) (q36 l t i) x.args:=by
 obtain ⟨_,h2,_,_⟩:=h.facts
 obtain ⟨hx,r,h⟩:=h
 unfold q36
 rw [h2,← hx.len (fun n hn=>q9k l hn)]
 cases x with
 | v n=>exact .nil
 | k n=>exact .nil
 | u n x=>exact .cons (At.next hx.2.2 h) .nil
 | b n x y =>
   have h:t.drop i=n::(x.flat++(y.flat++r)):=by rw [h]; simp [Tm.flat]
   have a1:=At.next hx.2.2.1 h
   refine .cons a1 (.cons ⟨hx.2.2.2,r,?_⟩ .nil)
   rw [a1.facts.2.2.1,← List.drop_drop,← List.drop_drop,h]
   show (x.flat++(y.flat++r)).drop _=_
   rw [List.drop_left]
section
variable {l:List Symbol} {o a b:List Int}
end
def Closed (l:List Symbol) (t:List Int):Prop:=TermOk l t∧∀ n∈t,0≤n
theorem qud {a:Int→Nat}:∀ x:Tm,x.ok a→(∀ n∈x.flat,0≤n)→x.gr a
 | .v n,h,h2=>by have h:n < 0:=h; have:=h2 n (List.mem_singleton.2 rfl); omega
 | .k n,h,_=>h
 | .u n x,h,h2=>⟨h.1,h.2.1,qud x h.2.2 fun m hm=>h2 m (List.mem_cons_of_mem _ hm)⟩
 | .b n x y,h,h2=>⟨h.1,h.2.1,qud x h.2.2.1 fun m hm=>h2 m (List.mem_cons_of_mem _ (List.mem_append_left _ hm)),qud y h.2.2.2 fun m hm=>h2 m (List.mem_cons_of_mem _ (List.mem_append_right _ hm))⟩
theorem Closed.at {l:List Symbol} (ok:SigOk ⟨l⟩) {t:List Int} (h:Closed l t):∃ x,At l t 0 x∧t=x.flat∧x.gr (ar l):=by
 obtain ⟨x,hx,e⟩:=h.1.tree ok
 exact ⟨x,⟨hx,[],by simpa using e⟩,e,qud x hx (e ▸ h.2)⟩
section
variable {l:List Symbol} (ok:SigOk ⟨l⟩) {o:List Int} (ho:∀ n:Int,0≤n→n < l.length→n∈o)
include ok ho
end
end Ev.Ty
end
section
namespace Ev.Ty
open Go Ev
open Tm
namespace Tm
def inst (σ:Int→Tm):Tm→Tm
 | v n=>σ n
 | k n=>k n
 | u n x=>u n (x.inst σ)
 | b n x y=>b n (x.inst σ) (y.inst σ)
theorem inst_ok {σ:Int→Tm} {a:Int→Nat} (hσ:∀ n,n < 0→(σ n).ok a):∀ {t:Tm},t.ok a→(t.inst σ).ok a
 | .v n,h=>hσ n h
 | .k _,h=>h
 | .u _ _,h=>⟨h.1,h.2.1,inst_ok hσ h.2.2⟩
 | .b _ _ _,h=>⟨h.1,h.2.1,inst_ok hσ h.2.2.1,inst_ok hσ h.2.2.2⟩
inductive Part:Tm→Tm→Prop
 | arg {p t}:p∈t.args→Part p t
 | deep {p q t}:q∈t.args→Part p q→Part p t
end Tm
namespace G
variable {r:Int→Int}
theorem qu7 {t p:Tm} (h:Tm.Part p t):G r t p:=by
 induction h with
 | arg h=>exact .eq h
 | deep h _ ih=>exact .sub h ih
theorem ctx {s t x y:Tm} {A B:List Tm} (z:0≤s.head) (he:s.head=t.head) (e1:s.args=A++x::B) (e2:t.args=A++y::B) (h:G r x y):G r s t:=by
 refine .lex z he (fun q hq => ?_) e1 e2 h
 rw [e2] at hq
 rcases List.mem_append.1 hq with hq | hq
 · exact .eq (by rw [e1]; exact List.mem_append_left _ hq)
 · rcases List.mem_cons.1 hq with rfl | hq
   · exact .sub (by rw [e1]; simp) h
   · exact .eq (by rw [e1]; simp [hq])
end G
end Ev.Ty
end
section
namespace Ev.Ty
open Go Ev
open Tm
section
variable {l:List Symbol} (ok:SigOk ⟨l⟩) {o:List Int} (ho:∀ n:Int,0≤n→n < l.length→n∈o)
include ok
theorem TermOk.atZero {t:List Int} (h:TermOk l t):∃ x,At l t 0 x∧t=x.flat:=by
 obtain ⟨x,hx,e⟩:=h.tree ok
 exact ⟨x,⟨hx,[],by simpa using e⟩,e⟩
include ho
end
end Ev.Ty
end
section
namespace Ev.Ty
theorem qo2:∀ (k:Nat) (o:List Int),o.Nodup→(∀ n∈o,0≤n∧n < k)→o.length≤k
 | 0,o,_,h=>by
   cases o with
   | nil=>simp
   | cons x o=>have:=h x (by simp); omega
 | k+1,o,hn,h=>by
   by_cases hk:(k:Int)∈o
   · have h1:=List.length_erase_of_mem hk
     have:=qo2 k (o.erase (k:Int)) (hn.erase _) fun n hm=>by
      have hm':=(hn.mem_erase_iff).1 hm
      have:=h n hm'.2
      omega
     omega
   · have:=qo2 k o hn fun n hm=>by
      have:=h n hm
      have:n≠(k:Int):=fun e=>hk (e ▸ hm)
      omega
     omega
end Ev.Ty
end
section
namespace Ev.Ty
open Go Ev
open Enc (enc)
open Sm (sm)
def qea (l:List Symbol) (o:List Int):Int:=if o.length≠l.length then 2 else if (o.any fun n => !inR n 0 (l.length - 1))=true then 3 else if qd4 o=true then 6 else 0
def q6o (s:Signature) (o:List Int):Int:=if q2z s≠0 then q2z s else qea s.symbols o
theorem qwc {l:List Symbol} {o:List Int} (h:qea l o=0):o.length=l.length∧∀ n:Int,0≤n→n < l.length→n∈o:=by
 unfold qea at h
 split at h
 · cases h
 rename_i h1
 split at h
 · cases h
 rename_i h2
 split at h
 · cases h
 rename_i h3
 have h1:o.length=l.length:=by omega
 refine ⟨h1,fun n hn hl=>Classical.byContradiction fun hno => ?_⟩
 have hnd:o.Nodup:=by
  unfold qd4 at h3
  simpa using h3
 have hr:∀ m∈o,0≤m∧m < l.length:=fun m hm=>by
  simp only [List.any_eq_true,not_exists,not_and,Bool.not_eq_true',Bool.not_eq_false] at h2
  have:=q6y.1 (h2 m hm)
  omega
 have:=qo2 l.length (n::o) (List.nodup_cons.2 ⟨hno,hnd⟩) fun m hm=>by
  rcases List.mem_cons.1 hm with rfl | hm
  · exact ⟨hn,hl⟩
  · exact hr m hm
 simp at this
 omega
theorem q5j {l:List Symbol} (hs:l.length≤4294967296) (n:Int):Call F.q5j [.agg [slc l],.int .i64 n] (.bool (inR n 0 (l.length - 1))):=by
 refine q0v rfl 0 ((q5j.ev _ _ _).trans ?_)
 simp only [evz,Nat.reduceLT,q1z (x:=(l.length:Int) - 1) (by omega),(q3x _ _ _).eq]
theorem q4m {l:List Symbol} (hs:l.length≤4294967296) (n:Int):Call F.q4m [.rref [slc l] 0,.int .i64 n] (.bool (inR n 0 (l.length - 1))):=by
 refine q0v rfl 0 ((q4m.ev _ _ _).trans ?_)
 simp only [evz,Nat.reduceLT,q1z (x:=(l.length:Int) - 1) (by omega),(q47 _ _ _).eq]
theorem q0h (l:List Symbol) (hs:l.length≤4294967296) (o:List Int) (ho:o.length≤4294967296):Call F.q0h [.rref [slc l] 0,slc o] (.int .i64 (qea l o)):=by
 obtain ⟨n,hn⟩:∃ n,n=o.length+1:=⟨_,rfl⟩
 refine q0v rfl n ((q0h.ev _ _ _).trans ?_)
 simp only [evz,Nat.reduceLT,qea]
 by_cases h2:o.length=l.length
 case neg =>
  have h2':¬ ((o.length:Int)=(l.length:Int)):=by omega
  simp only [h2,h2',evz,Nat.reduceLT,ne_eq,not_true_eq_false,not_false_eq_true]
 have h2':((o.length:Int)=(l.length:Int)):=by omega
 simp only [h2',h2,evz,Nat.reduceLT,ne_eq,not_true_eq_false]
 have two:=qai (n:=o.length) (bad:=fun i=>(List.range i).any fun j=>o[i]?.any fun x=>o[j]?.any fun y=>decide (x=y))
  (S:=fun m i=>q0h.at2 n m (q0h.st2 (cells o) (i:Nat))) (r:=some (.int .i64 6,[])) (z:=some (.int .i64 0,[]))
  (fun m i h=>by
   have hlk:o[i]?=some o[i]:=List.getElem?_eq_getElem h
   simp only [q0h.next2,q0h.round2,evz,Nat.reduceLT,h]
   refine qai (n:=i) (f:=n) (bad:=fun j=>o[i]?.any fun x=>o[j]?.any fun y=>decide (x=y))
    (S:=fun m' j=>q0h.at4 n (q0h.at2 n m) m' (q0h.st4 (cells o) (i:Nat) (j:Nat))) (fun m' j hj => ?_) (fun m' => ?_) (by omega)
   · have hj':j < o.length:=by omega
     have hjk:o[j]?=some o[j]:=List.getElem?_eq_getElem hj'
     simp only [q0h.next4,q0h.round4,evz,Nat.reduceLT,h,hj,hj',hlk,hjk,q1j]
     rw [q0o (by omega)]
     by_cases e:o[i]=o[j] <;> simp [e]
   · simp only [q0h.next4,q0h.round4,evz,Nat.reduceLT,Nat.lt_irrefl]
     rw [q0o (by omega)])
  (fun m=>by simp only [q0h.next2,q0h.round2,evz,Nat.reduceLT,Nat.lt_irrefl]) (show o.length < n by omega)
 have tp:=qg7 (fun x:Int=>x) o
 rw [List.map_id'] at tp
 rw [tp] at two
 refine (q83 (l:=o) (p:=fun x => !inR x 0 (l.length - 1)) (S:=fun m k=>q0h.at0 n m (q0h.st0 (cells l) (cells o) (k:Nat))) (r:=some (.int .i64 3,[])) (z:=if qd4 o=true then some (.int .i64 6,[]) else some (.int .i64 0,[])) (fun m k h => ?_) (fun m => ?_) (show o.length < n by omega)).trans ?_
 · have hlk:o[k]?=some o[k]:=List.getElem?_eq_getElem h
   simp only [q0h.next0,q0h.round0,evz,Nat.reduceLT,h,hlk,q1j,(q4m hs _).eq]
   rw [q0o (by omega)]
   cases inR o[k] 0 (l.length - 1) <;> rfl
 · simp only [q0h.next0,q0h.round0,evz,Nat.reduceLT,Nat.lt_irrefl]
   exact two
 · cases o.any fun x => !inR x 0 (l.length - 1) <;> cases qd4 o <;> rfl
theorem q4f (l:List Symbol) (hs:l.length≤4294967296) (o:List Int) (ho:o.length≤4294967296):Call F.q4f [.agg [slc l],slc o] (.int .i64 (q6o ⟨l⟩ o)):=by
 refine q0v rfl 0 ((q4f.ev _ _ _).trans ?_)
 simp only [evz,Nat.reduceLT,(q00 l hs).eq,(q0h l hs o ho).eq,q6o]
 by_cases h1:q2z ⟨l⟩=0
 · simp only [h1,evz,Nat.reduceLT,ne_eq,not_true_eq_false]
 · simp only [h1,evz,Nat.reduceLT,ne_eq,not_false_eq_true]
theorem q8j {l:List Symbol} (h:q2z ⟨l⟩=0):SigOk ⟨l⟩:=(q7j _).1 h
section
variable (e:Nat→Nat) (f:Nat→Int)
def qgr (s:Int × Int × Int) (k:Nat):Int × Int × Int:=if (e k:Int) > s.2.2 then s else if f k ≥ 0 then ((k:Int),f k,(e k:Int)) else s
def IsBest (lo hi:Nat) (s:Int × Int):Prop :=
 (s=(-1,-1)∧∀ a,lo≤a→a < hi→f a < 0) ∨
  ∃ a,lo≤a∧a < hi∧s=((a:Int),f a)∧f a ≥ 0∧∀ a',lo≤a'→a' < hi→f a' ≥ 0→e a < e a'∨(e a=e a'∧a'≤a)
theorem IsBest.up {k:Nat} {s:Int × Int × Int} (he:∀ a,e a≤24) (h:IsBest e f 0 k (s.1,s.2.1)) (hs:(s.1 = -1∧s.2.2=25)∨∃ a:Nat,s.1=a∧s.2.2=e a) :
 IsBest e f 0 (k+1) ((qgr e f s k).1,(qgr e f s k).2.1)∧(((qgr e f s k).1 = -1∧(qgr e f s k).2.2=25)∨∃ a:Nat,(qgr e f s k).1=a∧(qgr e f s k).2.2=e a):=by
 have hek:=he k
 obtain ⟨p,r,d⟩:=s
 unfold qgr
 simp only at h hs ⊢
 rcases h with ⟨hp,h⟩ | ⟨a,h1,h2,hp,h3,h4⟩
 · simp only [Prod.mk.injEq] at hp
   obtain ⟨rfl,rfl⟩:=hp
   have hd:d=25:=by
    rcases hs with ⟨_,h⟩ | ⟨a,h,_⟩
    · exact h
    · omega
   subst hd
   rw [if_neg (by omega)]
   by_cases hf:f k ≥ 0
   · rw [if_pos hf]
     refine ⟨.inr ⟨k,by omega,by omega,rfl,hf,fun a' q1 q2 q3 => ?_⟩,.inr ⟨k,rfl,rfl⟩⟩
     by_cases hak:a'=k
     · subst hak; exact .inr ⟨rfl,Nat.le_refl _⟩
     · have:=h a' (by omega) (by omega); omega
   · rw [if_neg hf]
     refine ⟨.inl ⟨rfl,fun a' q1 q2 => ?_⟩,.inl ⟨rfl,rfl⟩⟩
     by_cases hak:a'=k
     · subst hak; omega
     · exact h a' (by omega) (by omega)
 · simp only [Prod.mk.injEq] at hp
   obtain ⟨rfl,rfl⟩:=hp
   have hd:d=e a:=by
    rcases hs with ⟨h,_⟩ | ⟨a',h,h'⟩
    · omega
    · have:a=a':=by omega
      rw [this]; exact h'
   subst hd
   by_cases hc:(e k:Int) > e a
   · rw [if_pos hc]
     refine ⟨.inr ⟨a,by omega,by omega,rfl,h3,fun a' q1 q2 q3 => ?_⟩,.inr ⟨a,rfl,rfl⟩⟩
     by_cases hak:a'=k
     · subst hak; exact .inl (by omega)
     · exact h4 a' (by omega) (by omega) q3
   · rw [if_neg hc]
     by_cases hf:f k ≥ 0
     · rw [if_pos hf]
       refine ⟨.inr ⟨k,by omega,by omega,rfl,hf,fun a' q1 q2 q3 => ?_⟩,.inr ⟨k,rfl,rfl⟩⟩
       by_cases hak:a'=k
       · subst hak; exact .inr ⟨rfl,Nat.le_refl _⟩
       · rcases h4 a' (by omega) (by omega) q3 with q | ⟨q,_⟩
         · exact .inl (by omega)
         · rcases Nat.lt_or_ge (e k) (e a') with q' | q'
           · exact .inl q'
           · exact .inr ⟨by omega,by omega⟩
     · rw [if_neg hf]
       refine ⟨.inr ⟨a,by omega,by omega,rfl,h3,fun a' q1 q2 q3 => ?_⟩,.inr ⟨a,rfl,rfl⟩⟩
       by_cases hak:a'=k
       · subst hak; omega
       · exact h4 a' (by omega) (by omega) q3
end
def fits (l:List Symbol) (rs:List Equation) (t:List Int) (p:Nat):Int:=idx (fun e=>(qwj l e.left t p).isSome) rs
theorem qb9 {l:List Symbol} {b:Bnd} {k:Nat} (hb:MB l b k) (hk:k≤24):∀ (q x:List Int) (m:Nat),skip (ar l) m q=some []→skip (ar l) m (q03 b.1 b.2 q++x)=some x
 | [],x,m,h=>by
   obtain ⟨rfl,_⟩:=qjd h
   rw [q3l]; rfl
 | n::q,x,m,h=>by
   cases m with
   | zero=>rw [q3l] at h; cases h
   | succ m =>
     rw [skip] at h
     have ih:=qb9 hb hk q x _ h
     have e:q03 b.1 b.2 (n::q)=(q40 b.1 b.2 (-1 - n)).getD [n]++q03 b.1 b.2 q:=by simp [q03]
     rw [e,List.append_assoc]
     cases ho:q40 b.1 b.2 (-1 - n) with
     | none =>
       show skip (ar l) (m+1) (n::(q03 b.1 b.2 q++x))=_
       rw [skip]; exact ih
     | some o =>
       have hn:n < 0:=by
        rcases Int.lt_or_le n 0 with h | h
        · exact h
        · rw [qdq (hb.ok hk) (by omega)] at ho; cases ho
       rw [q9k l hn,Nat.add_zero] at ih
       have ht:=hb.tm o (q5g ho)
       show skip (ar l) (m+1) (o++(q03 b.1 b.2 q++x))=_
       rw [show m+1=1+m by omega,q9o,qch ht.skip]
       exact ih
theorem qko {a:Int→Nat} {y y' z:List Int} (hy:skip a 1 (y++z)=some z) (hy':skip a 1 (y'++z)=some z):∀ (x:List Int) (k:Nat),skip a k (x++(y++z))=some []→skip a k (x++(y'++z))=some []
 | [],0,h=>by
   rw [q3l] at h
   rw [List.nil_append] at h
   rw [Option.some.inj h] at hy
   cases hy
 | [],k+1,h=>by
   rw [List.nil_append,show k+1=1+k by omega,q9o] at h ⊢
   rw [hy] at h
   rw [hy']
   exact h
 | n::x,0,h=>by rw [q3l] at h; cases h
 | n::x,k+1,h=>by
   rw [List.cons_append,skip] at h ⊢
   exact qko hy hy' x _ h
theorem qei {l:List Symbol} {b:Bnd} {k:Nat} (hb:MB l b k) {q:List Int} (hq:∀ n∈q,q5n l n=true):∀ n∈q03 b.1 b.2 q,q5n l n=true:=fun n hn=>by
 unfold q03 at hn
 obtain ⟨m,hm,hn⟩:=List.mem_flatMap.1 hn
 cases ho:q40 b.1 b.2 (-1 - m) with
 | none=>rw [ho] at hn; rw [List.mem_singleton.1 hn]; exact hq m hm
 | some o=>rw [ho] at hn; exact (hb.tm o (q5g ho)).node n hn
theorem qeu {α:Type} {l:List α} {i k:Nat} (x:α) (hi:i≤k) (hk:k < l.length):(ins l i x).take (k+2)=(ins l i x).take (k+1)++[l[k]]:=by
 have hlen:=q6p l i x (by omega)
 have h:k+1 < (ins l i x).length:=by omega
 have e:(ins l i x)[k+1]=l[k]:=by
  have:=qqn l x i (by omega) (k+1)
  rw [if_neg (by omega),if_neg (by omega),Nat.add_sub_cancel,List.getElem?_eq_getElem hk] at this
  have h2:(ins l i x)[k+1]?=some l[k]:=this
  rw [List.getElem?_eq_getElem h] at h2
  exact Option.some.inj h2
 rw [← e]
 exact (List.take_append_getElem h).symm
theorem qfk {α:Type} {l:List α} {i:Nat} (x:α) (hi:i≤l.length):(ins l i x).take (i+1)=l.take i++[x]:=by
 unfold ins
 rw [List.take_append,List.take_of_length_le (by simp; omega)]
 simp [Nat.min_eq_left hi]
theorem qr7 {α:Type} (l:List α) (x:α):ins l l.length x=l++[x]:=by simp [ins]
theorem q4y (vs:List Int) (i:Nat) (v:Int) (hi:i≤vs.length) (hl:vs.length < 4294967296):Call F.q4y [slc vs,.int .i64 i,.sl 1 [.int .i64 v]] (slc (ins vs i v)):=by
 refine qdl (e:=insE 8) rfl (Ev.of fun m => ?_)
 have hc:(cells vs).length=vs.length:=by rw [q0n,q3c,Nat.mul_one]
 show (bif _ then _ else _)=_
 rw [q1h (by simp [hc,hl,Nat.ble_eq]; omega)]
 have e1:=q92 vs 1 i rfl
 have e2:=qa2 vs 1 i rfl
 rw [Nat.mul_one] at e1 e2
 rw [Int.toNat_natCast,e1,e2]
 show some (T.sl 1 (cells (vs.take i)++T.int .i64 v::cells (vs.drop i)),[])=_
 unfold ins slc
 rw [q2t,q7a]
 rfl
theorem q4o (ts:List (List Int)) (i:Nat) (t:List Int) (hi:i≤ts.length) (hl:ts.length < 4294967296):Call F.q4o [slc ts,.int .i64 i,.sl 1 [slc t]] (slc (ins ts i t)):=by
 refine qdl (e:=insE 24) rfl (Ev.of fun m => ?_)
 have hc:(cells ts).length=ts.length:=by rw [q0n,show Enc.sz (List Int)=1 from rfl,Nat.mul_one]
 show (bif _ then _ else _)=_
 rw [q1h (by simp [hc,hl,Nat.ble_eq]; omega)]
 have e1:=q92 ts 1 i rfl
 have e2:=qa2 ts 1 i rfl
 rw [Nat.mul_one] at e1 e2
 rw [Int.toNat_natCast,e1,e2]
 show some (T.sl 1 (cells (ts.take i)++slc t::cells (ts.drop i)),[])=_
 unfold ins
 show _=some (T.sl 1 (cells (ts.take i++t::ts.drop i)),[])
 rw [q2t,q7a]
 rfl
theorem q11 (vs:List Int) (ts:List (List Int)) (v:Int) (t:List Int) (hl:vs.length=ts.length) (hs:vs.length≤1000) (ht:t.length≤4294967296) :
 LIM F.q11 [.rref [slc vs,slc ts] 0,.int .i64 v,slc t]=some (.tup [],[.agg [slc (bput (vs,ts) v t).1,slc (bput (vs,ts) v t).2]]):=by
 have hi:=qd7 vs v
 refine q8v rfl 1002 ((q11.ev _ _ _ _ _).trans ?_)
 have loop:∀ n k f,k+n=q6w vs v→n < f→q11.at0 1002 f (q11.st0 v (cells t) (k:Nat) (cells vs) (cells ts))=some (.tup [],[.agg [slc (bput (vs,ts) v t).1,slc (bput (vs,ts) v t).2]]):=by
  intro n
  induction n with
  | zero =>
    intro k f hk hf
    obtain ⟨f,rfl⟩:∃ x,f=x+1:=⟨f - 1,by omega⟩
    obtain rfl:k=q6w vs v:=by omega
    have q1:=(q4y vs (q6w vs v) v hi (by omega)).eq
    have q2:=(q4o ts (q6w vs v) t (by omega) (by omega)).eq
    by_cases h:q6w vs v < vs.length
    · have hs:=qe4 vs v h
      have hlk:vs[q6w vs v]?=some vs[q6w vs v]:=List.getElem?_eq_getElem h
      simp only [q11.next0,q11.round0,evz,Nat.reduceLT,h,hlk,q1j,hs,q1,(q2q t ht).eq,q2]
      rfl
    · simp only [q11.next0,q11.round0,evz,Nat.reduceLT,h,q1,(q2q t ht).eq,q2]
      rfl
  | succ n ih =>
    intro k f hk hf
    obtain ⟨f,rfl⟩:∃ x,f=x+1:=⟨f - 1,by omega⟩
    have h:k < vs.length:=by omega
    have hlt:=qjf vs v k (by omega) h
    have hlk:vs[k]?=some vs[k]:=List.getElem?_eq_getElem h
    simp only [q11.next0,q11.round0,evz,Nat.reduceLT,h,hlk,q1j,hlt]
    rw [q0o (by omega)]
    exact ih (k+1) f (by omega) (by omega)
 exact loop (q6w vs v) 0 1002 (by omega) (by omega)
def q8t (vs:List Int) (ts:List (List Int)) (v:Int) (t:List Int) (k:Nat):Bool × List Int × List (List Int) :=
 if k≤q6w vs v then (false,vs.take k,ts.take k) else (true,(ins vs (q6w vs v) v).take (k+1),(ins ts (q6w vs v) t).take (k+1))
theorem q1r (vs:List Int) (ts:List (List Int)) (v:Int) (t:List Int) (hl:vs.length=ts.length) (hs:vs.length≤1000) (ht:t.length≤4096) (hv:v∉vs) (htm:∀ x∈ts,x.length≤4096) :
 Call F.q1r [.rref [slc vs,slc ts] 0,.int .i64 v,slc t] (.agg [slc (bput (vs,ts) v t).1,slc (bput (vs,ts) v t).2]):=by
 have hi:=qd7 vs v
 refine q0v rfl 1002 ((q1r.ev _ _ _ _ _).trans ?_)
 have key:=q9n (n:=vs.length) (f:=1002) (S:=fun m k (s:Bool × List Int × List (List Int))=>q1r.at0 1002 m (q1r.st0 (cells vs) (cells ts) v (cells t) s.1 (k:Nat) (cells s.2.1) (cells s.2.2)))
  (st:=q8t vs ts v t) (z:=some (.agg [slc (bput (vs,ts) v t).1,slc (bput (vs,ts) v t).2],[])) (fun m k h => ?_) (fun m => ?_) (by omega)
 · have e0:q8t vs ts v t 0=(false,[],[]):=by unfold q8t; rw [if_pos (Nat.zero_le _)]; rfl
   rw [e0] at key
   exact key
 · have h':k < ts.length:=by omega
   have hlk:vs[k]?=some vs[k]:=List.getElem?_eq_getElem h
   have htk:ts[k]?=some ts[k]:=List.getElem?_eq_getElem h'
   have hx:=(q4p ts[k] (by have:=htm _ (List.getElem_mem h'); omega)).eq
   have hx2:=(q4p t (by omega)).eq
   have hne:vs[k]≠v:=fun e=>hv (e ▸ List.getElem_mem h)
   have len1:∀ q,((cells (vs.take q)).length)≤1000:=fun q=>by rw [q0n,q3c]; simp; omega
   have len2:∀ q,((cells (ts.take q)).length)≤1000:=fun q=>by rw [q0n,show Enc.sz (List Int)=1 from rfl]; simp; omega
   have len3:∀ q,((cells ((ins vs (q6w vs v) v).take q)).length)≤1001:=fun q=>by rw [q0n,q3c,List.length_take,q6p _ _ _ hi]; omega
   have len4:∀ q,((cells ((ins ts (q6w vs v) t).take q)).length)≤1001:=fun q=>by rw [q0n,show Enc.sz (List Int)=1 from rfl,List.length_take,q6p _ _ _ (by omega)]; omega
   have tk1:vs.take (k+1)=vs.take k++[vs[k]]:=(List.take_append_getElem h).symm
   have tk2:ts.take (k+1)=ts.take k++[ts[k]]:=(List.take_append_getElem h').symm
   rcases Nat.lt_trichotomy k (q6w vs v) with c | c | c
   · have hlt:=qjf vs v k c h
     have hgt:¬ vs[k] > v:=by omega
     have e1:q8t vs ts v t k=(false,vs.take k,ts.take k):=if_pos (by omega)
     have e2:q8t vs ts v t (k+1)=(false,vs.take k++[vs[k]],ts.take k++[ts[k]]):=by unfold q8t; rw [if_pos (by omega),tk1,tk2]
     rw [e1,e2]
     simp only [q1r.next0,q1r.round0,evz,Nat.reduceLT,h,h',hlk,htk,q1j,q5m,hgt,hx,q2j,q74]
     rw [q1h (q3t (by have:=len1 k; omega)),q1h (q3t (by have:=len2 k; omega)),q0o (by omega)]
   · have hs:=qe4 vs v (by omega)
     have hs:¬ vs[k] < v:=by
      have:vs[q6w vs v]'(by omega)=vs[k]:=by congr 1; omega
      rw [this] at hs; exact hs
     have hgt:vs[k] > v:=by omega
     have e1:q8t vs ts v t k=(false,vs.take k,ts.take k):=if_pos (by omega)
     have e2:q8t vs ts v t (k+1)=(true,(vs.take k++[v])++[vs[k]],(ts.take k++[t])++[ts[k]]):=by
      unfold q8t
      rw [if_neg (by omega),← c,qeu v (Nat.le_refl _) h,qeu t (Nat.le_refl _) h',qfk v (by omega),qfk t (by omega)]
     rw [e1,e2]
     simp only [q1r.next0,q1r.round0,evz,Nat.reduceLT,h,h',hlk,htk,q1j,q5m,hgt,hx,hx2,q2j,q74]
     have l1:=len1 k
     have l2:=len2 k
     have l3:(cells (vs.take k++[v])).length≤1001:=by rw [q2t,List.length_append,q0n [v]]; simp; omega
     have l4:(cells (ts.take k++[t])).length≤1001:=by rw [q2t,List.length_append,q0n [t]]; simp [show Enc.sz (List Int)=1 from rfl]; omega
     rw [q1h (q3t (by omega)),q1h (q3t (by omega)),q1h (q3t (by omega)),q1h (q3t (by omega)),q0o (by omega)]
   · have e1:q8t vs ts v t k=(true,(ins vs (q6w vs v) v).take (k+1),(ins ts (q6w vs v) t).take (k+1)):=if_neg (by omega)
     have e2:q8t vs ts v t (k+1)=(true,(ins vs (q6w vs v) v).take (k+1)++[vs[k]],(ins ts (q6w vs v) t).take (k+1)++[ts[k]]):=by
      unfold q8t
      rw [if_neg (by omega),qeu v (by omega) h,qeu t (by omega) h']
     rw [e1,e2]
     simp only [q1r.next0,q1r.round0,evz,Nat.reduceLT,h,h',hlk,htk,q1j,q5m,hx,q2j,q74]
     rw [q1h (q3t (by have:=len3 (k+1); omega)),q1h (q3t (by have:=len4 (k+1); omega)),q0o (by omega)]
 · have hx2:=(q4p t (by omega)).eq
   by_cases c:q6w vs v=vs.length
   · have e1:q8t vs ts v t vs.length=(false,vs,ts):=by
      unfold q8t
      rw [if_pos (by omega),List.take_length,hl,List.take_length]
     have e2:bput (vs,ts) v t=(vs++[v],ts++[t]):=by
      unfold bput
      rw [c,qr7]
      simp only [Prod.mk.injEq,true_and]
      rw [hl,qr7]
     rw [e1,e2]
     simp only [q1r.next0,q1r.round0,evz,Nat.reduceLT,Nat.lt_irrefl,hx2,q2j,q74]
     rw [q1h (q3t (by rw [q0n,q3c]; omega)),q1h (q3t (by rw [q0n,show Enc.sz (List Int)=1 from rfl]; omega))]
   · have e1:q8t vs ts v t vs.length=(true,ins vs (q6w vs v) v,ins ts (q6w vs v) t):=by
      unfold q8t
      rw [if_neg (by omega),List.take_of_length_le (by rw [q6p _ _ _ hi]; omega),List.take_of_length_le (by rw [q6p _ _ _ (by omega)]; omega)]
     rw [e1]
     simp only [q1r.next0,q1r.round0,evz,Nat.reduceLT,Nat.lt_irrefl]
     rfl
section
variable {l:List Symbol} (ok:SigOk ⟨l⟩)
include ok
end
section
variable {l:List Symbol} (ok:SigOk ⟨l⟩) {rs:List Equation} (hr:∀ e∈rs,EqOk l e) (hn:rs.length≤12)
include ok hr hn
end
theorem q85 {l:List Symbol} {rs:List Equation} (h:q3p ⟨l⟩ rs=0):q2z ⟨l⟩=0∧SigOk ⟨l⟩∧rs.length≤12∧∀ e∈rs,EqOk l e:=by
 unfold q3p at h
 split at h
 · rename_i h1; exact absurd h h1
 rename_i h1
 have h1:q2z ⟨l⟩=0:=by simpa using h1
 unfold q96 at h
 split at h
 · rename_i h2; exact absurd h h2
 rename_i h2
 obtain ⟨q1,q2⟩:=qbp.1 (show q6d l rs=0 by simpa using h2)
 exact ⟨h1,(q7j _).1 h1,q1,q2⟩
theorem qes (l:List Int):(cells l).all T.scalar=true:=by
 rw [← q6z,List.all_eq_true]
 intro x hx
 obtain ⟨n,_,rfl⟩:=List.mem_map.1 hx
 rfl
theorem q2s (l:List Int) (h:l.length≤4294967296):Call F.q2s [slc l] (slc l):=by
 refine q0v rfl 0 ((q2s.ev _ _).trans ?_)
 have hb:Nat.ble ((0+(cells l).length)*8) (140737488355328*1)=true:=by
  rw [Nat.ble_eq,q0n,q3c]; omega
 rw [qes,hb]
 rfl
def eqOf (e:Entry):Equation:=⟨e.left,e.right⟩
section
variable (l:List Symbol) (z:Int) (tb:List (List Int)) (hs:l.length≤4294967296) (ht:sm 4294967296 tb)
include hs ht
end
theorem qg4 {l:List Symbol} {o:List Int} (h:q6o ⟨l⟩ o=0):q2z ⟨l⟩=0∧qea l o=0:=by
 unfold q6o at h
 by_cases h1:q2z ⟨l⟩=0
 · rw [if_neg (by simpa using h1)] at h; exact ⟨h1,h⟩
 · rw [if_pos (by simpa using h1)] at h; exact absurd h h1
section
variable {l:List Symbol} {o:List Int} (ok:SigOk ⟨l⟩) (hol:o.length≤1048576) (ho:∀ n:Int,0≤n→n < l.length→n∈o)
include ok hol ho
end
end Ev.Ty
end
section
namespace Ev.Ty
section
variable {α:Type} {lt:α→α→Bool} {S:α→Prop}
variable (h1:∀ a b c,S a→S b→S c→lt a b=true→lt b c=true→lt a c=true) (h2:∀ a b c,S a→S b→S c→lt a b=true→lt c b=false→lt a c=true) (h3:∀ a b,S a→S b→lt a b=true→lt b a=false)
include h1 h2 h3
variable (h4:∀ a b,S a→S b→a=b∨lt a b=true∨lt b a=true)
include h4
end
end Ev.Ty
end
section
namespace Ev.Ty
open Go Ev
open Enc (enc)
open Sm (sm)
set_option maxHeartbeats 1000000
def cmpV (l:List Symbol) (o a b:List Int):Int:=if a=b then 3 else if gt l o a b 0 0=true then 1 else if gt l o b a 0 0=true then 2 else 0
def cmpF (s:Signature) (o a b:List Int):Int:=if q6o s o=0 then if q8p s a=0 then q8p s b else q8p s a else q6o s o
theorem q72 {l:List Symbol} (h:q2z ⟨l⟩=0) (t:List Int):q8p ⟨l⟩ t=q3k l t:=by
 unfold q8p; rw [if_neg (by simpa using h)]
theorem qwq {l:List Symbol} {o a b:List Int} (h:cmpF ⟨l⟩ o a b=0):SigOk ⟨l⟩∧o.length≤1048576∧(∀ n:Int,0≤n→n < l.length→n∈o)∧TermOk l a∧TermOk l b:=by
 unfold cmpF at h
 by_cases h0:q6o ⟨l⟩ o=0
 · rw [if_pos h0] at h
   obtain ⟨h1,h2⟩:=qg4 h0
   rw [q72 h1,q72 h1] at h
   obtain ⟨p1,p2⟩:=qwc h2
   have ok:=q8j h1
   have hls:l.length≤6:=ok.le
   by_cases ha:q3k l a=0
   · rw [if_pos ha] at h
     exact ⟨ok,by omega,p2,(q79 l a).1 ha,(q79 l b).1 h⟩
   · rw [if_neg ha] at h; exact absurd h ha
 · rw [if_neg h0] at h; exact absurd h h0
section
variable {l:List Symbol} {o:List Int} (ok:SigOk ⟨l⟩) (hol:o.length≤1048576) (ho:∀ n:Int,0≤n→n < l.length→n∈o)
include ok hol ho
theorem q5y {a b:List Int} (ha:TermOk l a) (hb:TermOk l b):Call F.q5y [.rref [slc l] 0,slc o,slc a,slc b] (.int .i64 (cmpV l o a b)):=by
 have h1:=ha.le
 refine q0v rfl 0 ((q5y.ev _ _ _ _ _).trans ?_)
 simp only [evz,Nat.reduceLT,(q23 a b ⟨by omega,fun _ _=>trivial⟩).eq,(q6a ok ha hb hol ho).eq,(q6a ok hb ha hol ho).eq,cmpV]
 by_cases e:a=b
 · simp [e]
 · cases e1:gt l o a b 0 0
   · cases e2:gt l o b a 0 0 <;> simp [e]
   · simp [e]
end
section
variable {l:List Symbol} {o:List Int} (ok:SigOk ⟨l⟩) (hol:o.length≤1048576) (ho:∀ n:Int,0≤n→n < l.length→n∈o)
include ok hol ho
end
end Ev.Ty
end
section
namespace Ev.Ty
open Go Ev
open Tm
theorem qtl {r:Int→Int} {a:Int→Nat}:∀ (x:Tm) (q:Nat),x.ok a→q < x.flat.length→∃ (y:Tm) (C:Tm→Tm),y.ok a∧(∃ rest,x.flat.drop q=y.flat++rest) ∧
 (∀ u:Tm,u.ok a→(C u).ok a∧(C u).flat=x.flat.take q++u.flat++x.flat.drop (q+y.flat.length))∧∀ u v:Tm,G r u v→G r (C u) (C v):=by
 have here:∀ x:Tm,x.ok a→∃ (y:Tm) (C:Tm→Tm),y.ok a∧(∃ rest,x.flat.drop 0=y.flat++rest) ∧
  (∀ u:Tm,u.ok a→(C u).ok a∧(C u).flat=x.flat.take 0++u.flat++x.flat.drop (0+y.flat.length))∧∀ u v:Tm,G r u v→G r (C u) (C v):=fun x hx =>
  ⟨x,id,hx,⟨[],by simp⟩,fun u hu=>⟨hu,by simp⟩,fun u v h=>h⟩
 intro x
 induction x with
 | v n=>intro q hx hq; have:q=0:=by simp [Tm.flat] at hq; omega
        subst this; exact here _ hx
 | k n=>intro q hx hq; have:q=0:=by simp [Tm.flat] at hq; omega
        subst this; exact here _ hx
 | u n x ih =>
   intro q hx hq
   match q,hq with
   | 0,_=>exact here _ hx
   | q+1,hq =>
     obtain ⟨y,C,h1,⟨rest,h2⟩,h3,h4⟩:=ih q hx.2.2 (by simp only [Tm.flat,List.length_cons] at hq; omega)
     refine ⟨y,fun w => .u n (C w),h1,⟨rest,h2⟩,fun w hw=>⟨⟨hx.1,hx.2.1,(h3 w hw).1⟩,?_⟩,fun w v h=>G.ctx (s := .u n (C w)) (t := .u n (C v)) (A:=[]) (B:=[]) hx.1 rfl rfl rfl (h4 w v h)⟩
     show n::(C w).flat=(n::x.flat).take (q+1)++w.flat++(n::x.flat).drop (q+1+y.flat.length)
     rw [(h3 w hw).2,Nat.add_right_comm]
     rfl
 | b n x z ihx ihz =>
   intro q hx hq
   match q,hq with
   | 0,_=>exact here _ hx
   | q+1,hq =>
     simp only [Tm.flat,List.length_cons,List.length_append] at hq
     by_cases hl:q < x.flat.length
     · obtain ⟨y,C,h1,⟨rest,h2⟩,h3,h4⟩:=ihx q hx.2.2.1 hl
       have hy:q+y.flat.length≤x.flat.length:=by
        have:=congrArg List.length h2
        rw [List.length_drop,List.length_append] at this
        have:=y.flat_pos
        omega
       refine ⟨y,fun w => .b n (C w) z,h1,⟨rest++z.flat,?_⟩,fun w hw=>⟨⟨hx.1,hx.2.1,(h3 w hw).1,hx.2.2.2⟩,?_⟩,fun w v h=>G.ctx (s := .b n (C w) z) (t := .b n (C v) z) (A:=[]) (B:=[z]) hx.1 rfl rfl rfl (h4 w v h)⟩
       · show (x.flat++z.flat).drop q=_
         rw [List.drop_append_of_le_length (by omega),h2,List.append_assoc]
       · show n::((C w).flat++z.flat)=(n::(x.flat++z.flat)).take (q+1)++w.flat++(n::(x.flat++z.flat)).drop (q+1+y.flat.length)
         rw [(h3 w hw).2,Nat.add_right_comm]
         show n::(x.flat.take q++w.flat++x.flat.drop (q+y.flat.length)++z.flat)=n::((x.flat++z.flat).take q++w.flat++(x.flat++z.flat).drop (q+y.flat.length))
         rw [List.take_append_of_le_length (by omega),List.drop_append_of_le_length hy]
         simp
     · obtain ⟨y,C,h1,⟨rest,h2⟩,h3,h4⟩:=ihz (q - x.flat.length) hx.2.2.2 (by omega)
       refine ⟨y,fun w => .b n x (C w),h1,⟨rest,?_⟩,fun w hw=>⟨⟨hx.1,hx.2.1,hx.2.2.1,(h3 w hw).1⟩,?_⟩,fun w v h=>G.ctx (s := .b n x (C w)) (t := .b n x (C v)) (A:=[x]) (B:=[]) hx.1 rfl rfl rfl (h4 w v h)⟩
       · show (x.flat++z.flat).drop q=_
         rw [List.drop_append,List.drop_eq_nil_of_le (by omega),h2]
         rfl
       · show n::(x.flat++(C w).flat)=(n::(x.flat++z.flat)).take (q+1)++w.flat++(n::(x.flat++z.flat)).drop (q+1+y.flat.length)
         rw [(h3 w hw).2,Nat.add_right_comm]
         show n::(x.flat++(z.flat.take (q - x.flat.length)++w.flat++z.flat.drop (q - x.flat.length+y.flat.length)))=n::((x.flat++z.flat).take q++w.flat++(x.flat++z.flat).drop (q+y.flat.length))
         rw [List.take_append,List.drop_append,List.take_of_length_le (by omega:x.flat.length≤q),List.drop_eq_nil_of_le (by omega:x.flat.length≤q+y.flat.length),show q+y.flat.length - x.flat.length=q - x.flat.length+y.flat.length by omega]
         simp
section
variable {l:List Symbol} (ok:SigOk ⟨l⟩) {o:List Int} (ho:∀ n:Int,0≤n→n < l.length→n∈o)
noncomputable def qp8 (l:List Symbol) (t:List Int):Tm:=open Classical in if h:∃ x:Tm,x.ok (ar l)∧t=x.flat then h.choose else .v (-1)
noncomputable def subB (l:List Symbol) (vs:List Int) (ts:List (List Int)) (n:Int):Tm:=match q40 vs ts (-1 - n) with | some t=>qp8 l t | none => .v n
include ok
theorem qik {t:List Int} (h:TermOk l t):(qp8 l t).ok (ar l)∧t=(qp8 l t).flat:=by
 have e:∃ x:Tm,x.ok (ar l)∧t=x.flat:=h.tree ok
 unfold qp8
 rw [dif_pos e]
 exact e.choose_spec
theorem qrk {vs:List Int} {ts:List (List Int)} (h:BindOk vs ts∧∀ t∈ts,TermOk l t) (n:Int) (hn:n < 0):(subB l vs ts n).ok (ar l):=by
 unfold subB
 cases e:q40 vs ts (-1 - n) with
 | none=>exact hn
 | some t=>exact (qik ok (h.2 t (q5g e))).1
theorem q8l {vs:List Int} {ts:List (List Int)} (h:BindOk vs ts∧∀ t∈ts,TermOk l t):∀ x:Tm,x.ok (ar l)→q03 vs ts x.flat=(x.inst (subB l vs ts)).flat:=by
 have hb:=h
 have one:∀ n:Int,0≤n→(q40 vs ts (-1 - n)).getD [n]=[n]:=fun n hn=>by rw [qdq hb.1 (by omega)]; rfl
 intro x
 induction x with
 | v n =>
   intro _
   show [n].flatMap _=(subB l vs ts n).flat
   rw [List.flatMap_cons,List.flatMap_nil,List.append_nil]
   unfold subB
   cases e:q40 vs ts (-1 - n) with
   | none=>rfl
   | some t=>exact (qik ok (hb.2 t (q5g e))).2
 | k n =>
   intro hx
   show [n].flatMap _=[n]
   rw [List.flatMap_cons,List.flatMap_nil,List.append_nil,one n hx.1]
 | u n x ih =>
   intro hx
   show (n::x.flat).flatMap _=n::(x.inst (subB l vs ts)).flat
   rw [List.flatMap_cons,one n hx.1,← ih hx.2.2]
   rfl
 | b n x y ihx ihy =>
   intro hx
   show (n::(x.flat++y.flat)).flatMap _=n::((x.inst (subB l vs ts)).flat++(y.inst (subB l vs ts)).flat)
   rw [List.flatMap_cons,one n hx.1,← ihx hx.2.2.1,← ihy hx.2.2.2,List.flatMap_append]
   rfl
omit ok in
theorem qgf {t:List Int} {x:Tm} (hx:x.ok (ar l)) (e:t=x.flat) (hn:∀ n∈t,q5n l n=true) (hl:t.length≤24):TermOk l t:=by
 refine ⟨?_,hl,hn,?_⟩
 · rw [e]; exact x.flat_pos
 · have:=Tm.skip_flat (a:=ar l) (fun n hn=>q9k l hn) x [] 0 hx
   rw [e]; rwa [List.append_nil] at this
theorem applied_ok {vs:List Int} {ts:List (List Int)} (h:BindOk vs ts∧∀ t∈ts,TermOk l t) {a:List Int} (ha:TermOk l a) (hl:(q03 vs ts a).length≤24):TermOk l (q03 vs ts a):=by
 obtain ⟨x,hx,e⟩:=ha.tree ok
 refine qgf (inst_ok (qrk ok h) hx) (by rw [e]; exact q8l ok h x hx) (fun n hn => ?_) hl
 obtain ⟨m,hm,hn⟩:=List.mem_flatMap.1 hn
 cases eb:q40 vs ts (-1 - m) with
 | none=>rw [eb] at hn; rw [List.mem_singleton.1 hn]; exact ha.node m hm
 | some t=>rw [eb] at hn; exact (h.2 t (q5g eb)).node n hn
theorem qqz {t u:List Int} (ht:TermOk l t) (hu:TermOk l u) {p:Nat} (hp:p < t.length) (hl:(q4d l t p u).length≤24):TermOk l (q4d l t p u):=by
 obtain ⟨x,hx,ex⟩:=ht.tree ok
 obtain ⟨xu,hxu,exu⟩:=hu.tree ok
 obtain ⟨y,C,h1,⟨rest,h2⟩,h3,_⟩:=qtl (r:=fun n=>n) x p hx (by rw [← ex]; exact hp)
 have hat:At l t p y:=⟨h1,rest,by rw [ex]; exact h2⟩
 have he:=hat.facts.2.2.1
 have e:q4d l t p u=(C xu).flat:=by unfold q4d; rw [(h3 xu hxu).2,he,ex,exu]
 refine qgf (h3 xu hxu).1 e (fun n hn => ?_) hl
 unfold q4d at hn
 rcases List.mem_append.1 hn with hn | hn
 · rcases List.mem_append.1 hn with hn | hn
   · exact ht.node n (List.mem_of_mem_take hn)
   · exact hu.node n hn
 · exact ht.node n (List.mem_of_mem_drop hn)
include ho
end
end Ev.Ty
end
section
namespace Ev.Ty
open Go Ev
theorem qcn (x:Int) (vs:List Int) (t:List Int) (ts:List (List Int)) (v:Int):q40 (x::vs) (t::ts) v=if x=v then some t else q40 vs ts v:=by
 unfold q40 idx
 rw [List.findIdx?_cons]
 by_cases h:x=v
 · simp [h]
 · simp only [h,decide_false,Bool.false_eq_true,if_false]
   cases e:vs.findIdx? (fun y=>decide (y=v)) with
   | none=>simp
   | some i =>
     have h1:¬ ((i+1:Nat):Int) < 0:=by omega
     have h2:¬ ((i:Nat):Int) < 0:=by omega
     simp only [Option.map_some,h1,h2,if_false,Int.toNat_natCast,List.getElem?_cons_succ]
theorem qhi {v:Int} {t:List Int} (w:Int):∀ (i:Nat) (vs:List Int) (ts:List (List Int)),vs.length=ts.length→i≤vs.length→v∉vs→q40 (ins vs i v) (ins ts i t) w=if v=w then some t else q40 vs ts w
 | 0,vs,ts,_,_,_=>qcn v vs t ts w
 | i+1,[],ts,_,hi,_=>by simp at hi
 | i+1,x::vs,[],hl,_,_=>by simp at hl
 | i+1,x::vs,y::ts,hl,hi,hv=>by
   have hx:¬ v=x:=fun e=>hv (by rw [e]; exact List.mem_cons_self ..)
   have ih:=qhi (t:=t) w i vs ts (by simpa using hl) (by simpa using hi) (fun h=>hv (List.mem_cons_of_mem _ h))
   show q40 (x::ins vs i v) (y::ins ts i t) w=_
   rw [qcn,qcn,ih]
   by_cases h:x=w
   · rw [if_pos h,if_pos h,if_neg (fun e=>hx (by rw [e,h]))]
   · rw [if_neg h,if_neg h]
theorem qpg {b:Bnd} {v:Int} {t:List Int} (hl:b.1.length=b.2.length) (hv:v∉b.1) (w:Int):q40 (bput b v t).1 (bput b v t).2 w=if v=w then some t else q40 b.1 b.2 w :=
 qhi w _ _ _ hl (qd7 b.1 v) hv
theorem qne {l:List Symbol} {t:List Int} (ht:TermOk l t) {p:Nat} (hp:p < t.length):q4d l t p (q3e l t p)=t:=by
 unfold q4d
 rw [List.append_assoc,← (qbk ht hp).1,List.take_append_drop]
end Ev.Ty
end
section
namespace Ev.Ty
open Go Ev
section
variable {l:List Symbol} {rs:List Equation}
variable (hr:∀ e∈rs,EqOk l e)
include hr
end
section
variable {l:List Symbol} {rs:List Equation}
end
end Ev.Ty
end
section
namespace Ev.Ty
open Go Ev
open Enc (enc)
open Sm (sm)
def rise (n:Nat):List Int:=(List.range n).map fun (i:Nat)=>(i:Int)
theorem qrs (n:Nat):rise (n+1)=rise n++[(n:Int)]:=by simp [rise,List.range_succ]
theorem qak (n:Nat):(rise n).length=n:=by simp [rise]
theorem qqp {n:Nat} {S:Nat→Nat→List Int→R} {z:List Int→R} (step:∀ m k,k < n→S (m+1) k (rise k)=S m (k+1) (rise (k+1))) (stop:∀ m,S (m+1) n (rise n)=z (rise n)) {f:Nat} (hf:n < f) :
 S f 0 []=z (rise n):=by
 have:∀ m k,k≤n→n < m+k→S m k (rise k)=z (rise n):=by
  intro m
  induction m with
  | zero=>intros; omega
  | succ m ih =>
    intro k hk hm
    by_cases h:k < n
    · rw [step m k h]; exact ih (k+1) (by omega) (by omega)
    · obtain rfl:k=n:=by omega
      exact stop m
 exact this f 0 (by omega) (by omega)
theorem q2g (n:Nat) (hs:n≤1048576):Call F.q2g [.int .i64 n] (slc (rise n)):=by
 refine q0v rfl (n+1) ((q2g.ev _ _).trans ?_)
 refine qqp (n:=n) (S:=fun m k o=>q2g.at0 (n+1) m (q2g.st0 n (k:Nat) (cells o))) (z:=fun o=>some (slc o,[])) (fun m k h => ?_) (fun m => ?_) (by omega)
 · simp only [q2g.next0,q2g.round0,evz,Nat.reduceLT,h,q0n,qak,q3c,q2j,← qrs]
   rw [q0o (by omega),q1h (q3t (by omega))]
 · simp only [q2g.next0,q2g.round0,evz,Nat.reduceLT,Nat.lt_irrefl]
def lcg (s:Int):Int:=(227*s+1) % 65521
theorem qrh (s:Int):0≤lcg s∧lcg s≤65520:=by unfold lcg; omega
theorem qx7 {s:Int} (h:0≤s∧s≤65520):Int.tmod (IntKind.wrap .i64 (IntKind.wrap .i64 (227*s)+1)) 65521=lcg s:=by
 rw [q1z (x:=227*s) (by omega),q1z (by omega),Int.tmod_eq_emod_of_nonneg (by omega)]; rfl
def qh5 (z:Int):Nat→Int→List Int→Int × List Int
 | 0,s,t=>(s,t)
 | n+1,s,t=>qh5 z n (lcg s) (t++[lcg s % z])
theorem qnp (z:Int):∀ n s t,0≤s∧s≤65520→(0≤(qh5 z n s t).1∧(qh5 z n s t).1≤65520)∧(qh5 z n s t).2.length=t.length+n
 | 0,s,t,h=>⟨h,rfl⟩
 | n+1,s,t,h=>by
   have:=qnp z n (lcg s) (t++[lcg s % z]) (qrh s)
   refine ⟨this.1,this.2.trans ?_⟩
   simp; omega
theorem qpo {z:Int} {c:Nat} {S:Nat→Nat→Int→List Int→R} {y:Int→List Int→R}
 (step:∀ m j s t,j < c→0≤s∧s≤65520→t.length=j→S (m+1) j s t=S m (j+1) (lcg s) (t++[lcg s % z]))
 (stop:∀ m s t,0≤s∧s≤65520→t.length=c→S (m+1) c s t=y s t) {f:Nat} (hf:c < f) (s:Int) (hs:0≤s∧s≤65520) :
 S f 0 s []=y (qh5 z c s []).1 (qh5 z c s []).2:=by
 have:∀ n m j s t,j+n=c→n < m→0≤s∧s≤65520→t.length=j→S m j s t=y (qh5 z n s t).1 (qh5 z n s t).2:=by
  intro n
  induction n with
  | zero=>intro m j s t hj hm hs ht
          obtain ⟨m,rfl⟩:∃ q,m=q+1:=⟨m - 1,by omega⟩
          obtain rfl:j=c:=by omega
          exact stop m s t hs ht
  | succ n ih =>
    intro m j s t hj hm hs ht
    obtain ⟨m,rfl⟩:∃ q,m=q+1:=⟨m - 1,by omega⟩
    rw [step m j s t (by omega) hs ht]
    exact ih m (j+1) _ _ (by omega) (by omega) (qrh s) (by simp [ht])
 exact this c f 0 s [] (by omega) hf hs rfl
def qdm (z:Nat) (p:Int × List (List Int)) (x:Symbol):Int × List (List Int):=((qh5 z (z ^ x.arity.toNat) p.1 []).1,p.2++[(qh5 z (z ^ x.arity.toNat) p.1 []).2])
def q9x (s:Signature) (z seed:Int):AlgebraResult :=
 if q2z s=0 then if inR z 1 3=true∧inR seed 0 65520=true then ⟨0,⟨z,(s.symbols.foldl (qdm z.toNat) (seed,[])).2⟩⟩ else ⟨3,⟨0,[]⟩⟩ else ⟨q2z s,⟨0,[]⟩⟩
def tabI (k:Nat) (p:Int × List (List Int)):Prop:=(0≤p.1∧p.1≤65520)∧p.2.length=k∧∀ t∈p.2,t.length≤9
theorem qqh {z r:Nat} (hz:z≤3) (hr:r≤2):z ^ r≤9:=Nat.le_trans (Nat.pow_le_pow_left hz r) (Nat.le_trans (Nat.pow_le_pow_right (by omega) hr) (by decide))
theorem qjq {z:Nat} (hz:z≤3) {x:Symbol} (hx:0≤x.arity∧x.arity≤2) {k:Nat} {p:Int × List (List Int)} (h:tabI k p):tabI (k+1) (qdm z p x):=by
 obtain ⟨h1,h2,h3⟩:=h
 have hd:=qnp z (z ^ x.arity.toNat) p.1 [] h1
 have h9:=qqh (r:=x.arity.toNat) hz (by omega)
 refine ⟨hd.1,by simp [qdm,h2],fun t ht => ?_⟩
 rcases List.mem_append.1 ht with h | h
 · exact h3 t h
 · rw [List.mem_singleton] at h
   subst h
   rw [hd.2]; simp; omega
theorem qjk {seed:Int} (h:0≤seed∧seed≤65520):tabI 0 (seed,[]):=⟨h,rfl,by simp⟩
theorem qjg (s:Signature) (z seed:Int) (hs:sm 1048576 s):sm 67108864 (q9x s z seed):=by
 unfold q9x
 have h:=hs.1
 split
 · rename_i h0
   split
   · rename_i h1
     have hz:=q6y.1 h1.1
     have hz3:z.toNat≤3:=by omega
     have hi:=qo1 (l:=s.symbols) (g:=qdm z.toNat) tabI (fun k p hk hp=>qjq hz3 (((q7j s).1 h0).arity _ (List.getElem_mem hk)) hp) (seed,[]) (qjk (q6y.1 h1.2))
     exact ⟨Nat.le_trans (Nat.le_of_eq hi.2.1) (by omega),fun t ht=>⟨by have:=hi.2.2 t ht; omega,fun _ _=>trivial⟩⟩
   · exact ⟨by simp,by simp⟩
 · exact ⟨by simp,by simp⟩
theorem q0s (l:List Symbol) (ok:SigOk ⟨l⟩) (z:Nat) (seed:Int) (hz:1≤z∧z≤3) (hseed:0≤seed∧seed≤65520) :
 Call F.q0s [.rref [slc l] 0,.int .i64 z,.int .i64 seed] (.agg [.int .i64 z,slc (l.foldl (qdm z) (seed,[])).2]):=by
 refine q0v rfl (l.length+10) ((q0s.ev _ _ _ _).trans ?_)
 have hle:l.length≤6:=ok.le
 have hz3:z≤3:=hz.2
 show q0s.at0 (l.length+10) (l.length+10) (q0s.st0 (cells l) z seed 0 0 z [])=_
 have key:=qgn (l:=l) (f:=l.length+10) (S:=fun m k (p:Int × List (List Int))=>q0s.at0 (l.length+10) m (q0s.st0 (cells l) z p.1 (k:Nat) 0 z (cells p.2))) (g:=qdm z) (z:=fun (p:Int × List (List Int))=>some (.agg [.int .i64 z,slc p.2],[])) tabI (fun m k p h hp => ?_) (fun k p h hp=>qjq hz3 (ok.arity _ (List.getElem_mem h)) hp) (fun m p hp => ?_) (seed,[]) (qjk hseed) (by omega)
 · exact key
 · have hx:=ok.arity _ (List.getElem_mem h)
   have h9:=qqh (z:=z) (r:=l[k].arity.toNat) (by omega) (by omega)
   have hpw:=(q4a z l[k].arity.toNat (by omega) (by omega)).eq
   rw [Int.toNat_of_nonneg hx.1] at hpw
   simp only [q0s.next0,q0s.round0,evz,Nat.reduceLT,h,List.getElem?_eq_getElem,q2a,hpw]
   refine (qpo (z:=z) (c:=z ^ l[k].arity.toNat) (S:=fun m' j s t=>q0s.at2 (l.length+10) (q0s.at0 (l.length+10) m) m' (q0s.st2 (cells l) z s (k:Nat) (((z ^ l[k].arity.toNat:Nat):Int) - (j:Nat)) 0 z (cells p.2) (cells t)))
    (y:=fun s t=>q0s.at0 (l.length+10) m (q0s.st0 (cells l) z s ((k+1:Nat):Int) 0 z (cells (p.2++[t])))) (fun m' j s t hj hs ht => ?_) (fun m' s t hs ht => ?_) (by omega) p.1 hp.1)
   · have hz0:¬ ((z:Int)=0):=by omega
     have hj0:((z ^ l[k].arity.toNat:Nat):Int) - (j:Nat) > 0:=by omega
     have hj1:IntKind.wrap .i64 (((z ^ l[k].arity.toNat:Nat):Int) - (j:Nat) - 1)=((z ^ l[k].arity.toNat:Nat):Int) - ((j+1:Nat):Int):=by rw [q1z (by omega)]; omega
     simp only [q0s.next2,q0s.round2,evz,Nat.reduceLT,hj0,hj1,hz0,qx7 hs,q0n,ht]
     rw [q1h (q3t (by omega)),Int.tmod_eq_emod_of_nonneg (qrh s).1,q2j]
   · have:=hp.2.1
     have hj0:¬ (((z ^ l[k].arity.toNat:Nat):Int) - ((z ^ l[k].arity.toNat:Nat):Int) > 0):=by omega
     simp only [q0s.next2,q0s.round2,evz,Nat.reduceLT,hj0,q0n,hp.2.1]
     rw [q1h (q3t (by omega)),q74,q0o (by omega)]
 · simp only [q0s.next0,q0s.round0,evz,Nat.reduceLT,Nat.lt_irrefl]
theorem q5v (s:Signature) (z seed:Int) (hs:sm 1048576 s):Call F.q5v [.agg [slc s.symbols],.int .i64 z,.int .i64 seed] (.agg (enc (q9x s z seed))):=by
 obtain ⟨l⟩:=s
 have hl:l.length≤1048576:=hs.1
 refine q0v rfl 0 ((q5v.ev _ _ _ _).trans ?_)
 simp only [evz,Nat.reduceLT,(q00 l (by omega)).eq,(q47 _ _ _).eq,q9x]
 by_cases h0:q2z ⟨l⟩=0
 case neg=>simp only [h0,evz,Nat.reduceLT,q67,q4q,Bool.not_false]
 simp only [h0,evz,Nat.reduceLT,Bool.not_true]
 cases h1:inR z 1 3 with
 | false=>simp only [evz,Nat.reduceLT,q67,q4q,Bool.not_false,false_and,Bool.false_eq_true]
 | true =>
   cases h2:inR seed 0 65520 with
   | false=>simp only [evz,Nat.reduceLT,q67,q4q,Bool.not_false,and_false,Bool.false_eq_true,Bool.not_true]
   | true =>
     have hz:=q6y.1 h1
     have hseed:=q6y.1 h2
     obtain ⟨z,rfl⟩:∃ n:Nat,z=n:=⟨z.toNat,by omega⟩
     have ok:=(q7j _).1 h0
     simp only [evz,Nat.reduceLT,Bool.not_true,and_self,(q0s l ok z seed (by omega) hseed).eq,q67]
end Ev.Ty
end
section
namespace Ev.Ty
open Go Ev
theorem qnz {z:Nat} (hz:0 < z):∀ (k:Nat) (vs:List Int),vs.length=k→(∀ n∈vs,0≤n∧n≤(z:Int) - 1)→∃ n,n < z ^ k∧digs z k n=vs
 | 0,[],_,_=>⟨0,by simp,rfl⟩
 | 0,x::vs,h,_=>by simp at h
 | k+1,[],h,_=>by simp at h
 | k+1,x::vs,h,hr=>by
   obtain ⟨n,hn,e⟩:=qnz hz k vs (by simpa using h) (fun n hn=>hr n (List.mem_cons_of_mem _ hn))
   have hx:=hr x (List.mem_cons_self ..)
   have hmod:(x.toNat+z*n) % z=x.toNat:=by rw [Nat.add_mul_mod_self_left]; exact Nat.mod_eq_of_lt (by omega)
   have hdiv:(x.toNat+z*n) / z=n:=by rw [Nat.add_mul_div_left _ _ hz,Nat.div_eq_of_lt (by omega),Nat.zero_add]
   refine ⟨x.toNat+z*n,?_,?_⟩
   · rw [Nat.pow_succ]
     have:z*n+z≤z*z ^ k:=by rw [← Nat.mul_succ]; exact Nat.mul_le_mul_left _ hn
     rw [Nat.mul_comm (z ^ k)]; omega
   · rw [digs,hmod,hdiv,e,show ((x.toNat:Nat):Int)=x by omega]
theorem qpw {l:List Symbol} {z:Nat} {tb:List (List Int)} {e:Equation} (hz:0 < z) (h:q6u l z tb e=true) {vs:List Int} (h6:vs.length=6) (hr:∀ n∈vs,0≤n∧n≤(z:Int) - 1) :
 (q3v l e.left).eval z tb vs=(q3v l e.right).eval z tb vs:=by
 obtain ⟨n,hn,rfl⟩:=qnz hz 6 vs h6 hr
 unfold q6u at h
 rw [Bool.not_eq_true',List.any_eq_false] at h
 have:=h n (List.mem_range.2 hn)
 unfold qc9 at this
 simpa using this
theorem qoo {l:List Symbol} {z:Nat} {tb:List (List Int)} {e:Equation} (hz:0 < z) (h:∀ vs:List Int,vs.length=6→(∀ n∈vs,0≤n∧n≤(z:Int) - 1)→(q3v l e.left).eval z tb vs=(q3v l e.right).eval z tb vs):q6u l z tb e=true:=by
 unfold q6u
 rw [Bool.not_eq_true',List.any_eq_false]
 intro n _
 unfold qc9
 rw [decide_eq_true_iff]
 intro hne
 exact hne (h _ (qay z 6 n) (qc7 hz 6 n))
theorem q9a {z:Int} {tb:List (List Int)} {vs vs':List Int} {σ:Int→Tm}:∀ x:Tm,(∀ n∈x.flat,n < 0→vs'.getD (-1 - n).toNat 0=(σ n).eval z tb vs)→(a:Int→Nat)→x.ok a→(x.inst σ).eval z tb vs=x.eval z tb vs'
 | .v n,h,a,hx=>(h n (List.mem_singleton.2 rfl) hx).symm
 | .k n,h,a,hx=>rfl
 | .u n x,h,a,hx=>by
   show (tb.getD n.toNat []).getD ((x.inst σ).eval z tb vs).toNat 0=_
   rw [q9a x (fun m hm=>h m (List.mem_cons_of_mem _ hm)) a hx.2.2]
   rfl
 | .b n x y,h,a,hx=>by
   show (tb.getD n.toNat []).getD ((x.inst σ).eval z tb vs*z+(y.inst σ).eval z tb vs).toNat 0=_
   rw [q9a x (fun m hm=>h m (List.mem_cons_of_mem _ (List.mem_append_left _ hm))) a hx.2.2.1,q9a y (fun m hm=>h m (List.mem_cons_of_mem _ (List.mem_append_right _ hm))) a hx.2.2.2]
   rfl
theorem qph {z:Int} {tb:List (List Int)} {vs:List Int} {a:Int→Nat}:∀ (x:Tm) (q:Nat),x.ok a→q < x.flat.length→∃ (y:Tm) (C:Tm→Tm),y.ok a∧(∃ rest,x.flat.drop q=y.flat++rest) ∧
 (∀ u:Tm,u.ok a→(C u).ok a∧(C u).flat=x.flat.take q++u.flat++x.flat.drop (q+y.flat.length))∧∀ u v:Tm,u.eval z tb vs=v.eval z tb vs→(C u).eval z tb vs=(C v).eval z tb vs:=by
 have here:∀ x:Tm,x.ok a→∃ (y:Tm) (C:Tm→Tm),y.ok a∧(∃ rest,x.flat.drop 0=y.flat++rest) ∧
  (∀ u:Tm,u.ok a→(C u).ok a∧(C u).flat=x.flat.take 0++u.flat++x.flat.drop (0+y.flat.length))∧∀ u v:Tm,u.eval z tb vs=v.eval z tb vs→(C u).eval z tb vs=(C v).eval z tb vs:=fun x hx =>
  ⟨x,id,hx,⟨[],by simp⟩,fun u hu=>⟨hu,by simp⟩,fun u v h=>h⟩
 intro x
 induction x with
 | v n=>intro q hx hq; have:q=0:=by simp [Tm.flat] at hq; omega
        subst this; exact here _ hx
 | k n=>intro q hx hq; have:q=0:=by simp [Tm.flat] at hq; omega
        subst this; exact here _ hx
 | u n x ih =>
   intro q hx hq
   match q,hq with
   | 0,_=>exact here _ hx
   | q+1,hq =>
     obtain ⟨y,C,h1,⟨rest,h2⟩,h3,h4⟩:=ih q hx.2.2 (by simp only [Tm.flat,List.length_cons] at hq; omega)
     refine ⟨y,fun w => .u n (C w),h1,⟨rest,h2⟩,fun w hw=>⟨⟨hx.1,hx.2.1,(h3 w hw).1⟩,?_⟩,fun w v h => ?_⟩
     · show n::(C w).flat=(n::x.flat).take (q+1)++w.flat++(n::x.flat).drop (q+1+y.flat.length)
       rw [(h3 w hw).2,Nat.add_right_comm]
       rfl
     · show (tb.getD n.toNat []).getD ((C w).eval z tb vs).toNat 0=(tb.getD n.toNat []).getD ((C v).eval z tb vs).toNat 0
       rw [h4 w v h]
 | b n x w0 ihx ihz =>
   intro q hx hq
   match q,hq with
   | 0,_=>exact here _ hx
   | q+1,hq =>
     simp only [Tm.flat,List.length_cons,List.length_append] at hq
     by_cases hl:q < x.flat.length
     · obtain ⟨y,C,h1,⟨rest,h2⟩,h3,h4⟩:=ihx q hx.2.2.1 hl
       have hy:q+y.flat.length≤x.flat.length:=by
        have:=congrArg List.length h2
        rw [List.length_drop,List.length_append] at this
        have:=y.flat_pos
        omega
       refine ⟨y,fun w => .b n (C w) w0,h1,⟨rest++w0.flat,?_⟩,fun w hw=>⟨⟨hx.1,hx.2.1,(h3 w hw).1,hx.2.2.2⟩,?_⟩,fun w v h => ?_⟩
       · show (x.flat++w0.flat).drop q=_
         rw [List.drop_append_of_le_length (by omega),h2,List.append_assoc]
       · show n::((C w).flat++w0.flat)=(n::(x.flat++w0.flat)).take (q+1)++w.flat++(n::(x.flat++w0.flat)).drop (q+1+y.flat.length)
         rw [(h3 w hw).2,Nat.add_right_comm]
         show n::(x.flat.take q++w.flat++x.flat.drop (q+y.flat.length)++w0.flat)=n::((x.flat++w0.flat).take q++w.flat++(x.flat++w0.flat).drop (q+y.flat.length))
         rw [List.take_append_of_le_length (by omega),List.drop_append_of_le_length hy]
         simp
       · show (tb.getD n.toNat []).getD ((C w).eval z tb vs*z+w0.eval z tb vs).toNat 0=(tb.getD n.toNat []).getD ((C v).eval z tb vs*z+w0.eval z tb vs).toNat 0
         rw [h4 w v h]
     · obtain ⟨y,C,h1,⟨rest,h2⟩,h3,h4⟩:=ihz (q - x.flat.length) hx.2.2.2 (by omega)
       refine ⟨y,fun w => .b n x (C w),h1,⟨rest,?_⟩,fun w hw=>⟨⟨hx.1,hx.2.1,hx.2.2.1,(h3 w hw).1⟩,?_⟩,fun w v h => ?_⟩
       · show (x.flat++w0.flat).drop q=_
         rw [List.drop_append,List.drop_eq_nil_of_le (by omega),h2]
         rfl
       · show n::(x.flat++(C w).flat)=(n::(x.flat++w0.flat)).take (q+1)++w.flat++(n::(x.flat++w0.flat)).drop (q+1+y.flat.length)
         rw [(h3 w hw).2,Nat.add_right_comm]
         show n::(x.flat++(w0.flat.take (q - x.flat.length)++w.flat++w0.flat.drop (q - x.flat.length+y.flat.length)))=n::((x.flat++w0.flat).take q++w.flat++(x.flat++w0.flat).drop (q+y.flat.length))
         rw [List.take_append,List.drop_append,List.take_of_length_le (by omega:x.flat.length≤q),List.drop_eq_nil_of_le (by omega:x.flat.length≤q+y.flat.length),show q+y.flat.length - x.flat.length=q - x.flat.length+y.flat.length by omega]
         simp
       · show (tb.getD n.toNat []).getD (x.eval z tb vs*z+(C w).eval z tb vs).toNat 0=(tb.getD n.toNat []).getD (x.eval z tb vs*z+(C v).eval z tb vs).toNat 0
         rw [h4 w v h]
section
variable {l:List Symbol} (ok:SigOk ⟨l⟩)
include ok
theorem q99 {t:List Int} {x:Tm} (ht:TermOk l t) (hx:x.ok (ar l)) (e:t=x.flat):q3v l t=x:=by
 obtain ⟨h1,h2⟩:=q43 ok ht
 exact (qj2 h1 hx).1 (h2.symm.trans e)
theorem qty {t:List Int} (ht:TermOk l t):qp8 l t=q3v l t:=by
 obtain ⟨h1,h2⟩:=qik ok ht
 exact (q99 ok ht h1 h2).symm
end
end Ev.Ty
end
section
namespace Ev.Ty
open Go Ev
open Enc (enc)
open Sm (sm)
def Free (b:Bnd) (t:List Int):Prop:=∀ n∈t,(-1 - n)∉b.1
theorem q90 {vs:List Int} {ts:List (List Int)} {v:Int} (h:v∉vs):q40 vs ts v=none:=by
 unfold q40
 rcases q7m (fun x:Int=>decide (x=v)) vs with ⟨h1,_⟩ | ⟨i,hi,h1,hy,_⟩
 · rw [if_pos (by omega)]
 · have:vs[i]=v:=by simpa using hy
   exact absurd (this ▸ List.getElem_mem hi) h
theorem applied_free {b:Bnd}:∀ {t:List Int},Free b t→q03 b.1 b.2 t=t
 | [],_=>rfl
 | n::t,h=>by
   have ih:=applied_free (b:=b) (t:=t) fun m hm=>h m (List.mem_cons_of_mem _ hm)
   have e:q03 b.1 b.2 (n::t)=(q40 b.1 b.2 (-1 - n)).getD [n]++q03 b.1 b.2 t:=by simp [q03]
   rw [e,q90 (h n (by simp)),ih]; rfl
theorem qdj {vs:List Int} {ts:List (List Int)} {P:Int→Prop} (ht:∀ x∈ts,∀ n∈x,P n) {t:List Int} (h:∀ n∈t,q40 vs ts (-1 - n)=none→P n):∀ n∈q03 vs ts t,P n:=fun n hn=>by
 unfold q03 at hn
 obtain ⟨m,hm,hn⟩:=List.mem_flatMap.1 hn
 cases ho:q40 vs ts (-1 - m) with
 | none=>rw [ho] at hn; rw [List.mem_singleton.1 hn]; exact h m hm ho
 | some o=>rw [ho] at hn; exact ht o (q5g ho) n hn
structure UB (l:List Symbol) (b:Bnd):Prop where
 mb:MB l b 12
 nd:b.1.Nodup
 free:∀ t∈b.2,Free b t
theorem UB.nil (l:List Symbol):UB l ([],[]):=⟨(MB.nil l).up (by omega),List.nodup_nil,by simp⟩
theorem UB.le {l:List Symbol} {b:Bnd} (h:UB l b):b.1.length≤12:=h.mb.le
theorem UB.applied_free {l:List Symbol} {b:Bnd} (h:UB l b) (t:List Int):Free b (q03 b.1 b.2 t):=qdj h.free fun n _ hn=>qmm h.mb.len hn
theorem UB.applied_ok {l:List Symbol} {b:Bnd} (h:UB l b) {t:List Int} (ht:TermOk l t) (hl:(q03 b.1 b.2 t).length≤24):TermOk l (q03 b.1 b.2 t):=by
 have hs:=qb9 h.mb (by omega) t [] 1 ht.skip
 rw [List.append_nil] at hs
 refine ⟨?_,hl,qei h.mb ht.node,hs⟩
 rcases Nat.eq_zero_or_pos (q03 b.1 b.2 t).length with h0 | h0
 · rw [List.eq_nil_of_length_eq_zero h0] at hs; cases hs
 · exact h0
def one (v:Int) (t:List Int):Bnd:=([v],[t])
def q56 (b:Bnd) (v:Int) (t:List Int):Option Bnd :=
 if (b.2.any fun x=>decide (24 < (q03 [v] [t] x).length))=true then none else some (bput (b.1,b.2.map (q03 [v] [t])) v t)
theorem qe0 (v:Int) (t:List Int) (w:Int):q40 [v] [t] w=if v=w then some t else none:=by
 by_cases h:v=w
 · subst h; simp [q40,idx]
 · rw [if_neg h]; exact q90 (by simpa using fun e=>h e.symm)
theorem qsg {l:List Symbol} {v:Int} (hv:0≤v∧v≤11) {t:List Int} (ht:TermOk l t):MB l (one v t) 1:=⟨rfl,Nat.le_refl _,fun x hx=>by rw [List.mem_singleton.1 hx]; exact hv,fun x hx=>by rw [List.mem_singleton.1 hx]; exact ht⟩
theorem qrn {l:List Int} {i:Nat} {x:Int} (h:l.Nodup) (hx:x∉l):(ins l i x).Nodup:=by
 unfold ins
 have hp:(l.take i++x::l.drop i).Perm (x::l):=by
  refine List.perm_middle.trans ?_
  rw [List.take_append_drop]
 exact hp.nodup_iff.2 (List.nodup_cons.2 ⟨hx,h⟩)
theorem qmz {l:List Int} {i:Nat} {x y:Int}:y∈ins l i x↔y=x∨y∈l:=by
 unfold ins
 constructor
 · intro h
   rcases List.mem_append.1 h with h | h
   · exact .inr (List.mem_of_mem_take h)
   · rcases List.mem_cons.1 h with h | h
     · exact .inl h
     · exact .inr (List.mem_of_mem_drop h)
 · rintro (rfl | h)
   · simp
   · rw [← List.take_append_drop i l,List.mem_append] at h
     rcases h with h | h
     · exact List.mem_append_left _ h
     · exact List.mem_append_right _ (List.mem_cons_of_mem _ h)
theorem qqv {vs:List Int} (h:vs.Nodup) (hv:∀ v∈vs,0≤v∧v≤11):vs.length≤12:=qo2 12 vs h fun v hm=>by have:=hv v hm; omega
theorem qe3 {l:List Symbol} {b:Bnd} (h:UB l b) {v:Int} (hv:0≤v∧v≤11) (hnb:v∉b.1) {t:List Int} (ht:TermOk l t) (hf:Free b t) (hvt:(-1 - v)∉t) {b':Bnd} (hb:q56 b v t=some b') :
 UB l b'∧b'.1.length=b.1.length+1:=by
 unfold q56 at hb
 split at hb
 · cases hb
 rename_i hany
 cases hb
 have hi:=qd7 b.1 v
 have hlen:=h.mb.len
 have hmem:∀ w,w∈(bput (b.1,b.2.map (q03 [v] [t])) v t).1↔w=v∨w∈b.1:=fun w=>qmz
 have hnd:(bput (b.1,b.2.map (q03 [v] [t])) v t).1.Nodup:=qrn h.nd hnb
 have hvar:∀ w∈(bput (b.1,b.2.map (q03 [v] [t])) v t).1,0≤w∧w≤11:=fun w hw=>by
  rcases (hmem w).1 hw with rfl | hw
  · exact hv
  · exact h.mb.var w hw
 have hl1:(bput (b.1,b.2.map (q03 [v] [t])) v t).1.length=b.1.length+1:=q6p _ _ _ hi
 have hone:=qsg hv ht
 have tm:∀ x∈(bput (b.1,b.2.map (q03 [v] [t])) v t).2,TermOk l x∧Free (bput (b.1,b.2.map (q03 [v] [t])) v t) x:=fun x hx=>by
  rcases qlh hx with rfl | hx
  · refine ⟨ht,fun n hn hm => ?_⟩
    rcases (hmem _).1 hm with e | hm
    · exact hvt (by have:n = -1 - v:=by omega
                    exact this ▸ hn)
    · exact hf n hn hm
  · obtain ⟨y,hy,rfl⟩:=List.mem_map.1 hx
    have hyo:=h.mb.tm y hy
    have hle:(q03 [v] [t] y).length≤24:=by
     rcases Nat.lt_or_ge 24 (q03 [v] [t] y).length with h24 | h24
     · exact absurd (List.any_eq_true.2 ⟨y,hy,decide_eq_true h24⟩) hany
     · exact h24
    refine ⟨?_,?_⟩
    · have hs:=qb9 hone (by omega) y [] 1 hyo.skip
      rw [List.append_nil] at hs
      refine ⟨?_,hle,qei hone hyo.node,hs⟩
      rcases Nat.eq_zero_or_pos (q03 [v] [t] y).length with h0 | h0
      · have hs:skip (ar l) 1 (q03 [v] [t] y)=some []:=hs
        rw [List.eq_nil_of_length_eq_zero h0] at hs; cases hs
      · exact h0
    · refine qdj (P:=fun n=>(-1 - n)∉(bput (b.1,b.2.map (q03 [v] [t])) v t).1) (fun z hz n hn hm => ?_) (fun n hn hno hm => ?_)
      · rw [List.mem_singleton.1 hz] at hn
        rcases (hmem _).1 hm with e | hm
        · exact hvt (by have:n = -1 - v:=by omega
                        exact this ▸ hn)
        · exact hf n hn hm
      · rcases (hmem _).1 hm with e | hm
        · rw [qe0,if_pos e.symm] at hno; cases hno
        · exact h.free y hy n hn hm
 refine ⟨⟨⟨?_,?_,hvar,fun x hx=>(tm x hx).1⟩,hnd,fun x hx=>(tm x hx).2⟩,hl1⟩
 · rw [hl1]
   show _=(ins (b.2.map (q03 [v] [t])) (q6w b.1 v) t).length
   rw [q6p _ _ _ (by simp; omega)]; simp; omega
 · exact qqv hnd hvar
abbrev Pr:=Equation
def q61 (l:List Symbol) (x y:List Int):List Pr:=((q36 l x 0).zip (q36 l y 0)).map fun p=>⟨q3e l x p.1,q3e l y p.2⟩
def q7k (b:Bnd) (ps:List Pr):Nat:=(ps.map fun p=>(q03 b.1 b.2 p.left).length+(q03 b.1 b.2 p.right).length).sum
theorem qhf {l:List Symbol} {t:List Int} (ht:TermOk l t):∀ {n p:Nat} {r:List Int},skip (ar l) n (t.drop p)=some r→((q66 l t n p).map fun q=>(q3e l t q).length).sum+r.length=t.length - p
 | 0,p,r,h=>by
   rw [q3l] at h
   rw [← Option.some.inj h]
   simp [q66]
 | n+1,p,r,h=>by
   obtain ⟨h1,h2,h3,h4⟩:=qc6 h
   have ih:=qhf ht h2
   have hs:=(qbk ht h1).2.1
   rw [q66,List.map_cons,List.sum_cons]
   omega
theorem qny {l:List Symbol} {t:List Int} (ht:TermOk l t):((q36 l t 0).map fun q=>(q3e l t q).length).sum+1=t.length:=by
 have hp:=ht.pos
 obtain ⟨r,hr⟩:=qaa ht (p:=0) (by omega)
 have hd:t.getD 0 0=t[0]:=q7p (by omega)
 have h:=qhf ht hr
 have hw:=ht.skip
 have e:t=t[0]::t.drop 1:=by
  have:=List.drop_eq_getElem_cons (l:=t) (i:=0) (by omega)
  rwa [List.drop_zero] at this
 rw [e,skip,Nat.zero_add] at hw
 rw [Nat.zero_add,hw] at hr
 have:r=[]:=(Option.some.inj hr).symm
 subst this
 unfold q36
 rw [hd]
 simp at h ⊢
 omega
theorem qqx {α β:Type} (f:α→Nat) (g:β→Nat):∀ (A:List α) (B:List β),A.length=B.length→((A.zip B).map fun p=>f p.1+g p.2).sum=(A.map f).sum+(B.map g).sum
 | [],[],_=>rfl
 | a::A,b::B,h=>by
   have ih:=qqx f g A B (by simpa using h)
   simp only [List.zip_cons_cons,List.map_cons,List.sum_cons] at ih ⊢
   omega
 | [],_::_,h=>by simp at h
 | _::_,[],h=>by simp at h
theorem ql9 {l:List Symbol} {t:List Int} {p:Nat}:∀ n∈q3e l t p,n∈t:=fun n hn=>List.mem_of_mem_take (List.mem_of_mem_drop hn)
theorem q59 {l:List Symbol} {b:Bnd} {x y:List Int} (hx:TermOk l x) (hy:TermOk l y) (fx:Free b x) (fy:Free b y) (he:x.getD 0 0=y.getD 0 0):q7k b (q61 l x y)+2=x.length+y.length:=by
 have e:(q61 l x y).map (fun p=>(q03 b.1 b.2 p.left).length+(q03 b.1 b.2 p.right).length)=((q36 l x 0).zip (q36 l y 0)).map fun p=>(q3e l x p.1).length+(q3e l y p.2).length:=by
  unfold q61
  rw [List.map_map]
  refine List.map_congr_left fun p hp => ?_
  show (q03 b.1 b.2 (q3e l x p.1)).length+(q03 b.1 b.2 (q3e l y p.2)).length=_
  rw [applied_free fun n hn=>fx n (ql9 n hn),applied_free fun n hn=>fy n (ql9 n hn)]
 have hl:(q36 l x 0).length=(q36 l y 0).length:=by unfold q36; rw [q6q,q6q,he]
 unfold q7k
 rw [e,qqx (fun p=>(q3e l x p).length) (fun q=>(q3e l y q).length) _ _ hl]
 have:=qny hx
 have:=qny hy
 omega
theorem qlm {l:List Symbol} {x y:List Int} (hx:TermOk l x) (hy:TermOk l y):∀ p∈q61 l x y,TermOk l p.left∧TermOk l p.right:=fun p hp=>by
 unfold q61 at hp
 obtain ⟨q,hq,rfl⟩:=List.mem_map.1 hp
 have h1:=q5h hx (p:=0) (by have:=hx.pos; omega) (List.of_mem_zip hq).1
 have h2:=q5h hy (p:=0) (by have:=hy.pos; omega) (List.of_mem_zip hq).2
 exact ⟨qag hx h1.2,qag hy h2.2⟩
def unif (l:List Symbol):Nat→Bnd→List Pr→Option (Bnd ⊕ Int)
 | 0,_,_=>none
 | _+1,b,[]=>some (.inl b)
 | n+1,b,p::ps =>
   if 24 < (q03 b.1 b.2 p.left).length∨24 < (q03 b.1 b.2 p.right).length then some (.inr 2)
   else if q03 b.1 b.2 p.left=q03 b.1 b.2 p.right then unif l n b ps
   else if (q03 b.1 b.2 p.left).getD 0 0 < 0 then
    if (q03 b.1 b.2 p.left).getD 0 0∈q03 b.1 b.2 p.right then some (.inr 4) else match q56 b (-1 - (q03 b.1 b.2 p.left).getD 0 0) (q03 b.1 b.2 p.right) with
     | none=>some (.inr 2)
     | some b'=>unif l n b' ps
   else if (q03 b.1 b.2 p.right).getD 0 0 < 0 then
    if (q03 b.1 b.2 p.right).getD 0 0∈q03 b.1 b.2 p.left then some (.inr 4) else match q56 b (-1 - (q03 b.1 b.2 p.right).getD 0 0) (q03 b.1 b.2 p.left) with
     | none=>some (.inr 2)
     | some b'=>unif l n b' ps
   else if (q03 b.1 b.2 p.left).getD 0 0≠(q03 b.1 b.2 p.right).getD 0 0 then some (.inr 4)
   else unif l n b (q61 l (q03 b.1 b.2 p.left) (q03 b.1 b.2 p.right)++ps)
theorem qfa {l:List Symbol}:∀ {n m:Nat} {b:Bnd} {ps:List Pr} {r:Bnd ⊕ Int},unif l n b ps=some r→n≤m→unif l m b ps=some r
 | 0,m,b,ps,r,h,hm=>by cases h
 | n+1,m,b,ps,r,h,hm=>by
   obtain ⟨m,rfl⟩:∃ q,m=q+1:=⟨m - 1,by omega⟩
   have ih:∀ {b:Bnd} {ps:List Pr} {r:Bnd ⊕ Int},unif l n b ps=some r→unif l m b ps=some r:=fun h=>qfa h (by omega)
   cases ps with
   | nil=>exact h
   | cons p ps =>
     rw [unif] at h ⊢
     split at h
     · rename_i c; rw [if_pos c]; exact h
     rename_i c
     rw [if_neg c]
     split at h
     · rename_i c; rw [if_pos c]; exact ih h
     rename_i c
     rw [if_neg c]
     split at h
     · rename_i c
       rw [if_pos c]
       split at h
       · rename_i c; rw [if_pos c]; exact h
       rename_i c
       rw [if_neg c]
       split at h
       · exact h
       · exact ih h
     rename_i c
     rw [if_neg c]
     split at h
     · rename_i c
       rw [if_pos c]
       split at h
       · rename_i c; rw [if_pos c]; exact h
       rename_i c
       rw [if_neg c]
       split at h
       · exact h
       · exact ih h
     rename_i c
     rw [if_neg c]
     split at h
     · rename_i c; rw [if_pos c]; exact h
     rename_i c
     rw [if_neg c]
     exact ih h
theorem UB.head_var {l:List Symbol} {b:Bnd} (h:UB l b) {t:List Int} (hx:TermOk l (q03 b.1 b.2 t)) (hn:(q03 b.1 b.2 t).getD 0 0 < 0) :
 (0 ≤ -1 - (q03 b.1 b.2 t).getD 0 0 ∧ -1 - (q03 b.1 b.2 t).getD 0 0≤11) ∧ -1 - (q03 b.1 b.2 t).getD 0 0∉b.1:=by
 have hp:=hx.pos
 have hd:(q03 b.1 b.2 t).getD 0 0=(q03 b.1 b.2 t)[0]:=q7p (by omega)
 have hm:(q03 b.1 b.2 t).getD 0 0∈q03 b.1 b.2 t:=by rw [hd]; exact List.getElem_mem _
 have:=q4e.1 (hx.node _ hm)
 exact ⟨by omega,h.applied_free t _ hm⟩
theorem qr2 {l:List Symbol}:∀ (d k:Nat) (b:Bnd) (ps:List Pr),UB l b→(∀ p∈ps,TermOk l p.left∧TermOk l p.right)→12 - b.1.length≤d→q7k b ps≤k →
 ∃ n r,unif l n b ps=some r∧∀ b',r = .inl b'→UB l b':=by
 intro d
 induction d with
 | zero =>
   intro k
   induction k using Nat.strongRecOn with
   | _ k ihk=>exact fun b ps=>unif_step 0 k (fun d' hd'=>by omega) ihk b ps
 | succ d ihd =>
   intro k
   induction k using Nat.strongRecOn with
   | _ k ihk=>exact fun b ps=>unif_step (d+1) k (fun d' hd' k b ps h1 h2 h3 h4=>ihd k b ps h1 h2 (by omega) h4) ihk b ps
where
 unif_step {l:List Symbol} (d k:Nat)
  (ihd:∀ d',d' < d→∀ (k:Nat) (b:Bnd) (ps:List Pr),UB l b→(∀ p∈ps,TermOk l p.left∧TermOk l p.right)→12 - b.1.length≤d'→q7k b ps≤k→∃ n r,unif l n b ps=some r∧∀ b',r = .inl b'→UB l b')
  (ihk:∀ k',k' < k→∀ (b:Bnd) (ps:List Pr),UB l b→(∀ p∈ps,TermOk l p.left∧TermOk l p.right)→12 - b.1.length≤d→q7k b ps≤k'→∃ n r,unif l n b ps=some r∧∀ b',r = .inl b'→UB l b')
  (b:Bnd) (ps:List Pr) (hb:UB l b) (hps:∀ p∈ps,TermOk l p.left∧TermOk l p.right) (hd:12 - b.1.length≤d) (hk:q7k b ps≤k):∃ n r,unif l n b ps=some r∧∀ b',r = .inl b'→UB l b':=by
  cases ps with
  | nil=>exact ⟨1,.inl b,rfl,fun b' e=>by cases e; exact hb⟩
  | cons p ps =>
    have hp:=hps p (by simp)
    have hps':∀ q∈ps,TermOk l q.left∧TermOk l q.right:=fun q hq=>hps q (List.mem_cons_of_mem _ hq)
    have hsz:q7k b (p::ps)=(q03 b.1 b.2 p.left).length+(q03 b.1 b.2 p.right).length+q7k b ps:=by simp [q7k]
    by_cases c1:24 < (q03 b.1 b.2 p.left).length∨24 < (q03 b.1 b.2 p.right).length
    · exact ⟨1,.inr 2,by rw [unif,if_pos c1],fun _ e=>by cases e⟩
    have hx:=hb.applied_ok hp.1 (by omega)
    have hy:=hb.applied_ok hp.2 (by omega)
    have hxp:=hx.pos
    by_cases c2:q03 b.1 b.2 p.left=q03 b.1 b.2 p.right
    · obtain ⟨n,r,h1,h2⟩:=ihk (q7k b ps) (by omega) b ps hb hps' hd (Nat.le_refl _)
      exact ⟨n+1,r,by rw [unif,if_neg c1,if_pos c2]; exact h1,h2⟩
    have bindcase:∀ (u t:List Int),TermOk l (q03 b.1 b.2 u)→TermOk l (q03 b.1 b.2 t)→(q03 b.1 b.2 u).getD 0 0 < 0→(q03 b.1 b.2 u).getD 0 0∉q03 b.1 b.2 t→∀ b',q56 b (-1 - (q03 b.1 b.2 u).getD 0 0) (q03 b.1 b.2 t)=some b' →
     ∃ n r,unif l n b' ps=some r∧∀ b',r = .inl b'→UB l b':=fun u t hu ht hneg hno b' hb'=>by
     obtain ⟨hv,hnb⟩:=hb.head_var hu hneg
     obtain ⟨q1,q2⟩:=qe3 hb hv hnb ht (hb.applied_free t) (by rw [show -1 - (-1 - (q03 b.1 b.2 u).getD 0 0)=(q03 b.1 b.2 u).getD 0 0 by omega]; exact hno) hb'
     have:=q1.le
     exact ihd (d - 1) (by omega) (q7k b' ps) b' ps q1 hps' (by omega) (Nat.le_refl _)
    by_cases c3:(q03 b.1 b.2 p.left).getD 0 0 < 0
    · by_cases c4:(q03 b.1 b.2 p.left).getD 0 0∈q03 b.1 b.2 p.right
      · exact ⟨1,.inr 4,by rw [unif,if_neg c1,if_neg c2,if_pos c3,if_pos c4],fun _ e=>by cases e⟩
      cases hb':q56 b (-1 - (q03 b.1 b.2 p.left).getD 0 0) (q03 b.1 b.2 p.right) with
      | none=>exact ⟨1,.inr 2,by rw [unif,if_neg c1,if_neg c2,if_pos c3,if_neg c4,hb'],fun _ e=>by cases e⟩
      | some b' =>
        obtain ⟨n,r,h1,h2⟩:=bindcase p.left p.right hx hy c3 c4 b' hb'
        exact ⟨n+1,r,by rw [unif,if_neg c1,if_neg c2,if_pos c3,if_neg c4,hb']; exact h1,h2⟩
    by_cases c5:(q03 b.1 b.2 p.right).getD 0 0 < 0
    · by_cases c4:(q03 b.1 b.2 p.right).getD 0 0∈q03 b.1 b.2 p.left
      · exact ⟨1,.inr 4,by rw [unif,if_neg c1,if_neg c2,if_neg c3,if_pos c5,if_pos c4],fun _ e=>by cases e⟩
      cases hb':q56 b (-1 - (q03 b.1 b.2 p.right).getD 0 0) (q03 b.1 b.2 p.left) with
      | none=>exact ⟨1,.inr 2,by rw [unif,if_neg c1,if_neg c2,if_neg c3,if_pos c5,if_neg c4,hb'],fun _ e=>by cases e⟩
      | some b' =>
        obtain ⟨n,r,h1,h2⟩:=bindcase p.right p.left hy hx c5 c4 b' hb'
        exact ⟨n+1,r,by rw [unif,if_neg c1,if_neg c2,if_neg c3,if_pos c5,if_neg c4,hb']; exact h1,h2⟩
    by_cases c6:(q03 b.1 b.2 p.left).getD 0 0=(q03 b.1 b.2 p.right).getD 0 0
    · have ha:=q59 (b:=b) hx hy (hb.applied_free _) (hb.applied_free _) c6
      have happ:q7k b (q61 l (q03 b.1 b.2 p.left) (q03 b.1 b.2 p.right)++ps)=q7k b (q61 l (q03 b.1 b.2 p.left) (q03 b.1 b.2 p.right))+q7k b ps:=by simp [q7k]
      obtain ⟨n,r,h1,h2⟩:=ihk _ (show q7k b (q61 l (q03 b.1 b.2 p.left) (q03 b.1 b.2 p.right)++ps) < k by omega) b _ hb (fun q hq=>by
       rcases List.mem_append.1 hq with hq | hq
       · exact qlm hx hy q hq
       · exact hps' q hq) hd (Nat.le_refl _)
      exact ⟨n+1,r,by rw [unif,if_neg c1,if_neg c2,if_neg c3,if_neg c5,if_neg (by simpa using c6)]; exact h1,h2⟩
    · exact ⟨1,.inr 4,by rw [unif,if_neg c1,if_neg c2,if_neg c3,if_neg c5,if_pos c6],fun _ e=>by cases e⟩
def q3o (t:List Int) (by_:Int):List Int:=t.map fun n=>if n < 0 then n - by_ else n
theorem qni {a:Int→Nat} {f:Int→Int}:∀ {t:List Int} {k:Nat} {r:List Int},(∀ n∈t,a (f n)=a n)→skip a k t=some r→skip a k (t.map f)=some (r.map f)
 | t,0,r,_,h=>by rw [q3l] at h; cases h; rw [q3l]
 | [],k+1,r,_,h=>by cases h
 | n::t,k+1,r,hf,h=>by
   rw [skip] at h
   rw [List.map_cons,skip,hf n (by simp)]
   exact qni (fun m hm=>hf m (List.mem_cons_of_mem _ hm)) h
theorem q8z {l:List Symbol} {t:List Int} (ht:TermOk l t) (hlow:∀ n∈t,-6≤n):TermOk l (q3o t 6):=by
 refine ⟨by unfold q3o; rw [List.length_map]; exact ht.pos,by unfold q3o; rw [List.length_map]; exact ht.le,fun n hn => ?_,?_⟩
 · unfold q3o at hn
   obtain ⟨m,hm,rfl⟩:=List.mem_map.1 hn
   have h1:=q4e.1 (ht.node m hm)
   have h2:=hlow m hm
   rw [q4e]
   split <;> omega
 · refine qni (fun n hn => ?_) ht.skip
   by_cases h:n < 0
   · rw [if_pos h,q9k l h,q9k l (by omega)]
   · rw [if_neg h]
theorem q8c {b:Bnd} {l:List Symbol} {k:Nat} (hb:MB l b k):∀ t:List Int,t.length≤(q03 b.1 b.2 t).length
 | []=>by simp [q03]
 | n::t=>by
   have ih:=q8c hb t
   have e:q03 b.1 b.2 (n::t)=(q40 b.1 b.2 (-1 - n)).getD [n]++q03 b.1 b.2 t:=by simp [q03]
   rw [e,List.length_append,List.length_cons]
   cases ho:q40 b.1 b.2 (-1 - n) with
   | none=>simp; omega
   | some o =>
     have:=(hb.tm o (q5g ho)).pos
     simp; omega
def q86 (seen:List Int) (n:Int):Int × List Int :=
 if 0≤n then (n,seen) else if idx (fun x=>decide (x=n)) seen < 0 then (-1 - (seen.length:Int),seen++[n]) else (-1 - idx (fun x=>decide (x=n)) seen,seen)
def q2h:List Int→List Int→List Int × List Int
 | seen,[]=>([],seen)
 | seen,n::t=>((q86 seen n).1::(q2h (q86 seen n).2 t).1,(q2h (q86 seen n).2 t).2)
theorem qad:∀ (seen a b:List Int),q2h seen (a++b)=((q2h seen a).1++(q2h (q2h seen a).2 b).1,(q2h (q2h seen a).2 b).2)
 | seen,[],b=>rfl
 | seen,n::a,b=>by
   rw [List.cons_append,q2h,qad,q2h]; rfl
theorem q3i:∀ (seen t:List Int),(q2h seen t).1.length=t.length∧(q2h seen t).2.length≤seen.length+t.length∧seen.length≤(q2h seen t).2.length
 | seen,[]=>⟨rfl,by simp [q2h],by simp [q2h]⟩
 | seen,n::t=>by
   have ih:=q3i (q86 seen n).2 t
   have hp:(q86 seen n).2.length≤seen.length+1∧seen.length≤(q86 seen n).2.length:=by
    unfold q86
    split
    · exact ⟨by simp,by simp⟩
    split
    · simp
    · exact ⟨by simp,by simp⟩
   rw [q2h]
   simp only [List.length_cons]
   omega
theorem qcf:∀ (seen t:List Int),∀ m∈(q2h seen t).1,(0≤m∧m∈t)∨(m < 0 ∧ -((q2h seen t).2.length:Int)≤m)
 | seen,[],m,h=>by cases h
 | seen,n::t,m,h=>by
   rw [q2h] at h ⊢
   have hl:=(q3i (q86 seen n).2 t).2.2
   rcases List.mem_cons.1 h with rfl | h
   · unfold q86 at hl ⊢
     split
     · exact .inl ⟨by assumption,by simp⟩
     rename_i h0
     rw [if_neg h0] at hl
     split
     · rename_i h1
       rw [if_pos h1] at hl
       simp only [List.length_append,List.length_singleton] at hl
       exact .inr ⟨by simp only; omega,by simp only; omega⟩
     · rename_i h1
       rw [if_neg h1] at hl
       rcases q7m (fun x:Int=>decide (x=n)) seen with ⟨h2,_⟩ | ⟨i,hi,h2,_⟩
       · omega
       · simp only at hl ⊢
         exact .inr ⟨by omega,by omega⟩
   · rcases qcf (q86 seen n).2 t m h with h | h
     · exact .inl ⟨h.1,List.mem_cons_of_mem _ h.2⟩
     · exact .inr h
def qa7 (e:Equation):Equation:=⟨(q2h [] e.left).1,(q2h (q2h [] e.left).2 e.right).1⟩
def qa6 (e:Equation):List Int:=(q2h (q2h [] e.left).2 e.right).2
theorem qgs {l:List Symbol}:∀ (t seen r:List Int) (k:Nat),skip (ar l) k t=some r→∃ r',skip (ar l) k (q2h seen t).1=some r'∧r'.length=r.length
 | [],seen,r,k,h=>by
   obtain ⟨rfl,rfl⟩:=qjd h
   exact ⟨[],by rw [q3l]; rfl,rfl⟩
 | n::t,seen,r,0,h=>by
   rw [q3l] at h
   cases h
   exact ⟨_,q3l _,(q3i seen (n::t)).1⟩
 | n::t,seen,r,k+1,h=>by
   rw [skip] at h
   obtain ⟨r',h1,h2⟩:=qgs t (q86 seen n).2 r _ h
   refine ⟨r',?_,h2⟩
   rw [q2h,skip]
   have e:ar l (q86 seen n).1=ar l n:=by
    unfold q86
    split
    · rfl
    rename_i h0
    split
    · rw [q9k l (by simp only; omega),q9k l (by omega)]
    · rename_i h1
      rw [q9k l (by simp only; omega),q9k l (by omega)]
   rw [e]
   exact h1
theorem qhr {l:List Symbol} {t seen:List Int} (ht:TermOk l t) (h6:(q2h seen t).2.length≤6):TermOk l (q2h seen t).1∧∀ n∈(q2h seen t).1,-6≤n:=by
 have hl:=(q3i seen t).1
 obtain ⟨r',h1,h2⟩:=qgs (l:=l) t seen [] 1 ht.skip
 have:r'=[]:=List.eq_nil_of_length_eq_zero h2
 subst this
 refine ⟨⟨by rw [hl]; exact ht.pos,by rw [hl]; exact ht.le,fun n hn => ?_,h1⟩,fun n hn => ?_⟩
 · rcases qcf seen t n hn with ⟨q1,q2⟩ | ⟨q1,q2⟩
   · exact ht.node n q2
   · rw [q4e]; omega
 · rcases qcf seen t n hn with ⟨q1,_⟩ | ⟨_,q2⟩ <;> omega
theorem qoe {l:List Symbol} {e:Equation} (hl:TermOk l e.left) (hr:TermOk l e.right) (h6:(qa6 e).length≤6):EqOk l (qa7 e):=by
 have h1:=(q3i (q2h [] e.left).2 e.right).2.2
 have h2:(q2h (q2h [] e.left).2 e.right).2.length≤6:=h6
 obtain ⟨q1,q2⟩:=qhr (seen:=[]) hl (by omega)
 obtain ⟨q3,q4⟩:=qhr (seen:=(q2h [] e.left).2) hr h2
 exact ⟨q1,q3,q2,q4⟩
open Classical in
noncomputable def qcz (l:List Symbol) (a b:List Int):Bnd ⊕ Int:=if h:∃ n r,unif l n ([],[]) [⟨a,b⟩]=some r then Classical.choose (Classical.choose_spec h) else .inr 0
theorem q8e {l:List Symbol} {a b:List Int} (ha:TermOk l a) (hb:TermOk l b):(∃ n,unif l n ([],[]) [⟨a,b⟩]=some (qcz l a b))∧∀ x,qcz l a b = .inl x→UB l x:=by
 obtain ⟨n,r,h1,h2⟩:=qr2 (l:=l) 12 _ ([],[]) [⟨a,b⟩] (UB.nil l) (fun p hp=>by rw [List.mem_singleton.1 hp]; exact ⟨ha,hb⟩) (by simp) (Nat.le_refl _)
 have h:∃ n r,unif l n ([],[]) [⟨a,b⟩]=some r:=⟨n,r,h1⟩
 have e:qcz l a b=Classical.choose (Classical.choose_spec h):=by unfold qcz; rw [dif_pos h]
 have hs:=Classical.choose_spec (Classical.choose_spec h)
 rw [← e] at hs
 refine ⟨⟨_,hs⟩,fun x hx => ?_⟩
 have:qcz l a b=r:=by
  have q1:=qfa hs (Nat.le_max_left _ n)
  have q2:=qfa h1 (Nat.le_max_right (Classical.choose h) n)
  rw [q1] at q2
  exact Option.some.inj q2
 exact h2 x (this ▸ hx)
noncomputable def q7f (l:List Symbol) (o i:Equation) (p:Nat):EquationResult:=match qcz l (q3e l o.left p) (q3o i.left 6) with
 | .inr c=>⟨c,⟨[],[]⟩⟩
 | .inl b =>
   if 24 < (q03 b.1 b.2 o.right).length∨24 < (q03 b.1 b.2 (q4d l o.left p (q3o i.right 6))).length then ⟨2,⟨[],[]⟩⟩
   else if 6 < (qa6 ⟨q03 b.1 b.2 o.right,q03 b.1 b.2 (q4d l o.left p (q3o i.right 6))⟩).length then ⟨2,⟨[],[]⟩⟩
   else ⟨0,qa7 ⟨q03 b.1 b.2 o.right,q03 b.1 b.2 (q4d l o.left p (q3o i.right 6))⟩⟩
end Ev.Ty
end
section
namespace Ev.Ty
open Go Ev
theorem qaq (vs:List Int) (ts:List (List Int)) (a b:List Int):q03 vs ts (a++b)=q03 vs ts a++q03 vs ts b:=List.flatMap_append
theorem q88 (vs:List Int) (ts:List (List Int)) (n:Int):q03 vs ts [n]=(q40 vs ts (-1 - n)).getD [n]:=by
 show [n].flatMap _=_
 rw [List.flatMap_cons,List.flatMap_nil,List.append_nil]
theorem q5l (vs:List Int) (ts:List (List Int)) (n:Int) (t:List Int):q03 vs ts (n::t)=q03 vs ts [n]++q03 vs ts t:=qaq vs ts [n] t
def Ext (b c:Bnd):Prop:=∀ t,q03 c.1 c.2 (q03 b.1 b.2 t)=q03 c.1 c.2 t
theorem Ext.of {b c:Bnd} (h:∀ n,q03 c.1 c.2 (q03 b.1 b.2 [n])=q03 c.1 c.2 [n]):Ext b c:=by
 intro t
 induction t with
 | nil=>rfl
 | cons n t ih=>rw [q5l,qaq,h,ih,← q5l]
theorem Ext.trans {b c d:Bnd} (h1:Ext b c) (h2:Ext c d):Ext b d:=fun t=>by rw [← h2 (q03 b.1 b.2 t),h1,h2]
theorem UB.ext {l:List Symbol} {b:Bnd} (h:UB l b):Ext b b:=fun t=>_root_.Ev.Ty.applied_free (h.applied_free t)
theorem qp1 {f:List Int→List Int} (vs:List Int) (ts:List (List Int)) (v:Int):q40 vs (ts.map f) v=(q40 vs ts v).map f:=by
 unfold q40
 split
 · rfl
 · rw [List.getElem?_map]
theorem qan {vs vs':List Int} {ts ts':List (List Int)}:∀ {t:List Int},(∀ n∈t,q03 vs ts [n]=q03 vs' ts' [n])→q03 vs ts t=q03 vs' ts' t
 | [],_=>rfl
 | n::t,h=>by rw [q5l vs ts n t,q5l vs' ts' n t,h n (List.mem_cons_self ..),qan fun m hm=>h m (List.mem_cons_of_mem _ hm)]
theorem qm7 {l:List Symbol} {b:Bnd} (h:UB l b) {v:Int} (hnb:v∉b.1) {t:List Int} (hf:Free b t) (hvt:(-1 - v)∉t) {b1:Bnd} (hb:q56 b v t=some b1) :
 Ext b b1∧q03 b1.1 b1.2 [-1 - v]=t∧q03 b1.1 b1.2 t=t:=by
 unfold q56 at hb
 split at hb
 · cases hb
 cases hb
 have hl:b.1.length=(b.2.map (q03 [v] [t])).length:=by rw [List.length_map]; exact h.mb.len
 have hput:∀ w,q40 (bput (b.1,b.2.map (q03 [v] [t])) v t).1 (bput (b.1,b.2.map (q03 [v] [t])) v t).2 w=if v=w then some t else (q40 b.1 b.2 w).map (q03 [v] [t]):=fun w=>by
  have:=qpg (b:=(b.1,b.2.map (q03 [v] [t]))) (t:=t) hl hnb w
  rw [this]
  by_cases e:v=w
  · rw [if_pos e,if_pos e]
  · rw [if_neg e,if_neg e]; exact qp1 b.1 b.2 w
 generalize bput (b.1,b.2.map (q03 [v] [t])) v t=b1 at *
 have free:∀ s,Free b s→q03 b1.1 b1.2 s=q03 [v] [t] s:=fun s hs=>qan fun n hn=>by
  rw [q88,q88,hput,qe0,q90 (hs n hn)]
  rfl
 refine ⟨Ext.of fun n => ?_,?_,?_⟩
 · rw [q88 b.1]
   cases e:q40 b.1 b.2 (-1 - n) with
   | none=>rfl
   | some s =>
     show q03 b1.1 b1.2 s=_
     rw [q88,hput,e,if_neg (fun hv=>hnb (by rw [hv]; exact Classical.byContradiction fun hm=>by rw [q90 hm] at e; cases e)),free s (h.free s (q5g e))]
     rfl
 · rw [q88,hput,if_pos (by omega)]; rfl
 · rw [free t hf]
   have:∀ n∈t,q03 [v] [t] [n]=q03 [] [] [n]:=fun n hn=>by
    rw [q88,qe0,if_neg (fun e=>hvt (by rw [e,show -1 - (-1 - n)=n by omega]; exact hn))]
    rfl
   rw [qan this]
   have nil:∀ s:List Int,q03 [] [] s=s:=fun s=>by
    induction s with
    | nil=>rfl
    | cons n s ih=>rw [q5l,ih]; rfl
   exact nil t
theorem qtn {l:List Symbol} (ok:SigOk ⟨l⟩) {X Y:List Int} (hX:TermOk l X) (hY:TermOk l Y) {vs:List Int} {ts:List (List Int)} (hn:¬ X.getD 0 0 < 0) (he:X.getD 0 0=Y.getD 0 0)
 (h:∀ p∈q61 l X Y,q03 vs ts p.left=q03 vs ts p.right):q03 vs ts X=q03 vs ts Y:=by
 obtain ⟨x,hx,ex⟩:=hX.atZero ok
 obtain ⟨y,hy,ey⟩:=hY.atZero ok
 have fx:=hx.args
 have fy:=hy.args
 have hdx:X.getD 0 0=x.head:=hx.facts.2.1
 have hdy:Y.getD 0 0=y.head:=hy.facts.2.1
 rw [hdx] at hn he
 rw [hdy] at he
 have okx:=hx.1
 have oky:=hy.1
 unfold q61 at h
 generalize q36 l X 0=sx at *
 generalize q36 l Y 0=sy at *
 cases x with
 | v n=>exact absurd okx hn
 | k n =>
   cases y with
   | v m=>have:m < 0:=oky; have he:n=m:=he; have:=okx.1; omega
   | k m=>have he:n=m:=he; subst he; rw [ex,ey]
   | u m y=>have he:n=m:=he; subst he; have:=okx.2; have:=oky.2.1; omega
   | b m y z=>have he:n=m:=he; subst he; have:=okx.2; have:=oky.2.1; omega
 | u n x =>
   cases y with
   | v m=>have:m < 0:=oky; have he:n=m:=he; have:=okx.1; omega
   | k m=>have he:n=m:=he; subst he; have:=okx.2.1; have:=oky.2; omega
   | u m y =>
     have he:n=m:=he
     subst he
     cases fx with
     | cons a1 r1 =>
       cases r1
       cases fy with
       | cons b1 r2 =>
         cases r2
         have:=h ⟨q3e l X _,q3e l Y _⟩ (List.mem_singleton.2 rfl)
         simp only at this
         rw [a1.facts.2.2.2,b1.facts.2.2.2] at this
         rw [ex,ey]
         show q03 vs ts (n::x.flat)=q03 vs ts (n::y.flat)
         rw [q5l,q5l vs ts n y.flat,this]
   | b m y z=>have he:n=m:=he; subst he; have:=okx.2.1; have:=oky.2.1; omega
 | b n x x2 =>
   cases y with
   | v m=>have:m < 0:=oky; have he:n=m:=he; have:=okx.1; omega
   | k m=>have he:n=m:=he; subst he; have:=okx.2.1; have:=oky.2; omega
   | u m y=>have he:n=m:=he; subst he; have:=okx.2.1; have:=oky.2.1; omega
   | b m y y2 =>
     have he:n=m:=he
     subst he
     cases fx with
     | cons a1 r1 =>
       cases r1 with
       | cons a2 r1 =>
         cases r1
         cases fy with
         | cons b1 r2 =>
           cases r2 with
           | cons b2 r2 =>
             cases r2
             have h1:=h ⟨q3e l X _,q3e l Y _⟩ (List.mem_cons_self ..)
             have h2:=h ⟨q3e l X _,q3e l Y _⟩ (List.mem_cons_of_mem _ (List.mem_singleton.2 rfl))
             simp only at h1 h2
             rw [a1.facts.2.2.2,b1.facts.2.2.2] at h1
             rw [a2.facts.2.2.2,b2.facts.2.2.2] at h2
             rw [ex,ey]
             show q03 vs ts (n::(x.flat++x2.flat))=q03 vs ts (n::(y.flat++y2.flat))
             rw [q5l,q5l vs ts n (y.flat++y2.flat),qaq,qaq,h1,h2]
theorem qta {l:List Symbol} (ok:SigOk ⟨l⟩) {t:List Int} (ht:TermOk l t) (h:t.getD 0 0 < 0):t=[t.getD 0 0]:=by
 obtain ⟨x,hx,ex⟩:=ht.atZero ok
 have hd:t.getD 0 0=x.head:=hx.facts.2.1
 have okx:=hx.1
 rw [hd] at h ⊢
 cases x with
 | v n=>exact ex
 | k n=>have:=okx.1; have h:n < 0:=h; omega
 | u n x=>have:=okx.1; have h:n < 0:=h; omega
 | b n x y=>have:=okx.1; have h:n < 0:=h; omega
theorem qp3 {l:List Symbol} (ok:SigOk ⟨l⟩):∀ (n:Nat) (b:Bnd) (ps:List Pr) (b':Bnd),UB l b→(∀ p∈ps,TermOk l p.left∧TermOk l p.right)→unif l n b ps=some (.inl b') →
 Ext b b'∧UB l b'∧∀ p∈ps,q03 b'.1 b'.2 p.left=q03 b'.1 b'.2 p.right:=by
 intro n
 induction n with
 | zero=>intro b ps b' _ _ h; cases h
 | succ n ih =>
   intro b ps b' hb hps h
   cases ps with
   | nil =>
     rw [unif] at h
     cases h
     exact ⟨hb.ext,hb,fun p hp=>by cases hp⟩
   | cons p ps =>
     have hp:=hps p (by simp)
     have hps':∀ q∈ps,TermOk l q.left∧TermOk l q.right:=fun q hq=>hps q (List.mem_cons_of_mem _ hq)
     rw [unif] at h
     by_cases c1:24 < (q03 b.1 b.2 p.left).length∨24 < (q03 b.1 b.2 p.right).length
     · rw [if_pos c1] at h; cases h
     rw [if_neg c1] at h
     have hx:=hb.applied_ok hp.1 (by omega)
     have hy:=hb.applied_ok hp.2 (by omega)
     by_cases c2:q03 b.1 b.2 p.left=q03 b.1 b.2 p.right
     · rw [if_pos c2] at h
       obtain ⟨e1,e2,e3⟩:=ih b ps b' hb hps' h
       refine ⟨e1,e2,fun q hq => ?_⟩
       rcases List.mem_cons.1 hq with rfl | hq
       · rw [← e1 q.left,c2,e1]
       · exact e3 q hq
     rw [if_neg c2] at h
     have bindcase:∀ (u t:List Int),TermOk l (q03 b.1 b.2 u)→TermOk l (q03 b.1 b.2 t)→(q03 b.1 b.2 u).getD 0 0 < 0→(q03 b.1 b.2 u).getD 0 0∉q03 b.1 b.2 t→∀ b1,q56 b (-1 - (q03 b.1 b.2 u).getD 0 0) (q03 b.1 b.2 t)=some b1→unif l n b1 ps=some (.inl b') →
      Ext b b'∧UB l b'∧q03 b'.1 b'.2 u=q03 b'.1 b'.2 t∧∀ p∈ps,q03 b'.1 b'.2 p.left=q03 b'.1 b'.2 p.right:=fun u t hu ht hneg hno b1 hb1 hun=>by
      obtain ⟨hv,hnb⟩:=hb.head_var hu hneg
      have hno':(-1 - (-1 - (q03 b.1 b.2 u).getD 0 0))∉q03 b.1 b.2 t:=by rw [show -1 - (-1 - (q03 b.1 b.2 u).getD 0 0)=(q03 b.1 b.2 u).getD 0 0 by omega]; exact hno
      obtain ⟨q1,_⟩:=qe3 hb hv hnb ht (hb.applied_free t) hno' hb1
      obtain ⟨x1,x2,x3⟩:=qm7 hb hnb (hb.applied_free t) hno' hb1
      obtain ⟨e1,e2,e3⟩:=ih b1 ps b' q1 hps' hun
      refine ⟨x1.trans e1,e2,?_,e3⟩
      have hh:=qta ok hu hneg
      rw [show -1 - (-1 - (q03 b.1 b.2 u).getD 0 0)=(q03 b.1 b.2 u).getD 0 0 by omega,← hh] at x2
      rw [← e1 u,← x1 u,x2,← e1 t,← x1 t,x3]
     by_cases c3:(q03 b.1 b.2 p.left).getD 0 0 < 0
     · rw [if_pos c3] at h
       by_cases c4:(q03 b.1 b.2 p.left).getD 0 0∈q03 b.1 b.2 p.right
       · rw [if_pos c4] at h; cases h
       rw [if_neg c4] at h
       cases hb1:q56 b (-1 - (q03 b.1 b.2 p.left).getD 0 0) (q03 b.1 b.2 p.right) with
       | none=>rw [hb1] at h; cases h
       | some b1 =>
         rw [hb1] at h
         obtain ⟨e1,e2,e3,e4⟩:=bindcase p.left p.right hx hy c3 c4 b1 hb1 h
         refine ⟨e1,e2,fun q hq => ?_⟩
         rcases List.mem_cons.1 hq with rfl | hq
         · exact e3
         · exact e4 q hq
     rw [if_neg c3] at h
     by_cases c5:(q03 b.1 b.2 p.right).getD 0 0 < 0
     · rw [if_pos c5] at h
       by_cases c4:(q03 b.1 b.2 p.right).getD 0 0∈q03 b.1 b.2 p.left
       · rw [if_pos c4] at h; cases h
       rw [if_neg c4] at h
       cases hb1:q56 b (-1 - (q03 b.1 b.2 p.right).getD 0 0) (q03 b.1 b.2 p.left) with
       | none=>rw [hb1] at h; cases h
       | some b1 =>
         rw [hb1] at h
         obtain ⟨e1,e2,e3,e4⟩:=bindcase p.right p.left hy hx c5 c4 b1 hb1 h
         refine ⟨e1,e2,fun q hq => ?_⟩
         rcases List.mem_cons.1 hq with rfl | hq
         · exact e3.symm
         · exact e4 q hq
     rw [if_neg c5] at h
     by_cases c6:(q03 b.1 b.2 p.left).getD 0 0=(q03 b.1 b.2 p.right).getD 0 0
     · rw [if_neg (by simpa using c6)] at h
       obtain ⟨e1,e2,e3⟩:=ih b _ b' hb (fun q hq=>by
        rcases List.mem_append.1 hq with hq | hq
        · exact qlm hx hy q hq
        · exact hps' q hq) h
       refine ⟨e1,e2,fun q hq => ?_⟩
       rcases List.mem_cons.1 hq with rfl | hq
       · have:=qtn ok hx hy c3 c6 (fun r hr=>e3 r (List.mem_append_left _ hr))
         rw [e1,e1] at this
         exact this
       · exact e3 q (List.mem_append_right _ hq)
     · rw [if_pos c6] at h; cases h
theorem qlf {l:List Symbol} (ok:SigOk ⟨l⟩) {a b:List Int} (ha:TermOk l a) (hb:TermOk l b) {x:Bnd} (h:qcz l a b = .inl x):UB l x∧q03 x.1 x.2 a=q03 x.1 x.2 b:=by
 obtain ⟨⟨n,hn⟩,h2⟩:=q8e ha hb
 rw [h] at hn
 obtain ⟨_,e2,e3⟩:=qp3 ok n ([],[]) [⟨a,b⟩] x (UB.nil l) (fun p hp=>by rw [List.mem_singleton.1 hp]; exact ⟨ha,hb⟩) hn
 exact ⟨e2,e3 ⟨a,b⟩ (List.mem_singleton.2 rfl)⟩
end Ev.Ty
end
section
namespace Ev.Ty
open Go Ev
open Enc (enc)
open Sm (sm)
def qjv (l:List Symbol) {α:Type} (b:Bnd) (p:Pr) (ps:List Pr) (out:Bnd ⊕ Int→α) (next:Bnd→List Pr→α):α :=
 if 24 < (q03 b.1 b.2 p.left).length∨24 < (q03 b.1 b.2 p.right).length then out (.inr 2)
 else if q03 b.1 b.2 p.left=q03 b.1 b.2 p.right then next b ps
 else if (q03 b.1 b.2 p.left).getD 0 0 < 0 then
  if (q03 b.1 b.2 p.left).getD 0 0∈q03 b.1 b.2 p.right then out (.inr 4) else match q56 b (-1 - (q03 b.1 b.2 p.left).getD 0 0) (q03 b.1 b.2 p.right) with
   | none=>out (.inr 2)
   | some b'=>next b' ps
 else if (q03 b.1 b.2 p.right).getD 0 0 < 0 then
  if (q03 b.1 b.2 p.right).getD 0 0∈q03 b.1 b.2 p.left then out (.inr 4) else match q56 b (-1 - (q03 b.1 b.2 p.right).getD 0 0) (q03 b.1 b.2 p.left) with
   | none=>out (.inr 2)
   | some b'=>next b' ps
 else if (q03 b.1 b.2 p.left).getD 0 0≠(q03 b.1 b.2 p.right).getD 0 0 then out (.inr 4)
 else next b (q61 l (q03 b.1 b.2 p.left) (q03 b.1 b.2 p.right)++ps)
def StackOk (b:Bnd) (ps:List Pr):Prop:=∃ new old:List Pr,ps=new++old∧q7k b new≤46∧old.length≤24*b.1.length+1
theorem qg0 {l:List Symbol} {b:Bnd} (hb:UB l b):∀ {ps:List Pr},(∀ p∈ps,TermOk l p.left∧TermOk l p.right)→2*ps.length≤q7k b ps
 | [],_=>by simp [q7k]
 | p::ps,h=>by
   have ih:=qg0 hb (ps:=ps) fun q hq=>h q (List.mem_cons_of_mem _ hq)
   have hp:=h p (by simp)
   have h1:=q8c hb.mb p.left
   have h2:=q8c hb.mb p.right
   have:=hp.1.pos
   have:=hp.2.pos
   simp only [q7k,List.map_cons,List.sum_cons,List.length_cons] at ih ⊢
   omega
theorem StackOk.len {l:List Symbol} {b:Bnd} (hb:UB l b) {ps:List Pr} (hps:∀ p∈ps,TermOk l p.left∧TermOk l p.right) (h:StackOk b ps):ps.length≤400:=by
 obtain ⟨new,old,rfl,h1,h2⟩:=h
 have:=qg0 hb (ps:=new) fun q hq=>hps q (List.mem_append_left _ hq)
 have:=hb.le
 rw [List.length_append]
 omega
theorem qib (b:Bnd) (p:Pr) (ps:List Pr):q7k b (p::ps)=(q03 b.1 b.2 p.left).length+(q03 b.1 b.2 p.right).length+q7k b ps:=by simp [q7k]
theorem qku (b:Bnd) (ps qs:List Pr):q7k b (ps++qs)=q7k b ps+q7k b qs:=by simp [q7k]
theorem StackOk.tail {b:Bnd} {p:Pr} {ps:List Pr} (h:StackOk b (p::ps)):StackOk b ps:=by
 obtain ⟨new,old,e,h1,h2⟩:=h
 cases new with
 | nil =>
   rw [List.nil_append] at e
   subst e
   exact ⟨[],ps,rfl,by simp [q7k],by simp at h2; omega⟩
 | cons q new =>
   rw [List.cons_append] at e
   injection e with e1 e2
   rw [qib] at h1
   exact ⟨new,old,e2,by omega,h2⟩
theorem StackOk.bind {l:List Symbol} {b b':Bnd} (hb:UB l b) {p:Pr} {ps:List Pr} (hps:∀ q∈p::ps,TermOk l q.left∧TermOk l q.right) (h:StackOk b (p::ps)) (hl:b'.1.length=b.1.length+1):StackOk b' ps:=by
 obtain ⟨new,old,e,h1,h2⟩:=h.tail
 have:=qg0 hb (ps:=new) fun q hq=>hps q (List.mem_cons_of_mem _ (e ▸ List.mem_append_left _ hq))
 exact ⟨[],ps,rfl,by simp [q7k],by rw [e,List.length_append]; omega⟩
theorem StackOk.args {b:Bnd} {p:Pr} {ps qs:List Pr} (h:StackOk b (p::ps)) (hq:q7k b qs+2=(q03 b.1 b.2 p.left).length+(q03 b.1 b.2 p.right).length) (h1:(q03 b.1 b.2 p.left).length≤24) (h2:(q03 b.1 b.2 p.right).length≤24):StackOk b (qs++ps):=by
 obtain ⟨new,old,e,h3,h4⟩:=h
 cases new with
 | nil =>
   rw [List.nil_append] at e
   subst e
   exact ⟨qs,ps,rfl,by omega,by simp at h4; omega⟩
 | cons q new =>
   rw [List.cons_append] at e
   injection e with e1 e2
   subst e1
   rw [qib] at h3
   exact ⟨qs++new,old,by rw [e2,List.append_assoc],by rw [qku]; omega,h4⟩
theorem qgp {l:List Symbol} {α:Type} {S:Nat→Bnd→List Pr→α} {out:Bnd ⊕ Int→α} (hnil:∀ f b,S (f+1) b []=out (.inl b))
 (hstep:∀ f b p ps,UB l b→TermOk l p.left→TermOk l p.right→(∀ q∈ps,TermOk l q.left∧TermOk l q.right)→ps.length≤400→S (f+1) b (p::ps)=qjv l b p ps out (S f)) :
 ∀ (n f:Nat) (b:Bnd) (ps:List Pr) (r:Bnd ⊕ Int),n≤f→UB l b→(∀ p∈ps,TermOk l p.left∧TermOk l p.right)→StackOk b ps→unif l n b ps=some r→S f b ps=out r
 | 0,f,b,ps,r,hf,hb,hps,hst,h=>by cases h
 | n+1,f,b,ps,r,hf,hb,hps,hst,h=>by
   obtain ⟨f,rfl⟩:∃ q,f=q+1:=⟨f - 1,by omega⟩
   have ih:=qgp hnil hstep n f
   cases ps with
   | nil=>cases h; exact hnil f b
   | cons p ps =>
     have hp:=hps p (by simp)
     have hps':∀ q∈ps,TermOk l q.left∧TermOk l q.right:=fun q hq=>hps q (List.mem_cons_of_mem _ hq)
     have hlen:=hst.len hb hps
     rw [hstep f b p ps hb hp.1 hp.2 hps' (by simp at hlen; omega)]
     unfold qjv
     rw [unif] at h
     split at h
     · rename_i c; rw [if_pos c]; cases h; rfl
     rename_i c1
     rw [if_neg c1]
     have hx:=hb.applied_ok hp.1 (by omega)
     have hy:=hb.applied_ok hp.2 (by omega)
     have bindcase:∀ (u t:List Int),TermOk l (q03 b.1 b.2 u)→TermOk l (q03 b.1 b.2 t)→(q03 b.1 b.2 u).getD 0 0 < 0→(q03 b.1 b.2 u).getD 0 0∉q03 b.1 b.2 t→∀ b',q56 b (-1 - (q03 b.1 b.2 u).getD 0 0) (q03 b.1 b.2 t)=some b' →
      unif l n b' ps=some r→S f b' ps=out r:=fun u t hu ht hneg hno b' hb' hr=>by
      obtain ⟨hv,hnb⟩:=hb.head_var hu hneg
      obtain ⟨q1,q2⟩:=qe3 hb hv hnb ht (hb.applied_free t) (by rw [show -1 - (-1 - (q03 b.1 b.2 u).getD 0 0)=(q03 b.1 b.2 u).getD 0 0 by omega]; exact hno) hb'
      exact ih b' ps r (by omega) q1 hps' (hst.bind hb hps q2) hr
     split at h
     · rename_i c; rw [if_pos c]; exact ih b ps r (by omega) hb hps' hst.tail h
     rename_i c2
     rw [if_neg c2]
     split at h
     · rename_i c3
       rw [if_pos c3]
       split at h
       · rename_i c; rw [if_pos c]; cases h; rfl
       rename_i c4
       rw [if_neg c4]
       cases hb':q56 b (-1 - (q03 b.1 b.2 p.left).getD 0 0) (q03 b.1 b.2 p.right) with
       | none=>rw [hb'] at h; cases h; rfl
       | some b'=>rw [hb'] at h; exact bindcase p.left p.right hx hy c3 c4 b' hb' h
     rename_i c3
     rw [if_neg c3]
     split at h
     · rename_i c5
       rw [if_pos c5]
       split at h
       · rename_i c; rw [if_pos c]; cases h; rfl
       rename_i c4
       rw [if_neg c4]
       cases hb':q56 b (-1 - (q03 b.1 b.2 p.right).getD 0 0) (q03 b.1 b.2 p.left) with
       | none=>rw [hb'] at h; cases h; rfl
       | some b'=>rw [hb'] at h; exact bindcase p.right p.left hy hx c5 c4 b' hb' h
     rename_i c5
     rw [if_neg c5]
     split at h
     · rename_i c; rw [if_pos c]; cases h; rfl
     rename_i c6
     rw [if_neg c6]
     have ha:=q59 (b:=b) hx hy (hb.applied_free _) (hb.applied_free _) (by simpa using c6)
     exact ih b _ r (by omega) hb (fun q hq=>by
      rcases List.mem_append.1 hq with hq | hq
      · exact qlm hx hy q hq
      · exact hps' q hq) (hst.args ha hx.le hy.le) h
theorem qhm (p:Pr) (ps:List Pr):((cells (p::ps)).take ((p::ps).length*2)).drop (1*2)=cells ps:=by
 rw [q92 (p::ps) 2 _ rfl,List.take_length,qa2 _ 2 1 rfl]; rfl
def uT:Bnd ⊕ Int→R
 | .inl b=>some (.tup [.agg [slc b.1,slc b.2],.int .i64 0],[])
 | .inr c=>some (.tup [.agg [.sl 1 [],.sl 1 []],.int .i64 c],[])
theorem q94 {l:List Symbol} {t:List Int} (h:TermOk l t):(cells t)[0]?=some (.int .i64 (t.getD 0 0)):=by
 have hp:=h.pos
 have:=get0 (l:=t) (k:=1) (i:=0) rfl
 rw [Nat.zero_mul] at this
 rw [this,List.getElem?_eq_getElem (by omega),q7p (by omega)]; rfl
section
variable {l:List Symbol} (ok:SigOk ⟨l⟩)
include ok
theorem qg3 {b:Bnd} (hb:UB l b) {ps:List Pr} {u t:List Int} (hu:TermOk l u) (ht:TermOk l t) (hv:0 ≤ -1 - u.getD 0 0 ∧ -1 - u.getD 0 0≤11) {N:Nat} (hN:20≤N) (L0:St→R) :
 q0g.at5 N L0 N (q0g.st5 (cells ps) (cells u) (cells t) b.2.length (0:Nat) (cells l) (cells b.1) (cells b.2) [.int .i64 (-1 - u.getD 0 0)] [slc t]) =
  match q56 b (-1 - u.getD 0 0) t with
  | none=>uT (.inr 2)
  | some b'=>L0 (q0g.st0 (cells ps) (cells l) (cells b'.1) (cells b'.2)):=by
 have hbl:=hb.le
 have hlen:=hb.mb.len
 have htl:=ht.le
 have hpu:=hu.pos
 have hone:=qsg (l:=l) hv ht
 have hbo:=hone.ok (by omega)
 obtain ⟨v,hve⟩:∃ v,v = -1 - u.getD 0 0:=⟨_,rfl⟩
 have hwr:IntKind.wrap .i64 (-1 - u.getD 0 0)=v:=by rw [q1z (by omega),hve]
 rw [← hve] at hv hone hbo ⊢
 have loop:∀ n k f,k+n=b.2.length→n < f →
  q0g.at5 N L0 f (q0g.st5 (cells ps) (cells u) (cells t) b.2.length (k:Nat) (cells l) (cells b.1) (cells ((b.2.take k).map (q03 [v] [t])++b.2.drop k)) [.int .i64 v] [slc t]) =
   if ((b.2.drop k).any fun x=>decide (24 < (q03 [v] [t] x).length))=true then uT (.inr 2) else
    L0 (q0g.st0 (cells ps) (cells l) (cells (bput (b.1,b.2.map (q03 [v] [t])) v t).1) (cells (bput (b.1,b.2.map (q03 [v] [t])) v t).2)):=by
  intro n
  induction n with
  | zero =>
    intro k f hk hf
    obtain ⟨f,rfl⟩:∃ x,f=x+1:=⟨f - 1,by omega⟩
    obtain rfl:k=b.2.length:=by omega
    rw [List.take_length,List.drop_of_length_le (Nat.le_refl _),List.append_nil]
    have hbind:=q11 b.1 (b.2.map (q03 [v] [t])) v t (by simp; omega) (by omega) (by omega)
    have hu0:=q94 hu
    have hpu':(0:Int) < u.length:=by omega
    simp only [q0g.next5,q0g.round5,evz,Nat.reduceLT,Nat.lt_irrefl,hu0,hwr,qdd (k:=1) (l:=t) rfl,hbind,List.any_nil,Bool.false_eq_true]
    rw [show inB (0:Int) u.length=true from (q5f 0 u.length).trans (by simp; omega)]
    rfl
  | succ n ih =>
    intro k f hk hf
    obtain ⟨f,rfl⟩:∃ x,f=x+1:=⟨f - 1,by omega⟩
    have hkl:k < b.2.length:=by omega
    have hto:=hb.mb.tm _ (List.getElem_mem hkl)
    have htol:=hto.le
    have happ:LIM F.q0k [.agg [.sl 1 [.int .i64 v],.sl 1 [slc t]],slc b.2[k]]=some (slc (q03 [v] [t] b.2[k]),[]):=(q0k [v] [t] hbo b.2[k] (by omega) (hto.range ok)).eq
    obtain ⟨M,hM⟩:∃ M,M=(b.2.take k).map (q03 [v] [t])++b.2.drop k:=⟨_,rfl⟩
    have hMl:M.length=b.2.length:=by rw [hM]; simp; omega
    have hMk:M[k]?=some b.2[k]:=by
     rw [hM,List.getElem?_append_right (by simp; omega)]
     simp [Nat.min_eq_left (Nat.le_of_lt hkl),List.getElem?_eq_getElem hkl]
    have hkM:k < M.length:=by omega
    have hget:(cells M)[k*1]?=some (slc b.2[k]):=by
     rw [get0 (l:=M) (k:=1) (i:=k) rfl,hMk]; rfl
    have hkc:k*1 < (cells M).length:=by rw [q0n]; simp [show Enc.sz (List Int)=1 from rfl]; omega
    have hset:(cells M).set (k*1) (slc (q03 [v] [t] b.2[k]))=cells (M.set k (q03 [v] [t] b.2[k])):=by
     have:=qua (l:=M) hkM (q03 [v] [t] b.2[k])
     simpa [setCells] using this
    have hnext:M.set k (q03 [v] [t] b.2[k])=(b.2.take (k+1)).map (q03 [v] [t])++b.2.drop (k+1):=by
     have e1:b.2.take (k+1)=b.2.take k++[b.2[k]]:=(List.take_append_getElem hkl).symm
     rw [hM,e1,List.map_append,List.set_append_right _ _ (by simp; omega)]
     rw [show k - ((b.2.take k).map (q03 [v] [t])).length=0 by simp; omega,List.drop_eq_getElem_cons hkl,List.set_cons_zero]
     simp
    rw [← hM,List.drop_eq_getElem_cons hkl,List.any_cons]
    have hin:inB (k:Int) ((cells M).length / 1)=true:=by rw [q5f]; simp [q0n,show Enc.sz (List Int)=1 from rfl]; omega
    by_cases h24:24 < (q03 [v] [t] b.2[k]).length
    · have h24':((q03 [v] [t] b.2[k]).length:Int) > 24:=by omega
      simp only [q0g.next5,q0g.round5,Int.toNat_natCast,hget,hin,List.set_set,List.length_set,List.getElem?_set_self hkc,hkc,evz,Nat.reduceLT,hkl,happ,hkM,h24',h24,Bool.true_or]
      rfl
    · have h24':¬ ((q03 [v] [t] b.2[k]).length:Int) > 24:=by omega
      simp only [q0g.next5,q0g.round5,Int.toNat_natCast,hget,hin,List.set_set,List.length_set,List.getElem?_set_self hkc,hkc,evz,Nat.reduceLT,hkl,happ,hkM,h24',h24,Bool.false_or,qdd (k:=1) (l:=q03 [v] [t] b.2[k]) rfl,hset,hnext]
      rw [q0o (by omega)]
      exact ih (k+1) f (by omega) (by omega)
 have:=loop b.2.length 0 N (by omega) (by omega)
 rw [List.take_zero,List.map_nil,List.nil_append,List.drop_zero] at this
 rw [this]
 unfold q56
 by_cases h:(b.2.any fun x=>decide (24 < (q03 [v] [t] x).length))=true
 · rw [if_pos h,if_pos h]
 · rw [if_neg h,if_neg h]
theorem qna {b:Bnd} {ps:List Pr} (hps:ps.length≤400) {x y:List Int} (hx:TermOk l x) (hy:TermOk l y) (he:x.getD 0 0=y.getD 0 0) {N:Nat} (hN:20≤N) (L0:St→R) :
 q0g.at3 N L0 N (q0g.st3 (cells ps) (cells x) (cells y) (q36 l x 0).length (0:Nat) (cells l) (cells b.1) (cells b.2) (cells (ints (q36 l y 0))) (cells (ints (q36 l x 0))) (cells ([]:List Pr))) =
  L0 (q0g.st0 (cells (q61 l x y++ps)) (cells l) (cells b.1) (cells b.2)):=by
 have hl:(q36 l x 0).length=(q36 l y 0).length:=by unfold q36; rw [q6q,q6q,he]
 have h2:=qd6 ok x 0
 have hmx:∀ q∈q36 l x 0,q < x.length:=fun q hq=>(q5h hx (p:=0) (by have:=hx.pos; omega) hq).2
 have hmy:∀ q∈q36 l y 0,q < y.length:=fun q hq=>(q5h hy (p:=0) (by have:=hy.pos; omega) hq).2
 have hzl:((q36 l x 0).zip (q36 l y 0)).length=(q36 l x 0).length:=by rw [List.length_zip]; omega
 have key:=q9n (n:=(q36 l x 0).length) (f:=N) (S:=fun m k (o:List Pr)=>q0g.at3 N L0 m (q0g.st3 (cells ps) (cells x) (cells y) (q36 l x 0).length (k:Nat) (cells l) (cells b.1) (cells b.2) (cells (ints (q36 l y 0))) (cells (ints (q36 l x 0))) (cells o)))
  (st:=fun k=>(q61 l x y).take k) (z:=L0 (q0g.st0 (cells (q61 l x y++ps)) (cells l) (cells b.1) (cells b.2))) (fun m k h => ?_) (fun m => ?_) (by omega)
 · exact key
 · have hky:k < (q36 l y 0).length:=by omega
   have hax:(ints (q36 l x 0))[k]?=some (((q36 l x 0)[k]:Nat):Int):=q9j h
   have hay:(ints (q36 l y 0))[k]?=some (((q36 l y 0)[k]:Nat):Int):=q9j hky
   have hsx:=(q4n ok hx (hmx _ (List.getElem_mem h))).eq
   have hsy:=(q4n ok hy (hmy _ (List.getElem_mem hky))).eq
   have hal:k < (q61 l x y).length:=by unfold q61; rw [List.length_map,hzl]; exact h
   have hak:(q61 l x y)[k]=⟨q3e l x (q36 l x 0)[k],q3e l y (q36 l y 0)[k]⟩:=by simp [q61]
   have e1:(q61 l x y).take (k+1)=(q61 l x y).take k++[⟨q3e l x (q36 l x 0)[k],q3e l y (q36 l y 0)[k]⟩]:=by rw [← hak]; exact (List.take_append_getElem hal).symm
   have e2:∀ (A:List Pr) (p q:List Int),cells A++[slc p,slc q]=cells (A++[⟨p,q⟩]):=fun A p q=>by rw [q2t]; rfl
   rw [e1]
   simp only [q0g.next3,q0g.round3,evz,Nat.reduceLT,h,hky,q4i,hax,hay,q1j,hsx,hsy,e2]
   rw [q0o (by omega),q1h (q3t (by rw [q0n,q3y]; simp; omega))]
 · rw [List.take_of_length_le (by unfold q61; rw [List.length_map,hzl]; exact Nat.le_refl _)]
   have hal:(q61 l x y).length≤2:=by unfold q61; rw [List.length_map,hzl]; exact h2
   simp only [q0g.next3,q0g.round3,evz,Nat.reduceLT,Nat.lt_irrefl,← q2t]
   rw [q1h (q3t (by rw [q0n,q0n,q3y]; omega))]
theorem q0g {a b:List Int} (ha:TermOk l a) (hb:TermOk l b):LIM F.q0g [.agg [slc l],slc a,slc b]=uT (qcz l a b):=by
 obtain ⟨⟨n,hn⟩,_⟩:=q8e ha hb
 have hcall:∀ r,q1m prog Ev.A H LIM (n+20) F.q0g [.agg [slc l],slc a,slc b]=uT r→LIM F.q0g [.agg [slc l],slc a,slc b]=uT r:=fun r h=>by
  cases r with
  | inl x=>exact q0v rfl _ h
  | inr x=>exact q0v rfl _ h
 refine hcall _ ((q0g.ev _ _ _ _).trans ?_)
 have loop:=qgp (l:=l) (S:=fun f (b:Bnd) (ps:List Pr)=>q0g.at0 (n+20) f (q0g.st0 (cells ps) (cells l) (cells b.1) (cells b.2))) (out:=uT)
  (fun f b=>by
   simp only [q0g.next0,q0g.round0,qdf,List.length_nil]
   rfl)
  (fun f b p ps hb h1 h2 hps hl => ?_) n (n+20) ([],[]) [⟨a,b⟩] _ (by omega) (UB.nil l) (fun p hp=>by rw [List.mem_singleton.1 hp]; exact ⟨ha,hb⟩) ⟨[],_,rfl,by simp [q7k],by simp⟩ hn
 · exact loop
 · have hbo:=hb.mb.ok (by omega)
   have hl1:=h1.le
   have hl2:=h2.le
   have a1:=(q0k b.1 b.2 hbo p.left (by omega) (h1.range ok)).eq
   have a2:=(q0k b.1 b.2 hbo p.right (by omega) (h2.range ok)).eq
   have g0:(cells (p::ps))[0]?=some (slc p.left):=rfl
   have g1:(cells (p::ps))[1]?=some (slc p.right):=rfl
   have hpl:((p::ps).length:Int) > 0:=by simp
   have hin:inB (0:Int) (p::ps).length=true:=(q5f 0 _).trans (by simp)
   have hfx:=hb.applied_free p.left
   have hfy:=hb.applied_free p.right
   have hox:=fun h=>hb.applied_ok h1 h
   have hoy:=fun h=>hb.applied_ok h2 h
   have hhx:=fun h h'=>hb.head_var (hox h) h'
   have hhy:=fun h h'=>hb.head_var (hoy h) h'
   have hb1:decide (0≤(1:Int))=true:=rfl
   have hb2:(1:Int)≤((p::ps).length:Int):=by simp only [List.length_cons]; omega
   have hlx:=q8i hbo p.left
   have hly:=q8i hbo p.right
   obtain ⟨Z,hZ⟩:∃ Z,Z=qjv l b p ps uT (fun (b:Bnd) (ps:List Pr)=>q0g.at0 (n+20) f (q0g.st0 (cells ps) (cells l) (cells b.1) (cells b.2))):=⟨_,rfl⟩
   show _=qjv l b p ps uT (fun (b:Bnd) (ps:List Pr)=>q0g.at0 (n+20) f (q0g.st0 (cells ps) (cells l) (cells b.1) (cells b.2)))
   rw [← hZ]
   unfold qjv at hZ
   simp only [q0g.next0,q0g.round0,evz,Nat.reduceLT,hpl,hin,g0,g1,a1,a2,hb1,hb2,Int.le_refl,Bool.and_self,qhm]
   generalize q03 b.1 b.2 p.left=x at *
   generalize q03 b.1 b.2 p.right=y at *
   by_cases c1:24 < x.length
   · have c1':(x.length:Int) > 24:=by omega
     rw [if_pos (.inl c1)] at hZ
     simp only [c1',evz,Nat.reduceLT]
     rw [hZ]
     rfl
   by_cases c1b:24 < y.length
   · have c1':¬ (x.length:Int) > 24:=by omega
     have c1b':(y.length:Int) > 24:=by omega
     rw [if_pos (.inr c1b)] at hZ
     simp only [c1',c1b',evz,Nat.reduceLT]
     rw [hZ]
     rfl
   have c1':¬ (x.length:Int) > 24:=by omega
   have c1b':¬ (y.length:Int) > 24:=by omega
   have hx:=hox (by omega)
   have hy:=hoy (by omega)
   have hxp:=hx.pos
   have hyp:=hy.pos
   have heq:=(q0r x y ⟨by omega,fun _ _=>trivial⟩).eq
   rw [if_neg (by omega)] at hZ
   by_cases c2:x=y
   · rw [if_pos c2] at hZ
     rw [decide_eq_true c2] at heq
     simp only [c1',c1b',evz,Nat.reduceLT,heq]
     rw [hZ]
   rw [if_neg c2] at hZ
   rw [decide_eq_false c2] at heq
   have x0:=q94 hx
   have y0:=q94 hy
   have inx:inB (0:Int) x.length=true:=(q5f 0 _).trans (by simp; omega)
   have iny:inB (0:Int) y.length=true:=(q5f 0 _).trans (by simp; omega)
   by_cases c3:x.getD 0 0 < 0
   · have c3':¬ x.getD 0 0 ≥ 0:=by omega
     obtain ⟨hv,_⟩:=hhx (by omega) c3
     have hct:=(q1u y (x.getD 0 0) (by omega)).eq
     have h5:=qg3 ok hb (ps:=ps) hx hy hv (N:=n+20) (by omega) (q0g.at0 (n+20) f)
     rw [if_pos c3] at hZ
     by_cases c4:x.getD 0 0∈y
     · rw [if_pos c4] at hZ
       rw [decide_eq_true c4] at hct
       simp only [c1',c1b',evz,Nat.reduceLT,heq,inx,x0,c3,c3',hct]
       rw [hZ]
       rfl
     · rw [if_neg c4] at hZ
       rw [decide_eq_false c4] at hct
       simp only [c1',c1b',evz,Nat.reduceLT,heq,inx,x0,c3,c3',hct,q1z (x := -1 - x.getD 0 0) (by omega),qdd (k:=1) (l:=y) rfl]
       rw [hZ]
       exact h5
   rw [if_neg c3] at hZ
   have c3':x.getD 0 0 ≥ 0:=by omega
   by_cases c5:y.getD 0 0 < 0
   · obtain ⟨hv,_⟩:=hhy (by omega) c5
     have hct:=(q1u x (y.getD 0 0) (by omega)).eq
     have h5:=qg3 ok hb (ps:=ps) hy hx hv (N:=n+20) (by omega) (q0g.at0 (n+20) f)
     rw [if_pos c5] at hZ
     by_cases c4:y.getD 0 0∈x
     · rw [if_pos c4] at hZ
       rw [decide_eq_true c4] at hct
       simp only [c1',c1b',evz,Nat.reduceLT,heq,inx,iny,x0,y0,c3,c3',c5,hct]
       rw [hZ]
       rfl
     · rw [if_neg c4] at hZ
       rw [decide_eq_false c4] at hct
       simp only [c1',c1b',evz,Nat.reduceLT,heq,inx,iny,x0,y0,c3,c3',c5,hct,q1z (x := -1 - y.getD 0 0) (by omega),qdd (k:=1) (l:=x) rfl]
       rw [hZ]
       exact h5
   rw [if_neg c5] at hZ
   by_cases c6:x.getD 0 0=y.getD 0 0
   · rw [if_neg (by simpa using c6)] at hZ
     have h3:=qna ok (b:=b) (ps:=ps) hl hx hy c6 (N:=n+20) (by omega) (q0g.at0 (n+20) f)
     have sx:=(q0z ok hx (p:=0) (by omega)).eq
     have sy:=(q0z ok hy (p:=0) (by omega)).eq
     simp only [c1',c1b',evz,Nat.reduceLT,heq,inx,iny,x0,y0,c3,c5,c6]
     rw [c6] at c3
     have sx':LIM F.q0z [.agg [slc l],slc x,.int .i64 0]=some (slc (ints (q36 l x 0)),[]):=sx
     have sy':LIM F.q0z [.agg [slc l],slc y,.int .i64 0]=some (slc (ints (q36 l y 0)),[]):=sy
     simp only [c5,evz,Nat.reduceLT,sx',sy',q4i]
     rw [hZ]
     exact h3
   · rw [if_pos c6] at hZ
     simp only [c1',c1b',evz,Nat.reduceLT,heq,inx,iny,x0,y0,c3,c5,c6]
     rw [hZ]
     rfl
end
def qnn (b:Bnd) (v:Int) (t:List Int):Bnd ⊕ Int:=if -1 - v∈t then .inr 4 else match q56 b v t with
 | none => .inr 2
 | some b' => .inl b'
section
variable {l:List Symbol} (ok:SigOk ⟨l⟩)
include ok
theorem q1y {b:Bnd} (hb:UB l b) {v:Int} (hv:0≤v∧v≤11) (hnb:v∉b.1) {t:List Int} (ht:TermOk l t) :
 LIM F.q1y [.rref [slc b.1,slc b.2] 0,.int .i64 v,slc t]=uT (qnn b v t):=by
 have hcall:∀ r,q1m prog Ev.A H LIM 20 F.q1y [.rref [slc b.1,slc b.2] 0,.int .i64 v,slc t]=uT r→LIM F.q1y [.rref [slc b.1,slc b.2] 0,.int .i64 v,slc t]=uT r:=fun r h=>by
  cases r with
  | inl x=>exact q0v rfl _ h
  | inr x=>exact q0v rfl _ h
 have hbl:=hb.le
 have hlen:=hb.mb.len
 have htl:=ht.le
 have hone:=qsg (l:=l) hv ht
 have hbo:=hone.ok (by omega)
 refine hcall _ ((q1y.ev _ _ _ _ _).trans ?_)
 have hc:=(q1k t (-1 - v) (by omega)).eq
 have hi:=(q4p b.1 (by omega)).eq
 unfold qnn
 by_cases hm : -1 - v∈t
 · have h0:((t.count (-1 - v):Nat):Int) > 0:=by have:=List.count_pos_iff.2 hm; omega
   rw [if_pos hm]
   simp only [evz,Nat.reduceLT,q1z (x := -1 - v) (by omega),hc,h0]
   rfl
 have h0:¬ ((t.count (-1 - v):Nat):Int) > 0:=by rw [List.count_eq_zero.2 hm]; omega
 rw [if_neg hm]
 simp only [evz,Nat.reduceLT,q1z (x := -1 - v) (by omega),hc,h0,hi]
 have loop:∀ n k f,k+n=b.2.length→n < f→(∀ x∈b.2.take k,(q03 [v] [t] x).length≤24) →
  q1y.at0 20 f (q1y.st0 (cells b.1) (cells b.2) v (cells t) (k:Nat) [.int .i64 v] [slc t] (cells b.1) (cells ((b.2.take k).map (q03 [v] [t])))) =
   if ((b.2.drop k).any fun x=>decide (24 < (q03 [v] [t] x).length))=true then uT (.inr 2) else uT (.inl (bput (b.1,b.2.map (q03 [v] [t])) v t)):=by
  intro n
  induction n with
  | zero =>
    intro k f hk hf hq
    obtain ⟨f,rfl⟩:∃ x,f=x+1:=⟨f - 1,by omega⟩
    obtain rfl:k=b.2.length:=by omega
    rw [List.take_length] at hq ⊢
    rw [List.drop_of_length_le (Nat.le_refl _)]
    have hw:=(q1r b.1 (b.2.map (q03 [v] [t])) v t (by simp; omega) (by omega) (by omega) hnb (fun x hx=>by
     obtain ⟨y,hy,rfl⟩:=List.mem_map.1 hx
     have:=hq y hy
     omega)).eq
    simp only [q1y.next0,q1y.round0,evz,Nat.reduceLT,Nat.lt_irrefl,hw,List.any_nil,Bool.false_eq_true,if_false]
    rfl
  | succ n ih =>
    intro k f hk hf hq
    obtain ⟨f,rfl⟩:∃ x,f=x+1:=⟨f - 1,by omega⟩
    have hkl:k < b.2.length:=by omega
    have hto:=hb.mb.tm _ (List.getElem_mem hkl)
    have htol:=hto.le
    have happ:LIM F.q19 [.rref [.sl 1 [.int .i64 v],.sl 1 [slc t]] 0,slc b.2[k]]=some (slc (q03 [v] [t] b.2[k]),[]):=(q19 [v] [t] hbo b.2[k] (by omega) (hto.range ok)).eq
    have hg:b.2[k]?=some b.2[k]:=List.getElem?_eq_getElem hkl
    have he:∀ x:List Int,(enc x)[0]?=some (slc x):=fun _=>rfl
    rw [List.drop_eq_getElem_cons hkl,List.any_cons]
    have e1:(b.2.take (k+1)).map (q03 [v] [t])=(b.2.take k).map (q03 [v] [t])++[q03 [v] [t] b.2[k]]:=by rw [← List.take_append_getElem hkl,List.map_append]; rfl
    by_cases h24:24 < (q03 [v] [t] b.2[k]).length
    · have h24':((q03 [v] [t] b.2[k]).length:Int) > 24:=by omega
      simp only [q1y.next0,q1y.round0,evz,Nat.reduceLT,hkl,hg,he,happ,h24',h24,Bool.true_or]
      rfl
    · have h24':¬ ((q03 [v] [t] b.2[k]).length:Int) > 24:=by omega
      simp only [q1y.next0,q1y.round0,evz,Nat.reduceLT,hkl,hg,he,happ,h24',h24,Bool.false_or]
      rw [q0o (by omega),q1h (q3t (by rw [q0n,show Enc.sz (List Int)=1 from rfl]; simp; omega))]
      have:=ih (k+1) f (by omega) (by omega) (fun x hx=>by
       rw [← List.take_append_getElem hkl] at hx
       rcases List.mem_append.1 hx with hx | hx
       · exact hq x hx
       · rw [List.mem_singleton.1 hx]; omega)
      rw [e1,q2t] at this
      exact this
 have:=loop b.2.length 0 20 (by omega) (by omega) (by simp)
 rw [List.take_zero,List.map_nil,List.drop_zero] at this
 refine this.trans ?_
 unfold q56
 by_cases h:(b.2.any fun x=>decide (24 < (q03 [v] [t] x).length))=true
 · rw [if_pos h,if_pos h]
 · rw [if_neg h,if_neg h]
theorem q2e {x y:List Int} (hx:TermOk l x) (hy:TermOk l y) (h0:0≤x.getD 0 0) (he:x.getD 0 0=y.getD 0 0):Call F.q2e [.rref [slc l] 0,slc x,slc y] (slc (q61 l x y)):=by
 have hlx:=hx.le
 have hly:=hy.le
 have hxp:=hx.pos
 have hyp:=hy.pos
 have hdx:x.getD 0 0=x[0]:=q7p (by omega)
 have hdy:y.getD 0 0=y[0]:=q7p (by omega)
 have har:=qmi (l:=l) ok x[0]
 have hnode:=q4e.1 (hx.node _ (List.getElem_mem (n:=0) (by omega)))
 have hls:l.length≤6:=ok.le
 obtain ⟨u,hu⟩:∃ u:Nat,x[0]=u:=⟨x[0].toNat,by omega⟩
 have hul:u < l.length:=by omega
 have hare:(l[u]).arity=(ar l x[0]:Nat):=by
  have:=qos ok (n:=x[0]) (by omega) (by rw [hu]; simpa using hul)
  simpa [hu] using this
 have hin:inB (0:Int) x.length=true:=(q5f 0 _).trans (by simp; omega)
 have hx0:=q94 hx
 rw [hdx,hu] at hx0
 have hlu:l[u]?=some l[u]:=List.getElem?_eq_getElem hul
 refine q0v rfl 4 ((q2e.ev _ _ _ _).trans ?_)
 have loop:∀ n k q r f (out:List Pr) rx ry,k+n=ar l x[0]→n < f→skip (ar l) n (x.drop q)=some rx→skip (ar l) n (y.drop r)=some ry→out.length=k →
  q2e.at0 4 f (q2e.st0 (cells l) (cells x) (cells y) (q:Nat) (r:Nat) (k:Nat) (cells out)) =
   some (slc (out++((q66 l x n q).zip (q66 l y n r)).map fun p=>(⟨q3e l x p.1,q3e l y p.2⟩:Pr)),[]):=by
  intro n
  induction n with
  | zero =>
    intro k q r f out rx ry hk hf h1 h2 ho
    obtain ⟨f,rfl⟩:∃ x,f=x+1:=⟨f - 1,by omega⟩
    have:¬ k < ar l x[0]:=by omega
    rw [hu] at this
    simp only [q2e.next0,q2e.round0,evz,Nat.reduceLT,hin,hx0,hlu,hul,q2a,hare,q66,List.zip_nil_left,List.map_nil,List.append_nil,hu,this]
  | succ n ih =>
    intro k q r f out rx ry hk hf h1 h2 ho
    obtain ⟨f,rfl⟩:∃ x,f=x+1:=⟨f - 1,by omega⟩
    obtain ⟨a1,a2,a3,a4⟩:=qc6 h1
    obtain ⟨b1,b2,b3,b4⟩:=qc6 h2
    have hlt:k < ar l x[0]:=by omega
    rw [hu] at hlt
    have sx:=(q64 ok hx a1).eq
    have sy:=(q64 ok hy b1).eq
    have ex:q+(q3e l x q).length=q6r l x q:=by unfold q3e; simp; omega
    have ey:r+(q3e l y r).length=q6r l y r:=by unfold q3e; simp; omega
    have ic:=ih (k+1) (q6r l x q) (q6r l y r) f (out++[⟨q3e l x q,q3e l y r⟩]) rx ry (by omega) (by omega) a2 b2 (by simp [ho])
    simp only [q2e.next0,q2e.round0,evz,Nat.reduceLT,hin,hx0,hlu,hul,q2a,hare,hu,hlt,sx,sy]
    rw [q1z (x:=(q:Int)+_) (by omega),q1z (x:=(r:Int)+_) (by omega),q0o (by omega),q1h (q3t (by rw [q0n,q3y]; omega))]
    rw [show (q:Int)+((q3e l x q).length:Nat)=(q6r l x q:Nat) by omega,show (r:Int)+((q3e l y r).length:Nat)=(q6r l y r:Nat) by omega]
    rw [q2t] at ic
    refine Eq.trans ?_ (ic.trans ?_)
    · rfl
    · rw [q66,q66,List.zip_cons_cons,List.map_cons,List.append_assoc]; rfl
 obtain ⟨rx,hrx⟩:=qaa hx (p:=0) (by omega)
 obtain ⟨ry,hry⟩:=qaa hy (p:=0) (by omega)
 have hay:ar l y[0]=ar l x[0]:=by rw [← hdx,← hdy,he]
 rw [hay] at hry
 have:=loop (ar l x[0]) 0 1 1 4 [] rx ry (by omega) (by omega) hrx hry rfl
 unfold q61 q36
 rw [hdx,hdy,hay]
 exact this
theorem q1d {a b:List Int} (ha:TermOk l a) (hb:TermOk l b):LIM F.q1d [.rref [slc l] 0,slc a,slc b]=uT (qcz l a b):=by
 obtain ⟨⟨n,hn⟩,_⟩:=q8e ha hb
 have hal:=ha.le
 have hbl:=hb.le
 have hcall:∀ r,q1m prog Ev.A H LIM (n+20) F.q1d [.rref [slc l] 0,slc a,slc b]=uT r→LIM F.q1d [.rref [slc l] 0,slc a,slc b]=uT r:=fun r h=>by
  cases r with
  | inl x=>exact q0v rfl _ h
  | inr x=>exact q0v rfl _ h
 refine hcall _ ((q1d.ev _ _ _ _).trans ?_)
 have i1:=(q4p a (by omega)).eq
 have i2:=(q4p b (by omega)).eq
 simp only [evz,Nat.reduceLT,i1,i2]
 have loop:=qgp (l:=l) (S:=fun f (b:Bnd) (ps:List Pr)=>q1d.at0 (n+20) f (q1d.st0 (cells l) (cells ps) (cells b.1) (cells b.2))) (out:=uT)
  (fun f b=>by
   simp only [q1d.next0,q1d.round0,qdf,List.length_nil]
   rfl)
  (fun f b p ps hb h1 h2 hps hl => ?_) n (n+20) ([],[]) [⟨a,b⟩] _ (by omega) (UB.nil l) (fun p hp=>by rw [List.mem_singleton.1 hp]; exact ⟨ha,hb⟩) ⟨[],_,rfl,by simp [q7k],by simp⟩ hn
 · exact loop
 · have hbo:=hb.mb.ok (by omega)
   have hl1:=h1.le
   have hl2:=h2.le
   have a1:=(q19 b.1 b.2 hbo p.left (by omega) (h1.range ok)).eq
   have a2:=(q19 b.1 b.2 hbo p.right (by omega) (h2.range ok)).eq
   have g0:(cells (p::ps))[0]?=some (slc p.left):=rfl
   have g1:(cells (p::ps))[1]?=some (slc p.right):=rfl
   have hpl:((p::ps).length:Int) > 0:=by simp
   have hin:inB (0:Int) (p::ps).length=true:=(q5f 0 _).trans (by simp)
   have hfx:=hb.applied_free p.left
   have hfy:=hb.applied_free p.right
   have hox:=fun h=>hb.applied_ok h1 h
   have hoy:=fun h=>hb.applied_ok h2 h
   have hhx:=fun h h'=>hb.head_var (hox h) h'
   have hhy:=fun h h'=>hb.head_var (hoy h) h'
   have hb1:decide (0≤(1:Int))=true:=rfl
   have hb2:(1:Int)≤((p::ps).length:Int):=by simp only [List.length_cons]; omega
   have hlx:=q8i hbo p.left
   have hly:=q8i hbo p.right
   obtain ⟨Z,hZ⟩:∃ Z,Z=qjv l b p ps uT (fun (b:Bnd) (ps:List Pr)=>q1d.at0 (n+20) f (q1d.st0 (cells l) (cells ps) (cells b.1) (cells b.2))):=⟨_,rfl⟩
   show _=qjv l b p ps uT (fun (b:Bnd) (ps:List Pr)=>q1d.at0 (n+20) f (q1d.st0 (cells l) (cells ps) (cells b.1) (cells b.2)))
   rw [← hZ]
   unfold qjv at hZ
   simp only [q1d.next0,q1d.round0,evz,Nat.reduceLT,hpl,hin,g0,g1,a1,a2,hb1,hb2,Int.le_refl,Bool.and_self,qhm]
   generalize q03 b.1 b.2 p.left=x at *
   generalize q03 b.1 b.2 p.right=y at *
   by_cases c1:24 < x.length
   · have c1':(x.length:Int) > 24:=by omega
     rw [if_pos (.inl c1)] at hZ
     simp only [c1',evz,Nat.reduceLT]
     rw [hZ]
     rfl
   by_cases c1b:24 < y.length
   · have c1':¬ (x.length:Int) > 24:=by omega
     have c1b':(y.length:Int) > 24:=by omega
     rw [if_pos (.inr c1b)] at hZ
     simp only [c1',c1b',evz,Nat.reduceLT]
     rw [hZ]
     rfl
   have c1':¬ (x.length:Int) > 24:=by omega
   have c1b':¬ (y.length:Int) > 24:=by omega
   have hx:=hox (by omega)
   have hy:=hoy (by omega)
   have hxp:=hx.pos
   have hyp:=hy.pos
   have heq:=(q23 x y ⟨by omega,fun _ _=>trivial⟩).eq
   rw [if_neg (by omega)] at hZ
   by_cases c2:x=y
   · rw [if_pos c2] at hZ
     rw [decide_eq_true c2] at heq
     simp only [c1',c1b',evz,Nat.reduceLT,heq]
     rw [hZ]
   rw [if_neg c2] at hZ
   rw [decide_eq_false c2] at heq
   have x0:=q94 hx
   have y0:=q94 hy
   have inx:inB (0:Int) x.length=true:=(q5f 0 _).trans (by simp; omega)
   have iny:inB (0:Int) y.length=true:=(q5f 0 _).trans (by simp; omega)
   by_cases c3:x.getD 0 0 < 0
   · obtain ⟨hv,hnb⟩:=hhx (by omega) c3
     have h5:=q1y ok hb hv hnb hy
     unfold qnn at h5
     rw [show -1 - (-1 - x.getD 0 0)=x.getD 0 0 by omega] at h5
     rw [if_pos c3] at hZ
     by_cases c4:x.getD 0 0∈y
     · rw [if_pos c4] at hZ h5
       simp only [c1',c1b',evz,Nat.reduceLT,heq,inx,x0,c3,q1z (x := -1 - x.getD 0 0) (by omega),h5]
       rw [hZ]
       rfl
     · rw [if_neg c4] at hZ h5
       simp only [c1',c1b',evz,Nat.reduceLT,heq,inx,x0,c3,q1z (x := -1 - x.getD 0 0) (by omega),h5]
       rw [hZ]
       cases q56 b (-1 - x.getD 0 0) y with
       | none=>rfl
       | some b'=>rfl
   rw [if_neg c3] at hZ
   by_cases c5:y.getD 0 0 < 0
   · obtain ⟨hv,hnb⟩:=hhy (by omega) c5
     have h5:=q1y ok hb hv hnb hx
     unfold qnn at h5
     rw [show -1 - (-1 - y.getD 0 0)=y.getD 0 0 by omega] at h5
     rw [if_pos c5] at hZ
     by_cases c4:y.getD 0 0∈x
     · rw [if_pos c4] at hZ h5
       simp only [c1',c1b',evz,Nat.reduceLT,heq,inx,iny,x0,y0,c3,c5,q1z (x := -1 - y.getD 0 0) (by omega),h5]
       rw [hZ]
       rfl
     · rw [if_neg c4] at hZ h5
       simp only [c1',c1b',evz,Nat.reduceLT,heq,inx,iny,x0,y0,c3,c5,q1z (x := -1 - y.getD 0 0) (by omega),h5]
       rw [hZ]
       cases q56 b (-1 - y.getD 0 0) x with
       | none=>rfl
       | some b'=>rfl
   rw [if_neg c5] at hZ
   by_cases c6:x.getD 0 0=y.getD 0 0
   · rw [if_neg (by simpa using c6)] at hZ
     have h3:=(q2e ok hx hy (by omega) c6).eq
     have hal:(q61 l x y).length≤2:=by
      have:=qd6 ok x 0
      unfold q61; rw [List.length_map,List.length_zip]; omega
     rw [c6] at x0 c3
     simp only [c1',c1b',evz,Nat.reduceLT,heq,inx,iny,x0,y0,c3,c5,eq_self,h3]
     rw [q1h (q3t (by rw [q0n,q0n,q3y]; omega)),← q2t]
     rw [hZ]
   · rw [if_pos c6] at hZ
     simp only [c1',c1b',evz,Nat.reduceLT,heq,inx,iny,x0,y0,c3,c5,c6]
     rw [hZ]
     rfl
end
end Ev.Ty
end
