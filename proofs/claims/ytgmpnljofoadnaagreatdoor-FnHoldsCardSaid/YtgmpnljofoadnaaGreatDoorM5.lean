/- Steps on the way to RowHolds: TyVars, TyEqs, TyRules, TyHolds, TyAllHold, TySame, TyBind, TyCmp, TyWalk, TyMatchP, TySortP, TyLpoP, TyLpo, TyLpoS, TyPartP, TyPigeon, TyOrd, TyNormP, TyMatch, TyNorm, TyNormL, TyHasVar, TyEntries, TySortT, TySortQ, TyGreat, TyStabP, TySoundP, TyRedexP, TyAlgOf, TySemP, TyDraw, TyDrawT, TyTheory. -/
import Derived.Test.YtgmpnljofoadnaaGreatDoorM4
set_option linter.unusedSectionVars false
set_option linter.unusedVariables false
set_option linter.unusedSimpArgs false
section
namespace Ev.Ty
open Go Ev
open Enc (enc)
open Sm (sm)
set_option linter.unusedSimpArgs false
set_option linter.unusedVariables false
theorem q67:∀ l:List Int,intsT l=cells l
 | []=>rfl
 | x::l=>by rw [q6p,← q67 l]; rfl
def sorted (l:List Int):List Int:=l.mergeSort fun x y=>decide (x≤y)
theorem q63 (l:List Int) (h:l.length≤4294967296):LIM F.q63 [slc l]=some (.tup [],[slc (sorted l)]):=by
 refine lim_ext (e:=sortE) rfl (Ev.of fun m => ?_)
 show ((intsOf (cells l)).bind fun zs=>bif decide (zs.length < 4611686018427387904) then some (T.tup [],[T.sl 1 (intsT (zs.mergeSort fun x y=>decide (x≤y)))]) else none)=_
 rw [← q67,q8l,Option.bind_some,decide_eq_true (by omega),cond_true,q67]
 rfl
theorem q5g (l:List Int) (h:l.length≤4294967296):Call F.q5g [slc l] (slc (Lib.compact l)):=by
 refine lim_ext (e:=compactE) rfl (Ev.of fun m => ?_)
 show ((intsOf (cells l)).bind fun zs=>bif decide (zs.length < 4611686018427387904) then some (T.sl 1 (intsT (Lib.compact zs)),[]) else none)=_
 rw [← q67,q8l,Option.bind_some,decide_eq_true (by omega),cond_true,q67]
 rfl
theorem mem_compact {l:List Int} {x:Int}:x∈Lib.compact l↔x∈l:=by
 unfold Lib.compact Lib.compactUpTo
 simp only [List.mem_map,List.mem_filter,List.mem_range]
 constructor
 · rintro ⟨j,⟨hj,_⟩,rfl⟩
   rw [getElem!_pos _ j (by simpa using hj)]
   simp
 · intro h
   obtain ⟨i,hi,rfl⟩:=List.mem_iff_getElem.1 h
   have:∀ j,(hj:j < l.length)→∃ k,(k < l.length∧Lib.keeps l.toArray k=true)∧l.toArray[k]! = l[j]:=by
    intro j
    induction j with
    | zero=>intro hj; exact ⟨0,⟨hj,by simp [Lib.keeps]⟩,by simp [hj]⟩
    | succ j ih =>
      intro hj
      by_cases e:l[j+1]=l[j]
      · obtain ⟨k,hk,he⟩:=ih (by omega)
        exact ⟨k,hk,by rw [he,e]⟩
      · refine ⟨j+1,⟨hj,?_⟩,by simp [hj]⟩
        have hj':j < l.length:=by omega
        simp [Lib.keeps,hj,hj',e]
   exact this i hi
theorem compact_length (l:List Int):(Lib.compact l).length≤l.length:=compact_len l
def vars (t:List Int):List Int:=(t.filter fun n=>decide (n < 0)).map fun n => -1 - n
theorem mem_vars {t:List Int} {v:Int}:v∈vars t↔0≤v∧(-1 - v)∈t:=by
 unfold vars
 simp only [List.mem_map,List.mem_filter,decide_eq_true_eq]
 constructor
 · rintro ⟨n,⟨hn,h0⟩,rfl⟩
   exact ⟨by omega,by rw [show -1 - (-1 - n)=n by omega]; exact hn⟩
 · rintro ⟨h0,h⟩
   exact ⟨-1 - v,⟨h,by omega⟩,by omega⟩
theorem vars_length (t:List Int):(vars t).length≤t.length:=by
 unfold vars
 rw [List.length_map]; exact List.length_filter_le _ _
def q8w (l:List (List Int)):List Int:=Lib.compact (sorted (l.flatMap vars))
theorem q7q {l:List (List Int)} {v:Int}:v∈q8w l↔0≤v∧∃ t∈l,(-1 - v)∈t:=by
 unfold q8w sorted
 rw [mem_compact,List.mem_mergeSort,List.mem_flatMap]
 constructor
 · rintro ⟨t,ht,h⟩
   obtain ⟨h0,h1⟩:=mem_vars.1 h
   exact ⟨h0,t,ht,h1⟩
 · rintro ⟨h0,t,ht,h1⟩
   exact ⟨t,ht,mem_vars.2 ⟨h0,h1⟩⟩
theorem flat_vars_length:∀ l:List (List Int),(l.flatMap vars).length≤(l.map List.length).sum
 | []=>by simp
 | t::l=>by
   rw [List.flatMap_cons,List.length_append,List.map_cons,List.sum_cons]
   have:=vars_length t
   have:=flat_vars_length l
   omega
theorem varsOf_length (l:List (List Int)):(q8w l).length≤(l.map List.length).sum:=by
 unfold q8w
 refine Nat.le_trans (compact_length _) ?_
 unfold sorted
 rw [List.length_mergeSort]
 exact flat_vars_length l
theorem q0r (l:List (List Int)) (hl:l.length≤24) (ht:∀ t∈l,t.length≤4294967296∧∀ n∈t,-12≤n) (hsum:(l.map List.length).sum≤4294967296):Call F.q0r [slc l] (slc (q8w l)):=by
 obtain ⟨N,hN⟩:∃ N,N=4294967297:=⟨_,rfl⟩
 have inner:∀ (L0:St→R) (x0:List T) (x1 x2:Int) (t:List Int),(∀ n∈t,-12≤n)→∀ m k (acc:List Int),k≤t.length→t.length < m+k→acc.length+t.length≤k+4294967296→t.length≤4294967296 →
  q0r.at2 N L0 m (q0r.st2 x0 x1 x2 (cells t) t.length (k:Nat) (cells acc))=L0 (q0r.st0 x0 x1 (IntKind.wrap .i64 (x2+1)) (cells (acc++vars (t.drop k)))):=by
  intro L0 x0 x1 x2 t hn m
  induction m with
  | zero=>intros; omega
  | succ m ih =>
    intro k acc hk hm hacc htl
    by_cases h:k < t.length
    · have hlk:t[k]?=some t[k]:=List.getElem?_eq_getElem h
      simp only [q0r.next2,q0r.round2,evz,Nat.reduceLT,h,hlk,q1r]
      rw [q0m (by omega),List.drop_eq_getElem_cons h]
      have hge:=hn t[k] (List.getElem_mem h)
      by_cases h0:t[k] < 0
      · have hble:Nat.ble (((cells acc).length+1)*8) (140737488355328*1)=true:=by
         rw [Nat.ble_eq,q0u,q3l]; omega
        rw [q27 (by omega),q2j,hble,ih (k+1) (acc++[-1 - t[k]]) (by omega) (by omega) (by rw [List.length_append]; simp; omega) htl]
        simp only [h0,evz,Nat.reduceLT,vars,List.filter_cons,List.map_cons,List.append_assoc,List.singleton_append]
      · rw [ih (k+1) acc (by omega) (by omega) (by omega) htl]
        simp only [h0,evz,Nat.reduceLT,vars,List.filter_cons,Bool.false_eq_true]
    · obtain rfl:k=t.length:=by omega
      simp only [q0r.next2,q0r.round2,evz,Nat.reduceLT,Nat.lt_irrefl,List.drop_length,vars,List.filter_nil,List.map_nil,List.append_nil]
 have outer:∀ m k (acc:List Int),k≤l.length→l.length < m+k→acc.length+((l.drop k).map List.length).sum≤4294967296 →
  q0r.at0 N m (q0r.st0 (cells l) l.length (k:Nat) (cells acc))=some (slc (Lib.compact (sorted (acc++(l.drop k).flatMap vars))),[]):=by
  intro m
  induction m with
  | zero=>intros; omega
  | succ m ih =>
    intro k acc hk hm hacc
    by_cases h:k < l.length
    · have hlk:l[k]?=some l[k]:=List.getElem?_eq_getElem h
      obtain ⟨q1,q2⟩:=ht l[k] (List.getElem_mem h)
      rw [List.drop_eq_getElem_cons h,List.map_cons,List.sum_cons] at hacc
      simp only [q0r.next0,q0r.round0,evz,Nat.reduceLT,h,hlk,q5h]
      have hin:=inner (q0r.at0 N m) (cells l) l.length (k:Nat) l[k] q2 N 0 acc (by omega) (by omega) (by omega) q1
      rw [List.drop_zero,q0m (by omega)] at hin
      refine Eq.trans hin ?_
      have:=vars_length l[k]
      rw [ih (k+1) (acc++vars l[k]) (by omega) (by omega) (by rw [List.length_append]; omega),List.drop_eq_getElem_cons h,List.flatMap_cons,List.append_assoc]
    · obtain rfl:k=l.length:=by omega
      rw [List.drop_length] at hacc ⊢
      have hs:=q63 acc (by simpa using hacc)
      have hc:=q5g (sorted acc) (by unfold sorted; rw [List.length_mergeSort]; simpa using hacc)
      simp only [q0r.next0,q0r.round0,evz,Nat.reduceLT,Nat.lt_irrefl,List.flatMap_nil,List.append_nil]
      simp only [hs,hc.eq,evz,Nat.reduceLT]
 refine q0s rfl N ((q0r.ev _ _).trans ?_)
 have:=outer N 0 [] (by omega) (by omega) (by simpa using hsum)
 rw [List.drop_zero,List.nil_append] at this
 simp only [q53,sz_list]
 exact this
end Ev.Ty
end
section
namespace Ev.Ty
open Go Ev
open Enc (enc)
open Sm (sm)
set_option linter.unusedSimpArgs false
set_option linter.unusedVariables false
def low6 (t:List Int):Bool := !t.any fun n=>decide (n < -6)
theorem low6_iff {t:List Int}:low6 t=true↔∀ n∈t,-6≤n:=by
 unfold low6
 rw [Bool.not_eq_true',List.any_eq_false]
 constructor
 · intro h n hn; have:=h n hn; simpa using this
 · intro h n hn; simpa using h n hn
def q38 (l:List Symbol) (e:Equation):Int :=
 if q2p l e.left≠0 then q2p l e.left else if q2p l e.right≠0 then q2p l e.right else if low6 e.left=true then (if low6 e.right=true then 0 else 3) else 3
def q62 (l:List Symbol) (es:List Equation):Int :=
 if 12 < es.length then 2 else (es.findSome? fun e=>if q38 l e≠0 then some (q38 l e) else none).getD 0
def q83 (e:Equation):Bool:=decide (0≤e.left.headD 0) && !e.right.any fun n=>decide (n < 0∧n∉e.left)
def q7m (l:List Symbol) (es:List Equation):Int:=if q62 l es≠0 then q62 l es else if (es.any fun e => !q83 e)=true then 1 else 0
def q4h (s:Signature) (es:List Equation):Int:=if q2o s≠0 then q2o s else q7m s.symbols es
structure EqOk (l:List Symbol) (e:Equation):Prop where
 left:TermOk l e.left
 right:TermOk l e.right
 lowL:∀ n∈e.left,-6≤n
 lowR:∀ n∈e.right,-6≤n
theorem eqOk_iff {l:List Symbol} {e:Equation}:q38 l e=0↔EqOk l e:=by
 unfold q38
 constructor
 · intro h
   by_cases h1:q2p l e.left=0
   · by_cases h2:q2p l e.right=0
     · by_cases h3:low6 e.left=true
       · by_cases h4:low6 e.right=true
         · exact ⟨(q47 _ _).1 h1,(q47 _ _).1 h2,low6_iff.1 h3,low6_iff.1 h4⟩
         · simp [h1,h2,h3,h4] at h
       · simp [h1,h2,h3] at h
     · simp [h1,h2] at h
   · simp [h1] at h
 · intro h
   simp [(q47 _ _).2 h.left,(q47 _ _).2 h.right,low6_iff.2 h.lowL,low6_iff.2 h.lowR]
theorem q8f {l:List Symbol} {es:List Equation}:q62 l es=0↔es.length≤12∧∀ e∈es,EqOk l e:=by
 unfold q62
 by_cases h:12 < es.length
 · rw [if_pos h]
   constructor
   · intro h; cases h
   · intro h'; omega
 · rw [if_neg h]
   have:(es.findSome? fun e=>if q38 l e≠0 then some (q38 l e) else none).getD 0=0↔∀ e∈es,q38 l e=0:=by
    cases hf:es.findSome? fun e=>if q38 l e≠0 then some (q38 l e) else none with
    | none =>
      rw [q7h] at hf
      refine ⟨fun _ e he => ?_,fun _=>rfl⟩
      have:=hf e he
      by_cases h:q38 l e=0
      · exact h
      · simp [h] at this
    | some c =>
      obtain ⟨e,he,h1⟩:=List.exists_of_findSome?_eq_some hf
      by_cases h:q38 l e=0
      · simp [h] at h1
      · simp [h] at h1
        subst h1
        exact ⟨fun h'=>absurd h' h,fun h'=>absurd (h' e he) h⟩
   rw [this]
   constructor
   · intro h'; exact ⟨by omega,fun e he=>eqOk_iff.1 (h' e he)⟩
   · intro h' e he; exact eqOk_iff.2 (h'.2 e he)
theorem TermOk.ge {l:List Symbol} {t:List Int} (h:TermOk l t):∀ n∈t,-12≤n:=fun n hn=>by
 rcases q4a.1 (h.node n hn) with h | h <;> omega
theorem q3j (l:List Int) (x:Int) (hl:l.length≤4294967296):Call F.q3j [slc l,.int .i64 x] (.bool (decide (x∈l))):=by
 have hi:Call F.q0j [slc l,.int .i64 x] (.int .i64 (idx (fun y=>decide (x=y)) l)):=by
  refine q0s rfl (l.length+1) ((q0j.ev _ _ _).trans ?_)
  simp only [evz,Nat.reduceLT]
  refine q6l (S:=fun m k=>q0j.at0 (l.length+1) m (q0j.st0 (cells l) x l.length (k:Nat))) (fun m k h => ?_) (fun m => ?_) (Nat.lt_succ_self _)
  · have hlk:l[k]?=some l[k]:=List.getElem?_eq_getElem h
    simp only [q0j.next0,q0j.round0,evz,Nat.reduceLT,h,hlk,q1r]
    rw [q0m (by omega)]
    by_cases e:x=l[k] <;> simp [e]
  · simp only [q0j.next0,q0j.round0,evz,Nat.reduceLT,Nat.lt_irrefl]
 refine q0s rfl 0 ((q3j.ev _ _ _).trans ?_)
 simp only [evz,Nat.reduceLT,hi.eq,q7g]
 have:(l.any fun y=>decide (x=y))=decide (x∈l):=by
  rw [Bool.eq_iff_iff,List.any_eq_true,decide_eq_true_eq]
  constructor
  · rintro ⟨y,hy,h⟩; rw [decide_eq_true_eq] at h; rw [h]; exact hy
  · intro h; exact ⟨x,h,by simp⟩
 rw [this]
theorem q2x (t:List Int) (hs:t.length≤4294967296) :
 Call F.q1g [slc t,.clo F.q2k []] (.bool (t.any fun n=>decide (n ≥ 6))):=by
 have hi:Call F.q0d [slc t,.clo F.q2k []] (.int .i64 (idx (fun n=>decide (n ≥ 6)) t)):=by
  refine q0s rfl (t.length+1) ((q06.ev _ _).trans ?_)
  refine q6l (S:=fun m k=>q06.at0 (t.length+1) m (q06.st0 (cells t) _ (k:Nat))) (fun m k h => ?_) (fun m => ?_) (Nat.lt_succ_self _)
  · have hlk:t[k]?=some t[k]:=List.getElem?_eq_getElem h
    have hc:Call F.q2k [.int .i64 t[k]] (.bool (decide (t[k] ≥ 6))):=q0s rfl 0 (q2k.ev _ _)
    simp only [q06.next0,q06.round0,evz,Nat.reduceLT,h,hlk,q1r,hc.eq]
    rw [q0m (by omega)]
    by_cases e:t[k] ≥ 6 <;> simp [e]
  · simp only [q06.next0,q06.round0,evz,Nat.reduceLT,Nat.lt_irrefl]
 refine q0s rfl 0 ((q2x.ev _ _).trans ?_)
 simp only [evz,Nat.reduceLT,hi.eq,q7g]
theorem q3z (l:List Symbol) (hs:l.length≤4294967296) (a b:List Int) (ha:a.length≤4294967296) (hb:b.length≤4294967296) :
 Call F.q3z [.agg [slc l],.agg [slc a,slc b]] (.int .i64 (if q2o ⟨l⟩≠0 then q2o ⟨l⟩ else q38 l ⟨a,b⟩)):=by
 refine q0s rfl 0 ((q3z.ev _ _ _ _).trans ?_)
 simp only [evz,Nat.reduceLT,(q3h l hs a ha).eq,(q3h l hs b hb).eq,(q8e _ _).eq,q4n,q38]
 by_cases h1:q2o ⟨l⟩=0
 case neg=>simp only [h1,evz,Nat.reduceLT,ne_eq,not_false_eq_true]
 simp only [h1,evz,Nat.reduceLT,ne_eq,not_true_eq_false]
 by_cases h2:q2p l a=0
 case neg=>simp only [h2,evz,Nat.reduceLT,not_false_eq_true]
 by_cases h3:q2p l b=0
 case neg=>simp only [h2,h3,evz,Nat.reduceLT,not_true_eq_false,not_false_eq_true]
 have ta:=(q47 l a).1 h2
 have tb:=(q47 l b).1 h3
 have hal:=ta.le
 have hbl:=tb.le
 have hv:=q0r [a,b] (by simp) (fun t ht=>by
  simp only [List.mem_cons,List.not_mem_nil,or_false] at ht
  rcases ht with rfl | rfl
  · exact ⟨ha,ta.ge⟩
  · exact ⟨hb,tb.ge⟩) (by simp; omega)
 have hvl:=varsOf_length [a,b]
 have hc:=q2x (q8w [a,b]) (by simp at hvl; omega)
 simp only [h2,h3,evz,Nat.reduceLT,not_true_eq_false,show LIM F.q0r [.sl 1 [slc a,slc b]]=_ from hv,hc.eq]
 have e1:((q8w [a,b]).any fun n=>decide (n ≥ 6)) = !(low6 a&&low6 b):=by
  rw [Bool.eq_iff_iff,List.any_eq_true,Bool.not_eq_true',Bool.eq_false_iff,ne_eq,Bool.and_eq_true,low6_iff,low6_iff]
  constructor
  · rintro ⟨v,hv,h6⟩ ⟨q1,q2⟩
    rw [decide_eq_true_eq] at h6
    obtain ⟨_,t,ht,hm⟩:=q7q.1 hv
    simp only [List.mem_cons,List.not_mem_nil,or_false] at ht
    rcases ht with rfl | rfl
    · have:=q1 _ hm; omega
    · have:=q2 _ hm; omega
  · intro h
    by_cases q1:∀ n∈a,-6≤n
    · have q2:¬ ∀ n∈b,-6≤n:=fun q2=>h ⟨q1,q2⟩
      simp only [Classical.not_forall] at q2
      obtain ⟨n,hn,hlt⟩:=q2
      exact ⟨-1 - n,q7q.2 ⟨by omega,b,by simp,by rw [show -1 - (-1 - n)=n by omega]; exact hn⟩,by simp; omega⟩
    · simp only [Classical.not_forall] at q1
      obtain ⟨n,hn,hlt⟩:=q1
      exact ⟨-1 - n,q7q.2 ⟨by omega,a,by simp,by rw [show -1 - (-1 - n)=n by omega]; exact hn⟩,by simp; omega⟩
 rw [e1]
 cases low6 a <;> cases low6 b <;> rfl
theorem q4y (l:List Symbol) (ok:SigOk ⟨l⟩) (a b:List Int) (ha:a.length≤4294967296) (hb:b.length≤4294967296) :
 Call F.q4y [.rref [slc l] 0,.rref [slc a,slc b] 0] (.int .i64 (q38 l ⟨a,b⟩)):=by
 have la:Call F.q2c [slc a] (.bool (low6 a)):=q2c a ha
 have lb:Call F.q2c [slc b] (.bool (low6 b)):=q2c b hb
 refine q0s rfl 0 ((q4y.ev _ _ _ _).trans ?_)
 simp only [evz,Nat.reduceLT,(q0z l ok a ha).eq,(q0z l ok b hb).eq,la.eq,lb.eq,q38]
 by_cases h2:q2p l a=0
 case neg=>simp only [h2,evz,Nat.reduceLT,ne_eq,not_false_eq_true]
 by_cases h3:q2p l b=0
 case neg=>simp only [h2,h3,evz,Nat.reduceLT,ne_eq,not_true_eq_false,not_false_eq_true]
 simp only [h2,h3,evz,Nat.reduceLT,ne_eq,not_true_eq_false]
 cases low6 a <;> cases low6 b <;> rfl
theorem eqs_sm {es:List Equation} {k:Nat} (he:sm 4294967296 es) (h:k < es.length):es[k].left.length≤4294967296∧es[k].right.length≤4294967296:=by
 have:=he.2 es[k] (List.getElem_mem h)
 exact ⟨this.1.1,this.2.1⟩
theorem q0t (l:List Symbol) (hs:l.length≤4294967296) (es:List Equation) (he:sm 4294967296 es) :
 Call F.q0t [.agg [slc l],slc es] (.int .i64 (if q2o ⟨l⟩≠0 then q2o ⟨l⟩ else q62 l es)):=by
 refine q0s rfl (es.length+1) ((q0t.ev _ _ _).trans ?_)
 simp only [evz,Nat.reduceLT,(q04 l hs).eq,q62,gt_iff_lt]
 by_cases h1:q2o ⟨l⟩=0
 case neg=>simp only [h1,evz,Nat.reduceLT,ne_eq,not_false_eq_true]
 by_cases h2:12 < es.length
 · have h2':(12:Int) < es.length:=by omega
   simp only [h1,h2,h2',evz,Nat.reduceLT,ne_eq,not_true_eq_false]
 have h2':¬ (12:Int) < es.length:=by omega
 simp only [h1,h2,h2',evz,Nat.reduceLT,ne_eq,not_true_eq_false]
 refine (q7x (l:=es) (g:=fun e=>if q38 l e≠0 then some (some (.int .i64 (q38 l e),[])) else none) (z:=some (.int .i64 0,[])) (S:=fun m k=>q0t.at0 (es.length+1) m (q0t.st0 (cells es) es.length (k:Nat) (cells l)))
  (fun m k h => ?_) (fun m => ?_) (Nat.lt_succ_self _)).trans ?_
 · have hlk:es[k]?=some es[k]:=List.getElem?_eq_getElem h
   obtain ⟨q1,q2⟩:=eqs_sm he h
   have hc:=q3z l hs es[k].left es[k].right q1 q2
   rw [if_neg (by simpa using h1)] at hc
   simp only [q0t.next0,q0t.round0,evz,Nat.reduceLT,h,hlk,q3r,hc.eq]
   rw [q0m (by omega)]
   by_cases e:q38 l es[k]=0
   · simp [e]
   · simp [e]
 · simp only [q0t.next0,q0t.round0,evz,Nat.reduceLT,Nat.lt_irrefl]
 · have:=q6h (fun e=>if q38 l e≠0 then some (q38 l e) else none) (fun n=>(some (T.int .i64 n,[]):R)) es
   rw [show (fun e=>(if q38 l e≠0 then some (q38 l e) else none).map fun n=>(some (T.int .i64 n,[]):R))=fun e=>if q38 l e≠0 then some (some (T.int .i64 (q38 l e),[])) else none from funext fun e=>by by_cases h:q38 l e=0 <;> simp [h]] at this
   rw [this]
   cases es.findSome? fun e=>if q38 l e≠0 then some (q38 l e) else none <;> rfl
theorem q1k (l:List Symbol) (ok:SigOk ⟨l⟩) (es:List Equation) (he:sm 4294967296 es):Call F.q1k [.rref [slc l] 0,slc es] (.int .i64 (q62 l es)):=by
 refine q0s rfl (es.length+1) ((q1k.ev _ _ _).trans ?_)
 simp only [evz,Nat.reduceLT,q62,gt_iff_lt]
 by_cases h2:12 < es.length
 · have h2':(12:Int) < es.length:=by omega
   simp only [h2,h2',evz,Nat.reduceLT]
 have h2':¬ (12:Int) < es.length:=by omega
 simp only [h2,h2',evz,Nat.reduceLT]
 refine (q7x (l:=es) (g:=fun e=>if q38 l e≠0 then some (some (.int .i64 (q38 l e),[])) else none) (z:=some (.int .i64 0,[])) (S:=fun m k=>q1k.at0 (es.length+1) m (q1k.st0 (cells l) (cells es) (k:Nat)))
  (fun m k h => ?_) (fun m => ?_) (Nat.lt_succ_self _)).trans ?_
 · have hlk:es[k]?=some es[k]:=List.getElem?_eq_getElem h
   obtain ⟨q1,q2⟩:=eqs_sm he h
   have hc:=q4y l ok es[k].left es[k].right q1 q2
   simp only [q1k.next0,q1k.round0,evz,Nat.reduceLT,h,hlk,q64 q88 hlk,q3r,hc.eq]
   rw [q0m (by omega)]
   by_cases e:q38 l es[k]=0
   · simp [e]
   · simp [e]
 · simp only [q1k.next0,q1k.round0,evz,Nat.reduceLT,Nat.lt_irrefl]
 · have:=q6h (fun e=>if q38 l e≠0 then some (q38 l e) else none) (fun n=>(some (T.int .i64 n,[]):R)) es
   rw [show (fun e=>(if q38 l e≠0 then some (q38 l e) else none).map fun n=>(some (T.int .i64 n,[]):R))=fun e=>if q38 l e≠0 then some (some (T.int .i64 (q38 l e),[])) else none from funext fun e=>by by_cases h:q38 l e=0 <;> simp [h]] at this
   rw [this]
   cases es.findSome? fun e=>if q38 l e≠0 then some (q38 l e) else none <;> rfl
end Ev.Ty
end
section
namespace Ev.Ty
open Go Ev
open Enc (enc)
open Sm (sm)
set_option linter.unusedSimpArgs false
set_option linter.unusedVariables false
theorem q39 (t v:List Int) (hs:t.length≤4294967296) (hv:v.length≤4294967296) :
 Call F.q1g [slc t,.clo F.q3u [.rref [slc v] 0]] (.bool (t.any fun n=>decide (n∉v))):=by
 have hi:Call F.q0d [slc t,.clo F.q3u [.rref [slc v] 0]] (.int .i64 (idx (fun n=>decide (n∉v)) t)):=by
  refine q0s rfl (t.length+1) ((q0b.ev _ _ _).trans ?_)
  refine q6l (S:=fun m k=>q0b.at0 (t.length+1) m (q0b.st0 (cells t) _ _ (k:Nat))) (fun m k h => ?_) (fun m => ?_) (Nat.lt_succ_self _)
  · have hlk:t[k]?=some t[k]:=List.getElem?_eq_getElem h
    have hc:Call F.q3u [.int .i64 t[k],.rref [slc v] 0] (.bool (decide (t[k]∉v))):=by
     refine q0s rfl 0 ((q3u.ev _ _ _).trans ?_)
     simp only [evz,Nat.reduceLT,(q3j v t[k] hv).eq,decide_not]
    simp only [q0b.next0,q0b.round0,evz,Nat.reduceLT,h,hlk,q1r,hc.eq]
    rw [q0m (by omega)]
    by_cases e:t[k]∈v <;> simp [e]
  · simp only [q0b.next0,q0b.round0,evz,Nat.reduceLT,Nat.lt_irrefl]
 refine q0s rfl 0 ((q39.ev _ _ _).trans ?_)
 simp only [evz,Nat.reduceLT,hi.eq,q7g]
theorem varsOf_term {l:List Symbol} {t:List Int} (h:TermOk l t):Call F.q0r [.sl 1 [slc t]] (slc (q8w [t]))∧(q8w [t]).length≤24:=by
 have hle:=h.le
 have hvl:=varsOf_length [t]
 refine ⟨q0r [t] (by simp) (fun x hx => ?_) (by simp; omega),by simp at hvl; omega⟩
 simp only [List.mem_cons,List.not_mem_nil,or_false] at hx
 subst hx
 exact ⟨by omega,h.ge⟩
theorem head0 {l:List Symbol} {t:List Int} (h:TermOk l t):t[0]?=some (t.headD 0):=by
 have:=h.pos
 cases t with
 | nil=>simp at this
 | cons x r=>rfl
theorem q71 {l:List Symbol} {a b:List Int} (ha:TermOk l a) (hb:TermOk l b):Call F.q71 [.agg [slc a,slc b]] (.bool (q83 ⟨a,b⟩)):=by
 refine q0s rfl 0 ((q71.ev _ _ _).trans ?_)
 obtain ⟨ca,la⟩:=varsOf_term ha
 obtain ⟨cb,lb⟩:=varsOf_term hb
 have h0:(cells a)[0]?=some (.int .i64 (a.headD 0)):=by
  have:=get0 (l:=a) (k:=1) (i:=0) q3l
  rw [Nat.zero_mul] at this
  rw [this,head0 ha]; rfl
 have hin:inB 0 ((cells a).length / 1)=true:=by
  rw [q53 q3l]
  have:=q7a 0 a.length
  have hp:=ha.pos
  rw [show (0:Int)=((0:Nat):Int) from rfl,this]
  exact decide_eq_true hp
 have hc:=q39 (q8w [b]) (q8w [a]) (by omega) (by omega)
 rw [hin,cond_true,h0]
 simp only [evz,Nat.reduceLT,q83]
 have e:((q8w [b]).any fun n=>decide (n∉q8w [a]))=b.any fun n=>decide (n < 0∧n∉a):=by
  rw [Bool.eq_iff_iff,List.any_eq_true,List.any_eq_true]
  constructor
  · rintro ⟨v,hv,h⟩
    rw [decide_eq_true_eq] at h
    obtain ⟨v0,t,ht,hm⟩:=q7q.1 hv
    simp only [List.mem_cons,List.not_mem_nil,or_false] at ht
    subst ht
    refine ⟨-1 - v,hm,?_⟩
    rw [decide_eq_true_eq]
    exact ⟨by omega,fun hn=>h (q7q.2 ⟨v0,a,by simp,hn⟩)⟩
  · rintro ⟨n,hn,h⟩
    rw [decide_eq_true_eq] at h
    refine ⟨-1 - n,q7q.2 ⟨by omega,b,by simp,by rw [show -1 - (-1 - n)=n by omega]; exact hn⟩,?_⟩
    rw [decide_eq_true_eq]
    intro hm
    obtain ⟨_,t,ht,hm'⟩:=q7q.1 hm
    simp only [List.mem_cons,List.not_mem_nil,or_false] at ht
    subst ht
    rw [show -1 - (-1 - n)=n by omega] at hm'
    exact h.2 hm'
 by_cases h1:a.headD 0 < 0
 · have h2:¬ 0≤a.headD 0:=by omega
   simp only [h1,h2,evz,Nat.reduceLT,Bool.false_and]
 · have h2:0≤a.headD 0:=by omega
   simp only [h1,h2,evz,Nat.reduceLT,ca.eq,cb.eq,hc.eq,e,Bool.true_and]
theorem q56 (l:List Symbol) (hs:l.length≤4294967296) (es:List Equation) (he:sm 4294967296 es):Call F.q56 [.agg [slc l],slc es] (.int .i64 (q4h ⟨l⟩ es)):=by
 refine q0s rfl 0 ((q56.ev _ _ _).trans ?_)
 simp only [evz,Nat.reduceLT,(q0t l hs es he).eq,q4h,q7m]
 by_cases h1:q2o ⟨l⟩=0
 case neg=>simp only [h1,evz,Nat.reduceLT,ne_eq,not_false_eq_true]
 simp only [h1,evz,Nat.reduceLT,ne_eq,not_true_eq_false]
 by_cases h2:q62 l es=0
 case neg=>simp only [h2,evz,Nat.reduceLT,not_false_eq_true]
 obtain ⟨hlen,hok⟩:=q8f.1 h2
 have hi:Call F.q1a [slc es,.clo F.q33 []] (.int .i64 (idx (fun e => !q83 e) es)):=by
  refine q0s rfl (es.length+1) ((q05.ev _ _).trans ?_)
  simp only [evz,Nat.reduceLT]
  refine q6l (S:=fun m k=>q05.at0 (es.length+1) m (q05.st0 (cells es) es.length (k:Nat))) (fun m k h => ?_) (fun m => ?_) (Nat.lt_succ_self _)
  · have hlk:es[k]?=some es[k]:=List.getElem?_eq_getElem h
    have ho:=hok es[k] (List.getElem_mem h)
    have hc:Call F.q33 [.agg [slc es[k].left,slc es[k].right]] (.bool (!q83 es[k])):=by
     refine q0s rfl 0 ((q33.ev _ _ _).trans ?_)
     simp only [evz,Nat.reduceLT,(q71 ho.left ho.right).eq]
    simp only [q05.next0,q05.round0,evz,Nat.reduceLT,h,hlk,q3r,hc.eq]
    rw [q0m (by omega)]
    cases q83 es[k] <;> rfl
  · simp only [q05.next0,q05.round0,evz,Nat.reduceLT,Nat.lt_irrefl]
 have hc:Call F.q4k [slc es,.clo F.q33 []] (.bool (es.any fun e => !q83 e)):=by
  refine q0s rfl 0 ((q51.ev _ _).trans ?_)
  simp only [evz,Nat.reduceLT,hi.eq,q7g]
 simp only [h2,evz,Nat.reduceLT,not_true_eq_false,hc.eq]
 cases es.any fun e => !q83 e <;> rfl
theorem q1o (t:List Int) (x:Int) (hl:t.length≤4294967296):Call F.q1o [slc t,.int .i64 x] (.int .i64 (t.count x:Nat)):=by
 have loop:∀ m k (c:Nat),k≤t.length→t.length < m+k→c≤k →
  q1o.at0 (t.length+1) m (q1o.st0 (cells t) x (c:Nat) (k:Nat))=some (.int .i64 ((c+(t.drop k).count x:Nat):Int),[]):=by
  intro m
  induction m with
  | zero=>intros; omega
  | succ m ih =>
    intro k c hk hm hc
    by_cases h:k < t.length
    · have hlk:t[k]?=some t[k]:=List.getElem?_eq_getElem h
      simp only [q1o.next0,q1o.round0,evz,Nat.reduceLT,h,hlk,q1r]
      rw [q0m (by omega),q0m (by omega),List.drop_eq_getElem_cons h,List.count_cons]
      by_cases e:t[k]=x
      · simp only [e,evz,Nat.reduceLT]
        rw [ih (k+1) (c+1) (by omega) (by omega) (by omega)]
        simp
        omega
      · simp only [e,evz,Nat.reduceLT]
        rw [ih (k+1) c (by omega) (by omega) (by omega)]
        simp [e]
    · obtain rfl:k=t.length:=by omega
      simp only [q1o.next0,q1o.round0,evz,Nat.reduceLT,Nat.lt_irrefl,List.drop_length,List.count_nil,Nat.add_zero]
 refine q0s rfl (t.length+1) ((q1o.ev _ _ _).trans ?_)
 have:=loop (t.length+1) 0 0 (by omega) (by omega) (by omega)
 rw [List.drop_zero,Nat.zero_add] at this
 exact this
theorem q0o (l:List Symbol) (ok:SigOk ⟨l⟩) (es:List Equation) (he:sm 4294967296 es):Call F.q0o [.rref [slc l] 0,slc es] (.int .i64 (q7m l es)):=by
 refine q0s rfl 25 ((q0o.ev _ _ _).trans ?_)
 simp only [evz,Nat.reduceLT,(q1k l ok es he).eq,q7m]
 by_cases h2:q62 l es=0
 case neg=>simp only [h2,evz,Nat.reduceLT,ne_eq,not_false_eq_true]
 obtain ⟨hlen,hok⟩:=q8f.1 h2
 simp only [h2,evz,Nat.reduceLT,ne_eq,not_true_eq_false]
 have inner:∀ (L0:St→R) (k:Nat) (h:k < es.length), 
  q0o.at2 25 L0 25 (q0o.st2 (cells es) (k:Nat) ((0:Nat):Int))=if (es[k].right.any fun n=>decide (n < 0∧n∉es[k].left))=true then some (.int .i64 1,[]) else L0 (q0o.st0 (cells es) ((k+1:Nat):Int)):=fun L0 k h=>by
  have hlk:es[k]?=some es[k]:=List.getElem?_eq_getElem h
  have ho:=hok es[k] (List.getElem_mem h)
  have hle:=ho.right.le
  have hle':=ho.left.le
  refine q7j (l:=es[k].right) (p:=fun n=>decide (n < 0∧n∉es[k].left)) (r:=some (.int .i64 1,[])) (S:=fun m j=>q0o.at2 25 L0 m (q0o.st2 (cells es) (k:Nat) (j:Nat))) (fun m j hj => ?_) (fun m => ?_) (by omega)
  · have hlj:es[k].right[j]?=some es[k].right[j]:=List.getElem?_eq_getElem hj
    simp only [q0o.next2,q0o.round2,evz,Nat.reduceLT,h,hlk,hj,hlj,q3r,q1r,(q1o es[k].left es[k].right[j] (by omega)).eq]
    rw [q0m (by omega)]
    by_cases q1:es[k].right[j] < 0
    · by_cases q2:es[k].right[j]∈es[k].left
      · have q3:0 < es[k].left.count es[k].right[j]:=List.count_pos_iff.2 q2
        have q4:¬ ((es[k].left.count es[k].right[j]:Nat):Int)=0:=by omega
        simp only [q1,q2,q4,evz,Nat.reduceLT,not_true_eq_false,and_false,Bool.false_eq_true]
      · have q3:es[k].left.count es[k].right[j]=0:=List.count_eq_zero.2 q2
        simp only [q1,q2,q3,evz,Nat.reduceLT,not_false_eq_true,and_true,Int.natCast_zero]
    · simp only [q1,evz,Nat.reduceLT,false_and,Bool.false_eq_true]
  · simp only [q0o.next2,q0o.round2,evz,Nat.reduceLT,h,hlk,q3r,Nat.lt_irrefl]
    rw [q0m (by omega)]
 refine (q7j (l:=es) (p:=fun e => !q83 e) (r:=some (.int .i64 1,[])) (z:=some (.int .i64 0,[])) (S:=fun m k=>q0o.at0 25 m (q0o.st0 (cells es) (k:Nat))) (fun m k h => ?_) (fun m => ?_) (show es.length < 25 by omega)).trans ?_
 · have hlk:es[k]?=some es[k]:=List.getElem?_eq_getElem h
   have ho:=hok es[k] (List.getElem_mem h)
   have h0:(cells es[k].left)[0]?=some (.int .i64 (es[k].left.headD 0)):=by
    have:=get0 (l:=es[k].left) (k:=1) (i:=0) q3l
    rw [Nat.zero_mul] at this
    rw [this,head0 ho.left]; rfl
   have hin:inB 0 es[k].left.length=true:=by
    have:=q7a 0 es[k].left.length
    have hp:=ho.left.pos
    rw [show (0:Int)=((0:Nat):Int) from rfl,this]
    exact decide_eq_true hp
   simp only [q0o.next0,q0o.round0,evz,Nat.reduceLT,h,hlk,q3r,hin,h0,q83]
   by_cases q1:es[k].left.headD 0 < 0
   · have q2:¬ 0≤es[k].left.headD 0:=by omega
     simp only [q1,q2,evz,Nat.reduceLT,Bool.false_and,Bool.not_false]
   · have q2:0≤es[k].left.headD 0:=by omega
     simp only [q1,q2,evz,Nat.reduceLT,Bool.true_and,Bool.not_not]
     exact inner _ k h
 · simp only [q0o.next0,q0o.round0,evz,Nat.reduceLT,Nat.lt_irrefl]
 · cases es.any fun e => !q83 e <;> rfl
theorem q55 (l:List Symbol) (hs:l.length≤4294967296) (es:List Equation) (he:sm 4294967296 es):Call F.q55 [.agg [slc l],slc es] (.int .i64 (q4h ⟨l⟩ es)):=by
 refine q0s rfl 0 ((q55.ev _ _ _).trans ?_)
 simp only [evz,Nat.reduceLT,(q00 l hs).eq,q4h]
 by_cases h1:q2o ⟨l⟩=0
 case neg=>simp only [h1,evz,Nat.reduceLT,ne_eq,not_false_eq_true]
 have ok:=(q60 _).1 h1
 simp only [h1,evz,Nat.reduceLT,ne_eq,not_true_eq_false,(q0o l ok es he).eq]
end Ev.Ty
end
section
namespace Ev.Ty
open Go Ev
open Enc (enc)
open Sm (sm)
set_option linter.unusedSimpArgs false
set_option linter.unusedVariables false
def digs (z:Nat):Nat→Nat→List Int
 | 0,_=>[]
 | k+1,n=>((n % z:Nat):Int)::digs z k (n / z)
theorem digs_length (z:Nat):∀ k n,(digs z k n).length=k
 | 0,_=>rfl
 | k+1,n=>by rw [digs,List.length_cons,digs_length z k]
theorem digs_range {z:Nat} (hz:0 < z):∀ k n,∀ x∈digs z k n,0≤x∧x≤(z:Int) - 1
 | 0,_=>by simp [digs]
 | k+1,n=>by
   intro x hx
   rw [digs,List.mem_cons] at hx
   rcases hx with rfl | hx
   · have:=Nat.mod_lt n hz; omega
   · exact digs_range hz k _ x hx
noncomputable def differ (l:List Symbol) (z:Nat) (tb:List (List Int)) (e:Equation) (n:Nat):Bool :=
 decide ((q45 l e.left).eval z tb (digs z 6 n)≠(q45 l e.right).eval z tb (digs z 6 n))
noncomputable def holdsB (l:List Symbol) (z:Nat) (tb:List (List Int)) (e:Equation):Bool := !(List.range (z ^ 6)).any (differ l z tb e)
section
variable {l:List Symbol} {z:Nat} {tb:List (List Int)} (al:AlgOk l z tb)
include al
theorem spec_l10Eval_ok {vs t:List Int} (hv:vs.length=6) (hr:∀ n∈vs,0≤n∧n≤(z:Int) - 1) (to:TermOk l t) (hlow:∀ n∈t,-6≤n) :
 Call F.q16 [.rref [slc l] 0,.rref [.int .i64 z,slc tb] 0,slc vs,slc t,.int .i64 0] (.int .i64 ((q45 l t).eval z tb vs)):=by
 obtain ⟨o1,o2⟩:=q76 al.sig to
 have hle:=to.le
 have hl6:(q45 l t).low 6:=Tm.low_of fun n hn=>by rw [← o2] at hn; exact hlow n hn
 have hsy:(q45 l t).syms l.length:=Tm.syms_of o1 fun n hn=>to.node n (by rw [o2]; exact hn)
 exact q16 al hv hr to.node (by omega) (q45 l t) [] 0 (by rw [List.drop_zero,List.append_nil]; exact o2) o1 hsy hl6
theorem pow6:z ^ 6≤729∧0 < z∧z≤3:=by
 have:=al.size
 have h1:1≤z:=by omega
 have h3:z≤3:=by omega
 refine ⟨?_,by omega,h3⟩
 have:z=1∨z=2∨z=3:=by omega
 rcases this with rfl | rfl | rfl <;> decide
theorem q0k {e:Equation} (ho:EqOk l e):Call F.q0k [.rref [slc l] 0,.rref [.int .i64 z,slc tb] 0,.rref [slc e.left,slc e.right] 0] (.bool (holdsB l z tb e)):=by
 obtain ⟨h729,hz0,hz3⟩:=pow6 al
 have hp:=q48 z 6 hz3 (by omega)
 refine q0s rfl 1000 ((q0k.ev _ _ _ _ _ _).trans ?_)
 have inner:∀ (L0:St→R) (k:Nat),k < 729→∀ m j x (acc:List Int),acc.length=j→j≤6→6 < m+j→acc++digs z (6 - j) x=digs z 6 k→x≤729 →
  q0k.at2 1000 L0 m (q0k.st2 (cells l) z (cells tb) (cells e.left) (cells e.right) (k:Nat) (x:Nat) (j:Nat) (cells acc)) =
   if differ l z tb e k=true then some (.bool false,[]) else L0 (q0k.st0 (cells l) z (cells tb) (cells e.left) (cells e.right) ((k+1:Nat):Int)):=by
  intro L0 k hk m
  induction m with
  | zero=>intros; omega
  | succ m ih =>
    intro j x acc hacc hj hm hd hx
    by_cases h:j < 6
    · have h6:((j:Nat):Int) < 6:=by omega
      have hzi:¬ ((z:Nat):Int)=0:=by omega
      have hble:Nat.ble (((cells acc).length+1)*8) (140737488355328*1)=true:=by
       rw [Nat.ble_eq,q0u,q3l]; omega
      have hdiv:x / z≤x:=Nat.div_le_self _ _
      rw [show 6 - j=(6 - (j+1))+1 by omega,digs] at hd
      have hdm:Int.tdiv (x:Nat) (z:Nat)=((x / z:Nat):Int):=rfl
      generalize x / z=q at hdiv hdm hd
      simp only [q0k.next2,q0k.round2,evz,Nat.reduceLT,h6,hzi,hble]
      rw [hdm,show Int.tmod (x:Nat) (z:Nat)=((x % z:Nat):Int) from rfl,q0m (by omega),q27 (by omega),q2j]
      refine ih (j+1) q (acc++[((x % z:Nat):Int)]) (by rw [List.length_append,hacc]; rfl) (by omega) (by omega) ?_ (by omega)
      rw [List.append_assoc,List.singleton_append]
      exact hd
    · obtain rfl:j=6:=by omega
      rw [Nat.sub_self,digs,List.append_nil] at hd
      subst hd
      have hdl:=digs_length z 6 k
      have hdr:=digs_range hz0 6 k
      have h6:¬ ((6:Nat):Int) < 6:=by omega
      simp only [q0k.next2,q0k.round2,evz,Nat.reduceLT,h6,(spec_l10Eval_ok al hdl hdr ho.left ho.lowL).eq,(spec_l10Eval_ok al hdl hdr ho.right ho.lowR).eq,differ]
      rw [q0m (by omega)]
      by_cases hne:(q45 l e.left).eval z tb (digs z 6 k)=(q45 l e.right).eval z tb (digs z 6 k)
      · simp only [hne,evz,Nat.reduceLT,ne_eq,not_true_eq_false,Bool.false_eq_true]
      · simp only [hne,evz,Nat.reduceLT,ne_eq,not_false_eq_true]
 have outer:=any_loop (n:=z ^ 6) (bad:=differ l z tb e) (r:=some (.bool false,[])) (z:=some (.bool true,[]))
  (S:=fun m k=>q0k.at0 1000 m (q0k.st0 (cells l) z (cells tb) (cells e.left) (cells e.right) (k:Nat))) (f:=1000)
  (fun m k hk=>by
   simp only [q0k.next0,q0k.round0,evz,Nat.reduceLT,show LIM F.q48 [.int .i64 z,.int .i64 6]=_ from hp,hk]
   exact inner (q0k.at0 1000 m) k (by omega) 1000 0 k [] rfl (by omega) (by omega) (by simp) (by omega))
  (fun m=>by simp only [q0k.next0,q0k.round0,evz,Nat.reduceLT,show LIM F.q48 [.int .i64 z,.int .i64 6]=_ from hp,Nat.lt_irrefl]) (by omega)
 refine Eq.trans outer ?_
 unfold holdsB
 cases (List.range (z ^ 6)).any (differ l z tb e) <;> rfl
end
end Ev.Ty
end
section
namespace Ev.Ty
open Go Ev
open Enc (enc)
open Sm (sm)
set_option linter.unusedSimpArgs false
set_option linter.unusedVariables false
theorem q77 (b:Bool):Call F.q77 [.bool b] (.agg [.int .i64 0,.int .i64 (if b=true then 1 else 0)]):=by
 refine q0s rfl 0 ((q77.ev _ _).trans ?_)
 cases b <;> rfl
noncomputable def allHoldR (s:Signature) (a:Algebra) (es:List Equation):IntResult :=
 if q59 s a≠0 then ⟨q59 s a,0⟩ else if q62 s.symbols es≠0 then ⟨q62 s.symbols es,0⟩ else ⟨0,if (!es.any fun e => !holdsB s.symbols a.size.toNat a.tables e)=true then 1 else 0⟩
section
variable (l:List Symbol) (z:Int) (tb:List (List Int)) (hs:l.length≤4294967296) (ht:sm 4294967296 tb)
include hs ht
theorem q6d (es:List Equation) (he:sm 4294967296 es):Call F.q6d [.agg [slc l],.agg [.int .i64 z,slc tb],slc es] (.agg (enc (allHoldR ⟨l⟩ ⟨z,tb⟩ es))):=by
 refine q0s rfl 0 ((q6d.ev _ _ _ _ _).trans ?_)
 simp only [evz,Nat.reduceLT,(q09 l z tb hs ht).eq,allHoldR]
 by_cases h1:q59 ⟨l⟩ ⟨z,tb⟩=0
 case neg=>simp only [h1,evz,Nat.reduceLT,ne_eq,not_false_eq_true,q3d]
 have al:=algOk h1
 obtain ⟨y,hy⟩:∃ y:Nat,z=y:=⟨z.toNat,by have:=al.size; omega⟩
 subst hy
 simp only [h1,evz,Nat.reduceLT,ne_eq,not_true_eq_false,(q1k l al.sig es he).eq]
 by_cases h2:q62 l es=0
 case neg=>simp only [h2,evz,Nat.reduceLT,not_false_eq_true,q3d]
 obtain ⟨hlen,hok⟩:=q8f.1 h2
 have hc:Call F.q2d [.rref [slc l] 0,.rref [.int .i64 y,slc tb] 0,slc es] (.bool (!es.any fun e => !holdsB l y tb e)):=by
  refine q0s rfl (es.length+1) ((q2d.ev _ _ _ _ _).trans ?_)
  refine (q7j (l:=es) (p:=fun e => !holdsB l y tb e) (r:=some (.bool false,[])) (z:=some (.bool true,[])) (S:=fun m k=>q2d.at0 (es.length+1) m (q2d.st0 (cells l) y (cells tb) (cells es) (k:Nat))) (fun m k h => ?_) (fun m => ?_) (Nat.lt_succ_self _)).trans ?_
  · have hlk:es[k]?=some es[k]:=List.getElem?_eq_getElem h
    have ho:=hok es[k] (List.getElem_mem h)
    simp only [q2d.next0,q2d.round0,evz,Nat.reduceLT,h,hlk,q64 q88 hlk,q3r,(q0k al ho).eq]
    rw [q0m (by omega)]
    cases holdsB l y tb es[k] <;> rfl
  · simp only [q2d.next0,q2d.round0,evz,Nat.reduceLT,Nat.lt_irrefl]
  · cases es.any fun e => !holdsB l y tb e <;> rfl
 simp only [h2,evz,Nat.reduceLT,not_true_eq_false,hc.eq,(q77 _).eq,q3d,Int.toNat_natCast]
end
end Ev.Ty
end
section
namespace Ev.Ty
open Go Ev
open Enc (enc)
open Sm (sm)
set_option linter.unusedVariables false
set_option linter.unusedSimpArgs false
theorem q1u (l r:List Int) (hs:sm 4294967296 l):Call F.q1u [slc l,slc r] (.bool (decide (l=r))):=by
 refine q0s rfl (l.length+1) ((q1u.ev _ _ _).trans ?_)
 simp only [q53,q3l]
 by_cases hl:l.length=r.length
 · have loop:=eq_loop hl (S:=fun m k=>q1u.at0 (l.length+1) m (q1u.st0 (cells l) (cells r) (k:Nat)))
    (fun m k h h'=>by
     have hlk:l[k]?=some l[k]:=List.getElem?_eq_getElem h
     have hrk:r[k]?=some r[k]:=List.getElem?_eq_getElem h'
     simp only [q1u.next0,q1u.round0,evz,Nat.reduceLT,h,h',hlk,hrk,q64 (l:=l) q3l hlk,q64 (l:=r) q3l hrk,q1r,enc_u8]
     rw [q0m (by have:=hs.1; omega)])
    (fun m=>by
     simp only [q1u.next0,q1u.round0,evz,Nat.reduceLT,Nat.lt_irrefl])
   rw [cond_neg (by rw [hl]; exact bne_self_eq_false _)]
   exact loop
 · rw [q26 (by simp; omega)]
   simp only [show (l=r)=False from eq_false fun e=>hl (e ▸ rfl),decide_false]
theorem q0p (l r:List Int) (hs:sm 4294967296 l):Call F.q0p [slc l,slc r] (.bool (decide (l=r))):=by
 refine q0s rfl (l.length+1) ((q0p.ev _ _ _).trans ?_)
 simp only [q53,q3l]
 by_cases hl:l.length=r.length
 · have loop:=eq_loop hl (S:=fun m k=>q0p.at0 (l.length+1) m (q0p.st0 (cells l) (cells r) l.length (k:Nat)))
    (fun m k h h'=>by
     have hlk:l[k]?=some l[k]:=List.getElem?_eq_getElem h
     have hrk:r[k]?=some r[k]:=List.getElem?_eq_getElem h'
     simp only [q0p.next0,q0p.round0,evz,Nat.reduceLT,h,h',hlk,hrk,q64 (l:=l) q3l hlk,q64 (l:=r) q3l hrk,q1r,enc_u8]
     rw [q0m (by have:=hs.1; omega)])
    (fun m=>by
     simp only [q0p.next0,q0p.round0,evz,Nat.reduceLT,Nat.lt_irrefl])
   rw [cond_neg (by rw [hl]; exact bne_self_eq_false _)]
   exact loop
 · rw [q26 (by simp; omega)]
   simp only [show (l=r)=False from eq_false fun e=>hl (e ▸ rfl),decide_false]
end Ev.Ty
end
section
namespace Ev.Ty
open Go Ev
open Enc (enc)
open Sm (sm)
set_option linter.unusedSimpArgs false
set_option linter.unusedVariables false
theorem firstCode2 (a b:Int):Call F.q4v [.sl 1 [.int .i64 a,.int .i64 b]] (.int .i64 (if a=0 then b else a)):=q8e a b
theorem skip_inner {a:Int→Nat}:∀ {t r:List Int} {k p:Nat},skip a k t=some r→p+r.length < t.length→∃ q,skip a 1 (t.drop p)=some q
 | [],r,k,p,h,hp=>by simp at hp
 | n::t,r,0,p,h,hp=>by
   rw [q3p] at h; cases h; omega
 | n::t,r,k+1,0,h,hp=>by
   rw [show k+1=1+k by omega,q8j] at h
   cases h1:skip a 1 (n::t) with
   | none=>rw [h1] at h; cases h
   | some q=>exact ⟨q,by simpa using h1⟩
 | n::t,r,k+1,p+1,h,hp=>by
   rw [skip] at h
   obtain ⟨q,hq⟩:=skip_inner (p:=p) h (by simp at hp; omega)
   exact ⟨q,by simpa using hq⟩
def endAt (l:List Symbol) (t:List Int) (p:Nat):Nat:=match skip (ar l) 1 (t.drop p) with
 | some r=>t.length - r.length
 | none=>t.length
theorem q2z {l:List Symbol} {t:List Int} (ok:TermOk l t) {p:Nat} (hp:p < t.length) :
 p < endAt l t p∧endAt l t p≤t.length∧∀ z,q7k z t (skip (ar l) 1 (t.drop p))=(endAt l t p:Nat):=by
 obtain ⟨q,hq⟩:=skip_inner (p:=p) ok.skip (by simpa using hp)
 have h:=skip_at hq
 unfold endAt
 rw [hq]
 refine ⟨?_,by simp only; omega,fun z=>rfl⟩
 have:=h.2.2 (by omega)
 simp only
 omega
section
variable {l:List Symbol} (ok:SigOk ⟨l⟩)
include ok
theorem endOf_at {t:List Int} (ht:TermOk l t) {p:Nat} (hp:p < t.length):Call F.q2a [.agg [slc l],slc t,.int .i64 p] (.int .i64 (endAt l t p:Nat)):=by
 have h:=q2a ok t ht.node (by have:=ht.le; omega) p (Nat.le_of_lt hp)
 rwa [(q2z ht hp).2.2] at h
theorem q7v {t:List Int} (ht:TermOk l t) {p:Nat} (hp:p < t.length):Call F.q1m [.rref [slc l] 0,slc t,.int .i64 p] (.int .i64 (endAt l t p:Nat)):=by
 have h:=q1m ok t ht.node (by have:=ht.le; omega) p (Nat.le_of_lt hp)
 rwa [(q2z ht hp).2.2] at h
end
theorem cells_cut (t:List Int) (i j:Nat):((cells t).take (j*1)).drop (i*1)=cells ((t.take j).drop i):=by
 rw [cells_take t 1 j rfl,cells_drop _ 1 i rfl]
def subAt (l:List Symbol) (t:List Int) (p:Nat):List Int:=(t.take (endAt l t p)).drop p
theorem q9b (t:List Int) (i j:Nat):T.sl 1 (((cells t).take (j*1)).drop (i*1))=slc ((t.take j).drop i):=by rw [cells_cut]; rfl
theorem q5c (l:List Int) (h:l.length≤4294967296):Call F.q2m [slc l] (slc l):=by
 refine q0s rfl 0 ((q2m.ev _ _).trans ?_)
 rw [q3q,q26 rfl,q26 (q3s (by rw [q0u,q3l]; omega))]
 rfl
theorem q35 (l:List Int) (h:l.length≤4294967296):Call F.q35 [slc l] (slc l):=by
 refine lim_ext (e:=cloneE) rfl (Ev.of fun m => ?_)
 show (intsOf (cells l)).bind _=_
 rw [← q67,q8l]
 show (bif _ then _ else _)=_
 rw [q26 (by rw [decide_eq_true_iff]; omega),q67]
 rfl
section
variable {l:List Symbol} (ok:SigOk ⟨l⟩)
include ok
theorem q43 {t:List Int} (ht:TermOk l t) {p:Nat} (hp:p < t.length):Call F.q43 [.agg [slc l],slc t,.int .i64 p] (slc (subAt l t p)):=by
 refine q0s rfl 0 ((q43.ev _ _ _ _).trans ?_)
 obtain ⟨h1,h2,_⟩:=q2z ht hp
 simp only [evz,Nat.reduceLT,(endOf_at ok ht hp).eq]
 rw [q26 (by simp; omega),q9b]
 rfl
theorem q7o {t:List Int} (ht:TermOk l t) {p:Nat} (hp:p < t.length):Call F.q7o [.rref [slc l] 0,slc t,.int .i64 p] (slc (subAt l t p)):=by
 refine q0s rfl 0 ((q7o.ev _ _ _ _).trans ?_)
 obtain ⟨h1,h2,_⟩:=q2z ht hp
 have hle:=ht.le
 simp only [evz,Nat.reduceLT,(q7v ok ht hp).eq]
 rw [q26 (by simp; omega),q9b,(q5c _ (by simp; omega)).eq]
 simp only [evz,Nat.reduceLT]
 rfl
def q4u (l:List Symbol) (t:List Int) (p:Nat) (by_:List Int):List Int:=(t.take p++by_)++t.drop (endAt l t p)
theorem q5v {t:List Int} (ht:TermOk l t) {p:Nat} (hp:p < t.length) (by_:List Int) (hb:by_.length≤1048576):Call F.q5v [.agg [slc l],slc t,.int .i64 p,slc by_] (slc (q4u l t p by_)):=by
 refine q0s rfl 0 ((q5v.ev _ _ _ _ _).trans ?_)
 obtain ⟨h1,h2,_⟩:=q2z ht hp
 have hle:=ht.le
 simp only [q53,q3l,Int.toNat_natCast]
 rw [q26 (by simp; omega),q9b,(q35 _ (by simp; omega)).eq]
 simp only [evz,Nat.reduceLT,q3q,(endOf_at ok ht hp).eq,cells_cut,← q3b,q53,q3l,Int.toNat_natCast]
 rw [q26 (q3s (by rw [q0u,q0u,q3l]; simp; omega)),q26 (by simp; omega),q26 (q3s (by rw [q0u,q0u,q3l]; simp; omega))]
 simp [q4u,slc]
theorem q4c {t:List Int} (ht:TermOk l t) {p:Nat} (hp:p < t.length) (by_:List Int) (hb:by_.length≤1048576):Call F.q4c [.rref [slc l] 0,slc t,.int .i64 p,slc by_] (slc (q4u l t p by_)):=by
 refine q0s rfl 0 ((q4c.ev _ _ _ _ _).trans ?_)
 obtain ⟨h1,h2,_⟩:=q2z ht hp
 have hle:=ht.le
 simp only [q53,q3l,Int.toNat_natCast]
 rw [q26 (by simp; omega),q9b,(q5c _ (by simp; omega)).eq]
 simp only [evz,Nat.reduceLT,q3q,(q7v ok ht hp).eq,cells_cut,← q3b,q53,q3l,Int.toNat_natCast]
 rw [q26 (q3s (by rw [q0u,q0u,q3l]; simp; omega)),q26 (by simp; omega),q26 (q3s (by rw [q0u,q0u,q3l]; simp; omega))]
 simp [q4u,slc]
end
def q3i (vs:List Int) (ts:List (List Int)) (v:Int):Option (List Int):=if idx (fun x=>decide (x=v)) vs < 0 then none else ts[(idx (fun x=>decide (x=v)) vs).toNat]?
theorem q0j (l:List Int) (x:Int) (hl:l.length≤4294967296):Call F.q0j [slc l,.int .i64 x] (.int .i64 (idx (fun y=>decide (y=x)) l)):=by
 refine q0s rfl (l.length+1) ((q0j.ev _ _ _).trans ?_)
 simp only [evz,Nat.reduceLT]
 refine q6l (S:=fun m k=>q0j.at0 (l.length+1) m (q0j.st0 (cells l) x l.length (k:Nat))) (fun m k h => ?_) (fun m => ?_) (Nat.lt_succ_self _)
 · have hlk:l[k]?=some l[k]:=List.getElem?_eq_getElem h
   simp only [q0j.next0,q0j.round0,evz,Nat.reduceLT,h,hlk,q1r]
   rw [q0m (by omega)]
   by_cases e:x=l[k]
   · simp [e]
   · have e':¬ l[k]=x:=fun h=>e h.symm
     simp [e,e']
 · simp only [q0j.next0,q0j.round0,evz,Nat.reduceLT,Nat.lt_irrefl]
def ofT:Option (List Int)→T
 | some t => .tup [slc t,.bool true]
 | none => .tup [slc ([]:List Int),.bool false]
theorem q41 (vs:List Int) (ts:List (List Int)) (v:Int) (hl:vs.length=ts.length) (hs:vs.length≤4294967296):Call F.q41 [.agg [slc vs,slc ts],.int .i64 v] (ofT (q3i vs ts v)):=by
 refine q0s rfl 0 ((q41.ev _ _ _ _).trans ?_)
 simp only [evz,Nat.reduceLT,(q0j vs v hs).eq,q3i]
 rcases q6m (fun x:Int=>decide (x=v)) vs with ⟨h,_⟩ | ⟨i,hi,h,_,_⟩
 · simp only [h,evz,Nat.reduceLT,ofT,q80,show ((-1:Int) < 0)=True from by simp]
 · have hn:¬ ((i:Nat):Int) < 0:=by omega
   have hit:i < ts.length:=by omega
   simp only [h,hn,evz,Nat.reduceLT,hit,List.getElem?_eq_getElem,q5h,ofT]
theorem q21 (vs:List Int) (ts:List (List Int)) (v:Int) (hl:vs.length=ts.length) (hs:vs.length≤4294967296):Call F.q21 [.rref [slc vs,slc ts] 0,.int .i64 v] (slc ((q3i vs ts v).getD [])):=by
 refine q0s rfl (vs.length+1) ((q21.ev _ _ _ _).trans ?_)
 have loop:=q7x (l:=List.range vs.length) (g:=fun k=>if vs[k]?=some v then some (some (slc (ts[k]?.getD []),[])) else none) (z:=some (slc ([]:List Int),[]))
  (S:=fun m k=>q21.at0 (vs.length+1) m (q21.st0 (cells vs) (cells ts) v (k:Nat))) (fun m k h => ?_) (fun m => ?_) (f:=vs.length+1) (by simp)
 · refine loop.trans ?_
   unfold q3i
   rcases q6m (fun x:Int=>decide (x=v)) vs with ⟨h,hno⟩ | ⟨i,hi,h,hyes,hno⟩
   · rw [h,if_pos (by omega)]
     have:(List.range vs.length).findSome? (fun k=>if vs[k]?=some v then some ((some (slc (ts[k]?.getD []),[]):R)) else none)=none:=by
      rw [List.findSome?_eq_none_iff]
      intro k hk
      rw [List.mem_range] at hk
      rw [if_neg]
      rw [List.getElem?_eq_getElem hk]
      intro e
      have:=hno _ (List.getElem_mem hk)
      simp at this e
      exact this e
     rw [this]; rfl
   · rw [h,if_neg (by omega)]
     have hit:i < ts.length:=by omega
     have:(List.range vs.length).findSome? (fun k=>if vs[k]?=some v then some ((some (slc (ts[k]?.getD []),[]):R)) else none)=some (some (slc ts[i],[])):=by
      rw [List.findSome?_eq_some_iff]
      refine ⟨List.range i,i,(List.range' (i+1) (vs.length - i - 1)),?_,?_,?_⟩
      · rw [List.range_eq_range',List.range_eq_range',← List.range'_succ,show vs.length - i - 1+1=vs.length - i by omega]
        have:=List.range'_append (s:=0) (m:=i) (n:=vs.length - i) (step:=1)
        simp only [Nat.one_mul,Nat.zero_add] at this
        rw [this,Nat.add_sub_cancel' (Nat.le_of_lt hi)]
      · have e1:vs[i]?=some v:=(List.getElem?_eq_getElem hi).trans (congrArg some (of_decide_eq_true hyes))
        have e2:ts[i]?=some ts[i]:=List.getElem?_eq_getElem hit
        simp only [e1,e2,if_true,Option.getD_some]
      · intro k hk
        rw [List.mem_range] at hk
        rw [if_neg]
        rw [List.getElem?_eq_getElem (by omega)]
        intro e
        have:=hno k hk
        simp at this e
        exact this e
     rw [this,Int.toNat_natCast,List.getElem?_eq_getElem hit]; rfl
 · rw [List.length_range] at h
   have hlk:vs[k]?=some vs[k]:=List.getElem?_eq_getElem h
   have hkt:k < ts.length:=by omega
   simp only [q21.next0,q21.round0,evz,Nat.reduceLT,h,hkt,hlk,List.getElem?_eq_getElem,q1r,q5h,List.getElem_range,Option.getD_some,Option.some.injEq]
   rw [q0m (by omega)]
   by_cases e:vs[k]=v <;> simp [e]
 · rw [List.length_range]
   simp only [q21.next0,q21.round0,evz,Nat.reduceLT,Nat.lt_irrefl,q80]
def q1z (vs:List Int) (ts:List (List Int)) (t:List Int):List Int:=t.flatMap fun n=>(q3i vs ts (-1 - n)).getD [n]
structure BindOk (vs:List Int) (ts:List (List Int)):Prop where
 len:vs.length=ts.length
 le:vs.length≤1000
 nn:∀ v∈vs,0≤v
 tm:∀ t∈ts,1≤t.length∧t.length≤4096
theorem q90 {vs:List Int} {ts:List (List Int)} (ok:BindOk vs ts) {v:Int} (hv:v < 0):q3i vs ts v=none:=by
 unfold q3i
 rcases q6m (fun x:Int=>decide (x=v)) vs with ⟨h,_⟩ | ⟨i,hi,h,hy,_⟩
 · rw [if_pos (by omega)]
 · have:=ok.nn _ (List.getElem_mem hi)
   simp at hy; omega
theorem q4z {vs:List Int} {ts:List (List Int)} {v:Int} {t:List Int} (h:q3i vs ts v=some t):t∈ts:=by
 unfold q3i at h
 split at h
 · cases h
 · exact List.mem_of_getElem? h
def q8r (vs:List Int) (ts:List (List Int)) (o:List Int) (n:Int):List Int:=o++(q3i vs ts (-1 - n)).getD [n]
theorem app_fold (vs:List Int) (ts:List (List Int)):∀ (t o:List Int),t.foldl (q8r vs ts) o=o++q1z vs ts t
 | [],o=>by simp [q1z]
 | n::t,o=>by
   rw [List.foldl_cons,app_fold vs ts t]
   simp [q8r,q1z]
def appI (k:Nat) (o:List Int):Prop:=o.length≤k*4096
theorem appI_step {vs:List Int} {ts:List (List Int)} (ok:BindOk vs ts) {k:Nat} {o:List Int} {n:Int} (h:appI k o):appI (k+1) (q8r vs ts o n):=by
 unfold appI q8r at *
 rw [List.length_append]
 cases hb:q3i vs ts (-1 - n) with
 | none=>simp; omega
 | some t=>have:=(ok.tm t (q4z hb)).2; simp; omega
theorem q8u {vs:List Int} {ts:List (List Int)} (ok:BindOk vs ts) (t:List Int):(q1z vs ts t).length≤t.length*4096:=by
 have:=fold_inv (l:=t) (g:=q8r vs ts) appI (fun k o _ h=>appI_step ok h) [] (by simp [appI])
 rw [app_fold] at this
 simpa [appI] using this
theorem q0n (vs:List Int) (ts:List (List Int)) (ok:BindOk vs ts) (t:List Int) (ht:t.length≤4096) (hr:∀ n∈t,-4611686018427387904≤n∧n≤4611686018427387904):Call F.q0n [.agg [slc vs,slc ts],slc t] (slc (q1z vs ts t)):=by
 have hle:=ok.le
 refine q0s rfl (t.length+1) ((q0n.ev _ _ _ _).trans ?_)
 simp only [q53,q3l]
 have key:=fold_loop (l:=t) (f:=t.length+1) (S:=fun m k (o:List Int)=>q0n.at0 (t.length+1) m (q0n.st0 (cells t) t.length (k:Nat) (cells vs) (cells ts) (cells o))) (g:=q8r vs ts) (z:=fun (o:List Int)=>some (slc o,[])) appI
  (fun m k o h ho => ?_) (fun k o h ho=>appI_step ok ho) (fun m o ho => ?_) [] (by simp [appI]) (by omega)
 · rw [app_fold] at key; exact key
 · have hn:=hr _ (List.getElem_mem h)
   have ho:o.length≤k*4096:=ho
   simp only [q0n.next0,q0n.round0,evz,Nat.reduceLT,h,List.getElem?_eq_getElem,q1r,q27 (x := -1 - t[k]) (by omega),(q41 vs ts (-1 - t[k]) ok.len (by omega)).eq,q8r]
   cases hb:q3i vs ts (-1 - t[k]) with
   | none =>
     simp only [ofT,evz,Nat.reduceLT,q3q,Option.getD_none,← q3b]
     rw [q26 (q3s (by rw [q0u,q3l]; omega)),q2j,q0m (by omega)]
   | some x =>
     have hx:=(ok.tm x (q4z hb)).2
     simp only [ofT,evz,Nat.reduceLT,q3q,Option.getD_some,← q3b]
     rw [q26 (q3s (by rw [q0u,q0u,q3l]; omega)),q0m (by omega)]
 · simp only [q0n.next0,q0n.round0,evz,Nat.reduceLT,Nat.lt_irrefl]
theorem q1e (vs:List Int) (ts:List (List Int)) (ok:BindOk vs ts) (t:List Int) (ht:t.length≤4096) (hr:∀ n∈t,-4611686018427387904≤n∧n≤4611686018427387904):Call F.q1e [.rref [slc vs,slc ts] 0,slc t] (slc (q1z vs ts t)):=by
 have hle:=ok.le
 refine q0s rfl (t.length+1) ((q1e.ev _ _ _ _).trans ?_)
 have key:=fold_loop (l:=t) (f:=t.length+1) (S:=fun m k (o:List Int)=>q1e.at0 (t.length+1) m (q1e.st0 (cells vs) (cells ts) (cells t) (k:Nat) (cells o))) (g:=q8r vs ts) (z:=fun (o:List Int)=>some (slc o,[])) appI
  (fun m k o h ho => ?_) (fun k o h ho=>appI_step ok ho) (fun m o ho => ?_) [] (by simp [appI]) (by omega)
 · rw [app_fold] at key; exact key
 · have hn:=hr _ (List.getElem_mem h)
   have ho:o.length≤k*4096:=ho
   by_cases hneg:t[k] < 0
   · simp only [q1e.next0,q1e.round0,evz,Nat.reduceLT,h,List.getElem?_eq_getElem,q1r,hneg,q27 (x := -1 - t[k]) (by omega),(q21 vs ts (-1 - t[k]) ok.len (by omega)).eq,q8r]
     cases hb:q3i vs ts (-1 - t[k]) with
     | none =>
       simp only [q80,evz,Nat.reduceLT,List.all_nil,Option.getD_none,cells_nil,List.length_nil,← q3b,Int.natCast_zero,Nat.zero_div,Int.ofNat_zero]
       rw [q26 (q3s (by rw [q0u,q3l]; omega)),q2j,q0m (by omega)]
     | some x =>
       have hx:=ok.tm x (q4z hb)
       have hx0:¬ ((x.length:Int)=0):=by omega
       simp only [evz,Nat.reduceLT,q3q,Option.getD_some,hx0,← q3b]
       rw [q26 (q3s (by rw [q0u,q0u,q3l]; omega)),q0m (by omega)]
   · simp only [q1e.next0,q1e.round0,evz,Nat.reduceLT,h,List.getElem?_eq_getElem,q1r,hneg,q8r,q90 ok (v := -1 - t[k]) (by omega),Option.getD_none]
     rw [q26 (q3s (by rw [q0u,q3l]; omega)),q2j,q0m (by omega)]
 · simp only [q1e.next0,q1e.round0,evz,Nat.reduceLT,Nat.lt_irrefl]
theorem q8s {vs:List Int} {k:Nat} (h:k < vs.length):vs.getD k 0=vs[k]:=by rw [List.getD_eq_getElem?_getD,List.getElem?_eq_getElem h]; rfl
end Ev.Ty
end
section
namespace Ev.Ty
open Go Ev
open Enc (enc)
open Sm (sm)
set_option linter.unusedSimpArgs false
set_option linter.unusedVariables false
def q8b (l:List Symbol) (t:List Int):Nat→Nat→List Nat
 | 0,_=>[]
 | n+1,p=>p::q8b l t n (endAt l t p)
def q54 (l:List Symbol) (t:List Int) (p:Nat):List Nat:=q8b l t (ar l (t.getD p 0)) (p+1)
theorem q7w (l:List Symbol) (t:List Int):∀ n p,(q8b l t n p).length=n
 | 0,_=>rfl
 | n+1,p=>by rw [q8b,List.length_cons,q7w l t n]
theorem skip_one {l:List Symbol} {t:List Int} {p n:Nat} {r:List Int} (h:skip (ar l) (n+1) (t.drop p)=some r):p < t.length∧skip (ar l) n (t.drop (endAt l t p))=some r∧p < endAt l t p∧endAt l t p≤t.length:=by
 have hp:p < t.length:=by
  rcases Nat.lt_or_ge p t.length with h1 | h1
  · exact h1
  · rw [List.drop_of_length_le h1] at h; cases h
 rw [show n+1=1+n by omega,q8j] at h
 cases h1:skip (ar l) 1 (t.drop p) with
 | none=>rw [h1] at h; cases h
 | some q =>
   rw [h1] at h
   have h2:=skip_at h1
   have e:endAt l t p=t.length - q.length:=by unfold endAt; rw [h1]
   have h3:=h2.2.2 (by omega)
   refine ⟨hp,?_,by rw [e]; omega,by rw [e]; omega⟩
   rw [e,← h2.1]
   exact h
theorem startsN_mem {l:List Symbol} {t:List Int}:∀ {n p:Nat} {r:List Int},skip (ar l) n (t.drop p)=some r→∀ q∈q8b l t n p,p≤q∧q < t.length
 | 0,p,r,h,q,hq=>by cases hq
 | n+1,p,r,h,q,hq=>by
   obtain ⟨h1,h2,h3,h4⟩:=skip_one h
   rcases List.mem_cons.1 hq with rfl | hq
   · exact ⟨Nat.le_refl _,h1⟩
   · have:=startsN_mem h2 q hq
     exact ⟨by omega,this.2⟩
theorem args_skip {l:List Symbol} {t:List Int} (ok:TermOk l t) {p:Nat} (hp:p < t.length):∃ r,skip (ar l) (ar l t[p]) (t.drop (p+1))=some r:=by
 obtain ⟨q,hq⟩:=skip_inner (p:=p) ok.skip (by simpa using hp)
 rw [List.drop_eq_getElem_cons hp,skip] at hq
 exact ⟨q,by simpa using hq⟩
theorem q7c {l:List Symbol} {t:List Int} (ok:TermOk l t) {p:Nat} (hp:p < t.length) {q:Nat} (hq:q∈q54 l t p):p < q∧q < t.length:=by
 obtain ⟨r,hr⟩:=args_skip ok hp
 have hd:t.getD p 0=t[p]:=q8s hp
 unfold q54 at hq
 rw [hd] at hq
 have:=startsN_mem hr q hq
 exact ⟨by omega,this.2⟩
def rank (o:List Int) (n:Int):Int:=idx (fun x=>decide (x=n)) o
def cell (l:List Symbol) (o a b:List Int) (above:Nat→Nat→Bool) (i j:Nat):Bool :=
 if b.getD j 0 < 0 then decide (0≤a.getD i 0)&&decide (b.getD j 0∈subAt l a i)
 else if a.getD i 0 < 0 then false
 else if (q54 l a i).any (fun p=>decide (subAt l a p=subAt l b j)||above p j) then true
 else if rank o (a.getD i 0) < rank o (b.getD j 0) then false
 else if (q54 l b j).any (fun q => !above i q) then false
 else if rank o (b.getD j 0) < rank o (a.getD i 0) then true
 else match ((q54 l a i).zip (q54 l b j)).find? fun x => !decide (subAt l a x.1=subAt l b x.2) with
  | some x=>above x.1 x.2
  | none=>false
theorem cell_congr {l:List Symbol} {o a b:List Int} (ha:TermOk l a) (hb:TermOk l b) {f g:Nat→Nat→Bool} {i j:Nat} (hi:i < a.length) (hj:j < b.length)
 (h:∀ p q,i≤p→j≤q→p < a.length→q < b.length→(i < p∨j < q)→f p q=g p q):cell l o a b f i j=cell l o a b g i j:=by
 have h1:(q54 l a i).any (fun p=>decide (subAt l a p=subAt l b j)||f p j)=(q54 l a i).any (fun p=>decide (subAt l a p=subAt l b j)||g p j):=by
  rw [Bool.eq_iff_iff,List.any_eq_true,List.any_eq_true]
  constructor
  · rintro ⟨p,hp,h1⟩
    have:=q7c ha hi hp
    exact ⟨p,hp,by rw [← h p j (by omega) (Nat.le_refl _) this.2 hj (.inl this.1)]; exact h1⟩
  · rintro ⟨p,hp,h1⟩
    have:=q7c ha hi hp
    exact ⟨p,hp,by rw [h p j (by omega) (Nat.le_refl _) this.2 hj (.inl this.1)]; exact h1⟩
 have h2:(q54 l b j).any (fun q => !f i q)=(q54 l b j).any (fun q => !g i q):=by
  rw [Bool.eq_iff_iff,List.any_eq_true,List.any_eq_true]
  constructor
  · rintro ⟨p,hp,h1⟩
    have:=q7c hb hj hp
    exact ⟨p,hp,by rw [← h i p (Nat.le_refl _) (by omega) hi this.2 (.inr this.1)]; exact h1⟩
  · rintro ⟨p,hp,h1⟩
    have:=q7c hb hj hp
    exact ⟨p,hp,by rw [h i p (Nat.le_refl _) (by omega) hi this.2 (.inr this.1)]; exact h1⟩
 unfold cell
 rw [h1,h2]
 cases hf:((q54 l a i).zip (q54 l b j)).find? fun x => !decide (subAt l a x.1=subAt l b x.2) with
 | none=>rfl
 | some x =>
   have hm:=List.mem_of_find?_eq_some hf
   have hm1:=q7c ha hi (List.of_mem_zip hm).1
   have hm2:=q7c hb hj (List.of_mem_zip hm).2
   simp only [h x.1 x.2 (by omega) (by omega) hm1.2 hm2.2 (.inl hm1.1)]
def gtN (l:List Symbol) (o a b:List Int):Nat→Nat→Nat→Bool
 | 0,_,_=>false
 | n+1,i,j=>cell l o a b (gtN l o a b n) i j
def gt (l:List Symbol) (o a b:List Int) (i j:Nat):Bool:=gtN l o a b (a.length+b.length+1) i j
theorem gtN_stable {l:List Symbol} {o a b:List Int} (ha:TermOk l a) (hb:TermOk l b):∀ (d n m i j:Nat),i < a.length→j < b.length→(a.length - i)+(b.length - j)≤d→d < n→d < m→gtN l o a b n i j=gtN l o a b m i j:=by
 intro d
 induction d with
 | zero=>intros; omega
 | succ d ih =>
   intro n m i j hi hj hd hn hm
   obtain ⟨n,rfl⟩:∃ q,n=q+1:=⟨n - 1,by omega⟩
   obtain ⟨m,rfl⟩:∃ q,m=q+1:=⟨m - 1,by omega⟩
   rw [gtN,gtN]
   exact cell_congr ha hb hi hj fun p q h1 h2 h3 h4 h5=>ih n m p q h3 h4 (by omega) (by omega) (by omega)
theorem gt_eq {l:List Symbol} {o a b:List Int} (ha:TermOk l a) (hb:TermOk l b) {i j:Nat} (hi:i < a.length) (hj:j < b.length):gt l o a b i j=cell l o a b (gt l o a b) i j:=by
 show gtN l o a b (a.length+b.length+1) i j=_
 rw [gtN]
 exact cell_congr ha hb hi hj fun p q h1 h2 h3 h4 h5=>gtN_stable ha hb ((a.length - p)+(b.length - q)) _ _ p q h3 h4 (Nat.le_refl _) (by omega) (by omega)
def ints (l:List Nat):List Int:=l.map fun (n:Nat)=>(n:Int)
section
variable {l:List Symbol} (ok:SigOk ⟨l⟩)
include ok
end
theorem mpAt_map:∀ (l:List (Int × Int × Bool)) (a b:Int) (i j:Nat),(mpAt l a b i).map (·.2)=(mpAt l a b j).map (·.2)
 | [],_,_,_,_=>rfl
 | (x,y,v)::r,a,b,i,j=>by
   rw [mpAt,mpAt]
   cases (a == x&&b == y) with
   | true=>rfl
   | false=>exact mpAt_map r a b (i+1) (j+1)
theorem q87 (x y:Int) (v:Bool) (r:List (Int × Int × Bool)) (a b:Int):q91 ((x,y,v)::r) a b=bif a == x&&b == y then some v else q91 r a b:=by
 unfold q91
 rw [mpAt]
 cases (a == x&&b == y) with
 | true=>rfl
 | false=>exact mpAt_map r a b 1 0
theorem mpFind_put:∀ (l:List (Int × Int × Bool)) (x y:Int) (v:Bool) (a b:Int),q91 (mpPut l x y v) a b=bif a == x&&b == y then some v else q91 l a b
 | [],x,y,v,a,b=>by rw [mpPut,q87]
 | (x',y',v')::r,x,y,v,a,b=>by
   rw [mpPut]
   cases h:(x == x'&&y == y') with
   | true =>
     simp only [Bool.and_eq_true,beq_iff_eq] at h
     obtain ⟨rfl,rfl⟩:=h
     rw [cond_true,q87,q87]
     cases (a == x&&b == y) <;> rfl
   | false =>
     rw [cond_false,q87,q87,mpFind_put r]
     cases h1:(a == x'&&b == y') with
     | false=>rfl
     | true =>
       cases h2:(a == x&&b == y) with
       | false=>rfl
       | true =>
         simp only [Bool.and_eq_true,beq_iff_eq] at h1 h2
         obtain ⟨rfl,rfl⟩:=h1
         obtain ⟨rfl,rfl⟩:=h2
         simp at h
def Good (l:List Symbol) (o a b:List Int) (m:List (Int × Int × Bool)):Prop:=∀ (p q:Nat) (v:Bool),q91 m p q=some v→v=gt l o a b p q
theorem Good.put {l:List Symbol} {o a b:List Int} {m:List (Int × Int × Bool)} (h:Good l o a b m) (i j:Nat):Good l o a b (mpPut m i j (gt l o a b i j)):=fun p q v hv=>by
 rw [mpFind_put] at hv
 cases hc:(((p:Int) == (i:Int))&&((q:Int) == (j:Int))) with
 | true =>
   rw [hc,cond_true] at hv
   simp only [Bool.and_eq_true,beq_iff_eq,Int.ofNat_inj] at hc
   obtain ⟨rfl,rfl⟩:=hc
   exact (Option.some.inj hv).symm
 | false=>rw [hc,cond_false] at hv; exact h p q v hv
theorem subAt_length (l:List Symbol) (t:List Int) (p:Nat):(subAt l t p).length≤t.length:=by simp [subAt]; omega
section
variable {l:List Symbol} (ok:SigOk ⟨l⟩) {o a b:List Int} (ha:TermOk l a) (hb:TermOk l b)
include ok ha hb
omit ok ha hb in
theorem ints_get {A:List Nat} {k:Nat} (h:k < A.length):(ints A)[k]?=some ((A[k]:Nat):Int):=by simp [ints,h]
omit ok ha hb in
theorem q6f (A:List Nat):(ints A).length=A.length:=by simp [ints]
omit ok ha hb in
theorem rank_inj {x y:Int} (hx:x∈o) (h:rank o x=rank o y):x=y:=by
 unfold rank at h
 rcases q6m (fun z:Int=>decide (z=x)) o with ⟨h1,hno⟩ | ⟨i,hi,h1,hy1,_⟩
 · have:=hno x hx; simp at this
 · rcases q6m (fun z:Int=>decide (z=y)) o with ⟨h2,_⟩ | ⟨i',hi',h2,hy2,_⟩
   · omega
   · have:i=i':=by omega
     subst this
     simp at hy1 hy2
     rw [← hy1,← hy2]
omit ok ha hb in
theorem starts_le (ok:SigOk ⟨l⟩) (t:List Int) (p:Nat):(q54 l t p).length≤2:=by
 unfold q54; rw [q7w]; exact ar_le ok _
end
theorem q1t (o:List Int) (x:Int) (hl:o.length≤4294967296):Call F.q1t [slc o,.int .i64 x] (.int .i64 (rank o x)):=by
 refine q0s rfl (o.length+1) ((q1t.ev _ _ _).trans ?_)
 refine q6l (S:=fun m k=>q1t.at0 (o.length+1) m (q1t.st0 (cells o) x (k:Nat))) (fun m k h => ?_) (fun m => ?_) (Nat.lt_succ_self _)
 · have hlk:o[k]?=some o[k]:=List.getElem?_eq_getElem h
   simp only [q1t.next0,q1t.round0,evz,Nat.reduceLT,h,hlk,q1r,decide_eq_true_eq]
   rw [q0m (by omega)]
 · simp only [q1t.next0,q1t.round0,evz,Nat.reduceLT,Nat.lt_irrefl]
section
variable {l:List Symbol} (ok:SigOk ⟨l⟩)
include ok
theorem q1d {t:List Int} (ht:TermOk l t) {p:Nat} (hp:p < t.length) (hn:0≤t[p]):Call F.q1d [.rref [slc l] 0,slc t,.int .i64 p] (slc (ints (q54 l t p))):=by
 have hle:=ht.le
 have har:=ar_le (l:=l) ok t[p]
 have hnode:=q4a.1 (ht.node _ (List.getElem_mem hp))
 have hls:l.length≤6:=ok.le
 obtain ⟨u,hu⟩:∃ u:Nat,t[p]=u:=⟨t[p].toNat,by omega⟩
 have hul:u < l.length:=by omega
 have hare:(l[u]).arity=(ar l t[p]:Nat):=by
  have:=ar_eq ok (n:=t[p]) hn (by rw [hu]; simpa using hul)
  simpa [hu] using this
 refine q0s rfl 4 ((q1d.ev _ _ _ _).trans ?_)
 rw [q0m (by omega)]
 have loop:∀ n k q f (out:List Int) r,k+n=ar l t[p]→n < f→skip (ar l) n (t.drop q)=some r→out.length=k →
  q1d.at0 4 f (q1d.st0 (cells l) (cells t) (p:Nat) (q:Nat) (k:Nat) (cells out))=some (slc (out++ints (q8b l t n q)),[]):=by
  intro n
  induction n with
  | zero =>
    intro k q f out r hk hf hs ho
    obtain ⟨f,rfl⟩:∃ x,f=x+1:=⟨f - 1,by omega⟩
    have:¬ k < ar l t[p]:=by omega
    simp only [q1d.next0,q1d.round0,evz,Nat.reduceLT,hp,List.getElem?_eq_getElem,q1r,hu,hul,q28,hare,q8b,ints,List.map_nil,List.append_nil]
    rw [← hu,if_neg this]
  | succ n ih =>
    intro k q f out r hk hf hs ho
    obtain ⟨f,rfl⟩:∃ x,f=x+1:=⟨f - 1,by omega⟩
    obtain ⟨h1,h2,h3,h4⟩:=skip_one hs
    have hlt:k < ar l t[p]:=by omega
    simp only [q1d.next0,q1d.round0,evz,Nat.reduceLT,hp,List.getElem?_eq_getElem,q1r,hu,hul,q28,hare,(q7v ok ht h1).eq,q2j]
    rw [← hu,if_pos hlt,q26 (q3s (by rw [q0u,q3l]; omega)),q0m (by omega),ih (k+1) (endAt l t q) f (out++[(q:Int)]) r (by omega) (by omega) h2 (by simp [ho])]
    simp [q8b,ints]
 obtain ⟨r,hr⟩:=args_skip ht hp
 have hd:t.getD p 0=t[p]:=q8s hp
 have:=loop (ar l t[p]) 0 (p+1) 4 [] r (by omega) (by omega) hr (by simp)
 unfold q54
 rw [hd]
 simpa using this
theorem q5e {a b:List Int} (ha:TermOk l a) (hb:TermOk l b) {i j:Nat} (hi:i < a.length) (hj:j < b.length):Call F.q5e [.rref [slc l] 0,slc a,.int .i64 i,slc b,.int .i64 j] (.bool (decide (subAt l a i=subAt l b j))):=by
 refine q0s rfl 0 ((q5e.ev _ _ _ _ _ _).trans ?_)
 obtain ⟨h1,h2,_⟩:=q2z ha hi
 obtain ⟨h3,h4,_⟩:=q2z hb hj
 have h5:=subAt_length l a i
 have h6:=ha.le
 have hs:=(q1u (subAt l a i) (subAt l b j) ⟨by omega,fun _ _=>trivial⟩).eq
 simp only [evz,Nat.reduceLT,(q7v ok ha hi).eq,(q7v ok hb hj).eq]
 rw [q26 (by simp; omega),q26 (by simp; omega),q9b,q9b]
 unfold subAt at hs ⊢
 simp only [hs,evz,Nat.reduceLT]
omit ok in
theorem sz_bool:Enc.sz Bool=1:=rfl
omit ok in
theorem enc_bool (b:Bool):enc b=[.bool b]:=rfl
omit ok in
theorem bget {T:List Bool} {k:Nat} (h:k < T.length):(cells T)[k*1]?=some (.bool (T.getD k false)):=by
 rw [get0 (l:=T) (k:=1) (i:=k) rfl,List.getElem?_eq_getElem h,List.getD_eq_getElem?_getD,List.getElem?_eq_getElem h]; rfl
omit ok in
theorem bgetD {T:List Bool} {k:Nat} (h:k < T.length):T[k]?=some (T.getD k false):=by
 rw [List.getElem?_eq_getElem h,List.getD_eq_getElem?_getD,List.getElem?_eq_getElem h]; rfl
omit ok in
theorem q9c {i j la lb:Nat} (hi:i < la) (hj:j < lb):i*lb+j < la*lb:=by
 have:i*lb+lb≤la*lb:=by rw [← Nat.succ_mul]; exact Nat.mul_le_mul_right _ hi
 omega
omit ok in
theorem at_wrap {i j la lb:Nat} (hi:i < la) (hj:j < lb) (ha:la≤24) (hb:lb≤24):IntKind.wrap .i64 (IntKind.wrap .i64 ((i:Int)*(lb:Int))+(j:Int))=((i*lb+j:Nat):Int):=by
 have h1:=q9c hi hj
 have h2:la*lb≤24*24:=Nat.mul_le_mul ha hb
 have e1:IntKind.wrap .i64 ((i:Int)*(lb:Int))=((i*lb:Nat):Int):=by rw [← Int.natCast_mul]; exact q27 (by omega)
 rw [e1,← Int.natCast_add]; exact q27 (by omega)
section
variable {o a b:List Int} (ha:TermOk l a) (hb:TermOk l b) {T:List Bool} (hT:T.length=a.length*b.length)
include ha hb hT
theorem cell4 {A B:List Nat} (hAl:A.length≤2) (hA:∀ p∈A,p < a.length) (hB:∀ q∈B,q < b.length) :
 ∀ n k f,k+n=A.length→n < f →
  q0f.at4 8 f (q0f.st4 (cells l) (cells a) (cells b) (cells T) (b.length:Nat) (k:Nat) (cells (ints A)) (cells (ints B))) =
   some (.bool (match ((A.drop k).zip (B.drop k)).find? fun x => !decide (subAt l a x.1=subAt l b x.2) with | some x=>T.getD (x.1*b.length+x.2) false | none=>false),[]):=by
 have hla:=ha.le
 have hlb:=hb.le
 intro n
 induction n with
 | zero =>
   intro k f hk hf
   obtain ⟨f,rfl⟩:∃ x,f=x+1:=⟨f - 1,by omega⟩
   have:¬ k < A.length:=by omega
   simp only [q0f.next4,q0f.round4,evz,Nat.reduceLT,q6f,this,List.drop_of_length_le (show A.length≤k by omega),List.zip_nil_left,List.find?_nil]
 | succ n ihn =>
   intro k f hk hf
   obtain ⟨f,rfl⟩:∃ x,f=x+1:=⟨f - 1,by omega⟩
   have hkA:k < A.length:=by omega
   by_cases hkB:k < B.length
   · have hp:=hA _ (List.getElem_mem hkA)
     have hq:=hB _ (List.getElem_mem hkB)
     have hs:=(q5e ok ha hb hp hq).eq
     rw [List.drop_eq_getElem_cons hkA,List.drop_eq_getElem_cons hkB,List.zip_cons_cons,List.find?_cons]
     by_cases e:subAt l a A[k]=subAt l b B[k]
     · have:=ihn (k+1) f (by omega) (by omega)
       simp only [q0f.next4,q0f.round4,evz,Nat.reduceLT,hkA,hkB,ints_get,q6f,q1r,hs,e,Bool.not_true]
       rw [q0m (by omega)]
       exact this
     · have hin:A[k]*b.length+B[k] < T.length:=by rw [hT]; exact q9c hp hq
       simp only [q0f.next4,q0f.round4,evz,Nat.reduceLT,hkA,hkB,ints_get,q6f,q1r,hs,e,Bool.not_false,at_wrap hp hq hla hlb,hin,bgetD hin,enc_bool,sz_bool]
   · simp only [q0f.next4,q0f.round4,evz,Nat.reduceLT,hkA,hkB,ints_get,q6f,List.drop_of_length_le (show B.length≤k by omega),List.zip_nil_right,List.find?_nil]
omit ok in
theorem cell2 {i j:Nat} {A B:List Nat} {Rest:R} (hi:i < a.length) (hB:∀ q∈B,q < b.length) (hBl:B.length≤2)
 (hrest:∀ f,q0f.at2 8 (f+1) (q0f.st2 (cells l) (cells a) (cells b) (i:Nat) (j:Nat) (cells T) (b.length:Nat) (B.length:Nat) (cells (ints A)) (cells (ints B)))=Rest) :
 ∀ n k f,k+n=B.length→n < f →
  q0f.at2 8 f (q0f.st2 (cells l) (cells a) (cells b) (i:Nat) (j:Nat) (cells T) (b.length:Nat) (k:Nat) (cells (ints A)) (cells (ints B))) =
   if (B.drop k).any (fun q => !T.getD (i*b.length+q) false) then some (.bool false,[]) else Rest:=by
 have hla:=ha.le
 have hlb:=hb.le
 intro n
 induction n with
 | zero =>
   intro k f hk hf
   obtain ⟨f,rfl⟩:∃ x,f=x+1:=⟨f - 1,by omega⟩
   obtain rfl:k=B.length:=by omega
   rw [hrest,List.drop_of_length_le (Nat.le_refl _)]; rfl
 | succ n ihn =>
   intro k f hk hf
   obtain ⟨f,rfl⟩:∃ x,f=x+1:=⟨f - 1,by omega⟩
   have hkB:k < B.length:=by omega
   have hq:=hB _ (List.getElem_mem hkB)
   have hin:i*b.length+B[k] < T.length:=by rw [hT]; exact q9c hi hq
   have:=ihn (k+1) f (by omega) (by omega)
   rw [List.drop_eq_getElem_cons hkB,List.any_cons]
   simp only [q0f.next2,q0f.round2,evz,Nat.reduceLT,hkB,ints_get,q6f,q1r,at_wrap hi hq hla hlb,hin,bgetD hin,enc_bool,sz_bool]
   cases T.getD (i*b.length+B[k]) false with
   | false=>simp
   | true =>
     rw [q0m (by omega)]
     simp only [evz,Nat.reduceLT,Bool.not_true,Bool.false_or]
     exact this
theorem cell0 {o:List Int} {i j:Nat} {A:List Nat} {Rest:R} (hj:j < b.length) (hA:∀ p∈A,p < a.length) (hAl:A.length≤2)
 (hrest:∀ f,q0f.at0 8 (f+1) (q0f.st0 (cells l) (cells o) (cells a) (cells b) (i:Nat) (j:Nat) (cells T) (b.length:Nat) (A.length:Nat) (cells (ints A)))=Rest) :
 ∀ n k f,k+n=A.length→n < f →
  q0f.at0 8 f (q0f.st0 (cells l) (cells o) (cells a) (cells b) (i:Nat) (j:Nat) (cells T) (b.length:Nat) (k:Nat) (cells (ints A))) =
   if (A.drop k).any (fun p=>decide (subAt l a p=subAt l b j)||T.getD (p*b.length+j) false) then some (.bool true,[]) else Rest:=by
 have hla:=ha.le
 have hlb:=hb.le
 intro n
 induction n with
 | zero =>
   intro k f hk hf
   obtain ⟨f,rfl⟩:∃ x,f=x+1:=⟨f - 1,by omega⟩
   obtain rfl:k=A.length:=by omega
   rw [hrest,List.drop_of_length_le (Nat.le_refl _)]; rfl
 | succ n ihn =>
   intro k f hk hf
   obtain ⟨f,rfl⟩:∃ x,f=x+1:=⟨f - 1,by omega⟩
   have hkA:k < A.length:=by omega
   have hp:=hA _ (List.getElem_mem hkA)
   have hin:A[k]*b.length+j < T.length:=by rw [hT]; exact q9c hp hj
   have:=ihn (k+1) f (by omega) (by omega)
   rw [List.drop_eq_getElem_cons hkA,List.any_cons]
   simp only [q0f.next0,q0f.round0,evz,Nat.reduceLT,hkA,ints_get,q6f,q1r,at_wrap hp hj hla hlb,hin,bgetD hin,enc_bool,sz_bool,(q5e ok ha hb hp hj).eq]
   cases T.getD (A[k]*b.length+j) false with
   | true=>simp
   | false =>
     by_cases e:subAt l a A[k]=subAt l b j
     · simp [e]
     · rw [q0m (by omega)]
       simp only [evz,Nat.reduceLT,e,Bool.or_false,Bool.false_or]
       exact this
theorem q0f (hol:o.length≤1048576) (ho:∀ n:Int,0≤n→n < l.length→n∈o) {i j:Nat} (hi:i < a.length) (hj:j < b.length) :
 Call F.q0f [.rref [slc l] 0,slc o,slc a,slc b,.int .i64 i,.int .i64 j,slc T] (.bool (cell l o a b (fun p q=>T.getD (p*b.length+q) false) i j)):=by
 have hai:a.getD i 0=a[i]:=q8s hi
 have hbj:b.getD j 0=b[j]:=q8s hj
 have hla:=ha.le
 have hlb:=hb.le
 have hsl:=subAt_length l a i
 obtain ⟨h1,h2,_⟩:=q2z ha hi
 unfold cell
 rw [hai,hbj]
 refine q0s rfl 8 ((q0f.ev _ _ _ _ _ _ _ _).trans ?_)
 by_cases hy:b[j] < 0
 · by_cases hx:0≤a[i]
   · have hx':a[i] ≥ 0:=hx
     have hc:=(q1o (subAt l a i) b[j] (by omega)).eq
     have hm:decide (((List.count b[j] (subAt l a i):Nat):Int) > 0)=decide (b[j]∈subAt l a i):=by
      rw [decide_eq_decide,← List.count_pos_iff]; omega
     simp only [evz,Nat.reduceLT,hi,hj,List.getElem?_eq_getElem,q1r,hy,hx',hx,(q7v ok ha hi).eq,Bool.true_and]
     rw [q26 (by simp; omega),q9b]
     unfold subAt at hc hm ⊢
     simp only [hc,evz,Nat.reduceLT,hm]
   · have hx':¬ a[i] ≥ 0:=hx
     simp only [evz,Nat.reduceLT,hi,hj,List.getElem?_eq_getElem,q1r,hy,hx',hx,Bool.false_and]
 by_cases hx:a[i] < 0
 · simp only [evz,Nat.reduceLT,hi,hj,List.getElem?_eq_getElem,q1r,hy,hx]
 have hA:∀ p∈q54 l a i,i < p∧p < a.length:=fun p hp=>q7c ha hi hp
 have hB:∀ q∈q54 l b j,j < q∧q < b.length:=fun q hq=>q7c hb hj hq
 have hAl:=starts_le ok a i
 have hBl:=starts_le ok b j
 have ix:=(q1t o a[i] (by omega)).eq
 have iy:=(q1t o b[j] (by omega)).eq
 have sa:=(q1d ok ha hi (by omega)).eq
 have sb:=(q1d ok hb hj (by omega)).eq
 have hne:(rank o b[j] < rank o a[i])↔(¬ rank o a[i] < rank o b[j])∧a[i]≠b[j]:=by
  have n1:=q4a.1 (ha.node _ (List.getElem_mem hi))
  constructor
  · intro h
    refine ⟨by omega,fun e => ?_⟩
    rw [e] at h; omega
  · rintro ⟨h1,h2⟩
    rcases Int.lt_or_le (rank o b[j]) (rank o a[i]) with h | h
    · exact h
    · exact absurd (rank_inj (ho _ (by omega) (by omega)) (by omega)) h2
 generalize hAA:q54 l a i=A at hA hAl sa
 generalize hBB:q54 l b j=B at hB hBl sb
 have e4:=cell4 ok ha hb hT (A:=A) (B:=B) hAl (fun p hp=>(hA p hp).2) (fun q hq=>(hB q hq).2) A.length 0 8 (by omega) (by omega)
 let Rest2:R:=if a[i]≠b[j] then some (.bool true,[]) else some (.bool (match ((A.drop 0).zip (B.drop 0)).find? fun x => !decide (subAt l a x.1=subAt l b x.2) with | some x=>T.getD (x.1*b.length+x.2) false | none=>false),[])
 have e2:=cell2 (l:=l) ha hb hT (i:=i) (j:=j) (A:=A) (B:=B) (Rest:=Rest2) hi (fun q hq=>(hB q hq).2) hBl (fun f=>by
  simp only [q0f.next2,q0f.round2,evz,Nat.reduceLT,Nat.lt_irrefl,q6f,hi,hj,List.getElem?_eq_getElem,q1r,Rest2]
  by_cases e:a[i]=b[j]
  · simp only [e,evz,Nat.reduceLT]
    rw [if_neg (fun h=>h rfl)]
    exact e4
  · simp [e]) B.length 0 8 (by omega) (by omega)
 let Rest0:R:=if rank o a[i] < rank o b[j] then some (.bool false,[]) else if (B.drop 0).any (fun q => !T.getD (i*b.length+q) false) then some (.bool false,[]) else Rest2
 have e0:=cell0 ok ha hb hT (o:=o) (i:=i) (j:=j) (A:=A) (Rest:=Rest0) hj (fun p hp=>(hA p hp).2) hAl (fun f=>by
  simp only [q0f.next0,q0f.round0,evz,Nat.reduceLT,Nat.lt_irrefl,q6f,hi,hj,List.getElem?_eq_getElem,q1r,ix,iy,sb,Rest0]
  by_cases hr:rank o a[i] < rank o b[j]
  · rw [if_pos hr,if_pos hr]
  · rw [if_neg hr,if_neg hr]
    exact e2) A.length 0 8 (by omega) (by omega)
 simp only [evz,Nat.reduceLT,hi,hj,List.getElem?_eq_getElem,q1r,hy,hx,sa]
 refine Eq.trans e0 ?_
 simp only [Rest0,Rest2,List.drop_zero]
 by_cases c1:A.any (fun p=>decide (subAt l a p=subAt l b j)||T.getD (p*b.length+j) false)=true
 · rw [if_pos c1,if_pos c1]
 rw [if_neg c1,if_neg c1]
 by_cases c2:rank o a[i] < rank o b[j]
 · rw [if_pos c2,if_pos c2]
 rw [if_neg c2,if_neg c2]
 by_cases c3:B.any (fun q => !T.getD (i*b.length+q) false)=true
 · rw [if_pos c3,if_pos c3]
 rw [if_neg c3,if_neg c3]
 by_cases c4:rank o b[j] < rank o a[i]
 · rw [if_pos c4,if_pos (hne.1 c4).2]
 · rw [if_neg c4,if_neg (fun h=>c4 (hne.2 ⟨c2,h⟩))]
end
omit ok in
theorem set_Bool {T:List Bool} {k:Nat} (h:k < T.length) (v:Bool):setCells (cells T) (k*1) [.bool v]=cells (T.set k v):=cells_set T 1 k rfl v h
omit ok in
theorem rep_Bool (n:Nat):repT n [.bool false]=cells (List.replicate n false):=cells_rep n false
def Done (l:List Symbol) (o a b:List Int) (T:List Bool) (n:Nat):Prop :=
 T.length=a.length*b.length∧∀ p q,p < a.length→q < b.length→n≤p*b.length+q→T.getD (p*b.length+q) false=gt l o a b p q
omit ok in
theorem at_inj {n p q i j:Nat} (hq:q < n) (hj:j < n) (h:p*n+q=i*n+j):p=i∧q=j:=by
 rcases Nat.lt_trichotomy p i with h1 | h1 | h1
 · have:(p+1)*n≤i*n:=Nat.mul_le_mul_right _ h1
   rw [Nat.succ_mul] at this; omega
 · subst h1; exact ⟨rfl,by omega⟩
 · have:(i+1)*n≤p*n:=Nat.mul_le_mul_right _ h1
   rw [Nat.succ_mul] at this; omega
omit ok in
theorem Done.cell {o a b:List Int} (ha:TermOk l a) (hb:TermOk l b) {T:List Bool} {i j:Nat} (hi:i < a.length) (hj:j < b.length) (h:Done l o a b T (i*b.length+(j+1))) :
 cell l o a b (fun p q=>T.getD (p*b.length+q) false) i j=gt l o a b i j:=by
 rw [gt_eq ha hb hi hj]
 refine cell_congr ha hb hi hj fun p q h1 h2 h3 h4 h5=>h.2 p q h3 h4 ?_
 have h6:i*b.length≤p*b.length:=Nat.mul_le_mul_right _ h1
 rcases h5 with h5 | h5
 · have:(i+1)*b.length≤p*b.length:=Nat.mul_le_mul_right _ h5
   rw [Nat.succ_mul] at this; omega
 · omega
omit ok in
theorem Done.set {o a b:List Int} {T:List Bool} {i j:Nat} (hi:i < a.length) (hj:j < b.length) (h:Done l o a b T (i*b.length+(j+1))):Done l o a b (T.set (i*b.length+j) (gt l o a b i j)) (i*b.length+j):=by
 have hin:=q9c hi hj
 refine ⟨by rw [List.length_set]; exact h.1,fun p q hp hq hle => ?_⟩
 by_cases e:i*b.length+j=p*b.length+q
 · obtain ⟨rfl,rfl⟩:=at_inj hq hj e.symm
   simp [List.getD_eq_getElem?_getD,h.1,hin]
 · have:=h.2 p q hp hq (by omega)
   rw [← this,List.getD_eq_getElem?_getD,List.getD_eq_getElem?_getD,List.getElem?_set_ne e]
theorem table2 {o a b:List Int} (ha:TermOk l a) (hb:TermOk l b) (hol:o.length≤1048576) (ho:∀ n:Int,0≤n→n < l.length→n∈o) (L0:St→R) {i:Nat} (hi:i < a.length) :
 ∀ (k f:Nat) (T:List Bool),k≤b.length→k < f→Done l o a b T (i*b.length+k)→∃ T',Done l o a b T' (i*b.length) ∧
  q0q.at2 25 L0 f (q0q.st2 (cells l) (cells o) (cells a) (cells b) (b.length:Nat) (i:Nat) ((k:Int) - 1) (cells T)) =
   L0 (q0q.st0 (cells l) (cells o) (cells a) (cells b) (b.length:Nat) ((i:Int) - 1) (cells T')):=by
 have hla:=ha.le
 have hlb:=hb.le
 intro k
 induction k with
 | zero =>
   intro f T hk hf hd
   obtain ⟨f,rfl⟩:∃ x,f=x+1:=⟨f - 1,by omega⟩
   refine ⟨T,by simpa using hd,?_⟩
   have h1:¬ (((0:Nat):Int) - 1 ≥ 0):=by omega
   simp only [q0q.next2,q0q.round2,cond_dec]
   rw [if_neg h1,q27 (by omega)]
 | succ k ih =>
   intro f T hk hf hd
   obtain ⟨f,rfl⟩:∃ x,f=x+1:=⟨f - 1,by omega⟩
   have hj:k < b.length:=by omega
   have hin:i*b.length+k < T.length:=by rw [hd.1]; exact q9c hi hj
   obtain ⟨T',hd',h'⟩:=ih f (T.set (i*b.length+k) (gt l o a b i k)) (by omega) (by omega) (hd.set hi hj)
   refine ⟨T',hd',?_⟩
   have e:((k+1:Nat):Int) - 1=(k:Int):=by omega
   have hc:=q0f ok ha hb hd.1 hol ho hi hj
   rw [hd.cell ha hb hi hj] at hc
   have h1:(k:Int) ≥ 0:=by omega
   rw [e]
   simp only [q0q.next2,q0q.round2,evz,Nat.reduceLT,h1,hc.eq,at_wrap hi hj hla hlb,hin,sz_bool]
   rw [q27 (by omega),if_pos (by rw [q0u,sz_bool]; omega),set_Bool hin]
   exact h'
theorem q0q {o a b:List Int} (ha:TermOk l a) (hb:TermOk l b) (hol:o.length≤1048576) (ho:∀ n:Int,0≤n→n < l.length→n∈o) :
 ∃ T,Done l o a b T 0∧Call F.q0q [.rref [slc l] 0,slc o,slc a,slc b] (slc T):=by
 have hla:=ha.le
 have hlb:=hb.le
 have outer:∀ (m f:Nat) (T:List Bool),m≤a.length→m < f→Done l o a b T (m*b.length)→∃ T',Done l o a b T' 0 ∧
  q0q.at0 25 f (q0q.st0 (cells l) (cells o) (cells a) (cells b) (b.length:Nat) ((m:Int) - 1) (cells T))=some (slc T',[]):=by
  intro m
  induction m with
  | zero =>
    intro f T hm hf hd
    obtain ⟨f,rfl⟩:∃ x,f=x+1:=⟨f - 1,by omega⟩
    refine ⟨T,by simpa using hd,?_⟩
    have h1:¬ (((0:Nat):Int) - 1 ≥ 0):=by omega
    simp only [q0q.next0,q0q.round0,cond_dec]
    rw [if_neg h1]; rfl
  | succ m ih =>
    intro f T hm hf hd
    obtain ⟨f,rfl⟩:∃ x,f=x+1:=⟨f - 1,by omega⟩
    have e:((m+1:Nat):Int) - 1=(m:Int):=by omega
    have h1:(m:Int) ≥ 0:=by omega
    obtain ⟨T1,hd1,h1'⟩:=table2 ok ha hb hol ho (q0q.at0 25 f) (i:=m) (by omega) b.length 25 T (Nat.le_refl _) (by omega) (by rw [← Nat.succ_mul]; exact hd)
    obtain ⟨T',hd',h'⟩:=ih f T1 (by omega) (by omega) hd1
    refine ⟨T',hd',?_⟩
    rw [e]
    simp only [q0q.next0,q0q.round0,cond_dec]
    rw [if_pos h1,q27 (by omega),h1',h']
 have hmul:a.length*b.length≤24*24:=Nat.mul_le_mul hla hlb
 obtain ⟨T,hd,h⟩:=outer a.length 25 (List.replicate (a.length*b.length) false) (Nat.le_refl _) (by omega) ⟨by simp,fun p q hp hq hle=>by have:=q9c hp hq; omega⟩
 refine ⟨T,hd,q0s rfl 25 ((q0q.ev _ _ _ _ _).trans ?_)⟩
 have hw:IntKind.wrap .i64 ((a.length:Int)*(b.length:Int))=((a.length*b.length:Nat):Int):=by rw [← Int.natCast_mul]; exact q27 (by omega)
 simp only [q53,q3l,hw,Int.toNat_natCast,rep_Bool]
 rw [q26 (by simp; omega),q27 (by omega)]
 exact h
theorem q5w {o a b:List Int} (ha:TermOk l a) (hb:TermOk l b) (hol:o.length≤1048576) (ho:∀ n:Int,0≤n→n < l.length→n∈o) :
 Call F.q5w [.rref [slc l] 0,slc o,slc a,slc b] (.bool (gt l o a b 0 0)):=by
 obtain ⟨T,hd,h⟩:=q0q ok ha hb hol ho
 have h1:=ha.pos
 have h2:=hb.pos
 have hT:0 < T.length:=by rw [hd.1]; exact Nat.mul_pos h1 h2
 have h3:=hd.2 0 0 h1 h2 (Nat.zero_le _)
 simp only [Nat.zero_mul,Nat.add_zero] at h3
 refine q0s rfl 0 ((q5w.ev _ _ _ _ _).trans ?_)
 have hg:=bget (T:=T) (k:=0) hT
 rw [Nat.zero_mul,h3] at hg
 simp only [evz,Nat.reduceLT,h.eq,sz_bool,hg]
 rw [show inB (0:Int) T.length=true from (q7a 0 T.length).trans (by simpa using hT)]
 rfl
end
end Ev.Ty
end
section
namespace Ev.Ty
open Go Ev
open Enc (enc)
open Sm (sm)
set_option linter.unusedSimpArgs false
set_option linter.unusedVariables false
theorem TermOk.range {l:List Symbol} (ok:SigOk ⟨l⟩) {t:List Int} (h:TermOk l t):∀ n∈t,-4611686018427387904≤n∧n≤4611686018427387904:=fun n hn=>by
 have:=q4a.1 (h.node n hn)
 have hle:l.length≤6:=ok.le
 omega
theorem q6g (t:List Int):Call F.q6g [slc t] (.agg (enc (if 24 < t.length then (⟨2,[]⟩:TermResult) else ⟨0,t⟩))):=by
 refine q0s rfl 0 ((q6g.ev _ _).trans ?_)
 simp only [evz,Nat.reduceLT,gt_iff_lt]
 by_cases h:24 < t.length
 · have h':(24:Int) < t.length:=by omega
   simp only [h,h',evz,Nat.reduceLT,q6x,q80]
 · have h':¬ (24:Int) < t.length:=by omega
   simp only [h,h',evz,Nat.reduceLT,q6x]
theorem q6b (t:List Int) (n:Int) (hl:t.length≤4294967296):Call F.q6b [slc t,.int .i64 n] (.bool (inR n 0 (t.length - 1))):=by
 refine q0s rfl 0 ((q6b.ev _ _ _).trans ?_)
 simp only [evz,Nat.reduceLT,q27 (x:=(t.length:Int) - 1) (by omega),(q3y _ _ _).eq]
theorem getE {es:List Equation} {k:Nat} (h:k < es.length):es.getD k ⟨[],[]⟩=es[k]:=by rw [List.getD_eq_getElem?_getD,List.getElem?_eq_getElem h]; rfl
end Ev.Ty
end
section
namespace Ev.Ty
open Go Ev
open Enc (enc)
open Sm (sm)
set_option linter.unusedSimpArgs false
set_option linter.unusedVariables false
theorem skip_append {a:Int→Nat}:∀ {x r q:List Int} {k:Nat},skip a k x=some q→skip a k (x++r)=some (q++r)
 | x,r,q,0,h=>by rw [q3p] at h; cases h; rw [q3p]
 | [],r,q,k+1,h=>by cases h
 | n::x,r,q,k+1,h=>by
   rw [skip] at h
   rw [List.cons_append,skip]
   exact skip_append h
theorem skip_cut {a:Int→Nat}:∀ {x r:List Int} {k:Nat},skip a k (x++r)=some r→skip a k x=some []
 | x,r,0,h=>by
   rw [q3p] at h
   have:=congrArg List.length (Option.some.inj h)
   rw [List.length_append] at this
   have:x=[]:=List.eq_nil_of_length_eq_zero (by omega)
   subst this; rfl
 | [],r,k+1,h=>by
   obtain ⟨p,hp,hk⟩:=q98 h
   have h1:=congrArg List.length hp
   rw [List.nil_append,List.length_append] at h1
   have h2:=hk (by omega)
   omega
 | n::x,r,k+1,h=>by
   rw [List.cons_append,skip] at h
   rw [skip]
   exact skip_cut h
theorem skip_nil {a:Int→Nat} {m:Nat} {r:List Int} (h:skip a m []=some r):m=0∧r=[]:=by
 cases m with
 | zero=>rw [q3p] at h; cases h; exact ⟨rfl,rfl⟩
 | succ m=>cases h
theorem q46 {l:List Symbol} {t:List Int} (ht:TermOk l t) {p:Nat} (hp:p < t.length):t.drop p=subAt l t p++t.drop (endAt l t p)∧(subAt l t p).length=endAt l t p - p∧skip (ar l) 1 (t.drop p)=some (t.drop (endAt l t p)):=by
 obtain ⟨h1,h2,_⟩:=q2z ht hp
 have hl:(subAt l t p).length=endAt l t p - p:=by simp [subAt]; omega
 refine ⟨?_,hl,?_⟩
 · have e:t.drop (endAt l t p)=(t.drop p).drop (endAt l t p - p):=by rw [List.drop_drop]; congr 1; omega
   have e2:subAt l t p=(t.drop p).take (endAt l t p - p):=by unfold subAt; rw [List.drop_take]
   rw [e,e2,List.take_append_drop]
 · obtain ⟨q,hq⟩:=skip_inner (p:=p) ht.skip (by simpa using hp)
   have:=(skip_at hq).1
   rw [hq]
   unfold endAt
   rw [hq]
   exact congrArg some this
theorem q6n {l:List Symbol} {t:List Int} (ht:TermOk l t) {p:Nat} (hp:p < t.length):TermOk l (subAt l t p):=by
 obtain ⟨h1,h2,h3⟩:=q46 ht hp
 obtain ⟨h4,h5,_⟩:=q2z ht hp
 have:=ht.le
 refine ⟨by omega,by omega,fun n hn=>ht.node n ?_,?_⟩
 · exact List.mem_of_mem_drop (h1 ▸ List.mem_append_left _ hn)
 · rw [h1] at h3; exact skip_cut h3
theorem sub_place {l:List Symbol} {t:List Int} (ht:TermOk l t) {p:Nat} (hp:p < t.length) {i:Nat} (hi:i < (subAt l t p).length) :
 p+i < t.length∧(subAt l t p).getD i 0=t.getD (p+i) 0∧endAt l t (p+i)=p+endAt l (subAt l t p) i∧subAt l (subAt l t p) i=subAt l t (p+i):=by
 obtain ⟨h1,h2,h3⟩:=q46 ht hp
 obtain ⟨h4,h5,_⟩:=q2z ht hp
 have hu:=q6n ht hp
 have hpi:p+i < t.length:=by omega
 obtain ⟨h6,h7,h8⟩:=q46 hu hi
 obtain ⟨k1,k2,k3⟩:=q46 ht hpi
 obtain ⟨h9,h10,_⟩:=q2z hu hi
 obtain ⟨k4,k5,_⟩:=q2z ht hpi
 have hd:t.drop (p+i)=(subAt l t p).drop i++t.drop (endAt l t p):=by
  rw [← List.drop_drop,h1,List.drop_append_of_le_length (by omega)]
 have e1:endAt l t (p+i)=p+endAt l (subAt l t p) i:=by
  have h:=skip_append (r:=t.drop (endAt l t p)) h8
  rw [← hd,k3] at h
  have:=congrArg List.length (Option.some.inj h)
  simp only [List.length_drop,List.length_append] at this
  omega
 refine ⟨hpi,?_,e1,?_⟩
 · have:=congrArg (fun x=>x[0]?) hd
   simp only [List.getElem?_drop,Nat.add_zero] at this
   rw [List.getD_eq_getElem?_getD,List.getD_eq_getElem?_getD,this,List.getElem?_append_left (by simp; omega),List.getElem?_drop,Nat.add_zero]
 · have q1:subAt l t (p+i)=(t.drop (p+i)).take (endAt l t (p+i) - (p+i)):=by unfold subAt; rw [List.drop_take]
   have q2:subAt l (subAt l t p) i=((subAt l t p).drop i).take (endAt l (subAt l t p) i - i):=by
    show ((subAt l t p).take (endAt l (subAt l t p) i)).drop i=_
    rw [List.drop_take]
   rw [q1,q2,hd,e1,List.take_append_of_le_length (by simp; omega)]
   congr 1; omega
abbrev Bnd:=List Int × List (List Int)
def insAt (vs:List Int) (v:Int):Nat:=(vs.takeWhile fun x=>decide (x < v)).length
def ins {α:Type} (l:List α) (i:Nat) (x:α):List α:=l.take i++x::l.drop i
def bput (b:Bnd) (v:Int) (t:List Int):Bnd:=(ins b.1 (insAt b.1 v) v,ins b.2 (insAt b.1 v) t)
theorem insAt_le (vs:List Int) (v:Int):insAt vs v≤vs.length:=by
 have:=(List.takeWhile_sublist (l:=vs) (p:=fun x=>decide (x < v))).length_le
 exact this
theorem insAt_lt:∀ (vs:List Int) (v:Int) (i:Nat) (h:i < insAt vs v) (h':i < vs.length),vs[i] < v
 | [],v,i,h,h'=>by simp at h'
 | x::vs,v,i,h,h'=>by
   unfold insAt at h
   rw [List.takeWhile_cons] at h
   by_cases hx:x < v
   · rw [if_pos (by simpa using hx)] at h
     cases i with
     | zero=>exact hx
     | succ i=>exact insAt_lt vs v i (by simpa [insAt] using h) (by simpa using h')
   · rw [if_neg (by simpa using hx)] at h; simp at h
theorem insAt_stop:∀ (vs:List Int) (v:Int) (h':insAt vs v < vs.length),¬ vs[insAt vs v] < v
 | [],v,h'=>by simp at h'
 | x::vs,v,h'=>by
   by_cases hx:x < v
   · have e:insAt (x::vs) v=insAt vs v+1:=by unfold insAt; rw [List.takeWhile_cons,if_pos (by simpa using hx)]; rfl
     have:=insAt_stop vs v (by rw [e] at h'; simpa using h')
     simpa [e] using this
   · have e:insAt (x::vs) v=0:=by unfold insAt; rw [List.takeWhile_cons,if_neg (by simpa using hx)]; rfl
     simpa [e] using hx
theorem q7d {α:Type} (l:List α) (i:Nat) (x:α) (h:i≤l.length):(ins l i x).length=l.length+1:=by simp [ins]; omega
theorem mem_ins {α:Type} {l:List α} {i:Nat} {x y:α} (h:y∈ins l i x):y=x∨y∈l:=by
 unfold ins at h
 rcases List.mem_append.1 h with h | h
 · exact .inr (List.mem_of_mem_take h)
 · rcases List.mem_cons.1 h with h | h
   · exact .inl h
   · exact .inr (List.mem_of_mem_drop h)
structure MB (l:List Symbol) (b:Bnd) (k:Nat):Prop where
 len:b.1.length=b.2.length
 le:b.1.length≤k
 var:∀ v∈b.1,0≤v∧v≤11
 tm:∀ t∈b.2,TermOk l t
theorem MB.nil (l:List Symbol):MB l ([],[]) 0:=⟨rfl,Nat.le_refl _,by simp,by simp⟩
theorem MB.up {l:List Symbol} {b:Bnd} {k k':Nat} (h:MB l b k) (hk:k≤k'):MB l b k':=⟨h.len,Nat.le_trans h.le hk,h.var,h.tm⟩
theorem MB.put {l:List Symbol} {b:Bnd} {k:Nat} (h:MB l b k) {v:Int} (hv:0≤v∧v≤11) {t:List Int} (ht:TermOk l t):MB l (bput b v t) (k+1):=by
 have hi:=insAt_le b.1 v
 have hlen:=h.len
 have:=h.le
 refine ⟨?_,?_,fun x hx => ?_,fun x hx => ?_⟩
 · unfold bput; rw [q7d _ _ _ hi,q7d _ _ _ (by omega)]; omega
 · unfold bput; rw [q7d _ _ _ hi]; omega
 · rcases mem_ins hx with rfl | hx
   · exact hv
   · exact h.var x hx
 · rcases mem_ins hx with rfl | hx
   · exact ht
   · exact h.tm x hx
theorem MB.ok {l:List Symbol} {b:Bnd} {k:Nat} (h:MB l b k) (hk:k≤24):BindOk b.1 b.2 :=
 ⟨h.len,by have:=h.le; omega,fun v hv=>(h.var v hv).1,fun t ht=>⟨(h.tm t ht).pos,by have:=(h.tm t ht).le; omega⟩⟩
theorem bindOf_none {vs:List Int} {ts:List (List Int)} (hl:vs.length=ts.length) {v:Int} (h:q3i vs ts v=none):v∉vs:=fun hv=>by
 unfold q3i at h
 rcases q6m (fun x:Int=>decide (x=v)) vs with ⟨h1,hno⟩ | ⟨i,hi,h1,_,_⟩
 · have:=hno v hv; simp at this
 · rw [h1,if_neg (by omega),Int.toNat_natCast,List.getElem?_eq_getElem (by omega)] at h
   cases h
def mgo (l:List Symbol) (t:List Int):List Int→Bnd→Nat→Option (Bnd × Nat)
 | [],b,p=>some (b,p)
 | n::q,b,p =>
   if t.length≤p then none
   else if 0≤n then (if t.getD p 0=n then mgo l t q b (p+1) else none)
   else match q3i b.1 b.2 (-1 - n) with
    | none=>mgo l t q (bput b (-1 - n) (subAt l t p)) (p+(subAt l t p).length)
    | some o=>if o=subAt l t p then mgo l t q b (p+(subAt l t p).length) else none
structure Both (l:List Symbol) (t q:List Int) (p:Nat) (r:List Int):Prop where
 both:∃ m,skip (ar l) m q=some []∧skip (ar l) m (t.drop p)=some r
theorem Both.start {l:List Symbol} {t q:List Int} (ht:TermOk l t) (hq:TermOk l q) {p:Nat} (hp:p < t.length):Both l t q p (t.drop (endAt l t p)):=⟨1,hq.skip,(q46 ht hp).2.2⟩
theorem Both.stop {l:List Symbol} {t:List Int} {p:Nat} {r:List Int} (h:Both l t [] p r):t.drop p=r:=by
 obtain ⟨m,h1,h2⟩:=h.both
 obtain ⟨rfl,_⟩:=skip_nil h1
 rw [q3p] at h2
 exact Option.some.inj h2
theorem Both.lt {l:List Symbol} {t q:List Int} {n:Int} {p:Nat} {r:List Int} (h:Both l t (n::q) p r):p < t.length:=by
 obtain ⟨m,h1,h2⟩:=h.both
 cases m with
 | zero=>rw [q3p] at h1; cases h1
 | succ m =>
   rcases Nat.lt_or_ge p t.length with h | h
   · exact h
   · rw [List.drop_of_length_le h] at h2; cases h2
theorem Both.node {l:List Symbol} {t q:List Int} {n:Int} {p:Nat} {r:List Int} (h:Both l t (n::q) p r) (hn:t.getD p 0=n):Both l t q (p+1) r:=by
 have hp:=h.lt
 obtain ⟨m,h1,h2⟩:=h.both
 cases m with
 | zero=>rw [q3p] at h1; cases h1
 | succ m =>
   rw [List.drop_eq_getElem_cons hp,skip,← q8s hp,hn] at h2
   rw [skip] at h1
   exact ⟨_,h1,h2⟩
theorem Both.var {l:List Symbol} {t q:List Int} {n:Int} {p:Nat} {r:List Int} (ht:TermOk l t) (h:Both l t (n::q) p r) (hn:n < 0):Both l t q (p+(subAt l t p).length) r:=by
 have hp:=h.lt
 obtain ⟨h3,h4,h5⟩:=q46 ht hp
 obtain ⟨h6,h7,_⟩:=q2z ht hp
 obtain ⟨m,h1,h2⟩:=h.both
 cases m with
 | zero=>rw [q3p] at h1; cases h1
 | succ m =>
   rw [skip,ar_neg l hn,Nat.add_zero] at h1
   rw [show m+1=1+m by omega,q8j,h5] at h2
   refine ⟨m,h1,?_⟩
   rw [h4,show p+(endAt l t p - p)=endAt l t p by omega]
   exact h2
theorem mgo_sub {l:List Symbol} {t:List Int} (ht:TermOk l t) {p:Nat} (hp:p < t.length):∀ (q:List Int) (b:Bnd) (i:Nat),Both l (subAt l t p) q i [] →
 mgo l t q b (p+i)=(mgo l (subAt l t p) q b i).map fun x=>(x.1,p+x.2)
 | [],b,i,h=>rfl
 | n::q,b,i,h=>by
   have hu:=q6n ht hp
   have hi:=h.lt
   obtain ⟨h1,h2,h3,h4⟩:=sub_place ht hp hi
   have n1:¬ t.length≤p+i:=by omega
   have n2:¬ (subAt l t p).length≤i:=by omega
   rw [mgo,mgo,if_neg n1,if_neg n2,h2,h4]
   by_cases hn:0≤n
   · rw [if_pos hn,if_pos hn]
     by_cases e:t.getD (p+i) 0=n
     · rw [if_pos e,if_pos e]
       exact mgo_sub ht hp q b (i+1) (h.node (by rw [h2,e]))
     · rw [if_neg e,if_neg e]; rfl
   · rw [if_neg hn,if_neg hn]
     have hv:=h.var hu (by omega)
     rw [h4] at hv
     cases q3i b.1 b.2 (-1 - n) with
     | none =>
       have:=mgo_sub ht hp q (bput b (-1 - n) (subAt l t (p+i))) _ hv
       rw [← Nat.add_assoc] at this
       exact this
     | some o =>
       show (if o=_ then _ else none)=Option.map _ (if o=_ then _ else none)
       by_cases e:o=subAt l t (p+i)
       · rw [if_pos e,if_pos e]
         have:=mgo_sub ht hp q b _ hv
         rw [← Nat.add_assoc] at this
         exact this
       · rw [if_neg e,if_neg e]; rfl
theorem mgo_end {l:List Symbol} {t:List Int} (ht:TermOk l t) {r:List Int}:∀ (q:List Int) (b:Bnd) (p k:Nat),Both l t q p r→p≤t.length→MB l b k→k+q.length≤24→(∀ n∈q,q4x l n=true)→∀ x,mgo l t q b p=some x→t.drop x.2=r∧x.2≤t.length∧MB l x.1 (k+q.length)
 | [],b,p,k,h,hp,hb,hk,hq,x,hx=>by
   cases hx
   exact ⟨h.stop,hp,by simpa using hb⟩
 | n::q,b,p,k,h,hp,hb,hk,hq,x,hx=>by
   have hlt:=h.lt
   obtain ⟨h6,h7,_⟩:=q2z ht hlt
   have hs:=(q46 ht hlt).2.1
   rw [mgo,if_neg (by omega)] at hx
   rw [List.length_cons] at hk ⊢
   have e0:k+1+q.length=k+(q.length+1):=by omega
   by_cases hn:0≤n
   · rw [if_pos hn] at hx
     split at hx
     · rename_i e
       have:=mgo_end ht q b (p+1) (k+1) (h.node e) (by omega) (hb.up (by omega)) (by omega) (fun n hn=>hq n (List.mem_cons_of_mem _ hn)) x hx
       rw [e0] at this; exact this
     · cases hx
   · rw [if_neg hn] at hx
     have hnode:=q4a.1 (hq n (by simp))
     split at hx
     · have:=mgo_end ht q _ _ (k+1) (h.var ht (by omega)) (by omega) (hb.put (v := -1 - n) (by omega) (q6n ht hlt)) (by omega) (fun n hn=>hq n (List.mem_cons_of_mem _ hn)) x hx
       rw [e0] at this; exact this
     · split at hx
       · have:=mgo_end ht q b _ (k+1) (h.var ht (by omega)) (by omega) (hb.up (by omega)) (by omega) (fun n hn=>hq n (List.mem_cons_of_mem _ hn)) x hx
         rw [e0] at this; exact this
       · cases hx
def q44 (l:List Symbol) (q t:List Int) (p:Nat):Option Bnd:=(mgo l t q ([],[]) p).map (·.1)
theorem q9k {l:List Symbol} {q t:List Int} (hq:TermOk l q) (ht:TermOk l t) {p:Nat} (hp:p < t.length):q44 l q (subAt l t p) 0=q44 l q t p:=by
 have hu:=q6n ht hp
 have hb:=Both.start hu hq (p:=0) (by have:=hu.pos; omega)
 have he:t.drop p=subAt l t p++t.drop (endAt l t p):=(q46 ht hp).1
 have e0:(subAt l t p).drop (endAt l (subAt l t p) 0)=[]:=by
  have:=(q46 hu (p:=0) (by have:=hu.pos; omega)).2.2
  rw [List.drop_zero,hu.skip] at this
  exact (Option.some.inj this).symm
 rw [e0] at hb
 have:=mgo_sub ht hp q ([],[]) 0 hb
 unfold q44
 rw [Nat.add_zero] at this
 rw [this]
 cases mgo l (subAt l t p) q ([],[]) 0 <;> rfl
theorem matchAt_ok {l:List Symbol} {q t:List Int} (hq:TermOk l q) (ht:TermOk l t) {p:Nat} (hp:p < t.length) {b:Bnd} (h:q44 l q t p=some b):MB l b q.length:=by
 unfold q44 at h
 rw [Option.map_eq_some_iff] at h
 obtain ⟨x,hx,rfl⟩:=h
 have:=(mgo_end ht q ([],[]) p 0 (Both.start ht hq hp) (by omega) (MB.nil l) (by have:=hq.le; omega) hq.node x hx).2.2
 simpa using this
end Ev.Ty
end
section
namespace Ev.Ty
section
variable {α:Type} (lt:α→α→Bool)
variable {lt}
end
end Ev.Ty
end
section
namespace Ev.Ty
open Go Ev
set_option linter.unusedSimpArgs false
set_option linter.unusedVariables false
namespace Tm
def args:Tm→List Tm
 | v _=>[]
 | k _=>[]
 | u _ x=>[x]
 | b _ x y=>[x,y]
def size:Tm→Nat
 | v _=>1
 | k _=>1
 | u _ x=>x.size+1
 | b _ x y=>x.size+y.size+1
theorem q5o {p t:Tm} (h:p∈t.args):p.size < t.size:=by
 cases t with
 | v n=>cases h
 | k n=>cases h
 | u n x=>rw [List.mem_singleton.1 h]; exact Nat.lt_succ_self _
 | b n x y =>
   rcases List.mem_cons.1 h with rfl | h
   · show p.size < p.size+y.size+1; omega
   · rw [List.mem_singleton.1 h]; show y.size < x.size+y.size+1; omega
def gr (a:Int→Nat):Tm→Prop
 | v _=>False
 | k n=>0≤n∧a n=0
 | u n x=>0≤n∧a n=1∧x.gr a
 | b n x y=>0≤n∧a n=2∧x.gr a∧y.gr a
variable {a:Int→Nat}
theorem gr.args {t p:Tm} (h:t.gr a) (hp:p∈t.args):p.gr a:=by
 cases t with
 | v n=>cases h
 | k n=>cases hp
 | u n x=>rw [List.mem_singleton.1 hp]; exact h.2.2
 | b n x y =>
   rcases List.mem_cons.1 hp with rfl | hp
   · exact h.2.2.1
   · rw [List.mem_singleton.1 hp]; exact h.2.2.2
theorem gr.ok:∀ {t:Tm},t.gr a→t.ok a
 | .v _,h=>h.elim
 | .k _,h=>h
 | .u _ _,h=>⟨h.1,h.2.1,h.2.2.ok⟩
 | .b _ _ _,h=>⟨h.1,h.2.1,h.2.2.1.ok,h.2.2.2.ok⟩
theorem gr.head {t:Tm} (h:t.gr a):0≤t.head∧t.args.length=a t.head:=by
 cases t with
 | v n=>cases h
 | k n=>exact ⟨h.1,h.2.symm⟩
 | u n x=>exact ⟨h.1,h.2.1.symm⟩
 | b n x y=>exact ⟨h.1,h.2.1.symm⟩
theorem ok.args {t p:Tm} (h:t.ok a) (hp:p∈t.args):p.ok a:=by
 cases t with
 | v n=>cases hp
 | k n=>cases hp
 | u n x=>rw [List.mem_singleton.1 hp]; exact h.2.2
 | b n x y =>
   rcases List.mem_cons.1 hp with rfl | hp
   · exact h.2.2.1
   · rw [List.mem_singleton.1 hp]; exact h.2.2.2
theorem ok.len {t:Tm} (ha:∀ n,n < 0→a n=0) (h:t.ok a):t.args.length=a t.head:=by
 cases t with
 | v n=>exact (ha n h).symm
 | k n=>exact h.2.symm
 | u n x=>exact h.2.1.symm
 | b n x y=>exact h.2.1.symm
theorem ok.head {t p:Tm} (h:t.ok a) (hp:p∈t.args):0≤t.head:=by
 cases t with
 | v n=>cases hp
 | k n=>cases hp
 | u n x=>exact h.1
 | b n x y=>exact h.1
theorem args_flat {t p:Tm} (hp:p∈t.args) {n:Int} (hn:n∈p.flat):n∈t.flat:=by
 cases t with
 | v m=>cases hp
 | k m=>cases hp
 | u m x=>rw [List.mem_singleton.1 hp] at hn; exact List.mem_cons_of_mem _ hn
 | b m x y =>
   rcases List.mem_cons.1 hp with rfl | hp
   · exact List.mem_cons_of_mem _ (List.mem_append_left _ hn)
   · rw [List.mem_singleton.1 hp] at hn; exact List.mem_cons_of_mem _ (List.mem_append_right _ hn)
end Tm
open Tm
inductive G (r:Int→Int):Tm→Tm→Prop
 | eq {s p}:p∈s.args→G r s p
 | sub {s t p}:p∈s.args→G r p t→G r s t
 | big {s t}:0≤s.head→0≤t.head→r t.head < r s.head→(∀ q,q∈t.args→G r s q)→G r s t
 | lex {s t A B C x y}:0≤s.head→s.head=t.head→(∀ q,q∈t.args→G r s q)→s.args=A++x::B→t.args=A++y::C→G r x y→G r s t
namespace G
variable {r:Int→Int}
theorem arg {s t q:Tm} (h:G r s t) (hq:q∈t.args):G r s q:=by
 induction h with
 | eq hp=>exact .sub hp (.eq hq)
 | sub hp _ ih=>exact .sub hp (ih hq)
 | big _ _ _ h=>exact h q hq
 | lex _ _ h _ _ _=>exact h q hq
theorem trans:∀ (n:Nat) {s t u:Tm},s.size+t.size+u.size≤n→G r s t→G r t u→G r s u:=by
 intro n
 induction n with
 | zero=>intro s t u hn h1 h2; cases s <;> simp [Tm.size] at hn
 | succ n ih =>
   intro s t u hn h1 h2
   cases h1 with
   | eq hp=>exact .sub hp h2
   | sub hp h1 =>
     have:=q5o hp
     exact .sub hp (ih (by omega) h1 h2)
   | big z1 z2 hr hq =>
     have h1:G r s t := .big z1 z2 hr hq
     cases h2 with
     | eq hu=>exact hq _ hu
     | sub hp h2 =>
       have:=q5o hp
       exact ih (by omega) (hq _ hp) h2
     | big _ z3 hr2 hq2=>exact .big z1 z3 (Int.lt_trans hr2 hr) fun w hw=>ih (by have:=q5o hw; omega) h1 (hq2 w hw)
     | lex z3 he hq2 _ _ _=>exact .big z1 (he ▸ z3) (he ▸ hr) fun w hw=>ih (by have:=q5o hw; omega) h1 (hq2 w hw)
   | @lex _ _ A B C x y z1 he hq e1 e2 hxy =>
     have h1:G r s t := .lex z1 he hq e1 e2 hxy
     cases h2 with
     | eq hu=>exact hq _ hu
     | sub hp h2 =>
       have:=q5o hp
       exact ih (by omega) (hq _ hp) h2
     | big _ z3 hr2 hq2=>exact .big z1 z3 (by rw [he]; exact hr2) fun w hw=>ih (by have:=q5o hw; omega) h1 (hq2 w hw)
     | @lex _ _ A' B' C' x' y' z3 he2 hq2 e3 e4 hxy2 =>
       have hall:∀ w,w∈u.args→G r s w:=fun w hw=>ih (by have:=q5o hw; omega) h1 (hq2 w hw)
       have hx:x.size < s.size:=q5o (by rw [e1]; simp)
       have hy:y.size < t.size:=q5o (by rw [e2]; simp)
       have hy':y'.size < u.size:=q5o (by rw [e4]; simp)
       rcases List.append_eq_append_iff.1 (e2.symm.trans e3) with ⟨D,hA,hD⟩ | ⟨D,hA,hD⟩
       · cases D with
         | nil =>
           rw [List.append_nil] at hA
           have hD:y=x'∧C=B':=by simpa using hD
           subst hA
           refine .lex z1 (he.trans he2) hall e1 e4 (ih (by omega) hxy (hD.1 ▸ hxy2))
         | cons d D =>
           have hD:y=d∧C=D++x'::B':=by simpa using hD
           rw [hA,List.append_assoc] at e4
           rw [← hD.1] at e4
           exact .lex z1 (he.trans he2) hall e1 e4 hxy
       · cases D with
         | nil =>
           rw [List.append_nil] at hA
           have hD:x'=y∧B'=C:=by simpa using hD
           subst hA
           refine .lex z1 (he.trans he2) hall e1 e4 (ih (by omega) hxy (hD.1 ▸ hxy2))
         | cons d D =>
           have hD:x'=d∧B'=D++y::C:=by simpa using hD
           rw [hA,List.append_assoc] at e1
           rw [← hD.1] at e1
           exact .lex z1 (he.trans he2) hall e1 e4 hxy2
theorem var {a:Int→Nat} {n:Int} (hn:n < 0):∀ (m:Nat) {x:Tm},x.size≤m→x.ok a→(G r x (.v n)↔0≤x.head∧n∈x.flat):=by
 intro m
 induction m with
 | zero=>intro x hm _; cases x <;> simp [Tm.size] at hm
 | succ m ih =>
   intro x hm hx
   have up:∀ p,p∈x.args→n∈p.flat→G r x (.v n):=fun p hp hnp=>by
    have hpo:=hx.args hp
    by_cases h0:0≤p.head
    · exact .sub hp ((ih (by have:=q5o hp; omega) hpo).2 ⟨h0,hnp⟩)
    · cases p with
      | v k=>rw [List.mem_singleton.1 hnp]; exact .eq hp
      | k k=>exact absurd hpo.1 h0
      | u k y=>exact absurd hpo.1 h0
      | b k y z=>exact absurd hpo.1 h0
   constructor
   · intro h
     cases h with
     | eq hp=>exact ⟨hx.head hp,args_flat hp (List.mem_singleton.2 rfl)⟩
     | sub hp h=>exact ⟨hx.head hp,args_flat hp ((ih (by have:=q5o hp; omega) (hx.args hp)).1 h).2⟩
     | big _ z _ _=>exact absurd z (by show ¬ 0≤n; omega)
     | lex z e _ _ _ _ =>
       have e:x.head=n:=e
       omega
   · rintro ⟨h1,h2⟩
     cases x with
     | v k=>have h1:0≤k:=h1; have hx:k < 0:=hx; omega
     | k k =>
       have h1:0≤k:=h1
       have:=List.mem_singleton.1 h2
       omega
     | u k y =>
       have h1:0≤k:=h1
       rcases List.mem_cons.1 h2 with e | h2
       · omega
       · exact up y (List.mem_singleton.2 rfl) h2
     | b k y z =>
       have h1:0≤k:=h1
       rcases List.mem_cons.1 h2 with e | h2
       · omega
       · rcases List.mem_append.1 h2 with h2 | h2
         · exact up y (List.mem_cons_self ..) h2
         · exact up z (List.mem_cons_of_mem _ (List.mem_singleton.2 rfl)) h2
variable {a:Int→Nat}
end G
end Ev.Ty
end
section
namespace Ev.Ty
open Go Ev
open Tm
set_option linter.unusedSimpArgs false
set_option linter.unusedVariables false
theorem flat_inj {a:Int→Nat}:∀ (x y:Tm) (r r':List Int),x.ok a→y.ok a→x.flat++r=y.flat++r'→x=y∧r=r':=by
 have hd:∀ {n m:Int} {A B:List Int},n::A=m::B→n=m:=fun h=>(List.cons.inj h).1
 intro x
 induction x with
 | v n =>
   intro y r r' h1 h2 h
   cases y with
   | v m=>have h:n=m∧r=r':=List.cons.inj h; exact ⟨by rw [h.1],h.2⟩
   | k m=>have e:=hd h; have h1:n < 0:=h1; have:=h2.1; omega
   | u m y=>have e:=hd h; have h1:n < 0:=h1; have:=h2.1; omega
   | b m y z=>have e:=hd h; have h1:n < 0:=h1; have:=h2.1; omega
 | k n =>
   intro y r r' h1 h2 h
   cases y with
   | v m=>have e:=hd h; have h2:m < 0:=h2; have:=h1.1; omega
   | k m=>have h:n=m∧r=r':=List.cons.inj h; exact ⟨by rw [h.1],h.2⟩
   | u m y=>have e:=hd h; have h1:=h1.2; have h2:=h2.2.1; rw [e] at h1; omega
   | b m y z=>have e:=hd h; have h1:=h1.2; have h2:=h2.2.1; rw [e] at h1; omega
 | u n x ih =>
   intro y r r' h1 h2 h
   cases y with
   | v m=>have e:=hd h; have h2:m < 0:=h2; have:=h1.1; omega
   | k m=>have e:=hd h; have h1:=h1.2.1; have h2:=h2.2; rw [e] at h1; omega
   | u m y =>
     have h:n=m∧x.flat++r=y.flat++r':=List.cons.inj h
     obtain ⟨e1,e2⟩:=ih y r r' h1.2.2 h2.2.2 h.2
     exact ⟨by rw [h.1,e1],e2⟩
   | b m y z=>have e:=hd h; have h1:=h1.2.1; have h2:=h2.2.1; rw [e] at h1; omega
 | b n x w ih1 ih2 =>
   intro y r r' h1 h2 h
   cases y with
   | v m=>have e:=hd h; have h2:m < 0:=h2; have:=h1.1; omega
   | k m=>have e:=hd h; have h1:=h1.2.1; have h2:=h2.2; rw [e] at h1; omega
   | u m y=>have e:=hd h; have h1:=h1.2.1; have h2:=h2.2.1; rw [e] at h1; omega
   | b m y z =>
     have h:n=m∧(x.flat++w.flat)++r=(y.flat++z.flat)++r':=List.cons.inj h
     have h':=h.2
     rw [List.append_assoc,List.append_assoc] at h'
     obtain ⟨e1,e2⟩:=ih1 y _ _ h1.2.2.1 h2.2.2.1 h'
     obtain ⟨e3,e4⟩:=ih2 z _ _ h1.2.2.2 h2.2.2.2 e2
     exact ⟨by rw [h.1,e1,e3],e4⟩
theorem flat_iff {a:Int→Nat} {x y:Tm} (hx:x.ok a) (hy:y.ok a):x.flat=y.flat↔x=y :=
 ⟨fun h=>(flat_inj x y [] [] hx hy (by rw [h])).1,fun h=>by rw [h]⟩
inductive F2 {α β:Type} (R:α→β→Prop):List α→List β→Prop
 | nil:F2 R [] []
 | cons {a b A B}:R a b→F2 R A B→F2 R (a::A) (b::B)
theorem F2.any {α β:Type} {R:α→β→Prop} {f:α→Bool} {P:β→Prop} {A:List α} {B:List β} (h:F2 R A B) (hf:∀ a b,R a b→b∈B→(f a=true↔P b)):A.any f=true↔∃ b,b∈B∧P b:=by
 induction h with
 | nil=>simp
 | @cons a b A B hr _ ih =>
   rw [List.any_cons,Bool.or_eq_true,hf a b hr (List.mem_cons_self ..),ih fun a b hr hb=>hf a b hr (List.mem_cons_of_mem _ hb)]
   constructor
   · rintro (h | ⟨b',h1,h2⟩)
     · exact ⟨b,List.mem_cons_self .., h⟩
     · exact ⟨b',List.mem_cons_of_mem _ h1,h2⟩
   · rintro ⟨b',h1,h2⟩
     rcases List.mem_cons.1 h1 with rfl | h1
     · exact .inl h2
     · exact .inr ⟨b',h1,h2⟩
def At (l:List Symbol) (t:List Int) (i:Nat) (x:Tm):Prop:=x.ok (ar l)∧∃ r,t.drop i=x.flat++r
theorem At.facts {l:List Symbol} {t:List Int} {i:Nat} {x:Tm} (h:At l t i x):i < t.length∧t.getD i 0=x.head∧endAt l t i=i+x.flat.length∧subAt l t i=x.flat:=by
 obtain ⟨hx,r,h⟩:=h
 obtain ⟨h1,h2,h3⟩:=q8q h
 have hs:skip (ar l) 1 (t.drop i)=some r:=by
  rw [h,skip_flat (fun n hn=>ar_neg l hn) x r 0 hx,q3p]
 have hl:(t.drop i).length=x.flat.length+r.length:=by rw [h,List.length_append]
 rw [List.length_drop] at hl
 have he:endAt l t i=i+x.flat.length:=by
  unfold endAt
  rw [hs]
  show t.length - r.length=_
  omega
 refine ⟨h1,?_,he,?_⟩
 · rw [List.getD_eq_getElem?_getD,h2]; rfl
 · unfold subAt
   rw [he,List.drop_take,Nat.add_sub_cancel_left,h,List.take_left]
theorem At.next {l:List Symbol} {t:List Int} {i:Nat} {n:Int} {x:Tm} {r:List Int} (hx:x.ok (ar l)) (h:t.drop i=n::(x.flat++r)):At l t (i+1) x:=⟨hx,r,by
 rw [← List.drop_drop,h]; rfl⟩
theorem At.args {l:List Symbol} {t:List Int} {i:Nat} {x:Tm} (h:At l t i x):F2 (At l t) (q54 l t i) x.args:=by
 obtain ⟨_,h2,_,_⟩:=h.facts
 obtain ⟨hx,r,h⟩:=h
 unfold q54
 rw [h2,← hx.len (fun n hn=>ar_neg l hn)]
 cases x with
 | v n=>exact .nil
 | k n=>exact .nil
 | u n x=>exact .cons (At.next hx.2.2 h) .nil
 | b n x y =>
   have h:t.drop i=n::(x.flat++(y.flat++r)):=by rw [h]; simp [Tm.flat]
   have a1:=At.next hx.2.2.1 h
   refine .cons a1 (.cons ⟨hx.2.2.2,r,?_⟩ .nil)
   rw [a1.facts.2.2.1,← List.drop_drop,← List.drop_drop,h]
   show (x.flat++(y.flat++r)).drop _=_
   rw [List.drop_left]
section
variable {l:List Symbol} {o a b:List Int}
end
def Closed (l:List Symbol) (t:List Int):Prop:=TermOk l t∧∀ n∈t,0≤n
theorem gr_of {a:Int→Nat}:∀ x:Tm,x.ok a→(∀ n∈x.flat,0≤n)→x.gr a
 | .v n,h,h2=>by have h:n < 0:=h; have:=h2 n (List.mem_singleton.2 rfl); omega
 | .k n,h,_=>h
 | .u n x,h,h2=>⟨h.1,h.2.1,gr_of x h.2.2 fun m hm=>h2 m (List.mem_cons_of_mem _ hm)⟩
 | .b n x y,h,h2=>⟨h.1,h.2.1,gr_of x h.2.2.1 fun m hm=>h2 m (List.mem_cons_of_mem _ (List.mem_append_left _ hm)),gr_of y h.2.2.2 fun m hm=>h2 m (List.mem_cons_of_mem _ (List.mem_append_right _ hm))⟩
theorem Closed.at {l:List Symbol} (ok:SigOk ⟨l⟩) {t:List Int} (h:Closed l t):∃ x,At l t 0 x∧t=x.flat∧x.gr (ar l):=by
 obtain ⟨x,hx,e⟩:=h.1.tree ok
 exact ⟨x,⟨hx,[],by simpa using e⟩,e,gr_of x hx (e ▸ h.2)⟩
section
variable {l:List Symbol} (ok:SigOk ⟨l⟩) {o:List Int} (ho:∀ n:Int,0≤n→n < l.length→n∈o)
include ok ho
end
end Ev.Ty
end
section
namespace Ev.Ty
open Go Ev
open Tm
set_option linter.unusedSimpArgs false
set_option linter.unusedVariables false
namespace Tm
def inst (σ:Int→Tm):Tm→Tm
 | v n=>σ n
 | k n=>k n
 | u n x=>u n (x.inst σ)
 | b n x y=>b n (x.inst σ) (y.inst σ)
theorem inst_ok {σ:Int→Tm} {a:Int→Nat} (hσ:∀ n,n < 0→(σ n).ok a):∀ {t:Tm},t.ok a→(t.inst σ).ok a
 | .v n,h=>hσ n h
 | .k _,h=>h
 | .u _ _,h=>⟨h.1,h.2.1,inst_ok hσ h.2.2⟩
 | .b _ _ _,h=>⟨h.1,h.2.1,inst_ok hσ h.2.2.1,inst_ok hσ h.2.2.2⟩
inductive Part:Tm→Tm→Prop
 | arg {p t}:p∈t.args→Part p t
 | deep {p q t}:q∈t.args→Part p q→Part p t
end Tm
namespace G
variable {r:Int→Int}
theorem above {t p:Tm} (h:Tm.Part p t):G r t p:=by
 induction h with
 | arg h=>exact .eq h
 | deep h _ ih=>exact .sub h ih
end G
end Ev.Ty
end
section
namespace Ev.Ty
open Go Ev
open Tm
set_option linter.unusedSimpArgs false
set_option linter.unusedVariables false
section
variable {l:List Symbol} (ok:SigOk ⟨l⟩) {o:List Int} (ho:∀ n:Int,0≤n→n < l.length→n∈o)
include ok
theorem TermOk.atZero {t:List Int} (h:TermOk l t):∃ x,At l t 0 x∧t=x.flat:=by
 obtain ⟨x,hx,e⟩:=h.tree ok
 exact ⟨x,⟨hx,[],by simpa using e⟩,e⟩
include ho
end
end Ev.Ty
end
section
namespace Ev.Ty
theorem pigeon:∀ (k:Nat) (o:List Int),o.Nodup→(∀ n∈o,0≤n∧n < k)→o.length≤k
 | 0,o,_,h=>by
   cases o with
   | nil=>simp
   | cons x o=>have:=h x (by simp); omega
 | k+1,o,hn,h=>by
   by_cases hk:(k:Int)∈o
   · have h1:=List.length_erase_of_mem hk
     have:=pigeon k (o.erase (k:Int)) (hn.erase _) fun n hm=>by
      have hm':=(hn.mem_erase_iff).1 hm
      have:=h n hm'.2
      omega
     omega
   · have:=pigeon k o hn fun n hm=>by
      have:=h n hm
      have:n≠(k:Int):=fun e=>hk (e ▸ hm)
      omega
     omega
end Ev.Ty
end
section
namespace Ev.Ty
open Go Ev
open Enc (enc)
open Sm (sm)
set_option linter.unusedSimpArgs false
set_option linter.unusedVariables false
def orderF (l:List Symbol) (o:List Int):Int:=if o.length≠l.length then 2 else if (o.any fun n => !inR n 0 (l.length - 1))=true then 3 else if twice o=true then 6 else 0
def q61 (s:Signature) (o:List Int):Int:=if q2o s≠0 then q2o s else orderF s.symbols o
theorem orderOk {l:List Symbol} {o:List Int} (h:orderF l o=0):o.length=l.length∧∀ n:Int,0≤n→n < l.length→n∈o:=by
 unfold orderF at h
 split at h
 · cases h
 rename_i h1
 split at h
 · cases h
 rename_i h2
 split at h
 · cases h
 rename_i h3
 have h1:o.length=l.length:=by omega
 refine ⟨h1,fun n hn hl=>Classical.byContradiction fun hno => ?_⟩
 have hnd:o.Nodup:=by
  unfold twice at h3
  simpa using h3
 have hr:∀ m∈o,0≤m∧m < l.length:=fun m hm=>by
  simp only [List.any_eq_true,not_exists,not_and,Bool.not_eq_true',Bool.not_eq_false] at h2
  have:=q6i.1 (h2 m hm)
  omega
 have:=pigeon l.length (n::o) (List.nodup_cons.2 ⟨hno,hnd⟩) fun m hm=>by
  rcases List.mem_cons.1 hm with rfl | hm
  · exact ⟨hn,hl⟩
  · exact hr m hm
 simp at this
 omega
theorem q5f {l:List Symbol} (hs:l.length≤4294967296) (n:Int):Call F.q5f [.agg [slc l],.int .i64 n] (.bool (inR n 0 (l.length - 1))):=by
 refine q0s rfl 0 ((q5f.ev _ _ _).trans ?_)
 simp only [evz,Nat.reduceLT,q27 (x:=(l.length:Int) - 1) (by omega),(q2u _ _ _).eq]
theorem q4e {l:List Symbol} (hs:l.length≤4294967296) (n:Int):Call F.q4e [.rref [slc l] 0,.int .i64 n] (.bool (inR n 0 (l.length - 1))):=by
 refine q0s rfl 0 ((q4e.ev _ _ _).trans ?_)
 simp only [evz,Nat.reduceLT,q27 (x:=(l.length:Int) - 1) (by omega),(q3y _ _ _).eq]
theorem q0e (l:List Symbol) (hs:l.length≤4294967296) (o:List Int) (ho:o.length≤4294967296):Call F.q0e [.rref [slc l] 0,slc o] (.int .i64 (orderF l o)):=by
 obtain ⟨n,hn⟩:∃ n,n=o.length+1:=⟨_,rfl⟩
 refine q0s rfl n ((q0e.ev _ _ _).trans ?_)
 simp only [evz,Nat.reduceLT,orderF]
 by_cases h2:o.length=l.length
 case neg =>
  have h2':¬ ((o.length:Int)=(l.length:Int)):=by omega
  simp only [h2,h2',evz,Nat.reduceLT,ne_eq,not_true_eq_false,not_false_eq_true]
 have h2':((o.length:Int)=(l.length:Int)):=by omega
 simp only [h2',h2,evz,Nat.reduceLT,ne_eq,not_true_eq_false]
 have two:=any_loop (n:=o.length) (bad:=fun i=>(List.range i).any fun j=>o[i]?.any fun x=>o[j]?.any fun y=>decide (x=y))
  (S:=fun m i=>q0e.at2 n m (q0e.st2 (cells o) (i:Nat))) (r:=some (.int .i64 6,[])) (z:=some (.int .i64 0,[]))
  (fun m i h=>by
   have hlk:o[i]?=some o[i]:=List.getElem?_eq_getElem h
   simp only [q0e.next2,q0e.round2,evz,Nat.reduceLT,h]
   refine any_loop (n:=i) (f:=n) (bad:=fun j=>o[i]?.any fun x=>o[j]?.any fun y=>decide (x=y))
    (S:=fun m' j=>q0e.at4 n (q0e.at2 n m) m' (q0e.st4 (cells o) (i:Nat) (j:Nat))) (fun m' j hj => ?_) (fun m' => ?_) (by omega)
   · have hj':j < o.length:=by omega
     have hjk:o[j]?=some o[j]:=List.getElem?_eq_getElem hj'
     simp only [q0e.next4,q0e.round4,evz,Nat.reduceLT,h,hj,hj',hlk,hjk,q1r]
     rw [q0m (by omega)]
     by_cases e:o[i]=o[j] <;> simp [e]
   · simp only [q0e.next4,q0e.round4,evz,Nat.reduceLT,Nat.lt_irrefl]
     rw [q0m (by omega)])
  (fun m=>by simp only [q0e.next2,q0e.round2,evz,Nat.reduceLT,Nat.lt_irrefl]) (show o.length < n by omega)
 have tp:=twice_pairs (fun x:Int=>x) o
 rw [List.map_id'] at tp
 rw [tp] at two
 refine (q7j (l:=o) (p:=fun x => !inR x 0 (l.length - 1)) (S:=fun m k=>q0e.at0 n m (q0e.st0 (cells l) (cells o) (k:Nat))) (r:=some (.int .i64 3,[])) (z:=if twice o=true then some (.int .i64 6,[]) else some (.int .i64 0,[])) (fun m k h => ?_) (fun m => ?_) (show o.length < n by omega)).trans ?_
 · have hlk:o[k]?=some o[k]:=List.getElem?_eq_getElem h
   simp only [q0e.next0,q0e.round0,evz,Nat.reduceLT,h,hlk,q1r,(q4e hs _).eq]
   rw [q0m (by omega)]
   cases inR o[k] 0 (l.length - 1) <;> rfl
 · simp only [q0e.next0,q0e.round0,evz,Nat.reduceLT,Nat.lt_irrefl]
   exact two
 · cases o.any fun x => !inR x 0 (l.length - 1) <;> cases twice o <;> rfl
theorem q42 (l:List Symbol) (hs:l.length≤4294967296) (o:List Int) (ho:o.length≤4294967296):Call F.q42 [.agg [slc l],slc o] (.int .i64 (q61 ⟨l⟩ o)):=by
 refine q0s rfl 0 ((q42.ev _ _ _).trans ?_)
 simp only [evz,Nat.reduceLT,(q00 l hs).eq,(q0e l hs o ho).eq,q61]
 by_cases h1:q2o ⟨l⟩=0
 · simp only [h1,evz,Nat.reduceLT,ne_eq,not_true_eq_false]
 · simp only [h1,evz,Nat.reduceLT,ne_eq,not_false_eq_true]
theorem q6z {l:List Symbol} (h:q2o ⟨l⟩=0):SigOk ⟨l⟩:=(q60 _).1 h
end Ev.Ty
end
section
namespace Ev.Ty
open Go Ev
open Enc (enc)
open Sm (sm)
set_option linter.unusedSimpArgs false
set_option linter.unusedVariables false
section
variable (e:Nat→Nat) (f:Nat→Int)
def downStep (k:Nat) (s:Int × Int):Int × Int:=if s.1 ≥ 0∧e k ≥ e s.1.toNat then s else if f k ≥ 0 then ((k:Int),f k) else s
def down:Nat→Int × Int→Int × Int
 | 0,s=>s
 | k+1,s=>down k (downStep e f k s)
def upStep (s:Int × Int × Int) (k:Nat):Int × Int × Int:=if (e k:Int) > s.2.2 then s else if f k ≥ 0 then ((k:Int),f k,(e k:Int)) else s
def IsBest (lo hi:Nat) (s:Int × Int):Prop :=
 (s=(-1,-1)∧∀ a,lo≤a→a < hi→f a < 0) ∨
  ∃ a,lo≤a∧a < hi∧s=((a:Int),f a)∧f a ≥ 0∧∀ a',lo≤a'→a' < hi→f a' ≥ 0→e a < e a'∨(e a=e a'∧a'≤a)
theorem IsBest.down {k n:Nat} {s:Int × Int} (h:IsBest e f (k+1) n s) (hk:k < n):IsBest e f k n (downStep e f k s):=by
 unfold downStep
 rcases h with ⟨rfl,h⟩ | ⟨a,h1,h2,rfl,h3,h4⟩
 · rw [if_neg (by simp)]
   by_cases hf:f k ≥ 0
   · rw [if_pos hf]
     refine .inr ⟨k,Nat.le_refl _,hk,rfl,hf,fun a' q1 q2 q3 => ?_⟩
     by_cases hak:a'=k
     · subst hak; exact .inr ⟨rfl,Nat.le_refl _⟩
     · have:=h a' (by omega) q2; omega
   · rw [if_neg hf]
     refine .inl ⟨rfl,fun a' q1 q2 => ?_⟩
     by_cases hak:a'=k
     · subst hak; omega
     · exact h a' (by omega) q2
 · by_cases hc:e k ≥ e a
   · rw [if_pos ⟨by simp,by simpa using hc⟩]
     refine .inr ⟨a,by omega,h2,rfl,h3,fun a' q1 q2 q3 => ?_⟩
     by_cases hak:a'=k
     · subst hak
       rcases Nat.lt_or_ge (e a) (e a') with q | q
       · exact .inl q
       · exact .inr ⟨by omega,by omega⟩
     · exact h4 a' (by omega) q2 q3
   · rw [if_neg (by simp only [Int.toNat_natCast]; exact fun h=>hc h.2)]
     by_cases hf:f k ≥ 0
     · rw [if_pos hf]
       refine .inr ⟨k,Nat.le_refl _,hk,rfl,hf,fun a' q1 q2 q3 => ?_⟩
       by_cases hak:a'=k
       · subst hak; exact .inr ⟨rfl,Nat.le_refl _⟩
       · rcases h4 a' (by omega) q2 q3 with q | q <;> exact .inl (by omega)
     · rw [if_neg hf]
       refine .inr ⟨a,by omega,h2,rfl,h3,fun a' q1 q2 q3 => ?_⟩
       by_cases hak:a'=k
       · subst hak; omega
       · exact h4 a' (by omega) q2 q3
theorem down_best (n:Nat):∀ (k:Nat) (s:Int × Int),k≤n→IsBest e f k n s→IsBest e f 0 n (down e f k s)
 | 0,s,_,h=>h
 | k+1,s,hk,h=>down_best n k _ (by omega) (h.down e f (by omega))
theorem IsBest.up {k:Nat} {s:Int × Int × Int} (he:∀ a,e a≤24) (h:IsBest e f 0 k (s.1,s.2.1)) (hs:(s.1 = -1∧s.2.2=25)∨∃ a:Nat,s.1=a∧s.2.2=e a) :
 IsBest e f 0 (k+1) ((upStep e f s k).1,(upStep e f s k).2.1)∧(((upStep e f s k).1 = -1∧(upStep e f s k).2.2=25)∨∃ a:Nat,(upStep e f s k).1=a∧(upStep e f s k).2.2=e a):=by
 have hek:=he k
 obtain ⟨p,r,d⟩:=s
 unfold upStep
 simp only at h hs ⊢
 rcases h with ⟨hp,h⟩ | ⟨a,h1,h2,hp,h3,h4⟩
 · simp only [Prod.mk.injEq] at hp
   obtain ⟨rfl,rfl⟩:=hp
   have hd:d=25:=by
    rcases hs with ⟨_,h⟩ | ⟨a,h,_⟩
    · exact h
    · omega
   subst hd
   rw [if_neg (by omega)]
   by_cases hf:f k ≥ 0
   · rw [if_pos hf]
     refine ⟨.inr ⟨k,by omega,by omega,rfl,hf,fun a' q1 q2 q3 => ?_⟩,.inr ⟨k,rfl,rfl⟩⟩
     by_cases hak:a'=k
     · subst hak; exact .inr ⟨rfl,Nat.le_refl _⟩
     · have:=h a' (by omega) (by omega); omega
   · rw [if_neg hf]
     refine ⟨.inl ⟨rfl,fun a' q1 q2 => ?_⟩,.inl ⟨rfl,rfl⟩⟩
     by_cases hak:a'=k
     · subst hak; omega
     · exact h a' (by omega) (by omega)
 · simp only [Prod.mk.injEq] at hp
   obtain ⟨rfl,rfl⟩:=hp
   have hd:d=e a:=by
    rcases hs with ⟨h,_⟩ | ⟨a',h,h'⟩
    · omega
    · have:a=a':=by omega
      rw [this]; exact h'
   subst hd
   by_cases hc:(e k:Int) > e a
   · rw [if_pos hc]
     refine ⟨.inr ⟨a,by omega,by omega,rfl,h3,fun a' q1 q2 q3 => ?_⟩,.inr ⟨a,rfl,rfl⟩⟩
     by_cases hak:a'=k
     · subst hak; exact .inl (by omega)
     · exact h4 a' (by omega) (by omega) q3
   · rw [if_neg hc]
     by_cases hf:f k ≥ 0
     · rw [if_pos hf]
       refine ⟨.inr ⟨k,by omega,by omega,rfl,hf,fun a' q1 q2 q3 => ?_⟩,.inr ⟨k,rfl,rfl⟩⟩
       by_cases hak:a'=k
       · subst hak; exact .inr ⟨rfl,Nat.le_refl _⟩
       · rcases h4 a' (by omega) (by omega) q3 with q | ⟨q,_⟩
         · exact .inl (by omega)
         · rcases Nat.lt_or_ge (e k) (e a') with q' | q'
           · exact .inl q'
           · exact .inr ⟨by omega,by omega⟩
     · rw [if_neg hf]
       refine ⟨.inr ⟨a,by omega,by omega,rfl,h3,fun a' q1 q2 q3 => ?_⟩,.inr ⟨a,rfl,rfl⟩⟩
       by_cases hak:a'=k
       · subst hak; omega
       · exact h4 a' (by omega) (by omega) q3
theorem IsBest.unique {n:Nat} {s s':Int × Int} (h:IsBest e f 0 n s) (h':IsBest e f 0 n s'):s=s':=by
 rcases h with ⟨rfl,h⟩ | ⟨a,h1,h2,rfl,h3,h4⟩ <;> rcases h' with ⟨rfl,h'⟩ | ⟨b,k1,k2,rfl,k3,k4⟩
 · rfl
 · have:=h b (by omega) k2; omega
 · have:=h' a (by omega) h2; omega
 · have q1:=h4 b (by omega) k2 k3
   have q2:=k4 a (by omega) h2 h3
   have:a=b:=by omega
   rw [this]
def upAll (n:Nat):Int × Int × Int:=(List.range n).foldl (upStep e f) (-1,-1,25)
theorem upAll_best (he:∀ a,e a≤24):∀ n,IsBest e f 0 n ((upAll e f n).1,(upAll e f n).2.1)∧(((upAll e f n).1 = -1∧(upAll e f n).2.2=25)∨∃ a:Nat,(upAll e f n).1=a∧(upAll e f n).2.2=e a)
 | 0=>⟨.inl ⟨rfl,fun a _ h=>by omega⟩,.inl ⟨rfl,rfl⟩⟩
 | n+1=>by
   have ih:=upAll_best he n
   have e0:upAll e f (n+1)=upStep e f (upAll e f n) n:=by unfold upAll; rw [List.range_succ,List.foldl_append]; rfl
   rw [e0]
   exact ih.1.up e f he ih.2
theorem down_up (he:∀ a,e a≤24) (n:Nat):down e f n (-1,-1)=((upAll e f n).1,(upAll e f n).2.1) :=
 (down_best e f n n (-1,-1) (Nat.le_refl _) (.inl ⟨rfl,fun a _ h=>by omega⟩)).unique e f (upAll_best e f he n).1
end
def fits (l:List Symbol) (rs:List Equation) (t:List Int) (p:Nat):Int:=idx (fun e=>(q44 l e.left t p).isSome) rs
def redex (l:List Symbol) (rs:List Equation) (t:List Int):Int × Int:=down (endAt l t) (fits l rs t) t.length (-1,-1)
theorem endAt_le (l:List Symbol) (t:List Int) (p:Nat):endAt l t p≤t.length:=by
 unfold endAt
 split <;> omega
theorem redex_up {l:List Symbol} {rs:List Equation} {t:List Int} (ht:TermOk l t):redex l rs t=((upAll (endAt l t) (fits l rs t) t.length).1,(upAll (endAt l t) (fits l rs t) t.length).2.1) :=
 down_up _ _ (fun a=>Nat.le_trans (endAt_le l t a) ht.le) _
theorem redex_at {l:List Symbol} {rs:List Equation} {t:List Int}:redex l rs t=(-1,-1)∨∃ a k:Nat,∃ h:k < rs.length,a < t.length∧redex l rs t=((a:Int),(k:Int))∧(q44 l rs[k].left t a).isSome=true:=by
 rcases down_best (endAt l t) (fits l rs t) t.length t.length (-1,-1) (Nat.le_refl _) (.inl ⟨rfl,fun a _ h=>by omega⟩) with ⟨h,_⟩ | ⟨a,_,h2,h3,h4,_⟩
 · exact .inl h
 · rcases q6m (fun e:Equation=>(q44 l e.left t a).isSome) rs with ⟨h5,_⟩ | ⟨k,hk,h5,h6,_⟩
   · have:fits l rs t a = -1:=h5
     omega
   · have e1:fits l rs t a=(k:Nat):=h5
     exact .inr ⟨a,k,hk,h2,by unfold redex; rw [h3,e1],h6⟩
theorem skip_applied {l:List Symbol} {b:Bnd} {k:Nat} (hb:MB l b k) (hk:k≤24):∀ (q x:List Int) (m:Nat),skip (ar l) m q=some []→skip (ar l) m (q1z b.1 b.2 q++x)=some x
 | [],x,m,h=>by
   obtain ⟨rfl,_⟩:=skip_nil h
   rw [q3p]; rfl
 | n::q,x,m,h=>by
   cases m with
   | zero=>rw [q3p] at h; cases h
   | succ m =>
     rw [skip] at h
     have ih:=skip_applied hb hk q x _ h
     have e:q1z b.1 b.2 (n::q)=(q3i b.1 b.2 (-1 - n)).getD [n]++q1z b.1 b.2 q:=by simp [q1z]
     rw [e,List.append_assoc]
     cases ho:q3i b.1 b.2 (-1 - n) with
     | none =>
       show skip (ar l) (m+1) (n::(q1z b.1 b.2 q++x))=_
       rw [skip]; exact ih
     | some o =>
       have hn:n < 0:=by
        rcases Int.lt_or_le n 0 with h | h
        · exact h
        · rw [q90 (hb.ok hk) (by omega)] at ho; cases ho
       rw [ar_neg l hn,Nat.add_zero] at ih
       have ht:=hb.tm o (q4z ho)
       show skip (ar l) (m+1) (o++(q1z b.1 b.2 q++x))=_
       rw [show m+1=1+m by omega,q8j,skip_append ht.skip]
       exact ih
theorem skip_repl {a:Int→Nat} {y y' z:List Int} (hy:skip a 1 (y++z)=some z) (hy':skip a 1 (y'++z)=some z):∀ (x:List Int) (k:Nat),skip a k (x++(y++z))=some []→skip a k (x++(y'++z))=some []
 | [],0,h=>by
   rw [q3p] at h
   rw [List.nil_append] at h
   rw [Option.some.inj h] at hy
   cases hy
 | [],k+1,h=>by
   rw [List.nil_append,show k+1=1+k by omega,q8j] at h ⊢
   rw [hy] at h
   rw [hy']
   exact h
 | n::x,0,h=>by rw [q3p] at h; cases h
 | n::x,k+1,h=>by
   rw [List.cons_append,skip] at h ⊢
   exact skip_repl hy hy' x _ h
theorem applied_node {l:List Symbol} {b:Bnd} {k:Nat} (hb:MB l b k) {q:List Int} (hq:∀ n∈q,q4x l n=true):∀ n∈q1z b.1 b.2 q,q4x l n=true:=fun n hn=>by
 unfold q1z at hn
 obtain ⟨m,hm,hn⟩:=List.mem_flatMap.1 hn
 cases ho:q3i b.1 b.2 (-1 - m) with
 | none=>rw [ho] at hn; rw [List.mem_singleton.1 hn]; exact hq m hm
 | some o=>rw [ho] at hn; exact (hb.tm o (q4z ho)).node n hn
theorem repl_ok {l:List Symbol} {t q:List Int} (ht:TermOk l t) (hq:TermOk l q) {p:Nat} (hp:p < t.length) {b:Bnd} {k:Nat} (hb:MB l b k) (hk:k≤24) (h:(q4u l t p (q1z b.1 b.2 q)).length≤24) :
 TermOk l (q4u l t p (q1z b.1 b.2 q)):=by
 obtain ⟨h1,h2,h3⟩:=q46 ht hp
 have hs:skip (ar l) 1 (q4u l t p (q1z b.1 b.2 q))=some []:=by
  unfold q4u
  rw [List.append_assoc]
  refine skip_repl (y:=subAt l t p) (by rw [← h1]; exact h3) (skip_applied hb hk q _ 1 hq.skip) (t.take p) 1 ?_
  rw [← h1,List.take_append_drop]
  exact ht.skip
 refine ⟨?_,h,fun n hn => ?_,hs⟩
 · rcases Nat.eq_zero_or_pos (q4u l t p (q1z b.1 b.2 q)).length with h | h
   · rw [List.eq_nil_of_length_eq_zero h] at hs; cases hs
   · exact h
 · unfold q4u at hn
   rcases List.mem_append.1 hn with hn | hn
   · rcases List.mem_append.1 hn with hn | hn
     · exact ht.node n (List.mem_of_mem_take hn)
     · exact applied_node hb hq.node n hn
   · exact ht.node n (List.mem_of_mem_drop hn)
def q69 (l:List Symbol) (e:Equation) (t:List Int) (p:Nat):TermResult:=match q44 l e.left t p with
 | none=>⟨4,[]⟩
 | some b=>if 24 < (q4u l t p (q1z b.1 b.2 e.right)).length then ⟨2,[]⟩ else ⟨0,q4u l t p (q1z b.1 b.2 e.right)⟩
theorem stepAt_ok {l:List Symbol} {e:Equation} {t:List Int} (he:EqOk l e) (ht:TermOk l t) {p:Nat} (hp:p < t.length) (h:(q69 l e t p).code=0):TermOk l (q69 l e t p).term:=by
 unfold q69 at h ⊢
 cases hm:q44 l e.left t p with
 | none=>rw [hm] at h; cases h
 | some b =>
   rw [hm] at h
   simp only at h ⊢
   split at h
   · cases h
   · rename_i h24
     rw [if_neg h24]
     have hb:=matchAt_ok he.left ht hp hm
     exact repl_ok ht he.right hp hb he.left.le (by omega)
def norm (l:List Symbol) (rs:List Equation):Nat→Nat→List Int→NormalResult
 | 0,k,t=>if (redex l rs t).1 < 0 then ⟨0,t,k⟩ else ⟨9,[],0⟩
 | m+1,k,t=>if (redex l rs t).1 < 0 then ⟨0,t,k⟩ else
   if (q69 l (rs.getD (redex l rs t).2.toNat ⟨[],[]⟩) t (redex l rs t).1.toNat).code≠0 then ⟨(q69 l (rs.getD (redex l rs t).2.toNat ⟨[],[]⟩) t (redex l rs t).1.toNat).code,[],0⟩
   else norm l rs m (k+1) (q69 l (rs.getD (redex l rs t).2.toNat ⟨[],[]⟩) t (redex l rs t).1.toNat).term
def q3a (s:Signature) (rs:List Equation) (t:List Int):Int:=if q4h s rs≠0 then q4h s rs else q2p s.symbols t
def q2e (s:Signature) (rs:List Equation) (t:List Int) (fuel:Int):NormalResult :=
 if q3a s rs t≠0 then ⟨q3a s rs t,[],0⟩ else if inR fuel 0 200=false then ⟨3,[],0⟩ else norm s.symbols rs fuel.toNat 0 t
def q93 (s:Signature) (rs:List Equation) (a b:List Int) (fuel:Int):IntResult :=
 if (q2e s rs a fuel).code≠0 then ⟨(q2e s rs a fuel).code,0⟩ else if (q2e s rs b fuel).code≠0 then ⟨(q2e s rs b fuel).code,0⟩ else
  if (q2e s rs a fuel).term=(q2e s rs b fuel).term then ⟨0,1⟩ else ⟨0,0⟩
end Ev.Ty
end
section
namespace Ev.Ty
open Go Ev
open Enc (enc)
open Sm (sm)
set_option linter.unusedSimpArgs false
set_option linter.unusedVariables false
theorem ins_take {α:Type} {l:List α} {i k:Nat} (x:α) (hi:i≤k) (hk:k < l.length):(ins l i x).take (k+2)=(ins l i x).take (k+1)++[l[k]]:=by
 have hlen:=q7d l i x (by omega)
 have h:k+1 < (ins l i x).length:=by omega
 have e:(ins l i x)[k+1]=l[k]:=by
  have:=ins_get l x i (by omega) (k+1)
  rw [if_neg (by omega),if_neg (by omega),Nat.add_sub_cancel,List.getElem?_eq_getElem hk] at this
  have h2:(ins l i x)[k+1]?=some l[k]:=this
  rw [List.getElem?_eq_getElem h] at h2
  exact Option.some.inj h2
 rw [← e]
 exact (List.take_append_getElem h).symm
theorem ins_take_eq {α:Type} {l:List α} {i:Nat} (x:α) (hi:i≤l.length):(ins l i x).take (i+1)=l.take i++[x]:=by
 unfold ins
 rw [List.take_append,List.take_of_length_le (by simp; omega)]
 simp [Nat.min_eq_left hi]
theorem ins_end {α:Type} (l:List α) (x:α):ins l l.length x=l++[x]:=by simp [ins]
theorem q4o (vs:List Int) (i:Nat) (v:Int) (hi:i≤vs.length) (hl:vs.length < 4294967296):Call F.q4o [slc vs,.int .i64 i,.sl 1 [.int .i64 v]] (slc (ins vs i v)):=by
 refine lim_ext (e:=insE 8) rfl (Ev.of fun m => ?_)
 have hc:(cells vs).length=vs.length:=by rw [q0u,q3l,Nat.mul_one]
 show (bif _ then _ else _)=_
 rw [q26 (by simp [hc,hl,Nat.ble_eq]; omega)]
 have e1:=cells_take vs 1 i rfl
 have e2:=cells_drop vs 1 i rfl
 rw [Nat.mul_one] at e1 e2
 rw [Int.toNat_natCast,e1,e2]
 show some (T.sl 1 (cells (vs.take i)++T.int .i64 v::cells (vs.drop i)),[])=_
 unfold ins slc
 rw [q3b,q6p]
 rfl
theorem q4f (ts:List (List Int)) (i:Nat) (t:List Int) (hi:i≤ts.length) (hl:ts.length < 4294967296):Call F.q4f [slc ts,.int .i64 i,.sl 1 [slc t]] (slc (ins ts i t)):=by
 refine lim_ext (e:=insE 24) rfl (Ev.of fun m => ?_)
 have hc:(cells ts).length=ts.length:=by rw [q0u,show Enc.sz (List Int)=1 from rfl,Nat.mul_one]
 show (bif _ then _ else _)=_
 rw [q26 (by simp [hc,hl,Nat.ble_eq]; omega)]
 have e1:=cells_take ts 1 i rfl
 have e2:=cells_drop ts 1 i rfl
 rw [Nat.mul_one] at e1 e2
 rw [Int.toNat_natCast,e1,e2]
 show some (T.sl 1 (cells (ts.take i)++slc t::cells (ts.drop i)),[])=_
 unfold ins
 show _=some (T.sl 1 (cells (ts.take i++t::ts.drop i)),[])
 rw [q3b,q6p]
 rfl
theorem q0y (vs:List Int) (ts:List (List Int)) (v:Int) (t:List Int) (hl:vs.length=ts.length) (hs:vs.length≤1000) (ht:t.length≤4294967296) :
 LIM F.q0y [.rref [slc vs,slc ts] 0,.int .i64 v,slc t]=some (.tup [],[.agg [slc (bput (vs,ts) v t).1,slc (bput (vs,ts) v t).2]]):=by
 have hi:=insAt_le vs v
 refine q8m rfl 1002 ((q0y.ev _ _ _ _ _).trans ?_)
 have loop:∀ n k f,k+n=insAt vs v→n < f→q0y.at0 1002 f (q0y.st0 v (cells t) (k:Nat) (cells vs) (cells ts))=some (.tup [],[.agg [slc (bput (vs,ts) v t).1,slc (bput (vs,ts) v t).2]]):=by
  intro n
  induction n with
  | zero =>
    intro k f hk hf
    obtain ⟨f,rfl⟩:∃ x,f=x+1:=⟨f - 1,by omega⟩
    obtain rfl:k=insAt vs v:=by omega
    have q1:=(q4o vs (insAt vs v) v hi (by omega)).eq
    have q2:=(q4f ts (insAt vs v) t (by omega) (by omega)).eq
    by_cases h:insAt vs v < vs.length
    · have hs:=insAt_stop vs v h
      have hlk:vs[insAt vs v]?=some vs[insAt vs v]:=List.getElem?_eq_getElem h
      simp only [q0y.next0,q0y.round0,evz,Nat.reduceLT,h,hlk,q1r,hs,q1,(q35 t ht).eq,q2]
      rfl
    · simp only [q0y.next0,q0y.round0,evz,Nat.reduceLT,h,q1,(q35 t ht).eq,q2]
      rfl
  | succ n ih =>
    intro k f hk hf
    obtain ⟨f,rfl⟩:∃ x,f=x+1:=⟨f - 1,by omega⟩
    have h:k < vs.length:=by omega
    have hlt:=insAt_lt vs v k (by omega) h
    have hlk:vs[k]?=some vs[k]:=List.getElem?_eq_getElem h
    simp only [q0y.next0,q0y.round0,evz,Nat.reduceLT,h,hlk,q1r,hlt]
    rw [q0m (by omega)]
    exact ih (k+1) f (by omega) (by omega)
 exact loop (insAt vs v) 0 1002 (by omega) (by omega)
def q82 (vs:List Int) (ts:List (List Int)) (v:Int) (t:List Int) (k:Nat):Bool × List Int × List (List Int) :=
 if k≤insAt vs v then (false,vs.take k,ts.take k) else (true,(ins vs (insAt vs v) v).take (k+1),(ins ts (insAt vs v) t).take (k+1))
theorem q1l (vs:List Int) (ts:List (List Int)) (v:Int) (t:List Int) (hl:vs.length=ts.length) (hs:vs.length≤1000) (ht:t.length≤4096) (hv:v∉vs) (htm:∀ x∈ts,x.length≤4096) :
 Call F.q1l [.rref [slc vs,slc ts] 0,.int .i64 v,slc t] (.agg [slc (bput (vs,ts) v t).1,slc (bput (vs,ts) v t).2]):=by
 have hi:=insAt_le vs v
 refine q0s rfl 1002 ((q1l.ev _ _ _ _ _).trans ?_)
 have key:=run_loop (n:=vs.length) (f:=1002) (S:=fun m k (s:Bool × List Int × List (List Int))=>q1l.at0 1002 m (q1l.st0 (cells vs) (cells ts) v (cells t) s.1 (k:Nat) (cells s.2.1) (cells s.2.2)))
  (st:=q82 vs ts v t) (z:=some (.agg [slc (bput (vs,ts) v t).1,slc (bput (vs,ts) v t).2],[])) (fun m k h => ?_) (fun m => ?_) (by omega)
 · have e0:q82 vs ts v t 0=(false,[],[]):=by unfold q82; rw [if_pos (Nat.zero_le _)]; rfl
   rw [e0] at key
   exact key
 · have h':k < ts.length:=by omega
   have hlk:vs[k]?=some vs[k]:=List.getElem?_eq_getElem h
   have htk:ts[k]?=some ts[k]:=List.getElem?_eq_getElem h'
   have hx:=(q5c ts[k] (by have:=htm _ (List.getElem_mem h'); omega)).eq
   have hx2:=(q5c t (by omega)).eq
   have hne:vs[k]≠v:=fun e=>hv (e ▸ List.getElem_mem h)
   have len1:∀ q,((cells (vs.take q)).length)≤1000:=fun q=>by rw [q0u,q3l]; simp; omega
   have len2:∀ q,((cells (ts.take q)).length)≤1000:=fun q=>by rw [q0u,show Enc.sz (List Int)=1 from rfl]; simp; omega
   have len3:∀ q,((cells ((ins vs (insAt vs v) v).take q)).length)≤1001:=fun q=>by rw [q0u,q3l,List.length_take,q7d _ _ _ hi]; omega
   have len4:∀ q,((cells ((ins ts (insAt vs v) t).take q)).length)≤1001:=fun q=>by rw [q0u,show Enc.sz (List Int)=1 from rfl,List.length_take,q7d _ _ _ (by omega)]; omega
   have tk1:vs.take (k+1)=vs.take k++[vs[k]]:=(List.take_append_getElem h).symm
   have tk2:ts.take (k+1)=ts.take k++[ts[k]]:=(List.take_append_getElem h').symm
   rcases Nat.lt_trichotomy k (insAt vs v) with c | c | c
   · have hlt:=insAt_lt vs v k c h
     have hgt:¬ vs[k] > v:=by omega
     have e1:q82 vs ts v t k=(false,vs.take k,ts.take k):=if_pos (by omega)
     have e2:q82 vs ts v t (k+1)=(false,vs.take k++[vs[k]],ts.take k++[ts[k]]):=by unfold q82; rw [if_pos (by omega),tk1,tk2]
     rw [e1,e2]
     simp only [q1l.next0,q1l.round0,evz,Nat.reduceLT,h,h',hlk,htk,q1r,q5h,hgt,hx,q2j,q5p]
     rw [q26 (q3s (by have:=len1 k; omega)),q26 (q3s (by have:=len2 k; omega)),q0m (by omega)]
   · have hs:=insAt_stop vs v (by omega)
     have hs:¬ vs[k] < v:=by
      have:vs[insAt vs v]'(by omega)=vs[k]:=by congr 1; omega
      rw [this] at hs; exact hs
     have hgt:vs[k] > v:=by omega
     have e1:q82 vs ts v t k=(false,vs.take k,ts.take k):=if_pos (by omega)
     have e2:q82 vs ts v t (k+1)=(true,(vs.take k++[v])++[vs[k]],(ts.take k++[t])++[ts[k]]):=by
      unfold q82
      rw [if_neg (by omega),← c,ins_take v (Nat.le_refl _) h,ins_take t (Nat.le_refl _) h',ins_take_eq v (by omega),ins_take_eq t (by omega)]
     rw [e1,e2]
     simp only [q1l.next0,q1l.round0,evz,Nat.reduceLT,h,h',hlk,htk,q1r,q5h,hgt,hx,hx2,q2j,q5p]
     have l1:=len1 k
     have l2:=len2 k
     have l3:(cells (vs.take k++[v])).length≤1001:=by rw [q3b,List.length_append,q0u [v]]; simp; omega
     have l4:(cells (ts.take k++[t])).length≤1001:=by rw [q3b,List.length_append,q0u [t]]; simp [show Enc.sz (List Int)=1 from rfl]; omega
     rw [q26 (q3s (by omega)),q26 (q3s (by omega)),q26 (q3s (by omega)),q26 (q3s (by omega)),q0m (by omega)]
   · have e1:q82 vs ts v t k=(true,(ins vs (insAt vs v) v).take (k+1),(ins ts (insAt vs v) t).take (k+1)):=if_neg (by omega)
     have e2:q82 vs ts v t (k+1)=(true,(ins vs (insAt vs v) v).take (k+1)++[vs[k]],(ins ts (insAt vs v) t).take (k+1)++[ts[k]]):=by
      unfold q82
      rw [if_neg (by omega),ins_take v (by omega) h,ins_take t (by omega) h']
     rw [e1,e2]
     simp only [q1l.next0,q1l.round0,evz,Nat.reduceLT,h,h',hlk,htk,q1r,q5h,hx,q2j,q5p]
     rw [q26 (q3s (by have:=len3 (k+1); omega)),q26 (q3s (by have:=len4 (k+1); omega)),q0m (by omega)]
 · have hx2:=(q5c t (by omega)).eq
   by_cases c:insAt vs v=vs.length
   · have e1:q82 vs ts v t vs.length=(false,vs,ts):=by
      unfold q82
      rw [if_pos (by omega),List.take_length,hl,List.take_length]
     have e2:bput (vs,ts) v t=(vs++[v],ts++[t]):=by
      unfold bput
      rw [c,ins_end]
      simp only [Prod.mk.injEq,true_and]
      rw [hl,ins_end]
     rw [e1,e2]
     simp only [q1l.next0,q1l.round0,evz,Nat.reduceLT,Nat.lt_irrefl,hx2,q2j,q5p]
     rw [q26 (q3s (by rw [q0u,q3l]; omega)),q26 (q3s (by rw [q0u,show Enc.sz (List Int)=1 from rfl]; omega))]
   · have e1:q82 vs ts v t vs.length=(true,ins vs (insAt vs v) v,ins ts (insAt vs v) t):=by
      unfold q82
      rw [if_neg (by omega),List.take_of_length_le (by rw [q7d _ _ _ hi]; omega),List.take_of_length_le (by rw [q7d _ _ _ (by omega)]; omega)]
     rw [e1]
     simp only [q1l.next0,q1l.round0,evz,Nat.reduceLT,Nat.lt_irrefl]
     rfl
def mT:Option Bnd→T
 | none => .tup [.agg [.sl 1 [],.sl 1 []],.bool false]
 | some b => .tup [.agg [slc b.1,slc b.2],.bool true]
section
variable {l:List Symbol} (ok:SigOk ⟨l⟩)
include ok
theorem q1n {pat u:List Int} (hq:TermOk l pat) (hu:TermOk l u):Call F.q1n [.agg [slc l],slc pat,slc u] (mT (q44 l pat u 0)):=by
 have hul:=hu.le
 have hpl:=hq.le
 refine q0s rfl 25 ((q1n.ev _ _ _ _).trans ?_)
 simp only [q53,q3l]
 have loop:∀ (q:List Int) (b:Bnd) (p k f:Nat),pat.drop k=q→q.length < f→Both l u q p []→MB l b k→k+q.length=pat.length →
  q1n.at0 25 f (q1n.st0 (cells u) (p:Nat) (cells pat) pat.length (k:Nat) (cells l) (cells b.1) (cells b.2)) =
   some (match mgo l u q b p with | none=>T.tup [.agg [.sl 1 [],.sl 1 []],.bool false] | some x => .tup [.agg [slc x.1.1,slc x.1.2],.bool (decide (x.2=u.length))],[]):=by
  intro q
  induction q with
  | nil =>
    intro b p k f hd hf hB hb hk
    obtain ⟨f,rfl⟩:∃ x,f=x+1:=⟨f - 1,by omega⟩
    have h:¬ k < pat.length:=by simp at hk; omega
    simp only [q1n.next0,q1n.round0,evz,Nat.reduceLT,h,mgo,Int.ofNat_inj]
  | cons n q ih =>
    intro b p k f hd hf hB hb hk
    rw [List.length_cons] at hf hk
    obtain ⟨f,rfl⟩:∃ x,f=x+1:=⟨f - 1,by omega⟩
    have h:k < pat.length:=by omega
    have hn:pat[k]=n:=by
     have:=congrArg (fun x=>x[0]?) hd
     simp only [List.getElem?_drop,Nat.add_zero,List.getElem?_cons_zero] at this
     rw [List.getElem?_eq_getElem h] at this
     exact Option.some.inj this
    have hd':pat.drop (k+1)=q:=by rw [← List.drop_drop,hd]; rfl
    have hlk:pat[k]?=some n:=by rw [List.getElem?_eq_getElem h,hn]
    have hp:=hB.lt
    have hpk:u[p]?=some u[p]:=List.getElem?_eq_getElem hp
    have hnode:=q4a.1 (hq.node n (hn ▸ List.getElem_mem h))
    have hp':¬ ((p:Int) ≥ (u.length:Int)):=by omega
    have hls:l.length≤6:=ok.le
    obtain ⟨h3,h4,_⟩:=q2z hu hp
    have hsl:=(q46 hu hp).2.1
    rw [mgo,if_neg (by omega)]
    by_cases c:0≤n
    · have c':n ≥ 0:=c
      rw [if_pos c,q8s hp]
      by_cases e:u[p]=n
      · simp only [q1n.next0,q1n.round0,evz,Nat.reduceLT,h,hlk,hp,hpk,hp',q1r,c',e]
        rw [q0m (by omega),q0m (by omega)]
        exact ih b (p+1) (k+1) f hd' (by omega) (hB.node (by rw [q8s hp,e])) (hb.up (by omega)) (by omega)
      · simp only [q1n.next0,q1n.round0,evz,Nat.reduceLT,h,hlk,hp,hpk,hp',q1r,c',e]
    · have c':¬ n ≥ 0:=c
      rw [if_neg c]
      have hof:=(q41 b.1 b.2 (-1 - n) hb.len (by have:=hb.le; omega)).eq
      have hB':=hB.var hu (by omega)
      have hw:IntKind.wrap .i64 (-1 - n) = -1 - n:=q27 (by omega)
      have hw2:IntKind.wrap .i64 ((p:Int)+((subAt l u p).length:Nat))=((p+(subAt l u p).length:Nat):Int):=by rw [q27 (by omega)]; omega
      have hsub:=(q43 ok hu hp).eq
      have hbl:=hb.le
      cases hbo:q3i b.1 b.2 (-1 - n) with
      | none =>
        rw [hbo] at hof
        have hbind:=q0y b.1 b.2 (-1 - n) (subAt l u p) hb.len (by omega) (by omega)
        simp only [q1n.next0,q1n.round0,evz,Nat.reduceLT,h,hlk,hp',q1r,c',hsub,hw,hof,ofT,q3q,hbind,hw2]
        rw [q0m (by omega)]
        exact ih (bput b (-1 - n) (subAt l u p)) _ (k+1) f hd' (by omega) hB' (hb.put (by omega) (q6n hu hp)) (by omega)
      | some o =>
        rw [hbo] at hof
        have ho:=hb.tm o (q4z hbo)
        have hol:=ho.le
        have heq:=(q0p o (subAt l u p) ⟨by omega,fun _ _=>trivial⟩).eq
        show _=some (match (if o=subAt l u p then mgo l u q b (p+(subAt l u p).length) else none) with | none=>_ | some x=>_,[])
        by_cases e:o=subAt l u p
        · rw [if_pos e]
          rw [e] at heq
          simp only [q1n.next0,q1n.round0,evz,Nat.reduceLT,h,hlk,hp',q1r,c',hsub,hw,hof,ofT,q3q,heq,e,hw2]
          rw [q0m (by omega)]
          exact ih b _ (k+1) f hd' (by omega) hB' (hb.up (by omega)) (by omega)
        · rw [if_neg e]
          simp only [q1n.next0,q1n.round0,evz,Nat.reduceLT,h,hlk,hp',q1r,c',hsub,hw,hof,ofT,q3q,heq,e]
 have hpos:=hu.pos
 have e0:u.drop (endAt l u 0)=[]:=by
  have:=(q46 hu (p:=0) (by omega)).2.2
  rw [List.drop_zero,hu.skip] at this
  exact (Option.some.inj this).symm
 have hB:=Both.start hu hq (p:=0) (by omega)
 rw [e0] at hB
 have hmain:=loop pat ([],[]) 0 0 25 rfl (by omega) hB (MB.nil l) (by omega)
 have hen:=mgo_end hu pat ([],[]) 0 0 hB (by omega) (MB.nil l) (by omega) hq.node
 unfold q44
 cases hm:mgo l u pat ([],[]) 0 with
 | none=>rw [hm] at hmain; exact hmain
 | some x =>
   rw [hm] at hmain
   obtain ⟨h1,h2,_⟩:=hen x hm
   have hx:x.2=u.length:=by
    have:=congrArg List.length h1
    rw [List.length_drop] at this
    simp at this
    omega
   have hmain:q1n.at0 25 25 (q1n.st0 (cells u) (0:Nat) (cells pat) pat.length (0:Nat) (cells l) (cells ([]:List Int)) (cells ([]:List (List Int))))=some (T.tup [.agg [slc x.1.1,slc x.1.2],.bool (decide (x.2=u.length))],[]):=hmain
   rw [hx,decide_eq_true rfl] at hmain
   exact hmain
theorem q17 {pat u:List Int} (hq:TermOk l pat) (hu:TermOk l u) {p0:Nat} (hp0:p0 < u.length):Call F.q17 [.rref [slc l] 0,slc pat,slc u,.int .i64 p0] (mT (q44 l pat u p0)):=by
 have hul:=hu.le
 have hpl:=hq.le
 refine q0s rfl 25 ((q17.ev _ _ _ _ _).trans ?_)
 have loop:∀ (q:List Int) (b:Bnd) (p k f:Nat),pat.drop k=q→q.length < f→Both l u q p (u.drop (endAt l u p0))→MB l b k→k+q.length=pat.length →
  q17.at0 25 f (q17.st0 (cells l) (cells pat) (cells u) (p:Nat) (k:Nat) (cells b.1) (cells b.2))=some (mT ((mgo l u q b p).map (·.1)),[]):=by
  intro q
  induction q with
  | nil =>
    intro b p k f hd hf hB hb hk
    obtain ⟨f,rfl⟩:∃ x,f=x+1:=⟨f - 1,by omega⟩
    have h:¬ k < pat.length:=by simp at hk; omega
    simp only [q17.next0,q17.round0,evz,Nat.reduceLT,h,mgo,Option.map_some,mT]
  | cons n q ih =>
    intro b p k f hd hf hB hb hk
    rw [List.length_cons] at hf hk
    obtain ⟨f,rfl⟩:∃ x,f=x+1:=⟨f - 1,by omega⟩
    have h:k < pat.length:=by omega
    have hn:pat[k]=n:=by
     have:=congrArg (fun x=>x[0]?) hd
     simp only [List.getElem?_drop,Nat.add_zero,List.getElem?_cons_zero] at this
     rw [List.getElem?_eq_getElem h] at this
     exact Option.some.inj this
    have hd':pat.drop (k+1)=q:=by rw [← List.drop_drop,hd]; rfl
    have hlk:pat[k]?=some n:=by rw [List.getElem?_eq_getElem h,hn]
    have hp:=hB.lt
    have hpk:u[p]?=some u[p]:=List.getElem?_eq_getElem hp
    have hnode:=q4a.1 (hq.node n (hn ▸ List.getElem_mem h))
    have hp':¬ ((p:Int) ≥ (u.length:Int)):=by omega
    have hls:l.length≤6:=ok.le
    obtain ⟨h3,h4,_⟩:=q2z hu hp
    have hsl:=(q46 hu hp).2.1
    rw [mgo,if_neg (by omega)]
    by_cases c:0≤n
    · have c':n ≥ 0:=c
      rw [if_pos c,q8s hp]
      by_cases e:u[p]=n
      · simp only [q17.next0,q17.round0,evz,Nat.reduceLT,h,hlk,hp,hpk,hp',q1r,c',e]
        rw [q0m (by omega),q0m (by omega)]
        exact ih b (p+1) (k+1) f hd' (by omega) (hB.node (by rw [q8s hp,e])) (hb.up (by omega)) (by omega)
      · simp only [q17.next0,q17.round0,evz,Nat.reduceLT,h,hlk,hp,hpk,hp',q1r,c',e,Option.map_none,mT]
    · have c':¬ n ≥ 0:=c
      rw [if_neg c]
      have hof:=(q21 b.1 b.2 (-1 - n) hb.len (by have:=hb.le; omega)).eq
      have hB':=hB.var hu (by omega)
      have hw:IntKind.wrap .i64 (-1 - n) = -1 - n:=q27 (by omega)
      have hw2:IntKind.wrap .i64 ((p:Int)+((subAt l u p).length:Nat))=((p+(subAt l u p).length:Nat):Int):=by rw [q27 (by omega)]; omega
      have hsub:=(q7o ok hu hp).eq
      have hbl:=hb.le
      cases hbo:q3i b.1 b.2 (-1 - n) with
      | none =>
        rw [hbo] at hof
        have hbind:=(q1l b.1 b.2 (-1 - n) (subAt l u p) hb.len (by omega) (by omega) (bindOf_none hb.len hbo) fun x hx=>by have:=(hb.tm x hx).le; omega).eq
        simp only [q17.next0,q17.round0,evz,Nat.reduceLT,h,hlk,hp',q1r,c',hsub,hw,hof,Option.getD_none,q3q,hbind,hw2,List.length_nil,Int.natCast_zero,Int.ofNat_zero]
        rw [q0m (by omega)]
        exact ih (bput b (-1 - n) (subAt l u p)) _ (k+1) f hd' (by omega) hB' (hb.put (by omega) (q6n hu hp)) (by omega)
      | some o =>
        rw [hbo] at hof
        have ho:=hb.tm o (q4z hbo)
        have hol:=ho.le
        have hop:=ho.pos
        have ho0:¬ ((o.length:Int)=0):=by omega
        have heq:=(q1u o (subAt l u p) ⟨by omega,fun _ _=>trivial⟩).eq
        show _=some (mT ((if o=subAt l u p then mgo l u q b (p+(subAt l u p).length) else none).map (·.1)),[])
        by_cases e:o=subAt l u p
        · rw [if_pos e]
          have ho1:¬ (((subAt l u p).length:Int)=0):=by omega
          rw [e] at heq
          simp only [q17.next0,q17.round0,evz,Nat.reduceLT,h,hlk,hp',q1r,c',hsub,hw,hof,Option.getD_some,q3q,heq,e,ho0,ho1,hw2]
          rw [q0m (by omega)]
          exact ih b _ (k+1) f hd' (by omega) hB' (hb.up (by omega)) (by omega)
        · rw [if_neg e]
          simp only [q17.next0,q17.round0,evz,Nat.reduceLT,h,hlk,hp',q1r,c',hsub,hw,hof,Option.getD_some,q3q,heq,e,ho0,Option.map_none,mT]
 exact loop pat ([],[]) p0 0 25 rfl (by omega) (Both.start hu hq hp0) (MB.nil l) (by omega)
end
end Ev.Ty
end
section
namespace Ev.Ty
open Go Ev
open Enc (enc)
open Sm (sm)
set_option linter.unusedSimpArgs false
set_option linter.unusedVariables false
section
variable {l:List Symbol} (ok:SigOk ⟨l⟩) {rs:List Equation} (hr:∀ e∈rs,EqOk l e) (hn:rs.length≤12)
include ok hr hn
theorem q6c {t:List Int} (ht:TermOk l t) {p:Nat} (hp:p < t.length):Call F.q6c [.agg [slc l],slc rs,slc t,.int .i64 p] (.int .i64 (fits l rs t p)):=by
 have hu:=q6n ht hp
 have hi:Call F.q1a [slc rs,.clo F.q4q [.rref [slc l] 0,.rref [slc (subAt l t p)] 0]] (.int .i64 (fits l rs t p)):=by
  refine q0s rfl (rs.length+1) ((q08.ev _ _ _ _).trans ?_)
  simp only [evz,Nat.reduceLT]
  refine q6l (S:=fun m k=>q08.at0 (rs.length+1) m (q08.st0 (cells rs) (cells l) (cells (subAt l t p)) rs.length (k:Nat))) (fun m k h => ?_) (fun m => ?_) (Nat.lt_succ_self _)
  · have hlk:rs[k]?=some rs[k]:=List.getElem?_eq_getElem h
    have he:=hr _ (List.getElem_mem h)
    have hc:Call F.q4q [.agg [slc rs[k].left,slc rs[k].right],.rref [slc l] 0,.rref [slc (subAt l t p)] 0] (.bool (q44 l rs[k].left t p).isSome):=by
     refine q0s rfl 0 ((q4q.ev _ _ _ _ _).trans ?_)
     have hm:=(q1n ok he.left hu).eq
     rw [q9k he.left ht hp] at hm
     cases hmm:q44 l rs[k].left t p with
     | none=>rw [hmm] at hm; simp only [evz,Nat.reduceLT,hm,mT]; rfl
     | some b=>rw [hmm] at hm; simp only [evz,Nat.reduceLT,hm,mT]; rfl
    simp only [q08.next0,q08.round0,evz,Nat.reduceLT,h,hlk,q3r,hc.eq]
    rw [q0m (by omega)]
    cases (q44 l rs[k].left t p).isSome <;> rfl
  · simp only [q08.next0,q08.round0,evz,Nat.reduceLT,Nat.lt_irrefl]
 refine q0s rfl 0 ((q6c.ev _ _ _ _ _).trans ?_)
 simp only [evz,Nat.reduceLT,(q43 ok ht hp).eq,hi.eq]
theorem q23 {t:List Int} (ht:TermOk l t) {p:Nat} (hp:p < t.length):Call F.q23 [.rref [slc l] 0,slc rs,slc t,.int .i64 p] (.int .i64 (fits l rs t p)):=by
 refine q0s rfl (rs.length+1) ((q23.ev _ _ _ _ _).trans ?_)
 refine q6l (S:=fun m k=>q23.at0 (rs.length+1) m (q23.st0 (cells l) (cells rs) (cells t) (p:Nat) (k:Nat))) (fun m k h => ?_) (fun m => ?_) (Nat.lt_succ_self _)
 · have hlk:rs[k]?=some rs[k]:=List.getElem?_eq_getElem h
   have he:=hr _ (List.getElem_mem h)
   have hm:=(q17 ok he.left ht hp).eq
   cases hmm:q44 l rs[k].left t p with
   | none =>
     rw [hmm] at hm
     simp only [q23.next0,q23.round0,evz,Nat.reduceLT,h,hlk,q3r,hm,mT]
     rw [q0m (by omega)]
     rfl
   | some b =>
     rw [hmm] at hm
     simp only [q23.next0,q23.round0,evz,Nat.reduceLT,h,hlk,q3r,hm,mT]
     rfl
 · simp only [q23.next0,q23.round0,evz,Nat.reduceLT,Nat.lt_irrefl]
theorem q0v {t:List Int} (ht:TermOk l t):Call F.q0v [.agg [slc l],slc rs,slc t] (.tup [.int .i64 (redex l rs t).1,.int .i64 (redex l rs t).2,.bool (decide ((redex l rs t).1 ≥ 0))]):=by
 have hle:=ht.le
 have hpos:=ht.pos
 have loop:∀ (k f:Nat) (s:Int × Int),k≤t.length→k < f→IsBest (endAt l t) (fits l rs t) k t.length s →
  q0v.at0 25 f (q0v.st0 (cells rs) (cells t) s.1 s.2 ((k:Int) - 1) (cells l)) =
   some (.tup [.int .i64 (down (endAt l t) (fits l rs t) k s).1,.int .i64 (down (endAt l t) (fits l rs t) k s).2,.bool (decide ((down (endAt l t) (fits l rs t) k s).1 ≥ 0))],[]):=by
  intro k
  induction k with
  | zero =>
    intro f s hk hf hb
    obtain ⟨f,rfl⟩:∃ x,f=x+1:=⟨f - 1,by omega⟩
    have h1:¬ (((0:Nat):Int) - 1 ≥ 0):=by omega
    simp only [q0v.next0,q0v.round0,cond_dec]
    rw [if_neg h1]
    rfl
  | succ k ih =>
    intro f s hk hf hb
    obtain ⟨f,rfl⟩:∃ x,f=x+1:=⟨f - 1,by omega⟩
    have e:((k+1:Nat):Int) - 1=(k:Int):=by omega
    have h1:(k:Int) ≥ 0:=by omega
    have hkt:k < t.length:=by omega
    have hw:IntKind.wrap .i64 ((k:Int) - 1)=(k:Int) - 1:=q27 (by omega)
    have hb':=hb.down _ _ hkt
    have next:=ih f _ (by omega) (by omega) hb'
    have hra:=(q6c ok hr hn ht hkt).eq
    have hek:=(endOf_at ok ht hkt).eq
    rw [e,down]
    unfold downStep at next ⊢
    rcases hb with ⟨rfl,hno⟩ | ⟨a,ha1,ha2,rfl,ha3,ha4⟩
    · have hneg:¬ ((-1:Int) ≥ 0):=by omega
      rw [if_neg (fun h=>hneg h.1)] at next ⊢
      by_cases hf0:fits l rs t k ≥ 0
      · rw [if_pos hf0] at next ⊢
        simp only [q0v.next0,q0v.round0,evz,Nat.reduceLT,h1,hneg,hra,hf0,hw]
        exact next
      · rw [if_neg hf0] at next ⊢
        simp only [q0v.next0,q0v.round0,evz,Nat.reduceLT,h1,hneg,hra,hf0,hw]
        exact next
    · have hpa:((a:Int)) ≥ 0:=by omega
      have hea:=(endOf_at ok ht ha2).eq
      by_cases hc:endAt l t k ≥ endAt l t a
      · have hc':((endAt l t k:Nat):Int) ≥ ((endAt l t a:Nat):Int):=by omega
        have hcc:((a:Int),fits l rs t a).1 ≥ 0∧endAt l t k ≥ endAt l t (((a:Int),fits l rs t a).1).toNat:=⟨hpa,by simpa using hc⟩
        rw [if_pos hcc] at next ⊢
        simp only [q0v.next0,q0v.round0,evz,Nat.reduceLT,h1,hpa,hek,hea,hc',hw]
        exact next
      · have hc':¬ ((endAt l t k:Nat):Int) ≥ ((endAt l t a:Nat):Int):=by omega
        have hcc:¬ (((a:Int),fits l rs t a).1 ≥ 0∧endAt l t k ≥ endAt l t (((a:Int),fits l rs t a).1).toNat):=fun h=>hc (by simpa using h.2)
        rw [if_neg hcc] at next ⊢
        by_cases hf0:fits l rs t k ≥ 0
        · rw [if_pos hf0] at next ⊢
          simp only [q0v.next0,q0v.round0,evz,Nat.reduceLT,h1,hpa,hek,hea,hc',hra,hf0,hw]
          exact next
        · rw [if_neg hf0] at next ⊢
          simp only [q0v.next0,q0v.round0,evz,Nat.reduceLT,h1,hpa,hek,hea,hc',hra,hf0,hw]
          exact next
 refine q0s rfl 25 ((q0v.ev _ _ _ _).trans ?_)
 simp only [q53,q3l]
 rw [q27 (by omega)]
 exact loop t.length 25 (-1,-1) (Nat.le_refl _) (by omega) (.inl ⟨rfl,fun a h1 h2=>by omega⟩)
theorem q1p {t:List Int} (ht:TermOk l t):Call F.q1p [.rref [slc l] 0,slc rs,slc t] (.tup [.int .i64 (redex l rs t).1,.int .i64 (redex l rs t).2]):=by
 have hle:=ht.le
 refine q0s rfl 25 ((q1p.ev _ _ _ _).trans ?_)
 have key:=run_loop (n:=t.length) (f:=25) (S:=fun m k (s:Int × Int × Int)=>q1p.at0 25 m (q1p.st0 (cells l) (cells rs) (cells t) s.1 s.2.1 s.2.2 (k:Nat)))
  (st:=upAll (endAt l t) (fits l rs t)) (z:=some (.tup [.int .i64 (redex l rs t).1,.int .i64 (redex l rs t).2],[])) (fun m k h => ?_) (fun m => ?_) (by omega)
 · exact key
 · have e0:upAll (endAt l t) (fits l rs t) (k+1)=upStep (endAt l t) (fits l rs t) (upAll (endAt l t) (fits l rs t) k) k:=by unfold upAll; rw [List.range_succ,List.foldl_append]; rfl
   rw [e0]
   unfold upStep
   have hek:=(q7v ok ht h).eq
   have hra:=(q23 ok hr hn ht h).eq
   by_cases hc:((endAt l t k:Nat):Int) > (upAll (endAt l t) (fits l rs t) k).2.2
   · rw [if_pos hc]
     simp only [q1p.next0,q1p.round0,evz,Nat.reduceLT,h,hek,hc]
     rw [q0m (by omega)]
   · rw [if_neg hc]
     by_cases hf0:fits l rs t k ≥ 0
     · rw [if_pos hf0]
       simp only [q1p.next0,q1p.round0,evz,Nat.reduceLT,h,hek,hc,hra,hf0]
       rw [q0m (by omega)]
     · rw [if_neg hf0]
       simp only [q1p.next0,q1p.round0,evz,Nat.reduceLT,h,hek,hc,hra,hf0]
       rw [q0m (by omega)]
 · rw [redex_up ht]
   simp only [q1p.next0,q1p.round0,evz,Nat.reduceLT,Nat.lt_irrefl]
omit hr hn in
theorem q5l {e:Equation} (he:EqOk l e) {t:List Int} (ht:TermOk l t) {p:Nat} (hp:p < t.length):Call F.q5l [.agg [slc l],.agg [slc e.left,slc e.right],slc t,.int .i64 p] (.agg (enc (q69 l e t p))):=by
 have hu:=q6n ht hp
 have hm:=(q1n ok he.left hu).eq
 rw [q9k he.left ht hp] at hm
 refine q0s rfl 0 ((q5l.ev _ _ _ _ _ _).trans ?_)
 unfold q69
 cases hmm:q44 l e.left t p with
 | none=>rw [hmm] at hm; simp only [evz,Nat.reduceLT,(q43 ok ht hp).eq,hm,mT]; rfl
 | some b =>
   rw [hmm] at hm
   have hb:=matchAt_ok he.left ht hp hmm
   have hbo:=hb.ok he.left.le
   have hrl:=he.right.le
   have hal:=q8u hbo e.right
   simp only [evz,Nat.reduceLT,(q43 ok ht hp).eq,hm,mT,(q0n b.1 b.2 hbo e.right (by omega) (he.right.range ok)).eq,(q5v ok ht hp (q1z b.1 b.2 e.right) (by omega)).eq]
   have hfit:=(q6g (q4u l t p (q1z b.1 b.2 e.right))).eq
   by_cases h24:24 < (q4u l t p (q1z b.1 b.2 e.right)).length
   · rw [if_pos h24] at hfit ⊢
     simp only [evz,Nat.reduceLT,hfit,q6x]
   · rw [if_neg h24] at hfit ⊢
     simp only [evz,Nat.reduceLT,hfit,q6x]
omit hr hn in
theorem q5j {e:Equation} (he:EqOk l e) {t:List Int} (ht:TermOk l t) {p:Nat} (hp:p < t.length):Call F.q5j [.rref [slc l] 0,.rref [slc e.left,slc e.right] 0,.int .i64 p,slc t] (.tup [slc (q69 l e t p).term,.int .i64 (q69 l e t p).code]):=by
 have hm:=(q17 ok he.left ht hp).eq
 refine q0s rfl 0 ((q5j.ev _ _ _ _ _ _).trans ?_)
 unfold q69
 cases hmm:q44 l e.left t p with
 | none=>rw [hmm] at hm; simp only [evz,Nat.reduceLT,hm,mT]; rfl
 | some b =>
   rw [hmm] at hm
   have hb:=matchAt_ok he.left ht hp hmm
   have hbo:=hb.ok he.left.le
   have hrl:=he.right.le
   have hal:=q8u hbo e.right
   simp only [evz,Nat.reduceLT,hm,mT,(q1e b.1 b.2 hbo e.right (by omega) (he.right.range ok)).eq,(q4c ok ht hp (q1z b.1 b.2 e.right) (by omega)).eq]
   by_cases h24:24 < (q4u l t p (q1z b.1 b.2 e.right)).length
   · have h24':((q4u l t p (q1z b.1 b.2 e.right)).length:Int) > 24:=by omega
     rw [if_pos h24]
     simp only [evz,Nat.reduceLT,h24']
     rfl
   · have h24':¬ ((q4u l t p (q1z b.1 b.2 e.right)).length:Int) > 24:=by omega
     rw [if_neg h24]
     simp only [evz,Nat.reduceLT,h24']
omit ok hr hn in
theorem redex_range {l:List Symbol} {rs:List Equation} (t:List Int):(redex l rs t).1 < 0∨∃ a k:Nat,∃ h:k < rs.length,a < t.length∧(redex l rs t).1=a∧(redex l rs t).2=k:=by
 rcases redex_at (l:=l) (rs:=rs) (t:=t) with h | ⟨a,k,h,ha,e,_⟩
 · rw [h]; exact .inl (by simp)
 · rw [e]; exact .inr ⟨a,k,h,ha,rfl,rfl⟩
theorem q14 {t:List Int} (ht:TermOk l t) {fuel:Nat} (hfu:fuel≤200):Call F.q14 [.agg [slc l],slc rs,slc t,.int .i64 fuel] (.agg (enc (norm l rs fuel 0 t))):=by
 have hle:=ht.le
 have loop:∀ (m k f:Nat) (t:List Int),m+k=fuel→m < f→TermOk l t →
  q14.at0 202 f (q14.st0 (cells rs) (fuel:Nat) (k:Nat) (cells l) 0 0 (cells t))=some (.agg (enc (norm l rs m k t)),[]):=by
  intro m
  induction m with
  | zero =>
    intro k f t hk hf ht
    obtain ⟨f,rfl⟩:∃ x,f=x+1:=⟨f - 1,by omega⟩
    obtain rfl:k=fuel:=by omega
    have hfr:=(q0v ok hr hn ht).eq
    rw [norm]
    by_cases h0:(redex l rs t).1 < 0
    · have h0':¬ (redex l rs t).1 ≥ 0:=by omega
      rw [if_pos h0]
      simp only [q14.next0,q14.round0,evz,Nat.reduceLT,hfr,h0',Bool.not_false,q2i]
    · have h0':(redex l rs t).1 ≥ 0:=by omega
      rw [if_neg h0]
      simp only [q14.next0,q14.round0,evz,Nat.reduceLT,hfr,h0',Bool.not_true,q2i]
      rfl
  | succ m ih =>
    intro k f t hk hf ht
    obtain ⟨f,rfl⟩:∃ x,f=x+1:=⟨f - 1,by omega⟩
    have hfr:=(q0v ok hr hn ht).eq
    rw [norm]
    rcases redex_range (l:=l) (rs:=rs) t with h0 | ⟨a,q,hq,ha,e1,e2⟩
    · have h0':¬ (redex l rs t).1 ≥ 0:=by omega
      rw [if_pos h0]
      simp only [q14.next0,q14.round0,evz,Nat.reduceLT,hfr,h0',Bool.not_false,q2i]
    · have h0:¬ (redex l rs t).1 < 0:=by omega
      rw [e1,e2] at hfr
      have h0':((a:Nat):Int) ≥ 0:=by omega
      have hkf:¬ ((k:Int)=(fuel:Int)):=by omega
      have hlk:rs[q]?=some rs[q]:=List.getElem?_eq_getElem hq
      have he:=hr _ (List.getElem_mem hq)
      have hrw:=(q5l ok he ht ha).eq
      have hg:rs.getD (redex l rs t).2.toNat ⟨[],[]⟩=rs[q]:=by rw [e2,Int.toNat_natCast]; exact getE hq
      have hga:(redex l rs t).1.toNat=a:=by rw [e1,Int.toNat_natCast]
      rw [if_neg h0,hg,hga]
      have hsok:=stepAt_ok he ht ha
      rw [q6x] at hrw
      by_cases hcode:(q69 l rs[q] t a).code=0
      · rw [if_neg (by simpa using hcode)]
        simp only [q14.next0,q14.round0,evz,Nat.reduceLT,hfr,h0',hkf,Bool.not_true,hq,hlk,q3r,hrw,hcode]
        rw [q0m (by omega)]
        exact ih (k+1) f _ (by omega) (by omega) (hsok hcode)
      · rw [if_pos hcode]
        simp only [q14.next0,q14.round0,evz,Nat.reduceLT,hfr,h0',hkf,Bool.not_true,hq,hlk,q3r,hrw,hcode,q2i]
        rfl
 refine q0s rfl 202 ((q14.ev _ _ _ _ _).trans ?_)
 simp only [evz,Nat.reduceLT,(q35 t (by omega)).eq]
 exact loop fuel 0 202 t (by omega) (by omega) ht
theorem q18 {t:List Int} (ht:TermOk l t) {fuel:Nat} (hfu:fuel≤200):Call F.q18 [.rref [slc l] 0,slc rs,slc t,.int .i64 fuel] (.agg (enc (norm l rs fuel 0 t))):=by
 have hle:=ht.le
 have loop:∀ (m k f:Nat) (t:List Int),m+k=fuel→m < f→TermOk l t →
  q18.at0 202 f (q18.st0 (cells l) (cells rs) (fuel:Nat) (k:Nat) 0 0 (cells t))=some (.agg (enc (norm l rs m k t)),[]):=by
  intro m
  induction m with
  | zero =>
    intro k f t hk hf ht
    obtain ⟨f,rfl⟩:∃ x,f=x+1:=⟨f - 1,by omega⟩
    obtain rfl:k=fuel:=by omega
    have hfr:=(q1p ok hr hn ht).eq
    rw [norm]
    have hge:((k:Int)) ≥ (k:Int):=Int.le_refl _
    by_cases h0:(redex l rs t).1 < 0
    · rw [if_pos h0]
      simp only [q18.next0,q18.round0,evz,Nat.reduceLT,hfr,h0,q2i]
    · rw [if_neg h0]
      simp only [q18.next0,q18.round0,evz,Nat.reduceLT,hfr,h0,hge,q2i]
      rfl
  | succ m ih =>
    intro k f t hk hf ht
    obtain ⟨f,rfl⟩:∃ x,f=x+1:=⟨f - 1,by omega⟩
    have hfr:=(q1p ok hr hn ht).eq
    rw [norm]
    rcases redex_range (l:=l) (rs:=rs) t with h0 | ⟨a,q,hq,ha,e1,e2⟩
    · rw [if_pos h0]
      simp only [q18.next0,q18.round0,evz,Nat.reduceLT,hfr,h0,q2i]
    · have h0:¬ (redex l rs t).1 < 0:=by omega
      rw [e1,e2] at hfr
      have h0':¬ ((a:Nat):Int) < 0:=by omega
      have hkf:¬ ((k:Int) ≥ (fuel:Int)):=by omega
      have hlk:rs[q]?=some rs[q]:=List.getElem?_eq_getElem hq
      have he:=hr _ (List.getElem_mem hq)
      have hrw:=(q5j ok he ht ha).eq
      have hg:rs.getD (redex l rs t).2.toNat ⟨[],[]⟩=rs[q]:=by rw [e2,Int.toNat_natCast]; exact getE hq
      have hga:(redex l rs t).1.toNat=a:=by rw [e1,Int.toNat_natCast]
      rw [if_neg h0,hg,hga]
      have hsok:=stepAt_ok he ht ha
      have hwin:=q64 (k:=2) (i:=q) rfl hlk
      by_cases hcode:(q69 l rs[q] t a).code=0
      · rw [if_neg (by simpa using hcode)]
        simp only [q18.next0,q18.round0,evz,Nat.reduceLT,hfr,h0',hkf,hq,hwin,q3r,hrw,hcode]
        rw [q0m (by omega)]
        exact ih (k+1) f _ (by omega) (by omega) (hsok hcode)
      · rw [if_pos hcode]
        simp only [q18.next0,q18.round0,evz,Nat.reduceLT,hfr,h0',hkf,hq,hwin,q3r,hrw,hcode,q2i]
        rfl
 refine q0s rfl 202 ((q18.ev _ _ _ _ _).trans ?_)
 simp only [evz,Nat.reduceLT,(q5c t (by omega)).eq]
 exact loop fuel 0 202 t (by omega) (by omega) ht
end
end Ev.Ty
end
section
namespace Ev.Ty
open Go Ev
open Enc (enc)
open Sm (sm)
set_option linter.unusedSimpArgs false
set_option linter.unusedVariables false
theorem q97 {l:List Symbol} {rs:List Equation} (h:q4h ⟨l⟩ rs=0):q2o ⟨l⟩=0∧SigOk ⟨l⟩∧rs.length≤12∧∀ e∈rs,EqOk l e:=by
 unfold q4h at h
 split at h
 · rename_i h1; exact absurd h h1
 rename_i h1
 have h1:q2o ⟨l⟩=0:=by simpa using h1
 unfold q7m at h
 split at h
 · rename_i h2; exact absurd h h2
 rename_i h2
 obtain ⟨q1,q2⟩:=q8f.1 (show q62 l rs=0 by simpa using h2)
 exact ⟨h1,(q60 _).1 h1,q1,q2⟩
theorem q65 {l:List Symbol} {rs:List Equation} {t:List Int} (h:q3a ⟨l⟩ rs t=0):SigOk ⟨l⟩∧rs.length≤12∧(∀ e∈rs,EqOk l e)∧TermOk l t:=by
 unfold q3a at h
 split at h
 · rename_i h1; exact absurd h h1
 rename_i h1
 obtain ⟨_,q1,q2,q3⟩:=q97 (l:=l) (rs:=rs) (by simpa using h1)
 exact ⟨q1,q2,q3,(q47 _ _).1 h⟩
theorem q49 (l:List Symbol) (hs:l.length≤4294967296) (rs:List Equation) (hr:sm 4294967296 rs) (t:List Int) (ht:t.length≤4294967296) :
 Call F.q49 [.agg [slc l],slc rs,slc t] (.int .i64 (q3a ⟨l⟩ rs t)):=by
 refine q0s rfl 0 ((q49.ev _ _ _ _).trans ?_)
 simp only [evz,Nat.reduceLT,(q56 l hs rs hr).eq,(q3h l hs t ht).eq,(firstCode2 _ _).eq,q3a]
 by_cases h:q4h ⟨l⟩ rs=0
 · have h0:=(q97 h).1
   simp only [h,evz,Nat.reduceLT,ne_eq,not_true_eq_false,q4n,h0]
 · simp only [h,evz,Nat.reduceLT,ne_eq,not_false_eq_true]
theorem q73 (l:List Symbol) (hs:l.length≤4294967296) (rs:List Equation) (hr:sm 4294967296 rs) (t:List Int) (ht:t.length≤4294967296) :
 Call F.q73 [.rref [slc l] 0,slc rs,slc t] (.int .i64 (q3a ⟨l⟩ rs t)):=by
 refine q0s rfl 0 ((q73.ev _ _ _ _).trans ?_)
 simp only [evz,Nat.reduceLT,(q55 l hs rs hr).eq,q3a]
 by_cases h:q4h ⟨l⟩ rs=0
 · have h0:=(q97 h).2.1
   simp only [h,evz,Nat.reduceLT,ne_eq,not_true_eq_false,(q0z l h0 t ht).eq]
 · simp only [h,evz,Nat.reduceLT,ne_eq,not_false_eq_true]
theorem norm_sm {l:List Symbol} {rs:List Equation} (hr:∀ e∈rs,EqOk l e):∀ (m k:Nat) (t:List Int),TermOk l t→sm 67108864 (norm l rs m k t)∧((norm l rs m k t).code=0→TermOk l (norm l rs m k t).term)
 | 0,k,t,ht=>by
   have:=ht.le
   rw [norm]
   split
   · exact ⟨⟨by simp only; omega,fun _ _=>trivial⟩,fun _=>ht⟩
   · exact ⟨⟨by simp,by simp⟩,fun h=>by cases h⟩
 | m+1,k,t,ht=>by
   have:=ht.le
   rw [norm]
   split
   · exact ⟨⟨by simp only; omega,fun _ _=>trivial⟩,fun _=>ht⟩
   rename_i h0
   split
   · rename_i hc
     exact ⟨⟨by simp,by simp⟩,fun h=>absurd h hc⟩
   · rename_i hc
     rcases redex_range (l:=l) (rs:=rs) t with h | ⟨a,q,hq,ha,e1,e2⟩
     · exact absurd h h0
     · have hg:rs.getD (redex l rs t).2.toNat ⟨[],[]⟩=rs[q]:=by rw [e2,Int.toNat_natCast]; exact getE hq
       have hga:(redex l rs t).1.toNat=a:=by rw [e1,Int.toNat_natCast]
       rw [hg,hga] at hc ⊢
       exact norm_sm hr m (k+1) _ (stepAt_ok (hr _ (List.getElem_mem hq)) ht ha (by simpa using hc))
theorem q2v (s:Signature) (rs:List Equation) (t:List Int) (fuel:Int) (hs:sm 1048576 s) (hr:sm 1048576 rs) (ht:sm 1048576 t):Call F.q2v [.agg (enc s),slc rs,slc t,.int .i64 fuel] (.agg (enc (q2e s rs t fuel))):=by
 obtain ⟨l⟩:=s
 have hsl:l.length≤4294967296:=Nat.le_trans hs.1 (by omega)
 have htl:t.length≤4294967296:=Nat.le_trans ht.1 (by omega)
 show Call F.q2v [.agg [slc l],slc rs,slc t,.int .i64 fuel] _
 refine q0s rfl 0 ((q2v.ev _ _ _ _ _).trans ?_)
 simp only [evz,Nat.reduceLT,(q49 l hsl rs (q32 (by omega) hr) t htl).eq,q2e,(q2u _ _ _).eq]
 by_cases h:q3a ⟨l⟩ rs t=0
 case neg=>simp only [h,evz,Nat.reduceLT,ne_eq,not_false_eq_true,q2i,q80]
 obtain ⟨ok,q1,q2,q3⟩:=q65 h
 cases h1:inR fuel 0 200 with
 | false=>simp only [h,evz,Nat.reduceLT,ne_eq,not_true_eq_false,Bool.not_false,q2i,q80]
 | true =>
   have hf1:=q6i.1 h1
   obtain ⟨k,rfl⟩:∃ k:Nat,fuel=k:=⟨fuel.toNat,by omega⟩
   have hnf:=(q14 ok q2 q1 q3 (fuel:=k) (by omega)).eq
   rw [q2i] at hnf
   simp only [h,evz,Nat.reduceLT,ne_eq,not_true_eq_false,Bool.not_true,hnf,q2i,reduceCtorEq]
theorem q40 (s:Signature) (rs:List Equation) (t:List Int) (fuel:Int) (hs:sm 1048576 s) (hr:sm 1048576 rs) (ht:sm 1048576 t):Call F.q40 [.agg (enc s),slc rs,slc t,.int .i64 fuel] (.agg (enc (q2e s rs t fuel))):=by
 obtain ⟨l⟩:=s
 have hsl:l.length≤4294967296:=Nat.le_trans hs.1 (by omega)
 have htl:t.length≤4294967296:=Nat.le_trans ht.1 (by omega)
 show Call F.q40 [.agg [slc l],slc rs,slc t,.int .i64 fuel] _
 refine q0s rfl 0 ((q40.ev _ _ _ _ _).trans ?_)
 simp only [evz,Nat.reduceLT,(q73 l hsl rs (q32 (by omega) hr) t htl).eq,q2e,(q3y _ _ _).eq]
 by_cases h:q3a ⟨l⟩ rs t=0
 case neg=>simp only [h,evz,Nat.reduceLT,ne_eq,not_false_eq_true,q2i,q80]
 obtain ⟨ok,q1,q2,q3⟩:=q65 h
 cases h1:inR fuel 0 200 with
 | false=>simp only [h,evz,Nat.reduceLT,ne_eq,not_true_eq_false,Bool.not_false,q2i,q80]
 | true =>
   have hf1:=q6i.1 h1
   obtain ⟨k,rfl⟩:∃ k:Nat,fuel=k:=⟨fuel.toNat,by omega⟩
   have hnf:=(q18 ok q2 q1 q3 (fuel:=k) (by omega)).eq
   rw [q2i] at hnf
   simp only [h,evz,Nat.reduceLT,ne_eq,not_true_eq_false,Bool.not_true,hnf,q2i,reduceCtorEq]
theorem normalFormR_term {l:List Symbol} {rs:List Equation} {t:List Int} {fuel:Int} (h:(q2e ⟨l⟩ rs t fuel).code=0):q3a ⟨l⟩ rs t=0∧inR fuel 0 200=true∧q2e ⟨l⟩ rs t fuel=norm l rs fuel.toNat 0 t∧(q2e ⟨l⟩ rs t fuel).term.length≤24:=by
 unfold q2e at h ⊢
 by_cases h1:q3a ⟨l⟩ rs t=0
 case neg=>rw [if_pos h1] at h; exact absurd h h1
 rw [if_neg (by simpa using h1)] at h ⊢
 cases h2:inR fuel 0 200 with
 | false=>rw [h2,if_pos rfl] at h; cases h
 | true =>
   rw [h2,if_neg (by simp)] at h
   rw [if_neg (by simp)]
   obtain ⟨ok,q1,q2,q3⟩:=q65 h1
   exact ⟨h1,rfl,rfl,((norm_sm q2 _ _ _ q3).2 h).le⟩
theorem q4d (s:Signature) (rs:List Equation) (a b:List Int) (fuel:Int) (hs:sm 1048576 s) (hr:sm 1048576 rs) (ha:sm 1048576 a) (hb:sm 1048576 b):Call F.q4d [.agg (enc s),slc rs,slc a,slc b,.int .i64 fuel] (.agg (enc (q93 s rs a b fuel))):=by
 have ca:=q2v s rs a fuel hs hr ha
 have cb:=q2v s rs b fuel hs hr hb
 obtain ⟨l⟩:=s
 have ca:Call F.q2v [.agg [slc l],slc rs,slc a,.int .i64 fuel] (.agg (enc (q2e ⟨l⟩ rs a fuel))):=ca
 have cb:Call F.q2v [.agg [slc l],slc rs,slc b,.int .i64 fuel] (.agg (enc (q2e ⟨l⟩ rs b fuel))):=cb
 show Call F.q4d [.agg [slc l],slc rs,slc a,slc b,.int .i64 fuel] _
 refine q0s rfl 0 ((q4d.ev _ _ _ _ _ _).trans ?_)
 simp only [evz,Nat.reduceLT,ca.eq,cb.eq,q2i,q93]
 by_cases h1:(q2e ⟨l⟩ rs a fuel).code=0
 case neg=>simp only [h1,evz,Nat.reduceLT,ne_eq,not_false_eq_true,q3d]
 by_cases h2:(q2e ⟨l⟩ rs b fuel).code=0
 case neg=>simp only [h1,h2,evz,Nat.reduceLT,ne_eq,not_true_eq_false,not_false_eq_true,q3d]
 have l1:=(normalFormR_term h1).2.2.2
 have heq:=(q0p (q2e ⟨l⟩ rs a fuel).term (q2e ⟨l⟩ rs b fuel).term ⟨by omega,fun _ _=>trivial⟩).eq
 by_cases h3:(q2e ⟨l⟩ rs a fuel).term=(q2e ⟨l⟩ rs b fuel).term
 · rw [decide_eq_true h3] at heq
   simp only [h1,h2,evz,Nat.reduceLT,ne_eq,not_true_eq_false,heq,q3d]
   rw [if_pos h3]
 · rw [decide_eq_false h3] at heq
   simp only [h1,h2,evz,Nat.reduceLT,ne_eq,not_true_eq_false,heq,q3d]
   rw [if_neg h3]
end Ev.Ty
end
section
namespace Ev.Ty
open Go Ev
open Enc (enc)
open Sm (sm)
set_option linter.unusedSimpArgs false
set_option linter.unusedVariables false
end Ev.Ty
end
section
namespace Ev.Ty
open Go Ev
open Enc (enc)
open Sm (sm)
set_option linter.unusedSimpArgs false
set_option linter.unusedVariables false
theorem cells_int_scalar (l:List Int):(cells l).all T.scalar=true:=by
 rw [← q67,List.all_eq_true]
 intro x hx
 obtain ⟨n,_,rfl⟩:=List.mem_map.1 hx
 rfl
theorem q2m (l:List Int) (h:l.length≤4294967296):Call F.q2m [slc l] (slc l):=by
 refine q0s rfl 0 ((q2m.ev _ _).trans ?_)
 have hb:Nat.ble ((0+(cells l).length)*8) (140737488355328*1)=true:=by
  rw [Nat.ble_eq,q0u,q3l]; omega
 rw [cells_int_scalar,hb]
 rfl
def eqOf (e:Entry):Equation:=⟨e.left,e.right⟩
section
variable (l:List Symbol) (z:Int) (tb:List (List Int)) (hs:l.length≤4294967296) (ht:sm 4294967296 tb)
include hs ht
end
end Ev.Ty
end
section
namespace Ev.Ty
open Go Ev
open Enc (enc)
open Sm (sm)
set_option linter.unusedSimpArgs false
set_option linter.unusedVariables false
theorem orderF_ok {l:List Symbol} {o:List Int} (h:q61 ⟨l⟩ o=0):q2o ⟨l⟩=0∧orderF l o=0:=by
 unfold q61 at h
 by_cases h1:q2o ⟨l⟩=0
 · rw [if_neg (by simpa using h1)] at h; exact ⟨h1,h⟩
 · rw [if_pos (by simpa using h1)] at h; exact absurd h h1
section
variable {l:List Symbol} {o:List Int} (ok:SigOk ⟨l⟩) (hol:o.length≤1048576) (ho:∀ n:Int,0≤n→n < l.length→n∈o)
include ok hol ho
end
end Ev.Ty
end
section
namespace Ev.Ty
section
variable {α:Type} {lt:α→α→Bool} {S:α→Prop}
variable (h1:∀ a b c,S a→S b→S c→lt a b=true→lt b c=true→lt a c=true) (h2:∀ a b c,S a→S b→S c→lt a b=true→lt c b=false→lt a c=true) (h3:∀ a b,S a→S b→lt a b=true→lt b a=false)
include h1 h2 h3
variable (h4:∀ a b,S a→S b→a=b∨lt a b=true∨lt b a=true)
include h4
end
end Ev.Ty
end
section
namespace Ev.Ty
open Go Ev
open Enc (enc)
open Sm (sm)
set_option linter.unusedSimpArgs false
set_option linter.unusedVariables false
set_option maxHeartbeats 1000000
def cmpV (l:List Symbol) (o a b:List Int):Int:=if a=b then 3 else if gt l o a b 0 0=true then 1 else if gt l o b a 0 0=true then 2 else 0
def cmpF (s:Signature) (o a b:List Int):Int:=if q61 s o=0 then if q4n s a=0 then q4n s b else q4n s a else q61 s o
theorem q68 {l:List Symbol} (h:q2o ⟨l⟩=0) (t:List Int):q4n ⟨l⟩ t=q2p l t:=by
 unfold q4n; rw [if_neg (by simpa using h)]
theorem cmpF_ok {l:List Symbol} {o a b:List Int} (h:cmpF ⟨l⟩ o a b=0):SigOk ⟨l⟩∧o.length≤1048576∧(∀ n:Int,0≤n→n < l.length→n∈o)∧TermOk l a∧TermOk l b:=by
 unfold cmpF at h
 by_cases h0:q61 ⟨l⟩ o=0
 · rw [if_pos h0] at h
   obtain ⟨h1,h2⟩:=orderF_ok h0
   rw [q68 h1,q68 h1] at h
   obtain ⟨p1,p2⟩:=orderOk h2
   have ok:=q6z h1
   have hls:l.length≤6:=ok.le
   by_cases ha:q2p l a=0
   · rw [if_pos ha] at h
     exact ⟨ok,by omega,p2,(q47 l a).1 ha,(q47 l b).1 h⟩
   · rw [if_neg ha] at h; exact absurd h ha
 · rw [if_neg h0] at h; exact absurd h h0
section
variable {l:List Symbol} {o:List Int} (ok:SigOk ⟨l⟩) (hol:o.length≤1048576) (ho:∀ n:Int,0≤n→n < l.length→n∈o)
include ok hol ho
theorem q5k {a b:List Int} (ha:TermOk l a) (hb:TermOk l b):Call F.q5k [.rref [slc l] 0,slc o,slc a,slc b] (.int .i64 (cmpV l o a b)):=by
 have h1:=ha.le
 refine q0s rfl 0 ((q5k.ev _ _ _ _ _).trans ?_)
 simp only [evz,Nat.reduceLT,(q1u a b ⟨by omega,fun _ _=>trivial⟩).eq,(q5w ok ha hb hol ho).eq,(q5w ok hb ha hol ho).eq,cmpV]
 by_cases e:a=b
 · simp [e]
 · cases e1:gt l o a b 0 0
   · cases e2:gt l o b a 0 0 <;> simp [e]
   · simp [e]
end
section
variable {l:List Symbol} {o:List Int} (ok:SigOk ⟨l⟩) (hol:o.length≤1048576) (ho:∀ n:Int,0≤n→n < l.length→n∈o)
include ok hol ho
end
end Ev.Ty
end
section
namespace Ev.Ty
open Go Ev
open Tm
set_option linter.unusedSimpArgs false
set_option linter.unusedVariables false
section
variable {l:List Symbol} (ok:SigOk ⟨l⟩) {o:List Int} (ho:∀ n:Int,0≤n→n < l.length→n∈o)
noncomputable def treeB (l:List Symbol) (t:List Int):Tm:=open Classical in if h:∃ x:Tm,x.ok (ar l)∧t=x.flat then h.choose else .v (-1)
noncomputable def subB (l:List Symbol) (vs:List Int) (ts:List (List Int)) (n:Int):Tm:=match q3i vs ts (-1 - n) with | some t=>treeB l t | none => .v n
include ok
theorem treeB_ok {t:List Int} (h:TermOk l t):(treeB l t).ok (ar l)∧t=(treeB l t).flat:=by
 have e:∃ x:Tm,x.ok (ar l)∧t=x.flat:=h.tree ok
 unfold treeB
 rw [dif_pos e]
 exact e.choose_spec
theorem subB_ok {vs:List Int} {ts:List (List Int)} (h:BindOk vs ts∧∀ t∈ts,TermOk l t) (n:Int) (hn:n < 0):(subB l vs ts n).ok (ar l):=by
 unfold subB
 cases e:q3i vs ts (-1 - n) with
 | none=>exact hn
 | some t=>exact (treeB_ok ok (h.2 t (q4z e))).1
theorem applied_inst {vs:List Int} {ts:List (List Int)} (h:BindOk vs ts∧∀ t∈ts,TermOk l t):∀ x:Tm,x.ok (ar l)→q1z vs ts x.flat=(x.inst (subB l vs ts)).flat:=by
 have hb:=h
 have one:∀ n:Int,0≤n→(q3i vs ts (-1 - n)).getD [n]=[n]:=fun n hn=>by rw [q90 hb.1 (by omega)]; rfl
 intro x
 induction x with
 | v n =>
   intro _
   show [n].flatMap _=(subB l vs ts n).flat
   rw [List.flatMap_cons,List.flatMap_nil,List.append_nil]
   unfold subB
   cases e:q3i vs ts (-1 - n) with
   | none=>rfl
   | some t=>exact (treeB_ok ok (hb.2 t (q4z e))).2
 | k n =>
   intro hx
   show [n].flatMap _=[n]
   rw [List.flatMap_cons,List.flatMap_nil,List.append_nil,one n hx.1]
 | u n x ih =>
   intro hx
   show (n::x.flat).flatMap _=n::(x.inst (subB l vs ts)).flat
   rw [List.flatMap_cons,one n hx.1,← ih hx.2.2]
   rfl
 | b n x y ihx ihy =>
   intro hx
   show (n::(x.flat++y.flat)).flatMap _=n::((x.inst (subB l vs ts)).flat++(y.inst (subB l vs ts)).flat)
   rw [List.flatMap_cons,one n hx.1,← ihx hx.2.2.1,← ihy hx.2.2.2,List.flatMap_append]
   rfl
omit ok in
theorem termOk_tree {t:List Int} {x:Tm} (hx:x.ok (ar l)) (e:t=x.flat) (hn:∀ n∈t,q4x l n=true) (hl:t.length≤24):TermOk l t:=by
 refine ⟨?_,hl,hn,?_⟩
 · rw [e]; exact x.flat_pos
 · have:=Tm.skip_flat (a:=ar l) (fun n hn=>ar_neg l hn) x [] 0 hx
   rw [e]; rwa [List.append_nil] at this
theorem applied_ok {vs:List Int} {ts:List (List Int)} (h:BindOk vs ts∧∀ t∈ts,TermOk l t) {a:List Int} (ha:TermOk l a) (hl:(q1z vs ts a).length≤24):TermOk l (q1z vs ts a):=by
 obtain ⟨x,hx,e⟩:=ha.tree ok
 refine termOk_tree (inst_ok (subB_ok ok h) hx) (by rw [e]; exact applied_inst ok h x hx) (fun n hn => ?_) hl
 obtain ⟨m,hm,hn⟩:=List.mem_flatMap.1 hn
 cases eb:q3i vs ts (-1 - m) with
 | none=>rw [eb] at hn; rw [List.mem_singleton.1 hn]; exact ha.node m hm
 | some t=>rw [eb] at hn; exact (h.2 t (q4z eb)).node n hn
include ho
end
end Ev.Ty
end
section
namespace Ev.Ty
open Go Ev
set_option linter.unusedSimpArgs false
set_option linter.unusedVariables false
theorem bindOf_cons (x:Int) (vs:List Int) (t:List Int) (ts:List (List Int)) (v:Int):q3i (x::vs) (t::ts) v=if x=v then some t else q3i vs ts v:=by
 unfold q3i idx
 rw [List.findIdx?_cons]
 by_cases h:x=v
 · simp [h]
 · simp only [h,decide_false,Bool.false_eq_true,if_false]
   cases e:vs.findIdx? (fun y=>decide (y=v)) with
   | none=>simp
   | some i =>
     have h1:¬ ((i+1:Nat):Int) < 0:=by omega
     have h2:¬ ((i:Nat):Int) < 0:=by omega
     simp only [Option.map_some,h1,h2,if_false,Int.toNat_natCast,List.getElem?_cons_succ]
theorem bindOf_ins {v:Int} {t:List Int} (w:Int):∀ (i:Nat) (vs:List Int) (ts:List (List Int)),vs.length=ts.length→i≤vs.length→v∉vs→q3i (ins vs i v) (ins ts i t) w=if v=w then some t else q3i vs ts w
 | 0,vs,ts,_,_,_=>bindOf_cons v vs t ts w
 | i+1,[],ts,_,hi,_=>by simp at hi
 | i+1,x::vs,[],hl,_,_=>by simp at hl
 | i+1,x::vs,y::ts,hl,hi,hv=>by
   have hx:¬ v=x:=fun e=>hv (by rw [e]; exact List.mem_cons_self ..)
   have ih:=bindOf_ins (t:=t) w i vs ts (by simpa using hl) (by simpa using hi) (fun h=>hv (List.mem_cons_of_mem _ h))
   show q3i (x::ins vs i v) (y::ins ts i t) w=_
   rw [bindOf_cons,bindOf_cons,ih]
   by_cases h:x=w
   · rw [if_pos h,if_pos h,if_neg (fun e=>hx (by rw [e,h]))]
   · rw [if_neg h,if_neg h]
theorem bindOf_put {b:Bnd} {v:Int} {t:List Int} (hl:b.1.length=b.2.length) (hv:v∉b.1) (w:Int):q3i (bput b v t).1 (bput b v t).2 w=if v=w then some t else q3i b.1 b.2 w :=
 bindOf_ins w _ _ _ hl (insAt_le b.1 v) hv
theorem notMem_of_none {vs:List Int} {ts:List (List Int)} (hl:vs.length=ts.length) {v:Int} (h:q3i vs ts v=none):v∉vs:=bindOf_none hl h
theorem mgo_sound {l:List Symbol} {t:List Int} (ht:TermOk l t) {r:List Int}:∀ (q:List Int) (b:Bnd) (p k:Nat),Both l t q p r→p≤t.length→MB l b k→k+q.length≤24→(∀ n∈q,q4x l n=true)→∀ x,mgo l t q b p=some x →
 p≤x.2∧x.2≤t.length∧(∃ k',MB l x.1 k'∧k'≤24)∧(∀ v o,q3i b.1 b.2 v=some o→q3i x.1.1 x.1.2 v=some o)∧q1z x.1.1 x.1.2 q=(t.drop p).take (x.2 - p)∧∀ n∈q,n < 0→∃ o,q3i x.1.1 x.1.2 (-1 - n)=some o
 | [],b,p,k,h,hp,hb,hk,hq,x,hx=>by
   cases hx
   exact ⟨Nat.le_refl _,hp,⟨k,hb,by simpa using hk⟩,fun _ _ h=>h,by simp [q1z],fun n hn=>by cases hn⟩
 | n::q,b,p,k,h,hp,hb,hk,hq,x,hx=>by
   have hlt:=h.lt
   obtain ⟨h6,h7,_⟩:=q2z ht hlt
   obtain ⟨s1,hs,_⟩:=q46 ht hlt
   rw [mgo,if_neg (by omega)] at hx
   rw [List.length_cons] at hk
   have hnode:=q4a.1 (hq n (by simp))
   have hq':∀ n∈q,q4x l n=true:=fun n hn=>hq n (List.mem_cons_of_mem _ hn)
   by_cases hn:0≤n
   · rw [if_pos hn] at hx
     split at hx
     · rename_i e
       obtain ⟨a1,a2,⟨k',mb,hk'⟩,a3,a4,a5⟩:=mgo_sound ht q b (p+1) (k+1) (h.node e) (by omega) (hb.up (by omega)) (by omega) hq' x hx
       refine ⟨by omega,a2,⟨k',mb,hk'⟩,a3,?_,fun m hm h0 => ?_⟩
       · show (n::q).flatMap _=_
         have e1:(q3i x.1.1 x.1.2 (-1 - n)).getD [n]=[n]:=by rw [q90 (mb.ok hk') (by omega)]; rfl
         have e2:t.drop p=n::t.drop (p+1):=by
          rw [List.drop_eq_getElem_cons hlt]
          rw [List.getD_eq_getElem?_getD,List.getElem?_eq_getElem hlt] at e
          have e:t[p]=n:=e
          rw [e]
         rw [List.flatMap_cons,e1,e2,show x.2 - p=(x.2 - (p+1))+1 by omega,List.take_succ_cons,← a4]
         rfl
       · rcases List.mem_cons.1 hm with rfl | hm
         · omega
         · exact a5 m hm h0
     · cases hx
   · rw [if_neg hn] at hx
     have glue:∀ z:Bnd × Nat,p+(subAt l t p).length≤z.2→z.2≤t.length→q3i z.1.1 z.1.2 (-1 - n)=some (subAt l t p)→q1z z.1.1 z.1.2 q=(t.drop (p+(subAt l t p).length)).take (z.2 - (p+(subAt l t p).length))→q1z z.1.1 z.1.2 (n::q)=(t.drop p).take (z.2 - p):=fun z g1 gt g2 g3=>by
      show (n::q).flatMap _=_
      rw [List.flatMap_cons,g2]
      show subAt l t p++q1z z.1.1 z.1.2 q=_
      have ee:t.drop p=subAt l t p++t.drop (p+(subAt l t p).length):=by rw [hs,show p+(endAt l t p - p)=endAt l t p by omega]; exact s1
      rw [ee,List.take_append,List.take_of_length_le (by omega:(subAt l t p).length≤z.2 - p),show z.2 - p - (subAt l t p).length=z.2 - (p+(subAt l t p).length) by omega,← g3]
     split at hx
     · rename_i hnone
       obtain ⟨a1,a2,⟨k',mb,hk'⟩,a3,a4,a5⟩:=mgo_sound ht q _ _ (k+1) (h.var ht (by omega)) (by omega) (hb.put (v := -1 - n) (by omega) (q6n ht hlt)) (by omega) hq' x hx
       have hput:=fun w=>bindOf_put (t:=subAt l t p) hb.len (notMem_of_none hb.len hnone) w
       have here:=a3 (-1 - n) (subAt l t p) (by rw [hput,if_pos rfl])
       refine ⟨by omega,a2,⟨k',mb,hk'⟩,fun v o hv=>a3 v o ?_,glue x a1 a2 here a4,fun m hm h0 => ?_⟩
       · rw [hput,if_neg (fun e=>by rw [← e,hnone] at hv; cases hv)]; exact hv
       · rcases List.mem_cons.1 hm with rfl | hm
         · exact ⟨_,here⟩
         · exact a5 m hm h0
     · rename_i o ho
       split at hx
       · rename_i e
         obtain ⟨a1,a2,⟨k',mb,hk'⟩,a3,a4,a5⟩:=mgo_sound ht q b _ (k+1) (h.var ht (by omega)) (by omega) (hb.up (by omega)) (by omega) hq' x hx
         have here:=a3 (-1 - n) o ho
         rw [e] at here
         refine ⟨by omega,a2,⟨k',mb,hk'⟩,a3,glue x a1 a2 here a4,fun m hm h0 => ?_⟩
         rcases List.mem_cons.1 hm with rfl | hm
         · exact ⟨_,here⟩
         · exact a5 m hm h0
       · cases hx
theorem match_sound {l:List Symbol} {q t:List Int} (hq:TermOk l q) (ht:TermOk l t) {p:Nat} (hp:p < t.length) {b:Bnd} (h:q44 l q t p=some b) :
 q1z b.1 b.2 q=subAt l t p∧∀ n∈q,n < 0→∃ o,q3i b.1 b.2 (-1 - n)=some o:=by
 unfold q44 at h
 rw [Option.map_eq_some_iff] at h
 obtain ⟨x,hx,rfl⟩:=h
 have hB:=Both.start ht hq hp
 obtain ⟨e1,e2,_⟩:=mgo_end ht q ([],[]) p 0 hB (by omega) (MB.nil l) (by have:=hq.le; omega) hq.node x hx
 obtain ⟨a1,a2,_,_,a4,a5⟩:=mgo_sound ht q ([],[]) p 0 hB (by omega) (MB.nil l) (by have:=hq.le; omega) hq.node x hx
 obtain ⟨h6,h7,_⟩:=q2z ht hp
 have he:x.2=endAt l t p:=by
  have:=congrArg List.length e1
  rw [List.length_drop,List.length_drop] at this
  omega
 refine ⟨?_,a5⟩
 rw [a4,he]
 unfold subAt
 rw [List.drop_take]
theorem replAt_same {l:List Symbol} {t:List Int} (ht:TermOk l t) {p:Nat} (hp:p < t.length):q4u l t p (subAt l t p)=t:=by
 unfold q4u
 rw [List.append_assoc,← (q46 ht hp).1,List.take_append_drop]
end Ev.Ty
end
section
namespace Ev.Ty
open Go Ev
set_option linter.unusedSimpArgs false
set_option linter.unusedVariables false
theorem idx_congr {α:Type} {p q:α→Bool}:∀ {xs:List α},(∀ x∈xs,p x=q x)→idx p xs=idx q xs:=by
 intro xs h
 have:xs.findIdx? p=xs.findIdx? q:=by
  induction xs with
  | nil=>rfl
  | cons x xs ih =>
    rw [List.findIdx?_cons,List.findIdx?_cons,h x (List.mem_cons_self ..),ih fun y hy=>h y (List.mem_cons_of_mem _ hy)]
 unfold idx
 rw [this]
section
variable {l:List Symbol} {rs:List Equation}
theorem redex_best (t:List Int):IsBest (endAt l t) (fits l rs t) 0 t.length (redex l rs t) :=
 down_best _ _ t.length t.length (-1,-1) (Nat.le_refl _) (.inl ⟨rfl,fun a h1 h2=>by omega⟩)
theorem normal_iff {t:List Int}:(redex l rs t).1 < 0↔∀ a,a < t.length→fits l rs t a < 0:=by
 rcases redex_best (l:=l) (rs:=rs) t with ⟨h,hn⟩ | ⟨a,_,ha,h,hf,_⟩
 · rw [h]; exact ⟨fun _ a ha=>hn a (Nat.zero_le _) ha,fun _=>by decide⟩
 · rw [h]
   refine ⟨fun h => ?_,fun h => ?_⟩
   · simp only at h; omega
   · have:=h a ha; omega
variable (hr:∀ e∈rs,EqOk l e)
include hr
omit hr in
theorem matchAt_in {q t:List Int} (hq:TermOk l q) (ht:TermOk l t) {p:Nat} (hp:p < t.length) {i:Nat} (hi:i < (subAt l t p).length):q44 l q (subAt l t p) i=q44 l q t (p+i):=by
 obtain ⟨h1,_,_,h4⟩:=sub_place ht hp hi
 rw [← q9k hq (q6n ht hp) hi,h4,q9k hq ht h1]
theorem fits_sub {t:List Int} (ht:TermOk l t) {p:Nat} (hp:p < t.length) {i:Nat} (hi:i < (subAt l t p).length):fits l rs (subAt l t p) i=fits l rs t (p+i) :=
 idx_congr fun e he=>by rw [matchAt_in (hr e he).left ht hp hi]
theorem redex_inner {t:List Int} (ht:TermOk l t) (h:¬ (redex l rs t).1 < 0):∃ a k:Nat,∃ _:k < rs.length,redex l rs t=((a:Int),(k:Int))∧a < t.length∧(q44 l rs[k].left t a).isSome=true ∧
 ¬ (redex l rs (subAt l t a)).1 < 0∧∀ i,0 < i→i < (subAt l t a).length→(redex l rs (subAt l (subAt l t a) i)).1 < 0:=by
 rcases redex_best (l:=l) (rs:=rs) t with ⟨e,_⟩ | ⟨a,_,ha,e,hf,hbest⟩
 · rw [e] at h; exact absurd (by decide) h
 have hsub:=q6n ht ha
 have hs0:0 < (subAt l t a).length:=hsub.pos
 have f0:=fits_sub hr ht ha hs0
 rw [Nat.add_zero] at f0
 have hspec:=q6m (fun e:Equation=>(q44 l e.left t a).isSome) rs
 obtain ⟨k,hk,ek,hm⟩:∃ k,∃ h:k < rs.length,fits l rs t a=(k:Nat)∧(q44 l rs[k].left t a).isSome=true:=by
  rcases hspec with ⟨h1,_⟩ | h2
  · unfold fits at hf; rw [h1] at hf; omega
  · obtain ⟨k,hk,e1,e2,_⟩:=h2
    exact ⟨k,hk,e1,e2⟩
 refine ⟨a,k,hk,by rw [e,ek],ha,hm,fun hn => ?_,fun i hi0 hi=>normal_iff.2 fun q hq => ?_⟩
 · have:=normal_iff.1 hn 0 hs0
   omega
 · obtain ⟨s1,_,s3,s4⟩:=sub_place ht ha hi
   rw [s4] at hq ⊢
   rw [fits_sub hr ht s1 hq]
   apply Classical.byContradiction
   intro hge
   obtain ⟨p1,_,p3,_⟩:=sub_place ht s1 hq
   have hb:=hbest (a+i+q) (Nat.zero_le _) p1 (by omega)
   obtain ⟨_,hlen,_⟩:=q46 ht ha
   obtain ⟨_,hlen2,_⟩:=q46 ht s1
   obtain ⟨g1,g2,_⟩:=q2z ht ha
   obtain ⟨g3,g4,_⟩:=q2z ht s1
   have he1:=(q2z hsub hi).2.1
   have he2:=(q2z (q6n ht s1) hq).2.1
   omega
end
section
variable {l:List Symbol} {rs:List Equation}
theorem q7n {t:List Int} (h:(redex l rs t).1 < 0) (m k:Nat):norm l rs m k t=⟨0,t,k⟩:=by
 cases m <;> (unfold norm; rw [if_pos h])
theorem norm_end:∀ (m k:Nat) (t:List Int),(norm l rs m k t).code=0→∃ s u,s≤m∧norm l rs m k t=⟨0,u,((k+s:Nat):Int)⟩∧(redex l rs u).1 < 0∧norm l rs s k t=⟨0,u,((k+s:Nat):Int)⟩∧(0 < s→(norm l rs (s - 1) k t).code=9)∧(s=0→u=t)
 | 0,k,t,h=>by
   unfold norm at h
   by_cases hn:(redex l rs t).1 < 0
   · exact ⟨0,t,Nat.le_refl _,q7n hn 0 k,hn,q7n hn 0 k,fun h=>by omega,fun _=>rfl⟩
   · rw [if_neg hn] at h; cases h
 | m+1,k,t,h=>by
   by_cases hn:(redex l rs t).1 < 0
   · exact ⟨0,t,Nat.zero_le _,q7n hn _ k,hn,q7n hn 0 k,fun h=>by omega,fun _=>rfl⟩
   · have step:∀ n,norm l rs (n+1) k t=if (q69 l (rs.getD (redex l rs t).2.toNat ⟨[],[]⟩) t (redex l rs t).1.toNat).code≠0 then ⟨(q69 l (rs.getD (redex l rs t).2.toNat ⟨[],[]⟩) t (redex l rs t).1.toNat).code,[],0⟩
      else norm l rs n (k+1) (q69 l (rs.getD (redex l rs t).2.toNat ⟨[],[]⟩) t (redex l rs t).1.toNat).term:=fun n=>by rw [norm,if_neg hn]
     rw [step] at h
     by_cases hc:(q69 l (rs.getD (redex l rs t).2.toNat ⟨[],[]⟩) t (redex l rs t).1.toNat).code≠0
     · rw [if_pos hc] at h; exact absurd h hc
     · rw [if_neg hc] at h
       obtain ⟨s,u,h1,h2,h3,h4,h5,h6⟩:=norm_end m (k+1) _ h
       refine ⟨s+1,u,by omega,?_,h3,?_,fun _ => ?_,fun h=>by omega⟩
       · rw [step,if_neg hc,h2]; congr 2; omega
       · rw [step,if_neg hc,h4]; congr 2; omega
       · rw [Nat.add_sub_cancel]
         cases s with
         | zero=>unfold norm; rw [if_neg hn]
         | succ s=>rw [step,if_neg hc]; exact h5 (by omega)
end
end Ev.Ty
end
section
namespace Ev.Ty
open Go Ev
open Enc (enc)
open Sm (sm)
set_option linter.unusedSimpArgs false
set_option linter.unusedVariables false
def rise (n:Nat):List Int:=(List.range n).map fun (i:Nat)=>(i:Int)
theorem rise_succ (n:Nat):rise (n+1)=rise n++[(n:Int)]:=by simp [rise,List.range_succ]
theorem q9g (n:Nat):(rise n).length=n:=by simp [rise]
theorem rise_loop {n:Nat} {S:Nat→Nat→List Int→R} {z:List Int→R} (step:∀ m k,k < n→S (m+1) k (rise k)=S m (k+1) (rise (k+1))) (stop:∀ m,S (m+1) n (rise n)=z (rise n)) {f:Nat} (hf:n < f) :
 S f 0 []=z (rise n):=by
 have:∀ m k,k≤n→n < m+k→S m k (rise k)=z (rise n):=by
  intro m
  induction m with
  | zero=>intros; omega
  | succ m ih =>
    intro k hk hm
    by_cases h:k < n
    · rw [step m k h]; exact ih (k+1) (by omega) (by omega)
    · obtain rfl:k=n:=by omega
      exact stop m
 exact this f 0 (by omega) (by omega)
theorem q29 (n:Nat) (hs:n≤1048576):Call F.q29 [.int .i64 n] (slc (rise n)):=by
 refine q0s rfl (n+1) ((q29.ev _ _).trans ?_)
 refine rise_loop (n:=n) (S:=fun m k o=>q29.at0 (n+1) m (q29.st0 n (k:Nat) (cells o))) (z:=fun o=>some (slc o,[])) (fun m k h => ?_) (fun m => ?_) (by omega)
 · simp only [q29.next0,q29.round0,evz,Nat.reduceLT,h,q0u,q9g,q3l,q2j,← rise_succ]
   rw [q0m (by omega),q26 (q3s (by omega))]
 · simp only [q29.next0,q29.round0,evz,Nat.reduceLT,Nat.lt_irrefl]
def lcg (s:Int):Int:=(227*s+1) % 65521
theorem lcg_in (s:Int):0≤lcg s∧lcg s≤65520:=by unfold lcg; omega
theorem lcg_eq {s:Int} (h:0≤s∧s≤65520):Int.tmod (IntKind.wrap .i64 (IntKind.wrap .i64 (227*s)+1)) 65521=lcg s:=by
 rw [q27 (x:=227*s) (by omega),q27 (by omega),Int.tmod_eq_emod_of_nonneg (by omega)]; rfl
def draws (z:Int):Nat→Int→List Int→Int × List Int
 | 0,s,t=>(s,t)
 | n+1,s,t=>draws z n (lcg s) (t++[lcg s % z])
theorem draws_in (z:Int):∀ n s t,0≤s∧s≤65520→(0≤(draws z n s t).1∧(draws z n s t).1≤65520)∧(draws z n s t).2.length=t.length+n
 | 0,s,t,h=>⟨h,rfl⟩
 | n+1,s,t,h=>by
   have:=draws_in z n (lcg s) (t++[lcg s % z]) (lcg_in s)
   refine ⟨this.1,this.2.trans ?_⟩
   simp; omega
theorem draws_loop {z:Int} {c:Nat} {S:Nat→Nat→Int→List Int→R} {y:Int→List Int→R}
 (step:∀ m j s t,j < c→0≤s∧s≤65520→t.length=j→S (m+1) j s t=S m (j+1) (lcg s) (t++[lcg s % z]))
 (stop:∀ m s t,0≤s∧s≤65520→t.length=c→S (m+1) c s t=y s t) {f:Nat} (hf:c < f) (s:Int) (hs:0≤s∧s≤65520) :
 S f 0 s []=y (draws z c s []).1 (draws z c s []).2:=by
 have:∀ n m j s t,j+n=c→n < m→0≤s∧s≤65520→t.length=j→S m j s t=y (draws z n s t).1 (draws z n s t).2:=by
  intro n
  induction n with
  | zero=>intro m j s t hj hm hs ht
          obtain ⟨m,rfl⟩:∃ q,m=q+1:=⟨m - 1,by omega⟩
          obtain rfl:j=c:=by omega
          exact stop m s t hs ht
  | succ n ih =>
    intro m j s t hj hm hs ht
    obtain ⟨m,rfl⟩:∃ q,m=q+1:=⟨m - 1,by omega⟩
    rw [step m j s t (by omega) hs ht]
    exact ih m (j+1) _ _ (by omega) (by omega) (lcg_in s) (by simp [ht])
 exact this c f 0 s [] (by omega) hf hs rfl
def tabStep (z:Nat) (p:Int × List (List Int)) (x:Symbol):Int × List (List Int):=((draws z (z ^ x.arity.toNat) p.1 []).1,p.2++[(draws z (z ^ x.arity.toNat) p.1 []).2])
def q6r (s:Signature) (z seed:Int):AlgebraResult :=
 if q2o s=0 then if inR z 1 3=true∧inR seed 0 65520=true then ⟨0,⟨z,(s.symbols.foldl (tabStep z.toNat) (seed,[])).2⟩⟩ else ⟨3,⟨0,[]⟩⟩ else ⟨q2o s,⟨0,[]⟩⟩
def tabI (k:Nat) (p:Int × List (List Int)):Prop:=(0≤p.1∧p.1≤65520)∧p.2.length=k∧∀ t∈p.2,t.length≤9
theorem pow_le9 {z r:Nat} (hz:z≤3) (hr:r≤2):z ^ r≤9:=Nat.le_trans (Nat.pow_le_pow_left hz r) (Nat.le_trans (Nat.pow_le_pow_right (by omega) hr) (by decide))
theorem tabI_step {z:Nat} (hz:z≤3) {x:Symbol} (hx:0≤x.arity∧x.arity≤2) {k:Nat} {p:Int × List (List Int)} (h:tabI k p):tabI (k+1) (tabStep z p x):=by
 obtain ⟨h1,h2,h3⟩:=h
 have hd:=draws_in z (z ^ x.arity.toNat) p.1 [] h1
 have h9:=pow_le9 (r:=x.arity.toNat) hz (by omega)
 refine ⟨hd.1,by simp [tabStep,h2],fun t ht => ?_⟩
 rcases List.mem_append.1 ht with h | h
 · exact h3 t h
 · rw [List.mem_singleton] at h
   subst h
   rw [hd.2]; simp; omega
theorem tabI_zero {seed:Int} (h:0≤seed∧seed≤65520):tabI 0 (seed,[]):=⟨h,rfl,by simp⟩
theorem algebraOfR_sm (s:Signature) (z seed:Int) (hs:sm 1048576 s):sm 67108864 (q6r s z seed):=by
 unfold q6r
 have h:=hs.1
 split
 · rename_i h0
   split
   · rename_i h1
     have hz:=q6i.1 h1.1
     have hz3:z.toNat≤3:=by omega
     have hi:=fold_inv (l:=s.symbols) (g:=tabStep z.toNat) tabI (fun k p hk hp=>tabI_step hz3 (((q60 s).1 h0).arity _ (List.getElem_mem hk)) hp) (seed,[]) (tabI_zero (q6i.1 h1.2))
     exact ⟨Nat.le_trans (Nat.le_of_eq hi.2.1) (by omega),fun t ht=>⟨by have:=hi.2.2 t ht; omega,fun _ _=>trivial⟩⟩
   · exact ⟨by simp,by simp⟩
 · exact ⟨by simp,by simp⟩
theorem q0h (s:Signature) (z seed:Int) (hs:sm 1048576 s):Call F.q0h [.agg [slc s.symbols],.int .i64 z,.int .i64 seed] (.agg (enc (q6r s z seed))):=by
 obtain ⟨l⟩:=s
 have hl:l.length≤1048576:=hs.1
 refine q0s rfl (l.length+10) ((q0h.ev _ _ _ _).trans ?_)
 simp only [evz,Nat.reduceLT,(q04 l (by omega)).eq,(q2u _ _ _).eq,q6r]
 by_cases h0:q2o ⟨l⟩=0
 case neg=>simp only [h0,evz,Nat.reduceLT,q5q,q80,Bool.not_false]
 simp only [h0,evz,Nat.reduceLT,Bool.not_true]
 cases h1:inR z 1 3 with
 | false=>simp only [evz,Nat.reduceLT,q5q,q80,Bool.not_false,false_and,Bool.false_eq_true]
 | true =>
   cases h2:inR seed 0 65520 with
   | false=>simp only [evz,Nat.reduceLT,q5q,q80,Bool.not_false,and_false,Bool.false_eq_true,Bool.not_true]
   | true =>
     simp only [evz,Nat.reduceLT,Bool.not_true,and_self]
     have hz:=q6i.1 h1
     have hseed:=q6i.1 h2
     obtain ⟨z,rfl⟩:∃ n:Nat,z=n:=⟨z.toNat,by omega⟩
     have ok:=(q60 _).1 h0
     have hz3:z≤3:=by omega
     have key:=fold_loop (l:=l) (f:=l.length+10) (S:=fun m k (p:Int × List (List Int))=>q0h.at0 (l.length+10) m (q0h.st0 z p.1 (cells l) l.length (k:Nat) 0 0 z (cells p.2))) (g:=tabStep z) (z:=fun (p:Int × List (List Int))=>some (.agg (enc (⟨0,⟨z,p.2⟩⟩:AlgebraResult)),[])) tabI (fun m k p h hp => ?_) (fun k p h hp=>tabI_step hz3 (ok.arity _ (List.getElem_mem h)) hp) (fun m p hp => ?_) (seed,[]) (tabI_zero hseed) (by omega)
     · exact key
     · have hx:=ok.arity _ (List.getElem_mem h)
       have h9:=pow_le9 (z:=z) (r:=l[k].arity.toNat) (by omega) (by omega)
       have hpw:=(q2g z l[k].arity.toNat (by omega) (by omega)).eq
       rw [Int.toNat_of_nonneg hx.1] at hpw
       simp only [q0h.next0,q0h.round0,evz,Nat.reduceLT,h,List.getElem?_eq_getElem,q28,hpw]
       refine draws_loop (z:=z) (c:=z ^ l[k].arity.toNat) (S:=fun m' j s t=>q0h.at2 (l.length+10) (q0h.at0 (l.length+10) m) m' (q0h.st2 z s (cells l) l.length (k:Nat) ((z ^ l[k].arity.toNat:Nat):Int) (j:Nat) 0 0 z (cells p.2) (cells t)))
        (y:=fun s t=>q0h.at0 (l.length+10) m (q0h.st0 z s (cells l) l.length ((k+1:Nat):Int) 0 0 z (cells (p.2++[t])))) (fun m' j s t hj hs ht => ?_) (fun m' s t hs ht => ?_) (by omega) p.1 hp.1
       · have hz0:¬ ((z:Int)=0):=by omega
         simp only [q0h.next2,q0h.round2,evz,Nat.reduceLT,hj,hz0,lcg_eq hs,q0u,ht]
         rw [q26 (q3s (by omega)),Int.tmod_eq_emod_of_nonneg (lcg_in s).1,q2j,q0m (by omega)]
       · have:=hp.2.1
         simp only [q0h.next2,q0h.round2,evz,Nat.reduceLT,Nat.lt_irrefl,q0u,hp.2.1]
         rw [q26 (q3s (by omega)),q5p,q0m (by omega)]
     · simp only [q0h.next0,q0h.round0,evz,Nat.reduceLT,Nat.lt_irrefl,q5q]
end Ev.Ty
end
section
namespace Ev.Ty
open Go Ev
set_option linter.unusedSimpArgs false
set_option linter.unusedVariables false
theorem digs_all {z:Nat} (hz:0 < z):∀ (k:Nat) (vs:List Int),vs.length=k→(∀ n∈vs,0≤n∧n≤(z:Int) - 1)→∃ n,n < z ^ k∧digs z k n=vs
 | 0,[],_,_=>⟨0,by simp,rfl⟩
 | 0,x::vs,h,_=>by simp at h
 | k+1,[],h,_=>by simp at h
 | k+1,x::vs,h,hr=>by
   obtain ⟨n,hn,e⟩:=digs_all hz k vs (by simpa using h) (fun n hn=>hr n (List.mem_cons_of_mem _ hn))
   have hx:=hr x (List.mem_cons_self ..)
   have hmod:(x.toNat+z*n) % z=x.toNat:=by rw [Nat.add_mul_mod_self_left]; exact Nat.mod_eq_of_lt (by omega)
   have hdiv:(x.toNat+z*n) / z=n:=by rw [Nat.add_mul_div_left _ _ hz,Nat.div_eq_of_lt (by omega),Nat.zero_add]
   refine ⟨x.toNat+z*n,?_,?_⟩
   · rw [Nat.pow_succ]
     have:z*n+z≤z*z ^ k:=by rw [← Nat.mul_succ]; exact Nat.mul_le_mul_left _ hn
     rw [Nat.mul_comm (z ^ k)]; omega
   · rw [digs,hmod,hdiv,e,show ((x.toNat:Nat):Int)=x by omega]
theorem holds_eval {l:List Symbol} {z:Nat} {tb:List (List Int)} {e:Equation} (hz:0 < z) (h:holdsB l z tb e=true) {vs:List Int} (h6:vs.length=6) (hr:∀ n∈vs,0≤n∧n≤(z:Int) - 1) :
 (q45 l e.left).eval z tb vs=(q45 l e.right).eval z tb vs:=by
 obtain ⟨n,hn,rfl⟩:=digs_all hz 6 vs h6 hr
 unfold holdsB at h
 rw [Bool.not_eq_true',List.any_eq_false] at h
 have:=h n (List.mem_range.2 hn)
 unfold differ at this
 simpa using this
theorem eval_inst {z:Int} {tb:List (List Int)} {vs vs':List Int} {σ:Int→Tm}:∀ x:Tm,(∀ n∈x.flat,n < 0→vs'.getD (-1 - n).toNat 0=(σ n).eval z tb vs)→(a:Int→Nat)→x.ok a→(x.inst σ).eval z tb vs=x.eval z tb vs'
 | .v n,h,a,hx=>(h n (List.mem_singleton.2 rfl) hx).symm
 | .k n,h,a,hx=>rfl
 | .u n x,h,a,hx=>by
   show (tb.getD n.toNat []).getD ((x.inst σ).eval z tb vs).toNat 0=_
   rw [eval_inst x (fun m hm=>h m (List.mem_cons_of_mem _ hm)) a hx.2.2]
   rfl
 | .b n x y,h,a,hx=>by
   show (tb.getD n.toNat []).getD ((x.inst σ).eval z tb vs*z+(y.inst σ).eval z tb vs).toNat 0=_
   rw [eval_inst x (fun m hm=>h m (List.mem_cons_of_mem _ (List.mem_append_left _ hm))) a hx.2.2.1,eval_inst y (fun m hm=>h m (List.mem_cons_of_mem _ (List.mem_append_right _ hm))) a hx.2.2.2]
   rfl
theorem place_eval {z:Int} {tb:List (List Int)} {vs:List Int} {a:Int→Nat}:∀ (x:Tm) (q:Nat),x.ok a→q < x.flat.length→∃ (y:Tm) (C:Tm→Tm),y.ok a∧(∃ rest,x.flat.drop q=y.flat++rest) ∧
 (∀ u:Tm,u.ok a→(C u).ok a∧(C u).flat=x.flat.take q++u.flat++x.flat.drop (q+y.flat.length))∧∀ u v:Tm,u.eval z tb vs=v.eval z tb vs→(C u).eval z tb vs=(C v).eval z tb vs:=by
 have here:∀ x:Tm,x.ok a→∃ (y:Tm) (C:Tm→Tm),y.ok a∧(∃ rest,x.flat.drop 0=y.flat++rest) ∧
  (∀ u:Tm,u.ok a→(C u).ok a∧(C u).flat=x.flat.take 0++u.flat++x.flat.drop (0+y.flat.length))∧∀ u v:Tm,u.eval z tb vs=v.eval z tb vs→(C u).eval z tb vs=(C v).eval z tb vs:=fun x hx =>
  ⟨x,id,hx,⟨[],by simp⟩,fun u hu=>⟨hu,by simp⟩,fun u v h=>h⟩
 intro x
 induction x with
 | v n=>intro q hx hq; have:q=0:=by simp [Tm.flat] at hq; omega
        subst this; exact here _ hx
 | k n=>intro q hx hq; have:q=0:=by simp [Tm.flat] at hq; omega
        subst this; exact here _ hx
 | u n x ih =>
   intro q hx hq
   match q,hq with
   | 0,_=>exact here _ hx
   | q+1,hq =>
     obtain ⟨y,C,h1,⟨rest,h2⟩,h3,h4⟩:=ih q hx.2.2 (by simp only [Tm.flat,List.length_cons] at hq; omega)
     refine ⟨y,fun w => .u n (C w),h1,⟨rest,h2⟩,fun w hw=>⟨⟨hx.1,hx.2.1,(h3 w hw).1⟩,?_⟩,fun w v h => ?_⟩
     · show n::(C w).flat=(n::x.flat).take (q+1)++w.flat++(n::x.flat).drop (q+1+y.flat.length)
       rw [(h3 w hw).2,Nat.add_right_comm]
       rfl
     · show (tb.getD n.toNat []).getD ((C w).eval z tb vs).toNat 0=(tb.getD n.toNat []).getD ((C v).eval z tb vs).toNat 0
       rw [h4 w v h]
 | b n x w0 ihx ihz =>
   intro q hx hq
   match q,hq with
   | 0,_=>exact here _ hx
   | q+1,hq =>
     simp only [Tm.flat,List.length_cons,List.length_append] at hq
     by_cases hl:q < x.flat.length
     · obtain ⟨y,C,h1,⟨rest,h2⟩,h3,h4⟩:=ihx q hx.2.2.1 hl
       have hy:q+y.flat.length≤x.flat.length:=by
        have:=congrArg List.length h2
        rw [List.length_drop,List.length_append] at this
        have:=y.flat_pos
        omega
       refine ⟨y,fun w => .b n (C w) w0,h1,⟨rest++w0.flat,?_⟩,fun w hw=>⟨⟨hx.1,hx.2.1,(h3 w hw).1,hx.2.2.2⟩,?_⟩,fun w v h => ?_⟩
       · show (x.flat++w0.flat).drop q=_
         rw [List.drop_append_of_le_length (by omega),h2,List.append_assoc]
       · show n::((C w).flat++w0.flat)=(n::(x.flat++w0.flat)).take (q+1)++w.flat++(n::(x.flat++w0.flat)).drop (q+1+y.flat.length)
         rw [(h3 w hw).2,Nat.add_right_comm]
         show n::(x.flat.take q++w.flat++x.flat.drop (q+y.flat.length)++w0.flat)=n::((x.flat++w0.flat).take q++w.flat++(x.flat++w0.flat).drop (q+y.flat.length))
         rw [List.take_append_of_le_length (by omega),List.drop_append_of_le_length hy]
         simp
       · show (tb.getD n.toNat []).getD ((C w).eval z tb vs*z+w0.eval z tb vs).toNat 0=(tb.getD n.toNat []).getD ((C v).eval z tb vs*z+w0.eval z tb vs).toNat 0
         rw [h4 w v h]
     · obtain ⟨y,C,h1,⟨rest,h2⟩,h3,h4⟩:=ihz (q - x.flat.length) hx.2.2.2 (by omega)
       refine ⟨y,fun w => .b n x (C w),h1,⟨rest,?_⟩,fun w hw=>⟨⟨hx.1,hx.2.1,hx.2.2.1,(h3 w hw).1⟩,?_⟩,fun w v h => ?_⟩
       · show (x.flat++w0.flat).drop q=_
         rw [List.drop_append,List.drop_eq_nil_of_le (by omega),h2]
         rfl
       · show n::(x.flat++(C w).flat)=(n::(x.flat++w0.flat)).take (q+1)++w.flat++(n::(x.flat++w0.flat)).drop (q+1+y.flat.length)
         rw [(h3 w hw).2,Nat.add_right_comm]
         show n::(x.flat++(w0.flat.take (q - x.flat.length)++w.flat++w0.flat.drop (q - x.flat.length+y.flat.length)))=n::((x.flat++w0.flat).take q++w.flat++(x.flat++w0.flat).drop (q+y.flat.length))
         rw [List.take_append,List.drop_append,List.take_of_length_le (by omega:x.flat.length≤q),List.drop_eq_nil_of_le (by omega:x.flat.length≤q+y.flat.length),show q+y.flat.length - x.flat.length=q - x.flat.length+y.flat.length by omega]
         simp
       · show (tb.getD n.toNat []).getD (x.eval z tb vs*z+(C w).eval z tb vs).toNat 0=(tb.getD n.toNat []).getD (x.eval z tb vs*z+(C v).eval z tb vs).toNat 0
         rw [h4 w v h]
section
variable {l:List Symbol} (ok:SigOk ⟨l⟩)
include ok
theorem treeOf_eq {t:List Int} {x:Tm} (ht:TermOk l t) (hx:x.ok (ar l)) (e:t=x.flat):q45 l t=x:=by
 obtain ⟨h1,h2⟩:=q76 ok ht
 exact (flat_iff h1 hx).1 (h2.symm.trans e)
theorem treeB_eq {t:List Int} (ht:TermOk l t):treeB l t=q45 l t:=by
 obtain ⟨h1,h2⟩:=treeB_ok ok ht
 exact (treeOf_eq ok ht h1 h2).symm
theorem place_value {z:Int} {tb:List (List Int)} {vs:List Int} {t u w:List Int} (ht:TermOk l t) (hu:TermOk l u) (hw:TermOk l w) {p:Nat} (hp:p < t.length) (hru:TermOk l (q4u l t p u)) (hrw:TermOk l (q4u l t p w))
 (h:(q45 l u).eval z tb vs=(q45 l w).eval z tb vs):(q45 l (q4u l t p u)).eval z tb vs=(q45 l (q4u l t p w)).eval z tb vs:=by
 obtain ⟨x,hx,ex⟩:=ht.tree ok
 obtain ⟨u1,u2⟩:=q76 ok hu
 obtain ⟨w1,w2⟩:=q76 ok hw
 obtain ⟨y,C,h1,⟨rest,h2⟩,h3,h4⟩:=place_eval (z:=z) (tb:=tb) (vs:=vs) x p hx (by rw [← ex]; exact hp)
 have hat:At l t p y:=⟨h1,rest,by rw [ex]; exact h2⟩
 have he:=hat.facts.2.2.1
 have eu:q4u l t p u=(C (q45 l u)).flat:=by unfold q4u; rw [(h3 _ u1).2,he,ex,← u2]
 have ew:q4u l t p w=(C (q45 l w)).flat:=by unfold q4u; rw [(h3 _ w1).2,he,ex,← w2]
 rw [treeOf_eq ok hru (h3 _ u1).1 eu,treeOf_eq ok hrw (h3 _ w1).1 ew]
 exact h4 _ _ h
noncomputable def valsOf (l:List Symbol) (z:Int) (tb:List (List Int)) (vs:List Int) (b:Bnd) (q:List Int):List Int:=(List.range 6).map fun (i:Nat)=>open Classical in if (-1 - (i:Int))∈q then (subB l b.1 b.2 (-1 - (i:Int))).eval z tb vs else vs.getD i 0
omit ok in
theorem valsOf_length (z:Int) (tb:List (List Int)) (vs:List Int) (b:Bnd) (q:List Int):(valsOf l z tb vs b q).length=6:=by unfold valsOf; simp
omit ok in
theorem valsOf_at {z:Int} {tb:List (List Int)} {vs:List Int} {b:Bnd} {q:List Int} {n:Int} (hn:n∈q) (h0:n < 0) (h6 : -6≤n):(valsOf l z tb vs b q).getD (-1 - n).toNat 0=(subB l b.1 b.2 n).eval z tb vs:=by
 unfold valsOf
 have hi:(-1 - n).toNat < 6:=by omega
 rw [List.getD_eq_getElem?_getD,List.getElem?_map,List.getElem?_range hi]
 show (if _ then _ else _)=_
 have e:(-1 - (((-1 - n).toNat:Nat):Int))=n:=by omega
 rw [e,if_pos hn]
theorem applied_value {z:Int} {tb:List (List Int)} {vs:List Int} {b:Bnd} (hb:BindOk b.1 b.2∧∀ t∈b.2,TermOk l t) {q r:List Int} (hr:TermOk l r) (hq:∀ n∈r,n < 0→n∈q ∧ -6≤n) (hl:(q1z b.1 b.2 r).length≤24) :
 (q45 l (q1z b.1 b.2 r)).eval z tb vs=(q45 l r).eval z tb (valsOf l z tb vs b q):=by
 obtain ⟨h1,h2⟩:=q76 ok hr
 have e:=applied_inst ok hb _ h1
 rw [← h2] at e
 rw [treeOf_eq ok (applied_ok ok hb hr hl) (Tm.inst_ok (subB_ok ok hb) h1) e]
 refine eval_inst _ (fun n hn h0 => ?_) (ar l) h1
 rw [← h2] at hn
 exact valsOf_at (hq n hn h0).1 h0 (hq n hn h0).2
theorem low_tree {t:List Int} (ht:TermOk l t) (h:∀ n∈t,-6≤n):(q45 l t).low 6∧(q45 l t).syms l.length∧(q45 l t).ok (ar l):=by
 obtain ⟨h1,h2⟩:=q76 ok ht
 exact ⟨Tm.low_of (by rw [← h2]; exact h),Tm.syms_of h1 (by rw [← h2]; exact ht.node),h1⟩
theorem step_value {z:Nat} {tb:List (List Int)} (al:AlgOk l z tb) (hz:0 < z) {vs:List Int} (h6:vs.length=6) (hv:∀ n∈vs,0≤n∧n≤(z:Int) - 1) {e:Equation} (he:EqOk l e) (hru:q83 e=true) (hh:holdsB l z tb e=true)
 {t:List Int} (ht:TermOk l t) (hlow:∀ n∈t,-6≤n) {p:Nat} (hp:p < t.length) (h:(q69 l e t p).code=0) :
 (q45 l (q69 l e t p).term).eval z tb vs=(q45 l t).eval z tb vs∧∀ n∈(q69 l e t p).term,-6≤n:=by
 have hto:=stepAt_ok he ht hp h
 obtain ⟨b,hm,hb,h1,h2,h3,h4⟩:∃ b:Bnd,q44 l e.left t p=some b∧(BindOk b.1 b.2∧∀ t∈b.2,TermOk l t)∧q1z b.1 b.2 e.left=subAt l t p∧(q1z b.1 b.2 e.right).length≤24∧(q69 l e t p).term=q4u l t p (q1z b.1 b.2 e.right)∧(q4u l t p (q1z b.1 b.2 e.right)).length≤24:=by
  unfold q69 at h ⊢
  cases hm:q44 l e.left t p with
  | none=>rw [hm] at h; cases h
  | some b =>
    rw [hm] at h
    simp only at h ⊢
    split at h
    · cases h
    · rename_i h24
      rw [if_neg h24]
      have hb:=matchAt_ok he.left ht hp hm
      refine ⟨b,rfl,⟨hb.ok he.left.le,hb.tm⟩,(match_sound he.left ht hp hm).1,?_,rfl,by omega⟩
      have:(q1z b.1 b.2 e.right).length≤(q4u l t p (q1z b.1 b.2 e.right)).length:=by
       unfold q4u; simp only [List.length_append]; omega
      omega
 have hvr:∀ n∈e.right,n < 0→n∈e.left ∧ -6≤n:=fun n hn h0=>by
  refine ⟨?_,he.lowR n hn⟩
  unfold q83 at hru
  simp only [Bool.and_eq_true,Bool.not_eq_true',List.any_eq_false,decide_eq_true_eq,not_and] at hru
  exact Classical.byContradiction fun hne=>hru.2 n hn h0 hne
 have hbound:∀ n∈e.left,n < 0→∃ o,q3i b.1 b.2 (-1 - n)=some o∧TermOk l o∧∀ m∈o,-6≤m:=fun n hn h0=>by
  obtain ⟨o,ho⟩:=(match_sound he.left ht hp hm).2 n hn h0
  refine ⟨o,ho,hb.2 o (q4z ho),fun m hm => ?_⟩
  have:m∈q1z b.1 b.2 e.left:=List.mem_flatMap.2 ⟨n,hn,by rw [ho]; exact hm⟩
  rw [h1] at this
  exact hlow m (List.mem_of_mem_take (List.mem_of_mem_drop this))
 have hs:=q6n ht hp
 have ha:=applied_ok ok hb he.right h2
 constructor
 · rw [h3]
   have hl:(q1z b.1 b.2 e.left).length≤24:=by rw [h1]; exact hs.le
   have v1:=applied_value (z:=z) (tb:=tb) (vs:=vs) ok hb (q:=e.left) he.left (fun n hn _=>⟨hn,he.lowL n hn⟩) hl
   have v2:=applied_value (z:=z) (tb:=tb) (vs:=vs) ok hb (q:=e.left) he.right hvr h2
   rw [h1] at v1
   have hvals:∀ n∈valsOf l z tb vs b e.left,0≤n∧n≤(z:Int) - 1:=fun n hn=>by
    unfold valsOf at hn
    obtain ⟨i,hi,rfl⟩:=List.mem_map.1 hn
    have hi:=List.mem_range.1 hi
    by_cases hc:(-1 - (i:Int))∈e.left
    · rw [if_pos hc]
      obtain ⟨o,ho,to,lo⟩:=hbound _ hc (by omega)
      have es:subB l b.1 b.2 (-1 - (i:Int))=q45 l o:=by
       unfold subB
       rw [ho]
       exact treeB_eq ok to
      rw [es]
      obtain ⟨q1,q2,q3⟩:=low_tree ok to lo
      exact Tm.eval_range al h6 hv q3 q2 q1
    · rw [if_neg hc,List.getD_eq_getElem?_getD,List.getElem?_eq_getElem (by omega)]
      exact hv _ (List.getElem_mem _)
   have hh:=holds_eval hz hh (valsOf_length z tb vs b e.left) hvals
   have key:=place_value (z:=z) (tb:=tb) (vs:=vs) ok ht ha hs hp (by rw [← h3]; exact hto) (by rw [replAt_same ht hp]; exact ht) (by rw [v2,v1,hh])
   rw [replAt_same ht hp] at key
   exact key
 · rw [h3]
   intro n hn
   unfold q4u at hn
   rcases List.mem_append.1 hn with hn | hn
   · rcases List.mem_append.1 hn with hn | hn
     · exact hlow n (List.mem_of_mem_take hn)
     · obtain ⟨m,hm',hn⟩:=List.mem_flatMap.1 hn
       by_cases h0:m < 0
       · obtain ⟨o,ho,_,lo⟩:=hbound m (hvr m hm' h0).1 h0
         rw [ho] at hn
         exact lo n hn
       · rw [q90 hb.1 (by omega)] at hn
         rw [List.mem_singleton.1 hn]; omega
   · exact hlow n (List.mem_of_mem_drop hn)
theorem norm_value {z:Nat} {tb:List (List Int)} (al:AlgOk l z tb) (hz:0 < z) {vs:List Int} (h6:vs.length=6) (hv:∀ n∈vs,0≤n∧n≤(z:Int) - 1) {rs:List Equation} (hr:∀ e∈rs,EqOk l e) (hru:∀ e∈rs,q83 e=true) (hh:∀ e∈rs,holdsB l z tb e=true) :
 ∀ (m k:Nat) (t:List Int),TermOk l t→(∀ n∈t,-6≤n)→(norm l rs m k t).code=0→(q45 l (norm l rs m k t).term).eval z tb vs=(q45 l t).eval z tb vs∧∀ n∈(norm l rs m k t).term,-6≤n
 | 0,k,t,ht,hlow,h=>by
   unfold norm at h ⊢
   split at h
   · rename_i hn; rw [if_pos hn]; exact ⟨rfl,hlow⟩
   · cases h
 | m+1,k,t,ht,hlow,h=>by
   by_cases hn:(redex l rs t).1 < 0
   · rw [q7n hn]; exact ⟨rfl,hlow⟩
   · obtain ⟨a,i,hi,er,ha,_⟩:=redex_inner hr ht hn
     have hgd:rs.getD i ⟨[],[]⟩=rs[i]:=by rw [List.getD_eq_getElem?_getD,List.getElem?_eq_getElem hi]; rfl
     rw [norm,if_neg hn,er] at h ⊢
     simp only [Int.toNat_natCast] at h ⊢
     rw [hgd] at h ⊢
     by_cases hc:(q69 l rs[i] t a).code=0
     · rw [if_neg (by simpa using hc)] at h ⊢
       have he:=hr _ (List.getElem_mem hi)
       obtain ⟨s1,s2⟩:=step_value ok al hz h6 hv he (hru _ (List.getElem_mem hi)) (hh _ (List.getElem_mem hi)) ht hlow ha hc
       obtain ⟨n1,n2⟩:=norm_value al hz h6 hv hr hru hh m (k+1) _ (stepAt_ok he ht ha hc) s2 h
       exact ⟨n1.trans s1,n2⟩
     · rw [if_pos hc] at h; exact absurd h hc
end
end Ev.Ty
end
section
namespace Ev.Ty
open Go Ev
open Enc (enc)
open Sm (sm)
set_option linter.unusedSimpArgs false
set_option linter.unusedVariables false
def Drawn (code:List UInt8) (p c:Int) (P:T→Prop) (r:R):Prop:=∃ x p',r=some (x,[.agg [slc code,.int .i64 p']])∧p≤p'∧p'≤p+c∧P x
theorem q7s {code:List UInt8} {p c:Int} {P:T→Prop} {g:FuncId} {args:List T} (hx:X g=none) (n:Nat) (h:Drawn code p c P (callK prog A H LIM n g args)):Drawn code p c P (LIM g args):=by
 obtain ⟨x,p',e,h⟩:=h
 exact ⟨x,p',lim_of hx n e,h⟩
theorem Drawn.more {code:List UInt8} {p p1 c c1:Int} {P P1:T→Prop} {r:R} (h:Drawn code p1 c1 P1 r) (h1:p≤p1) (h2:p1+c1≤p+c) (hP:∀ x,P1 x→P x):Drawn code p c P r:=by
 obtain ⟨x,p',e,a,b,q⟩:=h
 exact ⟨x,p',e,by omega,by omega,hP x q⟩
theorem q4m {code:List UInt8} {p p' c:Int} {P:T→Prop} {x:T} (h1:p≤p'∧p'≤p+c) (h:P x):Drawn code p c P (some (x,[.agg [slc code,.int .i64 p']])):=⟨x,p',rfl,h1.1,h1.2,h⟩
theorem q6a {Q:R→Prop} {code:List UInt8} {p c:Int} {P:T→Prop} {r:R} {K:T × List T→R} (h:Drawn code p c P r)
 (k:∀ x p',p≤p'→p'≤p+c→P x→Q (K (x,[.agg [slc code,.int .i64 p']]))):Q (r.bind K):=by
 obtain ⟨x,p',rfl,a,b,q⟩:=h
 exact k x p' a b q
theorem q5x {σ:Type} {S:Nat→σ→R} {Q:R→Prop} (I:σ→Prop) (μ:σ→Nat) (step:∀ m s,I s→Q (S (m+1) s)∨∃ s',S (m+1) s=S m s'∧I s'∧μ s' < μ s):∀ f s,I s→μ s < f→Q (S f s):=by
 intro f
 induction f with
 | zero=>intro s _ h; omega
 | succ f ih =>
   intro s hi hm
   rcases step f s hi with h | ⟨s',e,hi',hm'⟩
   · exact h
   · rw [e]; exact ih s' hi' (by omega)
@[simp] theorem oBx_bx (c:List T):oBx (.bx c)=some c:=Eq.trans rfl rfl
theorem tmod_nn {a b:Int} (ha:0≤a) (hb:0 < b):0≤Int.tmod a b∧Int.tmod a b < b:=⟨Int.tmod_nonneg b ha,Int.tmod_lt_of_pos a hb⟩
abbrev src (code:List UInt8) (p:Int):T := .rref [slc code,.int .i64 p] 0
theorem u8_bound (b:UInt8):(0:Int)≤(b.toNat:Int)∧(b.toNat:Int) < 256:=⟨by omega,by have:=b.toNat_lt; omega⟩
section
variable {code:List UInt8} (hc:code.length≤2097152)
include hc
theorem at_idx {p:Int} (hp:0≤p) (hl:0 < code.length):∃ i:Nat,Int.tmod p (code.length:Int)=i∧i < code.length:=by
 obtain ⟨h1,h2⟩:=tmod_nn hp (show (0:Int) < (code.length:Int) by omega)
 exact ⟨(Int.tmod p (code.length:Int)).toNat,by omega,by omega⟩
theorem q22 (p n:Int) (hp:0≤p∧p≤1099511627776) :
 ∃ v:Int,LIM F.q22 [.rref [slc code,.int .i64 p] 0,.int .i64 n]=some (.int .i64 v,[.agg [slc code,.int .i64 (p+1)]])∧0≤v∧(1≤n→v < n):=by
 have e1:IntKind.wrap .i64 (p+1)=p+1:=q27 (by omega)
 have e2:IntKind.wrap .i64 (p+1 - 1)=p:=by rw [q27 (by omega)]; omega
 by_cases hn:n < 1
 · refine ⟨0,q8m rfl 0 ((q22.ev _ _ _ _).trans ?_),by omega,by omega⟩
   simp only [evz,Nat.reduceLT,hn,e1]
 rw [Int.not_lt] at hn
 have hn0:¬ n=0:=by omega
 by_cases hl:code.length=0
 · obtain ⟨q1,q2⟩:=tmod_nn (a:=p*7) (b:=n) (by omega) (by omega)
   refine ⟨Int.tmod (p*7) n,q8m rfl 0 ((q22.ev _ _ _ _).trans ?_),q1,fun _=>q2⟩
   have z:((code.length:Nat):Int)=0:=by omega
   have z1:¬ n < 1:=by omega
   simp only [evz,Nat.reduceLT,z1,z,hn0,e1,e2,q27 (x:=p*7) (by omega)]
 have z1:¬ n < 1:=by omega
 obtain ⟨i,hi,hil⟩:=at_idx hc hp.1 (by omega)
 obtain ⟨j,hj,hjl⟩:=at_idx (code:=code) hc (p:=p+1) (by omega) (by omega)
 have b1:=u8_bound code[i]
 have b2:=u8_bound code[j]
 have hd:0≤Int.tdiv p code.length∧Int.tdiv p code.length≤p:=⟨Int.tdiv_nonneg hp.1 (by omega),Int.tdiv_le_self _ hp.1⟩
 have d1:¬ ((code.length:Nat):Int)=0:=by omega
 generalize hk:Int.tdiv p code.length=d at hd
 have w1:IntKind.wrap .i64 d=d:=q27 (by omega)
 have w2:IntKind.wrap .i64 (d*37)=d*37:=q27 (by omega)
 have w3:IntKind.wrap .i64 (code[i].toNat:Int)=(code[i].toNat:Int):=q27 (by omega)
 have w4:IntKind.wrap .i64 (code[j].toNat:Int)=(code[j].toNat:Int):=q27 (by omega)
 have w5:IntKind.wrap .i64 ((code[i].toNat:Int)+d*37)=(code[i].toNat:Int)+d*37:=q27 (by omega)
 have w6:IntKind.wrap .i64 (((code[i].toNat:Int)+d*37)*251)=((code[i].toNat:Int)+d*37)*251:=q27 (by omega)
 have w7:IntKind.wrap .i64 ((code[j].toNat:Int)*13)=(code[j].toNat:Int)*13:=q27 (by omega)
 have w8:IntKind.wrap .i64 (((code[i].toNat:Int)+d*37)*251+(code[j].toNat:Int)*13)=((code[i].toNat:Int)+d*37)*251+(code[j].toNat:Int)*13:=q27 (by omega)
 have w9:IntKind.wrap .i64 (((code[i].toNat:Int)+d*37)*251+(code[j].toNat:Int)*13+p)=((code[i].toNat:Int)+d*37)*251+(code[j].toNat:Int)*13+p:=q27 (by omega)
 by_cases hbig:n > 200
 · obtain ⟨q1,q2⟩:=tmod_nn (a:=((code[i].toNat:Int)+d*37)*251+(code[j].toNat:Int)*13+p) (b:=n) (by omega) (by omega)
   refine ⟨_,q8m rfl 0 ((q22.ev _ _ _ _).trans ?_),q1,fun _=>q2⟩
   simp only [evz,Nat.reduceLT,z1,d1,hn0,e1,e2,hi,hil,hj,hjl,List.getElem?_eq_getElem,enc_u8,hbig,hk,w1,w2,w3,w4,w5,w6,w7,w8,w9]
 · obtain ⟨q1,q2⟩:=tmod_nn (a:=(code[i].toNat:Int)+d*37) (b:=n) (by omega) (by omega)
   refine ⟨_,q8m rfl 0 ((q22.ev _ _ _ _).trans ?_),q1,fun _=>q2⟩
   simp only [evz,Nat.reduceLT,z1,d1,hn0,e1,e2,hi,hil,hj,hjl,List.getElem?_eq_getElem,enc_u8,hbig,hk,w1,w2,w3,w4,w5,w6,w7,w8,w9]
theorem next_s {Q:R→Prop} {p n:Int} {K:T × List T→R} (hp:0≤p∧p≤1099511627776) (k:∀ v:Int,0≤v→(1≤n→v < n)→Q (K (.int .i64 v,[.agg [slc code,.int .i64 (p+1)]]))) :
 Q ((LIM F.q22 [.rref [slc code,.int .i64 p] 0,.int .i64 n]).bind K):=by
 obtain ⟨v,e,h1,h2⟩:=q22 hc p n hp
 rw [e]; exact k v h1 h2
theorem q2l (p n:Int) (hp:0≤p∧p≤1099511627776):∃ b:Bool,LIM F.q2l [.rref [slc code,.int .i64 p] 0,.int .i64 n]=some (.bool b,[.agg [slc code,.int .i64 (p+1)]]):=by
 obtain ⟨v,e,_⟩:=q22 hc p n hp
 exact ⟨decide (v=0),q8m rfl 0 ((q2l.ev _ _ _ _).trans (by simp only [evz,Nat.reduceLT,e]))⟩
theorem q7t {Q:R→Prop} {p n:Int} {K:T × List T→R} (hp:0≤p∧p≤1099511627776) (k:∀ b:Bool,Q (K (.bool b,[.agg [slc code,.int .i64 (p+1)]]))) :
 Q ((LIM F.q2l [.rref [slc code,.int .i64 p] 0,.int .i64 n]).bind K):=by
 obtain ⟨b,e⟩:=q2l hc p n hp
 rw [e]; exact k b
theorem q2w (p:Int) (l:List Int) {ts:List T} (hts:cells l=ts) (hl:l≠[]) (hp:0≤p∧p≤1099511627776) :
 ∃ v∈l,LIM F.q2w [.rref [slc code,.int .i64 p] 0,.sl 1 ts]=some (.int .i64 v,[.agg [slc code,.int .i64 (p+1)]]):=by
 subst hts
 have h0:0 < l.length:=List.length_pos_iff.2 hl
 have hd:(cells l).length / 1=l.length:=q53 rfl
 obtain ⟨v,e,h1,h2⟩:=q22 hc p (l.length:Int) hp
 obtain ⟨i,rfl⟩:∃ i:Nat,v=i:=⟨v.toNat,by omega⟩
 have hi:i < l.length:=by have:=h2 (by omega); omega
 refine ⟨l[i],List.getElem_mem hi,q8m rfl 0 ((q2w.ev _ _ _ _).trans ?_)⟩
 simp only [evz,Nat.reduceLT,e,hi,List.getElem?_eq_getElem,q1r]
theorem pick_s {Q:R→Prop} {p:Int} (l:List Int) {ts:List T} {K:T × List T→R} (hts:cells l=ts) (hl:l≠[]) (hp:0≤p∧p≤1099511627776) (k:∀ v:Int,v∈l→Q (K (.int .i64 v,[.agg [slc code,.int .i64 (p+1)]]))) :
 Q ((LIM F.q2w [.rref [slc code,.int .i64 p] 0,.sl 1 ts]).bind K):=by
 obtain ⟨v,hv,e⟩:=q2w hc p l hts hl hp
 rw [e]; exact k v hv
theorem q5z (i n:Int) (hi:0≤i∧i≤1099511627776):∃ v:Int,Call F.q5z [slc code,.int .i64 i,.int .i64 n] (.int .i64 v)∧0≤v∧(1≤n→v < n):=by
 by_cases hn:n≤1
 · exact ⟨0,q0s rfl 0 ((q5z.ev _ _ _ _).trans (by simp only [evz,Nat.reduceLT,hn])),by omega,by omega⟩
 have hn0:¬ n=0:=by omega
 by_cases hl:code.length=0
 · obtain ⟨q1,q2⟩:=tmod_nn (a:=i*7) (b:=n) (by omega) (by omega)
   have z:((code.length:Nat):Int)=0:=by omega
   exact ⟨Int.tmod (i*7) n,q0s rfl 0 ((q5z.ev _ _ _ _).trans (by simp only [evz,Nat.reduceLT,hn,z,hn0,q27 (x:=i*7) (by omega)])),q1,fun _=>q2⟩
 obtain ⟨a,ha,hal⟩:=at_idx hc hi.1 (by omega)
 obtain ⟨j,hj,hjl⟩:=at_idx (code:=code) hc (p:=i+1) (by omega) (by omega)
 have b1:=u8_bound code[a]
 have b2:=u8_bound code[j]
 have hd:0≤Int.tdiv i code.length∧Int.tdiv i code.length≤i:=⟨Int.tdiv_nonneg hi.1 (by omega),Int.tdiv_le_self _ hi.1⟩
 have d1:¬ ((code.length:Nat):Int)=0:=by omega
 generalize hk:Int.tdiv i code.length=d at hd
 have e1:IntKind.wrap .i64 (i+1)=i+1:=q27 (by omega)
 have w1:IntKind.wrap .i64 d=d:=q27 (by omega)
 have w2:IntKind.wrap .i64 (d*3)=d*3:=q27 (by omega)
 have w3:IntKind.wrap .i64 (code[a].toNat:Int)=(code[a].toNat:Int):=q27 (by omega)
 have w4:IntKind.wrap .i64 (code[j].toNat:Int)=(code[j].toNat:Int):=q27 (by omega)
 have w5:IntKind.wrap .i64 ((code[a].toNat:Int)+d*3)=(code[a].toNat:Int)+d*3:=q27 (by omega)
 have w6:IntKind.wrap .i64 (((code[a].toNat:Int)+d*3)*251)=((code[a].toNat:Int)+d*3)*251:=q27 (by omega)
 have w7:IntKind.wrap .i64 (((code[a].toNat:Int)+d*3)*251+(code[j].toNat:Int))=((code[a].toNat:Int)+d*3)*251+(code[j].toNat:Int):=q27 (by omega)
 by_cases hbig:n > 200
 · obtain ⟨q1,q2⟩:=tmod_nn (a:=((code[a].toNat:Int)+d*3)*251+(code[j].toNat:Int)) (b:=n) (by omega) (by omega)
   exact ⟨_,q0s rfl 0 ((q5z.ev _ _ _ _).trans (by simp only [evz,Nat.reduceLT,hn,d1,hn0,e1,ha,hal,hj,hjl,List.getElem?_eq_getElem,enc_u8,hbig,hk,w1,w2,w3,w4,w5,w6,w7])),q1,fun _=>q2⟩
 · obtain ⟨q1,q2⟩:=tmod_nn (a:=(code[a].toNat:Int)+d*3) (b:=n) (by omega) (by omega)
   exact ⟨_,q0s rfl 0 ((q5z.ev _ _ _ _).trans (by simp only [evz,Nat.reduceLT,hn,d1,hn0,e1,ha,hal,hj,hjl,List.getElem?_eq_getElem,enc_u8,hbig,hk,w1,w2,w3,w5])),q1,fun _=>q2⟩
omit hc in
theorem q6o:Call F.q6o [slc code] (.bool (decide ((code.length:Int) > 1048576))):=q0s rfl 0 ((q6o.ev _ _).trans (by simp only [evz,Nat.reduceLT]))
omit hc in
theorem q5d:LIM F.q5d [slc code]=some (.bx [slc code,.int .i64 0],[]):=q8m rfl 0 (q5d.ev _ _)
end
end Ev.Ty
end
section
namespace Ev.Ty
open Go Ev
open Enc (enc)
open Sm (sm)
set_option linter.unusedSimpArgs false
set_option linter.unusedVariables false
set_option maxHeartbeats 1000000
structure Grown (l:List Symbol) (m:Nat) (vars:Int) (t:List Int):Prop where
 pos:1≤t.length
 le:t.length≤m
 node:∀ n∈t,(0≤n∧n < l.length)∨(-vars≤n∧n ≤ -1)
 tree:∃ x:Tm,x.ok (ar l)∧t=x.flat
theorem Grown.ok {l:List Symbol} {m:Nat} {vars:Int} {t:List Int} (h:Grown l m vars t) (hm:m≤24) (hv:vars≤12):TermOk l t:=by
 refine ⟨h.pos,Nat.le_trans h.le hm,fun n hn => ?_,?_⟩
 · rw [q4a]; rcases h.node n hn with h | h
   · exact .inl h
   · exact .inr (by omega)
 · obtain ⟨x,hx,rfl⟩:=h.tree
   have:=Tm.skip_flat (a:=ar l) (fun n hn=>ar_neg l hn) x [] 0 hx
   rwa [List.append_nil] at this
section
variable {code:List UInt8} (hc:code.length≤2097152) {l:List Symbol} (ok:SigOk ⟨l⟩)
def TermS (code:List UInt8) (l:List Symbol) (p:Int) (m:Nat) (vars:Int) (r:R):Prop:=∃ t p',r=some (slc t,[.agg [slc code,.int .i64 p']])∧p≤p'∧p'≤p+3*(t.length:Int)∧Grown l m vars t
include hc ok
theorem l3_var (p q:Int) (m:Nat) (vars:Int) (hm:1≤m) (hv:1≤vars∧vars≤12) (hp:0≤p∧p≤q∧q≤p+2∧q≤1099511627776) :
 TermS code l p m vars ((LIM F.q22 [.rref [slc code,.int .i64 q] 0,.int .i64 vars]).bind fun r=>(oCons r.2).bind fun p2=>(oNil p2.2).bind fun _=>(oAgg p2.1).bind fun c3=>(oCons c3).bind fun p4=>(oSl 1 p4.1).bind fun c5=>(oCons p4.2).bind fun p6=>(oInt .i64 p6.1).bind fun n7=>(oNil p6.2).bind fun _=>(oInt .i64 r.1).bind fun n8=>some (.sl 1 [.int .i64 (IntKind.wrap .i64 ((-1:Int) - n8))],[.agg [.sl 1 (cells code),.int .i64 n7]])):=by
 refine next_s hc (by omega) fun v h1 h2 => ?_
 have h2:=h2 hv.1
 simp only [evz,Nat.reduceLT]
 rw [q27 (by omega)]
 exact ⟨[-1 - v],q+1,rfl,by omega,by simp; omega,⟨by simp,by simp; omega,fun n hn => .inr (by rw [List.mem_singleton.1 hn]; omega),.v (-1 - v),by show -1 - v < 0; omega,rfl⟩⟩
noncomputable def l3fin (l:List Symbol) (code:List UInt8) (m vars x4 p:Int):R :=
 (bif inB x4 ((cells l).length / 2) then (((cells l)[(((Int.toNat x4)*2)+1)]?).bind fun e71=>((oInt .i64 e71).bind fun n72=>(bif ((n72 == (1:Int))) then ((LIM F.q0c [(.rref [(.sl 1 (cells code)),(.int .i64 p)] 0),(.rref [(.sl 2 (cells l))] 0),(.int .i64 (IntKind.wrap .i64 (m - (1:Int)))),(.int .i64 vars)]).bind fun r73=>((oCons r73.2).bind fun p74=>((oNil p74.2).bind fun _=>((oAgg p74.1).bind fun c75=>((oCons c75).bind fun p76=>((oSl 1 p76.1).bind fun c77=>((oCons p76.2).bind fun p78=>((oInt .i64 p78.1).bind fun n79=>((oNil p78.2).bind fun _=>((oSl 1 r73.1).bind fun c80=>(bif (c80).all T.scalar then (bif Nat.ble ((1+(c80).length)*8) (140737488355328*1) then some ((.sl 1 ([(.int .i64 x4)]++c80:List T)),[(.agg [(.sl 1 (cells code)),(.int .i64 n79)])]) else none) else none))))))))))) else (bif ((n72 == (2:Int))) then ((LIM F.q0c [(.rref [(.sl 1 (cells code)),(.int .i64 p)] 0),(.rref [(.sl 2 (cells l))] 0),(.int .i64 (IntKind.wrap .i64 (m - (2:Int)))),(.int .i64 vars)]).bind fun r81=>((oCons r81.2).bind fun p82=>((oNil p82.2).bind fun _=>((oAgg p82.1).bind fun c83=>((oCons c83).bind fun p84=>((oSl 1 p84.1).bind fun c85=>((oCons p84.2).bind fun p86=>((oInt .i64 p86.1).bind fun n87=>((oNil p86.2).bind fun _=>((oSl 1 r81.1).bind fun c88=>(bif (c88).all T.scalar then (bif Nat.ble ((1+(c88).length)*8) (140737488355328*1) then ((LIM F.q0c [(.rref [(.sl 1 (cells code)),(.int .i64 n87)] 0),(.rref [(.sl 2 (cells l))] 0),(.int .i64 (IntKind.wrap .i64 ((IntKind.wrap .i64 (m - (1:Int))) - ((((c88).length / 1):Nat):Int)))),(.int .i64 vars)]).bind fun r89=>((oCons r89.2).bind fun p90=>((oNil p90.2).bind fun _=>((oAgg p90.1).bind fun c91=>((oCons c91).bind fun p92=>((oSl 1 p92.1).bind fun c93=>((oCons p92.2).bind fun p94=>((oInt .i64 p94.1).bind fun n95=>((oNil p94.2).bind fun _=>((oSl 1 r89.1).bind fun c96=>(bif (c96).all T.scalar then (bif Nat.ble (((([(.int .i64 x4)]++c88:List T)).length+(c96).length)*8) (140737488355328*1) then some ((.sl 1 (([(.int .i64 x4)]++c88:List T)++c96:List T)),[(.agg [(.sl 1 (cells code)),(.int .i64 n95)])]) else none) else none))))))))))) else none) else none))))))))))) else some ((.sl 1 [(.int .i64 x4)]),[(.agg [(.sl 1 (cells code)),(.int .i64 p)])]))))) else none)
theorem l3_fin (p q:Int) (m:Nat) (vars:Int) (hm:1≤m∧m≤1000) (hv:0≤vars∧vars≤12) (hp:0≤p∧p≤q∧q≤p+3∧p+10*(m:Int)≤1099511020000)
 (ih:∀ k,1≤k→k < m→∀ p,0≤p∧p+10*(k:Int)≤1099511020000→TermS code l p k vars (LIM F.q0c [.rref [slc code,.int .i64 p] 0,.rref [slc l] 0,.int .i64 k,.int .i64 vars]))
 (i:Nat) (hi:i < l.length) (ha:l[i].arity < m):TermS code l p m vars (l3fin l code m vars i q):=by
 obtain ⟨a1,a2⟩:=ok.arity l[i] (List.getElem_mem hi)
 have har:(ar l (i:Int):Int)=l[i].arity:=(ar_eq ok (n:=(i:Int)) (by omega) (by simpa using hi)).symm
 unfold l3fin
 have hn0:(0:Int)≤i∧(i:Int) < l.length:=by omega
 simp only [evz,Nat.reduceLT,hi,List.getElem?_eq_getElem,q28]
 by_cases h1:l[i].arity=1
 · simp only [evz,Nat.reduceLT,h1]
   rw [q27 (by omega),show (m:Int) - 1=((m - 1:Nat):Int) by omega]
   obtain ⟨t,p',e,q1,q2,g⟩:=ih (m - 1) (by omega) (by omega) q (by omega)
   have hl:=g.le
   have e2:(cells t).length=t.length:=by rw [q0u]; simp
   simp only [evz,Nat.reduceLT,e,q3q]
   rw [q26 (q3s (by rw [e2]; omega))]
   refine ⟨(i:Int)::t,p',rfl,by omega,by simp; omega,⟨by simp,by simp; omega,fun n hn => ?_,?_⟩⟩
   · rcases List.mem_cons.1 hn with rfl | hn
     · exact .inl hn0
     · exact g.node n hn
   · obtain ⟨x,hx,rfl⟩:=g.tree
     exact ⟨.u i x,⟨by omega,by omega,hx⟩,rfl⟩
 by_cases h2:l[i].arity=2
 · simp only [evz,Nat.reduceLT,h2,Int.reduceEq]
   rw [q27 (x:=(m:Int) - 2) (by omega),show (m:Int) - 2=((m - 2:Nat):Int) by omega]
   obtain ⟨t,p',e,q1,q2,g⟩:=ih (m - 2) (by omega) (by omega) q (by omega)
   have hl:=g.le
   have hl1:=g.pos
   have e2:(cells t).length=t.length:=by rw [q0u]; simp
   simp only [evz,Nat.reduceLT,e,q3q]
   rw [q26 (q3s (by rw [e2]; omega)),q27 (x:=(m:Int) - 1) (by omega),q27 (by omega),show (m:Int) - 1 - (t.length:Int)=((m - 1 - t.length:Nat):Int) by omega]
   obtain ⟨t2,p2,e',q3,q4,g2⟩:=ih (m - 1 - t.length) (by omega) (by omega) p' (by omega)
   have hl2:=g2.le
   have e3:(cells t2).length=t2.length:=by rw [q0u]; simp
   simp only [evz,Nat.reduceLT,e',q3q]
   rw [q26 (q3s (by simp only [List.length_append,List.length_singleton]; rw [e2,e3]; omega))]
   refine ⟨(i:Int)::(t++t2),p2,by rw [List.append_assoc,← q3b]; rfl,by omega,by simp; omega,⟨by simp,by simp; omega,fun n hn => ?_,?_⟩⟩
   · rcases List.mem_cons.1 hn with rfl | hn
     · exact .inl hn0
     · rcases List.mem_append.1 hn with hn | hn
       · exact g.node n hn
       · exact g2.node n hn
   · obtain ⟨x,hx,rfl⟩:=g.tree
     obtain ⟨y,hy,rfl⟩:=g2.tree
     exact ⟨.b i x y,⟨by omega,by omega,hx,hy⟩,rfl⟩
 simp only [evz,Nat.reduceLT,h1,h2]
 exact ⟨[(i:Int)],q,rfl,by omega,by simp; omega,⟨by simp,by simp; omega,fun n hn=>by rw [List.mem_singleton.1 hn]; exact .inl hn0,.k i,⟨by omega,by omega⟩,rfl⟩⟩
omit hc ok in
theorem mod_step {n d k c:Nat} (h:(n+(d+1)) % k=c):((n+1) % k+d) % k=c:=by
 rw [Nat.mod_add_mod,show n+1+d=n+(d+1) by omega]; exact h
omit hc ok in
theorem mod_to {n c k:Nat} (hn:n < k) (hc:c < k):∃ d,d < k∧(n+d) % k=c:=by
 by_cases h:n≤c
 · exact ⟨c - n,by omega,by rw [show n+(c - n)=c by omega,Nat.mod_eq_of_lt hc]⟩
 · exact ⟨c+k - n,by omega,by rw [show n+(c+k - n)=c+k by omega,Nat.add_mod_right,Nat.mod_eq_of_lt hc]⟩
theorem l3_loops (p q:Int) (m:Nat) (vars:Int) (hm:1≤m∧m≤1000) (hv:0≤vars∧vars≤12) (hp:0≤p∧p≤q∧q≤p+3∧p+10*(m:Int)≤1099511020000)
 (ih:∀ k,1≤k→k < m→∀ p,0≤p∧p+10*(k:Int)≤1099511020000→TermS code l p k vars (LIM F.q0c [.rref [slc code,.int .i64 p] 0,.rref [slc l] 0,.int .i64 k,.int .i64 vars]))
 (i:Nat) (hi:i < l.length):TermS code l p m vars (q0c.at0 10 10 (q0c.st0 (cells l) m vars l.length i 0 (cells code) q)):=by
 have hle:=ok.le
 simp only at hle
 obtain ⟨y,hy,hy0⟩:=ok.const
 obtain ⟨c,hcl,hcy⟩:=List.getElem_of_mem hy
 have hcl:c < l.length:=hcl
 have hca:l[c].arity=0:=by
  have:l[c]=y:=hcy
  rw [this]; exact hy0
 have fin:=l3_fin hc ok p q m vars hm hv hp ih
 have step2:∀ i,i < l.length→TermS code l p m vars (q0c.at2 10 10 (q0c.st2 (cells l) m vars l.length (i:Nat) 0 (cells code) q)):=fun i hi=>by
  obtain ⟨d,hd,hdc⟩:=mod_to hi hcl
  refine q5x (σ:=Nat × Nat × Nat) (S:=fun k s=>q0c.at2 10 k (q0c.st2 (cells l) m vars l.length (s.1:Nat) (s.2.1:Nat) (cells code) q)) (fun s=>s.1 < l.length∧(s.1+s.2.2) % l.length=c∧s.2.1+s.2.2 < l.length) (fun s=>s.2.2) (fun k s hs => ?_) _ (i,0,d) ⟨hi,hdc,by simp only; omega⟩ (by simp only; omega)
  obtain ⟨n,j,d⟩:=s
  obtain ⟨h1,h2,h3⟩:=hs
  simp only at h1 h2 h3 ⊢
  have hj:j < l.length:=by omega
  have hl0:¬ ((l.length:Nat):Int)=0:=by omega
  by_cases ha:l[n].arity > 0
  · right
    cases d with
    | zero =>
      rw [Nat.add_zero,Nat.mod_eq_of_lt h1] at h2
      subst h2
      omega
    | succ d =>
      refine ⟨((n+1) % l.length,j+1,d),?_,⟨Nat.mod_lt _ (by omega),mod_step h2,by simp only; omega⟩,by simp only; omega⟩
      simp only [q0c.next2,q0c.round2,evz,Nat.reduceLT,hj,h1,List.getElem?_eq_getElem,q28,ha,hl0]
      rw [q0m (by omega),q0m (by omega)]
      congr 2
  · left
    have hf:=fin n h1 (by omega)
    simp only [q0c.next2,q0c.round2,evz,Nat.reduceLT,hj,h1,List.getElem?_eq_getElem,q28,ha]
    unfold l3fin at hf
    simp only [evz,Nat.reduceLT,h1,List.getElem?_eq_getElem,q28] at hf
    exact hf
 obtain ⟨d,hd,hdc⟩:=mod_to hi hcl
 refine q5x (σ:=Nat × Nat × Nat) (S:=fun k s=>q0c.at0 10 k (q0c.st0 (cells l) m vars l.length (s.1:Nat) (s.2.1:Nat) (cells code) q)) (fun s=>s.1 < l.length∧(s.1+s.2.2) % l.length=c∧s.2.1+s.2.2 < l.length) (fun s=>s.2.2) (fun k s hs => ?_) _ (i,0,d) ⟨hi,hdc,by simp only; omega⟩ (by simp only; omega)
 obtain ⟨n,j,d⟩:=s
 obtain ⟨h1,h2,h3⟩:=hs
 simp only at h1 h2 h3 ⊢
 have hj:j < l.length:=by omega
 have hl0:¬ ((l.length:Nat):Int)=0:=by omega
 by_cases ha:l[n].arity ≥ m
 · right
   cases d with
   | zero =>
     rw [Nat.add_zero,Nat.mod_eq_of_lt h1] at h2
     subst h2
     omega
   | succ d =>
     refine ⟨((n+1) % l.length,j+1,d),?_,⟨Nat.mod_lt _ (by omega),mod_step h2,by simp only; omega⟩,by simp only; omega⟩
     simp only [q0c.next0,q0c.round0,evz,Nat.reduceLT,hj,h1,List.getElem?_eq_getElem,q28,ha,hl0]
     rw [q0m (by omega),q0m (by omega)]
     congr 2
 · left
   simp only [q0c.next0,q0c.round0,evz,Nat.reduceLT,hj,h1,List.getElem?_eq_getElem,q28,ha]
   by_cases hm2:(m:Int) < 2
   · simp only [evz,Nat.reduceLT,hm2]
     exact step2 n h1
   · have hf:=fin n h1 (by omega)
     unfold l3fin at hf
     simp only [evz,Nat.reduceLT,h1,List.getElem?_eq_getElem,q28] at hf
     simp only [evz,Nat.reduceLT,hm2]
     exact hf
theorem spec_l3DrawS (vars:Int) (hv:0≤vars∧vars≤12):∀ (m:Nat),1≤m→m≤1000→∀ p,0≤p∧p+10*(m:Int)≤1099511020000→TermS code l p m vars (LIM F.q0c [.rref [slc code,.int .i64 p] 0,.rref [slc l] 0,.int .i64 m,.int .i64 vars]):=by
 intro m
 induction m using Nat.strongRecOn with
 | ind m ih =>
   intro hm1 hm2 p hp
   have hle:=ok.le
   have hpos:=ok.pos
   simp only at hle hpos
   suffices h:TermS code l p m vars (callK prog A H LIM 10 F.q0c [.rref [slc code,.int .i64 p] 0,.rref [slc l] 0,.int .i64 m,.int .i64 vars]) by
    obtain ⟨t,p',e,r⟩:=h
    exact ⟨t,p',lim_of rfl 10 e,r⟩
   rw [show callK prog A H LIM 10 F.q0c [.rref [slc code,.int .i64 p] 0,.rref [slc l] 0,.int .i64 m,.int .i64 vars]=_ from q0c.ev _ _ _ _ _ _]
   have node:∀ q,p≤q→q≤p+2→TermS code l p m vars ((LIM F.q22 [.rref [slc code,.int .i64 q] 0,.int .i64 (l.length:Int)]).bind fun r=>(oCons r.2).bind fun p2=>(oNil p2.2).bind fun _=>(oAgg p2.1).bind fun c3=>(oCons c3).bind fun p4=>(oSl 1 p4.1).bind fun c5=>(oCons p4.2).bind fun p6=>(oInt .i64 p6.1).bind fun n7=>(oNil p6.2).bind fun _=>(oInt .i64 r.1).bind fun n8=>q0c.at0 10 10 (q0c.st0 (cells l) m vars l.length n8 0 (cells code) n7)):=fun q q1 q2=>by
    refine next_s hc (by omega) fun v h1 h2 => ?_
    have h2:=h2 (by omega)
    obtain ⟨i,rfl⟩:∃ i:Nat,v=i:=⟨v.toNat,by omega⟩
    simp only [evz,Nat.reduceLT]
    exact l3_loops hc ok p (q+1) m vars ⟨hm1,hm2⟩ hv (by omega) (fun k k1 k2 p hp=>ih k k2 k1 (by omega) p hp) i (by omega)
   by_cases hv0:vars > 0
   · simp only [evz,Nat.reduceLT,hv0]
     have rest:∀ q,p≤q→q≤p+1→TermS code l p m vars ((LIM F.q2l [.rref [slc code,.int .i64 q] 0,.int .i64 4]).bind fun r=>(oCons r.2).bind fun p2=>(oNil p2.2).bind fun _=>(oAgg p2.1).bind fun c3=>(oCons c3).bind fun p4=>(oSl 1 p4.1).bind fun c5=>(oCons p4.2).bind fun p6=>(oInt .i64 p6.1).bind fun n7=>(oNil p6.2).bind fun _=>(oBool r.1).bind fun b8 =>
      bif b8 then ((LIM F.q22 [.rref [slc code,.int .i64 n7] 0,.int .i64 vars]).bind fun r=>(oCons r.2).bind fun p2=>(oNil p2.2).bind fun _=>(oAgg p2.1).bind fun c3=>(oCons c3).bind fun p4=>(oSl 1 p4.1).bind fun c5=>(oCons p4.2).bind fun p6=>(oInt .i64 p6.1).bind fun n7=>(oNil p6.2).bind fun _=>(oInt .i64 r.1).bind fun n8=>some (.sl 1 [.int .i64 (IntKind.wrap .i64 ((-1:Int) - n8))],[.agg [slc code,.int .i64 n7]]))
      else ((LIM F.q22 [.rref [slc code,.int .i64 n7] 0,.int .i64 (l.length:Int)]).bind fun r=>(oCons r.2).bind fun p2=>(oNil p2.2).bind fun _=>(oAgg p2.1).bind fun c3=>(oCons c3).bind fun p4=>(oSl 1 p4.1).bind fun c5=>(oCons p4.2).bind fun p6=>(oInt .i64 p6.1).bind fun n7=>(oNil p6.2).bind fun _=>(oInt .i64 r.1).bind fun n8=>q0c.at0 10 10 (q0c.st0 (cells l) m vars l.length n8 0 (cells code) n7))):=fun q q1 q2=>by
      refine q7t hc (by omega) fun b => ?_
      simp only [evz,Nat.reduceLT]
      cases b with
      | true=>exact l3_var hc ok p (q+1) m vars hm1 (by omega) (by omega)
      | false=>exact node (q+1) (by omega) (by omega)
     by_cases hm3:(m:Int) < 2
     · simp only [evz,Nat.reduceLT,hm3]
       refine q7t hc (by omega) fun b => ?_
       simp only [evz,Nat.reduceLT]
       cases b with
       | true=>exact l3_var hc ok p (p+1) m vars hm1 (by omega) (by omega)
       | false=>exact rest (p+1) (by omega) (by omega)
     · simp only [evz,Nat.reduceLT,hm3]
       exact rest p (by omega) (by omega)
   · simp only [evz,Nat.reduceLT,hv0]
     exact node p (by omega) (by omega)
theorem q0c (p most vars:Int) (hm:1≤most∧most≤1000) (hv:0≤vars∧vars≤12) (hp:0≤p∧p≤1099511000000) :
 Drawn code p 3000 (fun x=>∃ t,x=slc t∧Grown l most.toNat vars t) (LIM F.q0c [.rref [slc code,.int .i64 p] 0,.rref [slc l] 0,.int .i64 most,.int .i64 vars]):=by
 obtain ⟨t,p',e,h1,h2,g⟩:=spec_l3DrawS hc ok vars hv most.toNat (by omega) (by omega) p (by omega)
 rw [show ((most.toNat:Nat):Int)=most by omega] at e
 have:=g.le
 exact ⟨_,p',e,h1,by omega,t,rfl,g⟩
end
end Ev.Ty
end
section
namespace Ev.Ty
open Go Ev
open Enc (enc)
open Sm (sm)
set_option linter.unusedSimpArgs false
set_option linter.unusedVariables false
end Ev.Ty
end
