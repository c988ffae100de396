/- Steps on the way to RowAllFollow: TyMarks, TyFields, TyPlumb, TyNum, TySig, TyAlg, TyTerm, TyTree, TyEval, TyEvalF, TyEvalT, TyVars, TyEqs, TyRules, TyHolds, TyAllHold, TySame, TyBind, TyCmp, TyWalk, TyMatchP, TySortP, TyLpoP, TyLpo, TyLpoS, TyPartP, TyPigeon, TyOrd, TyNormP, TyMatch, TyNorm, TyNormL, TyHasVar, TyEntries, TySortT, TySortQ, TyGreat, TyStabP, TySoundP, TyRedexP, TyAlgOf. -/
import Derived.Test.YtleelbkgajbkfaaGreatDoorM4
import Derived.Lib.SlTrimSet
set_option linter.unusedSectionVars false
set_option linter.unusedVariables false
set_option linter.unusedSimpArgs false
section
namespace Ev.Ty
open Go Ev
open Enc (enc)
open Sm (sm)
theorem qa2{g:FuncId}{args:List T}{r:T×List T}(hx:X g=none)(n:Nat)(h:q1i prog A H LIM n g args=some r):LIM g args=some r:=qfa hx n h
theorem qcc{α:Type}[Enc α]{l:List α}{a:Nat}:(a<=(cells l).length)=(a<=l.length*Enc.sz α):=by rw[q0r]
theorem qfl{α:Type}{o:List α}{i:Nat}{x:α}(h:o[i]?=some x):o.set i x=o:=by
 refine List.ext_getElem? fun j=>?_;rw[List.getElem?_set];split
 ·rename_i e;subst e;have:=(gB.1 h).1;rw[if_pos this,h]
 ·rfl
theorem qp8{α:Type}[Enc α]{o:List α}{i n j:Nat}{x x':α}{c:T}(hn:Enc.sz α=n)(hi:i<o.length)(hj:j<n)
 (he:(enc x).set j c=enc x'):setCells (cells (o.set i x)) (i*n+j) [c]=cells (o.set i x'):=by
 subst hn;rw[<- qea o _ i rfl x hi,<- qea o _ i rfl x' hi,<- he]
 have hle:i*Enc.sz α+Enc.sz α<=o.length*Enc.sz α:=by
  rw[<- Nat.succ_mul];exact gAO _ hi
 have hl:=q0r o;refine List.ext_getElem? fun q=>?_;have hlen:(setCells (cells o) (i*Enc.sz α) (enc x)).length=(cells o).length:=q37 _ _ _;have l1:(enc x).length=Enc.sz α:=Enc.len x;have l2:((enc x).set j c).length=Enc.sz α:=by rw[List.length_set];exact l1
 rw[q3a [c] _ _ _ (by rw[hlen,List.length_singleton];omega),q3a (enc x) _ _ _ (by omega),q3a ((enc x).set j c) _ _ _ (by omega),l1,l2,List.length_singleton];by_cases hq:i*Enc.sz α+j=q
 ·subst hq;rw[if_pos ⟨by omega,by omega⟩,if_pos ⟨by omega,by omega⟩,List.getElem?_set,if_pos (by omega),if_pos (by omega)];simp
 ·rw[if_neg (by omega)];split
  ·rw[List.getElem?_set,if_neg (by omega)]
  ·rfl
end Ev.Ty
end
section
namespace Ev.Ty
open Go Ev
end Ev.Ty
end
section
namespace Ev.Ty
open Go Ev
open Enc (enc)
open Sm (sm)
def inR(n a b:Int):Bool:=decide (a<=n/\n<=b)
theorem q2y(n a b:Int):Call F.q2y [.int .i64 n,.int .i64 a,.int .i64 b] (.bool (inR n a b)):=by
 refine q0s rfl 0 ((q2y.ev _ _ _ _).trans ?_);simp only[evz,Nat.reduceLT,inR,ge_iff_le];by_cases h:a<=n <;> simp[h]
theorem q1b(n a b:Int):Call F.q1b [.int .i64 n,.int .i64 a,.int .i64 b] (.bool (inR n a b)):=by
 refine q0s rfl 0 ((q1b.ev _ _ _ _).trans ?_);simp only[evz,Nat.reduceLT,inR,ge_iff_le];by_cases h:a<=n <;> simp[h]
def qhm{β:Type}[DecidableEq β](l:List β):Bool := !decide l.Nodup
theorem qko{β:Type}[DecidableEq β](l:List β):qhm l=true<->∃i j,j<i/\∃(h:i<l.length)(h':j<l.length),l[i]=l[j]:=by
 unfold qhm;rw[Bool.not_eq_true',decide_eq_false_iff_not,List.Nodup,List.pairwise_iff_getElem];constructor
 ·intro h;simp only[Classical.not_forall]at h;obtain⟨i,j,h1,h2,h3,h4⟩:=h;simp only[ne_eq,Classical.not_not]at h4;exact⟨j,i,h3,h2,h1,h4.symm⟩
 ·rintro⟨i,j,h1,h2,h3,h4⟩ h;exact h j i h3 h2 h1 h4.symm
theorem qni{α β:Type}[DecidableEq β](f:α->β)(l:List α):((List.range l.length).any fun k=>l[k]?.any fun x=>decide (idx (fun y=>decide (f y=f x)) l≠(k:Nat)))=qhm (l.map f):=by
 rw[Bool.eq_iff_iff,qko];simp only[List.any_eq_true,List.mem_range,gAG,List.getElem_map];constructor
 ·rintro⟨k,hk,h⟩;rw[gA hk,Option.any_some]at h;simp only[gS]at h;rcases q93 (fun y=>decide (f y=f l[k])) l with⟨_,h1⟩|⟨i,hi,h1,h2,h3⟩
  ·have:=h1 l[k] (gG hk);simp at this
  ·rw[h1]at h;simp only[gS]at h2;rcases Nat.lt_trichotomy i k with hlt|heq|hgt
   ·exact⟨k,i,hlt,hk,hi,h2.symm⟩
   ·subst heq;simp at h
   ·have:=h3 k hgt;simp at this
 ·rintro⟨i,j,hji,hi,hj,he⟩;refine⟨i,hi,?_⟩;rw[gA hi,Option.any_some];simp only[gS];rcases q93 (fun y=>decide (f y=f l[i])) l with⟨h0,_⟩|⟨k,hk,h1,h2,h3⟩
  ·rw[h0];omega
  ·rw[h1];intro hk';have:k=i:=by omega
   subst this;have:=h3 j hji;simp[he]at this
theorem qo7{α β:Type}[DecidableEq β](f:α->β)(l:List α):((List.range l.length).any fun i=>(List.range i).any fun j=>l[i]?.any fun x=>l[j]?.any fun y=>decide (f x=f y))=qhm (l.map f):=by
 rw[Bool.eq_iff_iff,qko];simp only[List.any_eq_true,List.mem_range,gAG,List.getElem_map];constructor
 ·rintro⟨i,hi,j,hj,h⟩;rw[gA hi,gA (show j<l.length by omega)]at h;exact⟨i,j,hj,hi,by omega,by simpa using h⟩
 ·rintro⟨i,j,hji,hi,hj,he⟩;refine⟨i,hi,j,hji,?_⟩;rw[gA hi,gA hj];simpa using he
def q9x(b:UInt8):Bool:=decide (97<=b.toNat/\b.toNat<=122)
def qbq(s:ByteArray):Bool:=decide (1<=s.size/\s.size<=3)&&s.data.toList.all q9x
def q9l:ByteArray:=ByteArray.mk #[97,98,99,100,101,102,103,104,105,106,107,108,109,110,111,112,113,114,115,116,117,118,119,120,121,122]
theorem qna(b:UInt8):q9l.data.toList.contains b=q9x b:=by
 have h:∀n:Fin 256,q9l.data.toList.contains (UInt8.ofNat n.val)=q9x (UInt8.ofNat n.val):=by decide +kernel
 have:=h ⟨b.toNat,b.toNat_lt⟩;simpa using this
theorem qdd{α:Type}(p:α->Bool):∀l:List α,(l.dropWhile p).isEmpty=l.all p
 |[]=>rfl
 |x::l=>by
  rw[List.dropWhile_cons,List.all_cons];cases hp:p x with
  |true=>simpa using qdd p l
  |false=>simp
theorem qnu(l:List UInt8):(Lib.trimS l q9l.data.toList).isEmpty=l.all q9x:=by
 have e:(q9l.data.toList.contains ·)=q9x:=funext qna;unfold Lib.trimS Lib.trimLeftS;rw[e,qdd];unfold Lib.trimRightS;rw[e,List.all_reverse]
 have:∀l:List UInt8,(l.dropWhile q9x).all q9x=l.all q9x:=by
  intro l;induction l with
  |nil=>rfl
  |cons x l ih=>
   rw[List.dropWhile_cons];cases hp:q9x x with
   |true=>simp[hp,ih]
   |false=>simp[hp]
 rw[this,List.all_reverse]
theorem qa0(s:ByteArray)(h:s.size<=3):Call F.qa0 [.str s,.str q9l] (.str ⟨(Lib.trimS s.data.toList q9l.data.toList).toArray⟩):=by
 refine qel (e:=trimE) rfl (Ev.of fun m=>?_);show(bif decide (s.size<=9223372036854775807)&&decide (q9l.size<4294967281)&&q9l.data.toList.all (fun b=>decide (b.toNat<128))then _ else _)=_;rw[decide_eq_true (by omega),show decide (q9l.size<4294967281)=true by decide +kernel,show q9l.data.toList.all (fun b=>decide (b.toNat<128))=true by decide +kernel];rfl
theorem q87(s:ByteArray):Call F.q87 [.str s] (.bool (qbq s)):=by
 refine q0s rfl 0 ((q87.ev _ _).trans ?_);simp only[evz,Nat.reduceLT,ge_iff_le,qbq];by_cases h1:1<=s.size
 ·by_cases h2:s.size<=3
  ·have h1':(1:Int)<=s.size:=by omega
   have h2':(s.size:Int)<=3:=by omega
   rw[show(ByteArray.mk #[97,98,99,100,101,102,103,104,105,106,107,108,109,110,111,112,113,114,115,116,117,118,119,120,121,122])=q9l from rfl];simp only[h1,h2,h1',h2',(qa0 s h2).eq,evz,Nat.reduceLT,and_self,Bool.true_and];rw[<- qnu];congr 3;rw[Bool.eq_iff_iff,gS,List.isEmpty_iff];simp
  ·have h1':(1:Int)<=s.size:=by omega
   have h2':¬(s.size:Int)<=3:=by omega
   simp only[h1,h2,h1',h2',evz,Nat.reduceLT,and_false,Bool.false_and]
 ·have h1':¬(1:Int)<=s.size:=by omega
  simp only[h1,h1',evz,Nat.reduceLT,false_and,Bool.false_and]
theorem qw7{s:ByteArray}{k:Nat}(h:k<s.data.toList.length):s.data.getD k 0=s.data.toList[k]:=by
 simp at h;simp[Array.getD,h]
theorem q2k(s:ByteArray):Call F.q2k [.str s] (.bool (qbq s)):=by
 refine q0s rfl (s.size+1) ((q2k.ev _ _).trans ?_);simp only[evz,Nat.reduceLT,gt_iff_lt,qbq];by_cases h1:1<=s.size
 ·by_cases h2:s.size<=3
  ·have h1':¬(s.size:Int)<1:=by omega
   have h2':¬(3:Int)<s.size:=by omega
   simp only[h1,h2,h1',h2',if_false,and_self,decide_true,Bool.true_and];have hsz:s.data.toList.length=s.size:=by rw[Array.length_toList];rfl
   refine(q8s (l:=s.data.toList) (p:=fun b=>!q9x b) (S:=fun m k=>q2k.at0 (s.size+1) m (q2k.st0 s (k:Nat))) (r:=some (.bool false,[])) (z:=some (.bool true,[])) (fun m k h=>?_) (fun m=>?_) (by omega)).trans ?_
   ·have h':k<s.size:=by omega
    simp only[q2k.next0,q2k.round0,evz,Nat.reduceLT,h',qw7 h];rw[q0l (by omega)];unfold q9x;by_cases c1:s.data.toList[k].toNat<97
    ·have c1':(s.data.toList[k].toNat:Int)<97:=by omega
     rw[if_pos c1',if_pos (by simp only[Bool.not_eq_true',decide_eq_false_iff_not];omega)]
    ·have c1':¬(s.data.toList[k].toNat:Int)<97:=by omega
     rw[if_neg c1'];by_cases c2:122<s.data.toList[k].toNat
     ·have c2':(s.data.toList[k].toNat:Int)>122:=by omega
      rw[if_pos c2',if_pos (by simp only[Bool.not_eq_true',decide_eq_false_iff_not];omega)]
     ·have c2':¬(s.data.toList[k].toNat:Int)>122:=by omega
      rw[if_neg c2',if_neg (by simp only[Bool.not_eq_true',decide_eq_false_iff_not];omega)]
   ·rw[hsz];simp only[q2k.next0,q2k.round0,evz,Nat.reduceLT,gAK]
   ·have:s.data.toList.any (fun b=>!q9x b) = !s.data.toList.all q9x:=by rw[List.not_all_eq_any_not]
    rw[this];cases s.data.toList.all q9x <;> rfl
  ·have h1':¬(s.size:Int)<1:=by omega
   have h2':(3:Int)<s.size:=by omega
   simp only[h1,h2,h1',h2',evz,Nat.reduceLT,and_false,Bool.false_and]
 ·have h1':(s.size:Int)<1:=by omega
  simp only[h1,h1',evz,Nat.reduceLT,false_and,Bool.false_and]
def q7s(x:Symbol):Option Int:=if qbq x.name=false then some 5 else if inR x.arity 0 2=false then some 3 else none
def q2w(s:Signature):Int:=
 if s.symbols.length<1\/6<s.symbols.length then 2
 else match s.symbols.findSome? q7s with
  |some c=>c
  |none=>if qhm (s.symbols.map (·.name))then 6 else if s.symbols.any (fun x=>decide (x.arity=0))then 0 else 4
theorem q03(l:List Symbol)(hs:l.length<=4294967296)(n:ByteArray):Call F.q1m [slc l,.clo F.q47 [.rref [.str n] 0]] (.int .i64 (idx (fun x=>decide (x.name=n)) l)):=by
 refine q0s rfl (l.length+1) ((q03.ev _ _ _).trans ?_);refine q84 (S:=fun m k=>q03.at0 (l.length+1) m (q03.st0 (cells l) n _ (k:Nat))) (fun m k h=>?_) (fun m=>?_) (gAR _)
 ·have hlk:l[k]?=some l[k]:=gA h
  have hc:Call F.q47 [.agg [.str l[k].name,.int .i64 l[k].arity],.rref [.str n] 0] (.bool (decide (l[k].name=n))):=by
   refine q0s rfl 0 ((q47.ev _ _ _ _).trans ?_);simp only[evz,Nat.reduceLT]
  simp only[q03.next0,q03.round0,evz,Nat.reduceLT,h,hlk,q2t,hc.eq];rw[q0l (by omega)];simp only[gS]
 ·simp only[q03.next0,q03.round0,evz,Nat.reduceLT,gAK]
theorem q5q(l:List Symbol)(hs:l.length<=4294967296)(n:ByteArray):Call F.q5q [.agg [slc l],.str n] (.int .i64 (idx (fun x=>decide (x.name=n)) l)):=by
 refine q0s rfl 0 ((q5q.ev _ _ _).trans ?_);simp only[evz,Nat.reduceLT,(q03 l hs n).eq]
theorem q02(l:List Symbol)(hs:l.length<=4294967296):Call F.q1m [slc l,.clo F.q2z []] (.int .i64 (idx (fun x=>decide (x.arity=0)) l)):=by
 refine q0s rfl (l.length+1) ((q02.ev _ _).trans ?_);refine q84 (S:=fun m k=>q02.at0 (l.length+1) m (q02.st0 (cells l) _ (k:Nat))) (fun m k h=>?_) (fun m=>?_) (gAR _)
 ·have hlk:l[k]?=some l[k]:=gA h
  have hc:Call F.q2z [.agg [.str l[k].name,.int .i64 l[k].arity]] (.bool (decide (l[k].arity=0))):=by
   refine q0s rfl 0 ((q2z.ev _ _ _).trans ?_);simp only[evz,Nat.reduceLT]
  simp only[q02.next0,q02.round0,evz,Nat.reduceLT,h,hlk,q2t,hc.eq];rw[q0l (by omega)];simp only[gS]
 ·simp only[q02.next0,q02.round0,evz,Nat.reduceLT,gAK]
theorem q36(l:List Symbol)(hs:l.length<=4294967296):Call F.q66 [slc l,.clo F.q2z []] (.bool (l.any fun x=>decide (x.arity=0))):=by
 refine q0s rfl 0 ((q36.ev _ _).trans ?_);simp only[evz,Nat.reduceLT,(q02 l hs).eq,q7o]
theorem q05(l:List Symbol)(hs:l.length<=4294967296):Call F.q05 [.agg [slc l]] (.int .i64 (q2w ⟨l⟩)):=by
 refine q0s rfl (l.length+1) ((q05.ev _ _).trans ?_);simp only[evz,Nat.reduceLT,q2w,gt_iff_lt];by_cases h1:l.length<1
 ·have h1':(l.length:Int)<1:=by omega
  simp only[h1,h1',evz,Nat.reduceLT,true_or]
 by_cases h2:6<l.length
 ·have h1':¬(l.length:Int)<1:=by omega
  have h2':(6:Int)<l.length:=by omega
  simp only[h1,h1',h2,h2',evz,Nat.reduceLT,or_true]
 have h1':¬(l.length:Int)<1:=by omega
 have h2':¬(6:Int)<l.length:=by omega
 simp only[h1,h1',h2,h2',if_false,or_self]
 have two:=qdi (n:=l.length) (bad:=fun k=>l[k]?.any fun x=>decide (idx (fun y=>decide (y.name=x.name)) l≠(k:Nat)))
  (S:=fun m k=>q05.at2 (l.length+1) m (q05.st2 (cells l) l.length (k:Nat) (cells l))) (r:=some (.int .i64 6,[])) (z:=if l.any (fun x=>decide (x.arity=0))then some (.int .i64 0,[])else some (.int .i64 4,[]))
  (fun m k h=>by
   have hlk:l[k]?=some l[k]:=gA h;simp only[q05.next2,q05.round2,evz,Nat.reduceLT,h,hlk,q2t,(q5q l hs _).eq];rw[q0l (by omega)];by_cases e:idx (fun y=>decide (y.name=l[k].name)) l=(k:Int) <;> simp[e])
  (fun m=>by
   simp only[q05.next2,q05.round2,evz,Nat.reduceLT,gAK,(q36 l hs).eq];cases l.any (fun x=>decide (x.arity=0)) <;> rfl) (gAR _)
 have one:=q82 (l:=l) (g:=fun x=>(q7s x).map fun c=>some (.int .i64 c,[]))
  (S:=fun m k=>q05.at0 (l.length+1) m (q05.st0 (cells l) l.length (k:Nat) (cells l)))
  (fun m k h=>by
   have hlk:l[k]?=some l[k]:=gA h;simp only[q05.next0,q05.round0,evz,Nat.reduceLT,h,hlk,q2t,(q87 _).eq,(q2y _ _ _).eq];rw[q0l (by omega)];cases h5:qbq l[k].name with
   |false=>simp[q7s,h5]
   |true=>cases h6:inR l[k].arity 0 2 <;> simp[q7s,h5,h6])
  (fun m=>by simp only[q05.next0,q05.round0,evz,Nat.reduceLT,gAK];rfl) (gAR _)
 refine one.trans ?_;rw[show q05.at2 (l.length+1) (l.length+1) (q05.st2 (cells l) l.length 0 (cells l))=_ from two,qni (fun y:Symbol=>y.name),q6k];cases l.findSome? q7s with
 |some c=>rfl
 |none=>cases qhm (l.map fun x=>x.name) <;> cases l.any (fun x=>decide (x.arity=0)) <;> rfl
theorem q00(l:List Symbol)(hs:l.length<=4294967296):Call F.q00 [.agg [slc l]] (.int .i64 (q2w ⟨l⟩)):=by
 obtain⟨n,hn⟩:∃n,n=l.length+1:=⟨_,rfl⟩;refine q0s rfl n ((q00.ev _ _).trans ?_);simp only[evz,Nat.reduceLT,q2w,gt_iff_lt];by_cases h1:l.length<1
 ·have h1':(l.length:Int)<1:=by omega
  simp only[h1,h1',evz,Nat.reduceLT,true_or]
 by_cases h2:6<l.length
 ·have h1':¬(l.length:Int)<1:=by omega
  have h2':(6:Int)<l.length:=by omega
  simp only[h1,h1',h2,h2',evz,Nat.reduceLT,or_true]
 have h1':¬(l.length:Int)<1:=by omega
 have h2':¬(6:Int)<l.length:=by omega
 simp only[h1,h1',h2,h2',if_false,or_self]
 have six:=q8s (l:=l) (p:=fun x=>decide (x.arity=0)) (S:=fun m k=>q00.at6 n m (q00.st6 l.length (k:Nat) (cells l))) (r:=some (.int .i64 0,[])) (z:=some (.int .i64 4,[]))
  (fun m k h=>by
   have hlk:l[k]?=some l[k]:=gA h;simp only[q00.next6,q00.round6,evz,Nat.reduceLT,h,hlk,q2t];rw[q0l (by omega)];simp only[gS])
  (fun m=>by simp only[q00.next6,q00.round6,evz,Nat.reduceLT,gAK]) (show l.length<n by omega)
 have two:=qdi (n:=l.length) (bad:=fun i=>(List.range i).any fun j=>l[i]?.any fun x=>l[j]?.any fun y=>decide (x.name=y.name))
  (S:=fun m i=>q00.at2 n m (q00.st2 l.length (i:Nat) (cells l))) (r:=some (.int .i64 6,[]))
  (fun m i h=>by
   have hlk:l[i]?=some l[i]:=gA h;simp only[q00.next2,q00.round2,evz,Nat.reduceLT,h]
   refine qdi (n:=i) (f:=n) (bad:=fun j=>l[i]?.any fun x=>l[j]?.any fun y=>decide (x.name=y.name))
    (S:=fun m' j=>q00.at4 n (q00.at2 n m) m' (q00.st4 l.length (i:Nat) (j:Nat) (cells l))) (fun m' j hj=>?_) (fun m'=>?_) (by omega)
   ·have hj':j<l.length:=by omega
    have hjk:l[j]?=some l[j]:=gA hj';simp only[q00.next4,q00.round4,evz,Nat.reduceLT,h,hj,hj',hlk,hjk,q2t];rw[q0l (by omega)];by_cases e:l[i].name=l[j].name <;> simp[e]
   ·simp only[q00.next4,q00.round4,evz,Nat.reduceLT,gAK];rw[q0l (by omega)])
  (fun m=>by simp only[q00.next2,q00.round2,evz,Nat.reduceLT,gAK];exact six) (show l.length<n by omega)
 have one:=q82 (l:=l) (g:=fun x=>(q7s x).map fun c=>some (.int .i64 c,[]))
  (S:=fun m k=>q00.at0 n m (q00.st0 l.length (k:Nat) (cells l)))
  (fun m k h=>by
   have hlk:l[k]?=some l[k]:=gA h;simp only[q00.next0,q00.round0,evz,Nat.reduceLT,h,hlk,q2t,(q2k _).eq,(q1b _ _ _).eq];rw[q0l (by omega)];cases h5:qbq l[k].name with
   |false=>simp[q7s,h5]
   |true=>cases h6:inR l[k].arity 0 2 <;> simp[q7s,h5,h6])
  (fun m=>by simp only[q00.next0,q00.round0,evz,Nat.reduceLT,gAK];rfl) (show l.length<n by omega)
 refine one.trans ?_;rw[show q00.at2 n n (q00.st2 l.length 0 (cells l))=_ from two,qo7 (fun y:Symbol=>y.name),q6k];cases l.findSome? q7s with
 |some c=>rfl
 |none=>cases qhm (l.map fun x=>x.name) <;> cases l.any (fun x=>decide (x.arity=0)) <;> rfl
theorem q5f{n a b:Int}:inR n a b=true<->a<=n/\n<=b:=by unfold inR;simp
structure SigOk(s:Signature):Prop where
 pos:1<=s.symbols.length
 le:s.symbols.length<=6
 name:∀x∈s.symbols,qbq x.name=true
 arity:∀x∈s.symbols,0<=x.arity/\x.arity<=2
 nodup:(s.symbols.map (·.name)).Nodup
 const:∃x∈s.symbols,x.arity=0
theorem q7t{α β:Type}{f:α->Option β}:∀{l:List α},l.findSome? f=none<->∀x∈l,f x=none
 |[]=>by simp
 |x::l=>by
  rw[List.findSome?_cons];cases h:f x with
  |some b=>simp[h]
  |none=>simp[h,q7t (l:=l)]
theorem q51(s:Signature):q2w s=0<->SigOk s:=by
 unfold q2w;constructor
 ·intro h;split at h
  ·cases h
  ·rename_i h1;split at h
   ·rename_i c hc;obtain⟨x,hx,hf⟩:=List.exists_of_findSome?_eq_some hc;unfold q7s at hf;split at hf
    ·cases hf;cases h
    ·split at hf
     ·cases hf;cases h
     ·cases hf
   ·rename_i hn;rw[q7t]at hn;split at h
    ·cases h
    ·rename_i ht;split at h
     ·rename_i ha
      have hx:∀x∈s.symbols,qbq x.name=true/\inR x.arity 0 2=true:=fun x hx=>by
       have:=hn x hx;unfold q7s at this;split at this
       ·cases this
       ·split at this
        ·cases this
        ·rename_i h1 h2;exact⟨by simpa using h1,by simpa using h2⟩
      refine⟨by omega,by omega,fun x h=>(hx x h).1,fun x h=>q5f.1 (hx x h).2,?_,?_⟩
      ·unfold qhm at ht;simpa using ht
      ·rw[List.any_eq_true]at ha;obtain⟨x,h1,h2⟩:=ha;exact⟨x,h1,by simpa using h2⟩
     ·cases h
 ·intro h;rw[if_neg (by have:=h.pos;have:=h.le;omega)]
  have:s.symbols.findSome? q7s=none:=q7t.2 fun x hx=>by
   unfold q7s;rw[if_neg (by simp[h.name x hx]),if_neg (by have:=q5f.2 (h.arity x hx);simp[this])]
  rw[this];simp only;rw[if_neg (by unfold qhm;simpa using h.nodup),if_pos];rw[List.any_eq_true];obtain⟨x,h1,h2⟩:=h.const;exact⟨x,h1,by simpa using h2⟩
theorem qlw{z k:Nat}(hz:z<=3)(hk:k<=12):z ^ k<=531441:=
 Nat.le_trans (Nat.pow_le_pow_left hz k) (Nat.le_trans (Nat.pow_le_pow_right (by omega) hk) (by decide))
theorem q2u(z r:Nat)(hz:z<=3)(hr:r<=12):Call F.q2u [.int .i64 z,.int .i64 r] (.int .i64 (z ^ r:Nat)):=by
 refine q0s rfl (r+1) ((q2u.ev _ _ _).trans ?_)
 have:∀m k,k<=r->r<m+k->q2u.at0 (r+1) m (q2u.st0 z (z ^ k:Nat) r (k:Nat))=some (.int .i64 (z ^ r:Nat),[]):=by
  intro m;induction m with
  |zero=>intros;omega
  |succ m ih=>
   intro k hk hm;simp only[q2u.next0,q2u.round0,evz,Nat.reduceLT];by_cases h:k<r
   ·have hb:=qlw (k:=k.succ) hz (by omega);rw[if_pos h,q0l (by omega),<- Int.natCast_mul,<- Nat.pow_succ,q1v (by omega)];exact ih (k+1) (by omega) (by omega)
   ·obtain rfl:k=r:=by omega
    rw[if_neg h]
 exact this (r+1) 0 (by omega) (by omega)
theorem q4t(z r:Nat)(hz:z<=3)(hr:r<=12):Call F.q4t [.int .i64 z,.int .i64 r] (.int .i64 (z ^ r:Nat)):=by
 induction r with
 |zero=>exact q0s rfl 0 ((q4t.ev _ _ _).trans rfl)
 |succ r ih=>
  refine q0s rfl 0 ((q4t.ev _ _ _).trans ?_);have hb:=qlw (k:=r.succ) hz hr;have h1:¬(((r+1:Nat):Int)=0):=by omega
  have h2:IntKind.wrap .i64 (((r+1:Nat):Int)-1)=(r:Nat):=by rw[q1v (by omega)];omega
  simp only[evz,Nat.reduceLT,h1,h2,(ih (by omega)).eq];rw[<- Int.natCast_mul,Nat.mul_comm,<- Nat.pow_succ,q1v (by omega)]
def q5p(z:Int)(x:Symbol×List Int):Option Int:=
 if x.2.length≠z.toNat ^ x.1.arity.toNat then some 2 else if x.2.any (fun n=>!inR n 0 (z-1))then some 3 else none
def q5u(s:Signature)(a:Algebra):Int:=
 if q2w s≠0 then q2w s
 else if inR a.size 1 3=false then 3
 else if a.tables.length≠s.symbols.length then 2
 else match (s.symbols.zip a.tables).findSome? (q5p a.size)with
  |some c=>c
  |none=>0
theorem q04(l:List Int)(hs:l.length<=4294967296)(z:Int)(t:List (List Int))(hz:1<=z/\z<=3) :
 Call F.q0n [slc l,.clo F.q34 [.rref [.int .i64 z,slc t] 0]] (.int .i64 (idx (fun n=>!inR n 0 (z-1)) l)):=by
 refine q0s rfl (l.length+1) ((q04.ev _ _ _ _).trans ?_);refine q84 (S:=fun m k=>q04.at0 (l.length+1) m (q04.st0 (cells l) z _ _ (k:Nat))) (fun m k h=>?_) (fun m=>?_) (gAR _)
 ·have hlk:l[k]?=some l[k]:=gA h
  have hc:Call F.q34 [.int .i64 l[k],.rref [.int .i64 z,slc t] 0] (.bool (!inR l[k] 0 (z-1))):=by
   refine q0s rfl 0 ((q34.ev _ _ _ _).trans ?_);simp only[evz,Nat.reduceLT,q1v (x:=z-1) (by omega),(q2y _ _ _).eq]
  simp only[q04.next0,q04.round0,evz,Nat.reduceLT,h,hlk,q23,hc.eq];rw[q0l (by omega)];cases inR l[k] 0 (z-1) <;> rfl
 ·simp only[q04.next0,q04.round0,evz,Nat.reduceLT,gAK]
theorem q3h(l:List Int)(hs:l.length<=4294967296)(z:Int)(t:List (List Int))(hz:1<=z/\z<=3) :
 Call F.q2a [slc l,.clo F.q34 [.rref [.int .i64 z,slc t] 0]] (.bool (l.any fun n=>!inR n 0 (z-1))):=by
 refine q0s rfl 0 ((q3h.ev _ _ _ _).trans ?_);simp only[evz,Nat.reduceLT,(q04 l hs z t hz).eq,q7o]
theorem qkl{a b:Nat}:((a:Int)=(b:Int))=(a=b):=by rw[eq_iff_iff];omega
theorem q11(l:List Symbol)(z:Int)(t:List (List Int))(hs:l.length<=4294967296)(ht:sm 4294967296 t) :
 Call F.q11 [.agg [slc l],.agg [.int .i64 z,slc t]] (.int .i64 (q5u ⟨l⟩ ⟨z,t⟩)):=by
 have htl:=ht.1;refine q0s rfl (t.length+1) ((q11.ev _ _ _ _).trans ?_);simp only[evz,Nat.reduceLT,(q05 l hs).eq,(q2y _ _ _).eq,q5u];by_cases h1:q2w ⟨l⟩=0
 case neg=>simp only[h1,evz,Nat.reduceLT,ne_eq,gX]
 have ok:=(q51 _).1 h1;simp only[h1,evz,Nat.reduceLT,ne_eq,gW];cases h2:inR z 1 3 with
 |false=>simp only[evz,Nat.reduceLT]
 |true=>
  have hz:=q5f.1 h2;simp only[evz,Nat.reduceLT,qkl,Bool.true_eq_false];by_cases h3:t.length=l.length
  case neg=>simp only[h3,evz,Nat.reduceLT,ne_eq,gX]
  simp only[h3,evz,Nat.reduceLT,ne_eq,gW];have hzip:(l.zip t).length=t.length:=by rw[List.length_zip];omega
  have one:=q82 (l:=l.zip t) (g:=fun x=>(q5p z x).map fun c=>some (.int .i64 c,[])) (z:=some (.int .i64 0,[]))
   (S:=fun m k=>q11.at0 (t.length+1) m (q11.st0 (cells t) l.length (k:Nat) (cells l) z (cells t)))
   (fun m k h=>by
    have hk:k<t.length:=by omega
    have hkl:k<l.length:=by omega
    have htk:t[k]?=some t[k]:=gA hk;have hlk:l[k]?=some l[k]:=gA hkl;have har:=ok.arity l[k] (gG hkl);obtain⟨r,hr⟩:∃r:Nat,l[k].arity=r:=⟨l[k].arity.toNat,by omega⟩;obtain⟨y,hy⟩:∃y:Nat,z=y:=⟨z.toNat,by omega⟩;have hp:=q2u y r (by omega) (by omega);rw[<- hy,<- hr]at hp;simp only[q11.next0,q11.round0,evz,Nat.reduceLT,hk,hkl,htk,hlk,q2t,q59,hp.eq,qkl,(q3h t[k] (ht.2 _ (gG hk)).1 z t hz).eq];rw[q0l (by omega)];simp only[q5p,List.getElem_zip,hr,hy,gR];by_cases h6:t[k].length=y ^ r
    ·simp only[h6,if_true,ne_eq,gW,if_false];cases t[k].any fun n=>!inR n 0 ((y:Int)-1) <;> rfl
    ·simp only[h6,if_false,ne_eq,gX,if_true];rfl)
   (fun m=>by rw[hzip];simp only[q11.next0,q11.round0,evz,Nat.reduceLT,h3,gAK]) (show(l.zip t).length<t.length+1 by omega)
  refine Eq.trans ?_ (one.trans ?_)
  ·rw[h3];rfl
  ·rw[q6k];cases (l.zip t).findSome? (q5p z) <;> rfl
theorem q0c(l:List Symbol)(z:Int)(t:List (List Int))(hs:l.length<=4294967296)(ht:sm 4294967296 t) :
 Call F.q0c [.agg [slc l],.agg [.int .i64 z,slc t]] (.int .i64 (q5u ⟨l⟩ ⟨z,t⟩)):=by
 have htl:=ht.1;obtain⟨n,hn,hn2⟩:∃n,t.length<n/\∀x∈t,x.length<n:=⟨4294967297,by omega,fun x hx=>by have:=(ht.2 x hx).1;omega⟩;refine q0s rfl n ((q0c.ev _ _ _ _).trans ?_);simp only[evz,Nat.reduceLT,(q00 l hs).eq,(q1b _ _ _).eq,q5u];by_cases h1:q2w ⟨l⟩=0
 case neg=>simp only[h1,evz,Nat.reduceLT,ne_eq,gX]
 have ok:=(q51 _).1 h1;simp only[h1,evz,Nat.reduceLT,ne_eq,gW];cases h2:inR z 1 3 with
 |false=>simp only[evz,Nat.reduceLT]
 |true=>
  have hz:=q5f.1 h2;simp only[evz,Nat.reduceLT,qkl,Bool.true_eq_false];by_cases h3:t.length=l.length
  case neg=>simp only[h3,evz,Nat.reduceLT,ne_eq,gX]
  simp only[h3,evz,Nat.reduceLT,ne_eq,gW];have hzip:(l.zip t).length=t.length:=by rw[List.length_zip];omega
  have one:=q82 (l:=l.zip t) (g:=fun x=>(q5p z x).map fun c=>some (.int .i64 c,[])) (z:=some (.int .i64 0,[]))
   (S:=fun m k=>q0c.at0 n m (q0c.st0 (k:Nat) (cells l) z (cells t)))
   (fun m k h=>by
    have hk:k<t.length:=by omega
    have hkl:k<l.length:=by omega
    have htk:t[k]?=some t[k]:=gA hk;have hlk:l[k]?=some l[k]:=gA hkl;have har:=ok.arity l[k] (gG hkl);obtain⟨r,hr⟩:∃r:Nat,l[k].arity=r:=⟨l[k].arity.toNat,by omega⟩;obtain⟨y,hy⟩:∃y:Nat,z=y:=⟨z.toNat,by omega⟩;have hp:=q4t y r (by omega) (by omega);rw[<- hy,<- hr]at hp
    have two:=q8s (l:=t[k]) (p:=fun n=>!inR n 0 (z-1)) (S:=fun m' j=>q0c.at2 n (q0c.at0 n m) m' (q0c.st2 (k:Nat) (j:Nat) (cells l) z (cells t)))
     (r:=some (.int .i64 3,[])) (z:=q0c.at0 n m (q0c.st0 ((k+1:Nat):Int) (cells l) z (cells t))) (f:=n)
     (fun m' j hj=>by
      have hjk:t[k][j]?=some t[k][j]:=gA hj;have hjl:=(ht.2 t[k] (gG hk)).1;simp only[q0c.next2,q0c.round2,evz,Nat.reduceLT,hk,htk,hj,hjk,q59,q23,q1v (x:=z-1) (by omega),(q1b _ _ _).eq];rw[q0l (by omega)];cases inR t[k][j] 0 (z-1) <;> rfl)
     (fun m'=>by
      simp only[q0c.next2,q0c.round2,evz,Nat.reduceLT,hk,htk,q59,gAK];rw[q0l (by omega)])
     (hn2 _ (gG hk))
    simp only[q0c.next0,q0c.round0,evz,Nat.reduceLT,hk,hkl,htk,hlk,q2t,q59,hp.eq,qkl];rw[show q0c.at2 n (q0c.at0 n m) n (q0c.st2 (k:Nat) 0 (cells l) z (cells t))=_ from two];simp only[q5p,List.getElem_zip,hr,hy,gR];by_cases h6:t[k].length=y ^ r
    ·simp only[h6,if_true,ne_eq,gW,if_false];cases t[k].any fun n=>!inR n 0 ((y:Int)-1) <;> rfl
    ·simp only[h6,if_false,ne_eq,gX,if_true];rfl)
   (fun m=>by rw[hzip];simp only[q0c.next0,q0c.round0,evz,Nat.reduceLT,gAK]) (show(l.zip t).length<n by omega)
  refine one.trans ?_;rw[q6k];cases (l.zip t).findSome? (q5p z) <;> rfl
def ar(l:List Symbol)(n:Int):Nat:=if n<0 then 0 else((l[n.toNat]?).map fun x=>x.arity.toNat).getD 0
def q5w(l:List Symbol)(n:Int):Bool:=inR n 0 (l.length-1)||inR n (-12) (-1)
def skip(a:Int->Nat):Nat->List Int->Option (List Int)
 |0,l=>some l
 |_+1,[]=>none
 |k+1,n::l=>skip a (k+a n) l
def q4m(l:List Symbol)(t:List Int):Int:=
 if t.length<1\/24<t.length then 2 else if t.any (fun n=>!q5w l n)then 3 else if skip (ar l) 1 t=some []then 0 else 1
def qde(s:Signature)(t:List Int):Int:=if q2w s≠0 then q2w s else q4m s.symbols t
section
variable {a:Int->Nat}
@[simp] theorem q3t(l:List Int):skip a 0 l=some l:=by cases l <;> rfl
theorem qaq:∀{l r:List Int}{k:Nat},skip a k l=some r->∃p,l=p++r/\(0<k->0<p.length)
 |l,r,0,h=>by rw[q3t]at h;cases h;exact⟨[],rfl,by omega⟩
 |[],r,k+1,h=>by cases h
 |n::l,r,k+1,h=>by
  obtain⟨p,hp,_⟩:=qaq (l:=l) (k:=k+a n) h;exact⟨n::p,by rw[hp];rfl,by simp⟩
theorem qa3:∀(l:List Int)(j k:Nat),skip a (j+k) l=(skip a j l).bind (skip a k)
 |l,0,k=>by simp
 |[],j+1,k=>by rw[Nat.add_right_comm];rfl
 |n::l,j+1,k=>by
  rw[Nat.add_right_comm];show skip a (j+k+a n) l=(skip a (j+a n) l).bind (skip a k);rw[Nat.add_right_comm,qa3 l (j+a n) k]
theorem qjp{t r:List Int}{e k:Nat}(h:skip a k (t.drop e)=some r):r=t.drop (t.length-r.length)/\r.length<=t.length-e/\(0<k->r.length<t.length-e):=by
 obtain⟨p,hp,hk⟩:=qaq h;have hl:(t.drop e).length=p.length+r.length:=by rw[hp,gM]
 rw[gAA]at hl;refine⟨?_,by omega,fun h0=>by have:=hk h0;omega⟩;have h1:t.length-r.length=e+p.length\/t.length<=e:=by omega
 rcases h1 with h1|h1
 ·rw[h1,<- List.drop_drop,hp,List.drop_left]
 ·have:r.length=0:=by omega
  rw[gL this];simp
end
theorem q4j{l:List Symbol}{n:Int}:q5w l n=true<->(0<=n/\n<l.length)\/(-12<=n/\n <= -1):=by
 unfold q5w;rw[Bool.or_eq_true,q5f,q5f];omega
section
variable {l:List Symbol}(ok:SigOk ⟨l⟩)
include ok
theorem qqb(n:Int):ar l n<=2:=by
 unfold ar;split
 ·omega
 ·cases h:l[n.toNat]? with
  |none=>simp
  |some x=>
   have:=ok.arity x (List.mem_of_getElem? h);simp;omega
theorem q86(n:Int):Call F.q86 [.agg [slc l],.int .i64 n] (.bool (q5w l n)):=by
 have hle:=ok.le
 have h1:Call F.q6j [.agg [slc l],.int .i64 n] (.bool (inR n 0 (l.length-1))):=by
  refine q0s rfl 0 ((q6j.ev _ _ _).trans ?_);simp only[evz,Nat.reduceLT,q1v (x:=(l.length:Int)-1) (by simp at hle;omega),(q2y _ _ _).eq]
 refine q0s rfl 0 ((q86.ev _ _ _).trans ?_);simp only[evz,Nat.reduceLT,h1.eq,(q2y _ _ _).eq,q5w];cases inR n 0 (l.length-1) <;> simp[evz,Nat.reduceLT]
theorem q8e(n:Int):Call F.q8e [.rref [slc l] 0,.int .i64 n] (.bool (q5w l n)):=by
 have hle:=ok.le
 have h1:Call F.q6i [.rref [slc l] 0,.int .i64 n] (.bool (inR n 0 (l.length-1))):=by
  refine q0s rfl 0 ((q6i.ev _ _ _).trans ?_);simp only[evz,Nat.reduceLT,q1v (x:=(l.length:Int)-1) (by simp at hle;omega),(q1b _ _ _).eq]
 refine q0s rfl 0 ((q8e.ev _ _ _).trans ?_);simp only[evz,Nat.reduceLT,h1.eq,(q1b _ _ _).eq,q5w];cases inR n 0 (l.length-1) <;> simp[evz,Nat.reduceLT]
theorem qrj{n:Int}(hn:0<=n)(h:n.toNat<l.length):(l[n.toNat]).arity=(ar l n:Nat):=by
 have:=ok.arity l[n.toNat] (gG h);unfold ar;rw[if_neg (by omega),gA h];simp;omega
theorem q6l(n:Int)(h:q5w l n=true):Call F.q6l [.agg [slc l],.int .i64 n] (.int .i64 (ar l n:Nat)):=by
 refine q0s rfl 0 ((q6l.ev _ _ _).trans ?_);rw[q4j]at h;by_cases hn:n<0
 ·simp[hn,ar]
 ·obtain⟨m,rfl⟩:∃m:Nat,n=m:=⟨n.toNat,by omega⟩;have hm:m<l.length:=by omega
  have e:=qrj ok (n:=m) (by omega) (by simpa using hm);have hl:l[m]?=some l[m]:=gA hm;have hn':¬((m:Int)<0):=by omega
  simp only[evz,Nat.reduceLT,hn',hm,hl,q2t];simp at e;rw[e]
def q8t(none':Int)(t:List Int)(r:Option (List Int)):Int:=match r with
 |some r=>((t.length-r.length:Nat):Int)
 |none=>none'
theorem q2l(t:List Int)(ht:∀n∈t,q5w l n=true)(hl:t.length<=4294967296)(e:Nat)(he:e<=t.length) :
 Call F.q2l [.agg [slc l],slc t,.int .i64 e] (.int .i64 (q8t (t.length+1) t (skip (ar l) 1 (t.drop e)))):=by
 have loop:∀m k o,k<=t.length->t.length+1<m+k->o<=2*k+1->
  q2l.at0 (t.length+2) m (q2l.st0 (cells t) (k:Nat) (o:Nat) (cells l))=some (.int .i64 (q8t (t.length+1) t (skip (ar l) o (t.drop k))),[]):=by
  intro m;induction m with
  |zero=>intros;omega
  |succ m ih=>
   intro k o hk hm ho;simp only[q2l.next0,q2l.round0,evz,Nat.reduceLT,gt_iff_lt,ge_iff_le];cases o with
   |zero=>
    rw[if_neg (by omega),q3t];simp only[q8t,gAA];congr 3;omega
   |succ o=>
    rw[if_pos (by omega)];by_cases h:k<t.length
    ·have hk':t[k]?=some t[k]:=gA h;have hn:=ht t[k] (gG h);have h2:=qqb ok t[k];rw[if_neg (by omega)];simp only[h,hk',evz,Nat.reduceLT,q23,(q6l ok t[k] hn).eq];rw[q0l (by omega),q1v (x:=((ar l t[k]:Nat):Int)-1) (by omega),q1v (by omega)];rw[show((o+1:Nat):Int)+(((ar l t[k]:Nat):Int)-1)=((o+ar l t[k]:Nat):Int) by omega];rw[ih (k+1) (o+ar l t[k]) (by omega) (by omega) (by omega),gH h];rfl
    ·obtain rfl:k=t.length:=by omega
     rw[if_pos (by omega),q1v (by omega),gU (gAI _)];rfl
 refine q0s rfl (t.length+2) ((q2l.ev _ _ _ _).trans ?_);have:=loop (t.length+2) e 1 he (by omega) (by omega);exact this
theorem q25(t:List Int)(ht:∀n∈t,q5w l n=true)(hl:t.length<=4294967296)(e:Nat)(he:e<=t.length) :
 Call F.q25 [.rref [slc l] 0,slc t,.int .i64 e] (.int .i64 (q8t (-1) t (skip (ar l) 1 (t.drop e)))):=by
 obtain⟨d,hd⟩:∃d,d=t.length-e:=⟨_,rfl⟩;induction d using Nat.strongRecOn generalizing e with
 |ind d ih=>
 refine q0s rfl 4 ((q25.ev _ _ _ _).trans ?_);simp only[evz,Nat.reduceLT,ge_iff_le];by_cases h:e<t.length
 case neg=>
  obtain rfl:e=t.length:=by omega
  rw[if_pos (by omega),gU (gAI _)];rfl
 have hk':t[e]?=some t[e]:=gA h;have hn:=ht t[e] (gG h);have h2:=qqb ok t[e];rw[if_neg (by omega)];simp only[h,hk',evz,Nat.reduceLT,q23];rw[gH h];show _=some (T.int .i64 (q8t (-1) t (skip (ar l) (0+ar l t[e]) (t.drop (e+1)))),[]);rw[gAJ,q0l (by omega)];by_cases hneg:t[e]<0
 ·rw[if_pos hneg];have:ar l t[e]=0:=by unfold ar;rw[if_pos hneg]
  rw[this,q3t];simp only[q8t,gAA];congr 3;omega
 rw[if_neg hneg];rw[q4j]at hn;obtain⟨y,hy⟩:∃y:Nat,t[e]=y:=⟨t[e].toNat,by omega⟩;have hym:y<l.length:=by omega
 have hyl:l[y]?=some l[y]:=gA hym
 have hya:l[y].arity=(ar l t[e]:Nat):=by
  have:=qrj ok (n:=t[e]) (by omega) (by omega);simpa[hy]using this
 have loop:∀m i k,e<k->k<=t.length->i<=ar l t[e]->ar l t[e]<m+i->
  q25.at0 4 m (q25.st0 (cells l) (cells t) e (k:Nat) (i:Nat))=some (.int .i64 (q8t (-1) t (skip (ar l) (ar l t[e]-i) (t.drop k))),[]):=by
  intro m;induction m with
  |zero=>intros;omega
  |succ m ihm=>
   intro i k hk1 hk2 hi hm;simp only[q25.next0,q25.round0,evz,Nat.reduceLT,h,hk',q23];simp only[hy,evz,Nat.reduceLT,hym,hyl,q2t,hya];by_cases hia:i<ar l t[e]
   ·rw[hy]at hia;rw[if_pos hia,(ih (t.length-k) (by omega) k hk2 rfl).eq];simp only[evz,Nat.reduceLT];rw[<- hy]at hia;rw[show ar l ((y:Nat):Int)-i=1+(ar l t[e]-(i+1)) by rw[hy];rw[hy]at hia;omega,qa3];cases hs:skip (ar l) 1 (t.drop k)with
    |none=>rfl
    |some r=>
     obtain⟨hr1,hr2,hr3⟩:=qjp hs;have hr4:=hr3 (by omega);have hnn:¬ q8t (-1) t (some r)<0:=by show ¬((t.length-r.length:Nat):Int)<0;omega
     rw[if_neg hnn,q0l (by omega),show q8t (-1) t (some r)=((t.length-r.length:Nat):Int)from rfl,ihm (i+1) (t.length-r.length) (by omega) (by omega) (by omega) (by omega),<- hr1];rfl
   ·have:i=ar l t[e]:=by omega
    rw[if_neg (by rw[<- hy];exact hia),show ar l ((y:Nat):Int)-i=0 by rw[<- hy];omega,q3t];simp only[q8t,gAA];congr 3;omega
 have:=loop 4 0 (e+1) (by omega) (by omega) (by omega) (by omega);exact this
end
theorem qdb{l:List Symbol}{t:List Int}:(t.any fun n=>!q5w l n)=false<->∀n∈t,q5w l n=true:=by
 rw[List.any_eq_false];simp
theorem qch{a:Int->Nat}{t:List Int}:(q8t (t.length+1) t (skip a 1 t)=t.length<->skip a 1 t=some [])/\(q8t (-1) t (skip a 1 t)=t.length<->skip a 1 t=some []):=by
 cases h:skip a 1 t with
 |none=>simp[q8t];omega
 |some r=>
  obtain⟨p,hp,_⟩:=qaq h;have:r.length<=t.length:=by rw[hp];simp
  cases r with
  |nil=>simp[q8t]
  |cons x r=>
   simp only[gAB]at this;refine⟨⟨fun h=>?_,fun h=>by cases h⟩,⟨fun h=>?_,fun h=>by cases h⟩⟩ <;> (simp only[q8t,gAB]at h;omega)
theorem q3n(l:List Symbol)(ok:SigOk ⟨l⟩)(t:List Int)(hs:t.length<=4294967296) :
 Call F.q2a [slc t,.clo F.q3s [.rref [slc l] 0]] (.bool (t.any fun n=>!q5w l n)):=by
 have hi:Call F.q0n [slc t,.clo F.q3s [.rref [slc l] 0]] (.int .i64 (idx (fun n=>!q5w l n) t)):=by
  refine q0s rfl (t.length+1) ((q0b.ev _ _ _).trans ?_);refine q84 (S:=fun m k=>q0b.at0 (t.length+1) m (q0b.st0 (cells t) _ _ (k:Nat))) (fun m k h=>?_) (fun m=>?_) (gAR _)
  ·have hlk:t[k]?=some t[k]:=gA h
   have hc:Call F.q3s [.int .i64 t[k],.rref [slc l] 0] (.bool (!q5w l t[k])):=by
    refine q0s rfl 0 ((q3s.ev _ _ _).trans ?_);simp only[evz,Nat.reduceLT,(q86 ok _).eq]
   simp only[q0b.next0,q0b.round0,evz,Nat.reduceLT,h,hlk,q23,hc.eq];rw[q0l (by omega)];cases q5w l t[k] <;> rfl
  ·simp only[q0b.next0,q0b.round0,evz,Nat.reduceLT,gAK]
 refine q0s rfl 0 ((q3n.ev _ _ _).trans ?_);simp only[evz,Nat.reduceLT,hi.eq,q7o]
theorem q4p(l:List Symbol)(hs:l.length<=4294967296)(t:List Int)(ht:t.length<=4294967296):Call F.q4p [.agg [slc l],slc t] (.int .i64 (qde ⟨l⟩ t)):=by
 refine q0s rfl 0 ((q4p.ev _ _ _).trans ?_);simp only[evz,Nat.reduceLT,(q05 l hs).eq,qde,q4m,gt_iff_lt];by_cases h1:q2w ⟨l⟩=0
 case neg=>simp only[h1,evz,Nat.reduceLT,ne_eq,gX]
 have ok:=(q51 _).1 h1;simp only[h1,evz,Nat.reduceLT,ne_eq,gW];by_cases h2:t.length<1
 ·have h2':(t.length:Int)<1:=by omega
  simp only[h2,h2',evz,Nat.reduceLT,true_or]
 by_cases h3:24<t.length
 ·have h2':¬(t.length:Int)<1:=by omega
  have h3':(24:Int)<t.length:=by omega
  simp only[h2,h2',h3,h3',evz,Nat.reduceLT,or_true]
 have h2':¬(t.length:Int)<1:=by omega
 have h3':¬(24:Int)<t.length:=by omega
 simp only[h2,h2',h3,h3',evz,Nat.reduceLT,or_self,(q3n l ok t ht).eq];cases h4:t.any fun n=>!q5w l n with
 |true=>simp only[evz,Nat.reduceLT]
 |false=>
  have hn:=qdb.1 h4;have he:=q2l ok t hn ht 0 (by omega);simp only[evz,Nat.reduceLT,Bool.false_eq_true,show LIM F.q2l [.agg [slc l],slc t,.int .i64 0]=_ from he,List.drop_zero];by_cases h5:skip (ar l) 1 t=some []
  ·rw[if_pos (qch.1.2 h5),if_pos h5]
  ·rw[if_neg fun h=>h5 (qch.1.1 h),if_neg h5]
theorem q1a(l:List Symbol)(ok:SigOk ⟨l⟩)(t:List Int)(ht:t.length<=4294967296):Call F.q1a [.rref [slc l] 0,slc t] (.int .i64 (q4m l t)):=by
 refine q0s rfl (t.length+1) ((q1a.ev _ _ _).trans ?_);simp only[evz,Nat.reduceLT,q4m,gt_iff_lt];by_cases h2:t.length<1
 ·have h2':(t.length:Int)<1:=by omega
  simp only[h2,h2',evz,Nat.reduceLT,true_or]
 by_cases h3:24<t.length
 ·have h2':¬(t.length:Int)<1:=by omega
  have h3':(24:Int)<t.length:=by omega
  simp only[h2,h2',h3,h3',evz,Nat.reduceLT,or_true]
 have h2':¬(t.length:Int)<1:=by omega
 have h3':¬(24:Int)<t.length:=by omega
 simp only[h2,h2',h3,h3',evz,Nat.reduceLT,or_self]
 have step:∀m k (h:k<t.length),q1a.at0 (t.length+1) (m+1) (q1a.st0 (cells l) (cells t) (k:Nat))=
  if(fun n=>!q5w l n) t[k]=true then some (.int .i64 3,[])else q1a.at0 (t.length+1) m (q1a.st0 (cells l) (cells t) ((k+1:Nat):Int)):=fun m k h=>by
  have hlk:t[k]?=some t[k]:=gA h;simp only[q1a.next0,q1a.round0,evz,Nat.reduceLT,h,hlk,q23,(q8e ok _).eq];rw[q0l (by omega)];by_cases hb:q5w l t[k]=true <;> simp[hb]
 cases h4:t.any fun n=>!q5w l n with
 |true=>
  refine(qtb (p:=fun n=>!q5w l n) (r:=some (.int .i64 3,[])) (S:=fun m k=>q1a.at0 (t.length+1) m (q1a.st0 (cells l) (cells t) (k:Nat))) step h4 (gAR _)).trans ?_;simp only[evz,Nat.reduceLT]
 |false=>
  have hn:=qdb.1 h4;have he:=q25 ok t hn ht 0 (by omega);refine(q8s (p:=fun n=>!q5w l n) (r:=some (.int .i64 3,[])) (S:=fun m k=>q1a.at0 (t.length+1) m (q1a.st0 (cells l) (cells t) (k:Nat))) (z:=if skip (ar l) 1 t=some []then some (.int .i64 0,[])else some (.int .i64 1,[])) step (fun m=>?_) (gAR _)).trans ?_
  ·simp only[q1a.next0,q1a.round0,evz,Nat.reduceLT,gAK,show LIM F.q25 [.rref [slc l] 0,slc t,.int .i64 0]=_ from he,List.drop_zero];by_cases h5:skip (ar l) 1 t=some []
   ·rw[if_pos (qch.2.2 h5),if_pos h5]
   ·rw[if_neg fun h=>h5 (qch.2.1 h),if_neg h5]
  ·rw[h4];simp only[evz,Nat.reduceLT,Bool.false_eq_true];by_cases h5:skip (ar l) 1 t=some [] <;> simp only[h5,if_true,if_false]
end Ev.Ty
end
section
namespace Ev.Ty
open Go Ev
inductive Tm where
 |v (n:Int)
 |k (n:Int)
 |u (n:Int) (x:Tm)
 |b (n:Int) (x y:Tm)
 deriving DecidableEq
namespace Tm
def flat:Tm->List Int
 |v n=>[n]
 |k n=>[n]
 |u n x=>n::x.flat
 |b n x y=>n::(x.flat++y.flat)
def head:Tm->Int
 |v n=>n
 |k n=>n
 |u n _=>n
 |b n _ _=>n
def ok(a:Int->Nat):Tm->Prop
 |v n=>n<0
 |k n=>0<=n/\a n=0
 |u n x=>0<=n/\a n=1/\x.ok a
 |b n x y=>0<=n/\a n=2/\x.ok a/\y.ok a
theorem flat_pos(x:Tm):0<x.flat.length:=by cases x <;> simp[flat]
theorem flat_head(x:Tm):∃r,x.flat=x.head::r:=by cases x <;> exact⟨_,rfl⟩
variable {a:Int->Nat}
theorem skip_flat(ha:∀n,n<0->a n=0):∀(x:Tm)(r:List Int)(j:Nat),x.ok a->skip a (j+1) (x.flat++r)=skip a j r
 |v n,r,j,h=>by
  show skip a (j+a n) r=_;rw[ha n h,Nat.add_zero]
 |k n,r,j,h=>by
  show skip a (j+a n) r=_;rw[h.2,Nat.add_zero]
 |u n x,r,j,h=>by
  show skip a (j+a n) (x.flat++r)=_;rw[h.2.1];exact skip_flat ha x r j h.2.2
 |b n x y,r,j,h=>by
  show skip a (j+a n) ((x.flat++y.flat)++r)=_;rw[h.2.1,gZ,skip_flat ha x _ (j+1) h.2.2.1,skip_flat ha y _ j h.2.2.2]
theorem parse(ha:∀n,n<0->a n=0)(h2:∀n,a n<=2):∀(m:Nat)(l r:List Int),l.length<=m->skip a 1 l=some r->∃x:Tm,x.ok a/\l=x.flat++r
 |_,[],r,_,h=>by cases h
 |0,n::l,r,hm,h=>by simp at hm
 |m+1,n::l,r,hm,h=>by
  have hm:l.length<=m:=by simpa using hm
  have h:skip a (0+a n) l=some r:=h;rw[gAJ]at h;by_cases hn:n<0
  ·rw[ha n hn,q3t]at h;cases h;exact⟨.v n,hn,rfl⟩
  ·have:=h2 n;have h3:a n=0\/a n=1\/a n=2:=by omega
   rcases h3 with h0|h1|h2'
   ·rw[h0,q3t]at h;cases h;exact⟨.k n,⟨by omega,h0⟩,rfl⟩
   ·rw[h1]at h;obtain⟨x,hx,rfl⟩:=parse ha h2 m l r hm h;exact⟨.u n x,⟨by omega,h1,hx⟩,rfl⟩
   ·rw[h2',show 2=1+1 from rfl,qa3]at h;cases hs:skip a 1 l with
    |none=>rw[hs]at h;cases h
    |some r1=>
     rw[hs]at h;have h9:skip a 1 r1=some r:=h;obtain⟨x,hx,rfl⟩:=parse ha h2 m l r1 hm hs;obtain⟨y,hy,rfl⟩:=parse ha h2 m r1 r (by simp at hm;omega) h9;exact⟨.b n x y,⟨by omega,h2',hx,hy⟩,by simp[flat]⟩
end Tm
theorem qa1(l:List Symbol){n:Int}(h:n<0):ar l n=0:=by unfold ar;rw[if_pos h]
structure TermOk(l:List Symbol)(t:List Int):Prop where
 pos:1<=t.length
 le:t.length<=24
 node:∀n∈t,q5w l n=true
 skip:skip (ar l) 1 t=some []
theorem q8j(l:List Symbol)(t:List Int):q4m l t=0<->TermOk l t:=by
 unfold q4m;constructor
 ·intro h;split at h
  ·cases h
  ·split at h
   ·cases h
   ·rename_i h1 h2;split at h
    ·rename_i h3;exact⟨by omega,by omega,qdb.1 (by simpa using h2),h3⟩
    ·cases h
 ·intro h;have:=h.pos;have:=h.le;rw[if_neg (by omega),if_neg (by rw[qdb.2 h.node];simp),if_pos h.skip]
theorem TermOk.tree{l:List Symbol}{t:List Int}(ok:SigOk ⟨l⟩)(h:TermOk l t):∃x:Tm,x.ok (ar l)/\t=x.flat:=by
 obtain⟨x,hx,e⟩:=Tm.parse (fun n hn=>qa1 l hn) (qqb ok) t.length t [] (gAI _) h.skip;exact⟨x,hx,by simpa using e⟩
theorem qa8{t r:List Int}{e:Nat}{x:Tm}(h:t.drop e=x.flat++r):e<t.length/\t[e]?=some x.head/\e+x.flat.length<=t.length:=by
 have hl:(t.drop e).length=x.flat.length+r.length:=by rw[h,gM]
 have hp:=x.flat_pos;rw[gAA]at hl;refine⟨by omega,?_,by omega⟩
 have:(t.drop e)[0]?=some x.head:=by
  rw[h];obtain⟨r',e'⟩:=x.flat_head;rw[e'];rfl
 rwa[gV,Nat.add_zero]at this
theorem qev{t r q:List Int}{e:Nat}(h:t.drop e=q++r):t.drop (e+q.length)=r:=by
 rw[<- List.drop_drop,h,List.drop_left]
end Ev.Ty
end
section
namespace Ev.Ty
open Go Ev
open Enc (enc)
open Sm (sm)
structure AlgOk(l:List Symbol)(z:Int)(tb:List (List Int)):Prop where
 sig:SigOk ⟨l⟩
 size:1<=z/\z<=3
 len:tb.length=l.length
 rows:∀(k:Nat)(h:k<l.length)(h':k<tb.length),tb[k].length=z.toNat ^ (l[k]).arity.toNat/\∀n∈tb[k],0<=n/\n<=z-1
theorem qnx{l:List Symbol}{z:Int}{tb:List (List Int)}(h:q5u ⟨l⟩ ⟨z,tb⟩=0):AlgOk l z tb:=by
 unfold q5u at h;by_cases h1:q2w ⟨l⟩=0
 case neg=>rw[if_pos h1]at h;exact absurd h h1
 rw[if_neg (by simpa using h1)]at h;split at h
 ·cases h
 rename_i h2;split at h
 ·cases h
 rename_i h3;have h3:tb.length=l.length:=by simpa using h3
 have hn:(l.zip tb).findSome? (q5p z)=none:=by
  cases hx:(l.zip tb).findSome? (q5p z)with
  |none=>rfl
  |some c=>
   simp only[hx]at h;obtain⟨x,hx,hf⟩:=List.exists_of_findSome?_eq_some hx;unfold q5p at hf;split at hf
   ·cases hf;cases h
   ·split at hf
    ·cases hf;cases h
    ·cases hf
 rw[q7t]at hn;refine⟨(q51 _).1 h1,q5f.1 (by simpa using h2),h3,fun k hk hk'=>?_⟩
 have hz:(l.zip tb)[k]?=some (l[k],tb[k]):=by
  rw[List.getElem?_zip_eq_some];exact⟨gA hk,gA hk'⟩
 have:=hn _ (List.mem_of_getElem? hz);unfold q5p at this;split at this
 ·cases this
 ·rename_i h4;split at this
  ·cases this
  ·rename_i h5;refine⟨by simpa using h4,fun n hn=>?_⟩;rw[List.any_eq_true]at h5
   have:inR n 0 (z-1)=true:=by
    apply Classical.byContradiction;intro hc;exact h5 ⟨n,hn,by simpa using hc⟩
   exact q5f.1 this
def Tm.eval(z:Int)(tb:List (List Int))(vs:List Int):Tm->Int
 |v n=>vs.getD (-1-n).toNat 0
 |k n=>(tb.getD n.toNat []).getD 0 0
 |u n x=>(tb.getD n.toNat []).getD (x.eval z tb vs).toNat 0
 |b n x y=>(tb.getD n.toNat []).getD (x.eval z tb vs*z+y.eval z tb vs).toNat 0
def Tm.low(m:Int):Tm->Prop
 |v n => -m<=n
 |k _=>True
 |u _ x=>x.low m
 |b _ x y=>x.low m/\y.low m
def Tm.syms(c:Nat):Tm->Prop
 |v _=>True
 |k n=>n<c
 |u n x=>n<c/\x.syms c
 |b n x y=>n<c/\x.syms c/\y.syms c
theorem Tm.low_of{m:Int}:∀{x:Tm},(∀n∈x.flat,-m<=n)->x.low m
 |v n,h=>h n (by simp[Tm.flat])
 |k n,_=>trivial
 |u n x,h=>Tm.low_of (x:=x) fun j hj=>h j (by simp[Tm.flat,hj])
 |b n x y,h=>⟨Tm.low_of (x:=x) fun j hj=>h j (by simp[Tm.flat,hj]),Tm.low_of (x:=y) fun j hj=>h j (by simp[Tm.flat,hj])⟩
theorem Tm.syms_of{l:List Symbol}{a:Int->Nat}:∀{x:Tm},x.ok a->(∀n∈x.flat,q5w l n=true)->x.syms l.length
 |v n,_,h=>trivial
 |k n,ok,h=>by
  have:=q4j.1 (h n (by simp[Tm.flat]));have:=ok.1;show n<(l.length:Int);omega
 |u n x,ok,h=>by
  have:=q4j.1 (h n (by simp[Tm.flat]));have:=ok.1;exact⟨by show n<(l.length:Int);omega,Tm.syms_of (x:=x) ok.2.2 fun j hj=>h j (by simp[Tm.flat,hj])⟩
 |b n x y,ok,h=>by
  have:=q4j.1 (h n (by simp[Tm.flat]));have:=ok.1;exact⟨by show n<(l.length:Int);omega,Tm.syms_of (x:=x) ok.2.2.1 fun j hj=>h j (by simp[Tm.flat,hj]),Tm.syms_of (x:=y) ok.2.2.2 fun j hj=>h j (by simp[Tm.flat,hj])⟩
section
variable {l:List Symbol}{z:Int}{tb:List (List Int)}(al:AlgOk l z tb){vs:List Int}(hv:vs.length=6)(hr:∀n∈vs,0<=n/\n<=z-1)
include al
theorem qbb{n:Int}(h0:0<=n)(h1:n<l.length):∃y:Nat,n=y/\∃(h:y<l.length)(h':y<tb.length),tb[y].length=z.toNat ^ ar l n/\(∀j∈tb[y],0<=j/\j<=z-1)/\tb.getD n.toNat []=tb[y]/\(l[y]).arity=(ar l n:Nat):=by
 obtain⟨y,rfl⟩:∃y:Nat,n=y:=⟨n.toNat,by omega⟩;have h:y<l.length:=by omega
 have h':y<tb.length:=by rw[al.len];exact h
 obtain⟨r1,r2⟩:=al.rows y h h';have ha:(l[y]).arity=(ar l y:Nat):=by simpa using qrj al.sig (n:=y) (by omega) (by simpa using h)
 refine⟨y,rfl,h,h',?_,r2,by simp[h'],ha⟩;rw[r1,ha];simp
include hv hr
theorem Tm.eval_range:∀{x:Tm},x.ok (ar l)->x.syms l.length->x.low 6->0<=x.eval z tb vs/\x.eval z tb vs<=z-1
 |v n,ok,hs,hl=>by
  have ok:n<0:=ok;have hl : -6<=n:=hl;have h:(-1-n).toNat<vs.length:=by omega
  have e:vs.getD (-1-n).toNat 0=vs[(-1-n).toNat]:=by simp[h]
  show 0<=vs.getD (-1-n).toNat 0/\vs.getD (-1-n).toNat 0<=z-1;rw[e];exact hr _ (gG h)
 |k n,ok,hs,hl=>by
  obtain⟨y,rfl,h,h',r1,r2,r3,r4⟩:=qbb al ok.1 hs;rw[ok.2,Nat.pow_zero]at r1;have h0:0<tb[y].length:=by omega
  show 0<=(tb.getD (y:Int).toNat []).getD 0 0/\(tb.getD (y:Int).toNat []).getD 0 0<=z-1;rw[r3,show tb[y].getD 0 0=tb[y][0] by simp[h0]];exact r2 _ (gG h0)
 |u n x,ok,hs,hl=>by
  obtain⟨y,rfl,h,h',r1,r2,r3,r4⟩:=qbb al ok.1 hs.1;obtain⟨i1,i2⟩:=Tm.eval_range (x:=x) ok.2.2 hs.2 hl;rw[ok.2.1,Nat.pow_one]at r1;have h0:(x.eval z tb vs).toNat<tb[y].length:=by omega
  show 0<=(tb.getD (y:Int).toNat []).getD (x.eval z tb vs).toNat 0/\(tb.getD (y:Int).toNat []).getD (x.eval z tb vs).toNat 0<=z-1;rw[r3,show tb[y].getD (x.eval z tb vs).toNat 0=tb[y][(x.eval z tb vs).toNat] by simp[h0]];exact r2 _ (gG h0)
 |b n x w,ok,hs,hl=>by
  obtain⟨y,rfl,h,h',r1,r2,r3,r4⟩:=qbb al ok.1 hs.1;obtain⟨i1,i2⟩:=Tm.eval_range (x:=x) ok.2.2.1 hs.2.1 hl.1;obtain⟨j1,j2⟩:=Tm.eval_range (x:=w) ok.2.2.2 hs.2.2 hl.2;rw[ok.2.1]at r1;have hz:=al.size
  have h0:(x.eval z tb vs*z+w.eval z tb vs).toNat<tb[y].length:=by
   rw[r1];have:z=1\/z=2\/z=3:=by omega
   rcases this with rfl|rfl|rfl <;> simp <;> omega
  show 0<=(tb.getD (y:Int).toNat []).getD (x.eval z tb vs*z+w.eval z tb vs).toNat 0/\(tb.getD (y:Int).toNat []).getD (x.eval z tb vs*z+w.eval z tb vs).toNat 0<=z-1;rw[r3,show tb[y].getD (x.eval z tb vs*z+w.eval z tb vs).toNat 0=tb[y][(x.eval z tb vs*z+w.eval z tb vs).toNat] by simp[h0]];exact r2 _ (gG h0)
end
theorem q7w{α:Type}{v:List α}{i:Nat}{d:α}(h:i<v.length):v.getD i d=v[i]:=by simp[h]
section
variable {l:List Symbol}{z:Int}{tb:List (List Int)}(al:AlgOk l z tb){vs:List Int}(hv:vs.length=6)(hr:∀n∈vs,0<=n/\n<=z-1)
include al hv hr
theorem q0k{t:List Int}(ht:t.length<=4294967296):∀(x:Tm)(r:List Int)(e:Nat),t.drop e=x.flat++r->x.ok (ar l)->x.syms l.length->x.low 6->
 Call F.q0k [.agg [.int .i64 z,slc tb],.agg [slc l],slc vs,slc t,.int .i64 e] (.tup [.int .i64 (x.eval z tb vs),.int .i64 (e+x.flat.length:Nat)]):=by
 intro x;induction x with
 |v n=>
  intro r e he ok hs hl;obtain⟨h1,h2,h3⟩:=qa8 he;have ok:n<0:=ok;have hl : -6<=n:=hl;refine q0s rfl 4 ((q0k.ev _ _ _ _ _ _ _).trans ?_);obtain⟨y,hy⟩:∃y:Nat,-1-n=y:=⟨(-1-n).toNat,by omega⟩;have hyv:y<vs.length:=by omega
  have hyl:vs[y]?=some vs[y]:=gA hyv;have hw:IntKind.wrap .i64 (-1-n)=y:=by rw[q1v (by omega),hy]
  simp only[evz,Nat.reduceLT,h1,h2,q23,Tm.head,ok,hw,hyv,hyl];rw[q0l (by omega)];simp only[Tm.eval,hy,gR,q7w hyv,Tm.flat,List.length_singleton]
 |k n=>
  intro r e he ok hs hl;obtain⟨h1,h2,h3⟩:=qa8 he;obtain⟨y,rfl,hy,hy',r1,r2,r3,r4⟩:=qbb al ok.1 hs;have hyl:l[y]?=some l[y]:=gA hy;have hyt:tb[y]?=some tb[y]:=gA hy';rw[ok.2,Nat.pow_zero]at r1;have hn:¬((y:Int)<0):=by omega
  have h0:(0:Nat)<tb[y].length:=by omega
  have h0l:tb[y][0]?=some tb[y][0]:=gA h0;refine q0s rfl 4 ((q0k.ev _ _ _ _ _ _ _).trans ?_);simp only[evz,Nat.reduceLT,h1,h2,q23,Tm.head,hn,hy,hyl,q2t,r4,ok.2];refine(q0k.next0 4 3 _).trans ((q0k.round0 _ _ _ _ _ _ _ _ _ _ _ _).trans ?_);rw[q0l (by omega)];have hz0:inB 0 tb[y].length=true:=by rw[show(0:Int)=((0:Nat):Int)from rfl,q6w];simpa using h0
  simp only[evz,Nat.reduceLT,hy',hyt,q59,hz0,Int.toNat_zero,h0l,q23,Int.lt_irrefl,Int.ofNat_zero,Int.natCast_zero];simp only[Tm.eval,gR,q7w hy',q7w h0,Tm.flat,List.length_singleton]
 |u n x ihx=>
  intro r e he ok hs hl;obtain⟨h1,h2,h3⟩:=qa8 he;obtain⟨y,rfl,hy,hy',r1,r2,r3,r4⟩:=qbb al ok.1 hs.1;have hyl:l[y]?=some l[y]:=gA hy;have hyt:tb[y]?=some tb[y]:=gA hy';rw[ok.2.1,Nat.pow_one]at r1;have hn:¬((y:Int)<0):=by omega
  obtain⟨i1,i2⟩:=Tm.eval_range al hv hr ok.2.2 hs.2 hl;obtain⟨q,hq⟩:∃q:Nat,x.eval z tb vs=q:=⟨(x.eval z tb vs).toNat,by omega⟩;have hz:=al.size;have h0:q<tb[y].length:=by omega
  have h0l:tb[y][q]?=some tb[y][q]:=gA h0;have he1:t.drop (e+1)=x.flat++r:=qev (q:=[(y:Int)]) (by simpa[Tm.flat]using he);have c1:=ihx r (e+1) he1 ok.2.2 hs.2 hl;refine q0s rfl 4 ((q0k.ev _ _ _ _ _ _ _).trans ?_);simp only[evz,Nat.reduceLT,h1,h2,q23,Tm.head,hn,hy,hyl,q2t,r4,ok.2.1];rw[q0l (by omega)];refine(q0k.next0 4 3 _).trans ((q0k.round0 _ _ _ _ _ _ _ _ _ _ _ _).trans ?_);simp only[evz,Nat.reduceLT,c1.eq,hq,show((1:Nat):Int)=1 from rfl,show((2:Nat):Int)=2 from rfl,Int.reduceLT,Int.reduceAdd,q1v (x:=0*z) (by omega),q1v (x:=0*z+(q:Int)) (by omega),q1v (x:=(1:Int)) (by omega)];refine(q0k.next0 4 2 _).trans ((q0k.round0 _ _ _ _ _ _ _ _ _ _ _ _).trans ?_);simp only[evz,Nat.reduceLT,show((1:Nat):Int)=1 from rfl,show((2:Nat):Int)=2 from rfl,Int.reduceLT,Int.reduceAdd,Int.zero_mul,Int.zero_add,hy',hyt,q59,h0,h0l,q23];simp only[Tm.eval,hq,gR,q7w hy',q7w h0,Tm.flat,gAB];rw[show e+1+x.flat.length=e+(x.flat.length+1) by omega]
 |b n x w ihx ihw=>
  intro r e he ok hs hl;obtain⟨h1,h2,h3⟩:=qa8 he;obtain⟨y,rfl,hy,hy',r1,r2,r3,r4⟩:=qbb al ok.1 hs.1;have hyl:l[y]?=some l[y]:=gA hy;have hyt:tb[y]?=some tb[y]:=gA hy';rw[ok.2.1]at r1;have hn:¬((y:Int)<0):=by omega
  obtain⟨i1,i2⟩:=Tm.eval_range al hv hr ok.2.2.1 hs.2.1 hl.1;obtain⟨j1,j2⟩:=Tm.eval_range al hv hr ok.2.2.2 hs.2.2 hl.2;obtain⟨q,hq⟩:∃q:Nat,x.eval z tb vs=q:=⟨(x.eval z tb vs).toNat,by omega⟩;obtain⟨p,hp⟩:∃p:Nat,w.eval z tb vs=p:=⟨(w.eval z tb vs).toNat,by omega⟩;obtain⟨zn,hzn⟩:∃zn:Nat,z=zn:=⟨z.toNat,by have:=al.size;omega⟩;have hz:=al.size
  have h0:q*zn+p<tb[y].length:=by
   rw[r1];have:zn=1\/zn=2\/zn=3:=by omega
   rcases this with h|h|h <;> subst h <;> subst hzn <;> simp <;> omega
  have hb:q*zn<=6:=by
   have h4:q<=2:=by omega
   have h5:zn<=3:=by omega
   exact Nat.mul_le_mul h4 h5
  have h0l:tb[y][q*zn+p]?=some tb[y][q*zn+p]:=gA h0;have he1:t.drop (e+1)=x.flat++(w.flat++r):=qev (q:=[(y:Int)]) (by simpa[Tm.flat]using he);have he2:t.drop (e+1+x.flat.length)=w.flat++r:=qev he1;have c1:=ihx _ (e+1) he1 ok.2.2.1 hs.2.1 hl.1;have c2:=ihw _ _ he2 ok.2.2.2 hs.2.2 hl.2;refine q0s rfl 4 ((q0k.ev _ _ _ _ _ _ _).trans ?_);simp only[evz,Nat.reduceLT,h1,h2,q23,Tm.head,hn,hy,hyl,q2t,r4,ok.2.1];rw[q0l (by omega)];refine(q0k.next0 4 3 _).trans ((q0k.round0 _ _ _ _ _ _ _ _ _ _ _ _).trans ?_);simp only[evz,Nat.reduceLT,c1.eq,hq,show((1:Nat):Int)=1 from rfl,show((2:Nat):Int)=2 from rfl,Int.reduceLT,Int.reduceAdd,q1v (x:=0*z) (by omega),q1v (x:=0*z+(q:Int)) (by omega),q1v (x:=(1:Int)) (by omega)];refine(q0k.next0 4 2 _).trans ((q0k.round0 _ _ _ _ _ _ _ _ _ _ _ _).trans ?_);have hm:((q:Int)*z)=((q*zn:Nat):Int):=by rw[hzn];simp
  simp only[evz,Nat.reduceLT,c2.eq,hp,show((1:Nat):Int)=1 from rfl,show((2:Nat):Int)=2 from rfl,Int.reduceLT,Int.reduceAdd,Int.zero_mul,Int.zero_add,hm,q1v (x:=((q*zn:Nat):Int)) (by omega),q1v (x:=((q*zn:Nat):Int)+(p:Int)) (by omega),q1v (x:=(2:Int)) (by omega)];refine(q0k.next0 4 1 _).trans ((q0k.round0 _ _ _ _ _ _ _ _ _ _ _ _).trans ?_);have hc:((q*zn:Nat):Int)+(p:Int)=((q*zn+p:Nat):Int):=by omega
  simp only[evz,Nat.reduceLT,show((1:Nat):Int)=1 from rfl,show((2:Nat):Int)=2 from rfl,Int.reduceLT,Int.reduceAdd,hc,hy',hyt,q59,h0,h0l,q23];simp only[Tm.eval,hq,hp,hm,hc,gR,q7w hy',q7w h0,Tm.flat,gAB,gM];rw[show e+1+x.flat.length+w.flat.length=e+(x.flat.length+w.flat.length+1) by omega]
theorem q19{t:List Int}(hn:∀n∈t,q5w l n=true)(ht:t.length<=4294967296):∀(x:Tm)(r:List Int)(e:Nat),t.drop e=x.flat++r->x.ok (ar l)->x.syms l.length->x.low 6->
 Call F.q19 [.rref [slc l] 0,.rref [.int .i64 z,slc tb] 0,slc vs,slc t,.int .i64 e] (.int .i64 (x.eval z tb vs)):=by
 have ends:∀(x:Tm)(r:List Int)(e:Nat),t.drop e=x.flat++r->x.ok (ar l)->Call F.q25 [.rref [slc l] 0,slc t,.int .i64 e] (.int .i64 (e+x.flat.length:Nat)):=fun x r e he ok=>by
  have h3:=(qa8 he).2.2;have:=q25 al.sig t hn ht e (by omega);rw[he,Tm.skip_flat (fun n hn=>qa1 l hn) x r 0 ok,q3t]at this;have hl:(t.drop e).length=x.flat.length+r.length:=by rw[he,gM]
  rw[gAA]at hl;rwa[show q8t (-1) t (some r)=((e+x.flat.length:Nat):Int) by simp only[q8t];omega]at this
 intro x;induction x with
 |v n=>
  intro r e he ok hs hl;obtain⟨h1,h2,h3⟩:=qa8 he;have ok:n<0:=ok;have hl : -6<=n:=hl;refine q0s rfl 4 ((q19.ev _ _ _ _ _ _ _).trans ?_);obtain⟨y,hy⟩:∃y:Nat,-1-n=y:=⟨(-1-n).toNat,by omega⟩;have hyv:y<vs.length:=by omega
  have hyl:vs[y]?=some vs[y]:=gA hyv;have hw:IntKind.wrap .i64 (-1-n)=y:=by rw[q1v (by omega),hy]
  simp only[evz,Nat.reduceLT,h1,h2,q23,Tm.head,ok,hw,hyv,hyl];simp only[Tm.eval,hy,gR,q7w hyv]
 |k n=>
  intro r e he ok hs hl;obtain⟨h1,h2,h3⟩:=qa8 he;obtain⟨y,rfl,hy,hy',r1,r2,r3,r4⟩:=qbb al ok.1 hs;have hyl:l[y]?=some l[y]:=gA hy;have hyt:tb[y]?=some tb[y]:=gA hy';rw[ok.2,Nat.pow_zero]at r1;have hn:¬((y:Int)<0):=by omega
  have h0:(0:Nat)<tb[y].length:=by omega
  have h0l:tb[y][0]?=some tb[y][0]:=gA h0;refine q0s rfl 4 ((q19.ev _ _ _ _ _ _ _).trans ?_);simp only[evz,Nat.reduceLT,h1,h2,q23,Tm.head,hn];refine(q19.next0 4 3 _).trans ((q19.round0 _ _ _ _ _ _ _ _ _ _ _).trans ?_);have hz0:inB 0 tb[y].length=true:=by rw[show(0:Int)=((0:Nat):Int)from rfl,q6w];simpa using h0
  simp only[evz,Nat.reduceLT,h1,h2,q23,Tm.head,hy,hyl,q2t,r4,ok.2,hy',hyt,q59,hz0,Int.toNat_zero,h0l,Int.lt_irrefl,Int.ofNat_zero,Int.natCast_zero];simp only[Tm.eval,gR,q7w hy',q7w h0]
 |u n x ihx=>
  intro r e he ok hs hl;obtain⟨h1,h2,h3⟩:=qa8 he;obtain⟨y,rfl,hy,hy',r1,r2,r3,r4⟩:=qbb al ok.1 hs.1;have hyl:l[y]?=some l[y]:=gA hy;have hyt:tb[y]?=some tb[y]:=gA hy';rw[ok.2.1,Nat.pow_one]at r1;have hn:¬((y:Int)<0):=by omega
  obtain⟨i1,i2⟩:=Tm.eval_range al hv hr ok.2.2 hs.2 hl;obtain⟨q,hq⟩:∃q:Nat,x.eval z tb vs=q:=⟨(x.eval z tb vs).toNat,by omega⟩;have hz:=al.size;have h0:q<tb[y].length:=by omega
  have h0l:tb[y][q]?=some tb[y][q]:=gA h0;have he1:t.drop (e+1)=x.flat++r:=qev (q:=[(y:Int)]) (by simpa[Tm.flat]using he);have c1:=ihx r (e+1) he1 ok.2.2 hs.2 hl;have d1:=ends x r (e+1) he1 ok.2.2;refine q0s rfl 4 ((q19.ev _ _ _ _ _ _ _).trans ?_);simp only[evz,Nat.reduceLT,h1,h2,q23,Tm.head,hn];rw[q0l (by omega)];refine(q19.next0 4 3 _).trans ((q19.round0 _ _ _ _ _ _ _ _ _ _ _).trans ?_);simp only[evz,Nat.reduceLT,h1,h2,q23,Tm.head,hy,hyl,q2t,r4,ok.2.1,c1.eq,d1.eq,hq,show((1:Nat):Int)=1 from rfl,show((2:Nat):Int)=2 from rfl,Int.reduceLT,Int.reduceAdd,q1v (x:=0*z) (by omega),q1v (x:=0*z+(q:Int)) (by omega),q1v (x:=(1:Int)) (by omega)];refine(q19.next0 4 2 _).trans ((q19.round0 _ _ _ _ _ _ _ _ _ _ _).trans ?_);simp only[evz,Nat.reduceLT,h1,h2,q23,Tm.head,hy,hyl,q2t,r4,ok.2.1,show((1:Nat):Int)=1 from rfl,show((2:Nat):Int)=2 from rfl,Int.reduceLT,Int.reduceAdd,Int.zero_mul,Int.zero_add,hy',hyt,q59,h0,h0l];simp only[Tm.eval,hq,gR,q7w hy',q7w h0]
 |b n x w ihx ihw=>
  intro r e he ok hs hl;obtain⟨h1,h2,h3⟩:=qa8 he;obtain⟨y,rfl,hy,hy',r1,r2,r3,r4⟩:=qbb al ok.1 hs.1;have hyl:l[y]?=some l[y]:=gA hy;have hyt:tb[y]?=some tb[y]:=gA hy';rw[ok.2.1]at r1;have hn:¬((y:Int)<0):=by omega
  obtain⟨i1,i2⟩:=Tm.eval_range al hv hr ok.2.2.1 hs.2.1 hl.1;obtain⟨j1,j2⟩:=Tm.eval_range al hv hr ok.2.2.2 hs.2.2 hl.2;obtain⟨q,hq⟩:∃q:Nat,x.eval z tb vs=q:=⟨(x.eval z tb vs).toNat,by omega⟩;obtain⟨p,hp⟩:∃p:Nat,w.eval z tb vs=p:=⟨(w.eval z tb vs).toNat,by omega⟩;obtain⟨zn,hzn⟩:∃zn:Nat,z=zn:=⟨z.toNat,by have:=al.size;omega⟩;have hz:=al.size
  have h0:q*zn+p<tb[y].length:=by
   rw[r1];have:zn=1\/zn=2\/zn=3:=by omega
   rcases this with h|h|h <;> subst h <;> subst hzn <;> simp <;> omega
  have hb:q*zn<=6:=by
   have h4:q<=2:=by omega
   have h5:zn<=3:=by omega
   exact Nat.mul_le_mul h4 h5
  have h0l:tb[y][q*zn+p]?=some tb[y][q*zn+p]:=gA h0;have he1:t.drop (e+1)=x.flat++(w.flat++r):=qev (q:=[(y:Int)]) (by simpa[Tm.flat]using he);have he2:t.drop (e+1+x.flat.length)=w.flat++r:=qev he1;have c1:=ihx _ (e+1) he1 ok.2.2.1 hs.2.1 hl.1;have d1:=ends x _ (e+1) he1 ok.2.2.1;have c2:=ihw _ _ he2 ok.2.2.2 hs.2.2 hl.2;have d2:=ends w _ _ he2 ok.2.2.2;refine q0s rfl 4 ((q19.ev _ _ _ _ _ _ _).trans ?_);simp only[evz,Nat.reduceLT,h1,h2,q23,Tm.head,hn];rw[q0l (by omega)];refine(q19.next0 4 3 _).trans ((q19.round0 _ _ _ _ _ _ _ _ _ _ _).trans ?_);simp only[evz,Nat.reduceLT,h1,h2,q23,Tm.head,hy,hyl,q2t,r4,ok.2.1,c1.eq,d1.eq,hq,show((1:Nat):Int)=1 from rfl,show((2:Nat):Int)=2 from rfl,Int.reduceLT,Int.reduceAdd,q1v (x:=0*z) (by omega),q1v (x:=0*z+(q:Int)) (by omega),q1v (x:=(1:Int)) (by omega)];refine(q19.next0 4 2 _).trans ((q19.round0 _ _ _ _ _ _ _ _ _ _ _).trans ?_);have hm:((q:Int)*z)=((q*zn:Nat):Int):=by rw[hzn];simp
  simp only[evz,Nat.reduceLT,h1,h2,q23,Tm.head,hy,hyl,q2t,r4,ok.2.1,c2.eq,d2.eq,hp,show((1:Nat):Int)=1 from rfl,show((2:Nat):Int)=2 from rfl,Int.reduceLT,Int.reduceAdd,Int.zero_mul,Int.zero_add,hm,q1v (x:=((q*zn:Nat):Int)) (by omega),q1v (x:=((q*zn:Nat):Int)+(p:Int)) (by omega),q1v (x:=(2:Int)) (by omega)];refine(q19.next0 4 1 _).trans ((q19.round0 _ _ _ _ _ _ _ _ _ _ _).trans ?_);have hc:((q*zn:Nat):Int)+(p:Int)=((q*zn+p:Nat):Int):=by omega
  simp only[evz,Nat.reduceLT,h1,h2,q23,Tm.head,hy,hyl,q2t,r4,ok.2.1,show((1:Nat):Int)=1 from rfl,show((2:Nat):Int)=2 from rfl,Int.reduceLT,Int.reduceAdd,hc,hy',hyt,q59,h0,h0l];simp only[Tm.eval,hq,hp,hm,hc,gR,q7w hy',q7w h0]
end
theorem q20(l:List Int)(hl:l.length<=4294967296):Call F.q20 [slc l] (.int .i64 ((l.find? fun n=>decide (n≠0)).getD 0)):=by
 refine q0s rfl (l.length+1) ((q20.ev _ _).trans ?_)
 have:=q82 (l:=l) (g:=fun n=>if n≠0 then some (some (.int .i64 n,[]))else none) (z:=some (.int .i64 0,[])) (S:=fun m k=>q20.at0 (l.length+1) m (q20.st0 0 (cells l) l.length (k:Nat)))
  (fun m k h=>by
   have hlk:l[k]?=some l[k]:=gA h;simp only[q20.next0,q20.round0,evz,Nat.reduceLT,h,hlk,q23];rw[q0l (by omega)];by_cases e:l[k]=0 <;> simp[e])
  (fun m=>by simp only[q20.next0,q20.round0,evz,Nat.reduceLT,gAK]) (gAR _)
 simp only[q5s,q3p];refine this.trans ?_;clear this;induction l with
 |nil=>rfl
 |cons x l ih=>
  rw[List.findSome?_cons,List.find?_cons];by_cases e:x=0
  ·simpa[e]using ih (by simp at hl;omega)
  ·simp[e]
theorem q8q(a b:Int):Call F.q5a [.sl 1 [.int .i64 a,.int .i64 b]] (.int .i64 (if a=0 then b else a)):=by
 refine q0s rfl 0 ((q5a.ev _ _).trans ?_);have:=q20 [a,b] (by simp);simp only[evz,Nat.reduceLT,show LIM F.q20 [.sl 1 [.int .i64 a,.int .i64 b]]=_ from this];by_cases h:a=0
 ·by_cases h':b=0 <;> simp[h,h']
 ·simp[h]
theorem q2m(t:List Int)(hl:t.length<=4294967296):Call F.q2m [slc t] (.bool (!t.any fun n=>decide (n < -6))):=by
 refine q0s rfl (t.length+1) ((q2m.ev _ _).trans ?_);refine(q8s (l:=t) (p:=fun n=>decide (n < -6)) (r:=some (.bool false,[])) (z:=some (.bool true,[])) (S:=fun m k=>q2m.at0 (t.length+1) m (q2m.st0 (cells t) (k:Nat))) (fun m k h=>?_) (fun m=>?_) (gAR _)).trans ?_
 ·have hlk:t[k]?=some t[k]:=gA h;simp only[q2m.next0,q2m.round0,evz,Nat.reduceLT,h,hlk,q23];rw[q0l (by omega)];simp only[gS]
 ·simp only[q2m.next0,q2m.round0,evz,Nat.reduceLT,gAK]
 ·cases t.any fun n=>decide (n < -6) <;> rfl
open Classical in
noncomputable def q33(l:List Symbol)(t:List Int):Tm:=if h:∃x:Tm,x.ok (ar l)/\t=x.flat then h.choose else .k 0
theorem q3e{l:List Symbol}{t:List Int}(ok:SigOk ⟨l⟩)(h:TermOk l t):(q33 l t).ok (ar l)/\t=(q33 l t).flat:=by
 have:=h.tree ok;unfold q33;rw[dif_pos this];exact this.choose_spec
theorem qf8{s:Signature}{a:Algebra}(h:q5u s a=0):q2w s=0:=by
 unfold q5u at h;by_cases h1:q2w s=0
 ·exact h1
 ·rw[if_pos h1]at h;exact absurd h h1
section
variable (l:List Symbol)(z:Int)(tb:List (List Int))(vs t:List Int)(hs:l.length<=4294967296)(ht:sm 4294967296 tb)(hl:t.length<=4294967296)
include hs ht hl
end
theorem q7l:∀l:List Int,q7d l=cells l
 |[]=>rfl
 |x::l=>by rw[q8k,<- q7l l];rfl
def qg1(l:List Int):List Int:=l.mergeSort fun x y=>decide (x<=y)
theorem q7f(l:List Int)(h:l.length<=4294967296):LIM F.q7f [slc l]=some (.tup [],[slc (qg1 l)]):=by
 refine qel (e:=sortE) rfl (Ev.of fun m=>?_);show((qc0 (cells l)).bind fun zs=>bif decide (zs.length<4611686018427387904)then some (T.tup [],[T.sl 1 (q7d (zs.mergeSort fun x y=>decide (x<=y)))])else none)=_;rw[<- q7l,q9w,Option.bind_some,decide_eq_true (by omega),cond_true,q7l];rfl
theorem q6e(l:List Int)(h:l.length<=4294967296):Call F.q6e [slc l] (slc (Lib.compact l)):=by
 refine qel (e:=compactE) rfl (Ev.of fun m=>?_);show((qc0 (cells l)).bind fun zs=>bif decide (zs.length<4611686018427387904)then some (T.sl 1 (q7d (Lib.compact zs)),[])else none)=_;rw[<- q7l,q9w,Option.bind_some,decide_eq_true (by omega),cond_true,q7l];rfl
theorem qoh{l:List Int}{x:Int}:x∈Lib.compact l<->x∈l:=by
 unfold Lib.compact Lib.compactUpTo;simp only[List.mem_map,List.mem_filter,List.mem_range];constructor
 ·rintro⟨j,⟨hj,_⟩,rfl⟩;rw[getElem!_pos _ j (by simpa using hj)];simp
 ·intro h;obtain⟨i,hi,rfl⟩:=List.mem_iff_getElem.1 h
  have:∀j,(hj:j<l.length)->∃k,(k<l.length/\Lib.keeps l.toArray k=true)/\l.toArray[k]! = l[j]:=by
   intro j;induction j with
   |zero=>intro hj;exact⟨0,⟨hj,by simp[Lib.keeps]⟩,by simp[hj]⟩
   |succ j ih=>
    intro hj;by_cases e:l[j+1]=l[j]
    ·obtain⟨k,hk,he⟩:=ih (by omega);exact⟨k,hk,by rw[he,e]⟩
    ·refine⟨j+1,⟨hj,?_⟩,by simp[hj]⟩;have hj':j<l.length:=by omega
     simp[Lib.keeps,hj,hj',e]
  exact this i hi
theorem qi8(l:List Int):(Lib.compact l).length<=l.length:=qi0 l
def vars(t:List Int):List Int:=(t.filter fun n=>decide (n<0)).map fun n => -1-n
theorem qoz{t:List Int}{v:Int}:v∈vars t<->0<=v/\(-1-v)∈t:=by
 unfold vars;simp only[List.mem_map,List.mem_filter,gS];constructor
 ·rintro⟨n,⟨hn,h0⟩,rfl⟩;exact⟨by omega,by rw[show -1-(-1-n)=n by omega];exact hn⟩
 ·rintro⟨h0,h⟩;exact⟨-1-v,⟨h,by omega⟩,by omega⟩
theorem qhe(t:List Int):(vars t).length<=t.length:=by
 unfold vars;rw[gAG];exact List.length_filter_le _ _
def qaj(l:List (List Int)):List Int:=Lib.compact (qg1 (l.flatMap vars))
theorem q8w{l:List (List Int)}{v:Int}:v∈qaj l<->0<=v/\∃t∈l,(-1-v)∈t:=by
 unfold qaj qg1;rw[qoh,List.mem_mergeSort,List.mem_flatMap];constructor
 ·rintro⟨t,ht,h⟩;obtain⟨h0,h1⟩:=qoz.1 h;exact⟨h0,t,ht,h1⟩
 ·rintro⟨h0,t,ht,h1⟩;exact⟨t,ht,qoz.2 ⟨h0,h1⟩⟩
theorem qbc:∀l:List (List Int),(l.flatMap vars).length<=(l.map List.length).sum
 |[]=>by simp
 |t::l=>by
  rw[gAN,gM,List.map_cons,List.sum_cons];have:=qhe t;have:=qbc l;omega
theorem qd9(l:List (List Int)):(qaj l).length<=(l.map List.length).sum:=by
 unfold qaj;refine Nat.le_trans (qi8 _) ?_;unfold qg1;rw[List.length_mergeSort];exact qbc l
theorem q0v(l:List (List Int))(hl:l.length<=24)(ht:∀t∈l,t.length<=4294967296/\∀n∈t,-12<=n)(hsum:(l.map List.length).sum<=4294967296):Call F.q0v [slc l] (slc (qaj l)):=by
 obtain⟨N,hN⟩:∃N,N=4294967297:=⟨_,rfl⟩
 have inner:∀(L0:St->R)(x0:List T)(x1 x2:Int)(t:List Int),(∀n∈t,-12<=n)->∀m k (acc:List Int),k<=t.length->t.length<m+k->acc.length+t.length<=k+4294967296->t.length<=4294967296->
  q0v.at2 N L0 m (q0v.st2 x0 x1 x2 (cells t) t.length (k:Nat) (cells acc))=L0 (q0v.st0 x0 x1 (IntKind.wrap .i64 (x2+1)) (cells (acc++vars (t.drop k)))):=by
  intro L0 x0 x1 x2 t hn m;induction m with
  |zero=>intros;omega
  |succ m ih=>
   intro k acc hk hm hacc htl;by_cases h:k<t.length
   ·have hlk:t[k]?=some t[k]:=gA h;simp only[q0v.next2,q0v.round2,evz,Nat.reduceLT,h,hlk,q23];rw[q0l (by omega),gH h];have hge:=hn t[k] (gG h);by_cases h0:t[k]<0
    ·have hble:Nat.ble (((cells acc).length+1)*8) (140737488355328*1)=true:=by
      rw[Nat.ble_eq,q0r,q3p];omega
     rw[q1v (by omega),q2s,hble,ih (k+1) (acc++[-1-t[k]]) (by omega) (by omega) (by rw[gM];simp;omega) htl];simp only[h0,evz,Nat.reduceLT,vars,List.filter_cons,List.map_cons,gZ,List.singleton_append]
    ·rw[ih (k+1) acc (by omega) (by omega) (by omega) htl];simp only[h0,evz,Nat.reduceLT,vars,List.filter_cons,Bool.false_eq_true]
   ·obtain rfl:k=t.length:=by omega
    simp only[q0v.next2,q0v.round2,evz,Nat.reduceLT,gAK,List.drop_length,vars,List.filter_nil,List.map_nil,gAD]
 have outer:∀m k (acc:List Int),k<=l.length->l.length<m+k->acc.length+((l.drop k).map List.length).sum<=4294967296->
  q0v.at0 N m (q0v.st0 (cells l) l.length (k:Nat) (cells acc))=some (slc (Lib.compact (qg1 (acc++(l.drop k).flatMap vars))),[]):=by
  intro m;induction m with
  |zero=>intros;omega
  |succ m ih=>
   intro k acc hk hm hacc;by_cases h:k<l.length
   ·have hlk:l[k]?=some l[k]:=gA h;obtain⟨q1,q2⟩:=ht l[k] (gG h);rw[gH h,List.map_cons,List.sum_cons]at hacc;simp only[q0v.next0,q0v.round0,evz,Nat.reduceLT,h,hlk,q59];have hin:=inner (q0v.at0 N m) (cells l) l.length (k:Nat) l[k] q2 N 0 acc (by omega) (by omega) (by omega) q1;rw[List.drop_zero,q0l (by omega)]at hin;refine Eq.trans hin ?_;have:=qhe l[k];rw[ih (k+1) (acc++vars l[k]) (by omega) (by omega) (by rw[gM];omega),gH h,gAN,gZ]
   ·obtain rfl:k=l.length:=by omega
    rw[List.drop_length]at hacc ⊢;have hs:=q7f acc (by simpa using hacc);have hc:=q6e (qg1 acc) (by unfold qg1;rw[List.length_mergeSort];simpa using hacc);simp only[q0v.next0,q0v.round0,evz,Nat.reduceLT,gAK,List.flatMap_nil,gAD];simp only[hs,hc.eq,evz,Nat.reduceLT]
 refine q0s rfl N ((q0v.ev _ _).trans ?_);have:=outer N 0 [] (by omega) (by omega) (by simpa using hsum);rw[List.drop_zero,List.nil_append]at this;simp only[q5s,qn0];exact this
def low6(t:List Int):Bool := !t.any fun n=>decide (n < -6)
theorem qcb{t:List Int}:low6 t=true<->∀n∈t,-6<=n:=by
 unfold low6;rw[Bool.not_eq_true',List.any_eq_false];constructor
 ·intro h n hn;have:=h n hn;simpa using this
 ·intro h n hn;simpa using h n hn
def q2q(l:List Symbol)(e:Equation):Int:=
 if q4m l e.left≠0 then q4m l e.left else if q4m l e.right≠0 then q4m l e.right else if low6 e.left=true then(if low6 e.right=true then 0 else 3)else 3
def q50(l:List Symbol)(es:List Equation):Int:=
 if 12<es.length then 2 else(es.findSome? fun e=>if q2q l e≠0 then some (q2q l e)else none).getD 0
def q9q(e:Equation):Bool:=decide (0<=e.left.headD 0) && !e.right.any fun n=>decide (n<0/\n∉e.left)
def q8u(l:List Symbol)(es:List Equation):Int:=if q50 l es≠0 then q50 l es else if(es.any fun e=>!q9q e)=true then 1 else 0
def q48(s:Signature)(es:List Equation):Int:=if q2w s≠0 then q2w s else q8u s.symbols es
structure EqOk(l:List Symbol)(e:Equation):Prop where
 left:TermOk l e.left
 right:TermOk l e.right
 lowL:∀n∈e.left,-6<=n
 lowR:∀n∈e.right,-6<=n
theorem qe8{l:List Symbol}{e:Equation}:q2q l e=0<->EqOk l e:=by
 unfold q2q;constructor
 ·intro h;by_cases h1:q4m l e.left=0
  ·by_cases h2:q4m l e.right=0
   ·by_cases h3:low6 e.left=true
    ·by_cases h4:low6 e.right=true
     ·exact⟨(q8j _ _).1 h1,(q8j _ _).1 h2,qcb.1 h3,qcb.1 h4⟩
     ·simp[h1,h2,h3,h4]at h
    ·simp[h1,h2,h3]at h
   ·simp[h1,h2]at h
  ·simp[h1]at h
 ·intro h;simp[(q8j _ _).2 h.left,(q8j _ _).2 h.right,qcb.2 h.lowL,qcb.2 h.lowR]
theorem q8m{l:List Symbol}{es:List Equation}:q50 l es=0<->es.length<=12/\∀e∈es,EqOk l e:=by
 unfold q50;by_cases h:12<es.length
 ·rw[if_pos h];constructor
  ·intro h;cases h
  ·intro h';omega
 ·rw[if_neg h]
  have:(es.findSome? fun e=>if q2q l e≠0 then some (q2q l e)else none).getD 0=0<->∀e∈es,q2q l e=0:=by
   cases hf:es.findSome? fun e=>if q2q l e≠0 then some (q2q l e)else none with
   |none=>
    rw[q7t]at hf;refine⟨fun _ e he=>?_,fun _=>rfl⟩;have:=hf e he;by_cases h:q2q l e=0
    ·exact h
    ·simp[h]at this
   |some c=>
    obtain⟨e,he,h1⟩:=List.exists_of_findSome?_eq_some hf;by_cases h:q2q l e=0
    ·simp[h]at h1
    ·simp[h]at h1;subst h1;exact⟨fun h'=>absurd h' h,fun h'=>absurd (h' e he) h⟩
  rw[this];constructor
  ·intro h';exact⟨by omega,fun e he=>qe8.1 (h' e he)⟩
  ·intro h' e he;exact qe8.2 (h'.2 e he)
theorem TermOk.ge{l:List Symbol}{t:List Int}(h:TermOk l t):∀n∈t,-12<=n:=fun n hn=>by
 rcases q4j.1 (h.node n hn)with h|h <;> omega
theorem q1t(l:List Int)(x:Int)(hl:l.length<=4294967296):Call F.q1t [slc l,.int .i64 x] (.bool (decide (x∈l))):=by
 have hi:Call F.q0f [slc l,.int .i64 x] (.int .i64 (idx (fun y=>decide (x=y)) l)):=by
  refine q0s rfl (l.length+1) ((q0f.ev _ _ _).trans ?_);simp only[evz,Nat.reduceLT];refine q84 (S:=fun m k=>q0f.at0 (l.length+1) m (q0f.st0 (cells l) x l.length (k:Nat))) (fun m k h=>?_) (fun m=>?_) (gAR _)
  ·have hlk:l[k]?=some l[k]:=gA h;simp only[q0f.next0,q0f.round0,evz,Nat.reduceLT,h,hlk,q23];rw[q0l (by omega)];by_cases e:x=l[k] <;> simp[e]
  ·simp only[q0f.next0,q0f.round0,evz,Nat.reduceLT,gAK]
 refine q0s rfl 0 ((q1t.ev _ _ _).trans ?_);simp only[evz,Nat.reduceLT,hi.eq,q7o]
 have:(l.any fun y=>decide (x=y))=decide (x∈l):=by
  rw[Bool.eq_iff_iff,List.any_eq_true,gS];constructor
  ·rintro⟨y,hy,h⟩;rw[gS]at h;rw[h];exact hy
  ·intro h;exact⟨x,h,by simp⟩
 rw[this]
theorem q3d(t:List Int)(hs:t.length<=4294967296) :
 Call F.q2a [slc t,.clo F.q31 []] (.bool (t.any fun n=>decide (n>=6))):=by
 have hi:Call F.q0n [slc t,.clo F.q31 []] (.int .i64 (idx (fun n=>decide (n>=6)) t)):=by
  refine q0s rfl (t.length+1) ((q07.ev _ _).trans ?_);refine q84 (S:=fun m k=>q07.at0 (t.length+1) m (q07.st0 (cells t) _ (k:Nat))) (fun m k h=>?_) (fun m=>?_) (gAR _)
  ·have hlk:t[k]?=some t[k]:=gA h;have hc:Call F.q31 [.int .i64 t[k]] (.bool (decide (t[k]>=6))):=q0s rfl 0 (q31.ev _ _);simp only[q07.next0,q07.round0,evz,Nat.reduceLT,h,hlk,q23,hc.eq];rw[q0l (by omega)];by_cases e:t[k]>=6 <;> simp[e]
  ·simp only[q07.next0,q07.round0,evz,Nat.reduceLT,gAK]
 refine q0s rfl 0 ((q3d.ev _ _).trans ?_);simp only[evz,Nat.reduceLT,hi.eq,q7o]
theorem q46(l:List Symbol)(hs:l.length<=4294967296)(a b:List Int)(ha:a.length<=4294967296)(hb:b.length<=4294967296) :
 Call F.q46 [.agg [slc l],.agg [slc a,slc b]] (.int .i64 (if q2w ⟨l⟩≠0 then q2w ⟨l⟩else q2q l ⟨a,b⟩)):=by
 refine q0s rfl 0 ((q46.ev _ _ _ _).trans ?_);simp only[evz,Nat.reduceLT,(q4p l hs a ha).eq,(q4p l hs b hb).eq,(q8q _ _).eq,qde,q2q];by_cases h1:q2w ⟨l⟩=0
 case neg=>simp only[h1,evz,Nat.reduceLT,ne_eq,gX]
 simp only[h1,evz,Nat.reduceLT,ne_eq,gW];by_cases h2:q4m l a=0
 case neg=>simp only[h2,evz,Nat.reduceLT,gX]
 by_cases h3:q4m l b=0
 case neg=>simp only[h2,h3,evz,Nat.reduceLT,gW,gX]
 have ta:=(q8j l a).1 h2;have tb:=(q8j l b).1 h3;have hal:=ta.le;have hbl:=tb.le
 have hv:=q0v [a,b] (by simp) (fun t ht=>by
  simp only[gK,List.not_mem_nil,or_false]at ht;rcases ht with rfl|rfl
  ·exact⟨ha,ta.ge⟩
  ·exact⟨hb,tb.ge⟩) (by simp;omega)
 have hvl:=qd9 [a,b];have hc:=q3d (qaj [a,b]) (by simp at hvl;omega);simp only[h2,h3,evz,Nat.reduceLT,gW,show LIM F.q0v [.sl 1 [slc a,slc b]]=_ from hv,hc.eq]
 have e1:((qaj [a,b]).any fun n=>decide (n>=6)) = !(low6 a&&low6 b):=by
  rw[Bool.eq_iff_iff,List.any_eq_true,Bool.not_eq_true',Bool.eq_false_iff,ne_eq,gC,qcb,qcb];constructor
  ·rintro⟨v,hv,h6⟩ ⟨q1,q2⟩;rw[gS]at h6;obtain⟨_,t,ht,hm⟩:=q8w.1 hv;simp only[gK,List.not_mem_nil,or_false]at ht;rcases ht with rfl|rfl
   ·have:=q1 _ hm;omega
   ·have:=q2 _ hm;omega
  ·intro h;by_cases q1:∀n∈a,-6<=n
   ·have q2:¬ ∀n∈b,-6<=n:=fun q2=>h ⟨q1,q2⟩;simp only[Classical.not_forall]at q2;obtain⟨n,hn,hlt⟩:=q2;exact⟨-1-n,q8w.2 ⟨by omega,b,by simp,by rw[show -1-(-1-n)=n by omega];exact hn⟩,by simp;omega⟩
   ·simp only[Classical.not_forall]at q1;obtain⟨n,hn,hlt⟩:=q1;exact⟨-1-n,q8w.2 ⟨by omega,a,by simp,by rw[show -1-(-1-n)=n by omega];exact hn⟩,by simp;omega⟩
 rw[e1];cases low6 a <;> cases low6 b <;> rfl
theorem q4w(l:List Symbol)(ok:SigOk ⟨l⟩)(a b:List Int)(ha:a.length<=4294967296)(hb:b.length<=4294967296) :
 Call F.q4w [.rref [slc l] 0,.rref [slc a,slc b] 0] (.int .i64 (q2q l ⟨a,b⟩)):=by
 have la:Call F.q2m [slc a] (.bool (low6 a)):=q2m a ha;have lb:Call F.q2m [slc b] (.bool (low6 b)):=q2m b hb;refine q0s rfl 0 ((q4w.ev _ _ _ _).trans ?_);simp only[evz,Nat.reduceLT,(q1a l ok a ha).eq,(q1a l ok b hb).eq,la.eq,lb.eq,q2q];by_cases h2:q4m l a=0
 case neg=>simp only[h2,evz,Nat.reduceLT,ne_eq,gX]
 by_cases h3:q4m l b=0
 case neg=>simp only[h2,h3,evz,Nat.reduceLT,ne_eq,gW,gX]
 simp only[h2,h3,evz,Nat.reduceLT,ne_eq,gW];cases low6 a <;> cases low6 b <;> rfl
theorem qv4{es:List Equation}{k:Nat}(he:sm 4294967296 es)(h:k<es.length):es[k].left.length<=4294967296/\es[k].right.length<=4294967296:=by
 have:=he.2 es[k] (gG h);exact⟨this.1.1,this.2.1⟩
theorem q0t(l:List Symbol)(hs:l.length<=4294967296)(es:List Equation)(he:sm 4294967296 es) :
 Call F.q0t [.agg [slc l],slc es] (.int .i64 (if q2w ⟨l⟩≠0 then q2w ⟨l⟩else q50 l es)):=by
 refine q0s rfl (es.length+1) ((q0t.ev _ _ _).trans ?_);simp only[evz,Nat.reduceLT,(q05 l hs).eq,q50,gt_iff_lt];by_cases h1:q2w ⟨l⟩=0
 case neg=>simp only[h1,evz,Nat.reduceLT,ne_eq,gX]
 by_cases h2:12<es.length
 ·have h2':(12:Int)<es.length:=by omega
  simp only[h1,h2,h2',evz,Nat.reduceLT,ne_eq,gW]
 have h2':¬(12:Int)<es.length:=by omega
 simp only[h1,h2,h2',evz,Nat.reduceLT,ne_eq,gW]
 refine(q82 (l:=es) (g:=fun e=>if q2q l e≠0 then some (some (.int .i64 (q2q l e),[]))else none) (z:=some (.int .i64 0,[])) (S:=fun m k=>q0t.at0 (es.length+1) m (q0t.st0 (cells es) es.length (k:Nat) (cells l)))
  (fun m k h=>?_) (fun m=>?_) (gAR _)).trans ?_
 ·have hlk:es[k]?=some es[k]:=gA h;obtain⟨q1,q2⟩:=qv4 he h;have hc:=q46 l hs es[k].left es[k].right q1 q2;rw[if_neg (by simpa using h1)]at hc;simp only[q0t.next0,q0t.round0,evz,Nat.reduceLT,h,hlk,q54,hc.eq];rw[q0l (by omega)];by_cases e:q2q l es[k]=0
  ·simp[e]
  ·simp[e]
 ·simp only[q0t.next0,q0t.round0,evz,Nat.reduceLT,gAK]
 ·have:=q6k (fun e=>if q2q l e≠0 then some (q2q l e)else none) (fun n=>(some (T.int .i64 n,[]):R)) es;rw[show(fun e=>(if q2q l e≠0 then some (q2q l e)else none).map fun n=>(some (T.int .i64 n,[]):R))=fun e=>if q2q l e≠0 then some (some (T.int .i64 (q2q l e),[]))else none from funext fun e=>by by_cases h:q2q l e=0 <;> simp[h]]at this;rw[this];cases es.findSome? fun e=>if q2q l e≠0 then some (q2q l e)else none <;> rfl
theorem q1o(l:List Symbol)(ok:SigOk ⟨l⟩)(es:List Equation)(he:sm 4294967296 es):Call F.q1o [.rref [slc l] 0,slc es] (.int .i64 (q50 l es)):=by
 refine q0s rfl (es.length+1) ((q1o.ev _ _ _).trans ?_);simp only[evz,Nat.reduceLT,q50,gt_iff_lt];by_cases h2:12<es.length
 ·have h2':(12:Int)<es.length:=by omega
  simp only[h2,h2',evz,Nat.reduceLT]
 have h2':¬(12:Int)<es.length:=by omega
 simp only[h2,h2',evz,Nat.reduceLT]
 refine(q82 (l:=es) (g:=fun e=>if q2q l e≠0 then some (some (.int .i64 (q2q l e),[]))else none) (z:=some (.int .i64 0,[])) (S:=fun m k=>q1o.at0 (es.length+1) m (q1o.st0 (cells l) (cells es) (k:Nat)))
  (fun m k h=>?_) (fun m=>?_) (gAR _)).trans ?_
 ·have hlk:es[k]?=some es[k]:=gA h;obtain⟨q1,q2⟩:=qv4 he h;have hc:=q4w l ok es[k].left es[k].right q1 q2;simp only[q1o.next0,q1o.round0,evz,Nat.reduceLT,h,hlk,q4v q8a hlk,q54,hc.eq];rw[q0l (by omega)];by_cases e:q2q l es[k]=0
  ·simp[e]
  ·simp[e]
 ·simp only[q1o.next0,q1o.round0,evz,Nat.reduceLT,gAK]
 ·have:=q6k (fun e=>if q2q l e≠0 then some (q2q l e)else none) (fun n=>(some (T.int .i64 n,[]):R)) es;rw[show(fun e=>(if q2q l e≠0 then some (q2q l e)else none).map fun n=>(some (T.int .i64 n,[]):R))=fun e=>if q2q l e≠0 then some (some (T.int .i64 (q2q l e),[]))else none from funext fun e=>by by_cases h:q2q l e=0 <;> simp[h]]at this;rw[this];cases es.findSome? fun e=>if q2q l e≠0 then some (q2q l e)else none <;> rfl
theorem q3u(t v:List Int)(hs:t.length<=4294967296)(hv:v.length<=4294967296) :
 Call F.q2a [slc t,.clo F.q4s [.rref [slc v] 0]] (.bool (t.any fun n=>decide (n∉v))):=by
 have hi:Call F.q0n [slc t,.clo F.q4s [.rref [slc v] 0]] (.int .i64 (idx (fun n=>decide (n∉v)) t)):=by
  refine q0s rfl (t.length+1) ((q0e.ev _ _ _).trans ?_);refine q84 (S:=fun m k=>q0e.at0 (t.length+1) m (q0e.st0 (cells t) _ _ (k:Nat))) (fun m k h=>?_) (fun m=>?_) (gAR _)
  ·have hlk:t[k]?=some t[k]:=gA h
   have hc:Call F.q4s [.int .i64 t[k],.rref [slc v] 0] (.bool (decide (t[k]∉v))):=by
    refine q0s rfl 0 ((q4s.ev _ _ _).trans ?_);simp only[evz,Nat.reduceLT,(q1t v t[k] hv).eq,decide_not]
   simp only[q0e.next0,q0e.round0,evz,Nat.reduceLT,h,hlk,q23,hc.eq];rw[q0l (by omega)];by_cases e:t[k]∈v <;> simp[e]
  ·simp only[q0e.next0,q0e.round0,evz,Nat.reduceLT,gAK]
 refine q0s rfl 0 ((q3u.ev _ _ _).trans ?_);simp only[evz,Nat.reduceLT,hi.eq,q7o]
theorem qge{l:List Symbol}{t:List Int}(h:TermOk l t):Call F.q0v [.sl 1 [slc t]] (slc (qaj [t]))/\(qaj [t]).length<=24:=by
 have hle:=h.le;have hvl:=qd9 [t];refine⟨q0v [t] (by simp) (fun x hx=>?_) (by simp;omega),by simp at hvl;omega⟩;simp only[gK,List.not_mem_nil,or_false]at hx;subst hx;exact⟨by omega,h.ge⟩
theorem qx6{l:List Symbol}{t:List Int}(h:TermOk l t):t[0]?=some (t.headD 0):=by
 have:=h.pos;cases t with
 |nil=>simp at this
 |cons x r=>rfl
theorem q89{l:List Symbol}{a b:List Int}(ha:TermOk l a)(hb:TermOk l b):Call F.q89 [.agg [slc a,slc b]] (.bool (q9q ⟨a,b⟩)):=by
 refine q0s rfl 0 ((q89.ev _ _ _).trans ?_);obtain⟨ca,la⟩:=qge ha;obtain⟨cb,lb⟩:=qge hb
 have h0:(cells a)[0]?=some (.int .i64 (a.headD 0)):=by
  have:=get0 (l:=a) (k:=1) (i:=0) q3p;rw[Nat.zero_mul]at this;rw[this,qx6 ha];rfl
 have hin:inB 0 ((cells a).length/1)=true:=by
  rw[q5s q3p];have:=q6w 0 a.length;have hp:=ha.pos;rw[show(0:Int)=((0:Nat):Int)from rfl,this];exact decide_eq_true hp
 have hc:=q3u (qaj [b]) (qaj [a]) (by omega) (by omega);rw[hin,cond_true,h0];simp only[evz,Nat.reduceLT,q9q]
 have e:((qaj [b]).any fun n=>decide (n∉qaj [a]))=b.any fun n=>decide (n<0/\n∉a):=by
  rw[Bool.eq_iff_iff,List.any_eq_true,List.any_eq_true];constructor
  ·rintro⟨v,hv,h⟩;rw[gS]at h;obtain⟨v0,t,ht,hm⟩:=q8w.1 hv;simp only[gK,List.not_mem_nil,or_false]at ht;subst ht;refine⟨-1-v,hm,?_⟩;rw[gS];exact⟨by omega,fun hn=>h (q8w.2 ⟨v0,a,by simp,hn⟩)⟩
  ·rintro⟨n,hn,h⟩;rw[gS]at h;refine⟨-1-n,q8w.2 ⟨by omega,b,by simp,by rw[show -1-(-1-n)=n by omega];exact hn⟩,?_⟩;rw[gS];intro hm;obtain⟨_,t,ht,hm'⟩:=q8w.1 hm;simp only[gK,List.not_mem_nil,or_false]at ht;subst ht;rw[show -1-(-1-n)=n by omega]at hm';exact h.2 hm'
 by_cases h1:a.headD 0<0
 ·have h2:¬ 0<=a.headD 0:=by omega
  simp only[h1,h2,evz,Nat.reduceLT,Bool.false_and]
 ·have h2:0<=a.headD 0:=by omega
  simp only[h1,h2,evz,Nat.reduceLT,ca.eq,cb.eq,hc.eq,e,Bool.true_and]
theorem q4q(l:List Symbol)(hs:l.length<=4294967296)(es:List Equation)(he:sm 4294967296 es):Call F.q4q [.agg [slc l],slc es] (.int .i64 (q48 ⟨l⟩ es)):=by
 refine q0s rfl 0 ((q4q.ev _ _ _).trans ?_);simp only[evz,Nat.reduceLT,(q0t l hs es he).eq,q48,q8u];by_cases h1:q2w ⟨l⟩=0
 case neg=>simp only[h1,evz,Nat.reduceLT,ne_eq,gX]
 simp only[h1,evz,Nat.reduceLT,ne_eq,gW];by_cases h2:q50 l es=0
 case neg=>simp only[h2,evz,Nat.reduceLT,gX]
 obtain⟨hlen,hok⟩:=q8m.1 h2
 have hi:Call F.q1g [slc es,.clo F.q3k []] (.int .i64 (idx (fun e=>!q9q e) es)):=by
  refine q0s rfl (es.length+1) ((q06.ev _ _).trans ?_);simp only[evz,Nat.reduceLT];refine q84 (S:=fun m k=>q06.at0 (es.length+1) m (q06.st0 (cells es) es.length (k:Nat))) (fun m k h=>?_) (fun m=>?_) (gAR _)
  ·have hlk:es[k]?=some es[k]:=gA h;have ho:=hok es[k] (gG h)
   have hc:Call F.q3k [.agg [slc es[k].left,slc es[k].right]] (.bool (!q9q es[k])):=by
    refine q0s rfl 0 ((q3k.ev _ _ _).trans ?_);simp only[evz,Nat.reduceLT,(q89 ho.left ho.right).eq]
   simp only[q06.next0,q06.round0,evz,Nat.reduceLT,h,hlk,q54,hc.eq];rw[q0l (by omega)];cases q9q es[k] <;> rfl
  ·simp only[q06.next0,q06.round0,evz,Nat.reduceLT,gAK]
 have hc:Call F.q3j [slc es,.clo F.q3k []] (.bool (es.any fun e=>!q9q e)):=by
  refine q0s rfl 0 ((q63.ev _ _).trans ?_);simp only[evz,Nat.reduceLT,hi.eq,q7o]
 simp only[h2,evz,Nat.reduceLT,gW,hc.eq];cases es.any fun e=>!q9q e <;> rfl
theorem q1r(t:List Int)(x:Int)(hl:t.length<=4294967296):Call F.q1r [slc t,.int .i64 x] (.int .i64 (t.count x:Nat)):=by
 have loop:∀m k (c:Nat),k<=t.length->t.length<m+k->c<=k->
  q1r.at0 (t.length+1) m (q1r.st0 (cells t) x (c:Nat) (k:Nat))=some (.int .i64 ((c+(t.drop k).count x:Nat):Int),[]):=by
  intro m;induction m with
  |zero=>intros;omega
  |succ m ih=>
   intro k c hk hm hc;by_cases h:k<t.length
   ·have hlk:t[k]?=some t[k]:=gA h;simp only[q1r.next0,q1r.round0,evz,Nat.reduceLT,h,hlk,q23];rw[q0l (by omega),q0l (by omega),gH h,List.count_cons];by_cases e:t[k]=x
    ·simp only[e,evz,Nat.reduceLT];rw[ih (k+1) (c+1) (by omega) (by omega) (by omega)];simp;omega
    ·simp only[e,evz,Nat.reduceLT];rw[ih (k+1) c (by omega) (by omega) (by omega)];simp[e]
   ·obtain rfl:k=t.length:=by omega
    simp only[q1r.next0,q1r.round0,evz,Nat.reduceLT,gAK,List.drop_length,List.count_nil,Nat.add_zero]
 refine q0s rfl (t.length+1) ((q1r.ev _ _ _).trans ?_);have:=loop (t.length+1) 0 0 (by omega) (by omega) (by omega);rw[List.drop_zero,gAJ]at this;exact this
theorem q0u(l:List Symbol)(ok:SigOk ⟨l⟩)(es:List Equation)(he:sm 4294967296 es):Call F.q0u [.rref [slc l] 0,slc es] (.int .i64 (q8u l es)):=by
 refine q0s rfl 25 ((q0u.ev _ _ _).trans ?_);simp only[evz,Nat.reduceLT,(q1o l ok es he).eq,q8u];by_cases h2:q50 l es=0
 case neg=>simp only[h2,evz,Nat.reduceLT,ne_eq,gX]
 obtain⟨hlen,hok⟩:=q8m.1 h2;simp only[h2,evz,Nat.reduceLT,ne_eq,gW]
 have inner:∀(L0:St->R)(k:Nat)(h:k<es.length),
  q0u.at2 25 L0 25 (q0u.st2 (cells es) (k:Nat) ((0:Nat):Int))=if(es[k].right.any fun n=>decide (n<0/\n∉es[k].left))=true then some (.int .i64 1,[])else L0 (q0u.st0 (cells es) ((k+1:Nat):Int)):=fun L0 k h=>by
  have hlk:es[k]?=some es[k]:=gA h;have ho:=hok es[k] (gG h);have hle:=ho.right.le;have hle':=ho.left.le;refine q8s (l:=es[k].right) (p:=fun n=>decide (n<0/\n∉es[k].left)) (r:=some (.int .i64 1,[])) (S:=fun m j=>q0u.at2 25 L0 m (q0u.st2 (cells es) (k:Nat) (j:Nat))) (fun m j hj=>?_) (fun m=>?_) (by omega)
  ·have hlj:es[k].right[j]?=some es[k].right[j]:=gA hj;simp only[q0u.next2,q0u.round2,evz,Nat.reduceLT,h,hlk,hj,hlj,q54,q23,(q1r es[k].left es[k].right[j] (by omega)).eq];rw[q0l (by omega)];by_cases q1:es[k].right[j]<0
   ·by_cases q2:es[k].right[j]∈es[k].left
    ·have q3:0<es[k].left.count es[k].right[j]:=List.count_pos_iff.2 q2;have q4:¬((es[k].left.count es[k].right[j]:Nat):Int)=0:=by omega
     simp only[q1,q2,q4,evz,Nat.reduceLT,gW,and_false,Bool.false_eq_true]
    ·have q3:es[k].left.count es[k].right[j]=0:=List.count_eq_zero.2 q2;simp only[q1,q2,q3,evz,Nat.reduceLT,gX,and_true,Int.natCast_zero]
   ·simp only[q1,evz,Nat.reduceLT,false_and,Bool.false_eq_true]
  ·simp only[q0u.next2,q0u.round2,evz,Nat.reduceLT,h,hlk,q54,gAK];rw[q0l (by omega)]
 refine(q8s (l:=es) (p:=fun e=>!q9q e) (r:=some (.int .i64 1,[])) (z:=some (.int .i64 0,[])) (S:=fun m k=>q0u.at0 25 m (q0u.st0 (cells es) (k:Nat))) (fun m k h=>?_) (fun m=>?_) (show es.length<25 by omega)).trans ?_
 ·have hlk:es[k]?=some es[k]:=gA h;have ho:=hok es[k] (gG h)
  have h0:(cells es[k].left)[0]?=some (.int .i64 (es[k].left.headD 0)):=by
   have:=get0 (l:=es[k].left) (k:=1) (i:=0) q3p;rw[Nat.zero_mul]at this;rw[this,qx6 ho.left];rfl
  have hin:inB 0 es[k].left.length=true:=by
   have:=q6w 0 es[k].left.length;have hp:=ho.left.pos;rw[show(0:Int)=((0:Nat):Int)from rfl,this];exact decide_eq_true hp
  simp only[q0u.next0,q0u.round0,evz,Nat.reduceLT,h,hlk,q54,hin,h0,q9q];by_cases q1:es[k].left.headD 0<0
  ·have q2:¬ 0<=es[k].left.headD 0:=by omega
   simp only[q1,q2,evz,Nat.reduceLT,Bool.false_and,Bool.not_false]
  ·have q2:0<=es[k].left.headD 0:=by omega
   simp only[q1,q2,evz,Nat.reduceLT,Bool.true_and,Bool.not_not];exact inner _ k h
 ·simp only[q0u.next0,q0u.round0,evz,Nat.reduceLT,gAK]
 ·cases es.any fun e=>!q9q e <;> rfl
theorem q4n(l:List Symbol)(hs:l.length<=4294967296)(es:List Equation)(he:sm 4294967296 es):Call F.q4n [.agg [slc l],slc es] (.int .i64 (q48 ⟨l⟩ es)):=by
 refine q0s rfl 0 ((q4n.ev _ _ _).trans ?_);simp only[evz,Nat.reduceLT,(q00 l hs).eq,q48];by_cases h1:q2w ⟨l⟩=0
 case neg=>simp only[h1,evz,Nat.reduceLT,ne_eq,gX]
 have ok:=(q51 _).1 h1;simp only[h1,evz,Nat.reduceLT,ne_eq,gW,(q0u l ok es he).eq]
def digs(z:Nat):Nat->Nat->List Int
 |0,_=>[]
 |k+1,n=>((n % z:Nat):Int)::digs z k (n/z)
def odo(z:Nat):List Int->List Int
 |[]=>[]
 |x::r=>if x+1<z then(x+1)::r else 0::odo z r
theorem qb6(z:Nat):∀k n,(digs z k n).length=k
 |0,_=>rfl
 |k+1,n=>by rw[digs,gAB,qb6 z k]
theorem qcd{z:Nat}(hz:0<z):∀k n,∀x∈digs z k n,0<=x/\x<=(z:Int)-1
 |0,_=>by simp[digs]
 |k+1,n=>by
  intro x hx;rw[digs,gK]at hx;rcases hx with rfl|hx
  ·have:=Nat.mod_lt n hz;omega
  ·exact qcd hz k _ x hx
theorem qpb{z:Nat}(hz:0<z):∀k n,odo z (digs z k n)=digs z k (n+1)
 |0,_=>rfl
 |k+1,n=>by
  rw[digs,odo,digs];have hm:=Nat.mod_lt n hz;have hd:=Nat.div_add_mod n z;by_cases h:n % z+1<z
  ·have e1:(n+1) % z=n % z+1:=by
    rw[Nat.add_mod,Nat.mod_eq_of_lt (show 1<z by omega),Nat.mod_eq_of_lt h]
   have e2:(n+1)/z=n/z:=by
    rw[Nat.div_eq_iff hz];constructor <;> (have:=Nat.mul_comm z (n/z);omega)
   rw[if_pos (by omega),e1,e2];rfl
  ·have e0:n+1=(n/z+1)*z:=by
    rw[Nat.add_mul,Nat.one_mul,Nat.mul_comm (n/z) z];omega
   have e1:(n+1) % z=0:=by rw[e0,Nat.mul_mod_left]
   have e2:(n+1)/z=n/z+1:=by rw[e0,Nat.mul_div_cancel _ hz]
   rw[if_neg (by omega),e1,e2,qpb hz k];rfl
theorem qmd(z:Nat):∀k,digs z k 0=List.replicate k 0
 |0=>rfl
 |k+1=>by rw[digs,Nat.zero_mod,Nat.zero_div,qmd z k,List.replicate_succ];rfl
noncomputable def qcl(l:List Symbol)(z:Nat)(tb:List (List Int))(e:Equation)(n:Nat):Bool:=
 decide ((q33 l e.left).eval z tb (digs z 6 n)≠(q33 l e.right).eval z tb (digs z 6 n))
noncomputable def q3o(l:List Symbol)(z:Nat)(tb:List (List Int))(e:Equation):Bool := !(List.range (z ^ 6)).any (qcl l z tb e)
section
variable {l:List Symbol}{z:Nat}{tb:List (List Int)}(al:AlgOk l z tb)
include al
theorem q9b{vs t:List Int}(hv:vs.length=6)(hr:∀n∈vs,0<=n/\n<=(z:Int)-1)(to:TermOk l t)(hlow:∀n∈t,-6<=n) :
 Call F.q5y [.agg [.int .i64 z,slc tb],.agg [slc l],slc vs,slc t] (.int .i64 ((q33 l t).eval z tb vs)):=by
 obtain⟨o1,o2⟩:=q3e al.sig to;have hle:=to.le;have hl6:(q33 l t).low 6:=Tm.low_of fun n hn=>by rw[<- o2]at hn;exact hlow n hn
 have hsy:(q33 l t).syms l.length:=Tm.syms_of o1 fun n hn=>to.node n (by rw[o2];exact hn);have he:=q0k al hv hr (by omega:t.length<=4294967296) (q33 l t) [] 0 (by rw[List.drop_zero,gAD];exact o2) o1 hsy hl6;refine q0s rfl 0 ((q5y.ev _ _ _ _ _ _).trans ?_);simp only[evz,Nat.reduceLT,show LIM F.q0k [.agg [.int .i64 z,slc tb],.agg [slc l],slc vs,slc t,.int .i64 0]=_ from he]
theorem qc1{vs t:List Int}(hv:vs.length=6)(hr:∀n∈vs,0<=n/\n<=(z:Int)-1)(to:TermOk l t)(hlow:∀n∈t,-6<=n) :
 Call F.q19 [.rref [slc l] 0,.rref [.int .i64 z,slc tb] 0,slc vs,slc t,.int .i64 0] (.int .i64 ((q33 l t).eval z tb vs)):=by
 obtain⟨o1,o2⟩:=q3e al.sig to;have hle:=to.le;have hl6:(q33 l t).low 6:=Tm.low_of fun n hn=>by rw[<- o2]at hn;exact hlow n hn
 have hsy:(q33 l t).syms l.length:=Tm.syms_of o1 fun n hn=>to.node n (by rw[o2];exact hn);exact q19 al hv hr to.node (by omega) (q33 l t) [] 0 (by rw[List.drop_zero,gAD];exact o2) o1 hsy hl6
theorem pow6:z ^ 6<=729/\0<z/\z<=3:=by
 have:=al.size;have h1:1<=z:=by omega
 have h3:z<=3:=by omega
 refine⟨?_,by omega,h3⟩;have:z=1\/z=2\/z=3:=by omega
 rcases this with rfl|rfl|rfl <;> decide
theorem q08{e:Equation}(ho:EqOk l e):Call F.q08 [.agg [.int .i64 z,slc tb],.agg [slc l],.agg [slc e.left,slc e.right]] (.bool (q3o l z tb e)):=by
 obtain⟨h729,hz0,hz3⟩:=pow6 al;have hp:=q2u z 6 hz3 (by omega);refine q0s rfl 1000 ((q08.ev _ _ _ _ _ _).trans ?_)
 have inner:∀(L0:St->R)(k:Nat),k<729->∀m j (v:List Int),v.length=6->(∀x∈v,0<=x/\x<=(z:Int)-1)->j<=6->6<m+j->
  q08.at2 1000 L0 m (q08.st2 (z ^ 6:Nat) (k:Nat) ((6:Nat):Int) (j:Nat) z (cells tb) (cells l) (cells e.left) (cells e.right) (cells v))=
   L0 (q08.st0 (z ^ 6:Nat) ((k+1:Nat):Int) z (cells tb) (cells l) (cells e.left) (cells e.right) (cells (v.take j++odo z (v.drop j)))):=by
  intro L0 k hk m;induction m with
  |zero=>intros;omega
  |succ m ih=>
   intro j v hv hr hj hm;by_cases h:j<6
   ·have hjv:j<v.length:=by omega
    have hlk:v[j]?=some v[j]:=gA hjv;obtain⟨b1,b2⟩:=hr v[j] (gG hjv);have hls:∀x:Int,(v.set j x)[j]?=some x:=fun x=>by rw[List.getElem?_set_self hjv]
    have hdc:decide (j*1+1<=(cells v).length)=true:=by rw[q0r,q3p];exact decide_eq_true (by omega)
    have hdc':∀x:Int,decide (j*1+1<=(cells (v.set j x)).length)=true:=fun x=>by rw[q0r,q3p,List.length_set];exact decide_eq_true (by omega)
    simp only[q08.next2,q08.round2,evz,Nat.reduceLT,h,hjv,hlk,q23,hdc];rw[q0l (by omega),q0l (by omega),q1v (show -9223372036854775808<=v[j]+1/\v[j]+1<9223372036854775808 by omega)];simp only[q9m hjv,evz,Nat.reduceLT,List.length_set,hjv,hls,q23,hdc'];rw[gH hjv,odo];by_cases hx:v[j]+1<(z:Int)
    ·simp only[hx,evz,Nat.reduceLT];rw[List.set_eq_take_append_cons_drop,if_pos hjv]
    ·simp only[hx,evz,Nat.reduceLT]
     rw[q9m (by rw[List.length_set];exact hjv),List.set_set,ih (j+1) (v.set j 0) (by rw[List.length_set];exact hv) (fun x hx'=>by
      rcases List.mem_or_eq_of_mem_set hx' with h'|rfl
      ·exact hr x h'
      ·omega) (by omega) (by omega)]
     rw[List.drop_set_of_lt (by omega),List.take_succ_eq_append_getElem (by rw[List.length_set];exact hjv),List.getElem_set_self,List.take_set_of_le (gAI _),gZ,List.singleton_append,if_pos (by rw[q0r,q3p,List.length_set];omega)]
   ·obtain rfl:j=6:=by omega
    simp only[q08.next2,q08.round2,evz,Nat.reduceLT,gAK];rw[q0l (by omega),gU (by omega),odo,gAD,List.take_of_length_le (by omega)]
 have outer:=qdi (n:=z ^ 6) (bad:=qcl l z tb e) (r:=some (.bool false,[])) (z:=some (.bool true,[]))
  (S:=fun m k=>q08.at0 1000 m (q08.st0 (z ^ 6:Nat) (k:Nat) z (cells tb) (cells l) (cells e.left) (cells e.right) (cells (digs z 6 k)))) (f:=1000)
  (fun m k hk=>by
   have hdl:=qb6 z 6 k;have hdr:=qcd hz0 6 k;simp only[q08.next0,q08.round0,evz,Nat.reduceLT,hk,(q9b al hdl hdr ho.left ho.lowL).eq,(q9b al hdl hdr ho.right ho.lowR).eq,qcl,hdl];have hin:=inner (q08.at0 1000 m) k (by omega) 1000 0 (digs z 6 k) hdl hdr (by omega) (by omega);rw[List.take_zero,List.nil_append,List.drop_zero,qpb hz0]at hin;by_cases hne:(q33 l e.left).eval z tb (digs z 6 k)=(q33 l e.right).eval z tb (digs z 6 k)
   ·simp only[hne,evz,Nat.reduceLT,ne_eq,gW,Bool.false_eq_true];exact hin
   ·simp only[hne,evz,Nat.reduceLT,ne_eq,gX])
  (fun m=>by simp only[q08.next0,q08.round0,evz,Nat.reduceLT,gAK]) (by omega)
 simp only[evz,Nat.reduceLT,show LIM F.q2u [.int .i64 z,.int .i64 6]=_ from hp];rw[qmd]at outer;refine Eq.trans outer ?_;unfold q3o;cases (List.range (z ^ 6)).any (qcl l z tb e) <;> rfl
theorem q0m{e:Equation}(ho:EqOk l e):Call F.q0m [.rref [slc l] 0,.rref [.int .i64 z,slc tb] 0,.rref [slc e.left,slc e.right] 0] (.bool (q3o l z tb e)):=by
 obtain⟨h729,hz0,hz3⟩:=pow6 al;have hp:=q4t z 6 hz3 (by omega);refine q0s rfl 1000 ((q0m.ev _ _ _ _ _ _).trans ?_)
 have inner:∀(L0:St->R)(k:Nat),k<729->∀m j x (acc:List Int),acc.length=j->j<=6->6<m+j->acc++digs z (6-j) x=digs z 6 k->x<=729->
  q0m.at2 1000 L0 m (q0m.st2 (cells l) z (cells tb) (cells e.left) (cells e.right) (k:Nat) (x:Nat) (j:Nat) (cells acc))=
   if qcl l z tb e k=true then some (.bool false,[])else L0 (q0m.st0 (cells l) z (cells tb) (cells e.left) (cells e.right) ((k+1:Nat):Int)):=by
  intro L0 k hk m;induction m with
  |zero=>intros;omega
  |succ m ih=>
   intro j x acc hacc hj hm hd hx;by_cases h:j<6
   ·have h6:((j:Nat):Int)<6:=by omega
    have hzi:¬((z:Nat):Int)=0:=by omega
    have hble:Nat.ble (((cells acc).length+1)*8) (140737488355328*1)=true:=by
     rw[Nat.ble_eq,q0r,q3p];omega
    have hdiv:x/z<=x:=Nat.div_le_self _ _;rw[show 6-j=(6-(j+1))+1 by omega,digs]at hd;have hdm:Int.tdiv (x:Nat) (z:Nat)=((x/z:Nat):Int):=rfl;generalize x/z=q at hdiv hdm hd;simp only[q0m.next2,q0m.round2,evz,Nat.reduceLT,h6,hzi,hble];rw[hdm,show Int.tmod (x:Nat) (z:Nat)=((x % z:Nat):Int)from rfl,q0l (by omega),q1v (by omega),q2s];refine ih (j+1) q (acc++[((x % z:Nat):Int)]) (by rw[gM,hacc];rfl) (by omega) (by omega) ?_ (by omega);rw[gZ,List.singleton_append];exact hd
   ·obtain rfl:j=6:=by omega
    rw[Nat.sub_self,digs,gAD]at hd;subst hd;have hdl:=qb6 z 6 k;have hdr:=qcd hz0 6 k;have h6:¬((6:Nat):Int)<6:=by omega
    simp only[q0m.next2,q0m.round2,evz,Nat.reduceLT,h6,(qc1 al hdl hdr ho.left ho.lowL).eq,(qc1 al hdl hdr ho.right ho.lowR).eq,qcl];rw[q0l (by omega)];by_cases hne:(q33 l e.left).eval z tb (digs z 6 k)=(q33 l e.right).eval z tb (digs z 6 k)
    ·simp only[hne,evz,Nat.reduceLT,ne_eq,gW,Bool.false_eq_true]
    ·simp only[hne,evz,Nat.reduceLT,ne_eq,gX]
 have outer:=qdi (n:=z ^ 6) (bad:=qcl l z tb e) (r:=some (.bool false,[])) (z:=some (.bool true,[]))
  (S:=fun m k=>q0m.at0 1000 m (q0m.st0 (cells l) z (cells tb) (cells e.left) (cells e.right) (k:Nat))) (f:=1000)
  (fun m k hk=>by
   simp only[q0m.next0,q0m.round0,evz,Nat.reduceLT,show LIM F.q4t [.int .i64 z,.int .i64 6]=_ from hp,hk];exact inner (q0m.at0 1000 m) k (by omega) 1000 0 k [] rfl (by omega) (by omega) (by simp) (by omega))
  (fun m=>by simp only[q0m.next0,q0m.round0,evz,Nat.reduceLT,show LIM F.q4t [.int .i64 z,.int .i64 6]=_ from hp,gAK]) (by omega)
 refine Eq.trans outer ?_;unfold q3o;cases (List.range (z ^ 6)).any (qcl l z tb e) <;> rfl
end
theorem q7u(b:Bool):Call F.q7u [.bool b] (.agg [.int .i64 0,.int .i64 (if b=true then 1 else 0)]):=by
 refine q0s rfl 0 ((q7u.ev _ _).trans ?_);cases b <;> rfl
noncomputable def qdl(s:Signature)(a:Algebra)(es:List Equation):IntResult:=
 if q5u s a≠0 then⟨q5u s a,0⟩else if q50 s.symbols es≠0 then⟨q50 s.symbols es,0⟩else⟨0,if(!es.any fun e=>!q3o s.symbols a.size.toNat a.tables e)=true then 1 else 0⟩
section
variable (l:List Symbol)(z:Int)(tb:List (List Int))(hs:l.length<=4294967296)(ht:sm 4294967296 tb)
include hs ht
theorem q7m(es:List Equation)(he:sm 4294967296 es):Call F.q7m [.agg [slc l],.agg [.int .i64 z,slc tb],slc es] (.agg (enc (qdl ⟨l⟩ ⟨z,tb⟩ es))):=by
 refine q0s rfl 0 ((q7m.ev _ _ _ _ _).trans ?_);simp only[evz,Nat.reduceLT,(q11 l z tb hs ht).eq,(q0t l hs es he).eq,(q8q _ _).eq,qdl];by_cases h1:q5u ⟨l⟩ ⟨z,tb⟩=0
 case neg=>simp only[h1,evz,Nat.reduceLT,ne_eq,gX,q4h]
 have al:=qnx h1;have hsg:=qf8 h1;obtain⟨y,hy⟩:∃y:Nat,z=y:=⟨z.toNat,by have:=al.size;omega⟩;subst hy;simp only[h1,hsg,evz,Nat.reduceLT,ne_eq,gW];by_cases h2:q50 l es=0
 case neg=>simp only[h2,evz,Nat.reduceLT,gX,q4h]
 obtain⟨hlen,hok⟩:=q8m.1 h2
 have hi:Call F.q1g [slc es,.clo F.q4f [.rref [.int .i64 y,slc tb] 0,.rref [slc l] 0]] (.int .i64 (idx (fun e=>!q3o l y tb e) es)):=by
  refine q0s rfl (es.length+1) ((q0a.ev _ _ _ _ _).trans ?_);simp only[evz,Nat.reduceLT];refine q84 (S:=fun m k=>q0a.at0 (es.length+1) m (q0a.st0 (cells es) y (cells tb) (cells l) es.length (k:Nat))) (fun m k h=>?_) (fun m=>?_) (gAR _)
  ·have hlk:es[k]?=some es[k]:=gA h;have ho:=hok es[k] (gG h)
   have hc:Call F.q4f [.agg [slc es[k].left,slc es[k].right],.rref [.int .i64 y,slc tb] 0,.rref [slc l] 0] (.bool (!q3o l y tb es[k])):=by
    refine q0s rfl 0 ((q4f.ev _ _ _ _ _ _).trans ?_);simp only[evz,Nat.reduceLT,(q08 al ho).eq]
   simp only[q0a.next0,q0a.round0,evz,Nat.reduceLT,h,hlk,q54,hc.eq];rw[q0l (by omega)];cases q3o l y tb es[k] <;> rfl
  ·simp only[q0a.next0,q0a.round0,evz,Nat.reduceLT,gAK]
 have hc:Call F.q3j [slc es,.clo F.q4f [.rref [.int .i64 y,slc tb] 0,.rref [slc l] 0]] (.bool (es.any fun e=>!q3o l y tb e)):=by
  refine q0s rfl 0 ((q6f.ev _ _ _ _ _).trans ?_);simp only[evz,Nat.reduceLT,hi.eq,q7o]
 simp only[h2,evz,Nat.reduceLT,gW,hc.eq,(q7u _).eq,q4h,gR]
end
theorem q1z(l r:List Int)(hs:sm 4294967296 l):Call F.q1z [slc l,slc r] (.bool (decide (l=r))):=by
 refine q0s rfl (l.length+1) ((q1z.ev _ _ _).trans ?_);simp only[q5s,q3p];by_cases hl:l.length=r.length
 ·have loop:=qrs hl (S:=fun m k=>q1z.at0 (l.length+1) m (q1z.st0 (cells l) (cells r) (k:Nat)))
   (fun m k h h'=>by
    have hlk:l[k]?=some l[k]:=gA h;have hrk:r[k]?=some r[k]:=gA h';simp only[q1z.next0,q1z.round0,evz,Nat.reduceLT,h,h',hlk,hrk,q4v (l:=l) q3p hlk,q4v (l:=r) q3p hrk,q23,qiw];rw[q0l (by have:=hs.1;omega)])
   (fun m=>by
    simp only[q1z.next0,q1z.round0,evz,Nat.reduceLT,gAK])
  rw[qfw (by rw[hl];exact bne_self_eq_false _)];exact loop
 ·rw[q22 (by simp;omega)];simp only[show(l=r)=False from eq_false fun e=>hl (e▸rfl),decide_false]
theorem q0q(l r:List Int)(hs:sm 4294967296 l):Call F.q0q [slc l,slc r] (.bool (decide (l=r))):=by
 refine q0s rfl (l.length+1) ((q0q.ev _ _ _).trans ?_);simp only[q5s,q3p];by_cases hl:l.length=r.length
 ·have loop:=qrs hl (S:=fun m k=>q0q.at0 (l.length+1) m (q0q.st0 (cells l) (cells r) l.length (k:Nat)))
   (fun m k h h'=>by
    have hlk:l[k]?=some l[k]:=gA h;have hrk:r[k]?=some r[k]:=gA h';simp only[q0q.next0,q0q.round0,evz,Nat.reduceLT,h,h',hlk,hrk,q4v (l:=l) q3p hlk,q4v (l:=r) q3p hrk,q23,qiw];rw[q0l (by have:=hs.1;omega)])
   (fun m=>by
    simp only[q0q.next0,q0q.round0,evz,Nat.reduceLT,gAK])
  rw[qfw (by rw[hl];exact bne_self_eq_false _)];exact loop
 ·rw[q22 (by simp;omega)];simp only[show(l=r)=False from eq_false fun e=>hl (e▸rfl),decide_false]
theorem q56(v_left:List Int)(v_right:List Int)(w_left:List Int)(w_right:List Int)(hs:sm 4294967296 (Equation.mk v_left v_right)):Call F.q56 [.agg [slc v_left,slc v_right],.agg [slc w_left,slc w_right]] (.bool (decide ((Equation.mk v_left v_right)=(Equation.mk w_left w_right)))):=by
 refine q0s rfl 0 ((q56.ev _ _ _ _ _ ).trans ?_);simp only[evz,Nat.reduceLT,(q0q _ _ hs.1).eq,(q0q _ _ hs.2).eq,Equation.mk.injEq];by_cases h0:v_left=w_left
 case neg=>simp only[h0,  beq_self_eq_true,decide_eq_false,gX,if_true,if_false,decide_false,decide_true,cond_false,cond_true,false_and,and_false,↓reduceIte]
 by_cases h1:v_right=w_right
 case neg=>simp only[h1,h0,  beq_self_eq_true,decide_eq_false,gX,if_true,if_false,decide_false,decide_true,cond_false,cond_true,false_and,and_false,↓reduceIte]
 simp only[h0,h1,if_true,decide_true,cond_true,and_true,and_self,beq_self_eq_true]
theorem q2d(a b c d e:Int)(l r:List Int):Call F.q2d [.agg [.int .i64 a,.int .i64 b,.int .i64 c,.int .i64 d,.int .i64 e,slc l,slc r]] (.agg [slc l,slc r]):=
 q0s rfl 0 ((q2d.ev _ _ _ _ _ _ _ _).trans rfl)
theorem qqj(a b:Int):Call F.q5a [.sl 1 [.int .i64 a,.int .i64 b]] (.int .i64 (if a=0 then b else a)):=q8q a b
theorem qc5{a:Int->Nat}:∀{t r:List Int}{k p:Nat},skip a k t=some r->p+r.length<t.length->∃q,skip a 1 (t.drop p)=some q
 |[],r,k,p,h,hp=>by simp at hp
 |n::t,r,0,p,h,hp=>by
  rw[q3t]at h;cases h;omega
 |n::t,r,k+1,0,h,hp=>by
  rw[show k+1=1+k by omega,qa3]at h;cases h1:skip a 1 (n::t)with
  |none=>rw[h1]at h;cases h
  |some q=>exact⟨q,by simpa using h1⟩
 |n::t,r,k+1,p+1,h,hp=>by
  rw[skip]at h;obtain⟨q,hq⟩:=qc5 (p:=p) h (by simp at hp;omega);exact⟨q,by simpa using hq⟩
def q5l(l:List Symbol)(t:List Int)(p:Nat):Nat:=match skip (ar l) 1 (t.drop p)with
 |some r=>t.length-r.length
 |none=>t.length
theorem q4g{l:List Symbol}{t:List Int}(ok:TermOk l t){p:Nat}(hp:p<t.length) :
 p<q5l l t p/\q5l l t p<=t.length/\∀z,q8t z t (skip (ar l) 1 (t.drop p))=(q5l l t p:Nat):=by
 obtain⟨q,hq⟩:=qc5 (p:=p) ok.skip (by simpa using hp);have h:=qjp hq;unfold q5l;rw[hq];refine⟨?_,by simp only;omega,fun z=>rfl⟩;have:=h.2.2 (by omega);simp only;omega
section
variable {l:List Symbol}(ok:SigOk ⟨l⟩)
include ok
theorem qk5{t:List Int}(ht:TermOk l t){p:Nat}(hp:p<t.length):Call F.q2l [.agg [slc l],slc t,.int .i64 p] (.int .i64 (q5l l t p:Nat)):=by
 have h:=q2l ok t ht.node (by have:=ht.le;omega) p (Nat.le_of_lt hp);rwa[(q4g ht hp).2.2]at h
theorem qe2{t:List Int}(ht:TermOk l t){p:Nat}(hp:p<t.length):Call F.q25 [.rref [slc l] 0,slc t,.int .i64 p] (.int .i64 (q5l l t p:Nat)):=by
 have h:=q25 ok t ht.node (by have:=ht.le;omega) p (Nat.le_of_lt hp);rwa[(q4g ht hp).2.2]at h
end
theorem qhv(t:List Int)(i j:Nat):((cells t).take (j*1)).drop (i*1)=cells ((t.take j).drop i):=by
 rw[q8i t 1 j rfl,q9j _ 1 i rfl]
def q2v(l:List Symbol)(t:List Int)(p:Nat):List Int:=(t.take (q5l l t p)).drop p
theorem qen(t:List Int)(i j:Nat):T.sl 1 (((cells t).take (j*1)).drop (i*1))=slc ((t.take j).drop i):=by rw[qhv];rfl
theorem q5i (l:List Int)(h:l.length<=4294967296):Call F.q30 [slc l] (slc l):=by
 refine q0s rfl 0 ((q30.ev _ _).trans ?_);rw[q4l,q22 rfl,q22 (q4k (by rw[q0r,q3p];omega))];rfl
theorem q2n(l:List Int)(h:l.length<=4294967296):Call F.q2n [slc l] (slc l):=by
 refine qel (e:=cloneE) rfl (Ev.of fun m=>?_);show(qc0 (cells l)).bind _=_;rw[<- q7l,q9w];show(bif _ then _ else _)=_;rw[q22 (by rw[decide_eq_true_iff];omega),q7l];rfl
section
variable {l:List Symbol}(ok:SigOk ⟨l⟩)
include ok
theorem q45{t:List Int}(ht:TermOk l t){p:Nat}(hp:p<t.length):Call F.q45 [.agg [slc l],slc t,.int .i64 p] (slc (q2v l t p)):=by
 refine q0s rfl 0 ((q45.ev _ _ _ _).trans ?_);obtain⟨h1,h2,_⟩:=q4g ht hp;simp only[evz,Nat.reduceLT,(qk5 ok ht hp).eq];rw[q22 (by simp;omega),qen];rfl
theorem q5z{t:List Int}(ht:TermOk l t){p:Nat}(hp:p<t.length):Call F.q5z [.rref [slc l] 0,slc t,.int .i64 p] (slc (q2v l t p)):=by
 refine q0s rfl 0 ((q5z.ev _ _ _ _).trans ?_);obtain⟨h1,h2,_⟩:=q4g ht hp;have hle:=ht.le;simp only[evz,Nat.reduceLT,(qe2 ok ht hp).eq];rw[q22 (by simp;omega),qen,(q5i _ (by simp;omega)).eq];simp only[evz,Nat.reduceLT];rfl
def q35(l:List Symbol)(t:List Int)(p:Nat)(by_:List Int):List Int:=(t.take p++by_)++t.drop (q5l l t p)
theorem q5t{t:List Int}(ht:TermOk l t){p:Nat}(hp:p<t.length)(by_:List Int)(hb:by_.length<=1048576):Call F.q5t [.agg [slc l],slc t,.int .i64 p,slc by_] (slc (q35 l t p by_)):=by
 refine q0s rfl 0 ((q5t.ev _ _ _ _ _).trans ?_);obtain⟨h1,h2,_⟩:=q4g ht hp;have hle:=ht.le;simp only[q5s,q3p,gR];rw[q22 (by simp;omega),qen,(q2n _ (by simp;omega)).eq];simp only[evz,Nat.reduceLT,q4l,(qk5 ok ht hp).eq,qhv,<- q38,q5s,q3p,gR];rw[q22 (q4k (by rw[q0r,q0r,q3p];simp;omega)),q22 (by simp;omega),q22 (q4k (by rw[q0r,q0r,q3p];simp;omega))];simp[q35,slc]
theorem q5b{t:List Int}(ht:TermOk l t){p:Nat}(hp:p<t.length)(by_:List Int)(hb:by_.length<=1048576):Call F.q5b [.rref [slc l] 0,slc t,.int .i64 p,slc by_] (slc (q35 l t p by_)):=by
 refine q0s rfl 0 ((q5b.ev _ _ _ _ _).trans ?_);obtain⟨h1,h2,_⟩:=q4g ht hp;have hle:=ht.le;simp only[q5s,q3p,gR];rw[q22 (by simp;omega),qen,(q5i _ (by simp;omega)).eq];simp only[evz,Nat.reduceLT,q4l,(qe2 ok ht hp).eq,qhv,<- q38,q5s,q3p,gR];rw[q22 (q4k (by rw[q0r,q0r,q3p];simp;omega)),q22 (by simp;omega),q22 (q4k (by rw[q0r,q0r,q3p];simp;omega))];simp[q35,slc]
end
theorem qdw{l:List Symbol}{t:List Int}{p:Nat}{by_:List Int}:(q35 l t p by_).length<=t.length+by_.length+t.length:=by simp[q35];omega
def q3i(vs:List Int)(ts:List (List Int))(v:Int):Option (List Int):=if idx (fun x=>decide (x=v)) vs<0 then none else ts[(idx (fun x=>decide (x=v)) vs).toNat]?
theorem q0f(l:List Int)(x:Int)(hl:l.length<=4294967296):Call F.q0f [slc l,.int .i64 x] (.int .i64 (idx (fun y=>decide (y=x)) l)):=by
 refine q0s rfl (l.length+1) ((q0f.ev _ _ _).trans ?_);simp only[evz,Nat.reduceLT];refine q84 (S:=fun m k=>q0f.at0 (l.length+1) m (q0f.st0 (cells l) x l.length (k:Nat))) (fun m k h=>?_) (fun m=>?_) (gAR _)
 ·have hlk:l[k]?=some l[k]:=gA h;simp only[q0f.next0,q0f.round0,evz,Nat.reduceLT,h,hlk,q23];rw[q0l (by omega)];by_cases e:x=l[k]
  ·simp[e]
  ·have e':¬ l[k]=x:=fun h=>e h.symm;simp[e,e']
 ·simp only[q0f.next0,q0f.round0,evz,Nat.reduceLT,gAK]
def ofT:Option (List Int)->T
 |some t=>.tup [slc t,.bool true]
 |none=>.tup [slc ([]:List Int),.bool false]
theorem q4z(vs:List Int)(ts:List (List Int))(v:Int)(hl:vs.length=ts.length)(hs:vs.length<=4294967296):Call F.q4z [.agg [slc vs,slc ts],.int .i64 v] (ofT (q3i vs ts v)):=by
 refine q0s rfl 0 ((q4z.ev _ _ _ _).trans ?_);simp only[evz,Nat.reduceLT,(q0f vs v hs).eq,q3i];rcases q93 (fun x:Int=>decide (x=v)) vs with⟨h,_⟩|⟨i,hi,h,_,_⟩
 ·simp only[h,evz,Nat.reduceLT,ofT,q4a,show((-1:Int)<0)=True from by simp]
 ·have hn:¬((i:Nat):Int)<0:=by omega
  have hit:i<ts.length:=by omega
  simp only[h,hn,evz,Nat.reduceLT,hit,gA,q59,ofT]
theorem q2b(vs:List Int)(ts:List (List Int))(v:Int)(hl:vs.length=ts.length)(hs:vs.length<=4294967296):Call F.q2b [.rref [slc vs,slc ts] 0,.int .i64 v] (slc ((q3i vs ts v).getD [])):=by
 refine q0s rfl (vs.length+1) ((q2b.ev _ _ _ _).trans ?_)
 have loop:=q82 (l:=List.range vs.length) (g:=fun k=>if vs[k]?=some v then some (some (slc (ts[k]?.getD []),[]))else none) (z:=some (slc ([]:List Int),[]))
  (S:=fun m k=>q2b.at0 (vs.length+1) m (q2b.st0 (cells vs) (cells ts) v (k:Nat))) (fun m k h=>?_) (fun m=>?_) (f:=vs.length+1) (by simp)
 ·refine loop.trans ?_;unfold q3i;rcases q93 (fun x:Int=>decide (x=v)) vs with⟨h,hno⟩|⟨i,hi,h,hyes,hno⟩
  ·rw[h,if_pos (by omega)]
   have:(List.range vs.length).findSome? (fun k=>if vs[k]?=some v then some ((some (slc (ts[k]?.getD []),[]):R))else none)=none:=by
    rw[List.findSome?_eq_none_iff];intro k hk;rw[List.mem_range]at hk;rw[if_neg];rw[gA hk];intro e;have:=hno _ (gG hk);simp at this e;exact this e
   rw[this];rfl
  ·rw[h,if_neg (by omega)];have hit:i<ts.length:=by omega
   have:(List.range vs.length).findSome? (fun k=>if vs[k]?=some v then some ((some (slc (ts[k]?.getD []),[]):R))else none)=some (some (slc ts[i],[])):=by
    rw[List.findSome?_eq_some_iff];refine⟨List.range i,i,(List.range' (i+1) (vs.length-i-1)),?_,?_,?_⟩
    ·rw[List.range_eq_range',List.range_eq_range',<- List.range'_succ,show vs.length-i-1+1=vs.length-i by omega];have:=List.range'_append (s:=0) (m:=i) (n:=vs.length-i) (step:=1);simp only[Nat.one_mul,gAJ]at this;rw[this,Nat.add_sub_cancel' (Nat.le_of_lt hi)]
    ·have e1:vs[i]?=some v:=(gA hi).trans (congrArg some (gAH hyes));have e2:ts[i]?=some ts[i]:=gA hit;simp only[e1,e2,if_true,Option.getD_some]
    ·intro k hk;rw[List.mem_range]at hk;rw[if_neg];rw[gA (by omega)];intro e;have:=hno k hk;simp at this e;exact this e
   rw[this,gR,gA hit];rfl
 ·rw[List.length_range]at h;have hlk:vs[k]?=some vs[k]:=gA h;have hkt:k<ts.length:=by omega
  simp only[q2b.next0,q2b.round0,evz,Nat.reduceLT,h,hkt,hlk,gA,q23,q59,List.getElem_range,Option.getD_some,Option.some.injEq];rw[q0l (by omega)];by_cases e:vs[k]=v <;> simp[e]
 ·rw[List.length_range];simp only[q2b.next0,q2b.round0,evz,Nat.reduceLT,gAK,q4a]
def q01(vs:List Int)(ts:List (List Int))(t:List Int):List Int:=t.flatMap fun n=>(q3i vs ts (-1-n)).getD [n]
structure BindOk(vs:List Int)(ts:List (List Int)):Prop where
 len:vs.length=ts.length
 le:vs.length<=1000
 nn:∀v∈vs,0<=v
 tm:∀t∈ts,1<=t.length/\t.length<=4096
theorem qal{vs:List Int}{ts:List (List Int)}(ok:BindOk vs ts){v:Int}(hv:v<0):q3i vs ts v=none:=by
 unfold q3i;rcases q93 (fun x:Int=>decide (x=v)) vs with⟨h,_⟩|⟨i,hi,h,hy,_⟩
 ·rw[if_pos (by omega)]
 ·have:=ok.nn _ (gG hi);simp at hy;omega
theorem q52{vs:List Int}{ts:List (List Int)}{v:Int}{t:List Int}(h:q3i vs ts v=some t):t∈ts:=by
 unfold q3i at h;split at h
 ·cases h
 ·exact List.mem_of_getElem? h
def qa5(vs:List Int)(ts:List (List Int))(o:List Int)(n:Int):List Int:=o++(q3i vs ts (-1-n)).getD [n]
theorem qfx(vs:List Int)(ts:List (List Int)):∀(t o:List Int),t.foldl (qa5 vs ts) o=o++q01 vs ts t
 |[],o=>by simp[q01]
 |n::t,o=>by
  rw[List.foldl_cons,qfx vs ts t];simp[qa5,q01]
def appI(k:Nat)(o:List Int):Prop:=o.length<=k*4096
theorem qhh{vs:List Int}{ts:List (List Int)}(ok:BindOk vs ts){k:Nat}{o:List Int}{n:Int}(h:appI k o):appI (k+1) (qa5 vs ts o n):=by
 unfold appI qa5 at *;rw[gM];cases hb:q3i vs ts (-1-n)with
 |none=>simp;omega
 |some t=>have:=(ok.tm t (q52 hb)).2;simp;omega
theorem q7b{vs:List Int}{ts:List (List Int)}(ok:BindOk vs ts)(t:List Int):(q01 vs ts t).length<=t.length*4096:=by
 have:=qp9 (l:=t) (g:=qa5 vs ts) appI (fun k o _ h=>qhh ok h) [] (by simp[appI]);rw[qfx]at this;simpa[appI]using this
theorem q0i(vs:List Int)(ts:List (List Int))(ok:BindOk vs ts)(t:List Int)(ht:t.length<=4096)(hr:∀n∈t,-4611686018427387904<=n/\n<=4611686018427387904):Call F.q0i [.agg [slc vs,slc ts],slc t] (slc (q01 vs ts t)):=by
 have hle:=ok.le;refine q0s rfl (t.length+1) ((q0i.ev _ _ _ _).trans ?_);simp only[q5s,q3p]
 have key:=qgz (l:=t) (f:=t.length+1) (S:=fun m k (o:List Int)=>q0i.at0 (t.length+1) m (q0i.st0 (cells t) t.length (k:Nat) (cells vs) (cells ts) (cells o))) (g:=qa5 vs ts) (z:=fun(o:List Int)=>some (slc o,[])) appI
  (fun m k o h ho=>?_) (fun k o h ho=>qhh ok ho) (fun m o ho=>?_) [] (by simp[appI]) (by omega)
 ·rw[qfx]at key;exact key
 ·have hn:=hr _ (gG h);have ho:o.length<=k*4096:=ho;simp only[q0i.next0,q0i.round0,evz,Nat.reduceLT,h,gA,q23,q1v (x := -1-t[k]) (by omega),(q4z vs ts (-1-t[k]) ok.len (by omega)).eq,qa5];cases hb:q3i vs ts (-1-t[k])with
  |none=>
   simp only[ofT,evz,Nat.reduceLT,q4l,Option.getD_none,<- q38];rw[q22 (q4k (by rw[q0r,q3p];omega)),q2s,q0l (by omega)]
  |some x=>
   have hx:=(ok.tm x (q52 hb)).2;simp only[ofT,evz,Nat.reduceLT,q4l,Option.getD_some,<- q38];rw[q22 (q4k (by rw[q0r,q0r,q3p];omega)),q0l (by omega)]
 ·simp only[q0i.next0,q0i.round0,evz,Nat.reduceLT,gAK]
theorem q17(vs:List Int)(ts:List (List Int))(ok:BindOk vs ts)(t:List Int)(ht:t.length<=4096)(hr:∀n∈t,-4611686018427387904<=n/\n<=4611686018427387904):Call F.q17 [.rref [slc vs,slc ts] 0,slc t] (slc (q01 vs ts t)):=by
 have hle:=ok.le;refine q0s rfl (t.length+1) ((q17.ev _ _ _ _).trans ?_)
 have key:=qgz (l:=t) (f:=t.length+1) (S:=fun m k (o:List Int)=>q17.at0 (t.length+1) m (q17.st0 (cells vs) (cells ts) (cells t) (k:Nat) (cells o))) (g:=qa5 vs ts) (z:=fun(o:List Int)=>some (slc o,[])) appI
  (fun m k o h ho=>?_) (fun k o h ho=>qhh ok ho) (fun m o ho=>?_) [] (by simp[appI]) (by omega)
 ·rw[qfx]at key;exact key
 ·have hn:=hr _ (gG h);have ho:o.length<=k*4096:=ho;by_cases hneg:t[k]<0
  ·simp only[q17.next0,q17.round0,evz,Nat.reduceLT,h,gA,q23,hneg,q1v (x := -1-t[k]) (by omega),(q2b vs ts (-1-t[k]) ok.len (by omega)).eq,qa5];cases hb:q3i vs ts (-1-t[k])with
   |none=>
    simp only[q4a,evz,Nat.reduceLT,List.all_nil,Option.getD_none,qdq,List.length_nil,<- q38,Int.natCast_zero,Nat.zero_div,Int.ofNat_zero];rw[q22 (q4k (by rw[q0r,q3p];omega)),q2s,q0l (by omega)]
   |some x=>
    have hx:=ok.tm x (q52 hb);have hx0:¬((x.length:Int)=0):=by omega
    simp only[evz,Nat.reduceLT,q4l,Option.getD_some,hx0,<- q38];rw[q22 (q4k (by rw[q0r,q0r,q3p];omega)),q0l (by omega)]
  ·simp only[q17.next0,q17.round0,evz,Nat.reduceLT,h,gA,q23,hneg,qa5,qal ok (v := -1-t[k]) (by omega),Option.getD_none];rw[q22 (q4k (by rw[q0r,q3p];omega)),q2s,q0l (by omega)]
 ·simp only[q17.next0,q17.round0,evz,Nat.reduceLT,gAK]
theorem q8r{vs:List Int}{k:Nat}(h:k<vs.length):vs.getD k 0=vs[k]:=by rw[gI,gA h];rfl
def q7i(l:List Symbol)(t:List Int):Nat->Nat->List Nat
 |0,_=>[]
 |n+1,p=>p::q7i l t n (q5l l t p)
def q3q(l:List Symbol)(t:List Int)(p:Nat):List Nat:=q7i l t (ar l (t.getD p 0)) (p+1)
theorem q7a(l:List Symbol)(t:List Int):∀n p,(q7i l t n p).length=n
 |0,_=>rfl
 |n+1,p=>by rw[q7i,gAB,q7a l t n]
theorem qe5{l:List Symbol}{t:List Int}{p n:Nat}{r:List Int}(h:skip (ar l) (n+1) (t.drop p)=some r):p<t.length/\skip (ar l) n (t.drop (q5l l t p))=some r/\p<q5l l t p/\q5l l t p<=t.length:=by
 have hp:p<t.length:=by
  rcases Nat.lt_or_ge p t.length with h1|h1
  ·exact h1
  ·rw[gU h1]at h;cases h
 rw[show n+1=1+n by omega,qa3]at h;cases h1:skip (ar l) 1 (t.drop p)with
 |none=>rw[h1]at h;cases h
 |some q=>
  rw[h1]at h;have h2:=qjp h1;have e:q5l l t p=t.length-q.length:=by unfold q5l;rw[h1]
  have h3:=h2.2.2 (by omega);refine⟨hp,?_,by rw[e];omega,by rw[e];omega⟩;rw[e,<- h2.1];exact h
theorem qh9{l:List Symbol}{t:List Int}:∀{n p:Nat}{r:List Int},skip (ar l) n (t.drop p)=some r->∀q∈q7i l t n p,p<=q/\q<t.length
 |0,p,r,h,q,hq=>by cases hq
 |n+1,p,r,h,q,hq=>by
  obtain⟨h1,h2,h3,h4⟩:=qe5 h;rcases gK.1 hq with rfl|hq
  ·exact⟨gAI _,h1⟩
  ·have:=qh9 h2 q hq;exact⟨by omega,this.2⟩
theorem qbj{l:List Symbol}{t:List Int}(ok:TermOk l t){p:Nat}(hp:p<t.length):∃r,skip (ar l) (ar l t[p]) (t.drop (p+1))=some r:=by
 obtain⟨q,hq⟩:=qc5 (p:=p) ok.skip (by simpa using hp);rw[gH hp,skip]at hq;exact⟨q,by simpa using hq⟩
theorem q7c{l:List Symbol}{t:List Int}(ok:TermOk l t){p:Nat}(hp:p<t.length){q:Nat}(hq:q∈q3q l t p):p<q/\q<t.length:=by
 obtain⟨r,hr⟩:=qbj ok hp;have hd:t.getD p 0=t[p]:=q8r hp;unfold q3q at hq;rw[hd]at hq;have:=qh9 hr q hq;exact⟨by omega,this.2⟩
def rank(o:List Int)(n:Int):Int:=idx (fun x=>decide (x=n)) o
def cell(l:List Symbol)(o a b:List Int)(qun:Nat->Nat->Bool)(i j:Nat):Bool:=
 if b.getD j 0<0 then decide (0<=a.getD i 0)&&decide (b.getD j 0∈q2v l a i)
 else if a.getD i 0<0 then false
 else if(q3q l a i).any (fun p=>decide (q2v l a p=q2v l b j)||qun p j)then true
 else if rank o (a.getD i 0)<rank o (b.getD j 0)then false
 else if(q3q l b j).any (fun q=>!qun i q)then false
 else if rank o (b.getD j 0)<rank o (a.getD i 0)then true
 else match ((q3q l a i).zip (q3q l b j)).find? fun x=>!decide (q2v l a x.1=q2v l b x.2)with
  |some x=>qun x.1 x.2
  |none=>false
theorem qeh{l:List Symbol}{o a b:List Int}(ha:TermOk l a)(hb:TermOk l b){f g:Nat->Nat->Bool}{i j:Nat}(hi:i<a.length)(hj:j<b.length)
 (h:∀p q,i<=p->j<=q->p<a.length->q<b.length->(i<p\/j<q)->f p q=g p q):cell l o a b f i j=cell l o a b g i j:=by
 have h1:(q3q l a i).any (fun p=>decide (q2v l a p=q2v l b j)||f p j)=(q3q l a i).any (fun p=>decide (q2v l a p=q2v l b j)||g p j):=by
  rw[Bool.eq_iff_iff,List.any_eq_true,List.any_eq_true];constructor
  ·rintro⟨p,hp,h1⟩;have:=q7c ha hi hp;exact⟨p,hp,by rw[<- h p j (by omega) (gAI _) this.2 hj (.inl this.1)];exact h1⟩
  ·rintro⟨p,hp,h1⟩;have:=q7c ha hi hp;exact⟨p,hp,by rw[h p j (by omega) (gAI _) this.2 hj (.inl this.1)];exact h1⟩
 have h2:(q3q l b j).any (fun q=>!f i q)=(q3q l b j).any (fun q=>!g i q):=by
  rw[Bool.eq_iff_iff,List.any_eq_true,List.any_eq_true];constructor
  ·rintro⟨p,hp,h1⟩;have:=q7c hb hj hp;exact⟨p,hp,by rw[<- h i p (gAI _) (by omega) hi this.2 (.inr this.1)];exact h1⟩
  ·rintro⟨p,hp,h1⟩;have:=q7c hb hj hp;exact⟨p,hp,by rw[h i p (gAI _) (by omega) hi this.2 (.inr this.1)];exact h1⟩
 unfold cell;rw[h1,h2];cases hf:((q3q l a i).zip (q3q l b j)).find? fun x=>!decide (q2v l a x.1=q2v l b x.2)with
 |none=>rfl
 |some x=>
  have hm:=List.mem_of_find?_eq_some hf;have hm1:=q7c ha hi (List.of_mem_zip hm).1;have hm2:=q7c hb hj (List.of_mem_zip hm).2;simp only[h x.1 x.2 (by omega) (by omega) hm1.2 hm2.2 (.inl hm1.1)]
def gtN(l:List Symbol)(o a b:List Int):Nat->Nat->Nat->Bool
 |0,_,_=>false
 |n+1,i,j=>cell l o a b (gtN l o a b n) i j
def gt(l:List Symbol)(o a b:List Int)(i j:Nat):Bool:=gtN l o a b (a.length+b.length+1) i j
theorem qq7{l:List Symbol}{o a b:List Int}(ha:TermOk l a)(hb:TermOk l b):∀(d n m i j:Nat),i<a.length->j<b.length->(a.length-i)+(b.length-j)<=d->d<n->d<m->gtN l o a b n i j=gtN l o a b m i j:=by
 intro d;induction d with
 |zero=>intros;omega
 |succ d ih=>
  intro n m i j hi hj hd hn hm;obtain⟨n,rfl⟩:∃q,n=q+1:=⟨n-1,by omega⟩;obtain⟨m,rfl⟩:∃q,m=q+1:=⟨m-1,by omega⟩;rw[gtN,gtN];exact qeh ha hb hi hj fun p q h1 h2 h3 h4 h5=>ih n m p q h3 h4 (by omega) (by omega) (by omega)
theorem qxj{l:List Symbol}{o a b:List Int}(ha:TermOk l a)(hb:TermOk l b){i j:Nat}(hi:i<a.length)(hj:j<b.length):gt l o a b i j=cell l o a b (gt l o a b) i j:=by
 show gtN l o a b (a.length+b.length+1) i j=_;rw[gtN];exact qeh ha hb hi hj fun p q h1 h2 h3 h4 h5=>qq7 ha hb ((a.length-p)+(b.length-q)) _ _ p q h3 h4 (gAI _) (by omega) (by omega)
def ints(l:List Nat):List Int:=l.map fun(n:Nat)=>(n:Int)
section
variable {l:List Symbol}(ok:SigOk ⟨l⟩)
include ok
theorem q0y{t:List Int}(ht:TermOk l t){p:Nat}(hp:p<t.length):Call F.q0y [.agg [slc l],slc t,.int .i64 p] (slc (ints (q3q l t p))):=by
 have hle:=ht.le;have har:=qqb (l:=l) ok t[p];refine q0s rfl 4 ((q0y.ev _ _ _ _).trans ?_);simp only[evz,Nat.reduceLT,hp,gA,q23,(q6l ok t[p] (ht.node _ (gG hp))).eq];rw[q0l (by omega)]
 have loop:∀n k q f (out:List Int) r,k+n=ar l t[p]->n<f->skip (ar l) n (t.drop q)=some r->out.length=k->
  q0y.at0 4 f (q0y.st0 (cells t) (q:Nat) (ar l t[p]:Nat) (k:Nat) (cells l) (cells out))=some (slc (out++ints (q7i l t n q)),[]):=by
  intro n;induction n with
  |zero=>
   intro k q f out r hk hf hs ho;obtain⟨f,rfl⟩:∃x,f=x+1:=⟨f-1,by omega⟩;have:¬ k<ar l t[p]:=by omega
   simp only[q0y.next0,q0y.round0,evz,Nat.reduceLT,this,q7i,ints,List.map_nil,gAD]
  |succ n ih=>
   intro k q f out r hk hf hs ho;obtain⟨f,rfl⟩:∃x,f=x+1:=⟨f-1,by omega⟩;obtain⟨h1,h2,h3,h4⟩:=qe5 hs;have hlt:k<ar l t[p]:=by omega
   simp only[q0y.next0,q0y.round0,evz,Nat.reduceLT,hlt,(qk5 ok ht h1).eq,q2s];rw[q22 (q4k (by rw[q0r,q3p];omega)),q0l (by omega)];by_cases hn:n=0
   ·subst hn;obtain⟨f,rfl⟩:∃x,f=x+1:=⟨f-1,by omega⟩;have:¬ k+1<ar l t[p]:=by omega
    simp only[q0y.next0,q0y.round0,evz,Nat.reduceLT,this,q7i,ints,List.map_nil,List.map_cons]
   ·rw[ih (k+1) (q5l l t q) f (out++[(q:Int)]) r (by omega) (by omega) h2 (by simp[ho])];simp[q7i,ints]
 obtain⟨r,hr⟩:=qbj ht hp;have hd:t.getD p 0=t[p]:=q8r hp;have:=loop (ar l t[p]) 0 (p+1) 4 [] r (by omega) (by omega) hr (by simp);unfold q3q;rw[hd];simpa using this
end
theorem qos:∀(l:List (Int×Int×Bool))(a b:Int)(i j:Nat),(mpAt l a b i).map (·.2)=(mpAt l a b j).map (·.2)
 |[],_,_,_,_=>rfl
 |(x,y,v)::r,a,b,i,j=>by
  rw[mpAt,mpAt];cases (a==x&&b==y)with
  |true=>rfl
  |false=>exact qos r a b (i+1) (j+1)
theorem q9k(x y:Int)(v:Bool)(r:List (Int×Int×Bool))(a b:Int):qak ((x,y,v)::r) a b=bif a==x&&b==y then some v else qak r a b:=by
 unfold qak;rw[mpAt];cases (a==x&&b==y)with
 |true=>rfl
 |false=>exact qos r a b 1 0
theorem qj5:∀(l:List (Int×Int×Bool))(x y:Int)(v:Bool)(a b:Int),qak (qex l x y v) a b=bif a==x&&b==y then some v else qak l a b
 |[],x,y,v,a,b=>by rw[qex,q9k]
 |(x',y',v')::r,x,y,v,a,b=>by
  rw[qex];cases h:(x==x'&&y==y')with
  |true=>
   simp only[gC,beq_iff_eq]at h;obtain⟨rfl,rfl⟩:=h;rw[cond_true,q9k,q9k];cases (a==x&&b==y) <;> rfl
  |false=>
   rw[cond_false,q9k,q9k,qj5 r];cases h1:(a==x'&&b==y')with
   |false=>rfl
   |true=>
    cases h2:(a==x&&b==y)with
    |false=>rfl
    |true=>
     simp only[gC,beq_iff_eq]at h1 h2;obtain⟨rfl,rfl⟩:=h1;obtain⟨rfl,rfl⟩:=h2;simp at h
def Good(l:List Symbol)(o a b:List Int)(m:List (Int×Int×Bool)):Prop:=∀(p q:Nat)(v:Bool),qak m p q=some v->v=gt l o a b p q
theorem Good.put{l:List Symbol}{o a b:List Int}{m:List (Int×Int×Bool)}(h:Good l o a b m)(i j:Nat):Good l o a b (qex m i j (gt l o a b i j)):=fun p q v hv=>by
 rw[qj5]at hv;cases hc:(((p:Int)==(i:Int))&&((q:Int)==(j:Int)))with
 |true=>
  rw[hc,cond_true]at hv;simp only[gC,beq_iff_eq,Int.ofNat_inj]at hc;obtain⟨rfl,rfl⟩:=hc;exact(Option.some.inj hv).symm
 |false=>rw[hc,cond_false]at hv;exact h p q v hv
section
variable {l:List Symbol}(ok:SigOk ⟨l⟩){o a b:List Int}(ha:TermOk l a)(hb:TermOk l b)
include ok ha hb
omit ok ha hb in
theorem qp6{A:List Nat}{k:Nat}(h:k<A.length):(ints A)[k]?=some ((A[k]:Nat):Int):=by simp[ints,h]
omit ok ha hb in
theorem qhj(A:List Nat):(ints A).length=A.length:=by simp[ints]
omit ok ha hb in
theorem ql6(ok:SigOk ⟨l⟩)(t:List Int)(p:Nat):(q3q l t p).length<=2:=by
 unfold q3q;rw[q7a];exact qqb ok _
end
theorem q2h(o:List Int)(x:Int)(hl:o.length<=4294967296):Call F.q2h [slc o,.int .i64 x] (.int .i64 (rank o x)):=by
 refine q0s rfl (o.length+1) ((q2h.ev _ _ _).trans ?_);refine q84 (S:=fun m k=>q2h.at0 (o.length+1) m (q2h.st0 (cells o) x (k:Nat))) (fun m k h=>?_) (fun m=>?_) (gAR _)
 ·have hlk:o[k]?=some o[k]:=gA h;simp only[q2h.next0,q2h.round0,evz,Nat.reduceLT,h,hlk,q23,gS];rw[q0l (by omega)]
 ·simp only[q2h.next0,q2h.round0,evz,Nat.reduceLT,gAK]
section
variable {l:List Symbol}(ok:SigOk ⟨l⟩)
include ok
omit ok in
theorem quc{i j la lb:Nat}(hi:i<la)(hj:j<lb):i*lb+j<la*lb:=by
 have:i*lb+lb<=la*lb:=by rw[<- Nat.succ_mul];exact gAO _ hi
 omega
section
variable {o a b:List Int}(ha:TermOk l a)(hb:TermOk l b){T:List Bool}(hT:T.length=a.length*b.length)
include ha hb hT
end
def Done(l:List Symbol)(o a b:List Int)(T:List Bool)(n:Nat):Prop:=
 T.length=a.length*b.length/\∀p q,p<a.length->q<b.length->n<=p*b.length+q->T.getD (p*b.length+q) false=gt l o a b p q
omit ok in
theorem qwo{n p q i j:Nat}(hq:q<n)(hj:j<n)(h:p*n+q=i*n+j):p=i/\q=j:=by
 rcases Nat.lt_trichotomy p i with h1|h1|h1
 ·have:(p+1)*n<=i*n:=gAO _ h1;rw[Nat.succ_mul]at this;omega
 ·subst h1;exact⟨rfl,by omega⟩
 ·have:(i+1)*n<=p*n:=gAO _ h1;rw[Nat.succ_mul]at this;omega
omit ok in
theorem Done.cell{o a b:List Int}(ha:TermOk l a)(hb:TermOk l b){T:List Bool}{i j:Nat}(hi:i<a.length)(hj:j<b.length)(h:Done l o a b T (i*b.length+(j+1))) :
 cell l o a b (fun p q=>T.getD (p*b.length+q) false) i j=gt l o a b i j:=by
 rw[qxj ha hb hi hj];refine qeh ha hb hi hj fun p q h1 h2 h3 h4 h5=>h.2 p q h3 h4 ?_;have h6:i*b.length<=p*b.length:=gAO _ h1;rcases h5 with h5|h5
 ·have:(i+1)*b.length<=p*b.length:=gAO _ h5;rw[Nat.succ_mul]at this;omega
 ·omega
omit ok in
theorem Done.set{o a b:List Int}{T:List Bool}{i j:Nat}(hi:i<a.length)(hj:j<b.length)(h:Done l o a b T (i*b.length+(j+1))):Done l o a b (T.set (i*b.length+j) (gt l o a b i j)) (i*b.length+j):=by
 have hin:=quc hi hj;refine⟨by rw[List.length_set];exact h.1,fun p q hp hq hle=>?_⟩;by_cases e:i*b.length+j=p*b.length+q
 ·obtain⟨rfl,rfl⟩:=qwo hq hj e.symm;simp[gI,h.1,hin]
 ·have:=h.2 p q hp hq (by omega);rw[<- this,gI,gI,List.getElem?_set_ne e]
end
theorem TermOk.range{l:List Symbol}(ok:SigOk ⟨l⟩){t:List Int}(h:TermOk l t):∀n∈t,-4611686018427387904<=n/\n<=4611686018427387904:=fun n hn=>by
 have:=q4j.1 (h.node n hn);have hle:l.length<=6:=ok.le;omega
theorem q4u(l:List Symbol)(hs:l.length<=4294967296)(es:List Equation)(he:sm 4294967296 es) :
 Call F.q4u [.agg [slc l],slc es] (.int .i64 (if q2w ⟨l⟩≠0 then q2w ⟨l⟩else q50 l es)):=by
 refine q0s rfl 0 ((q4u.ev _ _ _).trans ?_);simp only[evz,Nat.reduceLT,(q00 l hs).eq];by_cases h1:q2w ⟨l⟩=0
 case neg=>simp only[h1,evz,Nat.reduceLT,ne_eq,gX]
 simp only[h1,evz,Nat.reduceLT,ne_eq,gW,(q1o l ((q51 _).1 h1) es he).eq]
theorem q7j(t:List Int):Call F.q7j [slc t] (.agg (enc (if 24<t.length then(⟨2,[]⟩:TermResult)else⟨0,t⟩))):=by
 refine q0s rfl 0 ((q7j.ev _ _).trans ?_);simp only[evz,Nat.reduceLT,gt_iff_lt];by_cases h:24<t.length
 ·have h':(24:Int)<t.length:=by omega
  simp only[h,h',evz,Nat.reduceLT,q39,q4a]
 ·have h':¬(24:Int)<t.length:=by omega
  simp only[h,h',evz,Nat.reduceLT,q39]
theorem q6m(t:List Int)(n:Int)(hl:t.length<=4294967296):Call F.q6m [slc t,.int .i64 n] (.bool (inR n 0 (t.length-1))):=by
 refine q0s rfl 0 ((q6m.ev _ _ _).trans ?_);simp only[evz,Nat.reduceLT,q1v (x:=(t.length:Int)-1) (by omega),(q1b _ _ _).eq]
theorem getE{es:List Equation}{k:Nat}(h:k<es.length):es.getD k ⟨[],[]⟩=es[k]:=by rw[gI,gA h];rfl
theorem qb0{a:Int->Nat}:∀{x r q:List Int}{k:Nat},skip a k x=some q->skip a k (x++r)=some (q++r)
 |x,r,q,0,h=>by rw[q3t]at h;cases h;rw[q3t]
 |[],r,q,k+1,h=>by cases h
 |n::x,r,q,k+1,h=>by
  rw[skip]at h;rw[List.cons_append,skip];exact qb0 h
theorem qpk{a:Int->Nat}:∀{x r:List Int}{k:Nat},skip a k (x++r)=some r->skip a k x=some []
 |x,r,0,h=>by
  rw[q3t]at h;have:=congrArg List.length (Option.some.inj h);rw[gM]at this;have:x=[]:=gL (by omega);subst this;rfl
 |[],r,k+1,h=>by
  obtain⟨p,hp,hk⟩:=qaq h;have h1:=congrArg List.length hp;rw[List.nil_append,gM]at h1;have h2:=hk (by omega);omega
 |n::x,r,k+1,h=>by
  rw[List.cons_append,skip]at h;rw[skip];exact qpk h
theorem qjw{a:Int->Nat}{m:Nat}{r:List Int}(h:skip a m []=some r):m=0/\r=[]:=by
 cases m with
 |zero=>rw[q3t]at h;cases h;exact⟨rfl,rfl⟩
 |succ m=>cases h
theorem q5h{l:List Symbol}{t:List Int}(ht:TermOk l t){p:Nat}(hp:p<t.length):t.drop p=q2v l t p++t.drop (q5l l t p)/\(q2v l t p).length=q5l l t p-p/\skip (ar l) 1 (t.drop p)=some (t.drop (q5l l t p)):=by
 obtain⟨h1,h2,_⟩:=q4g ht hp;have hl:(q2v l t p).length=q5l l t p-p:=by simp[q2v];omega
 refine⟨?_,hl,?_⟩
 ·have e:t.drop (q5l l t p)=(t.drop p).drop (q5l l t p-p):=by rw[List.drop_drop];congr 1;omega
  have e2:q2v l t p=(t.drop p).take (q5l l t p-p):=by unfold q2v;rw[List.drop_take]
  rw[e,e2,List.take_append_drop]
 ·obtain⟨q,hq⟩:=qc5 (p:=p) ht.skip (by simpa using hp);have:=(qjp hq).1;rw[hq];unfold q5l;rw[hq];exact congrArg some this
theorem q6s{l:List Symbol}{t:List Int}(ht:TermOk l t){p:Nat}(hp:p<t.length):TermOk l (q2v l t p):=by
 obtain⟨h1,h2,h3⟩:=q5h ht hp;obtain⟨h4,h5,_⟩:=q4g ht hp;have:=ht.le;refine⟨by omega,by omega,fun n hn=>ht.node n ?_,?_⟩
 ·exact List.mem_of_mem_drop (h1▸gJ _ hn)
 ·rw[h1]at h3;exact qpk h3
theorem qrc{l:List Symbol}{t:List Int}(ht:TermOk l t){p:Nat}(hp:p<t.length){i:Nat}(hi:i<(q2v l t p).length) :
 p+i<t.length/\(q2v l t p).getD i 0=t.getD (p+i) 0/\q5l l t (p+i)=p+q5l l (q2v l t p) i/\q2v l (q2v l t p) i=q2v l t (p+i):=by
 obtain⟨h1,h2,h3⟩:=q5h ht hp;obtain⟨h4,h5,_⟩:=q4g ht hp;have hu:=q6s ht hp;have hpi:p+i<t.length:=by omega
 obtain⟨h6,h7,h8⟩:=q5h hu hi;obtain⟨k1,k2,k3⟩:=q5h ht hpi;obtain⟨h9,h10,_⟩:=q4g hu hi;obtain⟨k4,k5,_⟩:=q4g ht hpi
 have hd:t.drop (p+i)=(q2v l t p).drop i++t.drop (q5l l t p):=by
  rw[<- List.drop_drop,h1,List.drop_append_of_le_length (by omega)]
 have e1:q5l l t (p+i)=p+q5l l (q2v l t p) i:=by
  have h:=qb0 (r:=t.drop (q5l l t p)) h8;rw[<- hd,k3]at h;have:=congrArg List.length (Option.some.inj h);simp only[gAA,gM]at this;omega
 refine⟨hpi,?_,e1,?_⟩
 ·have:=congrArg (fun x=>x[0]?) hd;simp only[gV,Nat.add_zero]at this;rw[gI,gI,this,List.getElem?_append_left (by simp;omega),gV,Nat.add_zero]
 ·have q1:q2v l t (p+i)=(t.drop (p+i)).take (q5l l t (p+i)-(p+i)):=by unfold q2v;rw[List.drop_take]
  have q2:q2v l (q2v l t p) i=((q2v l t p).drop i).take (q5l l (q2v l t p) i-i):=by
   show((q2v l t p).take (q5l l (q2v l t p) i)).drop i=_;rw[List.drop_take]
  rw[q1,q2,hd,e1,List.take_append_of_le_length (by simp;omega)];congr 1;omega
abbrev Bnd:=List Int×List (List Int)
def q7g(vs:List Int)(v:Int):Nat:=(vs.takeWhile fun x=>decide (x<v)).length
def ins{α:Type}(l:List α)(i:Nat)(x:α):List α:=l.take i++x::l.drop i
def bput(b:Bnd)(v:Int)(t:List Int):Bnd:=(ins b.1 (q7g b.1 v) v,ins b.2 (q7g b.1 v) t)
theorem qe4(vs:List Int)(v:Int):q7g vs v<=vs.length:=by
 have:=(List.takeWhile_sublist (l:=vs) (p:=fun x=>decide (x<v))).length_le;exact this
theorem qjn:∀(vs:List Int)(v:Int)(i:Nat)(h:i<q7g vs v)(h':i<vs.length),vs[i]<v
 |[],v,i,h,h'=>by simp at h'
 |x::vs,v,i,h,h'=>by
  unfold q7g at h;rw[List.takeWhile_cons]at h;by_cases hx:x<v
  ·rw[if_pos (by simpa using hx)]at h;cases i with
   |zero=>exact hx
   |succ i=>exact qjn vs v i (by simpa[q7g]using h) (by simpa using h')
  ·rw[if_neg (by simpa using hx)]at h;simp at h
theorem qep:∀(vs:List Int)(v:Int)(h':q7g vs v<vs.length),¬ vs[q7g vs v]<v
 |[],v,h'=>by simp at h'
 |x::vs,v,h'=>by
  by_cases hx:x<v
  ·have e:q7g (x::vs) v=q7g vs v+1:=by unfold q7g;rw[List.takeWhile_cons,if_pos (by simpa using hx)];rfl
   have:=qep vs v (by rw[e]at h';simpa using h');simpa[e]using this
  ·have e:q7g (x::vs) v=0:=by unfold q7g;rw[List.takeWhile_cons,if_neg (by simpa using hx)];rfl
   simpa[e]using hx
theorem q78{α:Type}(l:List α)(i:Nat)(x:α)(h:i<=l.length):(ins l i x).length=l.length+1:=by simp[ins];omega
theorem qkg{α:Type}{l:List α}{i:Nat}{x y:α}(h:y∈ins l i x):y=x\/y∈l:=by
 unfold ins at h;rcases gO.1 h with h|h
 ·exact .inr (List.mem_of_mem_take h)
 ·rcases gK.1 h with h|h
  ·exact .inl h
  ·exact .inr (List.mem_of_mem_drop h)
structure MB(l:List Symbol)(b:Bnd)(k:Nat):Prop where
 len:b.1.length=b.2.length
 le:b.1.length<=k
 var:∀v∈b.1,0<=v/\v<=11
 tm:∀t∈b.2,TermOk l t
theorem MB.nil(l:List Symbol):MB l ([],[]) 0:=⟨rfl,gAI _,by simp,by simp⟩
theorem MB.up{l:List Symbol}{b:Bnd}{k k':Nat}(h:MB l b k)(hk:k<=k'):MB l b k':=⟨h.len,Nat.le_trans h.le hk,h.var,h.tm⟩
theorem MB.put{l:List Symbol}{b:Bnd}{k:Nat}(h:MB l b k){v:Int}(hv:0<=v/\v<=11){t:List Int}(ht:TermOk l t):MB l (bput b v t) (k+1):=by
 have hi:=qe4 b.1 v;have hlen:=h.len;have:=h.le;refine⟨?_,?_,fun x hx=>?_,fun x hx=>?_⟩
 ·unfold bput;rw[q78 _ _ _ hi,q78 _ _ _ (by omega)];omega
 ·unfold bput;rw[q78 _ _ _ hi];omega
 ·rcases qkg hx with rfl|hx
  ·exact hv
  ·exact h.var x hx
 ·rcases qkg hx with rfl|hx
  ·exact ht
  ·exact h.tm x hx
theorem MB.ok{l:List Symbol}{b:Bnd}{k:Nat}(h:MB l b k)(hk:k<=24):BindOk b.1 b.2:=
 ⟨h.len,by have:=h.le;omega,fun v hv=>(h.var v hv).1,fun t ht=>⟨(h.tm t ht).pos,by have:=(h.tm t ht).le;omega⟩⟩
theorem qd3{vs:List Int}{ts:List (List Int)}(hl:vs.length=ts.length){v:Int}(h:q3i vs ts v=none):v∉vs:=fun hv=>by
 unfold q3i at h;rcases q93 (fun x:Int=>decide (x=v)) vs with⟨h1,hno⟩|⟨i,hi,h1,_,_⟩
 ·have:=hno v hv;simp at this
 ·rw[h1,if_neg (by omega),gR,gA (by omega)]at h;cases h
def mgo(l:List Symbol)(t:List Int):List Int->Bnd->Nat->Option (Bnd×Nat)
 |[],b,p=>some (b,p)
 |n::q,b,p=>
  if t.length<=p then none
  else if 0<=n then(if t.getD p 0=n then mgo l t q b (p+1)else none)
  else match q3i b.1 b.2 (-1-n)with
   |none=>mgo l t q (bput b (-1-n) (q2v l t p)) (p+(q2v l t p).length)
   |some o=>if o=q2v l t p then mgo l t q b (p+(q2v l t p).length)else none
structure Both(l:List Symbol)(t q:List Int)(p:Nat)(r:List Int):Prop where
 both:∃m,skip (ar l) m q=some []/\skip (ar l) m (t.drop p)=some r
theorem Both.start{l:List Symbol}{t q:List Int}(ht:TermOk l t)(hq:TermOk l q){p:Nat}(hp:p<t.length):Both l t q p (t.drop (q5l l t p)):=⟨1,hq.skip,(q5h ht hp).2.2⟩
theorem Both.stop{l:List Symbol}{t:List Int}{p:Nat}{r:List Int}(h:Both l t [] p r):t.drop p=r:=by
 obtain⟨m,h1,h2⟩:=h.both;obtain⟨rfl,_⟩:=qjw h1;rw[q3t]at h2;exact Option.some.inj h2
theorem Both.lt{l:List Symbol}{t q:List Int}{n:Int}{p:Nat}{r:List Int}(h:Both l t (n::q) p r):p<t.length:=by
 obtain⟨m,h1,h2⟩:=h.both;cases m with
 |zero=>rw[q3t]at h1;cases h1
 |succ m=>
  rcases Nat.lt_or_ge p t.length with h|h
  ·exact h
  ·rw[gU h]at h2;cases h2
theorem Both.node{l:List Symbol}{t q:List Int}{n:Int}{p:Nat}{r:List Int}(h:Both l t (n::q) p r)(hn:t.getD p 0=n):Both l t q (p+1) r:=by
 have hp:=h.lt;obtain⟨m,h1,h2⟩:=h.both;cases m with
 |zero=>rw[q3t]at h1;cases h1
 |succ m=>
  rw[gH hp,skip,<- q8r hp,hn]at h2;rw[skip]at h1;exact⟨_,h1,h2⟩
theorem Both.var{l:List Symbol}{t q:List Int}{n:Int}{p:Nat}{r:List Int}(ht:TermOk l t)(h:Both l t (n::q) p r)(hn:n<0):Both l t q (p+(q2v l t p).length) r:=by
 have hp:=h.lt;obtain⟨h3,h4,h5⟩:=q5h ht hp;obtain⟨h6,h7,_⟩:=q4g ht hp;obtain⟨m,h1,h2⟩:=h.both;cases m with
 |zero=>rw[q3t]at h1;cases h1
 |succ m=>
  rw[skip,qa1 l hn,Nat.add_zero]at h1;rw[show m+1=1+m by omega,qa3,h5]at h2;refine⟨m,h1,?_⟩;rw[h4,show p+(q5l l t p-p)=q5l l t p by omega];exact h2
theorem qjk{l:List Symbol}{t:List Int}(ht:TermOk l t){p:Nat}(hp:p<t.length):∀(q:List Int)(b:Bnd)(i:Nat),Both l (q2v l t p) q i []->
 mgo l t q b (p+i)=(mgo l (q2v l t p) q b i).map fun x=>(x.1,p+x.2)
 |[],b,i,h=>rfl
 |n::q,b,i,h=>by
  have hu:=q6s ht hp;have hi:=h.lt;obtain⟨h1,h2,h3,h4⟩:=qrc ht hp hi;have n1:¬ t.length<=p+i:=by omega
  have n2:¬(q2v l t p).length<=i:=by omega
  rw[mgo,mgo,if_neg n1,if_neg n2,h2,h4];by_cases hn:0<=n
  ·rw[if_pos hn,if_pos hn];by_cases e:t.getD (p+i) 0=n
   ·rw[if_pos e,if_pos e];exact qjk ht hp q b (i+1) (h.node (by rw[h2,e]))
   ·rw[if_neg e,if_neg e];rfl
  ·rw[if_neg hn,if_neg hn];have hv:=h.var hu (by omega);rw[h4]at hv;cases q3i b.1 b.2 (-1-n)with
   |none=>
    have:=qjk ht hp q (bput b (-1-n) (q2v l t (p+i))) _ hv;rw[<- Nat.add_assoc]at this;exact this
   |some o=>
    show(if o=_ then _ else none)=Option.map _ (if o=_ then _ else none);by_cases e:o=q2v l t (p+i)
    ·rw[if_pos e,if_pos e];have:=qjk ht hp q b _ hv;rw[<- Nat.add_assoc]at this;exact this
    ·rw[if_neg e,if_neg e];rfl
theorem qem{l:List Symbol}{t:List Int}(ht:TermOk l t){r:List Int}:∀(q:List Int)(b:Bnd)(p k:Nat),Both l t q p r->p<=t.length->MB l b k->k+q.length<=24->(∀n∈q,q5w l n=true)->∀x,mgo l t q b p=some x->t.drop x.2=r/\x.2<=t.length/\MB l x.1 (k+q.length)
 |[],b,p,k,h,hp,hb,hk,hq,x,hx=>by
  cases hx;exact⟨h.stop,hp,by simpa using hb⟩
 |n::q,b,p,k,h,hp,hb,hk,hq,x,hx=>by
  have hlt:=h.lt;obtain⟨h6,h7,_⟩:=q4g ht hlt;have hs:=(q5h ht hlt).2.1;rw[mgo,if_neg (by omega)]at hx;rw[gAB]at hk ⊢;have e0:k+1+q.length=k+(q.length+1):=by omega
  by_cases hn:0<=n
  ·rw[if_pos hn]at hx;split at hx
   ·rename_i e;have:=qem ht q b (p+1) (k+1) (h.node e) (by omega) (hb.up (by omega)) (by omega) (fun n hn=>hq n (gF _ hn)) x hx;rw[e0]at this;exact this
   ·cases hx
  ·rw[if_neg hn]at hx;have hnode:=q4j.1 (hq n (by simp));split at hx
   ·have:=qem ht q _ _ (k+1) (h.var ht (by omega)) (by omega) (hb.put (v := -1-n) (by omega) (q6s ht hlt)) (by omega) (fun n hn=>hq n (gF _ hn)) x hx;rw[e0]at this;exact this
   ·split at hx
    ·have:=qem ht q b _ (k+1) (h.var ht (by omega)) (by omega) (hb.up (by omega)) (by omega) (fun n hn=>hq n (gF _ hn)) x hx;rw[e0]at this;exact this
    ·cases hx
def q6x(l:List Symbol)(q t:List Int)(p:Nat):Option Bnd:=(mgo l t q ([],[]) p).map (·.1)
theorem qnm{l:List Symbol}{q t:List Int}(hq:TermOk l q)(ht:TermOk l t){p:Nat}(hp:p<t.length):q6x l q (q2v l t p) 0=q6x l q t p:=by
 have hu:=q6s ht hp;have hb:=Both.start hu hq (p:=0) (by have:=hu.pos;omega);have he:t.drop p=q2v l t p++t.drop (q5l l t p):=(q5h ht hp).1
 have e0:(q2v l t p).drop (q5l l (q2v l t p) 0)=[]:=by
  have:=(q5h hu (p:=0) (by have:=hu.pos;omega)).2.2;rw[List.drop_zero,hu.skip]at this;exact(Option.some.inj this).symm
 rw[e0]at hb;have:=qjk ht hp q ([],[]) 0 hb;unfold q6x;rw[Nat.add_zero]at this;rw[this];cases mgo l (q2v l t p) q ([],[]) 0 <;> rfl
theorem qce{l:List Symbol}{q t:List Int}(hq:TermOk l q)(ht:TermOk l t){p:Nat}(hp:p<t.length){b:Bnd}(h:q6x l q t p=some b):MB l b q.length:=by
 unfold q6x at h;rw[gP]at h;obtain⟨x,hx,rfl⟩:=h;have:=(qem ht q ([],[]) p 0 (Both.start ht hq hp) (by omega) (MB.nil l) (by have:=hq.le;omega) hq.node x hx).2.2;simpa using this
end Ev.Ty
end
section
namespace Ev.Ty
section
variable {α:Type}(lt:α->α->Bool)
variable {lt}
end
end Ev.Ty
end
section
namespace Ev.Ty
open Go Ev
namespace Tm
def args:Tm->List Tm
 |v _=>[]
 |k _=>[]
 |u _ x=>[x]
 |b _ x y=>[x,y]
def size:Tm->Nat
 |v _=>1
 |k _=>1
 |u _ x=>x.size+1
 |b _ x y=>x.size+y.size+1
theorem q65{p t:Tm}(h:p∈t.args):p.size<t.size:=by
 cases t with
 |v n=>cases h
 |k n=>cases h
 |u n x=>rw[gD.1 h];exact gAR _
 |b n x y=>
  rcases gK.1 h with rfl|h
  ·show p.size<p.size+y.size+1;omega
  ·rw[gD.1 h];show y.size<x.size+y.size+1;omega
def gr(a:Int->Nat):Tm->Prop
 |v _=>False
 |k n=>0<=n/\a n=0
 |u n x=>0<=n/\a n=1/\x.gr a
 |b n x y=>0<=n/\a n=2/\x.gr a/\y.gr a
variable {a:Int->Nat}
theorem gr.args{t p:Tm}(h:t.gr a)(hp:p∈t.args):p.gr a:=by
 cases t with
 |v n=>cases h
 |k n=>cases hp
 |u n x=>rw[gD.1 hp];exact h.2.2
 |b n x y=>
  rcases gK.1 hp with rfl|hp
  ·exact h.2.2.1
  ·rw[gD.1 hp];exact h.2.2.2
theorem gr.ok:∀{t:Tm},t.gr a->t.ok a
 |.v _,h=>h.elim
 |.k _,h=>h
 |.u _ _,h=>⟨h.1,h.2.1,h.2.2.ok⟩
 |.b _ _ _,h=>⟨h.1,h.2.1,h.2.2.1.ok,h.2.2.2.ok⟩
theorem gr.head{t:Tm}(h:t.gr a):0<=t.head/\t.args.length=a t.head:=by
 cases t with
 |v n=>cases h
 |k n=>exact⟨h.1,h.2.symm⟩
 |u n x=>exact⟨h.1,h.2.1.symm⟩
 |b n x y=>exact⟨h.1,h.2.1.symm⟩
theorem ok.args{t p:Tm}(h:t.ok a)(hp:p∈t.args):p.ok a:=by
 cases t with
 |v n=>cases hp
 |k n=>cases hp
 |u n x=>rw[gD.1 hp];exact h.2.2
 |b n x y=>
  rcases gK.1 hp with rfl|hp
  ·exact h.2.2.1
  ·rw[gD.1 hp];exact h.2.2.2
theorem ok.len{t:Tm}(ha:∀n,n<0->a n=0)(h:t.ok a):t.args.length=a t.head:=by
 cases t with
 |v n=>exact(ha n h).symm
 |k n=>exact h.2.symm
 |u n x=>exact h.2.1.symm
 |b n x y=>exact h.2.1.symm
theorem ok.head{t p:Tm}(h:t.ok a)(hp:p∈t.args):0<=t.head:=by
 cases t with
 |v n=>cases hp
 |k n=>cases hp
 |u n x=>exact h.1
 |b n x y=>exact h.1
theorem ql5{t p:Tm}(hp:p∈t.args){n:Int}(hn:n∈p.flat):n∈t.flat:=by
 cases t with
 |v m=>cases hp
 |k m=>cases hp
 |u m x=>rw[gD.1 hp]at hn;exact gF _ hn
 |b m x y=>
  rcases gK.1 hp with rfl|hp
  ·exact gF _ (gJ _ hn)
  ·rw[gD.1 hp]at hn;exact gF _ (gN _ hn)
end Tm
open Tm
inductive G(r:Int->Int):Tm->Tm->Prop
 |eq {s p}:p∈s.args->G r s p
 |sub {s t p}:p∈s.args->G r p t->G r s t
 |big {s t}:0<=s.head->0<=t.head->r t.head<r s.head->(∀q,q∈t.args->G r s q)->G r s t
 |lex {s t A B C x y}:0<=s.head->s.head=t.head->(∀q,q∈t.args->G r s q)->s.args=A++x::B->t.args=A++y::C->G r x y->G r s t
namespace G
variable {r:Int->Int}
theorem arg{s t q:Tm}(h:G r s t)(hq:q∈t.args):G r s q:=by
 induction h with
 |eq hp=>exact .sub hp (.eq hq)
 |sub hp _ ih=>exact .sub hp (ih hq)
 |big _ _ _ h=>exact h q hq
 |lex _ _ h _ _ _=>exact h q hq
theorem trans:∀(n:Nat){s t u:Tm},s.size+t.size+u.size<=n->G r s t->G r t u->G r s u:=by
 intro n;induction n with
 |zero=>intro s t u hn h1 h2;cases s <;> simp[Tm.size]at hn
 |succ n ih=>
  intro s t u hn h1 h2;cases h1 with
  |eq hp=>exact .sub hp h2
  |sub hp h1=>
   have:=q65 hp;exact .sub hp (ih (by omega) h1 h2)
  |big z1 z2 hr hq=>
   have h1:G r s t:=.big z1 z2 hr hq;cases h2 with
   |eq hu=>exact hq _ hu
   |sub hp h2=>
    have:=q65 hp;exact ih (by omega) (hq _ hp) h2
   |big _ z3 hr2 hq2=>exact .big z1 z3 (Int.lt_trans hr2 hr) fun w hw=>ih (by have:=q65 hw;omega) h1 (hq2 w hw)
   |lex z3 he hq2 _ _ _=>exact .big z1 (he▸z3) (he▸hr) fun w hw=>ih (by have:=q65 hw;omega) h1 (hq2 w hw)
  | @lex _ _ A B C x y z1 he hq e1 e2 hxy=>
    have h1:G r s t:=.lex z1 he hq e1 e2 hxy;cases h2 with
    |eq hu=>exact hq _ hu
    |sub hp h2=>
     have:=q65 hp;exact ih (by omega) (hq _ hp) h2
    |big _ z3 hr2 hq2=>exact .big z1 z3 (by rw[he];exact hr2) fun w hw=>ih (by have:=q65 hw;omega) h1 (hq2 w hw)
    | @lex _ _ A' B' C' x' y' z3 he2 hq2 e3 e4 hxy2=>
      have hall:∀w,w∈u.args->G r s w:=fun w hw=>ih (by have:=q65 hw;omega) h1 (hq2 w hw);have hx:x.size<s.size:=q65 (by rw[e1];simp);have hy:y.size<t.size:=q65 (by rw[e2];simp);have hy':y'.size<u.size:=q65 (by rw[e4];simp);rcases List.append_eq_append_iff.1 (e2.symm.trans e3)with⟨D,hA,hD⟩|⟨D,hA,hD⟩
      ·cases D with
       |nil=>
        rw[gAD]at hA;have hD:y=x'/\C=B':=by simpa using hD
        subst hA;refine .lex z1 (he.trans he2) hall e1 e4 (ih (by omega) hxy (hD.1▸hxy2))
       |cons d D=>
        have hD:y=d/\C=D++x'::B':=by simpa using hD
        rw[hA,gZ]at e4;rw[<- hD.1]at e4;exact .lex z1 (he.trans he2) hall e1 e4 hxy
      ·cases D with
       |nil=>
        rw[gAD]at hA;have hD:x'=y/\B'=C:=by simpa using hD
        subst hA;refine .lex z1 (he.trans he2) hall e1 e4 (ih (by omega) hxy (hD.1▸hxy2))
       |cons d D=>
        have hD:x'=d/\B'=D++y::C:=by simpa using hD
        rw[hA,gZ]at e1;rw[<- hD.1]at e1;exact .lex z1 (he.trans he2) hall e1 e4 hxy2
theorem var{a:Int->Nat}{n:Int}(hn:n<0):∀(m:Nat){x:Tm},x.size<=m->x.ok a->(G r x (.v n)<->0<=x.head/\n∈x.flat):=by
 intro m;induction m with
 |zero=>intro x hm _;cases x <;> simp[Tm.size]at hm
 |succ m ih=>
  intro x hm hx
  have up:∀p,p∈x.args->n∈p.flat->G r x (.v n):=fun p hp hnp=>by
   have hpo:=hx.args hp;by_cases h0:0<=p.head
   ·exact .sub hp ((ih (by have:=q65 hp;omega) hpo).2 ⟨h0,hnp⟩)
   ·cases p with
    |v k=>rw[gD.1 hnp];exact .eq hp
    |k k=>exact absurd hpo.1 h0
    |u k y=>exact absurd hpo.1 h0
    |b k y z=>exact absurd hpo.1 h0
  constructor
  ·intro h;cases h with
   |eq hp=>exact⟨hx.head hp,ql5 hp (gD.2 rfl)⟩
   |sub hp h=>exact⟨hx.head hp,ql5 hp ((ih (by have:=q65 hp;omega) (hx.args hp)).1 h).2⟩
   |big _ z _ _=>exact absurd z (by show ¬ 0<=n;omega)
   |lex z e _ _ _ _=>
    have e:x.head=n:=e;omega
  ·rintro⟨h1,h2⟩;cases x with
   |v k=>have h1:0<=k:=h1;have hx:k<0:=hx;omega
   |k k=>
    have h1:0<=k:=h1;have:=gD.1 h2;omega
   |u k y=>
    have h1:0<=k:=h1;rcases gK.1 h2 with e|h2
    ·omega
    ·exact up y (gD.2 rfl) h2
   |b k y z=>
    have h1:0<=k:=h1;rcases gK.1 h2 with e|h2
    ·omega
    ·rcases gO.1 h2 with h2|h2
     ·exact up y (List.mem_cons_self ..) h2
     ·exact up z (gF _ (gD.2 rfl)) h2
variable {a:Int->Nat}
end G
end Ev.Ty
end
section
namespace Ev.Ty
open Go Ev
open Tm
theorem quf{a:Int->Nat}:∀(x y:Tm)(r r':List Int),x.ok a->y.ok a->x.flat++r=y.flat++r'->x=y/\r=r':=by
 have hd:∀{n m:Int}{A B:List Int},n::A=m::B->n=m:=fun h=>(List.cons.inj h).1;intro x;induction x with
 |v n=>
  intro y r r' h1 h2 h;cases y with
  |v m=>have h:n=m/\r=r':=List.cons.inj h;exact⟨by rw[h.1],h.2⟩
  |k m=>have e:=hd h;have h1:n<0:=h1;have:=h2.1;omega
  |u m y=>have e:=hd h;have h1:n<0:=h1;have:=h2.1;omega
  |b m y z=>have e:=hd h;have h1:n<0:=h1;have:=h2.1;omega
 |k n=>
  intro y r r' h1 h2 h;cases y with
  |v m=>have e:=hd h;have h2:m<0:=h2;have:=h1.1;omega
  |k m=>have h:n=m/\r=r':=List.cons.inj h;exact⟨by rw[h.1],h.2⟩
  |u m y=>have e:=hd h;have h1:=h1.2;have h2:=h2.2.1;rw[e]at h1;omega
  |b m y z=>have e:=hd h;have h1:=h1.2;have h2:=h2.2.1;rw[e]at h1;omega
 |u n x ih=>
  intro y r r' h1 h2 h;cases y with
  |v m=>have e:=hd h;have h2:m<0:=h2;have:=h1.1;omega
  |k m=>have e:=hd h;have h1:=h1.2.1;have h2:=h2.2;rw[e]at h1;omega
  |u m y=>
   have h:n=m/\x.flat++r=y.flat++r':=List.cons.inj h;obtain⟨e1,e2⟩:=ih y r r' h1.2.2 h2.2.2 h.2;exact⟨by rw[h.1,e1],e2⟩
  |b m y z=>have e:=hd h;have h1:=h1.2.1;have h2:=h2.2.1;rw[e]at h1;omega
 |b n x w ih1 ih2=>
  intro y r r' h1 h2 h;cases y with
  |v m=>have e:=hd h;have h2:m<0:=h2;have:=h1.1;omega
  |k m=>have e:=hd h;have h1:=h1.2.1;have h2:=h2.2;rw[e]at h1;omega
  |u m y=>have e:=hd h;have h1:=h1.2.1;have h2:=h2.2.1;rw[e]at h1;omega
  |b m y z=>
   have h:n=m/\(x.flat++w.flat)++r=(y.flat++z.flat)++r':=List.cons.inj h;have h':=h.2;rw[gZ,gZ]at h';obtain⟨e1,e2⟩:=ih1 y _ _ h1.2.2.1 h2.2.2.1 h';obtain⟨e3,e4⟩:=ih2 z _ _ h1.2.2.2 h2.2.2.2 e2;exact⟨by rw[h.1,e1,e3],e4⟩
theorem qjt{a:Int->Nat}{x y:Tm}(hx:x.ok a)(hy:y.ok a):x.flat=y.flat<->x=y:=
 ⟨fun h=>(quf x y [] [] hx hy (by rw[h])).1,fun h=>by rw[h]⟩
inductive F2{α β:Type}(R:α->β->Prop):List α->List β->Prop
 |nil:F2 R [] []
 |cons {a b A B}:R a b->F2 R A B->F2 R (a::A) (b::B)
theorem F2.any{α β:Type}{R:α->β->Prop}{f:α->Bool}{P:β->Prop}{A:List α}{B:List β}(h:F2 R A B)(hf:∀a b,R a b->b∈B->(f a=true<->P b)):A.any f=true<->∃b,b∈B/\P b:=by
 induction h with
 |nil=>simp
 | @cons a b A B hr _ ih=>
   rw[List.any_cons,Bool.or_eq_true,hf a b hr (List.mem_cons_self ..),ih fun a b hr hb=>hf a b hr (gF _ hb)];constructor
   ·rintro(h|⟨b',h1,h2⟩)
    ·exact⟨b,List.mem_cons_self .., h⟩
    ·exact⟨b',gF _ h1,h2⟩
   ·rintro⟨b',h1,h2⟩;rcases gK.1 h1 with rfl|h1
    ·exact .inl h2
    ·exact .inr ⟨b',h1,h2⟩
def At(l:List Symbol)(t:List Int)(i:Nat)(x:Tm):Prop:=x.ok (ar l)/\∃r,t.drop i=x.flat++r
theorem At.facts{l:List Symbol}{t:List Int}{i:Nat}{x:Tm}(h:At l t i x):i<t.length/\t.getD i 0=x.head/\q5l l t i=i+x.flat.length/\q2v l t i=x.flat:=by
 obtain⟨hx,r,h⟩:=h;obtain⟨h1,h2,h3⟩:=qa8 h
 have hs:skip (ar l) 1 (t.drop i)=some r:=by
  rw[h,skip_flat (fun n hn=>qa1 l hn) x r 0 hx,q3t]
 have hl:(t.drop i).length=x.flat.length+r.length:=by rw[h,gM]
 rw[gAA]at hl
 have he:q5l l t i=i+x.flat.length:=by
  unfold q5l;rw[hs];show t.length-r.length=_;omega
 refine⟨h1,?_,he,?_⟩
 ·rw[gI,h2];rfl
 ·unfold q2v;rw[he,List.drop_take,Nat.add_sub_cancel_left,h,List.take_left]
theorem At.next{l:List Symbol}{t:List Int}{i:Nat}{n:Int}{x:Tm}{r:List Int}(hx:x.ok (ar l))(h:t.drop i=n::(x.flat++r)):At l t (i+1) x:=⟨hx,r,by
 rw[<- List.drop_drop,h];rfl⟩
theorem At.args{l:List Symbol}{t:List Int}{i:Nat}{x:Tm}(h:At l t i x):F2 (At l t) (q3q l t i) x.args:=by
 obtain⟨_,h2,_,_⟩:=h.facts;obtain⟨hx,r,h⟩:=h;unfold q3q;rw[h2,<- hx.len (fun n hn=>qa1 l hn)];cases x with
 |v n=>exact .nil
 |k n=>exact .nil
 |u n x=>exact .cons (At.next hx.2.2 h) .nil
 |b n x y=>
  have h:t.drop i=n::(x.flat++(y.flat++r)):=by rw[h];simp[Tm.flat]
  have a1:=At.next hx.2.2.1 h;refine .cons a1 (.cons ⟨hx.2.2.2,r,?_⟩ .nil);rw[a1.facts.2.2.1,<- List.drop_drop,<- List.drop_drop,h];show(x.flat++(y.flat++r)).drop _=_;rw[List.drop_left]
section
variable {l:List Symbol}{o a b:List Int}
end
def Closed(l:List Symbol)(t:List Int):Prop:=TermOk l t/\∀n∈t,0<=n
theorem quh{a:Int->Nat}:∀x:Tm,x.ok a->(∀n∈x.flat,0<=n)->x.gr a
 |.v n,h,h2=>by have h:n<0:=h;have:=h2 n (gD.2 rfl);omega
 |.k n,h,_=>h
 |.u n x,h,h2=>⟨h.1,h.2.1,quh x h.2.2 fun m hm=>h2 m (gF _ hm)⟩
 |.b n x y,h,h2=>⟨h.1,h.2.1,quh x h.2.2.1 fun m hm=>h2 m (gF _ (gJ _ hm)),quh y h.2.2.2 fun m hm=>h2 m (gF _ (gN _ hm))⟩
theorem Closed.at{l:List Symbol}(ok:SigOk ⟨l⟩){t:List Int}(h:Closed l t):∃x,At l t 0 x/\t=x.flat/\x.gr (ar l):=by
 obtain⟨x,hx,e⟩:=h.1.tree ok;exact⟨x,⟨hx,[],by simpa using e⟩,e,quh x hx (e▸h.2)⟩
section
variable {l:List Symbol}(ok:SigOk ⟨l⟩){o:List Int}(ho:∀n:Int,0<=n->n<l.length->n∈o)
include ok ho
end
end Ev.Ty
end
section
namespace Ev.Ty
open Go Ev
open Tm
namespace Tm
def inst(σ:Int->Tm):Tm->Tm
 |v n=>σ n
 |k n=>k n
 |u n x=>u n (x.inst σ)
 |b n x y=>b n (x.inst σ) (y.inst σ)
theorem inst_ok{σ:Int->Tm}{a:Int->Nat}(hσ:∀n,n<0->(σ n).ok a):∀{t:Tm},t.ok a->(t.inst σ).ok a
 |.v n,h=>hσ n h
 |.k _,h=>h
 |.u _ _,h=>⟨h.1,h.2.1,inst_ok hσ h.2.2⟩
 |.b _ _ _,h=>⟨h.1,h.2.1,inst_ok hσ h.2.2.1,inst_ok hσ h.2.2.2⟩
inductive Part:Tm->Tm->Prop
 |arg {p t}:p∈t.args->Part p t
 |deep {p q t}:q∈t.args->Part p q->Part p t
end Tm
namespace G
variable {r:Int->Int}
theorem qun{t p:Tm}(h:Tm.Part p t):G r t p:=by
 induction h with
 |arg h=>exact .eq h
 |deep h _ ih=>exact .sub h ih
theorem ctx{s t x y:Tm}{A B:List Tm}(z:0<=s.head)(he:s.head=t.head)(e1:s.args=A++x::B)(e2:t.args=A++y::B)(h:G r x y):G r s t:=by
 refine .lex z he (fun q hq=>?_) e1 e2 h;rw[e2]at hq;rcases gO.1 hq with hq|hq
 ·exact .eq (by rw[e1];exact gJ _ hq)
 ·rcases gK.1 hq with rfl|hq
  ·exact .sub (by rw[e1];simp) h
  ·exact .eq (by rw[e1];simp[hq])
end G
end Ev.Ty
end
section
namespace Ev.Ty
open Go Ev
open Tm
section
variable {l:List Symbol}(ok:SigOk ⟨l⟩){o:List Int}(ho:∀n:Int,0<=n->n<l.length->n∈o)
include ok
theorem TermOk.atZero{t:List Int}(h:TermOk l t):∃x,At l t 0 x/\t=x.flat:=by
 obtain⟨x,hx,e⟩:=h.tree ok;exact⟨x,⟨hx,[],by simpa using e⟩,e⟩
include ho
end
end Ev.Ty
end
section
namespace Ev.Ty
theorem qsi:∀(k:Nat)(o:List Int),o.Nodup->(∀n∈o,0<=n/\n<k)->o.length<=k
 |0,o,_,h=>by
  cases o with
  |nil=>simp
  |cons x o=>have:=h x (by simp);omega
 |k+1,o,hn,h=>by
  by_cases hk:(k:Int)∈o
  ·have h1:=List.length_erase_of_mem hk
   have:=qsi k (o.erase (k:Int)) (hn.erase _) fun n hm=>by
    have hm':=(hn.mem_erase_iff).1 hm;have:=h n hm'.2;omega
   omega
  ·have:=qsi k o hn fun n hm=>by
    have:=h n hm;have:n≠(k:Int):=fun e=>hk (e▸hm);omega
   omega
end Ev.Ty
end
section
namespace Ev.Ty
open Go Ev
open Enc (enc)
open Sm (sm)
def quw(l:List Symbol)(o:List Int):Int:=if o.length≠l.length then 2 else if(o.any fun n=>!inR n 0 (l.length-1))=true then 3 else if qhm o=true then 6 else 0
theorem q6j{l:List Symbol}(hs:l.length<=4294967296)(n:Int):Call F.q6j [.agg [slc l],.int .i64 n] (.bool (inR n 0 (l.length-1))):=by
 refine q0s rfl 0 ((q6j.ev _ _ _).trans ?_);simp only[evz,Nat.reduceLT,q1v (x:=(l.length:Int)-1) (by omega),(q2y _ _ _).eq]
theorem q6i{l:List Symbol}(hs:l.length<=4294967296)(n:Int):Call F.q6i [.rref [slc l] 0,.int .i64 n] (.bool (inR n 0 (l.length-1))):=by
 refine q0s rfl 0 ((q6i.ev _ _ _).trans ?_);simp only[evz,Nat.reduceLT,q1v (x:=(l.length:Int)-1) (by omega),(q1b _ _ _).eq]
theorem qci{l:List Symbol}(h:q2w ⟨l⟩=0):SigOk ⟨l⟩:=(q51 _).1 h
section
variable (e:Nat->Nat)(f:Nat->Int)
def qhk(s:Int×Int×Int)(k:Nat):Int×Int×Int:=if(e k:Int)>s.2.2 then s else if f k>=0 then((k:Int),f k,(e k:Int))else s
def IsBest(lo hi:Nat)(s:Int×Int):Prop:=
 (s=(-1,-1)/\∀a,lo<=a->a<hi->f a<0)\/
  ∃a,lo<=a/\a<hi/\s=((a:Int),f a)/\f a>=0/\∀a',lo<=a'->a'<hi->f a'>=0->e a<e a'\/(e a=e a'/\a'<=a)
theorem IsBest.up{k:Nat}{s:Int×Int×Int}(he:∀a,e a<=24)(h:IsBest e f 0 k (s.1,s.2.1))(hs:(s.1 = -1/\s.2.2=25)\/∃a:Nat,s.1=a/\s.2.2=e a) :
 IsBest e f 0 (k+1) ((qhk e f s k).1,(qhk e f s k).2.1)/\(((qhk e f s k).1 = -1/\(qhk e f s k).2.2=25)\/∃a:Nat,(qhk e f s k).1=a/\(qhk e f s k).2.2=e a):=by
 have hek:=he k;obtain⟨p,r,d⟩:=s;unfold qhk;simp only at h hs ⊢;rcases h with⟨hp,h⟩|⟨a,h1,h2,hp,h3,h4⟩
 ·simp only[Prod.mk.injEq]at hp;obtain⟨rfl,rfl⟩:=hp
  have hd:d=25:=by
   rcases hs with⟨_,h⟩|⟨a,h,_⟩
   ·exact h
   ·omega
  subst hd;rw[if_neg (by omega)];by_cases hf:f k>=0
  ·rw[if_pos hf];refine⟨.inr ⟨k,by omega,by omega,rfl,hf,fun a' q1 q2 q3=>?_⟩,.inr ⟨k,rfl,rfl⟩⟩;by_cases hak:a'=k
   ·subst hak;exact .inr ⟨rfl,gAI _⟩
   ·have:=h a' (by omega) (by omega);omega
  ·rw[if_neg hf];refine⟨.inl ⟨rfl,fun a' q1 q2=>?_⟩,.inl ⟨rfl,rfl⟩⟩;by_cases hak:a'=k
   ·subst hak;omega
   ·exact h a' (by omega) (by omega)
 ·simp only[Prod.mk.injEq]at hp;obtain⟨rfl,rfl⟩:=hp
  have hd:d=e a:=by
   rcases hs with⟨h,_⟩|⟨a',h,h'⟩
   ·omega
   ·have:a=a':=by omega
    rw[this];exact h'
  subst hd;by_cases hc:(e k:Int)>e a
  ·rw[if_pos hc];refine⟨.inr ⟨a,by omega,by omega,rfl,h3,fun a' q1 q2 q3=>?_⟩,.inr ⟨a,rfl,rfl⟩⟩;by_cases hak:a'=k
   ·subst hak;exact .inl (by omega)
   ·exact h4 a' (by omega) (by omega) q3
  ·rw[if_neg hc];by_cases hf:f k>=0
   ·rw[if_pos hf];refine⟨.inr ⟨k,by omega,by omega,rfl,hf,fun a' q1 q2 q3=>?_⟩,.inr ⟨k,rfl,rfl⟩⟩;by_cases hak:a'=k
    ·subst hak;exact .inr ⟨rfl,gAI _⟩
    ·rcases h4 a' (by omega) (by omega) q3 with q|⟨q,_⟩
     ·exact .inl (by omega)
     ·rcases Nat.lt_or_ge (e k) (e a')with q'|q'
      ·exact .inl q'
      ·exact .inr ⟨by omega,by omega⟩
   ·rw[if_neg hf];refine⟨.inr ⟨a,by omega,by omega,rfl,h3,fun a' q1 q2 q3=>?_⟩,.inr ⟨a,rfl,rfl⟩⟩;by_cases hak:a'=k
    ·subst hak;omega
    ·exact h4 a' (by omega) (by omega) q3
end
def fits(l:List Symbol)(rs:List Equation)(t:List Int)(p:Nat):Int:=idx (fun e=>(q6x l e.left t p).isSome) rs
theorem qa4{l:List Symbol}{b:Bnd}{k:Nat}(hb:MB l b k)(hk:k<=24):∀(q x:List Int)(m:Nat),skip (ar l) m q=some []->skip (ar l) m (q01 b.1 b.2 q++x)=some x
 |[],x,m,h=>by
  obtain⟨rfl,_⟩:=qjw h;rw[q3t];rfl
 |n::q,x,m,h=>by
  cases m with
  |zero=>rw[q3t]at h;cases h
  |succ m=>
   rw[skip]at h;have ih:=qa4 hb hk q x _ h;have e:q01 b.1 b.2 (n::q)=(q3i b.1 b.2 (-1-n)).getD [n]++q01 b.1 b.2 q:=by simp[q01]
   rw[e,gZ];cases ho:q3i b.1 b.2 (-1-n)with
   |none=>
    show skip (ar l) (m+1) (n::(q01 b.1 b.2 q++x))=_;rw[skip];exact ih
   |some o=>
    have hn:n<0:=by
     rcases Int.lt_or_le n 0 with h|h
     ·exact h
     ·rw[qal (hb.ok hk) (by omega)]at ho;cases ho
    rw[qa1 l hn,Nat.add_zero]at ih;have ht:=hb.tm o (q52 ho);show skip (ar l) (m+1) (o++(q01 b.1 b.2 q++x))=_;rw[show m+1=1+m by omega,qa3,qb0 ht.skip];exact ih
theorem qhw{a:Int->Nat}{y y' z:List Int}(hy:skip a 1 (y++z)=some z)(hy':skip a 1 (y'++z)=some z):∀(x:List Int)(k:Nat),skip a k (x++(y++z))=some []->skip a k (x++(y'++z))=some []
 |[],0,h=>by
  rw[q3t]at h;rw[List.nil_append]at h;rw[Option.some.inj h]at hy;cases hy
 |[],k+1,h=>by
  rw[List.nil_append,show k+1=1+k by omega,qa3]at h ⊢;rw[hy]at h;rw[hy'];exact h
 |n::x,0,h=>by rw[q3t]at h;cases h
 |n::x,k+1,h=>by
  rw[List.cons_append,skip]at h ⊢;exact qhw hy hy' x _ h
theorem qc2{l:List Symbol}{b:Bnd}{k:Nat}(hb:MB l b k){q:List Int}(hq:∀n∈q,q5w l n=true):∀n∈q01 b.1 b.2 q,q5w l n=true:=fun n hn=>by
 unfold q01 at hn;obtain⟨m,hm,hn⟩:=List.mem_flatMap.1 hn;cases ho:q3i b.1 b.2 (-1-m)with
 |none=>rw[ho]at hn;rw[gD.1 hn];exact hq m hm
 |some o=>rw[ho]at hn;exact(hb.tm o (q52 ho)).node n hn
theorem qw1{l:List Symbol}{t q:List Int}(ht:TermOk l t)(hq:TermOk l q){p:Nat}(hp:p<t.length){b:Bnd}{k:Nat}(hb:MB l b k)(hk:k<=24)(h:(q35 l t p (q01 b.1 b.2 q)).length<=24) :
 TermOk l (q35 l t p (q01 b.1 b.2 q)):=by
 obtain⟨h1,h2,h3⟩:=q5h ht hp
 have hs:skip (ar l) 1 (q35 l t p (q01 b.1 b.2 q))=some []:=by
  unfold q35;rw[gZ];refine qhw (y:=q2v l t p) (by rw[<- h1];exact h3) (qa4 hb hk q _ 1 hq.skip) (t.take p) 1 ?_;rw[<- h1,List.take_append_drop];exact ht.skip
 refine⟨?_,h,fun n hn=>?_,hs⟩
 ·rcases Nat.eq_zero_or_pos (q35 l t p (q01 b.1 b.2 q)).length with h|h
  ·rw[gL h]at hs;cases hs
  ·exact h
 ·unfold q35 at hn;rcases gO.1 hn with hn|hn
  ·rcases gO.1 hn with hn|hn
   ·exact ht.node n (List.mem_of_mem_take hn)
   ·exact qc2 hb hq.node n hn
  ·exact ht.node n (List.mem_of_mem_drop hn)
def q99(l:List Symbol)(e:Equation)(t:List Int)(p:Nat):TermResult:=match q6x l e.left t p with
 |none=>⟨4,[]⟩
 |some b=>if 24<(q35 l t p (q01 b.1 b.2 e.right)).length then⟨2,[]⟩else⟨0,q35 l t p (q01 b.1 b.2 e.right)⟩
theorem qm7{l:List Symbol}{e:Equation}{t:List Int}(he:EqOk l e)(ht:TermOk l t){p:Nat}(hp:p<t.length)(h:(q99 l e t p).code=0):TermOk l (q99 l e t p).term:=by
 unfold q99 at h ⊢;cases hm:q6x l e.left t p with
 |none=>rw[hm]at h;cases h
 |some b=>
  rw[hm]at h;simp only at h ⊢;split at h
  ·cases h
  ·rename_i h24;rw[if_neg h24];have hb:=qce he.left ht hp hm;exact qw1 ht he.right hp hb he.left.le (by omega)
def q5k(s:Signature)(rs:List Equation)(t:List Int):Int:=if q48 s rs≠0 then q48 s rs else q4m s.symbols t
def q43(s:Signature)(rs:List Equation)(r p:Int)(t:List Int):TermResult:=
 if q5k s rs t≠0 then⟨q5k s rs t,[]⟩else if inR r 0 (rs.length-1)=false\/inR p 0 (t.length-1)=false then⟨3,[]⟩else q99 s.symbols (rs.getD r.toNat ⟨[],[]⟩) t p.toNat
theorem qfo{α:Type}{l:List α}{i k:Nat}(x:α)(hi:i<=k)(hk:k<l.length):(ins l i x).take (k+2)=(ins l i x).take (k+1)++[l[k]]:=by
 have hlen:=q78 l i x (by omega);have h:k+1<(ins l i x).length:=by omega
 have e:(ins l i x)[k+1]=l[k]:=by
  have:=qsd l x i (by omega) (k+1);rw[if_neg (by omega),if_neg (by omega),Nat.add_sub_cancel,gA hk]at this;have h2:(ins l i x)[k+1]?=some l[k]:=this;rw[gA h]at h2;exact Option.some.inj h2
 rw[<- e];exact(gAP h).symm
theorem qho{α:Type}{l:List α}{i:Nat}(x:α)(hi:i<=l.length):(ins l i x).take (i+1)=l.take i++[x]:=by
 unfold ins;rw[List.take_append,List.take_of_length_le (by simp;omega)];simp[Nat.min_eq_left hi]
theorem qr1{α:Type}(l:List α)(x:α):ins l l.length x=l++[x]:=by simp[ins]
theorem q5r(vs:List Int)(i:Nat)(v:Int)(hi:i<=vs.length)(hl:vs.length<4294967296):Call F.q5r [slc vs,.int .i64 i,.sl 1 [.int .i64 v]] (slc (ins vs i v)):=by
 refine qel (e:=insE 8) rfl (Ev.of fun m=>?_);have hc:(cells vs).length=vs.length:=by rw[q0r,q3p,Nat.mul_one]
 show(bif _ then _ else _)=_;rw[q22 (by simp[hc,hl,Nat.ble_eq];omega)];have e1:=q8i vs 1 i rfl;have e2:=q9j vs 1 i rfl;rw[Nat.mul_one]at e1 e2;rw[gR,e1,e2];show some (T.sl 1 (cells (vs.take i)++T.int .i64 v::cells (vs.drop i)),[])=_;unfold ins slc;rw[q38,q8k];rfl
theorem q5g(ts:List (List Int))(i:Nat)(t:List Int)(hi:i<=ts.length)(hl:ts.length<4294967296):Call F.q5g [slc ts,.int .i64 i,.sl 1 [slc t]] (slc (ins ts i t)):=by
 refine qel (e:=insE 24) rfl (Ev.of fun m=>?_);have hc:(cells ts).length=ts.length:=by rw[q0r,show Enc.sz (List Int)=1 from rfl,Nat.mul_one]
 show(bif _ then _ else _)=_;rw[q22 (by simp[hc,hl,Nat.ble_eq];omega)];have e1:=q8i ts 1 i rfl;have e2:=q9j ts 1 i rfl;rw[Nat.mul_one]at e1 e2;rw[gR,e1,e2];show some (T.sl 1 (cells (ts.take i)++slc t::cells (ts.drop i)),[])=_;unfold ins;show _=some (T.sl 1 (cells (ts.take i++t::ts.drop i)),[]);rw[q38,q8k];rfl
theorem q0x(vs:List Int)(ts:List (List Int))(v:Int)(t:List Int)(hl:vs.length=ts.length)(hs:vs.length<=1000)(ht:t.length<=4294967296) :
 LIM F.q0x [.rref [slc vs,slc ts] 0,.int .i64 v,slc t]=some (.tup [],[.agg [slc (bput (vs,ts) v t).1,slc (bput (vs,ts) v t).2]]):=by
 have hi:=qe4 vs v;refine qa2 rfl 1002 ((q0x.ev _ _ _ _ _).trans ?_)
 have loop:∀n k f,k+n=q7g vs v->n<f->q0x.at0 1002 f (q0x.st0 v (cells t) (k:Nat) (cells vs) (cells ts))=some (.tup [],[.agg [slc (bput (vs,ts) v t).1,slc (bput (vs,ts) v t).2]]):=by
  intro n;induction n with
  |zero=>
   intro k f hk hf;obtain⟨f,rfl⟩:∃x,f=x+1:=⟨f-1,by omega⟩;obtain rfl:k=q7g vs v:=by omega
   have q1:=(q5r vs (q7g vs v) v hi (by omega)).eq;have q2:=(q5g ts (q7g vs v) t (by omega) (by omega)).eq;by_cases h:q7g vs v<vs.length
   ·have hs:=qep vs v h;have hlk:vs[q7g vs v]?=some vs[q7g vs v]:=gA h;simp only[q0x.next0,q0x.round0,evz,Nat.reduceLT,h,hlk,q23,hs,q1,(q2n t ht).eq,q2];rfl
   ·simp only[q0x.next0,q0x.round0,evz,Nat.reduceLT,h,q1,(q2n t ht).eq,q2];rfl
  |succ n ih=>
   intro k f hk hf;obtain⟨f,rfl⟩:∃x,f=x+1:=⟨f-1,by omega⟩;have h:k<vs.length:=by omega
   have hlt:=qjn vs v k (by omega) h;have hlk:vs[k]?=some vs[k]:=gA h;simp only[q0x.next0,q0x.round0,evz,Nat.reduceLT,h,hlk,q23,hlt];rw[q0l (by omega)];exact ih (k+1) f (by omega) (by omega)
 exact loop (q7g vs v) 0 1002 (by omega) (by omega)
def q9a(vs:List Int)(ts:List (List Int))(v:Int)(t:List Int)(k:Nat):Bool×List Int×List (List Int):=
 if k<=q7g vs v then(false,vs.take k,ts.take k)else(true,(ins vs (q7g vs v) v).take (k+1),(ins ts (q7g vs v) t).take (k+1))
theorem q1l(vs:List Int)(ts:List (List Int))(v:Int)(t:List Int)(hl:vs.length=ts.length)(hs:vs.length<=1000)(ht:t.length<=4096)(hv:v∉vs)(htm:∀x∈ts,x.length<=4096) :
 Call F.q1l [.rref [slc vs,slc ts] 0,.int .i64 v,slc t] (.agg [slc (bput (vs,ts) v t).1,slc (bput (vs,ts) v t).2]):=by
 have hi:=qe4 vs v;refine q0s rfl 1002 ((q1l.ev _ _ _ _ _).trans ?_)
 have key:=qb4 (n:=vs.length) (f:=1002) (S:=fun m k (s:Bool×List Int×List (List Int))=>q1l.at0 1002 m (q1l.st0 (cells vs) (cells ts) v (cells t) s.1 (k:Nat) (cells s.2.1) (cells s.2.2)))
  (st:=q9a vs ts v t) (z:=some (.agg [slc (bput (vs,ts) v t).1,slc (bput (vs,ts) v t).2],[])) (fun m k h=>?_) (fun m=>?_) (by omega)
 ·have e0:q9a vs ts v t 0=(false,[],[]):=by unfold q9a;rw[if_pos (Nat.zero_le _)];rfl
  rw[e0]at key;exact key
 ·have h':k<ts.length:=by omega
  have hlk:vs[k]?=some vs[k]:=gA h;have htk:ts[k]?=some ts[k]:=gA h';have hx:=(q5i ts[k] (by have:=htm _ (gG h');omega)).eq;have hx2:=(q5i t (by omega)).eq;have hne:vs[k]≠v:=fun e=>hv (e▸gG h);have len1:∀q,((cells (vs.take q)).length)<=1000:=fun q=>by rw[q0r,q3p];simp;omega
  have len2:∀q,((cells (ts.take q)).length)<=1000:=fun q=>by rw[q0r,show Enc.sz (List Int)=1 from rfl];simp;omega
  have len3:∀q,((cells ((ins vs (q7g vs v) v).take q)).length)<=1001:=fun q=>by rw[q0r,q3p,gAF,q78 _ _ _ hi];omega
  have len4:∀q,((cells ((ins ts (q7g vs v) t).take q)).length)<=1001:=fun q=>by rw[q0r,show Enc.sz (List Int)=1 from rfl,gAF,q78 _ _ _ (by omega)];omega
  have tk1:vs.take (k+1)=vs.take k++[vs[k]]:=(gAP h).symm;have tk2:ts.take (k+1)=ts.take k++[ts[k]]:=(gAP h').symm;rcases Nat.lt_trichotomy k (q7g vs v)with c|c|c
  ·have hlt:=qjn vs v k c h;have hgt:¬ vs[k]>v:=by omega
   have e1:q9a vs ts v t k=(false,vs.take k,ts.take k):=if_pos (by omega);have e2:q9a vs ts v t (k+1)=(false,vs.take k++[vs[k]],ts.take k++[ts[k]]):=by unfold q9a;rw[if_pos (by omega),tk1,tk2]
   rw[e1,e2];simp only[q1l.next0,q1l.round0,evz,Nat.reduceLT,h,h',hlk,htk,q23,q59,hgt,hx,q2s,q7k];rw[q22 (q4k (by have:=len1 k;omega)),q22 (q4k (by have:=len2 k;omega)),q0l (by omega)]
  ·have hs:=qep vs v (by omega)
   have hs:¬ vs[k]<v:=by
    have:vs[q7g vs v]'(by omega)=vs[k]:=by congr 1;omega
    rw[this]at hs;exact hs
   have hgt:vs[k]>v:=by omega
   have e1:q9a vs ts v t k=(false,vs.take k,ts.take k):=if_pos (by omega)
   have e2:q9a vs ts v t (k+1)=(true,(vs.take k++[v])++[vs[k]],(ts.take k++[t])++[ts[k]]):=by
    unfold q9a;rw[if_neg (by omega),<- c,qfo v (gAI _) h,qfo t (gAI _) h',qho v (by omega),qho t (by omega)]
   rw[e1,e2];simp only[q1l.next0,q1l.round0,evz,Nat.reduceLT,h,h',hlk,htk,q23,q59,hgt,hx,hx2,q2s,q7k];have l1:=len1 k;have l2:=len2 k;have l3:(cells (vs.take k++[v])).length<=1001:=by rw[q38,gM,q0r [v]];simp;omega
   have l4:(cells (ts.take k++[t])).length<=1001:=by rw[q38,gM,q0r [t]];simp[show Enc.sz (List Int)=1 from rfl];omega
   rw[q22 (q4k (by omega)),q22 (q4k (by omega)),q22 (q4k (by omega)),q22 (q4k (by omega)),q0l (by omega)]
  ·have e1:q9a vs ts v t k=(true,(ins vs (q7g vs v) v).take (k+1),(ins ts (q7g vs v) t).take (k+1)):=if_neg (by omega)
   have e2:q9a vs ts v t (k+1)=(true,(ins vs (q7g vs v) v).take (k+1)++[vs[k]],(ins ts (q7g vs v) t).take (k+1)++[ts[k]]):=by
    unfold q9a;rw[if_neg (by omega),qfo v (by omega) h,qfo t (by omega) h']
   rw[e1,e2];simp only[q1l.next0,q1l.round0,evz,Nat.reduceLT,h,h',hlk,htk,q23,q59,hx,q2s,q7k];rw[q22 (q4k (by have:=len3 (k+1);omega)),q22 (q4k (by have:=len4 (k+1);omega)),q0l (by omega)]
 ·have hx2:=(q5i t (by omega)).eq;by_cases c:q7g vs v=vs.length
  ·have e1:q9a vs ts v t vs.length=(false,vs,ts):=by
    unfold q9a;rw[if_pos (by omega),List.take_length,hl,List.take_length]
   have e2:bput (vs,ts) v t=(vs++[v],ts++[t]):=by
    unfold bput;rw[c,qr1];simp only[Prod.mk.injEq,true_and];rw[hl,qr1]
   rw[e1,e2];simp only[q1l.next0,q1l.round0,evz,Nat.reduceLT,gAK,hx2,q2s,q7k];rw[q22 (q4k (by rw[q0r,q3p];omega)),q22 (q4k (by rw[q0r,show Enc.sz (List Int)=1 from rfl];omega))]
  ·have e1:q9a vs ts v t vs.length=(true,ins vs (q7g vs v) v,ins ts (q7g vs v) t):=by
    unfold q9a;rw[if_neg (by omega),List.take_of_length_le (by rw[q78 _ _ _ hi];omega),List.take_of_length_le (by rw[q78 _ _ _ (by omega)];omega)]
   rw[e1];simp only[q1l.next0,q1l.round0,evz,Nat.reduceLT,gAK];rfl
def mT:Option Bnd->T
 |none=>.tup [.agg [.sl 1 [],.sl 1 []],.bool false]
 |some b=>.tup [.agg [slc b.1,slc b.2],.bool true]
section
variable {l:List Symbol}(ok:SigOk ⟨l⟩)
include ok
theorem q1w{pat u:List Int}(hq:TermOk l pat)(hu:TermOk l u):Call F.q1w [.agg [slc l],slc pat,slc u] (mT (q6x l pat u 0)):=by
 have hul:=hu.le;have hpl:=hq.le;refine q0s rfl 25 ((q1w.ev _ _ _ _).trans ?_);simp only[q5s,q3p]
 have loop:∀(q:List Int)(b:Bnd)(p k f:Nat),pat.drop k=q->q.length<f->Both l u q p []->MB l b k->k+q.length=pat.length->
  q1w.at0 25 f (q1w.st0 (cells u) (p:Nat) (cells pat) pat.length (k:Nat) (cells l) (cells b.1) (cells b.2))=
   some (match mgo l u q b p with|none=>T.tup [.agg [.sl 1 [],.sl 1 []],.bool false]|some x=>.tup [.agg [slc x.1.1,slc x.1.2],.bool (decide (x.2=u.length))],[]):=by
  intro q;induction q with
  |nil=>
   intro b p k f hd hf hB hb hk;obtain⟨f,rfl⟩:∃x,f=x+1:=⟨f-1,by omega⟩;have h:¬ k<pat.length:=by simp at hk;omega
   simp only[q1w.next0,q1w.round0,evz,Nat.reduceLT,h,mgo,Int.ofNat_inj]
  |cons n q ih=>
   intro b p k f hd hf hB hb hk;rw[gAB]at hf hk;obtain⟨f,rfl⟩:∃x,f=x+1:=⟨f-1,by omega⟩;have h:k<pat.length:=by omega
   have hn:pat[k]=n:=by
    have:=congrArg (fun x=>x[0]?) hd;simp only[gV,Nat.add_zero,List.getElem?_cons_zero]at this;rw[gA h]at this;exact Option.some.inj this
   have hd':pat.drop (k+1)=q:=by rw[<- List.drop_drop,hd];rfl
   have hlk:pat[k]?=some n:=by rw[gA h,hn]
   have hp:=hB.lt;have hpk:u[p]?=some u[p]:=gA hp;have hnode:=q4j.1 (hq.node n (hn▸gG h));have hp':¬((p:Int)>=(u.length:Int)):=by omega
   have hls:l.length<=6:=ok.le;obtain⟨h3,h4,_⟩:=q4g hu hp;have hsl:=(q5h hu hp).2.1;rw[mgo,if_neg (by omega)];by_cases c:0<=n
   ·have c':n>=0:=c;rw[if_pos c,q8r hp];by_cases e:u[p]=n
    ·simp only[q1w.next0,q1w.round0,evz,Nat.reduceLT,h,hlk,hp,hpk,hp',q23,c',e];rw[q0l (by omega),q0l (by omega)];exact ih b (p+1) (k+1) f hd' (by omega) (hB.node (by rw[q8r hp,e])) (hb.up (by omega)) (by omega)
    ·simp only[q1w.next0,q1w.round0,evz,Nat.reduceLT,h,hlk,hp,hpk,hp',q23,c',e]
   ·have c':¬ n>=0:=c;rw[if_neg c];have hof:=(q4z b.1 b.2 (-1-n) hb.len (by have:=hb.le;omega)).eq;have hB':=hB.var hu (by omega);have hw:IntKind.wrap .i64 (-1-n) = -1-n:=q1v (by omega);have hw2:IntKind.wrap .i64 ((p:Int)+((q2v l u p).length:Nat))=((p+(q2v l u p).length:Nat):Int):=by rw[q1v (by omega)];omega
    have hsub:=(q45 ok hu hp).eq;have hbl:=hb.le;cases hbo:q3i b.1 b.2 (-1-n)with
    |none=>
     rw[hbo]at hof;have hbind:=q0x b.1 b.2 (-1-n) (q2v l u p) hb.len (by omega) (by omega);simp only[q1w.next0,q1w.round0,evz,Nat.reduceLT,h,hlk,hp',q23,c',hsub,hw,hof,ofT,q4l,hbind,hw2];rw[q0l (by omega)];exact ih (bput b (-1-n) (q2v l u p)) _ (k+1) f hd' (by omega) hB' (hb.put (by omega) (q6s hu hp)) (by omega)
    |some o=>
     rw[hbo]at hof;have ho:=hb.tm o (q52 hbo);have hol:=ho.le;have heq:=(q0q o (q2v l u p) ⟨by omega,fun _ _=>trivial⟩).eq;show _=some (match (if o=q2v l u p then mgo l u q b (p+(q2v l u p).length)else none)with|none=>_|some x=>_,[]);by_cases e:o=q2v l u p
     ·rw[if_pos e];rw[e]at heq;simp only[q1w.next0,q1w.round0,evz,Nat.reduceLT,h,hlk,hp',q23,c',hsub,hw,hof,ofT,q4l,heq,e,hw2];rw[q0l (by omega)];exact ih b _ (k+1) f hd' (by omega) hB' (hb.up (by omega)) (by omega)
     ·rw[if_neg e];simp only[q1w.next0,q1w.round0,evz,Nat.reduceLT,h,hlk,hp',q23,c',hsub,hw,hof,ofT,q4l,heq,e]
 have hpos:=hu.pos
 have e0:u.drop (q5l l u 0)=[]:=by
  have:=(q5h hu (p:=0) (by omega)).2.2;rw[List.drop_zero,hu.skip]at this;exact(Option.some.inj this).symm
 have hB:=Both.start hu hq (p:=0) (by omega);rw[e0]at hB;have hmain:=loop pat ([],[]) 0 0 25 rfl (by omega) hB (MB.nil l) (by omega);have hen:=qem hu pat ([],[]) 0 0 hB (by omega) (MB.nil l) (by omega) hq.node;unfold q6x;cases hm:mgo l u pat ([],[]) 0 with
 |none=>rw[hm]at hmain;exact hmain
 |some x=>
  rw[hm]at hmain;obtain⟨h1,h2,_⟩:=hen x hm
  have hx:x.2=u.length:=by
   have:=congrArg List.length h1;rw[gAA]at this;simp at this;omega
  have hmain:q1w.at0 25 25 (q1w.st0 (cells u) (0:Nat) (cells pat) pat.length (0:Nat) (cells l) (cells ([]:List Int)) (cells ([]:List (List Int))))=some (T.tup [.agg [slc x.1.1,slc x.1.2],.bool (decide (x.2=u.length))],[]):=hmain;rw[hx,decide_eq_true rfl]at hmain;exact hmain
theorem q1c{pat u:List Int}(hq:TermOk l pat)(hu:TermOk l u){p0:Nat}(hp0:p0<u.length):Call F.q1c [.rref [slc l] 0,slc pat,slc u,.int .i64 p0] (mT (q6x l pat u p0)):=by
 have hul:=hu.le;have hpl:=hq.le;refine q0s rfl 25 ((q1c.ev _ _ _ _ _).trans ?_)
 have loop:∀(q:List Int)(b:Bnd)(p k f:Nat),pat.drop k=q->q.length<f->Both l u q p (u.drop (q5l l u p0))->MB l b k->k+q.length=pat.length->
  q1c.at0 25 f (q1c.st0 (cells l) (cells pat) (cells u) (p:Nat) (k:Nat) (cells b.1) (cells b.2))=some (mT ((mgo l u q b p).map (·.1)),[]):=by
  intro q;induction q with
  |nil=>
   intro b p k f hd hf hB hb hk;obtain⟨f,rfl⟩:∃x,f=x+1:=⟨f-1,by omega⟩;have h:¬ k<pat.length:=by simp at hk;omega
   simp only[q1c.next0,q1c.round0,evz,Nat.reduceLT,h,mgo,Option.map_some,mT]
  |cons n q ih=>
   intro b p k f hd hf hB hb hk;rw[gAB]at hf hk;obtain⟨f,rfl⟩:∃x,f=x+1:=⟨f-1,by omega⟩;have h:k<pat.length:=by omega
   have hn:pat[k]=n:=by
    have:=congrArg (fun x=>x[0]?) hd;simp only[gV,Nat.add_zero,List.getElem?_cons_zero]at this;rw[gA h]at this;exact Option.some.inj this
   have hd':pat.drop (k+1)=q:=by rw[<- List.drop_drop,hd];rfl
   have hlk:pat[k]?=some n:=by rw[gA h,hn]
   have hp:=hB.lt;have hpk:u[p]?=some u[p]:=gA hp;have hnode:=q4j.1 (hq.node n (hn▸gG h));have hp':¬((p:Int)>=(u.length:Int)):=by omega
   have hls:l.length<=6:=ok.le;obtain⟨h3,h4,_⟩:=q4g hu hp;have hsl:=(q5h hu hp).2.1;rw[mgo,if_neg (by omega)];by_cases c:0<=n
   ·have c':n>=0:=c;rw[if_pos c,q8r hp];by_cases e:u[p]=n
    ·simp only[q1c.next0,q1c.round0,evz,Nat.reduceLT,h,hlk,hp,hpk,hp',q23,c',e];rw[q0l (by omega),q0l (by omega)];exact ih b (p+1) (k+1) f hd' (by omega) (hB.node (by rw[q8r hp,e])) (hb.up (by omega)) (by omega)
    ·simp only[q1c.next0,q1c.round0,evz,Nat.reduceLT,h,hlk,hp,hpk,hp',q23,c',e,Option.map_none,mT]
   ·have c':¬ n>=0:=c;rw[if_neg c];have hof:=(q2b b.1 b.2 (-1-n) hb.len (by have:=hb.le;omega)).eq;have hB':=hB.var hu (by omega);have hw:IntKind.wrap .i64 (-1-n) = -1-n:=q1v (by omega);have hw2:IntKind.wrap .i64 ((p:Int)+((q2v l u p).length:Nat))=((p+(q2v l u p).length:Nat):Int):=by rw[q1v (by omega)];omega
    have hsub:=(q5z ok hu hp).eq;have hbl:=hb.le;cases hbo:q3i b.1 b.2 (-1-n)with
    |none=>
     rw[hbo]at hof;have hbind:=(q1l b.1 b.2 (-1-n) (q2v l u p) hb.len (by omega) (by omega) (qd3 hb.len hbo) fun x hx=>by have:=(hb.tm x hx).le;omega).eq;simp only[q1c.next0,q1c.round0,evz,Nat.reduceLT,h,hlk,hp',q23,c',hsub,hw,hof,Option.getD_none,q4l,hbind,hw2,List.length_nil,Int.natCast_zero,Int.ofNat_zero];rw[q0l (by omega)];exact ih (bput b (-1-n) (q2v l u p)) _ (k+1) f hd' (by omega) hB' (hb.put (by omega) (q6s hu hp)) (by omega)
    |some o=>
     rw[hbo]at hof;have ho:=hb.tm o (q52 hbo);have hol:=ho.le;have hop:=ho.pos;have ho0:¬((o.length:Int)=0):=by omega
     have heq:=(q1z o (q2v l u p) ⟨by omega,fun _ _=>trivial⟩).eq;show _=some (mT ((if o=q2v l u p then mgo l u q b (p+(q2v l u p).length)else none).map (·.1)),[]);by_cases e:o=q2v l u p
     ·rw[if_pos e];have ho1:¬(((q2v l u p).length:Int)=0):=by omega
      rw[e]at heq;simp only[q1c.next0,q1c.round0,evz,Nat.reduceLT,h,hlk,hp',q23,c',hsub,hw,hof,Option.getD_some,q4l,heq,e,ho0,ho1,hw2];rw[q0l (by omega)];exact ih b _ (k+1) f hd' (by omega) hB' (hb.up (by omega)) (by omega)
     ·rw[if_neg e];simp only[q1c.next0,q1c.round0,evz,Nat.reduceLT,h,hlk,hp',q23,c',hsub,hw,hof,Option.getD_some,q4l,heq,e,ho0,Option.map_none,mT]
 exact loop pat ([],[]) p0 0 25 rfl (by omega) (Both.start hu hq hp0) (MB.nil l) (by omega)
end
section
variable {l:List Symbol}(ok:SigOk ⟨l⟩){rs:List Equation}(hr:∀e∈rs,EqOk l e)(hn:rs.length<=12)
include ok hr hn
omit hr hn in
theorem q6q{e:Equation}(he:EqOk l e){t:List Int}(ht:TermOk l t){p:Nat}(hp:p<t.length):Call F.q6q [.agg [slc l],.agg [slc e.left,slc e.right],slc t,.int .i64 p] (.agg (enc (q99 l e t p))):=by
 have hu:=q6s ht hp;have hm:=(q1w ok he.left hu).eq;rw[qnm he.left ht hp]at hm;refine q0s rfl 0 ((q6q.ev _ _ _ _ _ _).trans ?_);unfold q99;cases hmm:q6x l e.left t p with
 |none=>rw[hmm]at hm;simp only[evz,Nat.reduceLT,(q45 ok ht hp).eq,hm,mT];rfl
 |some b=>
  rw[hmm]at hm;have hb:=qce he.left ht hp hmm;have hbo:=hb.ok he.left.le;have hrl:=he.right.le;have hal:=q7b hbo e.right;simp only[evz,Nat.reduceLT,(q45 ok ht hp).eq,hm,mT,(q0i b.1 b.2 hbo e.right (by omega) (he.right.range ok)).eq,(q5t ok ht hp (q01 b.1 b.2 e.right) (by omega)).eq];have hfit:=(q7j (q35 l t p (q01 b.1 b.2 e.right))).eq;by_cases h24:24<(q35 l t p (q01 b.1 b.2 e.right)).length
  ·rw[if_pos h24]at hfit ⊢;simp only[evz,Nat.reduceLT,hfit,q39]
  ·rw[if_neg h24]at hfit ⊢;simp only[evz,Nat.reduceLT,hfit,q39]
omit hr hn in
theorem q6p{e:Equation}(he:EqOk l e){t:List Int}(ht:TermOk l t){p:Nat}(hp:p<t.length):Call F.q6p [.rref [slc l] 0,.rref [slc e.left,slc e.right] 0,.int .i64 p,slc t] (.tup [slc (q99 l e t p).term,.int .i64 (q99 l e t p).code]):=by
 have hm:=(q1c ok he.left ht hp).eq;refine q0s rfl 0 ((q6p.ev _ _ _ _ _ _).trans ?_);unfold q99;cases hmm:q6x l e.left t p with
 |none=>rw[hmm]at hm;simp only[evz,Nat.reduceLT,hm,mT];rfl
 |some b=>
  rw[hmm]at hm;have hb:=qce he.left ht hp hmm;have hbo:=hb.ok he.left.le;have hrl:=he.right.le;have hal:=q7b hbo e.right;simp only[evz,Nat.reduceLT,hm,mT,(q17 b.1 b.2 hbo e.right (by omega) (he.right.range ok)).eq,(q5b ok ht hp (q01 b.1 b.2 e.right) (by omega)).eq];by_cases h24:24<(q35 l t p (q01 b.1 b.2 e.right)).length
  ·have h24':((q35 l t p (q01 b.1 b.2 e.right)).length:Int)>24:=by omega
   rw[if_pos h24];simp only[evz,Nat.reduceLT,h24'];rfl
  ·have h24':¬((q35 l t p (q01 b.1 b.2 e.right)).length:Int)>24:=by omega
   rw[if_neg h24];simp only[evz,Nat.reduceLT,h24']
end
theorem q8n{l:List Symbol}{rs:List Equation}(h:q48 ⟨l⟩ rs=0):q2w ⟨l⟩=0/\SigOk ⟨l⟩/\rs.length<=12/\∀e∈rs,EqOk l e:=by
 unfold q48 at h;split at h
 ·rename_i h1;exact absurd h h1
 rename_i h1;have h1:q2w ⟨l⟩=0:=by simpa using h1
 unfold q8u at h;split at h
 ·rename_i h2;exact absurd h h2
 rename_i h2;obtain⟨q1,q2⟩:=q8m.1 (show q50 l rs=0 by simpa using h2);exact⟨h1,(q51 _).1 h1,q1,q2⟩
theorem qbh{l:List Symbol}{rs:List Equation}{t:List Int}(h:q5k ⟨l⟩ rs t=0):SigOk ⟨l⟩/\rs.length<=12/\(∀e∈rs,EqOk l e)/\TermOk l t:=by
 unfold q5k at h;split at h
 ·rename_i h1;exact absurd h h1
 rename_i h1;obtain⟨_,q1,q2,q3⟩:=q8n (l:=l) (rs:=rs) (by simpa using h1);exact⟨q1,q2,q3,(q8j _ _).1 h⟩
theorem q55(l:List Symbol)(hs:l.length<=4294967296)(rs:List Equation)(hr:sm 4294967296 rs)(t:List Int)(ht:t.length<=4294967296) :
 Call F.q55 [.agg [slc l],slc rs,slc t] (.int .i64 (q5k ⟨l⟩ rs t)):=by
 refine q0s rfl 0 ((q55.ev _ _ _ _).trans ?_);simp only[evz,Nat.reduceLT,(q4q l hs rs hr).eq,(q4p l hs t ht).eq,(qqj _ _).eq,q5k];by_cases h:q48 ⟨l⟩ rs=0
 ·have h0:=(q8n h).1;simp only[h,evz,Nat.reduceLT,ne_eq,gW,qde,h0]
 ·simp only[h,evz,Nat.reduceLT,ne_eq,gX]
theorem q8d(l:List Symbol)(hs:l.length<=4294967296)(rs:List Equation)(hr:sm 4294967296 rs)(t:List Int)(ht:t.length<=4294967296) :
 Call F.q8d [.rref [slc l] 0,slc rs,slc t] (.int .i64 (q5k ⟨l⟩ rs t)):=by
 refine q0s rfl 0 ((q8d.ev _ _ _ _).trans ?_);simp only[evz,Nat.reduceLT,(q4n l hs rs hr).eq,q5k];by_cases h:q48 ⟨l⟩ rs=0
 ·have h0:=(q8n h).2.1;simp only[h,evz,Nat.reduceLT,ne_eq,gW,(q1a l h0 t ht).eq]
 ·simp only[h,evz,Nat.reduceLT,ne_eq,gX]
theorem q4e(s:Signature)(rs:List Equation)(r p:Int)(t:List Int)(hs:sm 1048576 s)(hr:sm 1048576 rs)(ht:sm 1048576 t):Call F.q4e [.agg (enc s),slc rs,.int .i64 r,.int .i64 p,slc t] (.agg (enc (q43 s rs r p t))):=by
 obtain⟨l⟩:=s;have hsl:l.length<=4294967296:=Nat.le_trans hs.1 (by omega);have htl:t.length<=4294967296:=Nat.le_trans ht.1 (by omega);have hrl:rs.length<=4294967296:=Nat.le_trans hr.1 (by omega);show Call F.q4e [.agg [slc l],slc rs,.int .i64 r,.int .i64 p,slc t] _;refine q0s rfl 0 ((q4e.ev _ _ _ _ _ _).trans ?_);simp only[evz,Nat.reduceLT,(q55 l hsl rs (q2x (by omega) hr) t htl).eq,q43,q1v (x:=(rs.length:Int)-1) (by omega),q1v (x:=(t.length:Int)-1) (by omega),(q2y _ _ _).eq];by_cases h:q5k ⟨l⟩ rs t=0
 case neg=>simp only[h,evz,Nat.reduceLT,ne_eq,gX,q39,q4a]
 obtain⟨ok,q1,q2,q3⟩:=qbh h;cases h1:inR r 0 (rs.length-1)with
 |false=>simp only[h,evz,Nat.reduceLT,ne_eq,gW,Bool.not_false,true_or,q39,q4a]
 |true=>
  cases h2:inR p 0 (t.length-1)with
  |false=>simp only[h,evz,Nat.reduceLT,ne_eq,gW,Bool.not_true,Bool.not_false,or_true,q39,q4a]
  |true=>
   have hr1:=q5f.1 h1;have hp1:=q5f.1 h2;obtain⟨k,rfl⟩:∃k:Nat,r=k:=⟨r.toNat,by omega⟩;obtain⟨a,rfl⟩:∃a:Nat,p=a:=⟨p.toNat,by omega⟩;have hk:k<rs.length:=by omega
   have ha:a<t.length:=by omega
   have hlk:rs[k]?=some rs[k]:=gA hk;have he:=q2 _ (gG hk);have hrw:=(q6q ok he q3 ha).eq;rw[q39]at hrw;simp only[h,evz,Nat.reduceLT,ne_eq,gW,Bool.not_true,or_self,hk,hlk,q54,hrw,getE hk,q39,reduceCtorEq]
theorem q4d(s:Signature)(rs:List Equation)(r p:Int)(t:List Int)(hs:sm 1048576 s)(hr:sm 1048576 rs)(ht:sm 1048576 t):Call F.q4d [.agg (enc s),slc rs,.int .i64 r,.int .i64 p,slc t] (.agg (enc (q43 s rs r p t))):=by
 obtain⟨l⟩:=s;have hsl:l.length<=4294967296:=Nat.le_trans hs.1 (by omega);have htl:t.length<=4294967296:=Nat.le_trans ht.1 (by omega);have hrl:rs.length<=4294967296:=Nat.le_trans hr.1 (by omega);show Call F.q4d [.agg [slc l],slc rs,.int .i64 r,.int .i64 p,slc t] _;refine q0s rfl 0 ((q4d.ev _ _ _ _ _ _).trans ?_);simp only[evz,Nat.reduceLT,(q8d l hsl rs (q2x (by omega) hr) t htl).eq,q43,q1v (x:=(rs.length:Int)-1) (by omega),(q1b _ _ _).eq,(q6m t p htl).eq];by_cases h:q5k ⟨l⟩ rs t=0
 case neg=>simp only[h,evz,Nat.reduceLT,ne_eq,gX,q39,q4a]
 obtain⟨ok,q1,q2,q3⟩:=qbh h;cases h1:inR r 0 (rs.length-1)with
 |false=>simp only[h,evz,Nat.reduceLT,ne_eq,gW,Bool.not_false,true_or,q39,q4a]
 |true=>
  cases h2:inR p 0 (t.length-1)with
  |false=>simp only[h,evz,Nat.reduceLT,ne_eq,gW,Bool.not_true,Bool.not_false,or_true,q39,q4a]
  |true=>
   have hr1:=q5f.1 h1;have hp1:=q5f.1 h2;obtain⟨k,rfl⟩:∃k:Nat,r=k:=⟨r.toNat,by omega⟩;obtain⟨a,rfl⟩:∃a:Nat,p=a:=⟨p.toNat,by omega⟩;have hk:k<rs.length:=by omega
   have ha:a<t.length:=by omega
   have hlk:rs[k]?=some rs[k]:=gA hk;have he:=q2 _ (gG hk);have hrw:=(q6p ok he q3 ha).eq;have hwin:=q4v (k:=2) (i:=k) rfl hlk;simp only[h,evz,Nat.reduceLT,ne_eq,gW,Bool.not_true,or_self,hk,hwin,q54,hrw,getE hk,q39,reduceCtorEq]
theorem qfk(l:List Int):(cells l).all T.scalar=true:=by
 rw[<- q7l,gAL];intro x hx;obtain⟨n,_,rfl⟩:=List.mem_map.1 hx;rfl
theorem q30(l:List Int)(h:l.length<=4294967296):Call F.q30 [slc l] (slc l):=by
 refine q0s rfl 0 ((q30.ev _ _).trans ?_)
 have hb:Nat.ble ((0+(cells l).length)*8) (140737488355328*1)=true:=by
  rw[Nat.ble_eq,q0r,q3p];omega
 rw[qfk,hb];rfl
def eqOf(e:Entry):Equation:=⟨e.left,e.right⟩
theorem qam(e:Entry):Call F.q2d [.agg (enc e)] (.agg [slc e.left,slc e.right]):=q0s rfl 0 (q2d.ev _ _ _ _ _ _ _ _)
theorem q3c(e:Entry)(h:sm 4294967296 e):Call F.q3c [.rref (enc e) 0] (.agg [slc e.left,slc e.right]):=by
 refine q0s rfl 0 ((q3c.ev _ _ _ _ _ _ _ _).trans ?_);simp only[evz,Nat.reduceLT,(q30 e.left h.1.1).eq,(q30 e.right h.2.1).eq]
def q6v(l:List Symbol)(es:List Entry):Int:=
 if 500<es.length then 2 else(es.findSome? fun e=>if q2q l (eqOf e)≠0 then some (q2q l (eqOf e))else none).getD 0
theorem qup{l:List Symbol}{es:List Entry}(h:q6v l es=0):es.length<=500/\∀e∈es,EqOk l (eqOf e):=by
 unfold q6v at h;by_cases h1:500<es.length
 ·rw[if_pos h1]at h;cases h
 ·rw[if_neg h1]at h;refine⟨by omega,fun e he=>qe8.1 ?_⟩;cases hf:es.findSome? fun e=>if q2q l (eqOf e)≠0 then some (q2q l (eqOf e))else none with
  |none=>
   rw[q7t]at hf;have:=hf e he;by_cases h:q2q l (eqOf e)=0
   ·exact h
   ·simp[h]at this
  |some c=>
   rw[hf]at h;obtain⟨e',he',h2⟩:=List.exists_of_findSome?_eq_some hf;by_cases h3:q2q l (eqOf e')=0
   ·simp[h3]at h2
   ·simp[h3]at h2;subst h2;exact absurd h h3
theorem qmi{es:List Entry}{k:Nat}(he:sm 4294967296 es)(h:k<es.length):sm 4294967296 es[k]:=he.2 es[k] (gG h)
theorem q13(l:List Symbol)(hs:l.length<=4294967296)(es:List Entry)(he:sm 4294967296 es) :
 ∃c,Call F.q13 [.agg [slc l],slc es] (.int .i64 c)/\(q2w ⟨l⟩=0->c=q6v l es):=by
 by_cases h2:500<es.length
 ·refine⟨2,q0s rfl (es.length+1) ((q13.ev _ _ _).trans ?_),fun _=>by unfold q6v;rw[if_pos h2]⟩;have h2':(500:Int)<es.length:=by omega
  simp only[evz,Nat.reduceLT,gt_iff_lt,h2']
 have h2':¬(500:Int)<es.length:=by omega
 obtain⟨q,hq⟩:∃q:Entry->Int,q=fun e=>if q2w ⟨l⟩≠0 then q2w ⟨l⟩else q2q l (eqOf e):=⟨_,rfl⟩
 refine⟨(es.findSome? fun e=>if q e≠0 then some (q e)else none).getD 0,q0s rfl (es.length+1) ((q13.ev _ _ _).trans ?_),fun h=>?_⟩
 ·simp only[evz,Nat.reduceLT,gt_iff_lt,h2']
  refine(q82 (l:=es) (g:=fun e=>if q e≠0 then some (some (.int .i64 (q e),[]))else none) (z:=some (.int .i64 0,[])) (S:=fun m k=>q13.at0 (es.length+1) m (q13.st0 (cells es) es.length (k:Nat) (cells l)))
   (fun m k h=>?_) (fun m=>?_) (gAR _)).trans ?_
  ·have hlk:es[k]?=some es[k]:=gA h;have hsm:=qmi he h;have hc:=q46 l hs es[k].left es[k].right hsm.1.1 hsm.2.1;have hee:=qam es[k];rw[q40]at hee;rw[show(if q2w ⟨l⟩≠0 then q2w ⟨l⟩else q2q l ⟨es[k].left,es[k].right⟩)=q es[k] by rw[hq];rfl]at hc;simp only[q13.next0,q13.round0,evz,Nat.reduceLT,h,hlk,q40,hee.eq,hc.eq];rw[q0l (by omega)];by_cases e:q es[k]=0
   ·simp[e]
   ·simp[e]
  ·simp only[q13.next0,q13.round0,evz,Nat.reduceLT,gAK]
  ·have:=q6k (fun e=>if q e≠0 then some (q e)else none) (fun n=>(some (T.int .i64 n,[]):R)) es;rw[show(fun e=>(if q e≠0 then some (q e)else none).map fun n=>(some (T.int .i64 n,[]):R))=fun e=>if q e≠0 then some (some (T.int .i64 (q e),[]))else none from funext fun e=>by by_cases h:q e=0 <;> simp[h]]at this;rw[this];cases es.findSome? fun e=>if q e≠0 then some (q e)else none <;> rfl
 ·unfold q6v;rw[if_neg h2,hq];simp only[h,ne_eq,gW,if_false]
theorem q1p(l:List Symbol)(ok:SigOk ⟨l⟩)(es:List Entry)(he:sm 4294967296 es):Call F.q1p [.rref [slc l] 0,slc es] (.int .i64 (q6v l es)):=by
 refine q0s rfl (es.length+1) ((q1p.ev _ _ _).trans ?_);simp only[evz,Nat.reduceLT,q6v,gt_iff_lt];by_cases h2:500<es.length
 ·have h2':(500:Int)<es.length:=by omega
  simp only[h2,h2',evz,Nat.reduceLT]
 have h2':¬(500:Int)<es.length:=by omega
 simp only[h2,h2',evz,Nat.reduceLT]
 refine(q82 (l:=es) (g:=fun e=>if q2q l (eqOf e)≠0 then some (some (.int .i64 (q2q l (eqOf e)),[]))else none) (z:=some (.int .i64 0,[])) (S:=fun m k=>q1p.at0 (es.length+1) m (q1p.st0 (cells l) (cells es) (k:Nat)))
  (fun m k h=>?_) (fun m=>?_) (gAR _)).trans ?_
 ·have hlk:es[k]?=some es[k]:=gA h;have hsm:=qmi he h;have hc:Call F.q4w [.rref [slc l] 0,.rref [slc es[k].left,slc es[k].right] 0] (.int .i64 (q2q l (eqOf es[k]))):=q4w l ok es[k].left es[k].right hsm.1.1 hsm.2.1;simp only[q1p.next0,q1p.round0,evz,Nat.reduceLT,h,hlk,q4v qb5 hlk,(q3c es[k] hsm).eq,hc.eq];rw[q0l (by omega)];by_cases e:q2q l (eqOf es[k])=0
  ·simp[e]
  ·simp[e]
 ·simp only[q1p.next0,q1p.round0,evz,Nat.reduceLT,gAK]
 ·have:=q6k (fun e=>if q2q l (eqOf e)≠0 then some (q2q l (eqOf e))else none) (fun n=>(some (T.int .i64 n,[]):R)) es;rw[show(fun e=>(if q2q l (eqOf e)≠0 then some (q2q l (eqOf e))else none).map fun n=>(some (T.int .i64 n,[]):R))=fun e=>if q2q l (eqOf e)≠0 then some (some (T.int .i64 (q2q l (eqOf e)),[]))else none from funext fun e=>by by_cases h:q2q l (eqOf e)=0 <;> simp[h]]at this;rw[this];cases es.findSome? fun e=>if q2q l (eqOf e)≠0 then some (q2q l (eqOf e))else none <;> rfl
noncomputable def q7h(s:Signature)(a:Algebra)(es:List Entry):IntResult:=
 if q5u s a≠0 then⟨q5u s a,0⟩else if q6v s.symbols es≠0 then⟨q6v s.symbols es,0⟩else⟨0,if(!es.any fun e=>!q3o s.symbols a.size.toNat a.tables (eqOf e))=true then 1 else 0⟩
section
variable (l:List Symbol)(z:Int)(tb:List (List Int))(hs:l.length<=4294967296)(ht:sm 4294967296 tb)
include hs ht
theorem q42(es:List Entry)(he:sm 4294967296 es):Call F.q42 [.agg [slc l],.agg [.int .i64 z,slc tb],slc es] (.agg (enc (q7h ⟨l⟩ ⟨z,tb⟩ es))):=by
 obtain⟨c,hcall,hcode⟩:=q13 l hs es he;refine q0s rfl 0 ((q42.ev _ _ _ _ _).trans ?_);simp only[evz,Nat.reduceLT,(q11 l z tb hs ht).eq,hcall.eq,(q8q _ _).eq,q7h];by_cases h1:q5u ⟨l⟩ ⟨z,tb⟩=0
 case neg=>simp only[h1,evz,Nat.reduceLT,ne_eq,gX,q4h]
 have al:=qnx h1;have hc:=hcode (qf8 h1);subst hc;obtain⟨y,hy⟩:∃y:Nat,z=y:=⟨z.toNat,by have:=al.size;omega⟩;subst hy;simp only[h1,evz,Nat.reduceLT,ne_eq,gW];by_cases h2:q6v l es=0
 case neg=>simp only[h2,evz,Nat.reduceLT,gX,q4h]
 obtain⟨hlen,hok⟩:=qup h2
 have hi:Call F.q3l [slc es,.clo F.q3b [.rref [.int .i64 y,slc tb] 0,.rref [slc l] 0]] (.int .i64 (idx (fun e=>!q3o l y tb (eqOf e)) es)):=by
  refine q0s rfl (es.length+1) ((q09.ev _ _ _ _ _).trans ?_);simp only[evz,Nat.reduceLT];refine q84 (S:=fun m k=>q09.at0 (es.length+1) m (q09.st0 (cells es) y (cells tb) (cells l) es.length (k:Nat))) (fun m k h=>?_) (fun m=>?_) (gAR _)
  ·have hlk:es[k]?=some es[k]:=gA h;have ho:=hok es[k] (gG h);have hh:Call F.q08 [.agg [.int .i64 y,slc tb],.agg [slc l],.agg [slc es[k].left,slc es[k].right]] (.bool (q3o l y tb (eqOf es[k]))):=q08 al ho;have hee:=qam es[k];rw[q40]at hee
   have hc:Call F.q3b [.agg (enc es[k]),.rref [.int .i64 y,slc tb] 0,.rref [slc l] 0] (.bool (!q3o l y tb (eqOf es[k]))):=by
    refine q0s rfl 0 ((q3b.ev _ _ _ _ _ _ _ _ _ _ _).trans ?_);simp only[evz,Nat.reduceLT,hee.eq,hh.eq]
   rw[q40]at hc;simp only[q09.next0,q09.round0,evz,Nat.reduceLT,h,hlk,q40,hc.eq];rw[q0l (by omega)];cases q3o l y tb (eqOf es[k]) <;> rfl
  ·simp only[q09.next0,q09.round0,evz,Nat.reduceLT,gAK]
 have hc:Call F.q6a [slc es,.clo F.q3b [.rref [.int .i64 y,slc tb] 0,.rref [slc l] 0]] (.bool (es.any fun e=>!q3o l y tb (eqOf e))):=by
  refine q0s rfl 0 ((q6b.ev _ _ _ _ _).trans ?_);simp only[evz,Nat.reduceLT,hi.eq,q7o]
 simp only[h2,evz,Nat.reduceLT,gW,hc.eq,(q7u _).eq,q4h,gR]
theorem q16(es:List Entry)(he:sm 4294967296 es):Call F.q16 [.agg [slc l],.agg [.int .i64 z,slc tb],slc es] (.agg (enc (q7h ⟨l⟩ ⟨z,tb⟩ es))):=by
 refine q0s rfl (es.length+1) ((q16.ev _ _ _ _ _).trans ?_);simp only[evz,Nat.reduceLT,(q0c l z tb hs ht).eq,q7h];by_cases h1:q5u ⟨l⟩ ⟨z,tb⟩=0
 case neg=>simp only[h1,evz,Nat.reduceLT,ne_eq,gX,q4h]
 have al:=qnx h1;obtain⟨y,hy⟩:∃y:Nat,z=y:=⟨z.toNat,by have:=al.size;omega⟩;subst hy;simp only[h1,evz,Nat.reduceLT,ne_eq,gW,(q1p l al.sig es he).eq];by_cases h2:q6v l es=0
 case neg=>simp only[h2,evz,Nat.reduceLT,gX,q4h]
 obtain⟨hlen,hok⟩:=qup h2;simp only[h2,evz,Nat.reduceLT,gW];refine(q8s (l:=es) (p:=fun e=>!q3o l y tb (eqOf e)) (r:=some (.agg [.int .i64 0,.int .i64 0],[])) (z:=some (.agg [.int .i64 0,.int .i64 1],[])) (S:=fun m k=>q16.at0 (es.length+1) m (q16.st0 (cells es) (k:Nat) (cells l) y (cells tb) 0 0)) (fun m k h=>?_) (fun m=>?_) (gAR _)).trans ?_
 ·have hlk:es[k]?=some es[k]:=gA h;have ho:=hok es[k] (gG h);have hh:Call F.q0m [.rref [slc l] 0,.rref [.int .i64 y,slc tb] 0,.rref [slc es[k].left,slc es[k].right] 0] (.bool (q3o l y tb (eqOf es[k]))):=q0m al ho;simp only[q16.next0,q16.round0,evz,Nat.reduceLT,h,hlk,q4v qb5 hlk,(q3c es[k] (qmi he h)).eq,hh.eq];rw[q0l (by omega)];cases q3o l y tb (eqOf es[k]) <;> rfl
 ·simp only[q16.next0,q16.round0,evz,Nat.reduceLT,gAK]
 ·simp only[q4h,gR];by_cases hb:(es.any fun e=>!q3o l y tb (eqOf e))=true
  ·simp only[hb,if_true,Bool.not_true,Bool.false_eq_true,if_false]
  ·have hb':=Bool.eq_false_iff.2 hb;simp only[hb',if_true,Bool.not_false,Bool.false_eq_true,if_false]
end
section
variable {l:List Symbol}{o:List Int}(ok:SigOk ⟨l⟩)(hol:o.length<=1048576)(ho:∀n:Int,0<=n->n<l.length->n∈o)
include ok hol ho
end
end Ev.Ty
end
section
namespace Ev.Ty
section
variable {α:Type}{lt:α->α->Bool}{S:α->Prop}
variable (h1:∀a b c,S a->S b->S c->lt a b=true->lt b c=true->lt a c=true)(h2:∀a b c,S a->S b->S c->lt a b=true->lt c b=false->lt a c=true)(h3:∀a b,S a->S b->lt a b=true->lt b a=false)
include h1 h2 h3
variable (h4:∀a b,S a->S b->a=b\/lt a b=true\/lt b a=true)
include h4
end
end Ev.Ty
end
section
namespace Ev.Ty
open Go Ev
open Enc (enc)
open Sm (sm)
set_option maxHeartbeats 1000000
section
variable {l:List Symbol}{o:List Int}(ok:SigOk ⟨l⟩)(hol:o.length<=1048576)(ho:∀n:Int,0<=n->n<l.length->n∈o)
include ok hol ho
end
section
variable {l:List Symbol}{o:List Int}(ok:SigOk ⟨l⟩)(hol:o.length<=1048576)(ho:∀n:Int,0<=n->n<l.length->n∈o)
include ok hol ho
end
end Ev.Ty
end
section
namespace Ev.Ty
open Go Ev
open Tm
theorem qte{r:Int->Int}{a:Int->Nat}:∀(x:Tm)(q:Nat),x.ok a->q<x.flat.length->∃(y:Tm)(C:Tm->Tm),y.ok a/\(∃rest,x.flat.drop q=y.flat++rest)/\
 (∀u:Tm,u.ok a->(C u).ok a/\(C u).flat=x.flat.take q++u.flat++x.flat.drop (q+y.flat.length))/\∀u v:Tm,G r u v->G r (C u) (C v):=by
 have here:∀x:Tm,x.ok a->∃(y:Tm)(C:Tm->Tm),y.ok a/\(∃rest,x.flat.drop 0=y.flat++rest)/\
  (∀u:Tm,u.ok a->(C u).ok a/\(C u).flat=x.flat.take 0++u.flat++x.flat.drop (0+y.flat.length))/\∀u v:Tm,G r u v->G r (C u) (C v):=fun x hx=>
  ⟨x,id,hx,⟨[],by simp⟩,fun u hu=>⟨hu,by simp⟩,fun u v h=>h⟩
 intro x;induction x with
 |v n=>intro q hx hq;have:q=0:=by simp[Tm.flat]at hq;omega
       subst this;exact here _ hx
 |k n=>intro q hx hq;have:q=0:=by simp[Tm.flat]at hq;omega
       subst this;exact here _ hx
 |u n x ih=>
  intro q hx hq
  match q,hq with
  |0,_=>exact here _ hx
  |q+1,hq=>
   obtain⟨y,C,h1,⟨rest,h2⟩,h3,h4⟩:=ih q hx.2.2 (by simp only[Tm.flat,gAB]at hq;omega);refine⟨y,fun w=>.u n (C w),h1,⟨rest,h2⟩,fun w hw=>⟨⟨hx.1,hx.2.1,(h3 w hw).1⟩,?_⟩,fun w v h=>G.ctx (s:=.u n (C w)) (t:=.u n (C v)) (A:=[]) (B:=[]) hx.1 rfl rfl rfl (h4 w v h)⟩;show n::(C w).flat=(n::x.flat).take (q+1)++w.flat++(n::x.flat).drop (q+1+y.flat.length);rw[(h3 w hw).2,Nat.add_right_comm];rfl
 |b n x z ihx ihz=>
  intro q hx hq
  match q,hq with
  |0,_=>exact here _ hx
  |q+1,hq=>
   simp only[Tm.flat,gAB,gM]at hq;by_cases hl:q<x.flat.length
   ·obtain⟨y,C,h1,⟨rest,h2⟩,h3,h4⟩:=ihx q hx.2.2.1 hl
    have hy:q+y.flat.length<=x.flat.length:=by
     have:=congrArg List.length h2;rw[gAA,gM]at this;have:=y.flat_pos;omega
    refine⟨y,fun w=>.b n (C w) z,h1,⟨rest++z.flat,?_⟩,fun w hw=>⟨⟨hx.1,hx.2.1,(h3 w hw).1,hx.2.2.2⟩,?_⟩,fun w v h=>G.ctx (s:=.b n (C w) z) (t:=.b n (C v) z) (A:=[]) (B:=[z]) hx.1 rfl rfl rfl (h4 w v h)⟩
    ·show(x.flat++z.flat).drop q=_;rw[List.drop_append_of_le_length (by omega),h2,gZ]
    ·show n::((C w).flat++z.flat)=(n::(x.flat++z.flat)).take (q+1)++w.flat++(n::(x.flat++z.flat)).drop (q+1+y.flat.length);rw[(h3 w hw).2,Nat.add_right_comm];show n::(x.flat.take q++w.flat++x.flat.drop (q+y.flat.length)++z.flat)=n::((x.flat++z.flat).take q++w.flat++(x.flat++z.flat).drop (q+y.flat.length));rw[List.take_append_of_le_length (by omega),List.drop_append_of_le_length hy];simp
   ·obtain⟨y,C,h1,⟨rest,h2⟩,h3,h4⟩:=ihz (q-x.flat.length) hx.2.2.2 (by omega);refine⟨y,fun w=>.b n x (C w),h1,⟨rest,?_⟩,fun w hw=>⟨⟨hx.1,hx.2.1,hx.2.2.1,(h3 w hw).1⟩,?_⟩,fun w v h=>G.ctx (s:=.b n x (C w)) (t:=.b n x (C v)) (A:=[x]) (B:=[]) hx.1 rfl rfl rfl (h4 w v h)⟩
    ·show(x.flat++z.flat).drop q=_;rw[List.drop_append,List.drop_eq_nil_of_le (by omega),h2];rfl
    ·show n::(x.flat++(C w).flat)=(n::(x.flat++z.flat)).take (q+1)++w.flat++(n::(x.flat++z.flat)).drop (q+1+y.flat.length);rw[(h3 w hw).2,Nat.add_right_comm];show n::(x.flat++(z.flat.take (q-x.flat.length)++w.flat++z.flat.drop (q-x.flat.length+y.flat.length)))=n::((x.flat++z.flat).take q++w.flat++(x.flat++z.flat).drop (q+y.flat.length));rw[List.take_append,List.drop_append,List.take_of_length_le (by omega:x.flat.length<=q),List.drop_eq_nil_of_le (by omega:x.flat.length<=q+y.flat.length),show q+y.flat.length-x.flat.length=q-x.flat.length+y.flat.length by omega];simp
section
variable {l:List Symbol}(ok:SigOk ⟨l⟩){o:List Int}(ho:∀n:Int,0<=n->n<l.length->n∈o)
noncomputable def qps(l:List Symbol)(t:List Int):Tm:=open Classical in if h:∃x:Tm,x.ok (ar l)/\t=x.flat then h.choose else .v (-1)
noncomputable def subB(l:List Symbol)(vs:List Int)(ts:List (List Int))(n:Int):Tm:=match q3i vs ts (-1-n)with|some t=>qps l t|none=>.v n
include ok
theorem qkh{t:List Int}(h:TermOk l t):(qps l t).ok (ar l)/\t=(qps l t).flat:=by
 have e:∃x:Tm,x.ok (ar l)/\t=x.flat:=h.tree ok;unfold qps;rw[dif_pos e];exact e.choose_spec
theorem qog{vs:List Int}{ts:List (List Int)}(h:BindOk vs ts/\∀t∈ts,TermOk l t)(n:Int)(hn:n<0):(subB l vs ts n).ok (ar l):=by
 unfold subB;cases e:q3i vs ts (-1-n)with
 |none=>exact hn
 |some t=>exact(qkh ok (h.2 t (q52 e))).1
theorem q8l{vs:List Int}{ts:List (List Int)}(h:BindOk vs ts/\∀t∈ts,TermOk l t):∀x:Tm,x.ok (ar l)->q01 vs ts x.flat=(x.inst (subB l vs ts)).flat:=by
 have hb:=h;have one:∀n:Int,0<=n->(q3i vs ts (-1-n)).getD [n]=[n]:=fun n hn=>by rw[qal hb.1 (by omega)];rfl
 intro x;induction x with
 |v n=>
  intro _;show[n].flatMap _=(subB l vs ts n).flat
  rw[gAN,List.flatMap_nil,gAD];unfold subB;cases e:q3i vs ts (-1-n)with
  |none=>rfl
  |some t=>exact(qkh ok (hb.2 t (q52 e))).2
 |k n=>
  intro hx;show[n].flatMap _=[n];rw[gAN,List.flatMap_nil,gAD,one n hx.1]
 |u n x ih=>
  intro hx;show(n::x.flat).flatMap _=n::(x.inst (subB l vs ts)).flat
  rw[gAN,one n hx.1,<- ih hx.2.2];rfl
 |b n x y ihx ihy=>
  intro hx;show(n::(x.flat++y.flat)).flatMap _=n::((x.inst (subB l vs ts)).flat++(y.inst (subB l vs ts)).flat);rw[gAN,one n hx.1,<- ihx hx.2.2.1,<- ihy hx.2.2.2,List.flatMap_append];rfl
omit ok in
theorem qh7{t:List Int}{x:Tm}(hx:x.ok (ar l))(e:t=x.flat)(hn:∀n∈t,q5w l n=true)(hl:t.length<=24):TermOk l t:=by
 refine⟨?_,hl,hn,?_⟩
 ·rw[e];exact x.flat_pos
 ·have:=Tm.skip_flat (a:=ar l) (fun n hn=>qa1 l hn) x [] 0 hx;rw[e];rwa[gAD]at this
theorem applied_ok{vs:List Int}{ts:List (List Int)}(h:BindOk vs ts/\∀t∈ts,TermOk l t){a:List Int}(ha:TermOk l a)(hl:(q01 vs ts a).length<=24):TermOk l (q01 vs ts a):=by
 obtain⟨x,hx,e⟩:=ha.tree ok;refine qh7 (inst_ok (qog ok h) hx) (by rw[e];exact q8l ok h x hx) (fun n hn=>?_) hl;obtain⟨m,hm,hn⟩:=List.mem_flatMap.1 hn;cases eb:q3i vs ts (-1-m)with
 |none=>rw[eb]at hn;rw[gD.1 hn];exact ha.node m hm
 |some t=>rw[eb]at hn;exact(h.2 t (q52 eb)).node n hn
theorem qsb{t u:List Int}(ht:TermOk l t)(hu:TermOk l u){p:Nat}(hp:p<t.length)(hl:(q35 l t p u).length<=24):TermOk l (q35 l t p u):=by
 obtain⟨x,hx,ex⟩:=ht.tree ok;obtain⟨xu,hxu,exu⟩:=hu.tree ok;obtain⟨y,C,h1,⟨rest,h2⟩,h3,_⟩:=qte (r:=fun n=>n) x p hx (by rw[<- ex];exact hp);have hat:At l t p y:=⟨h1,rest,by rw[ex];exact h2⟩;have he:=hat.facts.2.2.1;have e:q35 l t p u=(C xu).flat:=by unfold q35;rw[(h3 xu hxu).2,he,ex,exu]
 refine qh7 (h3 xu hxu).1 e (fun n hn=>?_) hl;unfold q35 at hn;rcases gO.1 hn with hn|hn
 ·rcases gO.1 hn with hn|hn
  ·exact ht.node n (List.mem_of_mem_take hn)
  ·exact hu.node n hn
 ·exact ht.node n (List.mem_of_mem_drop hn)
include ho
end
end Ev.Ty
end
section
namespace Ev.Ty
open Go Ev
theorem qcv(x:Int)(vs:List Int)(t:List Int)(ts:List (List Int))(v:Int):q3i (x::vs) (t::ts) v=if x=v then some t else q3i vs ts v:=by
 unfold q3i idx;rw[List.findIdx?_cons];by_cases h:x=v
 ·simp[h]
 ·simp only[h,decide_false,Bool.false_eq_true,if_false];cases e:vs.findIdx? (fun y=>decide (y=v))with
  |none=>simp
  |some i=>
   have h1:¬((i+1:Nat):Int)<0:=by omega
   have h2:¬((i:Nat):Int)<0:=by omega
   simp only[Option.map_some,h1,h2,if_false,gR,List.getElem?_cons_succ]
theorem qig{v:Int}{t:List Int}(w:Int):∀(i:Nat)(vs:List Int)(ts:List (List Int)),vs.length=ts.length->i<=vs.length->v∉vs->q3i (ins vs i v) (ins ts i t) w=if v=w then some t else q3i vs ts w
 |0,vs,ts,_,_,_=>qcv v vs t ts w
 |i+1,[],ts,_,hi,_=>by simp at hi
 |i+1,x::vs,[],hl,_,_=>by simp at hl
 |i+1,x::vs,y::ts,hl,hi,hv=>by
  have hx:¬ v=x:=fun e=>hv (by rw[e];exact List.mem_cons_self ..);have ih:=qig (t:=t) w i vs ts (by simpa using hl) (by simpa using hi) (fun h=>hv (gF _ h));show q3i (x::ins vs i v) (y::ins ts i t) w=_;rw[qcv,qcv,ih];by_cases h:x=w
  ·rw[if_pos h,if_pos h,if_neg (fun e=>hx (by rw[e,h]))]
  ·rw[if_neg h,if_neg h]
theorem qj3{b:Bnd}{v:Int}{t:List Int}(hl:b.1.length=b.2.length)(hv:v∉b.1)(w:Int):q3i (bput b v t).1 (bput b v t).2 w=if v=w then some t else q3i b.1 b.2 w:=
 qig w _ _ _ hl (qe4 b.1 v) hv
theorem qi9{vs:List Int}{ts:List (List Int)}(hl:vs.length=ts.length){v:Int}(h:q3i vs ts v=none):v∉vs:=qd3 hl h
theorem qe7{l:List Symbol}{t:List Int}(ht:TermOk l t){r:List Int}:∀(q:List Int)(b:Bnd)(p k:Nat),Both l t q p r->p<=t.length->MB l b k->k+q.length<=24->(∀n∈q,q5w l n=true)->∀x,mgo l t q b p=some x->
 p<=x.2/\x.2<=t.length/\(∃k',MB l x.1 k'/\k'<=24)/\(∀v o,q3i b.1 b.2 v=some o->q3i x.1.1 x.1.2 v=some o)/\q01 x.1.1 x.1.2 q=(t.drop p).take (x.2-p)/\∀n∈q,n<0->∃o,q3i x.1.1 x.1.2 (-1-n)=some o
 |[],b,p,k,h,hp,hb,hk,hq,x,hx=>by
  cases hx;exact⟨gAI _,hp,⟨k,hb,by simpa using hk⟩,fun _ _ h=>h,by simp[q01],fun n hn=>by cases hn⟩
 |n::q,b,p,k,h,hp,hb,hk,hq,x,hx=>by
  have hlt:=h.lt;obtain⟨h6,h7,_⟩:=q4g ht hlt;obtain⟨s1,hs,_⟩:=q5h ht hlt;rw[mgo,if_neg (by omega)]at hx;rw[gAB]at hk;have hnode:=q4j.1 (hq n (by simp));have hq':∀n∈q,q5w l n=true:=fun n hn=>hq n (gF _ hn);by_cases hn:0<=n
  ·rw[if_pos hn]at hx;split at hx
   ·rename_i e;obtain⟨a1,a2,⟨k',mb,hk'⟩,a3,a4,a5⟩:=qe7 ht q b (p+1) (k+1) (h.node e) (by omega) (hb.up (by omega)) (by omega) hq' x hx;refine⟨by omega,a2,⟨k',mb,hk'⟩,a3,?_,fun m hm h0=>?_⟩
    ·show(n::q).flatMap _=_;have e1:(q3i x.1.1 x.1.2 (-1-n)).getD [n]=[n]:=by rw[qal (mb.ok hk') (by omega)];rfl
     have e2:t.drop p=n::t.drop (p+1):=by
      rw[gH hlt];rw[gI,gA hlt]at e;have e:t[p]=n:=e;rw[e]
     rw[gAN,e1,e2,show x.2-p=(x.2-(p+1))+1 by omega,List.take_succ_cons,<- a4];rfl
    ·rcases gK.1 hm with rfl|hm
     ·omega
     ·exact a5 m hm h0
   ·cases hx
  ·rw[if_neg hn]at hx
   have glue:∀z:Bnd×Nat,p+(q2v l t p).length<=z.2->z.2<=t.length->q3i z.1.1 z.1.2 (-1-n)=some (q2v l t p)->q01 z.1.1 z.1.2 q=(t.drop (p+(q2v l t p).length)).take (z.2-(p+(q2v l t p).length))->q01 z.1.1 z.1.2 (n::q)=(t.drop p).take (z.2-p):=fun z g1 gt g2 g3=>by
    show(n::q).flatMap _=_;rw[gAN,g2];show q2v l t p++q01 z.1.1 z.1.2 q=_;have ee:t.drop p=q2v l t p++t.drop (p+(q2v l t p).length):=by rw[hs,show p+(q5l l t p-p)=q5l l t p by omega];exact s1
    rw[ee,List.take_append,List.take_of_length_le (by omega:(q2v l t p).length<=z.2-p),show z.2-p-(q2v l t p).length=z.2-(p+(q2v l t p).length) by omega,<- g3]
   split at hx
   ·rename_i hnone;obtain⟨a1,a2,⟨k',mb,hk'⟩,a3,a4,a5⟩:=qe7 ht q _ _ (k+1) (h.var ht (by omega)) (by omega) (hb.put (v := -1-n) (by omega) (q6s ht hlt)) (by omega) hq' x hx;have hput:=fun w=>qj3 (t:=q2v l t p) hb.len (qi9 hb.len hnone) w;have here:=a3 (-1-n) (q2v l t p) (by rw[hput,if_pos rfl]);refine⟨by omega,a2,⟨k',mb,hk'⟩,fun v o hv=>a3 v o ?_,glue x a1 a2 here a4,fun m hm h0=>?_⟩
    ·rw[hput,if_neg (fun e=>by rw[<- e,hnone]at hv;cases hv)];exact hv
    ·rcases gK.1 hm with rfl|hm
     ·exact⟨_,here⟩
     ·exact a5 m hm h0
   ·rename_i o ho;split at hx
    ·rename_i e;obtain⟨a1,a2,⟨k',mb,hk'⟩,a3,a4,a5⟩:=qe7 ht q b _ (k+1) (h.var ht (by omega)) (by omega) (hb.up (by omega)) (by omega) hq' x hx;have here:=a3 (-1-n) o ho;rw[e]at here;refine⟨by omega,a2,⟨k',mb,hk'⟩,a3,glue x a1 a2 here a4,fun m hm h0=>?_⟩;rcases gK.1 hm with rfl|hm
     ·exact⟨_,here⟩
     ·exact a5 m hm h0
    ·cases hx
theorem qhf{l:List Symbol}{q t:List Int}(hq:TermOk l q)(ht:TermOk l t){p:Nat}(hp:p<t.length){b:Bnd}(h:q6x l q t p=some b) :
 q01 b.1 b.2 q=q2v l t p/\∀n∈q,n<0->∃o,q3i b.1 b.2 (-1-n)=some o:=by
 unfold q6x at h;rw[gP]at h;obtain⟨x,hx,rfl⟩:=h;have hB:=Both.start ht hq hp;obtain⟨e1,e2,_⟩:=qem ht q ([],[]) p 0 hB (by omega) (MB.nil l) (by have:=hq.le;omega) hq.node x hx;obtain⟨a1,a2,_,_,a4,a5⟩:=qe7 ht q ([],[]) p 0 hB (by omega) (MB.nil l) (by have:=hq.le;omega) hq.node x hx;obtain⟨h6,h7,_⟩:=q4g ht hp
 have he:x.2=q5l l t p:=by
  have:=congrArg List.length e1;rw[gAA,gAA]at this;omega
 refine⟨?_,a5⟩;rw[a4,he];unfold q2v;rw[List.drop_take]
theorem qcr{l:List Symbol}{t:List Int}(ht:TermOk l t){p:Nat}(hp:p<t.length):q35 l t p (q2v l t p)=t:=by
 unfold q35;rw[gZ,<- (q5h ht hp).1,List.take_append_drop]
end Ev.Ty
end
section
namespace Ev.Ty
open Go Ev
section
variable {l:List Symbol}{rs:List Equation}
variable (hr:∀e∈rs,EqOk l e)
include hr
end
section
variable {l:List Symbol}{rs:List Equation}
end
end Ev.Ty
end
section
namespace Ev.Ty
open Go Ev
open Enc (enc)
open Sm (sm)
def rise(n:Nat):List Int:=(List.range n).map fun(i:Nat)=>(i:Int)
theorem qnn(n:Nat):(rise n).length=n:=by simp[rise]
def lcg(s:Int):Int:=(227*s+1) % 65521
theorem qr6(s:Int):0<=lcg s/\lcg s<=65520:=by unfold lcg;omega
theorem qxa{s:Int}(h:0<=s/\s<=65520):Int.tmod (IntKind.wrap .i64 (IntKind.wrap .i64 (227*s)+1)) 65521=lcg s:=by
 rw[q1v (x:=227*s) (by omega),q1v (by omega),Int.tmod_eq_emod_of_nonneg (by omega)];rfl
def qdo(z:Int):Nat->Int->List Int->Int×List Int
 |0,s,t=>(s,t)
 |n+1,s,t=>qdo z n (lcg s) (t++[lcg s % z])
theorem qji(z:Int):∀n s t,0<=s/\s<=65520->(0<=(qdo z n s t).1/\(qdo z n s t).1<=65520)/\(qdo z n s t).2.length=t.length+n
 |0,s,t,h=>⟨h,rfl⟩
 |n+1,s,t,h=>by
  have:=qji z n (lcg s) (t++[lcg s % z]) (qr6 s);refine⟨this.1,this.2.trans ?_⟩;simp;omega
theorem qqu{z:Int}{c:Nat}{S:Nat->Nat->Int->List Int->R}{y:Int->List Int->R}
 (step:∀m j s t,j<c->0<=s/\s<=65520->t.length=j->S (m+1) j s t=S m (j+1) (lcg s) (t++[lcg s % z]))
 (stop:∀m s t,0<=s/\s<=65520->t.length=c->S (m+1) c s t=y s t) {f:Nat} (hf:c<f) (s:Int) (hs:0<=s/\s<=65520) :
 S f 0 s []=y (qdo z c s []).1 (qdo z c s []).2:=by
 have:∀n m j s t,j+n=c->n<m->0<=s/\s<=65520->t.length=j->S m j s t=y (qdo z n s t).1 (qdo z n s t).2:=by
  intro n;induction n with
  |zero=>intro m j s t hj hm hs ht
         obtain⟨m,rfl⟩:∃q,m=q+1:=⟨m-1,by omega⟩;obtain rfl:j=c:=by omega
         exact stop m s t hs ht
  |succ n ih=>
   intro m j s t hj hm hs ht;obtain⟨m,rfl⟩:∃q,m=q+1:=⟨m-1,by omega⟩;rw[step m j s t (by omega) hs ht];exact ih m (j+1) _ _ (by omega) (by omega) (qr6 s) (by simp[ht])
 exact this c f 0 s [] (by omega) hf hs rfl
def qby(z:Nat)(p:Int×List (List Int))(x:Symbol):Int×List (List Int):=((qdo z (z ^ x.arity.toNat) p.1 []).1,p.2++[(qdo z (z ^ x.arity.toNat) p.1 []).2])
def q6t(s:Signature)(z seed:Int):AlgebraResult:=
 if q2w s=0 then if inR z 1 3=true/\inR seed 0 65520=true then⟨0,⟨z,(s.symbols.foldl (qby z.toNat) (seed,[])).2⟩⟩else⟨3,⟨0,[]⟩⟩else⟨q2w s,⟨0,[]⟩⟩
def tabI(k:Nat)(p:Int×List (List Int)):Prop:=(0<=p.1/\p.1<=65520)/\p.2.length=k/\∀t∈p.2,t.length<=9
theorem qol{z r:Nat}(hz:z<=3)(hr:r<=2):z ^ r<=9:=Nat.le_trans (Nat.pow_le_pow_left hz r) (Nat.le_trans (Nat.pow_le_pow_right (by omega) hr) (by decide))
theorem qlu{z:Nat}(hz:z<=3){x:Symbol}(hx:0<=x.arity/\x.arity<=2){k:Nat}{p:Int×List (List Int)}(h:tabI k p):tabI (k+1) (qby z p x):=by
 obtain⟨h1,h2,h3⟩:=h;have hd:=qji z (z ^ x.arity.toNat) p.1 [] h1;have h9:=qol (r:=x.arity.toNat) hz (by omega);refine⟨hd.1,by simp[qby,h2],fun t ht=>?_⟩;rcases gO.1 ht with h|h
 ·exact h3 t h
 ·rw[gD]at h;subst h;rw[hd.2];simp;omega
theorem qm6{seed:Int}(h:0<=seed/\seed<=65520):tabI 0 (seed,[]):=⟨h,rfl,by simp⟩
theorem qe1(s:Signature)(z seed:Int)(hs:sm 1048576 s):sm 67108864 (q6t s z seed):=by
 unfold q6t;have h:=hs.1;split
 ·rename_i h0;split
  ·rename_i h1;have hz:=q5f.1 h1.1;have hz3:z.toNat<=3:=by omega
   have hi:=qp9 (l:=s.symbols) (g:=qby z.toNat) tabI (fun k p hk hp=>qlu hz3 (((q51 s).1 h0).arity _ (gG hk)) hp) (seed,[]) (qm6 (q5f.1 h1.2));exact⟨Nat.le_trans (Nat.le_of_eq hi.2.1) (by omega),fun t ht=>⟨by have:=hi.2.2 t ht;omega,fun _ _=>trivial⟩⟩
  ·exact⟨by simp,by simp⟩
 ·exact⟨by simp,by simp⟩
theorem q0o(l:List Symbol)(ok:SigOk ⟨l⟩)(z:Nat)(seed:Int)(hz:1<=z/\z<=3)(hseed:0<=seed/\seed<=65520) :
 Call F.q0o [.rref [slc l] 0,.int .i64 z,.int .i64 seed] (.agg [.int .i64 z,slc (l.foldl (qby z) (seed,[])).2]):=by
 refine q0s rfl (l.length+10) ((q0o.ev _ _ _ _).trans ?_);have hle:l.length<=6:=ok.le;have hz3:z<=3:=hz.2;show q0o.at0 (l.length+10) (l.length+10) (q0o.st0 (cells l) z seed 0 0 z [])=_;have key:=qgz (l:=l) (f:=l.length+10) (S:=fun m k (p:Int×List (List Int))=>q0o.at0 (l.length+10) m (q0o.st0 (cells l) z p.1 (k:Nat) 0 z (cells p.2))) (g:=qby z) (z:=fun(p:Int×List (List Int))=>some (.agg [.int .i64 z,slc p.2],[])) tabI (fun m k p h hp=>?_) (fun k p h hp=>qlu hz3 (ok.arity _ (gG h)) hp) (fun m p hp=>?_) (seed,[]) (qm6 hseed) (by omega)
 ·exact key
 ·have hx:=ok.arity _ (gG h);have h9:=qol (z:=z) (r:=l[k].arity.toNat) (by omega) (by omega);have hpw:=(q4t z l[k].arity.toNat (by omega) (by omega)).eq;rw[Int.toNat_of_nonneg hx.1]at hpw;simp only[q0o.next0,q0o.round0,evz,Nat.reduceLT,h,gA,q2t,hpw]
  refine(qqu (z:=z) (c:=z ^ l[k].arity.toNat) (S:=fun m' j s t=>q0o.at2 (l.length+10) (q0o.at0 (l.length+10) m) m' (q0o.st2 (cells l) z s (k:Nat) (((z ^ l[k].arity.toNat:Nat):Int)-(j:Nat)) 0 z (cells p.2) (cells t)))
   (y:=fun s t=>q0o.at0 (l.length+10) m (q0o.st0 (cells l) z s ((k+1:Nat):Int) 0 z (cells (p.2++[t])))) (fun m' j s t hj hs ht=>?_) (fun m' s t hs ht=>?_) (by omega) p.1 hp.1)
  ·have hz0:¬((z:Int)=0):=by omega
   have hj0:((z ^ l[k].arity.toNat:Nat):Int)-(j:Nat)>0:=by omega
   have hj1:IntKind.wrap .i64 (((z ^ l[k].arity.toNat:Nat):Int)-(j:Nat)-1)=((z ^ l[k].arity.toNat:Nat):Int)-((j+1:Nat):Int):=by rw[q1v (by omega)];omega
   simp only[q0o.next2,q0o.round2,evz,Nat.reduceLT,hj0,hj1,hz0,qxa hs,q0r,ht];rw[q22 (q4k (by omega)),Int.tmod_eq_emod_of_nonneg (qr6 s).1,q2s]
  ·have:=hp.2.1;have hj0:¬(((z ^ l[k].arity.toNat:Nat):Int)-((z ^ l[k].arity.toNat:Nat):Int)>0):=by omega
   simp only[q0o.next2,q0o.round2,evz,Nat.reduceLT,hj0,q0r,hp.2.1];rw[q22 (q4k (by omega)),q7k,q0l (by omega)]
 ·simp only[q0o.next0,q0o.round0,evz,Nat.reduceLT,gAK]
theorem q5d(s:Signature)(z seed:Int)(hs:sm 1048576 s):Call F.q5d [.agg [slc s.symbols],.int .i64 z,.int .i64 seed] (.agg (enc (q6t s z seed))):=by
 obtain⟨l⟩:=s;have hl:l.length<=1048576:=hs.1;refine q0s rfl 0 ((q5d.ev _ _ _ _).trans ?_);simp only[evz,Nat.reduceLT,(q00 l (by omega)).eq,(q1b _ _ _).eq,q6t];by_cases h0:q2w ⟨l⟩=0
 case neg=>simp only[h0,evz,Nat.reduceLT,q60,q4a,Bool.not_false]
 simp only[h0,evz,Nat.reduceLT,Bool.not_true];cases h1:inR z 1 3 with
 |false=>simp only[evz,Nat.reduceLT,q60,q4a,Bool.not_false,false_and,Bool.false_eq_true]
 |true=>
  cases h2:inR seed 0 65520 with
  |false=>simp only[evz,Nat.reduceLT,q60,q4a,Bool.not_false,and_false,Bool.false_eq_true,Bool.not_true]
  |true=>
   have hz:=q5f.1 h1;have hseed:=q5f.1 h2;obtain⟨z,rfl⟩:∃n:Nat,z=n:=⟨z.toNat,by omega⟩;have ok:=(q51 _).1 h0;simp only[evz,Nat.reduceLT,Bool.not_true,and_self,(q0o l ok z seed (by omega) hseed).eq,q60]
end Ev.Ty
end
