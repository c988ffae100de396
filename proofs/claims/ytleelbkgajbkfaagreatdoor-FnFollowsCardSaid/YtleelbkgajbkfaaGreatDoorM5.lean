/- Steps on the way to RowFollows: TySig, TyAlg, TyTerm, TyTree, TyEval, TyEvalF, TyEvalT, TyVars, TyEqs, TyRules, TyHolds, TyAllHold, TySame, TyBind, TyCmp, TyWalk, TyMatchP, TySortP, TyLpoP, TyLpo, TyLpoS, TyPartP, TyPigeon, TyOrd, TyNormP, TyMatch, TyNorm, TyNormL, TyHasVar, TyEntries, TySortT, TySortQ, TyGreat, TyStabP, TySoundP, TyRedexP, TyAlgOf, TySemP. -/
import Derived.Test.YtleelbkgajbkfaaGreatDoorM4
import Derived.Lib.SlTrimSet
set_option linter.unusedSectionVars false
set_option linter.unusedVariables false
set_option linter.unusedSimpArgs false
section
namespace Ev.Ty
open Go Ev
open Enc (enc)
open Sm (sm)
def qa2(b:UInt8):Bool:=decide (97<=b.toNat/\b.toNat<=122)
def qbw(s:ByteArray):Bool:=decide (1<=s.size/\s.size<=3)&&s.data.toList.all qa2
def q9m:ByteArray:=ByteArray.mk #[97,98,99,100,101,102,103,104,105,106,107,108,109,110,111,112,113,114,115,116,117,118,119,120,121,122]
theorem qng(b:UInt8):q9m.data.toList.contains b=qa2 b:=by
 have h:∀n:Fin 256,q9m.data.toList.contains (UInt8.ofNat n.val)=qa2 (UInt8.ofNat n.val):=by decide +kernel
 have:=h ⟨b.toNat,b.toNat_lt⟩;simpa using this
theorem qd6{α:Type}(p:α->Bool):∀l:List α,(l.dropWhile p).isEmpty=l.all p
 |[]=>rfl
 |x::l=>by
  rw[List.dropWhile_cons,List.all_cons];cases hp:p x with
  |true=>simpa using qd6 p l
  |false=>simp
theorem qna(l:List UInt8):(Lib.trimS l q9m.data.toList).isEmpty=l.all qa2:=by
 have e:(q9m.data.toList.contains ·)=qa2:=funext qng;unfold Lib.trimS Lib.trimLeftS;rw[e,qd6];unfold Lib.trimRightS;rw[e,List.all_reverse]
 have:∀l:List UInt8,(l.dropWhile qa2).all qa2=l.all qa2:=by
  intro l;induction l with
  |nil=>rfl
  |cons x l ih=>
   rw[List.dropWhile_cons];cases hp:qa2 x with
   |true=>simp[hp,ih]
   |false=>simp[hp]
 rw[this,List.all_reverse]
theorem qa0(s:ByteArray)(h:s.size<=3):Call F.qa0 [.str s,.str q9m] (.str ⟨(Lib.trimS s.data.toList q9m.data.toList).toArray⟩):=by
 refine qer (e:=trimE) rfl (Ev.of fun m=>?_);show(bif decide (s.size<=9223372036854775807)&&decide (q9m.size<4294967281)&&q9m.data.toList.all (fun b=>decide (b.toNat<128))then _ else _)=_;rw[decide_eq_true (by omega),show decide (q9m.size<4294967281)=true by decide +kernel,show q9m.data.toList.all (fun b=>decide (b.toNat<128))=true by decide +kernel];rfl
theorem q7u(s:ByteArray):Call F.q7u [.str s] (.bool (qbw s)):=by
 refine q0r rfl 0 ((q7u.ev _ _).trans ?_);simp only[evz,Nat.reduceLT,ge_iff_le,qbw];by_cases h1:1<=s.size
 ·by_cases h2:s.size<=3
  ·have h1':(1:Int)<=s.size:=by omega
   have h2':(s.size:Int)<=3:=by omega
   rw[show(ByteArray.mk #[97,98,99,100,101,102,103,104,105,106,107,108,109,110,111,112,113,114,115,116,117,118,119,120,121,122])=q9m from rfl];simp only[h1,h2,h1',h2',(qa0 s h2).eq,evz,Nat.reduceLT,and_self,Bool.true_and];rw[<- qna];congr 3;rw[Bool.eq_iff_iff,gS,List.isEmpty_iff];simp
  ·have h1':(1:Int)<=s.size:=by omega
   have h2':¬(s.size:Int)<=3:=by omega
   simp only[h1,h2,h1',h2',evz,Nat.reduceLT,and_false,Bool.false_and]
 ·have h1':¬(1:Int)<=s.size:=by omega
  simp only[h1,h1',evz,Nat.reduceLT,false_and,Bool.false_and]
theorem qwj{s:ByteArray}{k:Nat}(h:k<s.data.toList.length):s.data.getD k 0=s.data.toList[k]:=by
 simp at h;simp[Array.getD,h]
theorem q2b(s:ByteArray):Call F.q2b [.str s] (.bool (qbw s)):=by
 refine q0r rfl (s.size+1) ((q2b.ev _ _).trans ?_);simp only[evz,Nat.reduceLT,gt_iff_lt,qbw];by_cases h1:1<=s.size
 ·by_cases h2:s.size<=3
  ·have h1':¬(s.size:Int)<1:=by omega
   have h2':¬(3:Int)<s.size:=by omega
   simp only[h1,h2,h1',h2',if_false,and_self,decide_true,Bool.true_and];have hsz:s.data.toList.length=s.size:=by rw[Array.length_toList];rfl
   refine(q8d (l:=s.data.toList) (p:=fun b=>!qa2 b) (S:=fun m k=>q2b.at0 (s.size+1) m (q2b.st0 s (k:Nat))) (r:=some (.bool false,[])) (z:=some (.bool true,[])) (fun m k h=>?_) (fun m=>?_) (by omega)).trans ?_
   ·have h':k<s.size:=by omega
    simp only[q2b.next0,q2b.round0,evz,Nat.reduceLT,h',qwj h];rw[q0l (by omega)];unfold qa2;by_cases c1:s.data.toList[k].toNat<97
    ·have c1':(s.data.toList[k].toNat:Int)<97:=by omega
     rw[if_pos c1',if_pos (by simp only[Bool.not_eq_true',decide_eq_false_iff_not];omega)]
    ·have c1':¬(s.data.toList[k].toNat:Int)<97:=by omega
     rw[if_neg c1'];by_cases c2:122<s.data.toList[k].toNat
     ·have c2':(s.data.toList[k].toNat:Int)>122:=by omega
      rw[if_pos c2',if_pos (by simp only[Bool.not_eq_true',decide_eq_false_iff_not];omega)]
     ·have c2':¬(s.data.toList[k].toNat:Int)>122:=by omega
      rw[if_neg c2',if_neg (by simp only[Bool.not_eq_true',decide_eq_false_iff_not];omega)]
   ·rw[hsz];simp only[q2b.next0,q2b.round0,evz,Nat.reduceLT,gAK]
   ·have:s.data.toList.any (fun b=>!qa2 b) = !s.data.toList.all qa2:=by rw[List.not_all_eq_any_not]
    rw[this];cases s.data.toList.all qa2 <;> rfl
  ·have h1':¬(s.size:Int)<1:=by omega
   have h2':(3:Int)<s.size:=by omega
   simp only[h1,h2,h1',h2',evz,Nat.reduceLT,and_false,Bool.false_and]
 ·have h1':(s.size:Int)<1:=by omega
  simp only[h1,h1',evz,Nat.reduceLT,false_and,Bool.false_and]
def q7g(x:Symbol):Option Int:=if qbw x.name=false then some 5 else if inR x.arity 0 2=false then some 3 else none
def q2v(s:Signature):Int:=
 if s.symbols.length<1\/6<s.symbols.length then 2
 else match s.symbols.findSome? q7g with
  |some c=>c
  |none=>if qh8 (s.symbols.map (·.name))then 6 else if s.symbols.any (fun x=>decide (x.arity=0))then 0 else 4
theorem q04(l:List Symbol)(hs:l.length<=4294967296)(n:ByteArray):Call F.q1f [slc l,.clo F.q3y [.rref [.str n] 0]] (.int .i64 (idx (fun x=>decide (x.name=n)) l)):=by
 refine q0r rfl (l.length+1) ((q04.ev _ _ _).trans ?_);refine q8u (S:=fun m k=>q04.at0 (l.length+1) m (q04.st0 (cells l) n _ (k:Nat))) (fun m k h=>?_) (fun m=>?_) (gAR _)
 ·have hlk:l[k]?=some l[k]:=gA h
  have hc:Call F.q3y [.agg [.str l[k].name,.int .i64 l[k].arity],.rref [.str n] 0] (.bool (decide (l[k].name=n))):=by
   refine q0r rfl 0 ((q3y.ev _ _ _ _).trans ?_);simp only[evz,Nat.reduceLT]
  simp only[q04.next0,q04.round0,evz,Nat.reduceLT,h,hlk,q2q,hc.eq];rw[q0l (by omega)];simp only[gS]
 ·simp only[q04.next0,q04.round0,evz,Nat.reduceLT,gAK]
theorem q5d(l:List Symbol)(hs:l.length<=4294967296)(n:ByteArray):Call F.q5d [.agg [slc l],.str n] (.int .i64 (idx (fun x=>decide (x.name=n)) l)):=by
 refine q0r rfl 0 ((q5d.ev _ _ _).trans ?_);simp only[evz,Nat.reduceLT,(q04 l hs n).eq]
theorem q02(l:List Symbol)(hs:l.length<=4294967296):Call F.q1f [slc l,.clo F.q2t []] (.int .i64 (idx (fun x=>decide (x.arity=0)) l)):=by
 refine q0r rfl (l.length+1) ((q02.ev _ _).trans ?_);refine q8u (S:=fun m k=>q02.at0 (l.length+1) m (q02.st0 (cells l) _ (k:Nat))) (fun m k h=>?_) (fun m=>?_) (gAR _)
 ·have hlk:l[k]?=some l[k]:=gA h
  have hc:Call F.q2t [.agg [.str l[k].name,.int .i64 l[k].arity]] (.bool (decide (l[k].arity=0))):=by
   refine q0r rfl 0 ((q2t.ev _ _ _).trans ?_);simp only[evz,Nat.reduceLT]
  simp only[q02.next0,q02.round0,evz,Nat.reduceLT,h,hlk,q2q,hc.eq];rw[q0l (by omega)];simp only[gS]
 ·simp only[q02.next0,q02.round0,evz,Nat.reduceLT,gAK]
theorem q34(l:List Symbol)(hs:l.length<=4294967296):Call F.q5q [slc l,.clo F.q2t []] (.bool (l.any fun x=>decide (x.arity=0))):=by
 refine q0r rfl 0 ((q34.ev _ _).trans ?_);simp only[evz,Nat.reduceLT,(q02 l hs).eq,q8r]
theorem q05(l:List Symbol)(hs:l.length<=4294967296):Call F.q05 [.agg [slc l]] (.int .i64 (q2v ⟨l⟩)):=by
 refine q0r rfl (l.length+1) ((q05.ev _ _).trans ?_);simp only[evz,Nat.reduceLT,q2v,gt_iff_lt];by_cases h1:l.length<1
 ·have h1':(l.length:Int)<1:=by omega
  simp only[h1,h1',evz,Nat.reduceLT,true_or]
 by_cases h2:6<l.length
 ·have h1':¬(l.length:Int)<1:=by omega
  have h2':(6:Int)<l.length:=by omega
  simp only[h1,h1',h2,h2',evz,Nat.reduceLT,or_true]
 have h1':¬(l.length:Int)<1:=by omega
 have h2':¬(6:Int)<l.length:=by omega
 simp only[h1,h1',h2,h2',if_false,or_self]
 have two:=qdu (n:=l.length) (bad:=fun k=>l[k]?.any fun x=>decide (idx (fun y=>decide (y.name=x.name)) l≠(k:Nat)))
  (S:=fun m k=>q05.at2 (l.length+1) m (q05.st2 (cells l) l.length (k:Nat) (cells l))) (r:=some (.int .i64 6,[])) (z:=if l.any (fun x=>decide (x.arity=0))then some (.int .i64 0,[])else some (.int .i64 4,[]))
  (fun m k h=>by
   have hlk:l[k]?=some l[k]:=gA h;simp only[q05.next2,q05.round2,evz,Nat.reduceLT,h,hlk,q2q,(q5d l hs _).eq];rw[q0l (by omega)];by_cases e:idx (fun y=>decide (y.name=l[k].name)) l=(k:Int) <;> simp[e])
  (fun m=>by
   simp only[q05.next2,q05.round2,evz,Nat.reduceLT,gAK,(q34 l hs).eq];cases l.any (fun x=>decide (x.arity=0)) <;> rfl) (gAR _)
 have one:=q8w (l:=l) (g:=fun x=>(q7g x).map fun c=>some (.int .i64 c,[]))
  (S:=fun m k=>q05.at0 (l.length+1) m (q05.st0 (cells l) l.length (k:Nat) (cells l)))
  (fun m k h=>by
   have hlk:l[k]?=some l[k]:=gA h;simp only[q05.next0,q05.round0,evz,Nat.reduceLT,h,hlk,q2q,(q7u _).eq,(q2n _ _ _).eq];rw[q0l (by omega)];cases h5:qbw l[k].name with
   |false=>simp[q7g,h5]
   |true=>cases h6:inR l[k].arity 0 2 <;> simp[q7g,h5,h6])
  (fun m=>by simp only[q05.next0,q05.round0,evz,Nat.reduceLT,gAK];rfl) (gAR _)
 refine one.trans ?_;rw[show q05.at2 (l.length+1) (l.length+1) (q05.st2 (cells l) l.length 0 (cells l))=_ from two,qo9 (fun y:Symbol=>y.name),q7b];cases l.findSome? q7g with
 |some c=>rfl
 |none=>cases qh8 (l.map fun x=>x.name) <;> cases l.any (fun x=>decide (x.arity=0)) <;> rfl
theorem q00(l:List Symbol)(hs:l.length<=4294967296):Call F.q00 [.agg [slc l]] (.int .i64 (q2v ⟨l⟩)):=by
 obtain⟨n,hn⟩:∃n,n=l.length+1:=⟨_,rfl⟩;refine q0r rfl n ((q00.ev _ _).trans ?_);simp only[evz,Nat.reduceLT,q2v,gt_iff_lt];by_cases h1:l.length<1
 ·have h1':(l.length:Int)<1:=by omega
  simp only[h1,h1',evz,Nat.reduceLT,true_or]
 by_cases h2:6<l.length
 ·have h1':¬(l.length:Int)<1:=by omega
  have h2':(6:Int)<l.length:=by omega
  simp only[h1,h1',h2,h2',evz,Nat.reduceLT,or_true]
 have h1':¬(l.length:Int)<1:=by omega
 have h2':¬(6:Int)<l.length:=by omega
 simp only[h1,h1',h2,h2',if_false,or_self]
 have six:=q8d (l:=l) (p:=fun x=>decide (x.arity=0)) (S:=fun m k=>q00.at6 n m (q00.st6 l.length (k:Nat) (cells l))) (r:=some (.int .i64 0,[])) (z:=some (.int .i64 4,[]))
  (fun m k h=>by
   have hlk:l[k]?=some l[k]:=gA h;simp only[q00.next6,q00.round6,evz,Nat.reduceLT,h,hlk,q2q];rw[q0l (by omega)];simp only[gS])
  (fun m=>by simp only[q00.next6,q00.round6,evz,Nat.reduceLT,gAK]) (show l.length<n by omega)
 have two:=qdu (n:=l.length) (bad:=fun i=>(List.range i).any fun j=>l[i]?.any fun x=>l[j]?.any fun y=>decide (x.name=y.name))
  (S:=fun m i=>q00.at2 n m (q00.st2 l.length (i:Nat) (cells l))) (r:=some (.int .i64 6,[]))
  (fun m i h=>by
   have hlk:l[i]?=some l[i]:=gA h;simp only[q00.next2,q00.round2,evz,Nat.reduceLT,h]
   refine qdu (n:=i) (f:=n) (bad:=fun j=>l[i]?.any fun x=>l[j]?.any fun y=>decide (x.name=y.name))
    (S:=fun m' j=>q00.at4 n (q00.at2 n m) m' (q00.st4 l.length (i:Nat) (j:Nat) (cells l))) (fun m' j hj=>?_) (fun m'=>?_) (by omega)
   ·have hj':j<l.length:=by omega
    have hjk:l[j]?=some l[j]:=gA hj';simp only[q00.next4,q00.round4,evz,Nat.reduceLT,h,hj,hj',hlk,hjk,q2q];rw[q0l (by omega)];by_cases e:l[i].name=l[j].name <;> simp[e]
   ·simp only[q00.next4,q00.round4,evz,Nat.reduceLT,gAK];rw[q0l (by omega)])
  (fun m=>by simp only[q00.next2,q00.round2,evz,Nat.reduceLT,gAK];exact six) (show l.length<n by omega)
 have one:=q8w (l:=l) (g:=fun x=>(q7g x).map fun c=>some (.int .i64 c,[]))
  (S:=fun m k=>q00.at0 n m (q00.st0 l.length (k:Nat) (cells l)))
  (fun m k h=>by
   have hlk:l[k]?=some l[k]:=gA h;simp only[q00.next0,q00.round0,evz,Nat.reduceLT,h,hlk,q2q,(q2b _).eq,(q14 _ _ _).eq];rw[q0l (by omega)];cases h5:qbw l[k].name with
   |false=>simp[q7g,h5]
   |true=>cases h6:inR l[k].arity 0 2 <;> simp[q7g,h5,h6])
  (fun m=>by simp only[q00.next0,q00.round0,evz,Nat.reduceLT,gAK];rfl) (show l.length<n by omega)
 refine one.trans ?_;rw[show q00.at2 n n (q00.st2 l.length 0 (cells l))=_ from two,qo4 (fun y:Symbol=>y.name),q7b];cases l.findSome? q7g with
 |some c=>rfl
 |none=>cases qh8 (l.map fun x=>x.name) <;> cases l.any (fun x=>decide (x.arity=0)) <;> rfl
theorem q4p{n a b:Int}:inR n a b=true<->a<=n/\n<=b:=by unfold inR;simp
structure SigOk(s:Signature):Prop where
 pos:1<=s.symbols.length
 le:s.symbols.length<=6
 name:∀x∈s.symbols,qbw x.name=true
 arity:∀x∈s.symbols,0<=x.arity/\x.arity<=2
 nodup:(s.symbols.map (·.name)).Nodup
 const:∃x∈s.symbols,x.arity=0
theorem q89{α β:Type}{f:α->Option β}:∀{l:List α},l.findSome? f=none<->∀x∈l,f x=none
 |[]=>by simp
 |x::l=>by
  rw[List.findSome?_cons];cases h:f x with
  |some b=>simp[h]
  |none=>simp[h,q89 (l:=l)]
theorem q5g(s:Signature):q2v s=0<->SigOk s:=by
 unfold q2v;constructor
 ·intro h;split at h
  ·cases h
  ·rename_i h1;split at h
   ·rename_i c hc;obtain⟨x,hx,hf⟩:=List.exists_of_findSome?_eq_some hc;unfold q7g at hf;split at hf
    ·cases hf;cases h
    ·split at hf
     ·cases hf;cases h
     ·cases hf
   ·rename_i hn;rw[q89]at hn;split at h
    ·cases h
    ·rename_i ht;split at h
     ·rename_i ha
      have hx:∀x∈s.symbols,qbw x.name=true/\inR x.arity 0 2=true:=fun x hx=>by
       have:=hn x hx;unfold q7g at this;split at this
       ·cases this
       ·split at this
        ·cases this
        ·rename_i h1 h2;exact⟨by simpa using h1,by simpa using h2⟩
      refine⟨by omega,by omega,fun x h=>(hx x h).1,fun x h=>q4p.1 (hx x h).2,?_,?_⟩
      ·unfold qh8 at ht;simpa using ht
      ·rw[List.any_eq_true]at ha;obtain⟨x,h1,h2⟩:=ha;exact⟨x,h1,by simpa using h2⟩
     ·cases h
 ·intro h;rw[if_neg (by have:=h.pos;have:=h.le;omega)]
  have:s.symbols.findSome? q7g=none:=q89.2 fun x hx=>by
   unfold q7g;rw[if_neg (by simp[h.name x hx]),if_neg (by have:=q4p.2 (h.arity x hx);simp[this])]
  rw[this];simp only;rw[if_neg (by unfold qh8;simpa using h.nodup),if_pos];rw[List.any_eq_true];obtain⟨x,h1,h2⟩:=h.const;exact⟨x,h1,by simpa using h2⟩
theorem qlb{z k:Nat}(hz:z<=3)(hk:k<=12):z ^ k<=531441:=
 Nat.le_trans (Nat.pow_le_pow_left hz k) (Nat.le_trans (Nat.pow_le_pow_right (by omega) hk) (by decide))
theorem q2r(z r:Nat)(hz:z<=3)(hr:r<=12):Call F.q2r [.int .i64 z,.int .i64 r] (.int .i64 (z ^ r:Nat)):=by
 refine q0r rfl (r+1) ((q2r.ev _ _ _).trans ?_)
 have:∀m k,k<=r->r<m+k->q2r.at0 (r+1) m (q2r.st0 z (z ^ k:Nat) r (k:Nat))=some (.int .i64 (z ^ r:Nat),[]):=by
  intro m;induction m with
  |zero=>intros;omega
  |succ m ih=>
   intro k hk hm;simp only[q2r.next0,q2r.round0,evz,Nat.reduceLT];by_cases h:k<r
   ·have hb:=qlb (k:=k.succ) hz (by omega);rw[if_pos h,q0l (by omega),<- Int.natCast_mul,<- Nat.pow_succ,q1o (by omega)];exact ih (k+1) (by omega) (by omega)
   ·obtain rfl:k=r:=by omega
    rw[if_neg h]
 exact this (r+1) 0 (by omega) (by omega)
theorem q4k(z r:Nat)(hz:z<=3)(hr:r<=12):Call F.q4k [.int .i64 z,.int .i64 r] (.int .i64 (z ^ r:Nat)):=by
 induction r with
 |zero=>exact q0r rfl 0 ((q4k.ev _ _ _).trans rfl)
 |succ r ih=>
  refine q0r rfl 0 ((q4k.ev _ _ _).trans ?_);have hb:=qlb (k:=r.succ) hz hr;have h1:¬(((r+1:Nat):Int)=0):=by omega
  have h2:IntKind.wrap .i64 (((r+1:Nat):Int)-1)=(r:Nat):=by rw[q1o (by omega)];omega
  simp only[evz,Nat.reduceLT,h1,h2,(ih (by omega)).eq];rw[<- Int.natCast_mul,Nat.mul_comm,<- Nat.pow_succ,q1o (by omega)]
def q5b(z:Int)(x:Symbol×List Int):Option Int:=
 if x.2.length≠z.toNat ^ x.1.arity.toNat then some 2 else if x.2.any (fun n=>!inR n 0 (z-1))then some 3 else none
def q6h(s:Signature)(a:Algebra):Int:=
 if q2v s≠0 then q2v s
 else if inR a.size 1 3=false then 3
 else if a.tables.length≠s.symbols.length then 2
 else match (s.symbols.zip a.tables).findSome? (q5b a.size)with
  |some c=>c
  |none=>0
theorem q03(l:List Int)(hs:l.length<=4294967296)(z:Int)(t:List (List Int))(hz:1<=z/\z<=3) :
 Call F.q0n [slc l,.clo F.q30 [.rref [.int .i64 z,slc t] 0]] (.int .i64 (idx (fun n=>!inR n 0 (z-1)) l)):=by
 refine q0r rfl (l.length+1) ((q03.ev _ _ _ _).trans ?_);refine q8u (S:=fun m k=>q03.at0 (l.length+1) m (q03.st0 (cells l) z _ _ (k:Nat))) (fun m k h=>?_) (fun m=>?_) (gAR _)
 ·have hlk:l[k]?=some l[k]:=gA h
  have hc:Call F.q30 [.int .i64 l[k],.rref [.int .i64 z,slc t] 0] (.bool (!inR l[k] 0 (z-1))):=by
   refine q0r rfl 0 ((q30.ev _ _ _ _).trans ?_);simp only[evz,Nat.reduceLT,q1o (x:=z-1) (by omega),(q2n _ _ _).eq]
  simp only[q03.next0,q03.round0,evz,Nat.reduceLT,h,hlk,q1x,hc.eq];rw[q0l (by omega)];cases inR l[k] 0 (z-1) <;> rfl
 ·simp only[q03.next0,q03.round0,evz,Nat.reduceLT,gAK]
theorem q3b(l:List Int)(hs:l.length<=4294967296)(z:Int)(t:List (List Int))(hz:1<=z/\z<=3) :
 Call F.q26 [slc l,.clo F.q30 [.rref [.int .i64 z,slc t] 0]] (.bool (l.any fun n=>!inR n 0 (z-1))):=by
 refine q0r rfl 0 ((q3b.ev _ _ _ _).trans ?_);simp only[evz,Nat.reduceLT,(q03 l hs z t hz).eq,q8r]
theorem qji{a b:Nat}:((a:Int)=(b:Int))=(a=b):=by rw[eq_iff_iff];omega
theorem q0z(l:List Symbol)(z:Int)(t:List (List Int))(hs:l.length<=4294967296)(ht:sm 4294967296 t) :
 Call F.q0z [.agg [slc l],.agg [.int .i64 z,slc t]] (.int .i64 (q6h ⟨l⟩ ⟨z,t⟩)):=by
 have htl:=ht.1;refine q0r rfl (t.length+1) ((q0z.ev _ _ _ _).trans ?_);simp only[evz,Nat.reduceLT,(q05 l hs).eq,(q2n _ _ _).eq,q6h];by_cases h1:q2v ⟨l⟩=0
 case neg=>simp only[h1,evz,Nat.reduceLT,ne_eq,gX]
 have ok:=(q5g _).1 h1;simp only[h1,evz,Nat.reduceLT,ne_eq,gW];cases h2:inR z 1 3 with
 |false=>simp only[evz,Nat.reduceLT]
 |true=>
  have hz:=q4p.1 h2;simp only[evz,Nat.reduceLT,qji,Bool.true_eq_false];by_cases h3:t.length=l.length
  case neg=>simp only[h3,evz,Nat.reduceLT,ne_eq,gX]
  simp only[h3,evz,Nat.reduceLT,ne_eq,gW];have hzip:(l.zip t).length=t.length:=by rw[List.length_zip];omega
  have one:=q8w (l:=l.zip t) (g:=fun x=>(q5b z x).map fun c=>some (.int .i64 c,[])) (z:=some (.int .i64 0,[]))
   (S:=fun m k=>q0z.at0 (t.length+1) m (q0z.st0 (cells t) l.length (k:Nat) (cells l) z (cells t)))
   (fun m k h=>by
    have hk:k<t.length:=by omega
    have hkl:k<l.length:=by omega
    have htk:t[k]?=some t[k]:=gA hk;have hlk:l[k]?=some l[k]:=gA hkl;have har:=ok.arity l[k] (gG hkl);obtain⟨r,hr⟩:∃r:Nat,l[k].arity=r:=⟨l[k].arity.toNat,by omega⟩;obtain⟨y,hy⟩:∃y:Nat,z=y:=⟨z.toNat,by omega⟩;have hp:=q2r y r (by omega) (by omega);rw[<- hy,<- hr]at hp;simp only[q0z.next0,q0z.round0,evz,Nat.reduceLT,hk,hkl,htk,hlk,q2q,q67,hp.eq,qji,(q3b t[k] (ht.2 _ (gG hk)).1 z t hz).eq];rw[q0l (by omega)];simp only[q5b,List.getElem_zip,hr,hy,gR];by_cases h6:t[k].length=y ^ r
    ·simp only[h6,if_true,ne_eq,gW,if_false];cases t[k].any fun n=>!inR n 0 ((y:Int)-1) <;> rfl
    ·simp only[h6,if_false,ne_eq,gX,if_true];rfl)
   (fun m=>by rw[hzip];simp only[q0z.next0,q0z.round0,evz,Nat.reduceLT,h3,gAK]) (show(l.zip t).length<t.length+1 by omega)
  refine Eq.trans ?_ (one.trans ?_)
  ·rw[h3];rfl
  ·rw[q7b];cases (l.zip t).findSome? (q5b z) <;> rfl
theorem q0a(l:List Symbol)(z:Int)(t:List (List Int))(hs:l.length<=4294967296)(ht:sm 4294967296 t) :
 Call F.q0a [.agg [slc l],.agg [.int .i64 z,slc t]] (.int .i64 (q6h ⟨l⟩ ⟨z,t⟩)):=by
 have htl:=ht.1;obtain⟨n,hn,hn2⟩:∃n,t.length<n/\∀x∈t,x.length<n:=⟨4294967297,by omega,fun x hx=>by have:=(ht.2 x hx).1;omega⟩;refine q0r rfl n ((q0a.ev _ _ _ _).trans ?_);simp only[evz,Nat.reduceLT,(q00 l hs).eq,(q14 _ _ _).eq,q6h];by_cases h1:q2v ⟨l⟩=0
 case neg=>simp only[h1,evz,Nat.reduceLT,ne_eq,gX]
 have ok:=(q5g _).1 h1;simp only[h1,evz,Nat.reduceLT,ne_eq,gW];cases h2:inR z 1 3 with
 |false=>simp only[evz,Nat.reduceLT]
 |true=>
  have hz:=q4p.1 h2;simp only[evz,Nat.reduceLT,qji,Bool.true_eq_false];by_cases h3:t.length=l.length
  case neg=>simp only[h3,evz,Nat.reduceLT,ne_eq,gX]
  simp only[h3,evz,Nat.reduceLT,ne_eq,gW];have hzip:(l.zip t).length=t.length:=by rw[List.length_zip];omega
  have one:=q8w (l:=l.zip t) (g:=fun x=>(q5b z x).map fun c=>some (.int .i64 c,[])) (z:=some (.int .i64 0,[]))
   (S:=fun m k=>q0a.at0 n m (q0a.st0 (k:Nat) (cells l) z (cells t)))
   (fun m k h=>by
    have hk:k<t.length:=by omega
    have hkl:k<l.length:=by omega
    have htk:t[k]?=some t[k]:=gA hk;have hlk:l[k]?=some l[k]:=gA hkl;have har:=ok.arity l[k] (gG hkl);obtain⟨r,hr⟩:∃r:Nat,l[k].arity=r:=⟨l[k].arity.toNat,by omega⟩;obtain⟨y,hy⟩:∃y:Nat,z=y:=⟨z.toNat,by omega⟩;have hp:=q4k y r (by omega) (by omega);rw[<- hy,<- hr]at hp
    have two:=q8d (l:=t[k]) (p:=fun n=>!inR n 0 (z-1)) (S:=fun m' j=>q0a.at2 n (q0a.at0 n m) m' (q0a.st2 (k:Nat) (j:Nat) (cells l) z (cells t)))
     (r:=some (.int .i64 3,[])) (z:=q0a.at0 n m (q0a.st0 ((k+1:Nat):Int) (cells l) z (cells t))) (f:=n)
     (fun m' j hj=>by
      have hjk:t[k][j]?=some t[k][j]:=gA hj;have hjl:=(ht.2 t[k] (gG hk)).1;simp only[q0a.next2,q0a.round2,evz,Nat.reduceLT,hk,htk,hj,hjk,q67,q1x,q1o (x:=z-1) (by omega),(q14 _ _ _).eq];rw[q0l (by omega)];cases inR t[k][j] 0 (z-1) <;> rfl)
     (fun m'=>by
      simp only[q0a.next2,q0a.round2,evz,Nat.reduceLT,hk,htk,q67,gAK];rw[q0l (by omega)])
     (hn2 _ (gG hk))
    simp only[q0a.next0,q0a.round0,evz,Nat.reduceLT,hk,hkl,htk,hlk,q2q,q67,hp.eq,qji];rw[show q0a.at2 n (q0a.at0 n m) n (q0a.st2 (k:Nat) 0 (cells l) z (cells t))=_ from two];simp only[q5b,List.getElem_zip,hr,hy,gR];by_cases h6:t[k].length=y ^ r
    ·simp only[h6,if_true,ne_eq,gW,if_false];cases t[k].any fun n=>!inR n 0 ((y:Int)-1) <;> rfl
    ·simp only[h6,if_false,ne_eq,gX,if_true];rfl)
   (fun m=>by rw[hzip];simp only[q0a.next0,q0a.round0,evz,Nat.reduceLT,gAK]) (show(l.zip t).length<n by omega)
  refine one.trans ?_;rw[q7b];cases (l.zip t).findSome? (q5b z) <;> rfl
def ar(l:List Symbol)(n:Int):Nat:=if n<0 then 0 else((l[n.toNat]?).map fun x=>x.arity.toNat).getD 0
def q5l(l:List Symbol)(n:Int):Bool:=inR n 0 (l.length-1)||inR n (-12) (-1)
def skip(a:Int->Nat):Nat->List Int->Option (List Int)
 |0,l=>some l
 |_+1,[]=>none
 |k+1,n::l=>skip a (k+a n) l
def q4d(l:List Symbol)(t:List Int):Int:=
 if t.length<1\/24<t.length then 2 else if t.any (fun n=>!q5l l n)then 3 else if skip (ar l) 1 t=some []then 0 else 1
def qdt(s:Signature)(t:List Int):Int:=if q2v s≠0 then q2v s else q4d s.symbols t
section
variable {a:Int->Nat}
@[simp] theorem q3l(l:List Int):skip a 0 l=some l:=by cases l <;> rfl
theorem qb8:∀{l r:List Int}{k:Nat},skip a k l=some r->∃p,l=p++r/\(0<k->0<p.length)
 |l,r,0,h=>by rw[q3l]at h;cases h;exact⟨[],rfl,by omega⟩
 |[],r,k+1,h=>by cases h
 |n::l,r,k+1,h=>by
  obtain⟨p,hp,_⟩:=qb8 (l:=l) (k:=k+a n) h;exact⟨n::p,by rw[hp];rfl,by simp⟩
theorem q9y:∀(l:List Int)(j k:Nat),skip a (j+k) l=(skip a j l).bind (skip a k)
 |l,0,k=>by simp
 |[],j+1,k=>by rw[Nat.add_right_comm];rfl
 |n::l,j+1,k=>by
  rw[Nat.add_right_comm];show skip a (j+k+a n) l=(skip a (j+a n) l).bind (skip a k);rw[Nat.add_right_comm,q9y l (j+a n) k]
theorem qjh{t r:List Int}{e k:Nat}(h:skip a k (t.drop e)=some r):r=t.drop (t.length-r.length)/\r.length<=t.length-e/\(0<k->r.length<t.length-e):=by
 obtain⟨p,hp,hk⟩:=qb8 h;have hl:(t.drop e).length=p.length+r.length:=by rw[hp,gM]
 rw[gAA]at hl;refine⟨?_,by omega,fun h0=>by have:=hk h0;omega⟩;have h1:t.length-r.length=e+p.length\/t.length<=e:=by omega
 rcases h1 with h1|h1
 ·rw[h1,<- List.drop_drop,hp,List.drop_left]
 ·have:r.length=0:=by omega
  rw[gL this];simp
end
theorem q49{l:List Symbol}{n:Int}:q5l l n=true<->(0<=n/\n<l.length)\/(-12<=n/\n <= -1):=by
 unfold q5l;rw[Bool.or_eq_true,q4p,q4p];omega
section
variable {l:List Symbol}(ok:SigOk ⟨l⟩)
include ok
theorem qqd(n:Int):ar l n<=2:=by
 unfold ar;split
 ·omega
 ·cases h:l[n.toNat]? with
  |none=>simp
  |some x=>
   have:=ok.arity x (List.mem_of_getElem? h);simp;omega
theorem q7t(n:Int):Call F.q7t [.agg [slc l],.int .i64 n] (.bool (q5l l n)):=by
 have hle:=ok.le
 have h1:Call F.q68 [.agg [slc l],.int .i64 n] (.bool (inR n 0 (l.length-1))):=by
  refine q0r rfl 0 ((q68.ev _ _ _).trans ?_);simp only[evz,Nat.reduceLT,q1o (x:=(l.length:Int)-1) (by simp at hle;omega),(q2n _ _ _).eq]
 refine q0r rfl 0 ((q7t.ev _ _ _).trans ?_);simp only[evz,Nat.reduceLT,h1.eq,(q2n _ _ _).eq,q5l];cases inR n 0 (l.length-1) <;> simp[evz,Nat.reduceLT]
theorem q7w(n:Int):Call F.q7w [.rref [slc l] 0,.int .i64 n] (.bool (q5l l n)):=by
 have hle:=ok.le
 have h1:Call F.q65 [.rref [slc l] 0,.int .i64 n] (.bool (inR n 0 (l.length-1))):=by
  refine q0r rfl 0 ((q65.ev _ _ _).trans ?_);simp only[evz,Nat.reduceLT,q1o (x:=(l.length:Int)-1) (by simp at hle;omega),(q14 _ _ _).eq]
 refine q0r rfl 0 ((q7w.ev _ _ _).trans ?_);simp only[evz,Nat.reduceLT,h1.eq,(q14 _ _ _).eq,q5l];cases inR n 0 (l.length-1) <;> simp[evz,Nat.reduceLT]
theorem qs6{n:Int}(hn:0<=n)(h:n.toNat<l.length):(l[n.toNat]).arity=(ar l n:Nat):=by
 have:=ok.arity l[n.toNat] (gG h);unfold ar;rw[if_neg (by omega),gA h];simp;omega
theorem q66(n:Int)(h:q5l l n=true):Call F.q66 [.agg [slc l],.int .i64 n] (.int .i64 (ar l n:Nat)):=by
 refine q0r rfl 0 ((q66.ev _ _ _).trans ?_);rw[q49]at h;by_cases hn:n<0
 ·simp[hn,ar]
 ·obtain⟨m,rfl⟩:∃m:Nat,n=m:=⟨n.toNat,by omega⟩;have hm:m<l.length:=by omega
  have e:=qs6 ok (n:=m) (by omega) (by simpa using hm);have hl:l[m]?=some l[m]:=gA hm;have hn':¬((m:Int)<0):=by omega
  simp only[evz,Nat.reduceLT,hn',hm,hl,q2q];simp at e;rw[e]
def q8e(none':Int)(t:List Int)(r:Option (List Int)):Int:=match r with
 |some r=>((t.length-r.length:Nat):Int)
 |none=>none'
theorem q2g(t:List Int)(ht:∀n∈t,q5l l n=true)(hl:t.length<=4294967296)(e:Nat)(he:e<=t.length) :
 Call F.q2g [.agg [slc l],slc t,.int .i64 e] (.int .i64 (q8e (t.length+1) t (skip (ar l) 1 (t.drop e)))):=by
 have loop:∀m k o,k<=t.length->t.length+1<m+k->o<=2*k+1->
  q2g.at0 (t.length+2) m (q2g.st0 (cells t) (k:Nat) (o:Nat) (cells l))=some (.int .i64 (q8e (t.length+1) t (skip (ar l) o (t.drop k))),[]):=by
  intro m;induction m with
  |zero=>intros;omega
  |succ m ih=>
   intro k o hk hm ho;simp only[q2g.next0,q2g.round0,evz,Nat.reduceLT,gt_iff_lt,ge_iff_le];cases o with
   |zero=>
    rw[if_neg (by omega),q3l];simp only[q8e,gAA];congr 3;omega
   |succ o=>
    rw[if_pos (by omega)];by_cases h:k<t.length
    ·have hk':t[k]?=some t[k]:=gA h;have hn:=ht t[k] (gG h);have h2:=qqd ok t[k];rw[if_neg (by omega)];simp only[h,hk',evz,Nat.reduceLT,q1x,(q66 ok t[k] hn).eq];rw[q0l (by omega),q1o (x:=((ar l t[k]:Nat):Int)-1) (by omega),q1o (by omega)];rw[show((o+1:Nat):Int)+(((ar l t[k]:Nat):Int)-1)=((o+ar l t[k]:Nat):Int) by omega];rw[ih (k+1) (o+ar l t[k]) (by omega) (by omega) (by omega),gH h];rfl
    ·obtain rfl:k=t.length:=by omega
     rw[if_pos (by omega),q1o (by omega),gU (gAI _)];rfl
 refine q0r rfl (t.length+2) ((q2g.ev _ _ _ _).trans ?_);have:=loop (t.length+2) e 1 he (by omega) (by omega);exact this
theorem q21(t:List Int)(ht:∀n∈t,q5l l n=true)(hl:t.length<=4294967296)(e:Nat)(he:e<=t.length) :
 Call F.q21 [.rref [slc l] 0,slc t,.int .i64 e] (.int .i64 (q8e (-1) t (skip (ar l) 1 (t.drop e)))):=by
 obtain⟨d,hd⟩:∃d,d=t.length-e:=⟨_,rfl⟩;induction d using Nat.strongRecOn generalizing e with
 |ind d ih=>
 refine q0r rfl 4 ((q21.ev _ _ _ _).trans ?_);simp only[evz,Nat.reduceLT,ge_iff_le];by_cases h:e<t.length
 case neg=>
  obtain rfl:e=t.length:=by omega
  rw[if_pos (by omega),gU (gAI _)];rfl
 have hk':t[e]?=some t[e]:=gA h;have hn:=ht t[e] (gG h);have h2:=qqd ok t[e];rw[if_neg (by omega)];simp only[h,hk',evz,Nat.reduceLT,q1x];rw[gH h];show _=some (T.int .i64 (q8e (-1) t (skip (ar l) (0+ar l t[e]) (t.drop (e+1)))),[]);rw[gAJ,q0l (by omega)];by_cases hneg:t[e]<0
 ·rw[if_pos hneg];have:ar l t[e]=0:=by unfold ar;rw[if_pos hneg]
  rw[this,q3l];simp only[q8e,gAA];congr 3;omega
 rw[if_neg hneg];rw[q49]at hn;obtain⟨y,hy⟩:∃y:Nat,t[e]=y:=⟨t[e].toNat,by omega⟩;have hym:y<l.length:=by omega
 have hyl:l[y]?=some l[y]:=gA hym
 have hya:l[y].arity=(ar l t[e]:Nat):=by
  have:=qs6 ok (n:=t[e]) (by omega) (by omega);simpa[hy]using this
 have loop:∀m i k,e<k->k<=t.length->i<=ar l t[e]->ar l t[e]<m+i->
  q21.at0 4 m (q21.st0 (cells l) (cells t) e (k:Nat) (i:Nat))=some (.int .i64 (q8e (-1) t (skip (ar l) (ar l t[e]-i) (t.drop k))),[]):=by
  intro m;induction m with
  |zero=>intros;omega
  |succ m ihm=>
   intro i k hk1 hk2 hi hm;simp only[q21.next0,q21.round0,evz,Nat.reduceLT,h,hk',q1x];simp only[hy,evz,Nat.reduceLT,hym,hyl,q2q,hya];by_cases hia:i<ar l t[e]
   ·rw[hy]at hia;rw[if_pos hia,(ih (t.length-k) (by omega) k hk2 rfl).eq];simp only[evz,Nat.reduceLT];rw[<- hy]at hia;rw[show ar l ((y:Nat):Int)-i=1+(ar l t[e]-(i+1)) by rw[hy];rw[hy]at hia;omega,q9y];cases hs:skip (ar l) 1 (t.drop k)with
    |none=>rfl
    |some r=>
     obtain⟨hr1,hr2,hr3⟩:=qjh hs;have hr4:=hr3 (by omega);have hnn:¬ q8e (-1) t (some r)<0:=by show ¬((t.length-r.length:Nat):Int)<0;omega
     rw[if_neg hnn,q0l (by omega),show q8e (-1) t (some r)=((t.length-r.length:Nat):Int)from rfl,ihm (i+1) (t.length-r.length) (by omega) (by omega) (by omega) (by omega),<- hr1];rfl
   ·have:i=ar l t[e]:=by omega
    rw[if_neg (by rw[<- hy];exact hia),show ar l ((y:Nat):Int)-i=0 by rw[<- hy];omega,q3l];simp only[q8e,gAA];congr 3;omega
 have:=loop 4 0 (e+1) (by omega) (by omega) (by omega) (by omega);exact this
end
theorem qea{l:List Symbol}{t:List Int}:(t.any fun n=>!q5l l n)=false<->∀n∈t,q5l l n=true:=by
 rw[List.any_eq_false];simp
theorem qcd{a:Int->Nat}{t:List Int}:(q8e (t.length+1) t (skip a 1 t)=t.length<->skip a 1 t=some [])/\(q8e (-1) t (skip a 1 t)=t.length<->skip a 1 t=some []):=by
 cases h:skip a 1 t with
 |none=>simp[q8e];omega
 |some r=>
  obtain⟨p,hp,_⟩:=qb8 h;have:r.length<=t.length:=by rw[hp];simp
  cases r with
  |nil=>simp[q8e]
  |cons x r=>
   simp only[gAB]at this;refine⟨⟨fun h=>?_,fun h=>by cases h⟩,⟨fun h=>?_,fun h=>by cases h⟩⟩ <;> (simp only[q8e,gAB]at h;omega)
theorem q3f(l:List Symbol)(ok:SigOk ⟨l⟩)(t:List Int)(hs:t.length<=4294967296) :
 Call F.q26 [slc t,.clo F.q3j [.rref [slc l] 0]] (.bool (t.any fun n=>!q5l l n)):=by
 have hi:Call F.q0n [slc t,.clo F.q3j [.rref [slc l] 0]] (.int .i64 (idx (fun n=>!q5l l n) t)):=by
  refine q0r rfl (t.length+1) ((q09.ev _ _ _).trans ?_);refine q8u (S:=fun m k=>q09.at0 (t.length+1) m (q09.st0 (cells t) _ _ (k:Nat))) (fun m k h=>?_) (fun m=>?_) (gAR _)
  ·have hlk:t[k]?=some t[k]:=gA h
   have hc:Call F.q3j [.int .i64 t[k],.rref [slc l] 0] (.bool (!q5l l t[k])):=by
    refine q0r rfl 0 ((q3j.ev _ _ _).trans ?_);simp only[evz,Nat.reduceLT,(q7t ok _).eq]
   simp only[q09.next0,q09.round0,evz,Nat.reduceLT,h,hlk,q1x,hc.eq];rw[q0l (by omega)];cases q5l l t[k] <;> rfl
  ·simp only[q09.next0,q09.round0,evz,Nat.reduceLT,gAK]
 refine q0r rfl 0 ((q3f.ev _ _ _).trans ?_);simp only[evz,Nat.reduceLT,hi.eq,q8r]
theorem q4g(l:List Symbol)(hs:l.length<=4294967296)(t:List Int)(ht:t.length<=4294967296):Call F.q4g [.agg [slc l],slc t] (.int .i64 (qdt ⟨l⟩ t)):=by
 refine q0r rfl 0 ((q4g.ev _ _ _).trans ?_);simp only[evz,Nat.reduceLT,(q05 l hs).eq,qdt,q4d,gt_iff_lt];by_cases h1:q2v ⟨l⟩=0
 case neg=>simp only[h1,evz,Nat.reduceLT,ne_eq,gX]
 have ok:=(q5g _).1 h1;simp only[h1,evz,Nat.reduceLT,ne_eq,gW];by_cases h2:t.length<1
 ·have h2':(t.length:Int)<1:=by omega
  simp only[h2,h2',evz,Nat.reduceLT,true_or]
 by_cases h3:24<t.length
 ·have h2':¬(t.length:Int)<1:=by omega
  have h3':(24:Int)<t.length:=by omega
  simp only[h2,h2',h3,h3',evz,Nat.reduceLT,or_true]
 have h2':¬(t.length:Int)<1:=by omega
 have h3':¬(24:Int)<t.length:=by omega
 simp only[h2,h2',h3,h3',evz,Nat.reduceLT,or_self,(q3f l ok t ht).eq];cases h4:t.any fun n=>!q5l l n with
 |true=>simp only[evz,Nat.reduceLT]
 |false=>
  have hn:=qea.1 h4;have he:=q2g ok t hn ht 0 (by omega);simp only[evz,Nat.reduceLT,Bool.false_eq_true,show LIM F.q2g [.agg [slc l],slc t,.int .i64 0]=_ from he,List.drop_zero];by_cases h5:skip (ar l) 1 t=some []
  ·rw[if_pos (qcd.1.2 h5),if_pos h5]
  ·rw[if_neg fun h=>h5 (qcd.1.1 h),if_neg h5]
theorem q17(l:List Symbol)(ok:SigOk ⟨l⟩)(t:List Int)(ht:t.length<=4294967296):Call F.q17 [.rref [slc l] 0,slc t] (.int .i64 (q4d l t)):=by
 refine q0r rfl (t.length+1) ((q17.ev _ _ _).trans ?_);simp only[evz,Nat.reduceLT,q4d,gt_iff_lt];by_cases h2:t.length<1
 ·have h2':(t.length:Int)<1:=by omega
  simp only[h2,h2',evz,Nat.reduceLT,true_or]
 by_cases h3:24<t.length
 ·have h2':¬(t.length:Int)<1:=by omega
  have h3':(24:Int)<t.length:=by omega
  simp only[h2,h2',h3,h3',evz,Nat.reduceLT,or_true]
 have h2':¬(t.length:Int)<1:=by omega
 have h3':¬(24:Int)<t.length:=by omega
 simp only[h2,h2',h3,h3',evz,Nat.reduceLT,or_self]
 have step:∀m k (h:k<t.length),q17.at0 (t.length+1) (m+1) (q17.st0 (cells l) (cells t) (k:Nat))=
  if(fun n=>!q5l l n) t[k]=true then some (.int .i64 3,[])else q17.at0 (t.length+1) m (q17.st0 (cells l) (cells t) ((k+1:Nat):Int)):=fun m k h=>by
  have hlk:t[k]?=some t[k]:=gA h;simp only[q17.next0,q17.round0,evz,Nat.reduceLT,h,hlk,q1x,(q7w ok _).eq];rw[q0l (by omega)];by_cases hb:q5l l t[k]=true <;> simp[hb]
 cases h4:t.any fun n=>!q5l l n with
 |true=>
  refine(qud (p:=fun n=>!q5l l n) (r:=some (.int .i64 3,[])) (S:=fun m k=>q17.at0 (t.length+1) m (q17.st0 (cells l) (cells t) (k:Nat))) step h4 (gAR _)).trans ?_;simp only[evz,Nat.reduceLT]
 |false=>
  have hn:=qea.1 h4;have he:=q21 ok t hn ht 0 (by omega);refine(q8d (p:=fun n=>!q5l l n) (r:=some (.int .i64 3,[])) (S:=fun m k=>q17.at0 (t.length+1) m (q17.st0 (cells l) (cells t) (k:Nat))) (z:=if skip (ar l) 1 t=some []then some (.int .i64 0,[])else some (.int .i64 1,[])) step (fun m=>?_) (gAR _)).trans ?_
  ·simp only[q17.next0,q17.round0,evz,Nat.reduceLT,gAK,show LIM F.q21 [.rref [slc l] 0,slc t,.int .i64 0]=_ from he,List.drop_zero];by_cases h5:skip (ar l) 1 t=some []
   ·rw[if_pos (qcd.2.2 h5),if_pos h5]
   ·rw[if_neg fun h=>h5 (qcd.2.1 h),if_neg h5]
  ·rw[h4];simp only[evz,Nat.reduceLT,Bool.false_eq_true];by_cases h5:skip (ar l) 1 t=some [] <;> simp only[h5,if_true,if_false]
end Ev.Ty
end
section
namespace Ev.Ty
open Go Ev
inductive Tm where
 |v (n:Int)
 |k (n:Int)
 |u (n:Int) (x:Tm)
 |b (n:Int) (x y:Tm)
 deriving DecidableEq
namespace Tm
def flat:Tm->List Int
 |v n=>[n]
 |k n=>[n]
 |u n x=>n::x.flat
 |b n x y=>n::(x.flat++y.flat)
def head:Tm->Int
 |v n=>n
 |k n=>n
 |u n _=>n
 |b n _ _=>n
def ok(a:Int->Nat):Tm->Prop
 |v n=>n<0
 |k n=>0<=n/\a n=0
 |u n x=>0<=n/\a n=1/\x.ok a
 |b n x y=>0<=n/\a n=2/\x.ok a/\y.ok a
theorem flat_pos(x:Tm):0<x.flat.length:=by cases x <;> simp[flat]
theorem flat_head(x:Tm):∃r,x.flat=x.head::r:=by cases x <;> exact⟨_,rfl⟩
variable {a:Int->Nat}
theorem skip_flat(ha:∀n,n<0->a n=0):∀(x:Tm)(r:List Int)(j:Nat),x.ok a->skip a (j+1) (x.flat++r)=skip a j r
 |v n,r,j,h=>by
  show skip a (j+a n) r=_;rw[ha n h,Nat.add_zero]
 |k n,r,j,h=>by
  show skip a (j+a n) r=_;rw[h.2,Nat.add_zero]
 |u n x,r,j,h=>by
  show skip a (j+a n) (x.flat++r)=_;rw[h.2.1];exact skip_flat ha x r j h.2.2
 |b n x y,r,j,h=>by
  show skip a (j+a n) ((x.flat++y.flat)++r)=_;rw[h.2.1,gZ,skip_flat ha x _ (j+1) h.2.2.1,skip_flat ha y _ j h.2.2.2]
theorem parse(ha:∀n,n<0->a n=0)(h2:∀n,a n<=2):∀(m:Nat)(l r:List Int),l.length<=m->skip a 1 l=some r->∃x:Tm,x.ok a/\l=x.flat++r
 |_,[],r,_,h=>by cases h
 |0,n::l,r,hm,h=>by simp at hm
 |m+1,n::l,r,hm,h=>by
  have hm:l.length<=m:=by simpa using hm
  have h:skip a (0+a n) l=some r:=h;rw[gAJ]at h;by_cases hn:n<0
  ·rw[ha n hn,q3l]at h;cases h;exact⟨.v n,hn,rfl⟩
  ·have:=h2 n;have h3:a n=0\/a n=1\/a n=2:=by omega
   rcases h3 with h0|h1|h2'
   ·rw[h0,q3l]at h;cases h;exact⟨.k n,⟨by omega,h0⟩,rfl⟩
   ·rw[h1]at h;obtain⟨x,hx,rfl⟩:=parse ha h2 m l r hm h;exact⟨.u n x,⟨by omega,h1,hx⟩,rfl⟩
   ·rw[h2',show 2=1+1 from rfl,q9y]at h;cases hs:skip a 1 l with
    |none=>rw[hs]at h;cases h
    |some r1=>
     rw[hs]at h;have h9:skip a 1 r1=some r:=h;obtain⟨x,hx,rfl⟩:=parse ha h2 m l r1 hm hs;obtain⟨y,hy,rfl⟩:=parse ha h2 m r1 r (by simp at hm;omega) h9;exact⟨.b n x y,⟨by omega,h2',hx,hy⟩,by simp[flat]⟩
end Tm
theorem qa3(l:List Symbol){n:Int}(h:n<0):ar l n=0:=by unfold ar;rw[if_pos h]
structure TermOk(l:List Symbol)(t:List Int):Prop where
 pos:1<=t.length
 le:t.length<=24
 node:∀n∈t,q5l l n=true
 skip:skip (ar l) 1 t=some []
theorem q85(l:List Symbol)(t:List Int):q4d l t=0<->TermOk l t:=by
 unfold q4d;constructor
 ·intro h;split at h
  ·cases h
  ·split at h
   ·cases h
   ·rename_i h1 h2;split at h
    ·rename_i h3;exact⟨by omega,by omega,qea.1 (by simpa using h2),h3⟩
    ·cases h
 ·intro h;have:=h.pos;have:=h.le;rw[if_neg (by omega),if_neg (by rw[qea.2 h.node];simp),if_pos h.skip]
theorem TermOk.tree{l:List Symbol}{t:List Int}(ok:SigOk ⟨l⟩)(h:TermOk l t):∃x:Tm,x.ok (ar l)/\t=x.flat:=by
 obtain⟨x,hx,e⟩:=Tm.parse (fun n hn=>qa3 l hn) (qqd ok) t.length t [] (gAI _) h.skip;exact⟨x,hx,by simpa using e⟩
theorem qac{t r:List Int}{e:Nat}{x:Tm}(h:t.drop e=x.flat++r):e<t.length/\t[e]?=some x.head/\e+x.flat.length<=t.length:=by
 have hl:(t.drop e).length=x.flat.length+r.length:=by rw[h,gM]
 have hp:=x.flat_pos;rw[gAA]at hl;refine⟨by omega,?_,by omega⟩
 have:(t.drop e)[0]?=some x.head:=by
  rw[h];obtain⟨r',e'⟩:=x.flat_head;rw[e'];rfl
 rwa[gV,Nat.add_zero]at this
theorem qen{t r q:List Int}{e:Nat}(h:t.drop e=q++r):t.drop (e+q.length)=r:=by
 rw[<- List.drop_drop,h,List.drop_left]
end Ev.Ty
end
section
namespace Ev.Ty
open Go Ev
open Enc (enc)
open Sm (sm)
structure AlgOk(l:List Symbol)(z:Int)(tb:List (List Int)):Prop where
 sig:SigOk ⟨l⟩
 size:1<=z/\z<=3
 len:tb.length=l.length
 rows:∀(k:Nat)(h:k<l.length)(h':k<tb.length),tb[k].length=z.toNat ^ (l[k]).arity.toNat/\∀n∈tb[k],0<=n/\n<=z-1
theorem qug{l:List Symbol}{z:Int}{tb:List (List Int)}(h:q6h ⟨l⟩ ⟨z,tb⟩=0):AlgOk l z tb:=by
 unfold q6h at h;by_cases h1:q2v ⟨l⟩=0
 case neg=>rw[if_pos h1]at h;exact absurd h h1
 rw[if_neg (by simpa using h1)]at h;split at h
 ·cases h
 rename_i h2;split at h
 ·cases h
 rename_i h3;have h3:tb.length=l.length:=by simpa using h3
 have hn:(l.zip tb).findSome? (q5b z)=none:=by
  cases hx:(l.zip tb).findSome? (q5b z)with
  |none=>rfl
  |some c=>
   simp only[hx]at h;obtain⟨x,hx,hf⟩:=List.exists_of_findSome?_eq_some hx;unfold q5b at hf;split at hf
   ·cases hf;cases h
   ·split at hf
    ·cases hf;cases h
    ·cases hf
 rw[q89]at hn;refine⟨(q5g _).1 h1,q4p.1 (by simpa using h2),h3,fun k hk hk'=>?_⟩
 have hz:(l.zip tb)[k]?=some (l[k],tb[k]):=by
  rw[List.getElem?_zip_eq_some];exact⟨gA hk,gA hk'⟩
 have:=hn _ (List.mem_of_getElem? hz);unfold q5b at this;split at this
 ·cases this
 ·rename_i h4;split at this
  ·cases this
  ·rename_i h5;refine⟨by simpa using h4,fun n hn=>?_⟩;rw[List.any_eq_true]at h5
   have:inR n 0 (z-1)=true:=by
    apply Classical.byContradiction;intro hc;exact h5 ⟨n,hn,by simpa using hc⟩
   exact q4p.1 this
def Tm.eval(z:Int)(tb:List (List Int))(vs:List Int):Tm->Int
 |v n=>vs.getD (-1-n).toNat 0
 |k n=>(tb.getD n.toNat []).getD 0 0
 |u n x=>(tb.getD n.toNat []).getD (x.eval z tb vs).toNat 0
 |b n x y=>(tb.getD n.toNat []).getD (x.eval z tb vs*z+y.eval z tb vs).toNat 0
def Tm.low(m:Int):Tm->Prop
 |v n => -m<=n
 |k _=>True
 |u _ x=>x.low m
 |b _ x y=>x.low m/\y.low m
def Tm.syms(c:Nat):Tm->Prop
 |v _=>True
 |k n=>n<c
 |u n x=>n<c/\x.syms c
 |b n x y=>n<c/\x.syms c/\y.syms c
theorem Tm.low_of{m:Int}:∀{x:Tm},(∀n∈x.flat,-m<=n)->x.low m
 |v n,h=>h n (by simp[Tm.flat])
 |k n,_=>trivial
 |u n x,h=>Tm.low_of (x:=x) fun j hj=>h j (by simp[Tm.flat,hj])
 |b n x y,h=>⟨Tm.low_of (x:=x) fun j hj=>h j (by simp[Tm.flat,hj]),Tm.low_of (x:=y) fun j hj=>h j (by simp[Tm.flat,hj])⟩
theorem Tm.syms_of{l:List Symbol}{a:Int->Nat}:∀{x:Tm},x.ok a->(∀n∈x.flat,q5l l n=true)->x.syms l.length
 |v n,_,h=>trivial
 |k n,ok,h=>by
  have:=q49.1 (h n (by simp[Tm.flat]));have:=ok.1;show n<(l.length:Int);omega
 |u n x,ok,h=>by
  have:=q49.1 (h n (by simp[Tm.flat]));have:=ok.1;exact⟨by show n<(l.length:Int);omega,Tm.syms_of (x:=x) ok.2.2 fun j hj=>h j (by simp[Tm.flat,hj])⟩
 |b n x y,ok,h=>by
  have:=q49.1 (h n (by simp[Tm.flat]));have:=ok.1;exact⟨by show n<(l.length:Int);omega,Tm.syms_of (x:=x) ok.2.2.1 fun j hj=>h j (by simp[Tm.flat,hj]),Tm.syms_of (x:=y) ok.2.2.2 fun j hj=>h j (by simp[Tm.flat,hj])⟩
section
variable {l:List Symbol}{z:Int}{tb:List (List Int)}(al:AlgOk l z tb){vs:List Int}(hv:vs.length=6)(hr:∀n∈vs,0<=n/\n<=z-1)
include al
theorem qbd{n:Int}(h0:0<=n)(h1:n<l.length):∃y:Nat,n=y/\∃(h:y<l.length)(h':y<tb.length),tb[y].length=z.toNat ^ ar l n/\(∀j∈tb[y],0<=j/\j<=z-1)/\tb.getD n.toNat []=tb[y]/\(l[y]).arity=(ar l n:Nat):=by
 obtain⟨y,rfl⟩:∃y:Nat,n=y:=⟨n.toNat,by omega⟩;have h:y<l.length:=by omega
 have h':y<tb.length:=by rw[al.len];exact h
 obtain⟨r1,r2⟩:=al.rows y h h';have ha:(l[y]).arity=(ar l y:Nat):=by simpa using qs6 al.sig (n:=y) (by omega) (by simpa using h)
 refine⟨y,rfl,h,h',?_,r2,by simp[h'],ha⟩;rw[r1,ha];simp
include hv hr
theorem Tm.eval_range:∀{x:Tm},x.ok (ar l)->x.syms l.length->x.low 6->0<=x.eval z tb vs/\x.eval z tb vs<=z-1
 |v n,ok,hs,hl=>by
  have ok:n<0:=ok;have hl : -6<=n:=hl;have h:(-1-n).toNat<vs.length:=by omega
  have e:vs.getD (-1-n).toNat 0=vs[(-1-n).toNat]:=by simp[h]
  show 0<=vs.getD (-1-n).toNat 0/\vs.getD (-1-n).toNat 0<=z-1;rw[e];exact hr _ (gG h)
 |k n,ok,hs,hl=>by
  obtain⟨y,rfl,h,h',r1,r2,r3,r4⟩:=qbd al ok.1 hs;rw[ok.2,Nat.pow_zero]at r1;have h0:0<tb[y].length:=by omega
  show 0<=(tb.getD (y:Int).toNat []).getD 0 0/\(tb.getD (y:Int).toNat []).getD 0 0<=z-1;rw[r3,show tb[y].getD 0 0=tb[y][0] by simp[h0]];exact r2 _ (gG h0)
 |u n x,ok,hs,hl=>by
  obtain⟨y,rfl,h,h',r1,r2,r3,r4⟩:=qbd al ok.1 hs.1;obtain⟨i1,i2⟩:=Tm.eval_range (x:=x) ok.2.2 hs.2 hl;rw[ok.2.1,Nat.pow_one]at r1;have h0:(x.eval z tb vs).toNat<tb[y].length:=by omega
  show 0<=(tb.getD (y:Int).toNat []).getD (x.eval z tb vs).toNat 0/\(tb.getD (y:Int).toNat []).getD (x.eval z tb vs).toNat 0<=z-1;rw[r3,show tb[y].getD (x.eval z tb vs).toNat 0=tb[y][(x.eval z tb vs).toNat] by simp[h0]];exact r2 _ (gG h0)
 |b n x w,ok,hs,hl=>by
  obtain⟨y,rfl,h,h',r1,r2,r3,r4⟩:=qbd al ok.1 hs.1;obtain⟨i1,i2⟩:=Tm.eval_range (x:=x) ok.2.2.1 hs.2.1 hl.1;obtain⟨j1,j2⟩:=Tm.eval_range (x:=w) ok.2.2.2 hs.2.2 hl.2;rw[ok.2.1]at r1;have hz:=al.size
  have h0:(x.eval z tb vs*z+w.eval z tb vs).toNat<tb[y].length:=by
   rw[r1];have:z=1\/z=2\/z=3:=by omega
   rcases this with rfl|rfl|rfl <;> simp <;> omega
  show 0<=(tb.getD (y:Int).toNat []).getD (x.eval z tb vs*z+w.eval z tb vs).toNat 0/\(tb.getD (y:Int).toNat []).getD (x.eval z tb vs*z+w.eval z tb vs).toNat 0<=z-1;rw[r3,show tb[y].getD (x.eval z tb vs*z+w.eval z tb vs).toNat 0=tb[y][(x.eval z tb vs*z+w.eval z tb vs).toNat] by simp[h0]];exact r2 _ (gG h0)
end
theorem q7l{α:Type}{v:List α}{i:Nat}{d:α}(h:i<v.length):v.getD i d=v[i]:=by simp[h]
section
variable {l:List Symbol}{z:Int}{tb:List (List Int)}(al:AlgOk l z tb){vs:List Int}(hv:vs.length=6)(hr:∀n∈vs,0<=n/\n<=z-1)
include al hv hr
theorem q0j{t:List Int}(ht:t.length<=4294967296):∀(x:Tm)(r:List Int)(e:Nat),t.drop e=x.flat++r->x.ok (ar l)->x.syms l.length->x.low 6->
 Call F.q0j [.agg [.int .i64 z,slc tb],.agg [slc l],slc vs,slc t,.int .i64 e] (.tup [.int .i64 (x.eval z tb vs),.int .i64 (e+x.flat.length:Nat)]):=by
 intro x;induction x with
 |v n=>
  intro r e he ok hs hl;obtain⟨h1,h2,h3⟩:=qac he;have ok:n<0:=ok;have hl : -6<=n:=hl;refine q0r rfl 4 ((q0j.ev _ _ _ _ _ _ _).trans ?_);obtain⟨y,hy⟩:∃y:Nat,-1-n=y:=⟨(-1-n).toNat,by omega⟩;have hyv:y<vs.length:=by omega
  have hyl:vs[y]?=some vs[y]:=gA hyv;have hw:IntKind.wrap .i64 (-1-n)=y:=by rw[q1o (by omega),hy]
  simp only[evz,Nat.reduceLT,h1,h2,q1x,Tm.head,ok,hw,hyv,hyl];rw[q0l (by omega)];simp only[Tm.eval,hy,gR,q7l hyv,Tm.flat,List.length_singleton]
 |k n=>
  intro r e he ok hs hl;obtain⟨h1,h2,h3⟩:=qac he;obtain⟨y,rfl,hy,hy',r1,r2,r3,r4⟩:=qbd al ok.1 hs;have hyl:l[y]?=some l[y]:=gA hy;have hyt:tb[y]?=some tb[y]:=gA hy';rw[ok.2,Nat.pow_zero]at r1;have hn:¬((y:Int)<0):=by omega
  have h0:(0:Nat)<tb[y].length:=by omega
  have h0l:tb[y][0]?=some tb[y][0]:=gA h0;refine q0r rfl 4 ((q0j.ev _ _ _ _ _ _ _).trans ?_);simp only[evz,Nat.reduceLT,h1,h2,q1x,Tm.head,hn,hy,hyl,q2q,r4,ok.2];refine(q0j.next0 4 3 _).trans ((q0j.round0 _ _ _ _ _ _ _ _ _ _ _ _).trans ?_);rw[q0l (by omega)];have hz0:inB 0 tb[y].length=true:=by rw[show(0:Int)=((0:Nat):Int)from rfl,q6v];simpa using h0
  simp only[evz,Nat.reduceLT,hy',hyt,q67,hz0,Int.toNat_zero,h0l,q1x,Int.lt_irrefl,Int.ofNat_zero,Int.natCast_zero];simp only[Tm.eval,gR,q7l hy',q7l h0,Tm.flat,List.length_singleton]
 |u n x ihx=>
  intro r e he ok hs hl;obtain⟨h1,h2,h3⟩:=qac he;obtain⟨y,rfl,hy,hy',r1,r2,r3,r4⟩:=qbd al ok.1 hs.1;have hyl:l[y]?=some l[y]:=gA hy;have hyt:tb[y]?=some tb[y]:=gA hy';rw[ok.2.1,Nat.pow_one]at r1;have hn:¬((y:Int)<0):=by omega
  obtain⟨i1,i2⟩:=Tm.eval_range al hv hr ok.2.2 hs.2 hl;obtain⟨q,hq⟩:∃q:Nat,x.eval z tb vs=q:=⟨(x.eval z tb vs).toNat,by omega⟩;have hz:=al.size;have h0:q<tb[y].length:=by omega
  have h0l:tb[y][q]?=some tb[y][q]:=gA h0;have he1:t.drop (e+1)=x.flat++r:=qen (q:=[(y:Int)]) (by simpa[Tm.flat]using he);have c1:=ihx r (e+1) he1 ok.2.2 hs.2 hl;refine q0r rfl 4 ((q0j.ev _ _ _ _ _ _ _).trans ?_);simp only[evz,Nat.reduceLT,h1,h2,q1x,Tm.head,hn,hy,hyl,q2q,r4,ok.2.1];rw[q0l (by omega)];refine(q0j.next0 4 3 _).trans ((q0j.round0 _ _ _ _ _ _ _ _ _ _ _ _).trans ?_);simp only[evz,Nat.reduceLT,c1.eq,hq,show((1:Nat):Int)=1 from rfl,show((2:Nat):Int)=2 from rfl,Int.reduceLT,Int.reduceAdd,q1o (x:=0*z) (by omega),q1o (x:=0*z+(q:Int)) (by omega),q1o (x:=(1:Int)) (by omega)];refine(q0j.next0 4 2 _).trans ((q0j.round0 _ _ _ _ _ _ _ _ _ _ _ _).trans ?_);simp only[evz,Nat.reduceLT,show((1:Nat):Int)=1 from rfl,show((2:Nat):Int)=2 from rfl,Int.reduceLT,Int.reduceAdd,Int.zero_mul,Int.zero_add,hy',hyt,q67,h0,h0l,q1x];simp only[Tm.eval,hq,gR,q7l hy',q7l h0,Tm.flat,gAB];rw[show e+1+x.flat.length=e+(x.flat.length+1) by omega]
 |b n x w ihx ihw=>
  intro r e he ok hs hl;obtain⟨h1,h2,h3⟩:=qac he;obtain⟨y,rfl,hy,hy',r1,r2,r3,r4⟩:=qbd al ok.1 hs.1;have hyl:l[y]?=some l[y]:=gA hy;have hyt:tb[y]?=some tb[y]:=gA hy';rw[ok.2.1]at r1;have hn:¬((y:Int)<0):=by omega
  obtain⟨i1,i2⟩:=Tm.eval_range al hv hr ok.2.2.1 hs.2.1 hl.1;obtain⟨j1,j2⟩:=Tm.eval_range al hv hr ok.2.2.2 hs.2.2 hl.2;obtain⟨q,hq⟩:∃q:Nat,x.eval z tb vs=q:=⟨(x.eval z tb vs).toNat,by omega⟩;obtain⟨p,hp⟩:∃p:Nat,w.eval z tb vs=p:=⟨(w.eval z tb vs).toNat,by omega⟩;obtain⟨zn,hzn⟩:∃zn:Nat,z=zn:=⟨z.toNat,by have:=al.size;omega⟩;have hz:=al.size
  have h0:q*zn+p<tb[y].length:=by
   rw[r1];have:zn=1\/zn=2\/zn=3:=by omega
   rcases this with h|h|h <;> subst h <;> subst hzn <;> simp <;> omega
  have hb:q*zn<=6:=by
   have h4:q<=2:=by omega
   have h5:zn<=3:=by omega
   exact Nat.mul_le_mul h4 h5
  have h0l:tb[y][q*zn+p]?=some tb[y][q*zn+p]:=gA h0;have he1:t.drop (e+1)=x.flat++(w.flat++r):=qen (q:=[(y:Int)]) (by simpa[Tm.flat]using he);have he2:t.drop (e+1+x.flat.length)=w.flat++r:=qen he1;have c1:=ihx _ (e+1) he1 ok.2.2.1 hs.2.1 hl.1;have c2:=ihw _ _ he2 ok.2.2.2 hs.2.2 hl.2;refine q0r rfl 4 ((q0j.ev _ _ _ _ _ _ _).trans ?_);simp only[evz,Nat.reduceLT,h1,h2,q1x,Tm.head,hn,hy,hyl,q2q,r4,ok.2.1];rw[q0l (by omega)];refine(q0j.next0 4 3 _).trans ((q0j.round0 _ _ _ _ _ _ _ _ _ _ _ _).trans ?_);simp only[evz,Nat.reduceLT,c1.eq,hq,show((1:Nat):Int)=1 from rfl,show((2:Nat):Int)=2 from rfl,Int.reduceLT,Int.reduceAdd,q1o (x:=0*z) (by omega),q1o (x:=0*z+(q:Int)) (by omega),q1o (x:=(1:Int)) (by omega)];refine(q0j.next0 4 2 _).trans ((q0j.round0 _ _ _ _ _ _ _ _ _ _ _ _).trans ?_);have hm:((q:Int)*z)=((q*zn:Nat):Int):=by rw[hzn];simp
  simp only[evz,Nat.reduceLT,c2.eq,hp,show((1:Nat):Int)=1 from rfl,show((2:Nat):Int)=2 from rfl,Int.reduceLT,Int.reduceAdd,Int.zero_mul,Int.zero_add,hm,q1o (x:=((q*zn:Nat):Int)) (by omega),q1o (x:=((q*zn:Nat):Int)+(p:Int)) (by omega),q1o (x:=(2:Int)) (by omega)];refine(q0j.next0 4 1 _).trans ((q0j.round0 _ _ _ _ _ _ _ _ _ _ _ _).trans ?_);have hc:((q*zn:Nat):Int)+(p:Int)=((q*zn+p:Nat):Int):=by omega
  simp only[evz,Nat.reduceLT,show((1:Nat):Int)=1 from rfl,show((2:Nat):Int)=2 from rfl,Int.reduceLT,Int.reduceAdd,hc,hy',hyt,q67,h0,h0l,q1x];simp only[Tm.eval,hq,hp,hm,hc,gR,q7l hy',q7l h0,Tm.flat,gAB,gM];rw[show e+1+x.flat.length+w.flat.length=e+(x.flat.length+w.flat.length+1) by omega]
theorem q16{t:List Int}(hn:∀n∈t,q5l l n=true)(ht:t.length<=4294967296):∀(x:Tm)(r:List Int)(e:Nat),t.drop e=x.flat++r->x.ok (ar l)->x.syms l.length->x.low 6->
 Call F.q16 [.rref [slc l] 0,.rref [.int .i64 z,slc tb] 0,slc vs,slc t,.int .i64 e] (.int .i64 (x.eval z tb vs)):=by
 have ends:∀(x:Tm)(r:List Int)(e:Nat),t.drop e=x.flat++r->x.ok (ar l)->Call F.q21 [.rref [slc l] 0,slc t,.int .i64 e] (.int .i64 (e+x.flat.length:Nat)):=fun x r e he ok=>by
  have h3:=(qac he).2.2;have:=q21 al.sig t hn ht e (by omega);rw[he,Tm.skip_flat (fun n hn=>qa3 l hn) x r 0 ok,q3l]at this;have hl:(t.drop e).length=x.flat.length+r.length:=by rw[he,gM]
  rw[gAA]at hl;rwa[show q8e (-1) t (some r)=((e+x.flat.length:Nat):Int) by simp only[q8e];omega]at this
 intro x;induction x with
 |v n=>
  intro r e he ok hs hl;obtain⟨h1,h2,h3⟩:=qac he;have ok:n<0:=ok;have hl : -6<=n:=hl;refine q0r rfl 4 ((q16.ev _ _ _ _ _ _ _).trans ?_);obtain⟨y,hy⟩:∃y:Nat,-1-n=y:=⟨(-1-n).toNat,by omega⟩;have hyv:y<vs.length:=by omega
  have hyl:vs[y]?=some vs[y]:=gA hyv;have hw:IntKind.wrap .i64 (-1-n)=y:=by rw[q1o (by omega),hy]
  simp only[evz,Nat.reduceLT,h1,h2,q1x,Tm.head,ok,hw,hyv,hyl];simp only[Tm.eval,hy,gR,q7l hyv]
 |k n=>
  intro r e he ok hs hl;obtain⟨h1,h2,h3⟩:=qac he;obtain⟨y,rfl,hy,hy',r1,r2,r3,r4⟩:=qbd al ok.1 hs;have hyl:l[y]?=some l[y]:=gA hy;have hyt:tb[y]?=some tb[y]:=gA hy';rw[ok.2,Nat.pow_zero]at r1;have hn:¬((y:Int)<0):=by omega
  have h0:(0:Nat)<tb[y].length:=by omega
  have h0l:tb[y][0]?=some tb[y][0]:=gA h0;refine q0r rfl 4 ((q16.ev _ _ _ _ _ _ _).trans ?_);simp only[evz,Nat.reduceLT,h1,h2,q1x,Tm.head,hn];refine(q16.next0 4 3 _).trans ((q16.round0 _ _ _ _ _ _ _ _ _ _ _).trans ?_);have hz0:inB 0 tb[y].length=true:=by rw[show(0:Int)=((0:Nat):Int)from rfl,q6v];simpa using h0
  simp only[evz,Nat.reduceLT,h1,h2,q1x,Tm.head,hy,hyl,q2q,r4,ok.2,hy',hyt,q67,hz0,Int.toNat_zero,h0l,Int.lt_irrefl,Int.ofNat_zero,Int.natCast_zero];simp only[Tm.eval,gR,q7l hy',q7l h0]
 |u n x ihx=>
  intro r e he ok hs hl;obtain⟨h1,h2,h3⟩:=qac he;obtain⟨y,rfl,hy,hy',r1,r2,r3,r4⟩:=qbd al ok.1 hs.1;have hyl:l[y]?=some l[y]:=gA hy;have hyt:tb[y]?=some tb[y]:=gA hy';rw[ok.2.1,Nat.pow_one]at r1;have hn:¬((y:Int)<0):=by omega
  obtain⟨i1,i2⟩:=Tm.eval_range al hv hr ok.2.2 hs.2 hl;obtain⟨q,hq⟩:∃q:Nat,x.eval z tb vs=q:=⟨(x.eval z tb vs).toNat,by omega⟩;have hz:=al.size;have h0:q<tb[y].length:=by omega
  have h0l:tb[y][q]?=some tb[y][q]:=gA h0;have he1:t.drop (e+1)=x.flat++r:=qen (q:=[(y:Int)]) (by simpa[Tm.flat]using he);have c1:=ihx r (e+1) he1 ok.2.2 hs.2 hl;have d1:=ends x r (e+1) he1 ok.2.2;refine q0r rfl 4 ((q16.ev _ _ _ _ _ _ _).trans ?_);simp only[evz,Nat.reduceLT,h1,h2,q1x,Tm.head,hn];rw[q0l (by omega)];refine(q16.next0 4 3 _).trans ((q16.round0 _ _ _ _ _ _ _ _ _ _ _).trans ?_);simp only[evz,Nat.reduceLT,h1,h2,q1x,Tm.head,hy,hyl,q2q,r4,ok.2.1,c1.eq,d1.eq,hq,show((1:Nat):Int)=1 from rfl,show((2:Nat):Int)=2 from rfl,Int.reduceLT,Int.reduceAdd,q1o (x:=0*z) (by omega),q1o (x:=0*z+(q:Int)) (by omega),q1o (x:=(1:Int)) (by omega)];refine(q16.next0 4 2 _).trans ((q16.round0 _ _ _ _ _ _ _ _ _ _ _).trans ?_);simp only[evz,Nat.reduceLT,h1,h2,q1x,Tm.head,hy,hyl,q2q,r4,ok.2.1,show((1:Nat):Int)=1 from rfl,show((2:Nat):Int)=2 from rfl,Int.reduceLT,Int.reduceAdd,Int.zero_mul,Int.zero_add,hy',hyt,q67,h0,h0l];simp only[Tm.eval,hq,gR,q7l hy',q7l h0]
 |b n x w ihx ihw=>
  intro r e he ok hs hl;obtain⟨h1,h2,h3⟩:=qac he;obtain⟨y,rfl,hy,hy',r1,r2,r3,r4⟩:=qbd al ok.1 hs.1;have hyl:l[y]?=some l[y]:=gA hy;have hyt:tb[y]?=some tb[y]:=gA hy';rw[ok.2.1]at r1;have hn:¬((y:Int)<0):=by omega
  obtain⟨i1,i2⟩:=Tm.eval_range al hv hr ok.2.2.1 hs.2.1 hl.1;obtain⟨j1,j2⟩:=Tm.eval_range al hv hr ok.2.2.2 hs.2.2 hl.2;obtain⟨q,hq⟩:∃q:Nat,x.eval z tb vs=q:=⟨(x.eval z tb vs).toNat,by omega⟩;obtain⟨p,hp⟩:∃p:Nat,w.eval z tb vs=p:=⟨(w.eval z tb vs).toNat,by omega⟩;obtain⟨zn,hzn⟩:∃zn:Nat,z=zn:=⟨z.toNat,by have:=al.size;omega⟩;have hz:=al.size
  have h0:q*zn+p<tb[y].length:=by
   rw[r1];have:zn=1\/zn=2\/zn=3:=by omega
   rcases this with h|h|h <;> subst h <;> subst hzn <;> simp <;> omega
  have hb:q*zn<=6:=by
   have h4:q<=2:=by omega
   have h5:zn<=3:=by omega
   exact Nat.mul_le_mul h4 h5
  have h0l:tb[y][q*zn+p]?=some tb[y][q*zn+p]:=gA h0;have he1:t.drop (e+1)=x.flat++(w.flat++r):=qen (q:=[(y:Int)]) (by simpa[Tm.flat]using he);have he2:t.drop (e+1+x.flat.length)=w.flat++r:=qen he1;have c1:=ihx _ (e+1) he1 ok.2.2.1 hs.2.1 hl.1;have d1:=ends x _ (e+1) he1 ok.2.2.1;have c2:=ihw _ _ he2 ok.2.2.2 hs.2.2 hl.2;have d2:=ends w _ _ he2 ok.2.2.2;refine q0r rfl 4 ((q16.ev _ _ _ _ _ _ _).trans ?_);simp only[evz,Nat.reduceLT,h1,h2,q1x,Tm.head,hn];rw[q0l (by omega)];refine(q16.next0 4 3 _).trans ((q16.round0 _ _ _ _ _ _ _ _ _ _ _).trans ?_);simp only[evz,Nat.reduceLT,h1,h2,q1x,Tm.head,hy,hyl,q2q,r4,ok.2.1,c1.eq,d1.eq,hq,show((1:Nat):Int)=1 from rfl,show((2:Nat):Int)=2 from rfl,Int.reduceLT,Int.reduceAdd,q1o (x:=0*z) (by omega),q1o (x:=0*z+(q:Int)) (by omega),q1o (x:=(1:Int)) (by omega)];refine(q16.next0 4 2 _).trans ((q16.round0 _ _ _ _ _ _ _ _ _ _ _).trans ?_);have hm:((q:Int)*z)=((q*zn:Nat):Int):=by rw[hzn];simp
  simp only[evz,Nat.reduceLT,h1,h2,q1x,Tm.head,hy,hyl,q2q,r4,ok.2.1,c2.eq,d2.eq,hp,show((1:Nat):Int)=1 from rfl,show((2:Nat):Int)=2 from rfl,Int.reduceLT,Int.reduceAdd,Int.zero_mul,Int.zero_add,hm,q1o (x:=((q*zn:Nat):Int)) (by omega),q1o (x:=((q*zn:Nat):Int)+(p:Int)) (by omega),q1o (x:=(2:Int)) (by omega)];refine(q16.next0 4 1 _).trans ((q16.round0 _ _ _ _ _ _ _ _ _ _ _).trans ?_);have hc:((q*zn:Nat):Int)+(p:Int)=((q*zn+p:Nat):Int):=by omega
  simp only[evz,Nat.reduceLT,h1,h2,q1x,Tm.head,hy,hyl,q2q,r4,ok.2.1,show((1:Nat):Int)=1 from rfl,show((2:Nat):Int)=2 from rfl,Int.reduceLT,Int.reduceAdd,hc,hy',hyt,q67,h0,h0l];simp only[Tm.eval,hq,hp,hm,hc,gR,q7l hy',q7l h0]
end
theorem q1y(l:List Int)(hl:l.length<=4294967296):Call F.q1y [slc l] (.int .i64 ((l.find? fun n=>decide (n≠0)).getD 0)):=by
 refine q0r rfl (l.length+1) ((q1y.ev _ _).trans ?_)
 have:=q8w (l:=l) (g:=fun n=>if n≠0 then some (some (.int .i64 n,[]))else none) (z:=some (.int .i64 0,[])) (S:=fun m k=>q1y.at0 (l.length+1) m (q1y.st0 0 (cells l) l.length (k:Nat)))
  (fun m k h=>by
   have hlk:l[k]?=some l[k]:=gA h;simp only[q1y.next0,q1y.round0,evz,Nat.reduceLT,h,hlk,q1x];rw[q0l (by omega)];by_cases e:l[k]=0 <;> simp[e])
  (fun m=>by simp only[q1y.next0,q1y.round0,evz,Nat.reduceLT,gAK]) (gAR _)
 simp only[q5h,q3e];refine this.trans ?_;clear this;induction l with
 |nil=>rfl
 |cons x l ih=>
  rw[List.findSome?_cons,List.find?_cons];by_cases e:x=0
  ·simpa[e]using ih (by simp at hl;omega)
  ·simp[e]
theorem q9k(a b:Int):Call F.q5k [.sl 1 [.int .i64 a,.int .i64 b]] (.int .i64 (if a=0 then b else a)):=by
 refine q0r rfl 0 ((q5k.ev _ _).trans ?_);have:=q1y [a,b] (by simp);simp only[evz,Nat.reduceLT,show LIM F.q1y [.sl 1 [.int .i64 a,.int .i64 b]]=_ from this];by_cases h:a=0
 ·by_cases h':b=0 <;> simp[h,h']
 ·simp[h]
theorem q2h(t:List Int)(hl:t.length<=4294967296):Call F.q2h [slc t] (.bool (!t.any fun n=>decide (n < -6))):=by
 refine q0r rfl (t.length+1) ((q2h.ev _ _).trans ?_);refine(q8d (l:=t) (p:=fun n=>decide (n < -6)) (r:=some (.bool false,[])) (z:=some (.bool true,[])) (S:=fun m k=>q2h.at0 (t.length+1) m (q2h.st0 (cells t) (k:Nat))) (fun m k h=>?_) (fun m=>?_) (gAR _)).trans ?_
 ·have hlk:t[k]?=some t[k]:=gA h;simp only[q2h.next0,q2h.round0,evz,Nat.reduceLT,h,hlk,q1x];rw[q0l (by omega)];simp only[gS]
 ·simp only[q2h.next0,q2h.round0,evz,Nat.reduceLT,gAK]
 ·cases t.any fun n=>decide (n < -6) <;> rfl
open Classical in
noncomputable def q2z(l:List Symbol)(t:List Int):Tm:=if h:∃x:Tm,x.ok (ar l)/\t=x.flat then h.choose else .k 0
theorem q3h{l:List Symbol}{t:List Int}(ok:SigOk ⟨l⟩)(h:TermOk l t):(q2z l t).ok (ar l)/\t=(q2z l t).flat:=by
 have:=h.tree ok;unfold q2z;rw[dif_pos this];exact this.choose_spec
theorem qlf{s:Signature}{a:Algebra}(h:q6h s a=0):q2v s=0:=by
 unfold q6h at h;by_cases h1:q2v s=0
 ·exact h1
 ·rw[if_pos h1]at h;exact absurd h h1
section
variable (l:List Symbol)(z:Int)(tb:List (List Int))(vs t:List Int)(hs:l.length<=4294967296)(ht:sm 4294967296 tb)(hl:t.length<=4294967296)
include hs ht hl
end
theorem q7c:∀l:List Int,q75 l=cells l
 |[]=>rfl
 |x::l=>by rw[q83,<- q7c l];rfl
def q5z(l:List Int):List Int:=l.mergeSort fun x y=>decide (x<=y)
theorem q5c(l:List Int)(h:l.length<=4294967296):LIM F.q5c [slc l]=some (.tup [],[slc (q5z l)]):=by
 refine qer (e:=sortE) rfl (Ev.of fun m=>?_);show((qbi (cells l)).bind fun zs=>bif decide (zs.length<4611686018427387904)then some (T.tup [],[T.sl 1 (q75 (zs.mergeSort fun x y=>decide (x<=y)))])else none)=_;rw[<- q7c,q9u,Option.bind_some,decide_eq_true (by omega),cond_true,q7c];rfl
theorem q4m(l:List Int)(h:l.length<=4294967296):Call F.q4m [slc l] (slc (Lib.compact l)):=by
 refine qer (e:=compactE) rfl (Ev.of fun m=>?_);show((qbi (cells l)).bind fun zs=>bif decide (zs.length<4611686018427387904)then some (T.sl 1 (q75 (Lib.compact zs)),[])else none)=_;rw[<- q7c,q9u,Option.bind_some,decide_eq_true (by omega),cond_true,q7c];rfl
theorem q8n{l:List Int}{x:Int}:x∈Lib.compact l<->x∈l:=by
 unfold Lib.compact Lib.compactUpTo;simp only[List.mem_map,List.mem_filter,List.mem_range];constructor
 ·rintro⟨j,⟨hj,_⟩,rfl⟩;rw[getElem!_pos _ j (by simpa using hj)];simp
 ·intro h;obtain⟨i,hi,rfl⟩:=List.mem_iff_getElem.1 h
  have:∀j,(hj:j<l.length)->∃k,(k<l.length/\Lib.keeps l.toArray k=true)/\l.toArray[k]! = l[j]:=by
   intro j;induction j with
   |zero=>intro hj;exact⟨0,⟨hj,by simp[Lib.keeps]⟩,by simp[hj]⟩
   |succ j ih=>
    intro hj;by_cases e:l[j+1]=l[j]
    ·obtain⟨k,hk,he⟩:=ih (by omega);exact⟨k,hk,by rw[he,e]⟩
    ·refine⟨j+1,⟨hj,?_⟩,by simp[hj]⟩;have hj':j<l.length:=by omega
     simp[Lib.keeps,hj,hj',e]
  exact this i hi
theorem q8t(l:List Int):(Lib.compact l).length<=l.length:=qi1 l
def vars(t:List Int):List Int:=(t.filter fun n=>decide (n<0)).map fun n => -1-n
theorem qpi{t:List Int}{v:Int}:v∈vars t<->0<=v/\(-1-v)∈t:=by
 unfold vars;simp only[List.mem_map,List.mem_filter,gS];constructor
 ·rintro⟨n,⟨hn,h0⟩,rfl⟩;exact⟨by omega,by rw[show -1-(-1-n)=n by omega];exact hn⟩
 ·rintro⟨h0,h⟩;exact⟨-1-v,⟨h,by omega⟩,by omega⟩
theorem qh9(t:List Int):(vars t).length<=t.length:=by
 unfold vars;rw[gAG];exact List.length_filter_le _ _
def qal(l:List (List Int)):List Int:=Lib.compact (q5z (l.flatMap vars))
theorem q8g{l:List (List Int)}{v:Int}:v∈qal l<->0<=v/\∃t∈l,(-1-v)∈t:=by
 unfold qal q5z;rw[q8n,List.mem_mergeSort,List.mem_flatMap];constructor
 ·rintro⟨t,ht,h⟩;obtain⟨h0,h1⟩:=qpi.1 h;exact⟨h0,t,ht,h1⟩
 ·rintro⟨h0,t,ht,h1⟩;exact⟨t,ht,qpi.2 ⟨h0,h1⟩⟩
theorem qbe:∀l:List (List Int),(l.flatMap vars).length<=(l.map List.length).sum
 |[]=>by simp
 |t::l=>by
  rw[gAN,gM,List.map_cons,List.sum_cons];have:=qh9 t;have:=qbe l;omega
theorem qde(l:List (List Int)):(qal l).length<=(l.map List.length).sum:=by
 unfold qal;refine Nat.le_trans (q8t _) ?_;unfold q5z;rw[List.length_mergeSort];exact qbe l
theorem q0u(l:List (List Int))(hl:l.length<=24)(ht:∀t∈l,t.length<=4294967296/\∀n∈t,-12<=n)(hsum:(l.map List.length).sum<=4294967296):Call F.q0u [slc l] (slc (qal l)):=by
 obtain⟨N,hN⟩:∃N,N=4294967297:=⟨_,rfl⟩
 have inner:∀(L0:St->R)(x0:List T)(x1 x2:Int)(t:List Int),(∀n∈t,-12<=n)->∀m k (acc:List Int),k<=t.length->t.length<m+k->acc.length+t.length<=k+4294967296->t.length<=4294967296->
  q0u.at2 N L0 m (q0u.st2 x0 x1 x2 (cells t) t.length (k:Nat) (cells acc))=L0 (q0u.st0 x0 x1 (IntKind.wrap .i64 (x2+1)) (cells (acc++vars (t.drop k)))):=by
  intro L0 x0 x1 x2 t hn m;induction m with
  |zero=>intros;omega
  |succ m ih=>
   intro k acc hk hm hacc htl;by_cases h:k<t.length
   ·have hlk:t[k]?=some t[k]:=gA h;simp only[q0u.next2,q0u.round2,evz,Nat.reduceLT,h,hlk,q1x];rw[q0l (by omega),gH h];have hge:=hn t[k] (gG h);by_cases h0:t[k]<0
    ·have hble:Nat.ble (((cells acc).length+1)*8) (140737488355328*1)=true:=by
      rw[Nat.ble_eq,q0k,q3e];omega
     rw[q1o (by omega),q2f,hble,ih (k+1) (acc++[-1-t[k]]) (by omega) (by omega) (by rw[gM];simp;omega) htl];simp only[h0,evz,Nat.reduceLT,vars,List.filter_cons,List.map_cons,gZ,List.singleton_append]
    ·rw[ih (k+1) acc (by omega) (by omega) (by omega) htl];simp only[h0,evz,Nat.reduceLT,vars,List.filter_cons,Bool.false_eq_true]
   ·obtain rfl:k=t.length:=by omega
    simp only[q0u.next2,q0u.round2,evz,Nat.reduceLT,gAK,List.drop_length,vars,List.filter_nil,List.map_nil,gAD]
 have outer:∀m k (acc:List Int),k<=l.length->l.length<m+k->acc.length+((l.drop k).map List.length).sum<=4294967296->
  q0u.at0 N m (q0u.st0 (cells l) l.length (k:Nat) (cells acc))=some (slc (Lib.compact (q5z (acc++(l.drop k).flatMap vars))),[]):=by
  intro m;induction m with
  |zero=>intros;omega
  |succ m ih=>
   intro k acc hk hm hacc;by_cases h:k<l.length
   ·have hlk:l[k]?=some l[k]:=gA h;obtain⟨q1,q2⟩:=ht l[k] (gG h);rw[gH h,List.map_cons,List.sum_cons]at hacc;simp only[q0u.next0,q0u.round0,evz,Nat.reduceLT,h,hlk,q67];have hin:=inner (q0u.at0 N m) (cells l) l.length (k:Nat) l[k] q2 N 0 acc (by omega) (by omega) (by omega) q1;rw[List.drop_zero,q0l (by omega)]at hin;refine Eq.trans hin ?_;have:=qh9 l[k];rw[ih (k+1) (acc++vars l[k]) (by omega) (by omega) (by rw[gM];omega),gH h,gAN,gZ]
   ·obtain rfl:k=l.length:=by omega
    rw[List.drop_length]at hacc ⊢;have hs:=q5c acc (by simpa using hacc);have hc:=q4m (q5z acc) (by unfold q5z;rw[List.length_mergeSort];simpa using hacc);simp only[q0u.next0,q0u.round0,evz,Nat.reduceLT,gAK,List.flatMap_nil,gAD];simp only[hs,hc.eq,evz,Nat.reduceLT]
 refine q0r rfl N ((q0u.ev _ _).trans ?_);have:=outer N 0 [] (by omega) (by omega) (by simpa using hsum);rw[List.drop_zero,List.nil_append]at this;simp only[q5h,qsx];exact this
def low6(t:List Int):Bool := !t.any fun n=>decide (n < -6)
theorem qcc{t:List Int}:low6 t=true<->∀n∈t,-6<=n:=by
 unfold low6;rw[Bool.not_eq_true',List.any_eq_false];constructor
 ·intro h n hn;have:=h n hn;simpa using this
 ·intro h n hn;simpa using h n hn
def q3g(l:List Symbol)(e:Equation):Int:=
 if q4d l e.left≠0 then q4d l e.left else if q4d l e.right≠0 then q4d l e.right else if low6 e.left=true then(if low6 e.right=true then 0 else 3)else 3
def q4r(l:List Symbol)(es:List Equation):Int:=
 if 12<es.length then 2 else(es.findSome? fun e=>if q3g l e≠0 then some (q3g l e)else none).getD 0
def q9l(e:Equation):Bool:=decide (0<=e.left.headD 0) && !e.right.any fun n=>decide (n<0/\n∉e.left)
def q8j(l:List Symbol)(es:List Equation):Int:=if q4r l es≠0 then q4r l es else if(es.any fun e=>!q9l e)=true then 1 else 0
def q40(s:Signature)(es:List Equation):Int:=if q2v s≠0 then q2v s else q8j s.symbols es
structure EqOk(l:List Symbol)(e:Equation):Prop where
 left:TermOk l e.left
 right:TermOk l e.right
 lowL:∀n∈e.left,-6<=n
 lowR:∀n∈e.right,-6<=n
theorem qe9{l:List Symbol}{e:Equation}:q3g l e=0<->EqOk l e:=by
 unfold q3g;constructor
 ·intro h;by_cases h1:q4d l e.left=0
  ·by_cases h2:q4d l e.right=0
   ·by_cases h3:low6 e.left=true
    ·by_cases h4:low6 e.right=true
     ·exact⟨(q85 _ _).1 h1,(q85 _ _).1 h2,qcc.1 h3,qcc.1 h4⟩
     ·simp[h1,h2,h3,h4]at h
    ·simp[h1,h2,h3]at h
   ·simp[h1,h2]at h
  ·simp[h1]at h
 ·intro h;simp[(q85 _ _).2 h.left,(q85 _ _).2 h.right,qcc.2 h.lowL,qcc.2 h.lowR]
theorem q8v{l:List Symbol}{es:List Equation}:q4r l es=0<->es.length<=12/\∀e∈es,EqOk l e:=by
 unfold q4r;by_cases h:12<es.length
 ·rw[if_pos h];constructor
  ·intro h;cases h
  ·intro h';omega
 ·rw[if_neg h]
  have:(es.findSome? fun e=>if q3g l e≠0 then some (q3g l e)else none).getD 0=0<->∀e∈es,q3g l e=0:=by
   cases hf:es.findSome? fun e=>if q3g l e≠0 then some (q3g l e)else none with
   |none=>
    rw[q89]at hf;refine⟨fun _ e he=>?_,fun _=>rfl⟩;have:=hf e he;by_cases h:q3g l e=0
    ·exact h
    ·simp[h]at this
   |some c=>
    obtain⟨e,he,h1⟩:=List.exists_of_findSome?_eq_some hf;by_cases h:q3g l e=0
    ·simp[h]at h1
    ·simp[h]at h1;subst h1;exact⟨fun h'=>absurd h' h,fun h'=>absurd (h' e he) h⟩
  rw[this];constructor
  ·intro h';exact⟨by omega,fun e he=>qe9.1 (h' e he)⟩
  ·intro h' e he;exact qe9.2 (h'.2 e he)
theorem TermOk.ge{l:List Symbol}{t:List Int}(h:TermOk l t):∀n∈t,-12<=n:=fun n hn=>by
 rcases q49.1 (h.node n hn)with h|h <;> omega
theorem q1l(l:List Int)(x:Int)(hl:l.length<=4294967296):Call F.q1l [slc l,.int .i64 x] (.bool (decide (x∈l))):=by
 have hi:Call F.q0e [slc l,.int .i64 x] (.int .i64 (idx (fun y=>decide (x=y)) l)):=by
  refine q0r rfl (l.length+1) ((q0e.ev _ _ _).trans ?_);simp only[evz,Nat.reduceLT];refine q8u (S:=fun m k=>q0e.at0 (l.length+1) m (q0e.st0 (cells l) x l.length (k:Nat))) (fun m k h=>?_) (fun m=>?_) (gAR _)
  ·have hlk:l[k]?=some l[k]:=gA h;simp only[q0e.next0,q0e.round0,evz,Nat.reduceLT,h,hlk,q1x];rw[q0l (by omega)];by_cases e:x=l[k] <;> simp[e]
  ·simp only[q0e.next0,q0e.round0,evz,Nat.reduceLT,gAK]
 refine q0r rfl 0 ((q1l.ev _ _ _).trans ?_);simp only[evz,Nat.reduceLT,hi.eq,q8r]
 have:(l.any fun y=>decide (x=y))=decide (x∈l):=by
  rw[Bool.eq_iff_iff,List.any_eq_true,gS];constructor
  ·rintro⟨y,hy,h⟩;rw[gS]at h;rw[h];exact hy
  ·intro h;exact⟨x,h,by simp⟩
 rw[this]
theorem q38(t:List Int)(hs:t.length<=4294967296) :
 Call F.q26 [slc t,.clo F.q2w []] (.bool (t.any fun n=>decide (n>=6))):=by
 have hi:Call F.q0n [slc t,.clo F.q2w []] (.int .i64 (idx (fun n=>decide (n>=6)) t)):=by
  refine q0r rfl (t.length+1) ((q06.ev _ _).trans ?_);refine q8u (S:=fun m k=>q06.at0 (t.length+1) m (q06.st0 (cells t) _ (k:Nat))) (fun m k h=>?_) (fun m=>?_) (gAR _)
  ·have hlk:t[k]?=some t[k]:=gA h;have hc:Call F.q2w [.int .i64 t[k]] (.bool (decide (t[k]>=6))):=q0r rfl 0 (q2w.ev _ _);simp only[q06.next0,q06.round0,evz,Nat.reduceLT,h,hlk,q1x,hc.eq];rw[q0l (by omega)];by_cases e:t[k]>=6 <;> simp[e]
  ·simp only[q06.next0,q06.round0,evz,Nat.reduceLT,gAK]
 refine q0r rfl 0 ((q38.ev _ _).trans ?_);simp only[evz,Nat.reduceLT,hi.eq,q8r]
theorem q3z(l:List Symbol)(hs:l.length<=4294967296)(a b:List Int)(ha:a.length<=4294967296)(hb:b.length<=4294967296) :
 Call F.q3z [.agg [slc l],.agg [slc a,slc b]] (.int .i64 (if q2v ⟨l⟩≠0 then q2v ⟨l⟩else q3g l ⟨a,b⟩)):=by
 refine q0r rfl 0 ((q3z.ev _ _ _ _).trans ?_);simp only[evz,Nat.reduceLT,(q4g l hs a ha).eq,(q4g l hs b hb).eq,(q9k _ _).eq,qdt,q3g];by_cases h1:q2v ⟨l⟩=0
 case neg=>simp only[h1,evz,Nat.reduceLT,ne_eq,gX]
 simp only[h1,evz,Nat.reduceLT,ne_eq,gW];by_cases h2:q4d l a=0
 case neg=>simp only[h2,evz,Nat.reduceLT,gX]
 by_cases h3:q4d l b=0
 case neg=>simp only[h2,h3,evz,Nat.reduceLT,gW,gX]
 have ta:=(q85 l a).1 h2;have tb:=(q85 l b).1 h3;have hal:=ta.le;have hbl:=tb.le
 have hv:=q0u [a,b] (by simp) (fun t ht=>by
  simp only[gK,List.not_mem_nil,or_false]at ht;rcases ht with rfl|rfl
  ·exact⟨ha,ta.ge⟩
  ·exact⟨hb,tb.ge⟩) (by simp;omega)
 have hvl:=qde [a,b];have hc:=q38 (qal [a,b]) (by simp at hvl;omega);simp only[h2,h3,evz,Nat.reduceLT,gW,show LIM F.q0u [.sl 1 [slc a,slc b]]=_ from hv,hc.eq]
 have e1:((qal [a,b]).any fun n=>decide (n>=6)) = !(low6 a&&low6 b):=by
  rw[Bool.eq_iff_iff,List.any_eq_true,Bool.not_eq_true',Bool.eq_false_iff,ne_eq,gC,qcc,qcc];constructor
  ·rintro⟨v,hv,h6⟩ ⟨q1,q2⟩;rw[gS]at h6;obtain⟨_,t,ht,hm⟩:=q8g.1 hv;simp only[gK,List.not_mem_nil,or_false]at ht;rcases ht with rfl|rfl
   ·have:=q1 _ hm;omega
   ·have:=q2 _ hm;omega
  ·intro h;by_cases q1:∀n∈a,-6<=n
   ·have q2:¬ ∀n∈b,-6<=n:=fun q2=>h ⟨q1,q2⟩;simp only[Classical.not_forall]at q2;obtain⟨n,hn,hlt⟩:=q2;exact⟨-1-n,q8g.2 ⟨by omega,b,by simp,by rw[show -1-(-1-n)=n by omega];exact hn⟩,by simp;omega⟩
   ·simp only[Classical.not_forall]at q1;obtain⟨n,hn,hlt⟩:=q1;exact⟨-1-n,q8g.2 ⟨by omega,a,by simp,by rw[show -1-(-1-n)=n by omega];exact hn⟩,by simp;omega⟩
 rw[e1];cases low6 a <;> cases low6 b <;> rfl
theorem q5m(l:List Symbol)(ok:SigOk ⟨l⟩)(a b:List Int)(ha:a.length<=4294967296)(hb:b.length<=4294967296) :
 Call F.q5m [.rref [slc l] 0,.rref [slc a,slc b] 0] (.int .i64 (q3g l ⟨a,b⟩)):=by
 have la:Call F.q2h [slc a] (.bool (low6 a)):=q2h a ha;have lb:Call F.q2h [slc b] (.bool (low6 b)):=q2h b hb;refine q0r rfl 0 ((q5m.ev _ _ _ _).trans ?_);simp only[evz,Nat.reduceLT,(q17 l ok a ha).eq,(q17 l ok b hb).eq,la.eq,lb.eq,q3g];by_cases h2:q4d l a=0
 case neg=>simp only[h2,evz,Nat.reduceLT,ne_eq,gX]
 by_cases h3:q4d l b=0
 case neg=>simp only[h2,h3,evz,Nat.reduceLT,ne_eq,gW,gX]
 simp only[h2,h3,evz,Nat.reduceLT,ne_eq,gW];cases low6 a <;> cases low6 b <;> rfl
theorem qvp{es:List Equation}{k:Nat}(he:sm 4294967296 es)(h:k<es.length):es[k].left.length<=4294967296/\es[k].right.length<=4294967296:=by
 have:=he.2 es[k] (gG h);exact⟨this.1.1,this.2.1⟩
theorem q0t(l:List Symbol)(hs:l.length<=4294967296)(es:List Equation)(he:sm 4294967296 es) :
 Call F.q0t [.agg [slc l],slc es] (.int .i64 (if q2v ⟨l⟩≠0 then q2v ⟨l⟩else q4r l es)):=by
 refine q0r rfl (es.length+1) ((q0t.ev _ _ _).trans ?_);simp only[evz,Nat.reduceLT,(q05 l hs).eq,q4r,gt_iff_lt];by_cases h1:q2v ⟨l⟩=0
 case neg=>simp only[h1,evz,Nat.reduceLT,ne_eq,gX]
 by_cases h2:12<es.length
 ·have h2':(12:Int)<es.length:=by omega
  simp only[h1,h2,h2',evz,Nat.reduceLT,ne_eq,gW]
 have h2':¬(12:Int)<es.length:=by omega
 simp only[h1,h2,h2',evz,Nat.reduceLT,ne_eq,gW]
 refine(q8w (l:=es) (g:=fun e=>if q3g l e≠0 then some (some (.int .i64 (q3g l e),[]))else none) (z:=some (.int .i64 0,[])) (S:=fun m k=>q0t.at0 (es.length+1) m (q0t.st0 (cells es) es.length (k:Nat) (cells l)))
  (fun m k h=>?_) (fun m=>?_) (gAR _)).trans ?_
 ·have hlk:es[k]?=some es[k]:=gA h;obtain⟨q1,q2⟩:=qvp he h;have hc:=q3z l hs es[k].left es[k].right q1 q2;rw[if_neg (by simpa using h1)]at hc;simp only[q0t.next0,q0t.round0,evz,Nat.reduceLT,h,hlk,q4n,hc.eq];rw[q0l (by omega)];by_cases e:q3g l es[k]=0
  ·simp[e]
  ·simp[e]
 ·simp only[q0t.next0,q0t.round0,evz,Nat.reduceLT,gAK]
 ·have:=q7b (fun e=>if q3g l e≠0 then some (q3g l e)else none) (fun n=>(some (T.int .i64 n,[]):R)) es;rw[show(fun e=>(if q3g l e≠0 then some (q3g l e)else none).map fun n=>(some (T.int .i64 n,[]):R))=fun e=>if q3g l e≠0 then some (some (T.int .i64 (q3g l e),[]))else none from funext fun e=>by by_cases h:q3g l e=0 <;> simp[h]]at this;rw[this];cases es.findSome? fun e=>if q3g l e≠0 then some (q3g l e)else none <;> rfl
theorem q1i(l:List Symbol)(ok:SigOk ⟨l⟩)(es:List Equation)(he:sm 4294967296 es):Call F.q1i [.rref [slc l] 0,slc es] (.int .i64 (q4r l es)):=by
 refine q0r rfl (es.length+1) ((q1i.ev _ _ _).trans ?_);simp only[evz,Nat.reduceLT,q4r,gt_iff_lt];by_cases h2:12<es.length
 ·have h2':(12:Int)<es.length:=by omega
  simp only[h2,h2',evz,Nat.reduceLT]
 have h2':¬(12:Int)<es.length:=by omega
 simp only[h2,h2',evz,Nat.reduceLT]
 refine(q8w (l:=es) (g:=fun e=>if q3g l e≠0 then some (some (.int .i64 (q3g l e),[]))else none) (z:=some (.int .i64 0,[])) (S:=fun m k=>q1i.at0 (es.length+1) m (q1i.st0 (cells l) (cells es) (k:Nat)))
  (fun m k h=>?_) (fun m=>?_) (gAR _)).trans ?_
 ·have hlk:es[k]?=some es[k]:=gA h;obtain⟨q1,q2⟩:=qvp he h;have hc:=q5m l ok es[k].left es[k].right q1 q2;simp only[q1i.next0,q1i.round0,evz,Nat.reduceLT,h,hlk,q4u q6u hlk,q4n,hc.eq];rw[q0l (by omega)];by_cases e:q3g l es[k]=0
  ·simp[e]
  ·simp[e]
 ·simp only[q1i.next0,q1i.round0,evz,Nat.reduceLT,gAK]
 ·have:=q7b (fun e=>if q3g l e≠0 then some (q3g l e)else none) (fun n=>(some (T.int .i64 n,[]):R)) es;rw[show(fun e=>(if q3g l e≠0 then some (q3g l e)else none).map fun n=>(some (T.int .i64 n,[]):R))=fun e=>if q3g l e≠0 then some (some (T.int .i64 (q3g l e),[]))else none from funext fun e=>by by_cases h:q3g l e=0 <;> simp[h]]at this;rw[this];cases es.findSome? fun e=>if q3g l e≠0 then some (q3g l e)else none <;> rfl
theorem q3m(t v:List Int)(hs:t.length<=4294967296)(hv:v.length<=4294967296) :
 Call F.q26 [slc t,.clo F.q4i [.rref [slc v] 0]] (.bool (t.any fun n=>decide (n∉v))):=by
 have hi:Call F.q0n [slc t,.clo F.q4i [.rref [slc v] 0]] (.int .i64 (idx (fun n=>decide (n∉v)) t)):=by
  refine q0r rfl (t.length+1) ((q0c.ev _ _ _).trans ?_);refine q8u (S:=fun m k=>q0c.at0 (t.length+1) m (q0c.st0 (cells t) _ _ (k:Nat))) (fun m k h=>?_) (fun m=>?_) (gAR _)
  ·have hlk:t[k]?=some t[k]:=gA h
   have hc:Call F.q4i [.int .i64 t[k],.rref [slc v] 0] (.bool (decide (t[k]∉v))):=by
    refine q0r rfl 0 ((q4i.ev _ _ _).trans ?_);simp only[evz,Nat.reduceLT,(q1l v t[k] hv).eq,decide_not]
   simp only[q0c.next0,q0c.round0,evz,Nat.reduceLT,h,hlk,q1x,hc.eq];rw[q0l (by omega)];by_cases e:t[k]∈v <;> simp[e]
  ·simp only[q0c.next0,q0c.round0,evz,Nat.reduceLT,gAK]
 refine q0r rfl 0 ((q3m.ev _ _ _).trans ?_);simp only[evz,Nat.reduceLT,hi.eq,q8r]
theorem qho{l:List Symbol}{t:List Int}(h:TermOk l t):Call F.q0u [.sl 1 [slc t]] (slc (qal [t]))/\(qal [t]).length<=24:=by
 have hle:=h.le;have hvl:=qde [t];refine⟨q0u [t] (by simp) (fun x hx=>?_) (by simp;omega),by simp at hvl;omega⟩;simp only[gK,List.not_mem_nil,or_false]at hx;subst hx;exact⟨by omega,h.ge⟩
theorem qx1{l:List Symbol}{t:List Int}(h:TermOk l t):t[0]?=some (t.headD 0):=by
 have:=h.pos;cases t with
 |nil=>simp at this
 |cons x r=>rfl
theorem q7z{l:List Symbol}{a b:List Int}(ha:TermOk l a)(hb:TermOk l b):Call F.q7z [.agg [slc a,slc b]] (.bool (q9l ⟨a,b⟩)):=by
 refine q0r rfl 0 ((q7z.ev _ _ _).trans ?_);obtain⟨ca,la⟩:=qho ha;obtain⟨cb,lb⟩:=qho hb
 have h0:(cells a)[0]?=some (.int .i64 (a.headD 0)):=by
  have:=get0 (l:=a) (k:=1) (i:=0) q3e;rw[Nat.zero_mul]at this;rw[this,qx1 ha];rfl
 have hin:inB 0 ((cells a).length/1)=true:=by
  rw[q5h q3e];have:=q6v 0 a.length;have hp:=ha.pos;rw[show(0:Int)=((0:Nat):Int)from rfl,this];exact decide_eq_true hp
 have hc:=q3m (qal [b]) (qal [a]) (by omega) (by omega);rw[hin,cond_true,h0];simp only[evz,Nat.reduceLT,q9l]
 have e:((qal [b]).any fun n=>decide (n∉qal [a]))=b.any fun n=>decide (n<0/\n∉a):=by
  rw[Bool.eq_iff_iff,List.any_eq_true,List.any_eq_true];constructor
  ·rintro⟨v,hv,h⟩;rw[gS]at h;obtain⟨v0,t,ht,hm⟩:=q8g.1 hv;simp only[gK,List.not_mem_nil,or_false]at ht;subst ht;refine⟨-1-v,hm,?_⟩;rw[gS];exact⟨by omega,fun hn=>h (q8g.2 ⟨v0,a,by simp,hn⟩)⟩
  ·rintro⟨n,hn,h⟩;rw[gS]at h;refine⟨-1-n,q8g.2 ⟨by omega,b,by simp,by rw[show -1-(-1-n)=n by omega];exact hn⟩,?_⟩;rw[gS];intro hm;obtain⟨_,t,ht,hm'⟩:=q8g.1 hm;simp only[gK,List.not_mem_nil,or_false]at ht;subst ht;rw[show -1-(-1-n)=n by omega]at hm';exact h.2 hm'
 by_cases h1:a.headD 0<0
 ·have h2:¬ 0<=a.headD 0:=by omega
  simp only[h1,h2,evz,Nat.reduceLT,Bool.false_and]
 ·have h2:0<=a.headD 0:=by omega
  simp only[h1,h2,evz,Nat.reduceLT,ca.eq,cb.eq,hc.eq,e,Bool.true_and]
theorem q4f(l:List Symbol)(hs:l.length<=4294967296)(es:List Equation)(he:sm 4294967296 es):Call F.q4f [.agg [slc l],slc es] (.int .i64 (q40 ⟨l⟩ es)):=by
 refine q0r rfl 0 ((q4f.ev _ _ _).trans ?_);simp only[evz,Nat.reduceLT,(q0t l hs es he).eq,q40,q8j];by_cases h1:q2v ⟨l⟩=0
 case neg=>simp only[h1,evz,Nat.reduceLT,ne_eq,gX]
 simp only[h1,evz,Nat.reduceLT,ne_eq,gW];by_cases h2:q4r l es=0
 case neg=>simp only[h2,evz,Nat.reduceLT,gX]
 obtain⟨hlen,hok⟩:=q8v.1 h2
 have hi:Call F.q31 [slc es,.clo F.q3d []] (.int .i64 (idx (fun e=>!q9l e) es)):=by
  refine q0r rfl (es.length+1) ((q07.ev _ _).trans ?_);simp only[evz,Nat.reduceLT];refine q8u (S:=fun m k=>q07.at0 (es.length+1) m (q07.st0 (cells es) es.length (k:Nat))) (fun m k h=>?_) (fun m=>?_) (gAR _)
  ·have hlk:es[k]?=some es[k]:=gA h;have ho:=hok es[k] (gG h)
   have hc:Call F.q3d [.agg [slc es[k].left,slc es[k].right]] (.bool (!q9l es[k])):=by
    refine q0r rfl 0 ((q3d.ev _ _ _).trans ?_);simp only[evz,Nat.reduceLT,(q7z ho.left ho.right).eq]
   simp only[q07.next0,q07.round0,evz,Nat.reduceLT,h,hlk,q4n,hc.eq];rw[q0l (by omega)];cases q9l es[k] <;> rfl
  ·simp only[q07.next0,q07.round0,evz,Nat.reduceLT,gAK]
 have hc:Call F.q5e [slc es,.clo F.q3d []] (.bool (es.any fun e=>!q9l e)):=by
  refine q0r rfl 0 ((q5t.ev _ _).trans ?_);simp only[evz,Nat.reduceLT,hi.eq,q8r]
 simp only[h2,evz,Nat.reduceLT,gW,hc.eq];cases es.any fun e=>!q9l e <;> rfl
theorem q1k(t:List Int)(x:Int)(hl:t.length<=4294967296):Call F.q1k [slc t,.int .i64 x] (.int .i64 (t.count x:Nat)):=by
 have loop:∀m k (c:Nat),k<=t.length->t.length<m+k->c<=k->
  q1k.at0 (t.length+1) m (q1k.st0 (cells t) x (c:Nat) (k:Nat))=some (.int .i64 ((c+(t.drop k).count x:Nat):Int),[]):=by
  intro m;induction m with
  |zero=>intros;omega
  |succ m ih=>
   intro k c hk hm hc;by_cases h:k<t.length
   ·have hlk:t[k]?=some t[k]:=gA h;simp only[q1k.next0,q1k.round0,evz,Nat.reduceLT,h,hlk,q1x];rw[q0l (by omega),q0l (by omega),gH h,List.count_cons];by_cases e:t[k]=x
    ·simp only[e,evz,Nat.reduceLT];rw[ih (k+1) (c+1) (by omega) (by omega) (by omega)];simp;omega
    ·simp only[e,evz,Nat.reduceLT];rw[ih (k+1) c (by omega) (by omega) (by omega)];simp[e]
   ·obtain rfl:k=t.length:=by omega
    simp only[q1k.next0,q1k.round0,evz,Nat.reduceLT,gAK,List.drop_length,List.count_nil,Nat.add_zero]
 refine q0r rfl (t.length+1) ((q1k.ev _ _ _).trans ?_);have:=loop (t.length+1) 0 0 (by omega) (by omega) (by omega);rw[List.drop_zero,gAJ]at this;exact this
theorem q0s(l:List Symbol)(ok:SigOk ⟨l⟩)(es:List Equation)(he:sm 4294967296 es):Call F.q0s [.rref [slc l] 0,slc es] (.int .i64 (q8j l es)):=by
 refine q0r rfl 25 ((q0s.ev _ _ _).trans ?_);simp only[evz,Nat.reduceLT,(q1i l ok es he).eq,q8j];by_cases h2:q4r l es=0
 case neg=>simp only[h2,evz,Nat.reduceLT,ne_eq,gX]
 obtain⟨hlen,hok⟩:=q8v.1 h2;simp only[h2,evz,Nat.reduceLT,ne_eq,gW]
 have inner:∀(L0:St->R)(k:Nat)(h:k<es.length),
  q0s.at2 25 L0 25 (q0s.st2 (cells es) (k:Nat) ((0:Nat):Int))=if(es[k].right.any fun n=>decide (n<0/\n∉es[k].left))=true then some (.int .i64 1,[])else L0 (q0s.st0 (cells es) ((k+1:Nat):Int)):=fun L0 k h=>by
  have hlk:es[k]?=some es[k]:=gA h;have ho:=hok es[k] (gG h);have hle:=ho.right.le;have hle':=ho.left.le;refine q8d (l:=es[k].right) (p:=fun n=>decide (n<0/\n∉es[k].left)) (r:=some (.int .i64 1,[])) (S:=fun m j=>q0s.at2 25 L0 m (q0s.st2 (cells es) (k:Nat) (j:Nat))) (fun m j hj=>?_) (fun m=>?_) (by omega)
  ·have hlj:es[k].right[j]?=some es[k].right[j]:=gA hj;simp only[q0s.next2,q0s.round2,evz,Nat.reduceLT,h,hlk,hj,hlj,q4n,q1x,(q1k es[k].left es[k].right[j] (by omega)).eq];rw[q0l (by omega)];by_cases q1:es[k].right[j]<0
   ·by_cases q2:es[k].right[j]∈es[k].left
    ·have q3:0<es[k].left.count es[k].right[j]:=List.count_pos_iff.2 q2;have q4:¬((es[k].left.count es[k].right[j]:Nat):Int)=0:=by omega
     simp only[q1,q2,q4,evz,Nat.reduceLT,gW,and_false,Bool.false_eq_true]
    ·have q3:es[k].left.count es[k].right[j]=0:=List.count_eq_zero.2 q2;simp only[q1,q2,q3,evz,Nat.reduceLT,gX,and_true,Int.natCast_zero]
   ·simp only[q1,evz,Nat.reduceLT,false_and,Bool.false_eq_true]
  ·simp only[q0s.next2,q0s.round2,evz,Nat.reduceLT,h,hlk,q4n,gAK];rw[q0l (by omega)]
 refine(q8d (l:=es) (p:=fun e=>!q9l e) (r:=some (.int .i64 1,[])) (z:=some (.int .i64 0,[])) (S:=fun m k=>q0s.at0 25 m (q0s.st0 (cells es) (k:Nat))) (fun m k h=>?_) (fun m=>?_) (show es.length<25 by omega)).trans ?_
 ·have hlk:es[k]?=some es[k]:=gA h;have ho:=hok es[k] (gG h)
  have h0:(cells es[k].left)[0]?=some (.int .i64 (es[k].left.headD 0)):=by
   have:=get0 (l:=es[k].left) (k:=1) (i:=0) q3e;rw[Nat.zero_mul]at this;rw[this,qx1 ho.left];rfl
  have hin:inB 0 es[k].left.length=true:=by
   have:=q6v 0 es[k].left.length;have hp:=ho.left.pos;rw[show(0:Int)=((0:Nat):Int)from rfl,this];exact decide_eq_true hp
  simp only[q0s.next0,q0s.round0,evz,Nat.reduceLT,h,hlk,q4n,hin,h0,q9l];by_cases q1:es[k].left.headD 0<0
  ·have q2:¬ 0<=es[k].left.headD 0:=by omega
   simp only[q1,q2,evz,Nat.reduceLT,Bool.false_and,Bool.not_false]
  ·have q2:0<=es[k].left.headD 0:=by omega
   simp only[q1,q2,evz,Nat.reduceLT,Bool.true_and,Bool.not_not];exact inner _ k h
 ·simp only[q0s.next0,q0s.round0,evz,Nat.reduceLT,gAK]
 ·cases es.any fun e=>!q9l e <;> rfl
theorem q4e(l:List Symbol)(hs:l.length<=4294967296)(es:List Equation)(he:sm 4294967296 es):Call F.q4e [.agg [slc l],slc es] (.int .i64 (q40 ⟨l⟩ es)):=by
 refine q0r rfl 0 ((q4e.ev _ _ _).trans ?_);simp only[evz,Nat.reduceLT,(q00 l hs).eq,q40];by_cases h1:q2v ⟨l⟩=0
 case neg=>simp only[h1,evz,Nat.reduceLT,ne_eq,gX]
 have ok:=(q5g _).1 h1;simp only[h1,evz,Nat.reduceLT,ne_eq,gW,(q0s l ok es he).eq]
def digs(z:Nat):Nat->Nat->List Int
 |0,_=>[]
 |k+1,n=>((n % z:Nat):Int)::digs z k (n/z)
def odo(z:Nat):List Int->List Int
 |[]=>[]
 |x::r=>if x+1<z then(x+1)::r else 0::odo z r
theorem qb3(z:Nat):∀k n,(digs z k n).length=k
 |0,_=>rfl
 |k+1,n=>by rw[digs,gAB,qb3 z k]
theorem qc2{z:Nat}(hz:0<z):∀k n,∀x∈digs z k n,0<=x/\x<=(z:Int)-1
 |0,_=>by simp[digs]
 |k+1,n=>by
  intro x hx;rw[digs,gK]at hx;rcases hx with rfl|hx
  ·have:=Nat.mod_lt n hz;omega
  ·exact qc2 hz k _ x hx
theorem qpl{z:Nat}(hz:0<z):∀k n,odo z (digs z k n)=digs z k (n+1)
 |0,_=>rfl
 |k+1,n=>by
  rw[digs,odo,digs];have hm:=Nat.mod_lt n hz;have hd:=Nat.div_add_mod n z;by_cases h:n % z+1<z
  ·have e1:(n+1) % z=n % z+1:=by
    rw[Nat.add_mod,Nat.mod_eq_of_lt (show 1<z by omega),Nat.mod_eq_of_lt h]
   have e2:(n+1)/z=n/z:=by
    rw[Nat.div_eq_iff hz];constructor <;> (have:=Nat.mul_comm z (n/z);omega)
   rw[if_pos (by omega),e1,e2];rfl
  ·have e0:n+1=(n/z+1)*z:=by
    rw[Nat.add_mul,Nat.one_mul,Nat.mul_comm (n/z) z];omega
   have e1:(n+1) % z=0:=by rw[e0,Nat.mul_mod_left]
   have e2:(n+1)/z=n/z+1:=by rw[e0,Nat.mul_div_cancel _ hz]
   rw[if_neg (by omega),e1,e2,qpl hz k];rfl
theorem qlq(z:Nat):∀k,digs z k 0=List.replicate k 0
 |0=>rfl
 |k+1=>by rw[digs,Nat.zero_mod,Nat.zero_div,qlq z k,List.replicate_succ];rfl
noncomputable def qck(l:List Symbol)(z:Nat)(tb:List (List Int))(e:Equation)(n:Nat):Bool:=
 decide ((q2z l e.left).eval z tb (digs z 6 n)≠(q2z l e.right).eval z tb (digs z 6 n))
noncomputable def q4b(l:List Symbol)(z:Nat)(tb:List (List Int))(e:Equation):Bool := !(List.range (z ^ 6)).any (qck l z tb e)
section
variable {l:List Symbol}{z:Nat}{tb:List (List Int)}(al:AlgOk l z tb)
include al
theorem q97{vs t:List Int}(hv:vs.length=6)(hr:∀n∈vs,0<=n/\n<=(z:Int)-1)(to:TermOk l t)(hlow:∀n∈t,-6<=n) :
 Call F.q5p [.agg [.int .i64 z,slc tb],.agg [slc l],slc vs,slc t] (.int .i64 ((q2z l t).eval z tb vs)):=by
 obtain⟨o1,o2⟩:=q3h al.sig to;have hle:=to.le;have hl6:(q2z l t).low 6:=Tm.low_of fun n hn=>by rw[<- o2]at hn;exact hlow n hn
 have hsy:(q2z l t).syms l.length:=Tm.syms_of o1 fun n hn=>to.node n (by rw[o2];exact hn);have he:=q0j al hv hr (by omega:t.length<=4294967296) (q2z l t) [] 0 (by rw[List.drop_zero,gAD];exact o2) o1 hsy hl6;refine q0r rfl 0 ((q5p.ev _ _ _ _ _ _).trans ?_);simp only[evz,Nat.reduceLT,show LIM F.q0j [.agg [.int .i64 z,slc tb],.agg [slc l],slc vs,slc t,.int .i64 0]=_ from he]
theorem qbq{vs t:List Int}(hv:vs.length=6)(hr:∀n∈vs,0<=n/\n<=(z:Int)-1)(to:TermOk l t)(hlow:∀n∈t,-6<=n) :
 Call F.q16 [.rref [slc l] 0,.rref [.int .i64 z,slc tb] 0,slc vs,slc t,.int .i64 0] (.int .i64 ((q2z l t).eval z tb vs)):=by
 obtain⟨o1,o2⟩:=q3h al.sig to;have hle:=to.le;have hl6:(q2z l t).low 6:=Tm.low_of fun n hn=>by rw[<- o2]at hn;exact hlow n hn
 have hsy:(q2z l t).syms l.length:=Tm.syms_of o1 fun n hn=>to.node n (by rw[o2];exact hn);exact q16 al hv hr to.node (by omega) (q2z l t) [] 0 (by rw[List.drop_zero,gAD];exact o2) o1 hsy hl6
theorem pow6:z ^ 6<=729/\0<z/\z<=3:=by
 have:=al.size;have h1:1<=z:=by omega
 have h3:z<=3:=by omega
 refine⟨?_,by omega,h3⟩;have:z=1\/z=2\/z=3:=by omega
 rcases this with rfl|rfl|rfl <;> decide
theorem q08{e:Equation}(ho:EqOk l e):Call F.q08 [.agg [.int .i64 z,slc tb],.agg [slc l],.agg [slc e.left,slc e.right]] (.bool (q4b l z tb e)):=by
 obtain⟨h729,hz0,hz3⟩:=pow6 al;have hp:=q2r z 6 hz3 (by omega);refine q0r rfl 1000 ((q08.ev _ _ _ _ _ _).trans ?_)
 have inner:∀(L0:St->R)(k:Nat),k<729->∀m j (v:List Int),v.length=6->(∀x∈v,0<=x/\x<=(z:Int)-1)->j<=6->6<m+j->
  q08.at2 1000 L0 m (q08.st2 (z ^ 6:Nat) (k:Nat) ((6:Nat):Int) (j:Nat) z (cells tb) (cells l) (cells e.left) (cells e.right) (cells v))=
   L0 (q08.st0 (z ^ 6:Nat) ((k+1:Nat):Int) z (cells tb) (cells l) (cells e.left) (cells e.right) (cells (v.take j++odo z (v.drop j)))):=by
  intro L0 k hk m;induction m with
  |zero=>intros;omega
  |succ m ih=>
   intro j v hv hr hj hm;by_cases h:j<6
   ·have hjv:j<v.length:=by omega
    have hlk:v[j]?=some v[j]:=gA hjv;obtain⟨b1,b2⟩:=hr v[j] (gG hjv);have hls:∀x:Int,(v.set j x)[j]?=some x:=fun x=>by rw[List.getElem?_set_self hjv]
    have hdc:decide (j*1+1<=(cells v).length)=true:=by rw[q0k,q3e];exact decide_eq_true (by omega)
    have hdc':∀x:Int,decide (j*1+1<=(cells (v.set j x)).length)=true:=fun x=>by rw[q0k,q3e,List.length_set];exact decide_eq_true (by omega)
    simp only[q08.next2,q08.round2,evz,Nat.reduceLT,h,hjv,hlk,q1x,hdc];rw[q0l (by omega),q0l (by omega),q1o (show -9223372036854775808<=v[j]+1/\v[j]+1<9223372036854775808 by omega)];simp only[qa9 hjv,evz,Nat.reduceLT,List.length_set,hjv,hls,q1x,hdc'];rw[gH hjv,odo];by_cases hx:v[j]+1<(z:Int)
    ·simp only[hx,evz,Nat.reduceLT];rw[List.set_eq_take_append_cons_drop,if_pos hjv]
    ·simp only[hx,evz,Nat.reduceLT]
     rw[qa9 (by rw[List.length_set];exact hjv),List.set_set,ih (j+1) (v.set j 0) (by rw[List.length_set];exact hv) (fun x hx'=>by
      rcases List.mem_or_eq_of_mem_set hx' with h'|rfl
      ·exact hr x h'
      ·omega) (by omega) (by omega)]
     rw[List.drop_set_of_lt (by omega),List.take_succ_eq_append_getElem (by rw[List.length_set];exact hjv),List.getElem_set_self,List.take_set_of_le (gAI _),gZ,List.singleton_append,if_pos (by rw[q0k,q3e,List.length_set];omega)]
   ·obtain rfl:j=6:=by omega
    simp only[q08.next2,q08.round2,evz,Nat.reduceLT,gAK];rw[q0l (by omega),gU (by omega),odo,gAD,List.take_of_length_le (by omega)]
 have outer:=qdu (n:=z ^ 6) (bad:=qck l z tb e) (r:=some (.bool false,[])) (z:=some (.bool true,[]))
  (S:=fun m k=>q08.at0 1000 m (q08.st0 (z ^ 6:Nat) (k:Nat) z (cells tb) (cells l) (cells e.left) (cells e.right) (cells (digs z 6 k)))) (f:=1000)
  (fun m k hk=>by
   have hdl:=qb3 z 6 k;have hdr:=qc2 hz0 6 k;simp only[q08.next0,q08.round0,evz,Nat.reduceLT,hk,(q97 al hdl hdr ho.left ho.lowL).eq,(q97 al hdl hdr ho.right ho.lowR).eq,qck,hdl];have hin:=inner (q08.at0 1000 m) k (by omega) 1000 0 (digs z 6 k) hdl hdr (by omega) (by omega);rw[List.take_zero,List.nil_append,List.drop_zero,qpl hz0]at hin;by_cases hne:(q2z l e.left).eval z tb (digs z 6 k)=(q2z l e.right).eval z tb (digs z 6 k)
   ·simp only[hne,evz,Nat.reduceLT,ne_eq,gW,Bool.false_eq_true];exact hin
   ·simp only[hne,evz,Nat.reduceLT,ne_eq,gX])
  (fun m=>by simp only[q08.next0,q08.round0,evz,Nat.reduceLT,gAK]) (by omega)
 simp only[evz,Nat.reduceLT,show LIM F.q2r [.int .i64 z,.int .i64 6]=_ from hp];rw[qlq]at outer;refine Eq.trans outer ?_;unfold q4b;cases (List.range (z ^ 6)).any (qck l z tb e) <;> rfl
theorem q0m{e:Equation}(ho:EqOk l e):Call F.q0m [.rref [slc l] 0,.rref [.int .i64 z,slc tb] 0,.rref [slc e.left,slc e.right] 0] (.bool (q4b l z tb e)):=by
 obtain⟨h729,hz0,hz3⟩:=pow6 al;have hp:=q4k z 6 hz3 (by omega);refine q0r rfl 1000 ((q0m.ev _ _ _ _ _ _).trans ?_)
 have inner:∀(L0:St->R)(k:Nat),k<729->∀m j x (acc:List Int),acc.length=j->j<=6->6<m+j->acc++digs z (6-j) x=digs z 6 k->x<=729->
  q0m.at2 1000 L0 m (q0m.st2 (cells l) z (cells tb) (cells e.left) (cells e.right) (k:Nat) (x:Nat) (j:Nat) (cells acc))=
   if qck l z tb e k=true then some (.bool false,[])else L0 (q0m.st0 (cells l) z (cells tb) (cells e.left) (cells e.right) ((k+1:Nat):Int)):=by
  intro L0 k hk m;induction m with
  |zero=>intros;omega
  |succ m ih=>
   intro j x acc hacc hj hm hd hx;by_cases h:j<6
   ·have h6:((j:Nat):Int)<6:=by omega
    have hzi:¬((z:Nat):Int)=0:=by omega
    have hble:Nat.ble (((cells acc).length+1)*8) (140737488355328*1)=true:=by
     rw[Nat.ble_eq,q0k,q3e];omega
    have hdiv:x/z<=x:=Nat.div_le_self _ _;rw[show 6-j=(6-(j+1))+1 by omega,digs]at hd;have hdm:Int.tdiv (x:Nat) (z:Nat)=((x/z:Nat):Int):=rfl;generalize x/z=q at hdiv hdm hd;simp only[q0m.next2,q0m.round2,evz,Nat.reduceLT,h6,hzi,hble];rw[hdm,show Int.tmod (x:Nat) (z:Nat)=((x % z:Nat):Int)from rfl,q0l (by omega),q1o (by omega),q2f];refine ih (j+1) q (acc++[((x % z:Nat):Int)]) (by rw[gM,hacc];rfl) (by omega) (by omega) ?_ (by omega);rw[gZ,List.singleton_append];exact hd
   ·obtain rfl:j=6:=by omega
    rw[Nat.sub_self,digs,gAD]at hd;subst hd;have hdl:=qb3 z 6 k;have hdr:=qc2 hz0 6 k;have h6:¬((6:Nat):Int)<6:=by omega
    simp only[q0m.next2,q0m.round2,evz,Nat.reduceLT,h6,(qbq al hdl hdr ho.left ho.lowL).eq,(qbq al hdl hdr ho.right ho.lowR).eq,qck];rw[q0l (by omega)];by_cases hne:(q2z l e.left).eval z tb (digs z 6 k)=(q2z l e.right).eval z tb (digs z 6 k)
    ·simp only[hne,evz,Nat.reduceLT,ne_eq,gW,Bool.false_eq_true]
    ·simp only[hne,evz,Nat.reduceLT,ne_eq,gX]
 have outer:=qdu (n:=z ^ 6) (bad:=qck l z tb e) (r:=some (.bool false,[])) (z:=some (.bool true,[]))
  (S:=fun m k=>q0m.at0 1000 m (q0m.st0 (cells l) z (cells tb) (cells e.left) (cells e.right) (k:Nat))) (f:=1000)
  (fun m k hk=>by
   simp only[q0m.next0,q0m.round0,evz,Nat.reduceLT,show LIM F.q4k [.int .i64 z,.int .i64 6]=_ from hp,hk];exact inner (q0m.at0 1000 m) k (by omega) 1000 0 k [] rfl (by omega) (by omega) (by simp) (by omega))
  (fun m=>by simp only[q0m.next0,q0m.round0,evz,Nat.reduceLT,show LIM F.q4k [.int .i64 z,.int .i64 6]=_ from hp,gAK]) (by omega)
 refine Eq.trans outer ?_;unfold q4b;cases (List.range (z ^ 6)).any (qck l z tb e) <;> rfl
end
theorem q8l(b:Bool):Call F.q8l [.bool b] (.agg [.int .i64 0,.int .i64 (if b=true then 1 else 0)]):=by
 refine q0r rfl 0 ((q8l.ev _ _).trans ?_);cases b <;> rfl
theorem q7x(b:Bool):Call F.q7x [.bool b] (.agg [.int .i64 0,.int .i64 (if b=true then 1 else 0)]):=by
 refine q0r rfl 0 ((q7x.ev _ _).trans ?_);cases b <;> rfl
noncomputable def qpt(s:Signature)(a:Algebra)(e:Equation):IntResult:=
 if q6h s a≠0 then⟨q6h s a,0⟩else if q3g s.symbols e≠0 then⟨q3g s.symbols e,0⟩else⟨0,if q4b s.symbols a.size.toNat a.tables e=true then 1 else 0⟩
noncomputable def qdv(s:Signature)(a:Algebra)(es:List Equation):IntResult:=
 if q6h s a≠0 then⟨q6h s a,0⟩else if q4r s.symbols es≠0 then⟨q4r s.symbols es,0⟩else⟨0,if(!es.any fun e=>!q4b s.symbols a.size.toNat a.tables e)=true then 1 else 0⟩
section
variable (l:List Symbol)(z:Int)(tb:List (List Int))(hs:l.length<=4294967296)(ht:sm 4294967296 tb)
include hs ht
theorem q8i(e:Equation)(he:sm 4294967296 e):Call F.q8i [.agg [slc l],.agg [.int .i64 z,slc tb],.agg [slc e.left,slc e.right]] (.agg (enc (qpt ⟨l⟩ ⟨z,tb⟩ e))):=by
 refine q0r rfl 0 ((q8i.ev _ _ _ _ _ _).trans ?_);simp only[evz,Nat.reduceLT,(q0z l z tb hs ht).eq,(q3z l hs e.left e.right he.1.1 he.2.1).eq,(q9k _ _).eq,qpt];by_cases h1:q6h ⟨l⟩ ⟨z,tb⟩=0
 case neg=>simp only[h1,evz,Nat.reduceLT,ne_eq,gX,q6t]
 have al:=qug h1;have hsg:=qlf h1;obtain⟨y,hy⟩:∃y:Nat,z=y:=⟨z.toNat,by have:=al.size;omega⟩;subst hy;simp only[h1,hsg,evz,Nat.reduceLT,ne_eq,gW];by_cases h2:q3g l e=0
 case neg=>simp only[h2,evz,Nat.reduceLT,gX,q6t]
 have ho:=qe9.1 h2;simp only[h2,evz,Nat.reduceLT,gW,(q08 al ho).eq,(q8l _).eq,q6t]
theorem q7a(es:List Equation)(he:sm 4294967296 es):Call F.q7a [.agg [slc l],.agg [.int .i64 z,slc tb],slc es] (.agg (enc (qdv ⟨l⟩ ⟨z,tb⟩ es))):=by
 refine q0r rfl 0 ((q7a.ev _ _ _ _ _).trans ?_);simp only[evz,Nat.reduceLT,(q0a l z tb hs ht).eq,qdv];by_cases h1:q6h ⟨l⟩ ⟨z,tb⟩=0
 case neg=>simp only[h1,evz,Nat.reduceLT,ne_eq,gX,q6t]
 have al:=qug h1;obtain⟨y,hy⟩:∃y:Nat,z=y:=⟨z.toNat,by have:=al.size;omega⟩;subst hy;simp only[h1,evz,Nat.reduceLT,ne_eq,gW,(q1i l al.sig es he).eq];by_cases h2:q4r l es=0
 case neg=>simp only[h2,evz,Nat.reduceLT,gX,q6t]
 obtain⟨hlen,hok⟩:=q8v.1 h2
 have hc:Call F.q1p [.rref [slc l] 0,.rref [.int .i64 y,slc tb] 0,slc es] (.bool (!es.any fun e=>!q4b l y tb e)):=by
  refine q0r rfl (es.length+1) ((q1p.ev _ _ _ _ _).trans ?_);refine(q8d (l:=es) (p:=fun e=>!q4b l y tb e) (r:=some (.bool false,[])) (z:=some (.bool true,[])) (S:=fun m k=>q1p.at0 (es.length+1) m (q1p.st0 (cells l) y (cells tb) (cells es) (k:Nat))) (fun m k h=>?_) (fun m=>?_) (gAR _)).trans ?_
  ·have hlk:es[k]?=some es[k]:=gA h;have ho:=hok es[k] (gG h);simp only[q1p.next0,q1p.round0,evz,Nat.reduceLT,h,hlk,q4u q6u hlk,q4n,(q0m al ho).eq];rw[q0l (by omega)];cases q4b l y tb es[k] <;> rfl
  ·simp only[q1p.next0,q1p.round0,evz,Nat.reduceLT,gAK]
  ·cases es.any fun e=>!q4b l y tb e <;> rfl
 simp only[h2,evz,Nat.reduceLT,gW,hc.eq,(q7x _).eq,q6t,gR]
end
theorem q1w(l r:List Int)(hs:sm 4294967296 l):Call F.q1w [slc l,slc r] (.bool (decide (l=r))):=by
 refine q0r rfl (l.length+1) ((q1w.ev _ _ _).trans ?_);simp only[q5h,q3e];by_cases hl:l.length=r.length
 ·have loop:=qsc hl (S:=fun m k=>q1w.at0 (l.length+1) m (q1w.st0 (cells l) (cells r) (k:Nat)))
   (fun m k h h'=>by
    have hlk:l[k]?=some l[k]:=gA h;have hrk:r[k]?=some r[k]:=gA h';simp only[q1w.next0,q1w.round0,evz,Nat.reduceLT,h,h',hlk,hrk,q4u (l:=l) q3e hlk,q4u (l:=r) q3e hrk,q1x,qis];rw[q0l (by have:=hs.1;omega)])
   (fun m=>by
    simp only[q1w.next0,q1w.round0,evz,Nat.reduceLT,gAK])
  rw[qfr (by rw[hl];exact bne_self_eq_false _)];exact loop
 ·rw[q1r (by simp;omega)];simp only[show(l=r)=False from eq_false fun e=>hl (e▸rfl),decide_false]
theorem q0p(l r:List Int)(hs:sm 4294967296 l):Call F.q0p [slc l,slc r] (.bool (decide (l=r))):=by
 refine q0r rfl (l.length+1) ((q0p.ev _ _ _).trans ?_);simp only[q5h,q3e];by_cases hl:l.length=r.length
 ·have loop:=qsc hl (S:=fun m k=>q0p.at0 (l.length+1) m (q0p.st0 (cells l) (cells r) l.length (k:Nat)))
   (fun m k h h'=>by
    have hlk:l[k]?=some l[k]:=gA h;have hrk:r[k]?=some r[k]:=gA h';simp only[q0p.next0,q0p.round0,evz,Nat.reduceLT,h,h',hlk,hrk,q4u (l:=l) q3e hlk,q4u (l:=r) q3e hrk,q1x,qis];rw[q0l (by have:=hs.1;omega)])
   (fun m=>by
    simp only[q0p.next0,q0p.round0,evz,Nat.reduceLT,gAK])
  rw[qfr (by rw[hl];exact bne_self_eq_false _)];exact loop
 ·rw[q1r (by simp;omega)];simp only[show(l=r)=False from eq_false fun e=>hl (e▸rfl),decide_false]
theorem q4v(v_left:List Int)(v_right:List Int)(w_left:List Int)(w_right:List Int)(hs:sm 4294967296 (Equation.mk v_left v_right)):Call F.q4v [.agg [slc v_left,slc v_right],.agg [slc w_left,slc w_right]] (.bool (decide ((Equation.mk v_left v_right)=(Equation.mk w_left w_right)))):=by
 refine q0r rfl 0 ((q4v.ev _ _ _ _ _ ).trans ?_);simp only[evz,Nat.reduceLT,(q0p _ _ hs.1).eq,(q0p _ _ hs.2).eq,Equation.mk.injEq];by_cases h0:v_left=w_left
 case neg=>simp only[h0,  beq_self_eq_true,decide_eq_false,gX,if_true,if_false,decide_false,decide_true,cond_false,cond_true,false_and,and_false,↓reduceIte]
 by_cases h1:v_right=w_right
 case neg=>simp only[h1,h0,  beq_self_eq_true,decide_eq_false,gX,if_true,if_false,decide_false,decide_true,cond_false,cond_true,false_and,and_false,↓reduceIte]
 simp only[h0,h1,if_true,decide_true,cond_true,and_true,and_self,beq_self_eq_true]
theorem q2m(a b c d e:Int)(l r:List Int):Call F.q2m [.agg [.int .i64 a,.int .i64 b,.int .i64 c,.int .i64 d,.int .i64 e,slc l,slc r]] (.agg [slc l,slc r]):=
 q0r rfl 0 ((q2m.ev _ _ _ _ _ _ _ _).trans rfl)
theorem qq3(a b:Int):Call F.q5k [.sl 1 [.int .i64 a,.int .i64 b]] (.int .i64 (if a=0 then b else a)):=q9k a b
theorem qc6{a:Int->Nat}:∀{t r:List Int}{k p:Nat},skip a k t=some r->p+r.length<t.length->∃q,skip a 1 (t.drop p)=some q
 |[],r,k,p,h,hp=>by simp at hp
 |n::t,r,0,p,h,hp=>by
  rw[q3l]at h;cases h;omega
 |n::t,r,k+1,0,h,hp=>by
  rw[show k+1=1+k by omega,q9y]at h;cases h1:skip a 1 (n::t)with
  |none=>rw[h1]at h;cases h
  |some q=>exact⟨q,by simpa using h1⟩
 |n::t,r,k+1,p+1,h,hp=>by
  rw[skip]at h;obtain⟨q,hq⟩:=qc6 (p:=p) h (by simp at hp;omega);exact⟨q,by simpa using hq⟩
def q52(l:List Symbol)(t:List Int)(p:Nat):Nat:=match skip (ar l) 1 (t.drop p)with
 |some r=>t.length-r.length
 |none=>t.length
theorem q4a{l:List Symbol}{t:List Int}(ok:TermOk l t){p:Nat}(hp:p<t.length) :
 p<q52 l t p/\q52 l t p<=t.length/\∀z,q8e z t (skip (ar l) 1 (t.drop p))=(q52 l t p:Nat):=by
 obtain⟨q,hq⟩:=qc6 (p:=p) ok.skip (by simpa using hp);have h:=qjh hq;unfold q52;rw[hq];refine⟨?_,by simp only;omega,fun z=>rfl⟩;have:=h.2.2 (by omega);simp only;omega
section
variable {l:List Symbol}(ok:SigOk ⟨l⟩)
include ok
theorem qjr{t:List Int}(ht:TermOk l t){p:Nat}(hp:p<t.length):Call F.q2g [.agg [slc l],slc t,.int .i64 p] (.int .i64 (q52 l t p:Nat)):=by
 have h:=q2g ok t ht.node (by have:=ht.le;omega) p (Nat.le_of_lt hp);rwa[(q4a ht hp).2.2]at h
theorem qdz{t:List Int}(ht:TermOk l t){p:Nat}(hp:p<t.length):Call F.q21 [.rref [slc l] 0,slc t,.int .i64 p] (.int .i64 (q52 l t p:Nat)):=by
 have h:=q21 ok t ht.node (by have:=ht.le;omega) p (Nat.le_of_lt hp);rwa[(q4a ht hp).2.2]at h
end
theorem qgq(t:List Int)(i j:Nat):((cells t).take (j*1)).drop (i*1)=cells ((t.take j).drop i):=by
 rw[q8o t 1 j rfl,qan _ 1 i rfl]
def q2s(l:List Symbol)(t:List Int)(p:Nat):List Int:=(t.take (q52 l t p)).drop p
theorem qeg(t:List Int)(i j:Nat):T.sl 1 (((cells t).take (j*1)).drop (i*1))=slc ((t.take j).drop i):=by rw[qgq];rfl
theorem q56 (l:List Int)(h:l.length<=4294967296):Call F.q2u [slc l] (slc l):=by
 refine q0r rfl 0 ((q2u.ev _ _).trans ?_);rw[q4c,q1r rfl,q1r (q3v (by rw[q0k,q3e];omega))];rfl
theorem q2j(l:List Int)(h:l.length<=4294967296):Call F.q2j [slc l] (slc l):=by
 refine qer (e:=cloneE) rfl (Ev.of fun m=>?_);show(qbi (cells l)).bind _=_;rw[<- q7c,q9u];show(bif _ then _ else _)=_;rw[q1r (by rw[decide_eq_true_iff];omega),q7c];rfl
section
variable {l:List Symbol}(ok:SigOk ⟨l⟩)
include ok
theorem q3x{t:List Int}(ht:TermOk l t){p:Nat}(hp:p<t.length):Call F.q3x [.agg [slc l],slc t,.int .i64 p] (slc (q2s l t p)):=by
 refine q0r rfl 0 ((q3x.ev _ _ _ _).trans ?_);obtain⟨h1,h2,_⟩:=q4a ht hp;simp only[evz,Nat.reduceLT,(qjr ok ht hp).eq];rw[q1r (by simp;omega),qeg];rfl
theorem q5n{t:List Int}(ht:TermOk l t){p:Nat}(hp:p<t.length):Call F.q5n [.rref [slc l] 0,slc t,.int .i64 p] (slc (q2s l t p)):=by
 refine q0r rfl 0 ((q5n.ev _ _ _ _).trans ?_);obtain⟨h1,h2,_⟩:=q4a ht hp;have hle:=ht.le;simp only[evz,Nat.reduceLT,(qdz ok ht hp).eq];rw[q1r (by simp;omega),qeg,(q56 _ (by simp;omega)).eq];simp only[evz,Nat.reduceLT];rfl
def q32(l:List Symbol)(t:List Int)(p:Nat)(by_:List Int):List Int:=(t.take p++by_)++t.drop (q52 l t p)
theorem q5j{t:List Int}(ht:TermOk l t){p:Nat}(hp:p<t.length)(by_:List Int)(hb:by_.length<=1048576):Call F.q5j [.agg [slc l],slc t,.int .i64 p,slc by_] (slc (q32 l t p by_)):=by
 refine q0r rfl 0 ((q5j.ev _ _ _ _ _).trans ?_);obtain⟨h1,h2,_⟩:=q4a ht hp;have hle:=ht.le;simp only[q5h,q3e,gR];rw[q1r (by simp;omega),qeg,(q2j _ (by simp;omega)).eq];simp only[evz,Nat.reduceLT,q4c,(qjr ok ht hp).eq,qgq,<- q33,q5h,q3e,gR];rw[q1r (q3v (by rw[q0k,q0k,q3e];simp;omega)),q1r (by simp;omega),q1r (q3v (by rw[q0k,q0k,q3e];simp;omega))];simp[q32,slc]
theorem q4z{t:List Int}(ht:TermOk l t){p:Nat}(hp:p<t.length)(by_:List Int)(hb:by_.length<=1048576):Call F.q4z [.rref [slc l] 0,slc t,.int .i64 p,slc by_] (slc (q32 l t p by_)):=by
 refine q0r rfl 0 ((q4z.ev _ _ _ _ _).trans ?_);obtain⟨h1,h2,_⟩:=q4a ht hp;have hle:=ht.le;simp only[q5h,q3e,gR];rw[q1r (by simp;omega),qeg,(q56 _ (by simp;omega)).eq];simp only[evz,Nat.reduceLT,q4c,(qdz ok ht hp).eq,qgq,<- q33,q5h,q3e,gR];rw[q1r (q3v (by rw[q0k,q0k,q3e];simp;omega)),q1r (by simp;omega),q1r (q3v (by rw[q0k,q0k,q3e];simp;omega))];simp[q32,slc]
end
theorem qdd{l:List Symbol}{t:List Int}{p:Nat}{by_:List Int}:(q32 l t p by_).length<=t.length+by_.length+t.length:=by simp[q32];omega
def q3c(vs:List Int)(ts:List (List Int))(v:Int):Option (List Int):=if idx (fun x=>decide (x=v)) vs<0 then none else ts[(idx (fun x=>decide (x=v)) vs).toNat]?
theorem q0e(l:List Int)(x:Int)(hl:l.length<=4294967296):Call F.q0e [slc l,.int .i64 x] (.int .i64 (idx (fun y=>decide (y=x)) l)):=by
 refine q0r rfl (l.length+1) ((q0e.ev _ _ _).trans ?_);simp only[evz,Nat.reduceLT];refine q8u (S:=fun m k=>q0e.at0 (l.length+1) m (q0e.st0 (cells l) x l.length (k:Nat))) (fun m k h=>?_) (fun m=>?_) (gAR _)
 ·have hlk:l[k]?=some l[k]:=gA h;simp only[q0e.next0,q0e.round0,evz,Nat.reduceLT,h,hlk,q1x];rw[q0l (by omega)];by_cases e:x=l[k]
  ·simp[e]
  ·have e':¬ l[k]=x:=fun h=>e h.symm;simp[e,e']
 ·simp only[q0e.next0,q0e.round0,evz,Nat.reduceLT,gAK]
def ofT:Option (List Int)->T
 |some t=>.tup [slc t,.bool true]
 |none=>.tup [slc ([]:List Int),.bool false]
theorem q4q(vs:List Int)(ts:List (List Int))(v:Int)(hl:vs.length=ts.length)(hs:vs.length<=4294967296):Call F.q4q [.agg [slc vs,slc ts],.int .i64 v] (ofT (q3c vs ts v)):=by
 refine q0r rfl 0 ((q4q.ev _ _ _ _).trans ?_);simp only[evz,Nat.reduceLT,(q0e vs v hs).eq,q3c];rcases q8s (fun x:Int=>decide (x=v)) vs with⟨h,_⟩|⟨i,hi,h,_,_⟩
 ·simp only[h,evz,Nat.reduceLT,ofT,q3q,show((-1:Int)<0)=True from by simp]
 ·have hn:¬((i:Nat):Int)<0:=by omega
  have hit:i<ts.length:=by omega
  simp only[h,hn,evz,Nat.reduceLT,hit,gA,q67,ofT]
theorem q27(vs:List Int)(ts:List (List Int))(v:Int)(hl:vs.length=ts.length)(hs:vs.length<=4294967296):Call F.q27 [.rref [slc vs,slc ts] 0,.int .i64 v] (slc ((q3c vs ts v).getD [])):=by
 refine q0r rfl (vs.length+1) ((q27.ev _ _ _ _).trans ?_)
 have loop:=q8w (l:=List.range vs.length) (g:=fun k=>if vs[k]?=some v then some (some (slc (ts[k]?.getD []),[]))else none) (z:=some (slc ([]:List Int),[]))
  (S:=fun m k=>q27.at0 (vs.length+1) m (q27.st0 (cells vs) (cells ts) v (k:Nat))) (fun m k h=>?_) (fun m=>?_) (f:=vs.length+1) (by simp)
 ·refine loop.trans ?_;unfold q3c;rcases q8s (fun x:Int=>decide (x=v)) vs with⟨h,hno⟩|⟨i,hi,h,hyes,hno⟩
  ·rw[h,if_pos (by omega)]
   have:(List.range vs.length).findSome? (fun k=>if vs[k]?=some v then some ((some (slc (ts[k]?.getD []),[]):R))else none)=none:=by
    rw[List.findSome?_eq_none_iff];intro k hk;rw[List.mem_range]at hk;rw[if_neg];rw[gA hk];intro e;have:=hno _ (gG hk);simp at this e;exact this e
   rw[this];rfl
  ·rw[h,if_neg (by omega)];have hit:i<ts.length:=by omega
   have:(List.range vs.length).findSome? (fun k=>if vs[k]?=some v then some ((some (slc (ts[k]?.getD []),[]):R))else none)=some (some (slc ts[i],[])):=by
    rw[List.findSome?_eq_some_iff];refine⟨List.range i,i,(List.range' (i+1) (vs.length-i-1)),?_,?_,?_⟩
    ·rw[List.range_eq_range',List.range_eq_range',<- List.range'_succ,show vs.length-i-1+1=vs.length-i by omega];have:=List.range'_append (s:=0) (m:=i) (n:=vs.length-i) (step:=1);simp only[Nat.one_mul,gAJ]at this;rw[this,Nat.add_sub_cancel' (Nat.le_of_lt hi)]
    ·have e1:vs[i]?=some v:=(gA hi).trans (congrArg some (gAH hyes));have e2:ts[i]?=some ts[i]:=gA hit;simp only[e1,e2,if_true,Option.getD_some]
    ·intro k hk;rw[List.mem_range]at hk;rw[if_neg];rw[gA (by omega)];intro e;have:=hno k hk;simp at this e;exact this e
   rw[this,gR,gA hit];rfl
 ·rw[List.length_range]at h;have hlk:vs[k]?=some vs[k]:=gA h;have hkt:k<ts.length:=by omega
  simp only[q27.next0,q27.round0,evz,Nat.reduceLT,h,hkt,hlk,gA,q1x,q67,List.getElem_range,Option.getD_some,Option.some.injEq];rw[q0l (by omega)];by_cases e:vs[k]=v <;> simp[e]
 ·rw[List.length_range];simp only[q27.next0,q27.round0,evz,Nat.reduceLT,gAK,q3q]
def q01(vs:List Int)(ts:List (List Int))(t:List Int):List Int:=t.flatMap fun n=>(q3c vs ts (-1-n)).getD [n]
structure BindOk(vs:List Int)(ts:List (List Int)):Prop where
 len:vs.length=ts.length
 le:vs.length<=1000
 nn:∀v∈vs,0<=v
 tm:∀t∈ts,1<=t.length/\t.length<=4096
theorem qaf{vs:List Int}{ts:List (List Int)}(ok:BindOk vs ts){v:Int}(hv:v<0):q3c vs ts v=none:=by
 unfold q3c;rcases q8s (fun x:Int=>decide (x=v)) vs with⟨h,_⟩|⟨i,hi,h,hy,_⟩
 ·rw[if_pos (by omega)]
 ·have:=ok.nn _ (gG hi);simp at hy;omega
theorem q4s{vs:List Int}{ts:List (List Int)}{v:Int}{t:List Int}(h:q3c vs ts v=some t):t∈ts:=by
 unfold q3c at h;split at h
 ·cases h
 ·exact List.mem_of_getElem? h
def qa7(vs:List Int)(ts:List (List Int))(o:List Int)(n:Int):List Int:=o++(q3c vs ts (-1-n)).getD [n]
theorem qfy(vs:List Int)(ts:List (List Int)):∀(t o:List Int),t.foldl (qa7 vs ts) o=o++q01 vs ts t
 |[],o=>by simp[q01]
 |n::t,o=>by
  rw[List.foldl_cons,qfy vs ts t];simp[qa7,q01]
def appI(k:Nat)(o:List Int):Prop:=o.length<=k*4096
theorem qg8{vs:List Int}{ts:List (List Int)}(ok:BindOk vs ts){k:Nat}{o:List Int}{n:Int}(h:appI k o):appI (k+1) (qa7 vs ts o n):=by
 unfold appI qa7 at *;rw[gM];cases hb:q3c vs ts (-1-n)with
 |none=>simp;omega
 |some t=>have:=(ok.tm t (q4s hb)).2;simp;omega
theorem q6y{vs:List Int}{ts:List (List Int)}(ok:BindOk vs ts)(t:List Int):(q01 vs ts t).length<=t.length*4096:=by
 have:=qp6 (l:=t) (g:=qa7 vs ts) appI (fun k o _ h=>qg8 ok h) [] (by simp[appI]);rw[qfy]at this;simpa[appI]using this
theorem q0g(vs:List Int)(ts:List (List Int))(ok:BindOk vs ts)(t:List Int)(ht:t.length<=4096)(hr:∀n∈t,-4611686018427387904<=n/\n<=4611686018427387904):Call F.q0g [.agg [slc vs,slc ts],slc t] (slc (q01 vs ts t)):=by
 have hle:=ok.le;refine q0r rfl (t.length+1) ((q0g.ev _ _ _ _).trans ?_);simp only[q5h,q3e]
 have key:=qg7 (l:=t) (f:=t.length+1) (S:=fun m k (o:List Int)=>q0g.at0 (t.length+1) m (q0g.st0 (cells t) t.length (k:Nat) (cells vs) (cells ts) (cells o))) (g:=qa7 vs ts) (z:=fun(o:List Int)=>some (slc o,[])) appI
  (fun m k o h ho=>?_) (fun k o h ho=>qg8 ok ho) (fun m o ho=>?_) [] (by simp[appI]) (by omega)
 ·rw[qfy]at key;exact key
 ·have hn:=hr _ (gG h);have ho:o.length<=k*4096:=ho;simp only[q0g.next0,q0g.round0,evz,Nat.reduceLT,h,gA,q1x,q1o (x := -1-t[k]) (by omega),(q4q vs ts (-1-t[k]) ok.len (by omega)).eq,qa7];cases hb:q3c vs ts (-1-t[k])with
  |none=>
   simp only[ofT,evz,Nat.reduceLT,q4c,Option.getD_none,<- q33];rw[q1r (q3v (by rw[q0k,q3e];omega)),q2f,q0l (by omega)]
  |some x=>
   have hx:=(ok.tm x (q4s hb)).2;simp only[ofT,evz,Nat.reduceLT,q4c,Option.getD_some,<- q33];rw[q1r (q3v (by rw[q0k,q0k,q3e];omega)),q0l (by omega)]
 ·simp only[q0g.next0,q0g.round0,evz,Nat.reduceLT,gAK]
theorem q13(vs:List Int)(ts:List (List Int))(ok:BindOk vs ts)(t:List Int)(ht:t.length<=4096)(hr:∀n∈t,-4611686018427387904<=n/\n<=4611686018427387904):Call F.q13 [.rref [slc vs,slc ts] 0,slc t] (slc (q01 vs ts t)):=by
 have hle:=ok.le;refine q0r rfl (t.length+1) ((q13.ev _ _ _ _).trans ?_)
 have key:=qg7 (l:=t) (f:=t.length+1) (S:=fun m k (o:List Int)=>q13.at0 (t.length+1) m (q13.st0 (cells vs) (cells ts) (cells t) (k:Nat) (cells o))) (g:=qa7 vs ts) (z:=fun(o:List Int)=>some (slc o,[])) appI
  (fun m k o h ho=>?_) (fun k o h ho=>qg8 ok ho) (fun m o ho=>?_) [] (by simp[appI]) (by omega)
 ·rw[qfy]at key;exact key
 ·have hn:=hr _ (gG h);have ho:o.length<=k*4096:=ho;by_cases hneg:t[k]<0
  ·simp only[q13.next0,q13.round0,evz,Nat.reduceLT,h,gA,q1x,hneg,q1o (x := -1-t[k]) (by omega),(q27 vs ts (-1-t[k]) ok.len (by omega)).eq,qa7];cases hb:q3c vs ts (-1-t[k])with
   |none=>
    simp only[q3q,evz,Nat.reduceLT,List.all_nil,Option.getD_none,qdp,List.length_nil,<- q33,Int.natCast_zero,Nat.zero_div,Int.ofNat_zero];rw[q1r (q3v (by rw[q0k,q3e];omega)),q2f,q0l (by omega)]
   |some x=>
    have hx:=ok.tm x (q4s hb);have hx0:¬((x.length:Int)=0):=by omega
    simp only[evz,Nat.reduceLT,q4c,Option.getD_some,hx0,<- q33];rw[q1r (q3v (by rw[q0k,q0k,q3e];omega)),q0l (by omega)]
  ·simp only[q13.next0,q13.round0,evz,Nat.reduceLT,h,gA,q1x,hneg,qa7,qaf ok (v := -1-t[k]) (by omega),Option.getD_none];rw[q1r (q3v (by rw[q0k,q3e];omega)),q2f,q0l (by omega)]
 ·simp only[q13.next0,q13.round0,evz,Nat.reduceLT,gAK]
theorem q8c{vs:List Int}{k:Nat}(h:k<vs.length):vs.getD k 0=vs[k]:=by rw[gI,gA h];rfl
def q7e(l:List Symbol)(t:List Int):Nat->Nat->List Nat
 |0,_=>[]
 |n+1,p=>p::q7e l t n (q52 l t p)
def q3i(l:List Symbol)(t:List Int)(p:Nat):List Nat:=q7e l t (ar l (t.getD p 0)) (p+1)
theorem q71(l:List Symbol)(t:List Int):∀n p,(q7e l t n p).length=n
 |0,_=>rfl
 |n+1,p=>by rw[q7e,gAB,q71 l t n]
theorem qdr{l:List Symbol}{t:List Int}{p n:Nat}{r:List Int}(h:skip (ar l) (n+1) (t.drop p)=some r):p<t.length/\skip (ar l) n (t.drop (q52 l t p))=some r/\p<q52 l t p/\q52 l t p<=t.length:=by
 have hp:p<t.length:=by
  rcases Nat.lt_or_ge p t.length with h1|h1
  ·exact h1
  ·rw[gU h1]at h;cases h
 rw[show n+1=1+n by omega,q9y]at h;cases h1:skip (ar l) 1 (t.drop p)with
 |none=>rw[h1]at h;cases h
 |some q=>
  rw[h1]at h;have h2:=qjh h1;have e:q52 l t p=t.length-q.length:=by unfold q52;rw[h1]
  have h3:=h2.2.2 (by omega);refine⟨hp,?_,by rw[e];omega,by rw[e];omega⟩;rw[e,<- h2.1];exact h
theorem qhy{l:List Symbol}{t:List Int}:∀{n p:Nat}{r:List Int},skip (ar l) n (t.drop p)=some r->∀q∈q7e l t n p,p<=q/\q<t.length
 |0,p,r,h,q,hq=>by cases hq
 |n+1,p,r,h,q,hq=>by
  obtain⟨h1,h2,h3,h4⟩:=qdr h;rcases gK.1 hq with rfl|hq
  ·exact⟨gAI _,h1⟩
  ·have:=qhy h2 q hq;exact⟨by omega,this.2⟩
theorem qby{l:List Symbol}{t:List Int}(ok:TermOk l t){p:Nat}(hp:p<t.length):∃r,skip (ar l) (ar l t[p]) (t.drop (p+1))=some r:=by
 obtain⟨q,hq⟩:=qc6 (p:=p) ok.skip (by simpa using hp);rw[gH hp,skip]at hq;exact⟨q,by simpa using hq⟩
theorem q72{l:List Symbol}{t:List Int}(ok:TermOk l t){p:Nat}(hp:p<t.length){q:Nat}(hq:q∈q3i l t p):p<q/\q<t.length:=by
 obtain⟨r,hr⟩:=qby ok hp;have hd:t.getD p 0=t[p]:=q8c hp;unfold q3i at hq;rw[hd]at hq;have:=qhy hr q hq;exact⟨by omega,this.2⟩
def rank(o:List Int)(n:Int):Int:=idx (fun x=>decide (x=n)) o
def cell(l:List Symbol)(o a b:List Int)(qv9:Nat->Nat->Bool)(i j:Nat):Bool:=
 if b.getD j 0<0 then decide (0<=a.getD i 0)&&decide (b.getD j 0∈q2s l a i)
 else if a.getD i 0<0 then false
 else if(q3i l a i).any (fun p=>decide (q2s l a p=q2s l b j)||qv9 p j)then true
 else if rank o (a.getD i 0)<rank o (b.getD j 0)then false
 else if(q3i l b j).any (fun q=>!qv9 i q)then false
 else if rank o (b.getD j 0)<rank o (a.getD i 0)then true
 else match ((q3i l a i).zip (q3i l b j)).find? fun x=>!decide (q2s l a x.1=q2s l b x.2)with
  |some x=>qv9 x.1 x.2
  |none=>false
theorem qek{l:List Symbol}{o a b:List Int}(ha:TermOk l a)(hb:TermOk l b){f g:Nat->Nat->Bool}{i j:Nat}(hi:i<a.length)(hj:j<b.length)
 (h:∀p q,i<=p->j<=q->p<a.length->q<b.length->(i<p\/j<q)->f p q=g p q):cell l o a b f i j=cell l o a b g i j:=by
 have h1:(q3i l a i).any (fun p=>decide (q2s l a p=q2s l b j)||f p j)=(q3i l a i).any (fun p=>decide (q2s l a p=q2s l b j)||g p j):=by
  rw[Bool.eq_iff_iff,List.any_eq_true,List.any_eq_true];constructor
  ·rintro⟨p,hp,h1⟩;have:=q72 ha hi hp;exact⟨p,hp,by rw[<- h p j (by omega) (gAI _) this.2 hj (.inl this.1)];exact h1⟩
  ·rintro⟨p,hp,h1⟩;have:=q72 ha hi hp;exact⟨p,hp,by rw[h p j (by omega) (gAI _) this.2 hj (.inl this.1)];exact h1⟩
 have h2:(q3i l b j).any (fun q=>!f i q)=(q3i l b j).any (fun q=>!g i q):=by
  rw[Bool.eq_iff_iff,List.any_eq_true,List.any_eq_true];constructor
  ·rintro⟨p,hp,h1⟩;have:=q72 hb hj hp;exact⟨p,hp,by rw[<- h i p (gAI _) (by omega) hi this.2 (.inr this.1)];exact h1⟩
  ·rintro⟨p,hp,h1⟩;have:=q72 hb hj hp;exact⟨p,hp,by rw[h i p (gAI _) (by omega) hi this.2 (.inr this.1)];exact h1⟩
 unfold cell;rw[h1,h2];cases hf:((q3i l a i).zip (q3i l b j)).find? fun x=>!decide (q2s l a x.1=q2s l b x.2)with
 |none=>rfl
 |some x=>
  have hm:=List.mem_of_find?_eq_some hf;have hm1:=q72 ha hi (List.of_mem_zip hm).1;have hm2:=q72 hb hj (List.of_mem_zip hm).2;simp only[h x.1 x.2 (by omega) (by omega) hm1.2 hm2.2 (.inl hm1.1)]
def gtN(l:List Symbol)(o a b:List Int):Nat->Nat->Nat->Bool
 |0,_,_=>false
 |n+1,i,j=>cell l o a b (gtN l o a b n) i j
def gt(l:List Symbol)(o a b:List Int)(i j:Nat):Bool:=gtN l o a b (a.length+b.length+1) i j
theorem qq7{l:List Symbol}{o a b:List Int}(ha:TermOk l a)(hb:TermOk l b):∀(d n m i j:Nat),i<a.length->j<b.length->(a.length-i)+(b.length-j)<=d->d<n->d<m->gtN l o a b n i j=gtN l o a b m i j:=by
 intro d;induction d with
 |zero=>intros;omega
 |succ d ih=>
  intro n m i j hi hj hd hn hm;obtain⟨n,rfl⟩:∃q,n=q+1:=⟨n-1,by omega⟩;obtain⟨m,rfl⟩:∃q,m=q+1:=⟨m-1,by omega⟩;rw[gtN,gtN];exact qek ha hb hi hj fun p q h1 h2 h3 h4 h5=>ih n m p q h3 h4 (by omega) (by omega) (by omega)
theorem qxw{l:List Symbol}{o a b:List Int}(ha:TermOk l a)(hb:TermOk l b){i j:Nat}(hi:i<a.length)(hj:j<b.length):gt l o a b i j=cell l o a b (gt l o a b) i j:=by
 show gtN l o a b (a.length+b.length+1) i j=_;rw[gtN];exact qek ha hb hi hj fun p q h1 h2 h3 h4 h5=>qq7 ha hb ((a.length-p)+(b.length-q)) _ _ p q h3 h4 (gAI _) (by omega) (by omega)
def ints(l:List Nat):List Int:=l.map fun(n:Nat)=>(n:Int)
section
variable {l:List Symbol}(ok:SigOk ⟨l⟩)
include ok
theorem q0x{t:List Int}(ht:TermOk l t){p:Nat}(hp:p<t.length):Call F.q0x [.agg [slc l],slc t,.int .i64 p] (slc (ints (q3i l t p))):=by
 have hle:=ht.le;have har:=qqd (l:=l) ok t[p];refine q0r rfl 4 ((q0x.ev _ _ _ _).trans ?_);simp only[evz,Nat.reduceLT,hp,gA,q1x,(q66 ok t[p] (ht.node _ (gG hp))).eq];rw[q0l (by omega)]
 have loop:∀n k q f (out:List Int) r,k+n=ar l t[p]->n<f->skip (ar l) n (t.drop q)=some r->out.length=k->
  q0x.at0 4 f (q0x.st0 (cells t) (q:Nat) (ar l t[p]:Nat) (k:Nat) (cells l) (cells out))=some (slc (out++ints (q7e l t n q)),[]):=by
  intro n;induction n with
  |zero=>
   intro k q f out r hk hf hs ho;obtain⟨f,rfl⟩:∃x,f=x+1:=⟨f-1,by omega⟩;have:¬ k<ar l t[p]:=by omega
   simp only[q0x.next0,q0x.round0,evz,Nat.reduceLT,this,q7e,ints,List.map_nil,gAD]
  |succ n ih=>
   intro k q f out r hk hf hs ho;obtain⟨f,rfl⟩:∃x,f=x+1:=⟨f-1,by omega⟩;obtain⟨h1,h2,h3,h4⟩:=qdr hs;have hlt:k<ar l t[p]:=by omega
   simp only[q0x.next0,q0x.round0,evz,Nat.reduceLT,hlt,(qjr ok ht h1).eq,q2f];rw[q1r (q3v (by rw[q0k,q3e];omega)),q0l (by omega)];by_cases hn:n=0
   ·subst hn;obtain⟨f,rfl⟩:∃x,f=x+1:=⟨f-1,by omega⟩;have:¬ k+1<ar l t[p]:=by omega
    simp only[q0x.next0,q0x.round0,evz,Nat.reduceLT,this,q7e,ints,List.map_nil,List.map_cons]
   ·rw[ih (k+1) (q52 l t q) f (out++[(q:Int)]) r (by omega) (by omega) h2 (by simp[ho])];simp[q7e,ints]
 obtain⟨r,hr⟩:=qby ht hp;have hd:t.getD p 0=t[p]:=q8c hp;have:=loop (ar l t[p]) 0 (p+1) 4 [] r (by omega) (by omega) hr (by simp);unfold q3i;rw[hd];simpa using this
end
theorem qp3:∀(l:List (Int×Int×Bool))(a b:Int)(i j:Nat),(mpAt l a b i).map (·.2)=(mpAt l a b j).map (·.2)
 |[],_,_,_,_=>rfl
 |(x,y,v)::r,a,b,i,j=>by
  rw[mpAt,mpAt];cases (a==x&&b==y)with
  |true=>rfl
  |false=>exact qp3 r a b (i+1) (j+1)
theorem q9o(x y:Int)(v:Bool)(r:List (Int×Int×Bool))(a b:Int):qaj ((x,y,v)::r) a b=bif a==x&&b==y then some v else qaj r a b:=by
 unfold qaj;rw[mpAt];cases (a==x&&b==y)with
 |true=>rfl
 |false=>exact qp3 r a b 1 0
theorem qiq:∀(l:List (Int×Int×Bool))(x y:Int)(v:Bool)(a b:Int),qaj (qez l x y v) a b=bif a==x&&b==y then some v else qaj l a b
 |[],x,y,v,a,b=>by rw[qez,q9o]
 |(x',y',v')::r,x,y,v,a,b=>by
  rw[qez];cases h:(x==x'&&y==y')with
  |true=>
   simp only[gC,beq_iff_eq]at h;obtain⟨rfl,rfl⟩:=h;rw[cond_true,q9o,q9o];cases (a==x&&b==y) <;> rfl
  |false=>
   rw[cond_false,q9o,q9o,qiq r];cases h1:(a==x'&&b==y')with
   |false=>rfl
   |true=>
    cases h2:(a==x&&b==y)with
    |false=>rfl
    |true=>
     simp only[gC,beq_iff_eq]at h1 h2;obtain⟨rfl,rfl⟩:=h1;obtain⟨rfl,rfl⟩:=h2;simp at h
def Good(l:List Symbol)(o a b:List Int)(m:List (Int×Int×Bool)):Prop:=∀(p q:Nat)(v:Bool),qaj m p q=some v->v=gt l o a b p q
theorem Good.put{l:List Symbol}{o a b:List Int}{m:List (Int×Int×Bool)}(h:Good l o a b m)(i j:Nat):Good l o a b (qez m i j (gt l o a b i j)):=fun p q v hv=>by
 rw[qiq]at hv;cases hc:(((p:Int)==(i:Int))&&((q:Int)==(j:Int)))with
 |true=>
  rw[hc,cond_true]at hv;simp only[gC,beq_iff_eq,Int.ofNat_inj]at hc;obtain⟨rfl,rfl⟩:=hc;exact(Option.some.inj hv).symm
 |false=>rw[hc,cond_false]at hv;exact h p q v hv
section
variable {l:List Symbol}(ok:SigOk ⟨l⟩){o a b:List Int}(ha:TermOk l a)(hb:TermOk l b)
include ok ha hb
omit ok ha hb in
theorem qpc{A:List Nat}{k:Nat}(h:k<A.length):(ints A)[k]?=some ((A[k]:Nat):Int):=by simp[ints,h]
omit ok ha hb in
theorem qhx(A:List Nat):(ints A).length=A.length:=by simp[ints]
omit ok ha hb in
theorem qlv(ok:SigOk ⟨l⟩)(t:List Int)(p:Nat):(q3i l t p).length<=2:=by
 unfold q3i;rw[q71];exact qqd ok _
end
theorem q2d(o:List Int)(x:Int)(hl:o.length<=4294967296):Call F.q2d [slc o,.int .i64 x] (.int .i64 (rank o x)):=by
 refine q0r rfl (o.length+1) ((q2d.ev _ _ _).trans ?_);refine q8u (S:=fun m k=>q2d.at0 (o.length+1) m (q2d.st0 (cells o) x (k:Nat))) (fun m k h=>?_) (fun m=>?_) (gAR _)
 ·have hlk:o[k]?=some o[k]:=gA h;simp only[q2d.next0,q2d.round0,evz,Nat.reduceLT,h,hlk,q1x,gS];rw[q0l (by omega)]
 ·simp only[q2d.next0,q2d.round0,evz,Nat.reduceLT,gAK]
section
variable {l:List Symbol}(ok:SigOk ⟨l⟩)
include ok
omit ok in
theorem qu3{i j la lb:Nat}(hi:i<la)(hj:j<lb):i*lb+j<la*lb:=by
 have:i*lb+lb<=la*lb:=by rw[<- Nat.succ_mul];exact gAO _ hi
 omega
section
variable {o a b:List Int}(ha:TermOk l a)(hb:TermOk l b){T:List Bool}(hT:T.length=a.length*b.length)
include ha hb hT
end
def Done(l:List Symbol)(o a b:List Int)(T:List Bool)(n:Nat):Prop:=
 T.length=a.length*b.length/\∀p q,p<a.length->q<b.length->n<=p*b.length+q->T.getD (p*b.length+q) false=gt l o a b p q
omit ok in
theorem qxm{n p q i j:Nat}(hq:q<n)(hj:j<n)(h:p*n+q=i*n+j):p=i/\q=j:=by
 rcases Nat.lt_trichotomy p i with h1|h1|h1
 ·have:(p+1)*n<=i*n:=gAO _ h1;rw[Nat.succ_mul]at this;omega
 ·subst h1;exact⟨rfl,by omega⟩
 ·have:(i+1)*n<=p*n:=gAO _ h1;rw[Nat.succ_mul]at this;omega
omit ok in
theorem Done.cell{o a b:List Int}(ha:TermOk l a)(hb:TermOk l b){T:List Bool}{i j:Nat}(hi:i<a.length)(hj:j<b.length)(h:Done l o a b T (i*b.length+(j+1))) :
 cell l o a b (fun p q=>T.getD (p*b.length+q) false) i j=gt l o a b i j:=by
 rw[qxw ha hb hi hj];refine qek ha hb hi hj fun p q h1 h2 h3 h4 h5=>h.2 p q h3 h4 ?_;have h6:i*b.length<=p*b.length:=gAO _ h1;rcases h5 with h5|h5
 ·have:(i+1)*b.length<=p*b.length:=gAO _ h5;rw[Nat.succ_mul]at this;omega
 ·omega
omit ok in
theorem Done.set{o a b:List Int}{T:List Bool}{i j:Nat}(hi:i<a.length)(hj:j<b.length)(h:Done l o a b T (i*b.length+(j+1))):Done l o a b (T.set (i*b.length+j) (gt l o a b i j)) (i*b.length+j):=by
 have hin:=qu3 hi hj;refine⟨by rw[List.length_set];exact h.1,fun p q hp hq hle=>?_⟩;by_cases e:i*b.length+j=p*b.length+q
 ·obtain⟨rfl,rfl⟩:=qxm hq hj e.symm;simp[gI,h.1,hin]
 ·have:=h.2 p q hp hq (by omega);rw[<- this,gI,gI,List.getElem?_set_ne e]
end
theorem TermOk.range{l:List Symbol}(ok:SigOk ⟨l⟩){t:List Int}(h:TermOk l t):∀n∈t,-4611686018427387904<=n/\n<=4611686018427387904:=fun n hn=>by
 have:=q49.1 (h.node n hn);have hle:l.length<=6:=ok.le;omega
theorem q4l(l:List Symbol)(hs:l.length<=4294967296)(es:List Equation)(he:sm 4294967296 es) :
 Call F.q4l [.agg [slc l],slc es] (.int .i64 (if q2v ⟨l⟩≠0 then q2v ⟨l⟩else q4r l es)):=by
 refine q0r rfl 0 ((q4l.ev _ _ _).trans ?_);simp only[evz,Nat.reduceLT,(q00 l hs).eq];by_cases h1:q2v ⟨l⟩=0
 case neg=>simp only[h1,evz,Nat.reduceLT,ne_eq,gX]
 simp only[h1,evz,Nat.reduceLT,ne_eq,gW,(q1i l ((q5g _).1 h1) es he).eq]
theorem q7d(t:List Int):Call F.q7d [slc t] (.agg (enc (if 24<t.length then(⟨2,[]⟩:TermResult)else⟨0,t⟩))):=by
 refine q0r rfl 0 ((q7d.ev _ _).trans ?_);simp only[evz,Nat.reduceLT,gt_iff_lt];by_cases h:24<t.length
 ·have h':(24:Int)<t.length:=by omega
  simp only[h,h',evz,Nat.reduceLT,q36,q3q]
 ·have h':¬(24:Int)<t.length:=by omega
  simp only[h,h',evz,Nat.reduceLT,q36]
theorem q69(t:List Int)(n:Int)(hl:t.length<=4294967296):Call F.q69 [slc t,.int .i64 n] (.bool (inR n 0 (t.length-1))):=by
 refine q0r rfl 0 ((q69.ev _ _ _).trans ?_);simp only[evz,Nat.reduceLT,q1o (x:=(t.length:Int)-1) (by omega),(q14 _ _ _).eq]
theorem getE{es:List Equation}{k:Nat}(h:k<es.length):es.getD k ⟨[],[]⟩=es[k]:=by rw[gI,gA h];rfl
theorem qb0{a:Int->Nat}:∀{x r q:List Int}{k:Nat},skip a k x=some q->skip a k (x++r)=some (q++r)
 |x,r,q,0,h=>by rw[q3l]at h;cases h;rw[q3l]
 |[],r,q,k+1,h=>by cases h
 |n::x,r,q,k+1,h=>by
  rw[skip]at h;rw[List.cons_append,skip];exact qb0 h
theorem qpv{a:Int->Nat}:∀{x r:List Int}{k:Nat},skip a k (x++r)=some r->skip a k x=some []
 |x,r,0,h=>by
  rw[q3l]at h;have:=congrArg List.length (Option.some.inj h);rw[gM]at this;have:x=[]:=gL (by omega);subst this;rfl
 |[],r,k+1,h=>by
  obtain⟨p,hp,hk⟩:=qb8 h;have h1:=congrArg List.length hp;rw[List.nil_append,gM]at h1;have h2:=hk (by omega);omega
 |n::x,r,k+1,h=>by
  rw[List.cons_append,skip]at h;rw[skip];exact qpv h
theorem qks{a:Int->Nat}{m:Nat}{r:List Int}(h:skip a m []=some r):m=0/\r=[]:=by
 cases m with
 |zero=>rw[q3l]at h;cases h;exact⟨rfl,rfl⟩
 |succ m=>cases h
theorem q54{l:List Symbol}{t:List Int}(ht:TermOk l t){p:Nat}(hp:p<t.length):t.drop p=q2s l t p++t.drop (q52 l t p)/\(q2s l t p).length=q52 l t p-p/\skip (ar l) 1 (t.drop p)=some (t.drop (q52 l t p)):=by
 obtain⟨h1,h2,_⟩:=q4a ht hp;have hl:(q2s l t p).length=q52 l t p-p:=by simp[q2s];omega
 refine⟨?_,hl,?_⟩
 ·have e:t.drop (q52 l t p)=(t.drop p).drop (q52 l t p-p):=by rw[List.drop_drop];congr 1;omega
  have e2:q2s l t p=(t.drop p).take (q52 l t p-p):=by unfold q2s;rw[List.drop_take]
  rw[e,e2,List.take_append_drop]
 ·obtain⟨q,hq⟩:=qc6 (p:=p) ht.skip (by simpa using hp);have:=(qjh hq).1;rw[hq];unfold q52;rw[hq];exact congrArg some this
theorem q6g{l:List Symbol}{t:List Int}(ht:TermOk l t){p:Nat}(hp:p<t.length):TermOk l (q2s l t p):=by
 obtain⟨h1,h2,h3⟩:=q54 ht hp;obtain⟨h4,h5,_⟩:=q4a ht hp;have:=ht.le;refine⟨by omega,by omega,fun n hn=>ht.node n ?_,?_⟩
 ·exact List.mem_of_mem_drop (h1▸gJ _ hn)
 ·rw[h1]at h3;exact qpv h3
theorem qt1{l:List Symbol}{t:List Int}(ht:TermOk l t){p:Nat}(hp:p<t.length){i:Nat}(hi:i<(q2s l t p).length) :
 p+i<t.length/\(q2s l t p).getD i 0=t.getD (p+i) 0/\q52 l t (p+i)=p+q52 l (q2s l t p) i/\q2s l (q2s l t p) i=q2s l t (p+i):=by
 obtain⟨h1,h2,h3⟩:=q54 ht hp;obtain⟨h4,h5,_⟩:=q4a ht hp;have hu:=q6g ht hp;have hpi:p+i<t.length:=by omega
 obtain⟨h6,h7,h8⟩:=q54 hu hi;obtain⟨k1,k2,k3⟩:=q54 ht hpi;obtain⟨h9,h10,_⟩:=q4a hu hi;obtain⟨k4,k5,_⟩:=q4a ht hpi
 have hd:t.drop (p+i)=(q2s l t p).drop i++t.drop (q52 l t p):=by
  rw[<- List.drop_drop,h1,List.drop_append_of_le_length (by omega)]
 have e1:q52 l t (p+i)=p+q52 l (q2s l t p) i:=by
  have h:=qb0 (r:=t.drop (q52 l t p)) h8;rw[<- hd,k3]at h;have:=congrArg List.length (Option.some.inj h);simp only[gAA,gM]at this;omega
 refine⟨hpi,?_,e1,?_⟩
 ·have:=congrArg (fun x=>x[0]?) hd;simp only[gV,Nat.add_zero]at this;rw[gI,gI,this,List.getElem?_append_left (by simp;omega),gV,Nat.add_zero]
 ·have q1:q2s l t (p+i)=(t.drop (p+i)).take (q52 l t (p+i)-(p+i)):=by unfold q2s;rw[List.drop_take]
  have q2:q2s l (q2s l t p) i=((q2s l t p).drop i).take (q52 l (q2s l t p) i-i):=by
   show((q2s l t p).take (q52 l (q2s l t p) i)).drop i=_;rw[List.drop_take]
  rw[q1,q2,hd,e1,List.take_append_of_le_length (by simp;omega)];congr 1;omega
abbrev Bnd:=List Int×List (List Int)
def q76(vs:List Int)(v:Int):Nat:=(vs.takeWhile fun x=>decide (x<v)).length
def ins{α:Type}(l:List α)(i:Nat)(x:α):List α:=l.take i++x::l.drop i
def bput(b:Bnd)(v:Int)(t:List Int):Bnd:=(ins b.1 (q76 b.1 v) v,ins b.2 (q76 b.1 v) t)
theorem qe1(vs:List Int)(v:Int):q76 vs v<=vs.length:=by
 have:=(List.takeWhile_sublist (l:=vs) (p:=fun x=>decide (x<v))).length_le;exact this
theorem qjn:∀(vs:List Int)(v:Int)(i:Nat)(h:i<q76 vs v)(h':i<vs.length),vs[i]<v
 |[],v,i,h,h'=>by simp at h'
 |x::vs,v,i,h,h'=>by
  unfold q76 at h;rw[List.takeWhile_cons]at h;by_cases hx:x<v
  ·rw[if_pos (by simpa using hx)]at h;cases i with
   |zero=>exact hx
   |succ i=>exact qjn vs v i (by simpa[q76]using h) (by simpa using h')
  ·rw[if_neg (by simpa using hx)]at h;simp at h
theorem qex:∀(vs:List Int)(v:Int)(h':q76 vs v<vs.length),¬ vs[q76 vs v]<v
 |[],v,h'=>by simp at h'
 |x::vs,v,h'=>by
  by_cases hx:x<v
  ·have e:q76 (x::vs) v=q76 vs v+1:=by unfold q76;rw[List.takeWhile_cons,if_pos (by simpa using hx)];rfl
   have:=qex vs v (by rw[e]at h';simpa using h');simpa[e]using this
  ·have e:q76 (x::vs) v=0:=by unfold q76;rw[List.takeWhile_cons,if_neg (by simpa using hx)];rfl
   simpa[e]using hx
theorem q70{α:Type}(l:List α)(i:Nat)(x:α)(h:i<=l.length):(ins l i x).length=l.length+1:=by simp[ins];omega
theorem qjp{α:Type}{l:List α}{i:Nat}{x y:α}(h:y∈ins l i x):y=x\/y∈l:=by
 unfold ins at h;rcases gO.1 h with h|h
 ·exact .inr (List.mem_of_mem_take h)
 ·rcases gK.1 h with h|h
  ·exact .inl h
  ·exact .inr (List.mem_of_mem_drop h)
structure MB(l:List Symbol)(b:Bnd)(k:Nat):Prop where
 len:b.1.length=b.2.length
 le:b.1.length<=k
 var:∀v∈b.1,0<=v/\v<=11
 tm:∀t∈b.2,TermOk l t
theorem MB.nil(l:List Symbol):MB l ([],[]) 0:=⟨rfl,gAI _,by simp,by simp⟩
theorem MB.up{l:List Symbol}{b:Bnd}{k k':Nat}(h:MB l b k)(hk:k<=k'):MB l b k':=⟨h.len,Nat.le_trans h.le hk,h.var,h.tm⟩
theorem MB.put{l:List Symbol}{b:Bnd}{k:Nat}(h:MB l b k){v:Int}(hv:0<=v/\v<=11){t:List Int}(ht:TermOk l t):MB l (bput b v t) (k+1):=by
 have hi:=qe1 b.1 v;have hlen:=h.len;have:=h.le;refine⟨?_,?_,fun x hx=>?_,fun x hx=>?_⟩
 ·unfold bput;rw[q70 _ _ _ hi,q70 _ _ _ (by omega)];omega
 ·unfold bput;rw[q70 _ _ _ hi];omega
 ·rcases qjp hx with rfl|hx
  ·exact hv
  ·exact h.var x hx
 ·rcases qjp hx with rfl|hx
  ·exact ht
  ·exact h.tm x hx
theorem MB.ok{l:List Symbol}{b:Bnd}{k:Nat}(h:MB l b k)(hk:k<=24):BindOk b.1 b.2:=
 ⟨h.len,by have:=h.le;omega,fun v hv=>(h.var v hv).1,fun t ht=>⟨(h.tm t ht).pos,by have:=(h.tm t ht).le;omega⟩⟩
theorem qcy{vs:List Int}{ts:List (List Int)}(hl:vs.length=ts.length){v:Int}(h:q3c vs ts v=none):v∉vs:=fun hv=>by
 unfold q3c at h;rcases q8s (fun x:Int=>decide (x=v)) vs with⟨h1,hno⟩|⟨i,hi,h1,_,_⟩
 ·have:=hno v hv;simp at this
 ·rw[h1,if_neg (by omega),gR,gA (by omega)]at h;cases h
def mgo(l:List Symbol)(t:List Int):List Int->Bnd->Nat->Option (Bnd×Nat)
 |[],b,p=>some (b,p)
 |n::q,b,p=>
  if t.length<=p then none
  else if 0<=n then(if t.getD p 0=n then mgo l t q b (p+1)else none)
  else match q3c b.1 b.2 (-1-n)with
   |none=>mgo l t q (bput b (-1-n) (q2s l t p)) (p+(q2s l t p).length)
   |some o=>if o=q2s l t p then mgo l t q b (p+(q2s l t p).length)else none
structure Both(l:List Symbol)(t q:List Int)(p:Nat)(r:List Int):Prop where
 both:∃m,skip (ar l) m q=some []/\skip (ar l) m (t.drop p)=some r
theorem Both.start{l:List Symbol}{t q:List Int}(ht:TermOk l t)(hq:TermOk l q){p:Nat}(hp:p<t.length):Both l t q p (t.drop (q52 l t p)):=⟨1,hq.skip,(q54 ht hp).2.2⟩
theorem Both.stop{l:List Symbol}{t:List Int}{p:Nat}{r:List Int}(h:Both l t [] p r):t.drop p=r:=by
 obtain⟨m,h1,h2⟩:=h.both;obtain⟨rfl,_⟩:=qks h1;rw[q3l]at h2;exact Option.some.inj h2
theorem Both.lt{l:List Symbol}{t q:List Int}{n:Int}{p:Nat}{r:List Int}(h:Both l t (n::q) p r):p<t.length:=by
 obtain⟨m,h1,h2⟩:=h.both;cases m with
 |zero=>rw[q3l]at h1;cases h1
 |succ m=>
  rcases Nat.lt_or_ge p t.length with h|h
  ·exact h
  ·rw[gU h]at h2;cases h2
theorem Both.node{l:List Symbol}{t q:List Int}{n:Int}{p:Nat}{r:List Int}(h:Both l t (n::q) p r)(hn:t.getD p 0=n):Both l t q (p+1) r:=by
 have hp:=h.lt;obtain⟨m,h1,h2⟩:=h.both;cases m with
 |zero=>rw[q3l]at h1;cases h1
 |succ m=>
  rw[gH hp,skip,<- q8c hp,hn]at h2;rw[skip]at h1;exact⟨_,h1,h2⟩
theorem Both.var{l:List Symbol}{t q:List Int}{n:Int}{p:Nat}{r:List Int}(ht:TermOk l t)(h:Both l t (n::q) p r)(hn:n<0):Both l t q (p+(q2s l t p).length) r:=by
 have hp:=h.lt;obtain⟨h3,h4,h5⟩:=q54 ht hp;obtain⟨h6,h7,_⟩:=q4a ht hp;obtain⟨m,h1,h2⟩:=h.both;cases m with
 |zero=>rw[q3l]at h1;cases h1
 |succ m=>
  rw[skip,qa3 l hn,Nat.add_zero]at h1;rw[show m+1=1+m by omega,q9y,h5]at h2;refine⟨m,h1,?_⟩;rw[h4,show p+(q52 l t p-p)=q52 l t p by omega];exact h2
theorem qkk{l:List Symbol}{t:List Int}(ht:TermOk l t){p:Nat}(hp:p<t.length):∀(q:List Int)(b:Bnd)(i:Nat),Both l (q2s l t p) q i []->
 mgo l t q b (p+i)=(mgo l (q2s l t p) q b i).map fun x=>(x.1,p+x.2)
 |[],b,i,h=>rfl
 |n::q,b,i,h=>by
  have hu:=q6g ht hp;have hi:=h.lt;obtain⟨h1,h2,h3,h4⟩:=qt1 ht hp hi;have n1:¬ t.length<=p+i:=by omega
  have n2:¬(q2s l t p).length<=i:=by omega
  rw[mgo,mgo,if_neg n1,if_neg n2,h2,h4];by_cases hn:0<=n
  ·rw[if_pos hn,if_pos hn];by_cases e:t.getD (p+i) 0=n
   ·rw[if_pos e,if_pos e];exact qkk ht hp q b (i+1) (h.node (by rw[h2,e]))
   ·rw[if_neg e,if_neg e];rfl
  ·rw[if_neg hn,if_neg hn];have hv:=h.var hu (by omega);rw[h4]at hv;cases q3c b.1 b.2 (-1-n)with
   |none=>
    have:=qkk ht hp q (bput b (-1-n) (q2s l t (p+i))) _ hv;rw[<- Nat.add_assoc]at this;exact this
   |some o=>
    show(if o=_ then _ else none)=Option.map _ (if o=_ then _ else none);by_cases e:o=q2s l t (p+i)
    ·rw[if_pos e,if_pos e];have:=qkk ht hp q b _ hv;rw[<- Nat.add_assoc]at this;exact this
    ·rw[if_neg e,if_neg e];rfl
theorem qev{l:List Symbol}{t:List Int}(ht:TermOk l t){r:List Int}:∀(q:List Int)(b:Bnd)(p k:Nat),Both l t q p r->p<=t.length->MB l b k->k+q.length<=24->(∀n∈q,q5l l n=true)->∀x,mgo l t q b p=some x->t.drop x.2=r/\x.2<=t.length/\MB l x.1 (k+q.length)
 |[],b,p,k,h,hp,hb,hk,hq,x,hx=>by
  cases hx;exact⟨h.stop,hp,by simpa using hb⟩
 |n::q,b,p,k,h,hp,hb,hk,hq,x,hx=>by
  have hlt:=h.lt;obtain⟨h6,h7,_⟩:=q4a ht hlt;have hs:=(q54 ht hlt).2.1;rw[mgo,if_neg (by omega)]at hx;rw[gAB]at hk ⊢;have e0:k+1+q.length=k+(q.length+1):=by omega
  by_cases hn:0<=n
  ·rw[if_pos hn]at hx;split at hx
   ·rename_i e;have:=qev ht q b (p+1) (k+1) (h.node e) (by omega) (hb.up (by omega)) (by omega) (fun n hn=>hq n (gF _ hn)) x hx;rw[e0]at this;exact this
   ·cases hx
  ·rw[if_neg hn]at hx;have hnode:=q49.1 (hq n (by simp));split at hx
   ·have:=qev ht q _ _ (k+1) (h.var ht (by omega)) (by omega) (hb.put (v := -1-n) (by omega) (q6g ht hlt)) (by omega) (fun n hn=>hq n (gF _ hn)) x hx;rw[e0]at this;exact this
   ·split at hx
    ·have:=qev ht q b _ (k+1) (h.var ht (by omega)) (by omega) (hb.up (by omega)) (by omega) (fun n hn=>hq n (gF _ hn)) x hx;rw[e0]at this;exact this
    ·cases hx
def q6i(l:List Symbol)(q t:List Int)(p:Nat):Option Bnd:=(mgo l t q ([],[]) p).map (·.1)
theorem qnd{l:List Symbol}{q t:List Int}(hq:TermOk l q)(ht:TermOk l t){p:Nat}(hp:p<t.length):q6i l q (q2s l t p) 0=q6i l q t p:=by
 have hu:=q6g ht hp;have hb:=Both.start hu hq (p:=0) (by have:=hu.pos;omega);have he:t.drop p=q2s l t p++t.drop (q52 l t p):=(q54 ht hp).1
 have e0:(q2s l t p).drop (q52 l (q2s l t p) 0)=[]:=by
  have:=(q54 hu (p:=0) (by have:=hu.pos;omega)).2.2;rw[List.drop_zero,hu.skip]at this;exact(Option.some.inj this).symm
 rw[e0]at hb;have:=qkk ht hp q ([],[]) 0 hb;unfold q6i;rw[Nat.add_zero]at this;rw[this];cases mgo l (q2s l t p) q ([],[]) 0 <;> rfl
theorem qc4{l:List Symbol}{q t:List Int}(hq:TermOk l q)(ht:TermOk l t){p:Nat}(hp:p<t.length){b:Bnd}(h:q6i l q t p=some b):MB l b q.length:=by
 unfold q6i at h;rw[gP]at h;obtain⟨x,hx,rfl⟩:=h;have:=(qev ht q ([],[]) p 0 (Both.start ht hq hp) (by omega) (MB.nil l) (by have:=hq.le;omega) hq.node x hx).2.2;simpa using this
end Ev.Ty
end
section
namespace Ev.Ty
section
variable {α:Type}(lt:α->α->Bool)
variable {lt}
end
end Ev.Ty
end
section
namespace Ev.Ty
open Go Ev
namespace Tm
def args:Tm->List Tm
 |v _=>[]
 |k _=>[]
 |u _ x=>[x]
 |b _ x y=>[x,y]
def size:Tm->Nat
 |v _=>1
 |k _=>1
 |u _ x=>x.size+1
 |b _ x y=>x.size+y.size+1
theorem q5v{p t:Tm}(h:p∈t.args):p.size<t.size:=by
 cases t with
 |v n=>cases h
 |k n=>cases h
 |u n x=>rw[gD.1 h];exact gAR _
 |b n x y=>
  rcases gK.1 h with rfl|h
  ·show p.size<p.size+y.size+1;omega
  ·rw[gD.1 h];show y.size<x.size+y.size+1;omega
def gr(a:Int->Nat):Tm->Prop
 |v _=>False
 |k n=>0<=n/\a n=0
 |u n x=>0<=n/\a n=1/\x.gr a
 |b n x y=>0<=n/\a n=2/\x.gr a/\y.gr a
variable {a:Int->Nat}
theorem gr.args{t p:Tm}(h:t.gr a)(hp:p∈t.args):p.gr a:=by
 cases t with
 |v n=>cases h
 |k n=>cases hp
 |u n x=>rw[gD.1 hp];exact h.2.2
 |b n x y=>
  rcases gK.1 hp with rfl|hp
  ·exact h.2.2.1
  ·rw[gD.1 hp];exact h.2.2.2
theorem gr.ok:∀{t:Tm},t.gr a->t.ok a
 |.v _,h=>h.elim
 |.k _,h=>h
 |.u _ _,h=>⟨h.1,h.2.1,h.2.2.ok⟩
 |.b _ _ _,h=>⟨h.1,h.2.1,h.2.2.1.ok,h.2.2.2.ok⟩
theorem gr.head{t:Tm}(h:t.gr a):0<=t.head/\t.args.length=a t.head:=by
 cases t with
 |v n=>cases h
 |k n=>exact⟨h.1,h.2.symm⟩
 |u n x=>exact⟨h.1,h.2.1.symm⟩
 |b n x y=>exact⟨h.1,h.2.1.symm⟩
theorem ok.args{t p:Tm}(h:t.ok a)(hp:p∈t.args):p.ok a:=by
 cases t with
 |v n=>cases hp
 |k n=>cases hp
 |u n x=>rw[gD.1 hp];exact h.2.2
 |b n x y=>
  rcases gK.1 hp with rfl|hp
  ·exact h.2.2.1
  ·rw[gD.1 hp];exact h.2.2.2
theorem ok.len{t:Tm}(ha:∀n,n<0->a n=0)(h:t.ok a):t.args.length=a t.head:=by
 cases t with
 |v n=>exact(ha n h).symm
 |k n=>exact h.2.symm
 |u n x=>exact h.2.1.symm
 |b n x y=>exact h.2.1.symm
theorem ok.head{t p:Tm}(h:t.ok a)(hp:p∈t.args):0<=t.head:=by
 cases t with
 |v n=>cases hp
 |k n=>cases hp
 |u n x=>exact h.1
 |b n x y=>exact h.1
theorem ql6{t p:Tm}(hp:p∈t.args){n:Int}(hn:n∈p.flat):n∈t.flat:=by
 cases t with
 |v m=>cases hp
 |k m=>cases hp
 |u m x=>rw[gD.1 hp]at hn;exact gF _ hn
 |b m x y=>
  rcases gK.1 hp with rfl|hp
  ·exact gF _ (gJ _ hn)
  ·rw[gD.1 hp]at hn;exact gF _ (gN _ hn)
end Tm
open Tm
inductive G(r:Int->Int):Tm->Tm->Prop
 |eq {s p}:p∈s.args->G r s p
 |sub {s t p}:p∈s.args->G r p t->G r s t
 |big {s t}:0<=s.head->0<=t.head->r t.head<r s.head->(∀q,q∈t.args->G r s q)->G r s t
 |lex {s t A B C x y}:0<=s.head->s.head=t.head->(∀q,q∈t.args->G r s q)->s.args=A++x::B->t.args=A++y::C->G r x y->G r s t
namespace G
variable {r:Int->Int}
theorem arg{s t q:Tm}(h:G r s t)(hq:q∈t.args):G r s q:=by
 induction h with
 |eq hp=>exact .sub hp (.eq hq)
 |sub hp _ ih=>exact .sub hp (ih hq)
 |big _ _ _ h=>exact h q hq
 |lex _ _ h _ _ _=>exact h q hq
theorem trans:∀(n:Nat){s t u:Tm},s.size+t.size+u.size<=n->G r s t->G r t u->G r s u:=by
 intro n;induction n with
 |zero=>intro s t u hn h1 h2;cases s <;> simp[Tm.size]at hn
 |succ n ih=>
  intro s t u hn h1 h2;cases h1 with
  |eq hp=>exact .sub hp h2
  |sub hp h1=>
   have:=q5v hp;exact .sub hp (ih (by omega) h1 h2)
  |big z1 z2 hr hq=>
   have h1:G r s t:=.big z1 z2 hr hq;cases h2 with
   |eq hu=>exact hq _ hu
   |sub hp h2=>
    have:=q5v hp;exact ih (by omega) (hq _ hp) h2
   |big _ z3 hr2 hq2=>exact .big z1 z3 (Int.lt_trans hr2 hr) fun w hw=>ih (by have:=q5v hw;omega) h1 (hq2 w hw)
   |lex z3 he hq2 _ _ _=>exact .big z1 (he▸z3) (he▸hr) fun w hw=>ih (by have:=q5v hw;omega) h1 (hq2 w hw)
  | @lex _ _ A B C x y z1 he hq e1 e2 hxy=>
    have h1:G r s t:=.lex z1 he hq e1 e2 hxy;cases h2 with
    |eq hu=>exact hq _ hu
    |sub hp h2=>
     have:=q5v hp;exact ih (by omega) (hq _ hp) h2
    |big _ z3 hr2 hq2=>exact .big z1 z3 (by rw[he];exact hr2) fun w hw=>ih (by have:=q5v hw;omega) h1 (hq2 w hw)
    | @lex _ _ A' B' C' x' y' z3 he2 hq2 e3 e4 hxy2=>
      have hall:∀w,w∈u.args->G r s w:=fun w hw=>ih (by have:=q5v hw;omega) h1 (hq2 w hw);have hx:x.size<s.size:=q5v (by rw[e1];simp);have hy:y.size<t.size:=q5v (by rw[e2];simp);have hy':y'.size<u.size:=q5v (by rw[e4];simp);rcases List.append_eq_append_iff.1 (e2.symm.trans e3)with⟨D,hA,hD⟩|⟨D,hA,hD⟩
      ·cases D with
       |nil=>
        rw[gAD]at hA;have hD:y=x'/\C=B':=by simpa using hD
        subst hA;refine .lex z1 (he.trans he2) hall e1 e4 (ih (by omega) hxy (hD.1▸hxy2))
       |cons d D=>
        have hD:y=d/\C=D++x'::B':=by simpa using hD
        rw[hA,gZ]at e4;rw[<- hD.1]at e4;exact .lex z1 (he.trans he2) hall e1 e4 hxy
      ·cases D with
       |nil=>
        rw[gAD]at hA;have hD:x'=y/\B'=C:=by simpa using hD
        subst hA;refine .lex z1 (he.trans he2) hall e1 e4 (ih (by omega) hxy (hD.1▸hxy2))
       |cons d D=>
        have hD:x'=d/\B'=D++y::C:=by simpa using hD
        rw[hA,gZ]at e1;rw[<- hD.1]at e1;exact .lex z1 (he.trans he2) hall e1 e4 hxy2
theorem var{a:Int->Nat}{n:Int}(hn:n<0):∀(m:Nat){x:Tm},x.size<=m->x.ok a->(G r x (.v n)<->0<=x.head/\n∈x.flat):=by
 intro m;induction m with
 |zero=>intro x hm _;cases x <;> simp[Tm.size]at hm
 |succ m ih=>
  intro x hm hx
  have up:∀p,p∈x.args->n∈p.flat->G r x (.v n):=fun p hp hnp=>by
   have hpo:=hx.args hp;by_cases h0:0<=p.head
   ·exact .sub hp ((ih (by have:=q5v hp;omega) hpo).2 ⟨h0,hnp⟩)
   ·cases p with
    |v k=>rw[gD.1 hnp];exact .eq hp
    |k k=>exact absurd hpo.1 h0
    |u k y=>exact absurd hpo.1 h0
    |b k y z=>exact absurd hpo.1 h0
  constructor
  ·intro h;cases h with
   |eq hp=>exact⟨hx.head hp,ql6 hp (gD.2 rfl)⟩
   |sub hp h=>exact⟨hx.head hp,ql6 hp ((ih (by have:=q5v hp;omega) (hx.args hp)).1 h).2⟩
   |big _ z _ _=>exact absurd z (by show ¬ 0<=n;omega)
   |lex z e _ _ _ _=>
    have e:x.head=n:=e;omega
  ·rintro⟨h1,h2⟩;cases x with
   |v k=>have h1:0<=k:=h1;have hx:k<0:=hx;omega
   |k k=>
    have h1:0<=k:=h1;have:=gD.1 h2;omega
   |u k y=>
    have h1:0<=k:=h1;rcases gK.1 h2 with e|h2
    ·omega
    ·exact up y (gD.2 rfl) h2
   |b k y z=>
    have h1:0<=k:=h1;rcases gK.1 h2 with e|h2
    ·omega
    ·rcases gO.1 h2 with h2|h2
     ·exact up y (List.mem_cons_self ..) h2
     ·exact up z (gF _ (gD.2 rfl)) h2
variable {a:Int->Nat}
end G
end Ev.Ty
end
section
namespace Ev.Ty
open Go Ev
open Tm
theorem qv2{a:Int->Nat}:∀(x y:Tm)(r r':List Int),x.ok a->y.ok a->x.flat++r=y.flat++r'->x=y/\r=r':=by
 have hd:∀{n m:Int}{A B:List Int},n::A=m::B->n=m:=fun h=>(List.cons.inj h).1;intro x;induction x with
 |v n=>
  intro y r r' h1 h2 h;cases y with
  |v m=>have h:n=m/\r=r':=List.cons.inj h;exact⟨by rw[h.1],h.2⟩
  |k m=>have e:=hd h;have h1:n<0:=h1;have:=h2.1;omega
  |u m y=>have e:=hd h;have h1:n<0:=h1;have:=h2.1;omega
  |b m y z=>have e:=hd h;have h1:n<0:=h1;have:=h2.1;omega
 |k n=>
  intro y r r' h1 h2 h;cases y with
  |v m=>have e:=hd h;have h2:m<0:=h2;have:=h1.1;omega
  |k m=>have h:n=m/\r=r':=List.cons.inj h;exact⟨by rw[h.1],h.2⟩
  |u m y=>have e:=hd h;have h1:=h1.2;have h2:=h2.2.1;rw[e]at h1;omega
  |b m y z=>have e:=hd h;have h1:=h1.2;have h2:=h2.2.1;rw[e]at h1;omega
 |u n x ih=>
  intro y r r' h1 h2 h;cases y with
  |v m=>have e:=hd h;have h2:m<0:=h2;have:=h1.1;omega
  |k m=>have e:=hd h;have h1:=h1.2.1;have h2:=h2.2;rw[e]at h1;omega
  |u m y=>
   have h:n=m/\x.flat++r=y.flat++r':=List.cons.inj h;obtain⟨e1,e2⟩:=ih y r r' h1.2.2 h2.2.2 h.2;exact⟨by rw[h.1,e1],e2⟩
  |b m y z=>have e:=hd h;have h1:=h1.2.1;have h2:=h2.2.1;rw[e]at h1;omega
 |b n x w ih1 ih2=>
  intro y r r' h1 h2 h;cases y with
  |v m=>have e:=hd h;have h2:m<0:=h2;have:=h1.1;omega
  |k m=>have e:=hd h;have h1:=h1.2.1;have h2:=h2.2;rw[e]at h1;omega
  |u m y=>have e:=hd h;have h1:=h1.2.1;have h2:=h2.2.1;rw[e]at h1;omega
  |b m y z=>
   have h:n=m/\(x.flat++w.flat)++r=(y.flat++z.flat)++r':=List.cons.inj h;have h':=h.2;rw[gZ,gZ]at h';obtain⟨e1,e2⟩:=ih1 y _ _ h1.2.2.1 h2.2.2.1 h';obtain⟨e3,e4⟩:=ih2 z _ _ h1.2.2.2 h2.2.2.2 e2;exact⟨by rw[h.1,e1,e3],e4⟩
theorem qk5{a:Int->Nat}{x y:Tm}(hx:x.ok a)(hy:y.ok a):x.flat=y.flat<->x=y:=
 ⟨fun h=>(qv2 x y [] [] hx hy (by rw[h])).1,fun h=>by rw[h]⟩
inductive F2{α β:Type}(R:α->β->Prop):List α->List β->Prop
 |nil:F2 R [] []
 |cons {a b A B}:R a b->F2 R A B->F2 R (a::A) (b::B)
theorem F2.any{α β:Type}{R:α->β->Prop}{f:α->Bool}{P:β->Prop}{A:List α}{B:List β}(h:F2 R A B)(hf:∀a b,R a b->b∈B->(f a=true<->P b)):A.any f=true<->∃b,b∈B/\P b:=by
 induction h with
 |nil=>simp
 | @cons a b A B hr _ ih=>
   rw[List.any_cons,Bool.or_eq_true,hf a b hr (List.mem_cons_self ..),ih fun a b hr hb=>hf a b hr (gF _ hb)];constructor
   ·rintro(h|⟨b',h1,h2⟩)
    ·exact⟨b,List.mem_cons_self .., h⟩
    ·exact⟨b',gF _ h1,h2⟩
   ·rintro⟨b',h1,h2⟩;rcases gK.1 h1 with rfl|h1
    ·exact .inl h2
    ·exact .inr ⟨b',h1,h2⟩
def At(l:List Symbol)(t:List Int)(i:Nat)(x:Tm):Prop:=x.ok (ar l)/\∃r,t.drop i=x.flat++r
theorem At.facts{l:List Symbol}{t:List Int}{i:Nat}{x:Tm}(h:At l t i x):i<t.length/\t.getD i 0=x.head/\q52 l t i=i+x.flat.length/\q2s l t i=x.flat:=by
 obtain⟨hx,r,h⟩:=h;obtain⟨h1,h2,h3⟩:=qac h
 have hs:skip (ar l) 1 (t.drop i)=some r:=by
  rw[h,skip_flat (fun n hn=>qa3 l hn) x r 0 hx,q3l]
 have hl:(t.drop i).length=x.flat.length+r.length:=by rw[h,gM]
 rw[gAA]at hl
 have he:q52 l t i=i+x.flat.length:=by
  unfold q52;rw[hs];show t.length-r.length=_;omega
 refine⟨h1,?_,he,?_⟩
 ·rw[gI,h2];rfl
 ·unfold q2s;rw[he,List.drop_take,Nat.add_sub_cancel_left,h,List.take_left]
theorem At.next{l:List Symbol}{t:List Int}{i:Nat}{n:Int}{x:Tm}{r:List Int}(hx:x.ok (ar l))(h:t.drop i=n::(x.flat++r)):At l t (i+1) x:=⟨hx,r,by
 rw[<- List.drop_drop,h];rfl⟩
theorem At.args{l:List Symbol}{t:List Int}{i:Nat}{x:Tm}(h:At l t i x):F2 (At l t) (q3i l t i) x.args:=by
 obtain⟨_,h2,_,_⟩:=h.facts;obtain⟨hx,r,h⟩:=h;unfold q3i;rw[h2,<- hx.len (fun n hn=>qa3 l hn)];cases x with
 |v n=>exact .nil
 |k n=>exact .nil
 |u n x=>exact .cons (At.next hx.2.2 h) .nil
 |b n x y=>
  have h:t.drop i=n::(x.flat++(y.flat++r)):=by rw[h];simp[Tm.flat]
  have a1:=At.next hx.2.2.1 h;refine .cons a1 (.cons ⟨hx.2.2.2,r,?_⟩ .nil);rw[a1.facts.2.2.1,<- List.drop_drop,<- List.drop_drop,h];show(x.flat++(y.flat++r)).drop _=_;rw[List.drop_left]
section
variable {l:List Symbol}{o a b:List Int}
end
def Closed(l:List Symbol)(t:List Int):Prop:=TermOk l t/\∀n∈t,0<=n
theorem quq{a:Int->Nat}:∀x:Tm,x.ok a->(∀n∈x.flat,0<=n)->x.gr a
 |.v n,h,h2=>by have h:n<0:=h;have:=h2 n (gD.2 rfl);omega
 |.k n,h,_=>h
 |.u n x,h,h2=>⟨h.1,h.2.1,quq x h.2.2 fun m hm=>h2 m (gF _ hm)⟩
 |.b n x y,h,h2=>⟨h.1,h.2.1,quq x h.2.2.1 fun m hm=>h2 m (gF _ (gJ _ hm)),quq y h.2.2.2 fun m hm=>h2 m (gF _ (gN _ hm))⟩
theorem Closed.at{l:List Symbol}(ok:SigOk ⟨l⟩){t:List Int}(h:Closed l t):∃x,At l t 0 x/\t=x.flat/\x.gr (ar l):=by
 obtain⟨x,hx,e⟩:=h.1.tree ok;exact⟨x,⟨hx,[],by simpa using e⟩,e,quq x hx (e▸h.2)⟩
section
variable {l:List Symbol}(ok:SigOk ⟨l⟩){o:List Int}(ho:∀n:Int,0<=n->n<l.length->n∈o)
include ok ho
end
end Ev.Ty
end
section
namespace Ev.Ty
open Go Ev
open Tm
namespace Tm
def inst(σ:Int->Tm):Tm->Tm
 |v n=>σ n
 |k n=>k n
 |u n x=>u n (x.inst σ)
 |b n x y=>b n (x.inst σ) (y.inst σ)
theorem inst_ok{σ:Int->Tm}{a:Int->Nat}(hσ:∀n,n<0->(σ n).ok a):∀{t:Tm},t.ok a->(t.inst σ).ok a
 |.v n,h=>hσ n h
 |.k _,h=>h
 |.u _ _,h=>⟨h.1,h.2.1,inst_ok hσ h.2.2⟩
 |.b _ _ _,h=>⟨h.1,h.2.1,inst_ok hσ h.2.2.1,inst_ok hσ h.2.2.2⟩
inductive Part:Tm->Tm->Prop
 |arg {p t}:p∈t.args->Part p t
 |deep {p q t}:q∈t.args->Part p q->Part p t
end Tm
namespace G
variable {r:Int->Int}
theorem qv9{t p:Tm}(h:Tm.Part p t):G r t p:=by
 induction h with
 |arg h=>exact .eq h
 |deep h _ ih=>exact .sub h ih
theorem ctx{s t x y:Tm}{A B:List Tm}(z:0<=s.head)(he:s.head=t.head)(e1:s.args=A++x::B)(e2:t.args=A++y::B)(h:G r x y):G r s t:=by
 refine .lex z he (fun q hq=>?_) e1 e2 h;rw[e2]at hq;rcases gO.1 hq with hq|hq
 ·exact .eq (by rw[e1];exact gJ _ hq)
 ·rcases gK.1 hq with rfl|hq
  ·exact .sub (by rw[e1];simp) h
  ·exact .eq (by rw[e1];simp[hq])
end G
end Ev.Ty
end
section
namespace Ev.Ty
open Go Ev
open Tm
section
variable {l:List Symbol}(ok:SigOk ⟨l⟩){o:List Int}(ho:∀n:Int,0<=n->n<l.length->n∈o)
include ok
theorem TermOk.atZero{t:List Int}(h:TermOk l t):∃x,At l t 0 x/\t=x.flat:=by
 obtain⟨x,hx,e⟩:=h.tree ok;exact⟨x,⟨hx,[],by simpa using e⟩,e⟩
include ho
end
end Ev.Ty
end
section
namespace Ev.Ty
theorem qt0:∀(k:Nat)(o:List Int),o.Nodup->(∀n∈o,0<=n/\n<k)->o.length<=k
 |0,o,_,h=>by
  cases o with
  |nil=>simp
  |cons x o=>have:=h x (by simp);omega
 |k+1,o,hn,h=>by
  by_cases hk:(k:Int)∈o
  ·have h1:=List.length_erase_of_mem hk
   have:=qt0 k (o.erase (k:Int)) (hn.erase _) fun n hm=>by
    have hm':=(hn.mem_erase_iff).1 hm;have:=h n hm'.2;omega
   omega
  ·have:=qt0 k o hn fun n hm=>by
    have:=h n hm;have:n≠(k:Int):=fun e=>hk (e▸hm);omega
   omega
end Ev.Ty
end
section
namespace Ev.Ty
open Go Ev
open Enc (enc)
open Sm (sm)
def qvi(l:List Symbol)(o:List Int):Int:=if o.length≠l.length then 2 else if(o.any fun n=>!inR n 0 (l.length-1))=true then 3 else if qh8 o=true then 6 else 0
theorem q68{l:List Symbol}(hs:l.length<=4294967296)(n:Int):Call F.q68 [.agg [slc l],.int .i64 n] (.bool (inR n 0 (l.length-1))):=by
 refine q0r rfl 0 ((q68.ev _ _ _).trans ?_);simp only[evz,Nat.reduceLT,q1o (x:=(l.length:Int)-1) (by omega),(q2n _ _ _).eq]
theorem q65{l:List Symbol}(hs:l.length<=4294967296)(n:Int):Call F.q65 [.rref [slc l] 0,.int .i64 n] (.bool (inR n 0 (l.length-1))):=by
 refine q0r rfl 0 ((q65.ev _ _ _).trans ?_);simp only[evz,Nat.reduceLT,q1o (x:=(l.length:Int)-1) (by omega),(q14 _ _ _).eq]
theorem qce{l:List Symbol}(h:q2v ⟨l⟩=0):SigOk ⟨l⟩:=(q5g _).1 h
section
variable (e:Nat->Nat)(f:Nat->Int)
def qhk(s:Int×Int×Int)(k:Nat):Int×Int×Int:=if(e k:Int)>s.2.2 then s else if f k>=0 then((k:Int),f k,(e k:Int))else s
def IsBest(lo hi:Nat)(s:Int×Int):Prop:=
 (s=(-1,-1)/\∀a,lo<=a->a<hi->f a<0)\/
  ∃a,lo<=a/\a<hi/\s=((a:Int),f a)/\f a>=0/\∀a',lo<=a'->a'<hi->f a'>=0->e a<e a'\/(e a=e a'/\a'<=a)
theorem IsBest.up{k:Nat}{s:Int×Int×Int}(he:∀a,e a<=24)(h:IsBest e f 0 k (s.1,s.2.1))(hs:(s.1 = -1/\s.2.2=25)\/∃a:Nat,s.1=a/\s.2.2=e a) :
 IsBest e f 0 (k+1) ((qhk e f s k).1,(qhk e f s k).2.1)/\(((qhk e f s k).1 = -1/\(qhk e f s k).2.2=25)\/∃a:Nat,(qhk e f s k).1=a/\(qhk e f s k).2.2=e a):=by
 have hek:=he k;obtain⟨p,r,d⟩:=s;unfold qhk;simp only at h hs ⊢;rcases h with⟨hp,h⟩|⟨a,h1,h2,hp,h3,h4⟩
 ·simp only[Prod.mk.injEq]at hp;obtain⟨rfl,rfl⟩:=hp
  have hd:d=25:=by
   rcases hs with⟨_,h⟩|⟨a,h,_⟩
   ·exact h
   ·omega
  subst hd;rw[if_neg (by omega)];by_cases hf:f k>=0
  ·rw[if_pos hf];refine⟨.inr ⟨k,by omega,by omega,rfl,hf,fun a' q1 q2 q3=>?_⟩,.inr ⟨k,rfl,rfl⟩⟩;by_cases hak:a'=k
   ·subst hak;exact .inr ⟨rfl,gAI _⟩
   ·have:=h a' (by omega) (by omega);omega
  ·rw[if_neg hf];refine⟨.inl ⟨rfl,fun a' q1 q2=>?_⟩,.inl ⟨rfl,rfl⟩⟩;by_cases hak:a'=k
   ·subst hak;omega
   ·exact h a' (by omega) (by omega)
 ·simp only[Prod.mk.injEq]at hp;obtain⟨rfl,rfl⟩:=hp
  have hd:d=e a:=by
   rcases hs with⟨h,_⟩|⟨a',h,h'⟩
   ·omega
   ·have:a=a':=by omega
    rw[this];exact h'
  subst hd;by_cases hc:(e k:Int)>e a
  ·rw[if_pos hc];refine⟨.inr ⟨a,by omega,by omega,rfl,h3,fun a' q1 q2 q3=>?_⟩,.inr ⟨a,rfl,rfl⟩⟩;by_cases hak:a'=k
   ·subst hak;exact .inl (by omega)
   ·exact h4 a' (by omega) (by omega) q3
  ·rw[if_neg hc];by_cases hf:f k>=0
   ·rw[if_pos hf];refine⟨.inr ⟨k,by omega,by omega,rfl,hf,fun a' q1 q2 q3=>?_⟩,.inr ⟨k,rfl,rfl⟩⟩;by_cases hak:a'=k
    ·subst hak;exact .inr ⟨rfl,gAI _⟩
    ·rcases h4 a' (by omega) (by omega) q3 with q|⟨q,_⟩
     ·exact .inl (by omega)
     ·rcases Nat.lt_or_ge (e k) (e a')with q'|q'
      ·exact .inl q'
      ·exact .inr ⟨by omega,by omega⟩
   ·rw[if_neg hf];refine⟨.inr ⟨a,by omega,by omega,rfl,h3,fun a' q1 q2 q3=>?_⟩,.inr ⟨a,rfl,rfl⟩⟩;by_cases hak:a'=k
    ·subst hak;omega
    ·exact h4 a' (by omega) (by omega) q3
end
def fits(l:List Symbol)(rs:List Equation)(t:List Int)(p:Nat):Int:=idx (fun e=>(q6i l e.left t p).isSome) rs
theorem qa1{l:List Symbol}{b:Bnd}{k:Nat}(hb:MB l b k)(hk:k<=24):∀(q x:List Int)(m:Nat),skip (ar l) m q=some []->skip (ar l) m (q01 b.1 b.2 q++x)=some x
 |[],x,m,h=>by
  obtain⟨rfl,_⟩:=qks h;rw[q3l];rfl
 |n::q,x,m,h=>by
  cases m with
  |zero=>rw[q3l]at h;cases h
  |succ m=>
   rw[skip]at h;have ih:=qa1 hb hk q x _ h;have e:q01 b.1 b.2 (n::q)=(q3c b.1 b.2 (-1-n)).getD [n]++q01 b.1 b.2 q:=by simp[q01]
   rw[e,gZ];cases ho:q3c b.1 b.2 (-1-n)with
   |none=>
    show skip (ar l) (m+1) (n::(q01 b.1 b.2 q++x))=_;rw[skip];exact ih
   |some o=>
    have hn:n<0:=by
     rcases Int.lt_or_le n 0 with h|h
     ·exact h
     ·rw[qaf (hb.ok hk) (by omega)]at ho;cases ho
    rw[qa3 l hn,Nat.add_zero]at ih;have ht:=hb.tm o (q4s ho);show skip (ar l) (m+1) (o++(q01 b.1 b.2 q++x))=_;rw[show m+1=1+m by omega,q9y,qb0 ht.skip];exact ih
theorem qgm{a:Int->Nat}{y y' z:List Int}(hy:skip a 1 (y++z)=some z)(hy':skip a 1 (y'++z)=some z):∀(x:List Int)(k:Nat),skip a k (x++(y++z))=some []->skip a k (x++(y'++z))=some []
 |[],0,h=>by
  rw[q3l]at h;rw[List.nil_append]at h;rw[Option.some.inj h]at hy;cases hy
 |[],k+1,h=>by
  rw[List.nil_append,show k+1=1+k by omega,q9y]at h ⊢;rw[hy]at h;rw[hy'];exact h
 |n::x,0,h=>by rw[q3l]at h;cases h
 |n::x,k+1,h=>by
  rw[List.cons_append,skip]at h ⊢;exact qgm hy hy' x _ h
theorem qbg{l:List Symbol}{b:Bnd}{k:Nat}(hb:MB l b k){q:List Int}(hq:∀n∈q,q5l l n=true):∀n∈q01 b.1 b.2 q,q5l l n=true:=fun n hn=>by
 unfold q01 at hn;obtain⟨m,hm,hn⟩:=List.mem_flatMap.1 hn;cases ho:q3c b.1 b.2 (-1-m)with
 |none=>rw[ho]at hn;rw[gD.1 hn];exact hq m hm
 |some o=>rw[ho]at hn;exact(hb.tm o (q4s ho)).node n hn
theorem qvx{l:List Symbol}{t q:List Int}(ht:TermOk l t)(hq:TermOk l q){p:Nat}(hp:p<t.length){b:Bnd}{k:Nat}(hb:MB l b k)(hk:k<=24)(h:(q32 l t p (q01 b.1 b.2 q)).length<=24) :
 TermOk l (q32 l t p (q01 b.1 b.2 q)):=by
 obtain⟨h1,h2,h3⟩:=q54 ht hp
 have hs:skip (ar l) 1 (q32 l t p (q01 b.1 b.2 q))=some []:=by
  unfold q32;rw[gZ];refine qgm (y:=q2s l t p) (by rw[<- h1];exact h3) (qa1 hb hk q _ 1 hq.skip) (t.take p) 1 ?_;rw[<- h1,List.take_append_drop];exact ht.skip
 refine⟨?_,h,fun n hn=>?_,hs⟩
 ·rcases Nat.eq_zero_or_pos (q32 l t p (q01 b.1 b.2 q)).length with h|h
  ·rw[gL h]at hs;cases hs
  ·exact h
 ·unfold q32 at hn;rcases gO.1 hn with hn|hn
  ·rcases gO.1 hn with hn|hn
   ·exact ht.node n (List.mem_of_mem_take hn)
   ·exact qbg hb hq.node n hn
  ·exact ht.node n (List.mem_of_mem_drop hn)
def q99(l:List Symbol)(e:Equation)(t:List Int)(p:Nat):TermResult:=match q6i l e.left t p with
 |none=>⟨4,[]⟩
 |some b=>if 24<(q32 l t p (q01 b.1 b.2 e.right)).length then⟨2,[]⟩else⟨0,q32 l t p (q01 b.1 b.2 e.right)⟩
theorem qmh{l:List Symbol}{e:Equation}{t:List Int}(he:EqOk l e)(ht:TermOk l t){p:Nat}(hp:p<t.length)(h:(q99 l e t p).code=0):TermOk l (q99 l e t p).term:=by
 unfold q99 at h ⊢;cases hm:q6i l e.left t p with
 |none=>rw[hm]at h;cases h
 |some b=>
  rw[hm]at h;simp only at h ⊢;split at h
  ·cases h
  ·rename_i h24;rw[if_neg h24];have hb:=qc4 he.left ht hp hm;exact qvx ht he.right hp hb he.left.le (by omega)
def q53(s:Signature)(rs:List Equation)(t:List Int):Int:=if q40 s rs≠0 then q40 s rs else q4d s.symbols t
def q3w(s:Signature)(rs:List Equation)(r p:Int)(t:List Int):TermResult:=
 if q53 s rs t≠0 then⟨q53 s rs t,[]⟩else if inR r 0 (rs.length-1)=false\/inR p 0 (t.length-1)=false then⟨3,[]⟩else q99 s.symbols (rs.getD r.toNat ⟨[],[]⟩) t p.toNat
theorem qft{α:Type}{l:List α}{i k:Nat}(x:α)(hi:i<=k)(hk:k<l.length):(ins l i x).take (k+2)=(ins l i x).take (k+1)++[l[k]]:=by
 have hlen:=q70 l i x (by omega);have h:k+1<(ins l i x).length:=by omega
 have e:(ins l i x)[k+1]=l[k]:=by
  have:=qrf l x i (by omega) (k+1);rw[if_neg (by omega),if_neg (by omega),Nat.add_sub_cancel,gA hk]at this;have h2:(ins l i x)[k+1]?=some l[k]:=this;rw[gA h]at h2;exact Option.some.inj h2
 rw[<- e];exact(gAP h).symm
theorem qhm{α:Type}{l:List α}{i:Nat}(x:α)(hi:i<=l.length):(ins l i x).take (i+1)=l.take i++[x]:=by
 unfold ins;rw[List.take_append,List.take_of_length_le (by simp;omega)];simp[Nat.min_eq_left hi]
theorem qrl{α:Type}(l:List α)(x:α):ins l l.length x=l++[x]:=by simp[ins]
theorem q5f(vs:List Int)(i:Nat)(v:Int)(hi:i<=vs.length)(hl:vs.length<4294967296):Call F.q5f [slc vs,.int .i64 i,.sl 1 [.int .i64 v]] (slc (ins vs i v)):=by
 refine qer (e:=insE 8) rfl (Ev.of fun m=>?_);have hc:(cells vs).length=vs.length:=by rw[q0k,q3e,Nat.mul_one]
 show(bif _ then _ else _)=_;rw[q1r (by simp[hc,hl,Nat.ble_eq];omega)];have e1:=q8o vs 1 i rfl;have e2:=qan vs 1 i rfl;rw[Nat.mul_one]at e1 e2;rw[gR,e1,e2];show some (T.sl 1 (cells (vs.take i)++T.int .i64 v::cells (vs.drop i)),[])=_;unfold ins slc;rw[q33,q83];rfl
theorem q55(ts:List (List Int))(i:Nat)(t:List Int)(hi:i<=ts.length)(hl:ts.length<4294967296):Call F.q55 [slc ts,.int .i64 i,.sl 1 [slc t]] (slc (ins ts i t)):=by
 refine qer (e:=insE 24) rfl (Ev.of fun m=>?_);have hc:(cells ts).length=ts.length:=by rw[q0k,show Enc.sz (List Int)=1 from rfl,Nat.mul_one]
 show(bif _ then _ else _)=_;rw[q1r (by simp[hc,hl,Nat.ble_eq];omega)];have e1:=q8o ts 1 i rfl;have e2:=qan ts 1 i rfl;rw[Nat.mul_one]at e1 e2;rw[gR,e1,e2];show some (T.sl 1 (cells (ts.take i)++slc t::cells (ts.drop i)),[])=_;unfold ins;show _=some (T.sl 1 (cells (ts.take i++t::ts.drop i)),[]);rw[q33,q83];rfl
theorem q0w(vs:List Int)(ts:List (List Int))(v:Int)(t:List Int)(hl:vs.length=ts.length)(hs:vs.length<=1000)(ht:t.length<=4294967296) :
 LIM F.q0w [.rref [slc vs,slc ts] 0,.int .i64 v,slc t]=some (.tup [],[.agg [slc (bput (vs,ts) v t).1,slc (bput (vs,ts) v t).2]]):=by
 have hi:=qe1 vs v;refine q9c rfl 1002 ((q0w.ev _ _ _ _ _).trans ?_)
 have loop:∀n k f,k+n=q76 vs v->n<f->q0w.at0 1002 f (q0w.st0 v (cells t) (k:Nat) (cells vs) (cells ts))=some (.tup [],[.agg [slc (bput (vs,ts) v t).1,slc (bput (vs,ts) v t).2]]):=by
  intro n;induction n with
  |zero=>
   intro k f hk hf;obtain⟨f,rfl⟩:∃x,f=x+1:=⟨f-1,by omega⟩;obtain rfl:k=q76 vs v:=by omega
   have q1:=(q5f vs (q76 vs v) v hi (by omega)).eq;have q2:=(q55 ts (q76 vs v) t (by omega) (by omega)).eq;by_cases h:q76 vs v<vs.length
   ·have hs:=qex vs v h;have hlk:vs[q76 vs v]?=some vs[q76 vs v]:=gA h;simp only[q0w.next0,q0w.round0,evz,Nat.reduceLT,h,hlk,q1x,hs,q1,(q2j t ht).eq,q2];rfl
   ·simp only[q0w.next0,q0w.round0,evz,Nat.reduceLT,h,q1,(q2j t ht).eq,q2];rfl
  |succ n ih=>
   intro k f hk hf;obtain⟨f,rfl⟩:∃x,f=x+1:=⟨f-1,by omega⟩;have h:k<vs.length:=by omega
   have hlt:=qjn vs v k (by omega) h;have hlk:vs[k]?=some vs[k]:=gA h;simp only[q0w.next0,q0w.round0,evz,Nat.reduceLT,h,hlk,q1x,hlt];rw[q0l (by omega)];exact ih (k+1) f (by omega) (by omega)
 exact loop (q76 vs v) 0 1002 (by omega) (by omega)
def q98(vs:List Int)(ts:List (List Int))(v:Int)(t:List Int)(k:Nat):Bool×List Int×List (List Int):=
 if k<=q76 vs v then(false,vs.take k,ts.take k)else(true,(ins vs (q76 vs v) v).take (k+1),(ins ts (q76 vs v) t).take (k+1))
theorem q1e(vs:List Int)(ts:List (List Int))(v:Int)(t:List Int)(hl:vs.length=ts.length)(hs:vs.length<=1000)(ht:t.length<=4096)(hv:v∉vs)(htm:∀x∈ts,x.length<=4096) :
 Call F.q1e [.rref [slc vs,slc ts] 0,.int .i64 v,slc t] (.agg [slc (bput (vs,ts) v t).1,slc (bput (vs,ts) v t).2]):=by
 have hi:=qe1 vs v;refine q0r rfl 1002 ((q1e.ev _ _ _ _ _).trans ?_)
 have key:=qaz (n:=vs.length) (f:=1002) (S:=fun m k (s:Bool×List Int×List (List Int))=>q1e.at0 1002 m (q1e.st0 (cells vs) (cells ts) v (cells t) s.1 (k:Nat) (cells s.2.1) (cells s.2.2)))
  (st:=q98 vs ts v t) (z:=some (.agg [slc (bput (vs,ts) v t).1,slc (bput (vs,ts) v t).2],[])) (fun m k h=>?_) (fun m=>?_) (by omega)
 ·have e0:q98 vs ts v t 0=(false,[],[]):=by unfold q98;rw[if_pos (Nat.zero_le _)];rfl
  rw[e0]at key;exact key
 ·have h':k<ts.length:=by omega
  have hlk:vs[k]?=some vs[k]:=gA h;have htk:ts[k]?=some ts[k]:=gA h';have hx:=(q56 ts[k] (by have:=htm _ (gG h');omega)).eq;have hx2:=(q56 t (by omega)).eq;have hne:vs[k]≠v:=fun e=>hv (e▸gG h);have len1:∀q,((cells (vs.take q)).length)<=1000:=fun q=>by rw[q0k,q3e];simp;omega
  have len2:∀q,((cells (ts.take q)).length)<=1000:=fun q=>by rw[q0k,show Enc.sz (List Int)=1 from rfl];simp;omega
  have len3:∀q,((cells ((ins vs (q76 vs v) v).take q)).length)<=1001:=fun q=>by rw[q0k,q3e,gAF,q70 _ _ _ hi];omega
  have len4:∀q,((cells ((ins ts (q76 vs v) t).take q)).length)<=1001:=fun q=>by rw[q0k,show Enc.sz (List Int)=1 from rfl,gAF,q70 _ _ _ (by omega)];omega
  have tk1:vs.take (k+1)=vs.take k++[vs[k]]:=(gAP h).symm;have tk2:ts.take (k+1)=ts.take k++[ts[k]]:=(gAP h').symm;rcases Nat.lt_trichotomy k (q76 vs v)with c|c|c
  ·have hlt:=qjn vs v k c h;have hgt:¬ vs[k]>v:=by omega
   have e1:q98 vs ts v t k=(false,vs.take k,ts.take k):=if_pos (by omega);have e2:q98 vs ts v t (k+1)=(false,vs.take k++[vs[k]],ts.take k++[ts[k]]):=by unfold q98;rw[if_pos (by omega),tk1,tk2]
   rw[e1,e2];simp only[q1e.next0,q1e.round0,evz,Nat.reduceLT,h,h',hlk,htk,q1x,q67,hgt,hx,q2f,q77];rw[q1r (q3v (by have:=len1 k;omega)),q1r (q3v (by have:=len2 k;omega)),q0l (by omega)]
  ·have hs:=qex vs v (by omega)
   have hs:¬ vs[k]<v:=by
    have:vs[q76 vs v]'(by omega)=vs[k]:=by congr 1;omega
    rw[this]at hs;exact hs
   have hgt:vs[k]>v:=by omega
   have e1:q98 vs ts v t k=(false,vs.take k,ts.take k):=if_pos (by omega)
   have e2:q98 vs ts v t (k+1)=(true,(vs.take k++[v])++[vs[k]],(ts.take k++[t])++[ts[k]]):=by
    unfold q98;rw[if_neg (by omega),<- c,qft v (gAI _) h,qft t (gAI _) h',qhm v (by omega),qhm t (by omega)]
   rw[e1,e2];simp only[q1e.next0,q1e.round0,evz,Nat.reduceLT,h,h',hlk,htk,q1x,q67,hgt,hx,hx2,q2f,q77];have l1:=len1 k;have l2:=len2 k;have l3:(cells (vs.take k++[v])).length<=1001:=by rw[q33,gM,q0k [v]];simp;omega
   have l4:(cells (ts.take k++[t])).length<=1001:=by rw[q33,gM,q0k [t]];simp[show Enc.sz (List Int)=1 from rfl];omega
   rw[q1r (q3v (by omega)),q1r (q3v (by omega)),q1r (q3v (by omega)),q1r (q3v (by omega)),q0l (by omega)]
  ·have e1:q98 vs ts v t k=(true,(ins vs (q76 vs v) v).take (k+1),(ins ts (q76 vs v) t).take (k+1)):=if_neg (by omega)
   have e2:q98 vs ts v t (k+1)=(true,(ins vs (q76 vs v) v).take (k+1)++[vs[k]],(ins ts (q76 vs v) t).take (k+1)++[ts[k]]):=by
    unfold q98;rw[if_neg (by omega),qft v (by omega) h,qft t (by omega) h']
   rw[e1,e2];simp only[q1e.next0,q1e.round0,evz,Nat.reduceLT,h,h',hlk,htk,q1x,q67,hx,q2f,q77];rw[q1r (q3v (by have:=len3 (k+1);omega)),q1r (q3v (by have:=len4 (k+1);omega)),q0l (by omega)]
 ·have hx2:=(q56 t (by omega)).eq;by_cases c:q76 vs v=vs.length
  ·have e1:q98 vs ts v t vs.length=(false,vs,ts):=by
    unfold q98;rw[if_pos (by omega),List.take_length,hl,List.take_length]
   have e2:bput (vs,ts) v t=(vs++[v],ts++[t]):=by
    unfold bput;rw[c,qrl];simp only[Prod.mk.injEq,true_and];rw[hl,qrl]
   rw[e1,e2];simp only[q1e.next0,q1e.round0,evz,Nat.reduceLT,gAK,hx2,q2f,q77];rw[q1r (q3v (by rw[q0k,q3e];omega)),q1r (q3v (by rw[q0k,show Enc.sz (List Int)=1 from rfl];omega))]
  ·have e1:q98 vs ts v t vs.length=(true,ins vs (q76 vs v) v,ins ts (q76 vs v) t):=by
    unfold q98;rw[if_neg (by omega),List.take_of_length_le (by rw[q70 _ _ _ hi];omega),List.take_of_length_le (by rw[q70 _ _ _ (by omega)];omega)]
   rw[e1];simp only[q1e.next0,q1e.round0,evz,Nat.reduceLT,gAK];rfl
def mT:Option Bnd->T
 |none=>.tup [.agg [.sl 1 [],.sl 1 []],.bool false]
 |some b=>.tup [.agg [slc b.1,slc b.2],.bool true]
section
variable {l:List Symbol}(ok:SigOk ⟨l⟩)
include ok
theorem q1t{pat u:List Int}(hq:TermOk l pat)(hu:TermOk l u):Call F.q1t [.agg [slc l],slc pat,slc u] (mT (q6i l pat u 0)):=by
 have hul:=hu.le;have hpl:=hq.le;refine q0r rfl 25 ((q1t.ev _ _ _ _).trans ?_);simp only[q5h,q3e]
 have loop:∀(q:List Int)(b:Bnd)(p k f:Nat),pat.drop k=q->q.length<f->Both l u q p []->MB l b k->k+q.length=pat.length->
  q1t.at0 25 f (q1t.st0 (cells u) (p:Nat) (cells pat) pat.length (k:Nat) (cells l) (cells b.1) (cells b.2))=
   some (match mgo l u q b p with|none=>T.tup [.agg [.sl 1 [],.sl 1 []],.bool false]|some x=>.tup [.agg [slc x.1.1,slc x.1.2],.bool (decide (x.2=u.length))],[]):=by
  intro q;induction q with
  |nil=>
   intro b p k f hd hf hB hb hk;obtain⟨f,rfl⟩:∃x,f=x+1:=⟨f-1,by omega⟩;have h:¬ k<pat.length:=by simp at hk;omega
   simp only[q1t.next0,q1t.round0,evz,Nat.reduceLT,h,mgo,Int.ofNat_inj]
  |cons n q ih=>
   intro b p k f hd hf hB hb hk;rw[gAB]at hf hk;obtain⟨f,rfl⟩:∃x,f=x+1:=⟨f-1,by omega⟩;have h:k<pat.length:=by omega
   have hn:pat[k]=n:=by
    have:=congrArg (fun x=>x[0]?) hd;simp only[gV,Nat.add_zero,List.getElem?_cons_zero]at this;rw[gA h]at this;exact Option.some.inj this
   have hd':pat.drop (k+1)=q:=by rw[<- List.drop_drop,hd];rfl
   have hlk:pat[k]?=some n:=by rw[gA h,hn]
   have hp:=hB.lt;have hpk:u[p]?=some u[p]:=gA hp;have hnode:=q49.1 (hq.node n (hn▸gG h));have hp':¬((p:Int)>=(u.length:Int)):=by omega
   have hls:l.length<=6:=ok.le;obtain⟨h3,h4,_⟩:=q4a hu hp;have hsl:=(q54 hu hp).2.1;rw[mgo,if_neg (by omega)];by_cases c:0<=n
   ·have c':n>=0:=c;rw[if_pos c,q8c hp];by_cases e:u[p]=n
    ·simp only[q1t.next0,q1t.round0,evz,Nat.reduceLT,h,hlk,hp,hpk,hp',q1x,c',e];rw[q0l (by omega),q0l (by omega)];exact ih b (p+1) (k+1) f hd' (by omega) (hB.node (by rw[q8c hp,e])) (hb.up (by omega)) (by omega)
    ·simp only[q1t.next0,q1t.round0,evz,Nat.reduceLT,h,hlk,hp,hpk,hp',q1x,c',e]
   ·have c':¬ n>=0:=c;rw[if_neg c];have hof:=(q4q b.1 b.2 (-1-n) hb.len (by have:=hb.le;omega)).eq;have hB':=hB.var hu (by omega);have hw:IntKind.wrap .i64 (-1-n) = -1-n:=q1o (by omega);have hw2:IntKind.wrap .i64 ((p:Int)+((q2s l u p).length:Nat))=((p+(q2s l u p).length:Nat):Int):=by rw[q1o (by omega)];omega
    have hsub:=(q3x ok hu hp).eq;have hbl:=hb.le;cases hbo:q3c b.1 b.2 (-1-n)with
    |none=>
     rw[hbo]at hof;have hbind:=q0w b.1 b.2 (-1-n) (q2s l u p) hb.len (by omega) (by omega);simp only[q1t.next0,q1t.round0,evz,Nat.reduceLT,h,hlk,hp',q1x,c',hsub,hw,hof,ofT,q4c,hbind,hw2];rw[q0l (by omega)];exact ih (bput b (-1-n) (q2s l u p)) _ (k+1) f hd' (by omega) hB' (hb.put (by omega) (q6g hu hp)) (by omega)
    |some o=>
     rw[hbo]at hof;have ho:=hb.tm o (q4s hbo);have hol:=ho.le;have heq:=(q0p o (q2s l u p) ⟨by omega,fun _ _=>trivial⟩).eq;show _=some (match (if o=q2s l u p then mgo l u q b (p+(q2s l u p).length)else none)with|none=>_|some x=>_,[]);by_cases e:o=q2s l u p
     ·rw[if_pos e];rw[e]at heq;simp only[q1t.next0,q1t.round0,evz,Nat.reduceLT,h,hlk,hp',q1x,c',hsub,hw,hof,ofT,q4c,heq,e,hw2];rw[q0l (by omega)];exact ih b _ (k+1) f hd' (by omega) hB' (hb.up (by omega)) (by omega)
     ·rw[if_neg e];simp only[q1t.next0,q1t.round0,evz,Nat.reduceLT,h,hlk,hp',q1x,c',hsub,hw,hof,ofT,q4c,heq,e]
 have hpos:=hu.pos
 have e0:u.drop (q52 l u 0)=[]:=by
  have:=(q54 hu (p:=0) (by omega)).2.2;rw[List.drop_zero,hu.skip]at this;exact(Option.some.inj this).symm
 have hB:=Both.start hu hq (p:=0) (by omega);rw[e0]at hB;have hmain:=loop pat ([],[]) 0 0 25 rfl (by omega) hB (MB.nil l) (by omega);have hen:=qev hu pat ([],[]) 0 0 hB (by omega) (MB.nil l) (by omega) hq.node;unfold q6i;cases hm:mgo l u pat ([],[]) 0 with
 |none=>rw[hm]at hmain;exact hmain
 |some x=>
  rw[hm]at hmain;obtain⟨h1,h2,_⟩:=hen x hm
  have hx:x.2=u.length:=by
   have:=congrArg List.length h1;rw[gAA]at this;simp at this;omega
  have hmain:q1t.at0 25 25 (q1t.st0 (cells u) (0:Nat) (cells pat) pat.length (0:Nat) (cells l) (cells ([]:List Int)) (cells ([]:List (List Int))))=some (T.tup [.agg [slc x.1.1,slc x.1.2],.bool (decide (x.2=u.length))],[]):=hmain;rw[hx,decide_eq_true rfl]at hmain;exact hmain
theorem q18{pat u:List Int}(hq:TermOk l pat)(hu:TermOk l u){p0:Nat}(hp0:p0<u.length):Call F.q18 [.rref [slc l] 0,slc pat,slc u,.int .i64 p0] (mT (q6i l pat u p0)):=by
 have hul:=hu.le;have hpl:=hq.le;refine q0r rfl 25 ((q18.ev _ _ _ _ _).trans ?_)
 have loop:∀(q:List Int)(b:Bnd)(p k f:Nat),pat.drop k=q->q.length<f->Both l u q p (u.drop (q52 l u p0))->MB l b k->k+q.length=pat.length->
  q18.at0 25 f (q18.st0 (cells l) (cells pat) (cells u) (p:Nat) (k:Nat) (cells b.1) (cells b.2))=some (mT ((mgo l u q b p).map (·.1)),[]):=by
  intro q;induction q with
  |nil=>
   intro b p k f hd hf hB hb hk;obtain⟨f,rfl⟩:∃x,f=x+1:=⟨f-1,by omega⟩;have h:¬ k<pat.length:=by simp at hk;omega
   simp only[q18.next0,q18.round0,evz,Nat.reduceLT,h,mgo,Option.map_some,mT]
  |cons n q ih=>
   intro b p k f hd hf hB hb hk;rw[gAB]at hf hk;obtain⟨f,rfl⟩:∃x,f=x+1:=⟨f-1,by omega⟩;have h:k<pat.length:=by omega
   have hn:pat[k]=n:=by
    have:=congrArg (fun x=>x[0]?) hd;simp only[gV,Nat.add_zero,List.getElem?_cons_zero]at this;rw[gA h]at this;exact Option.some.inj this
   have hd':pat.drop (k+1)=q:=by rw[<- List.drop_drop,hd];rfl
   have hlk:pat[k]?=some n:=by rw[gA h,hn]
   have hp:=hB.lt;have hpk:u[p]?=some u[p]:=gA hp;have hnode:=q49.1 (hq.node n (hn▸gG h));have hp':¬((p:Int)>=(u.length:Int)):=by omega
   have hls:l.length<=6:=ok.le;obtain⟨h3,h4,_⟩:=q4a hu hp;have hsl:=(q54 hu hp).2.1;rw[mgo,if_neg (by omega)];by_cases c:0<=n
   ·have c':n>=0:=c;rw[if_pos c,q8c hp];by_cases e:u[p]=n
    ·simp only[q18.next0,q18.round0,evz,Nat.reduceLT,h,hlk,hp,hpk,hp',q1x,c',e];rw[q0l (by omega),q0l (by omega)];exact ih b (p+1) (k+1) f hd' (by omega) (hB.node (by rw[q8c hp,e])) (hb.up (by omega)) (by omega)
    ·simp only[q18.next0,q18.round0,evz,Nat.reduceLT,h,hlk,hp,hpk,hp',q1x,c',e,Option.map_none,mT]
   ·have c':¬ n>=0:=c;rw[if_neg c];have hof:=(q27 b.1 b.2 (-1-n) hb.len (by have:=hb.le;omega)).eq;have hB':=hB.var hu (by omega);have hw:IntKind.wrap .i64 (-1-n) = -1-n:=q1o (by omega);have hw2:IntKind.wrap .i64 ((p:Int)+((q2s l u p).length:Nat))=((p+(q2s l u p).length:Nat):Int):=by rw[q1o (by omega)];omega
    have hsub:=(q5n ok hu hp).eq;have hbl:=hb.le;cases hbo:q3c b.1 b.2 (-1-n)with
    |none=>
     rw[hbo]at hof;have hbind:=(q1e b.1 b.2 (-1-n) (q2s l u p) hb.len (by omega) (by omega) (qcy hb.len hbo) fun x hx=>by have:=(hb.tm x hx).le;omega).eq;simp only[q18.next0,q18.round0,evz,Nat.reduceLT,h,hlk,hp',q1x,c',hsub,hw,hof,Option.getD_none,q4c,hbind,hw2,List.length_nil,Int.natCast_zero,Int.ofNat_zero];rw[q0l (by omega)];exact ih (bput b (-1-n) (q2s l u p)) _ (k+1) f hd' (by omega) hB' (hb.put (by omega) (q6g hu hp)) (by omega)
    |some o=>
     rw[hbo]at hof;have ho:=hb.tm o (q4s hbo);have hol:=ho.le;have hop:=ho.pos;have ho0:¬((o.length:Int)=0):=by omega
     have heq:=(q1w o (q2s l u p) ⟨by omega,fun _ _=>trivial⟩).eq;show _=some (mT ((if o=q2s l u p then mgo l u q b (p+(q2s l u p).length)else none).map (·.1)),[]);by_cases e:o=q2s l u p
     ·rw[if_pos e];have ho1:¬(((q2s l u p).length:Int)=0):=by omega
      rw[e]at heq;simp only[q18.next0,q18.round0,evz,Nat.reduceLT,h,hlk,hp',q1x,c',hsub,hw,hof,Option.getD_some,q4c,heq,e,ho0,ho1,hw2];rw[q0l (by omega)];exact ih b _ (k+1) f hd' (by omega) hB' (hb.up (by omega)) (by omega)
     ·rw[if_neg e];simp only[q18.next0,q18.round0,evz,Nat.reduceLT,h,hlk,hp',q1x,c',hsub,hw,hof,Option.getD_some,q4c,heq,e,ho0,Option.map_none,mT]
 exact loop pat ([],[]) p0 0 25 rfl (by omega) (Both.start hu hq hp0) (MB.nil l) (by omega)
end
section
variable {l:List Symbol}(ok:SigOk ⟨l⟩){rs:List Equation}(hr:∀e∈rs,EqOk l e)(hn:rs.length<=12)
include ok hr hn
omit hr hn in
theorem q6b{e:Equation}(he:EqOk l e){t:List Int}(ht:TermOk l t){p:Nat}(hp:p<t.length):Call F.q6b [.agg [slc l],.agg [slc e.left,slc e.right],slc t,.int .i64 p] (.agg (enc (q99 l e t p))):=by
 have hu:=q6g ht hp;have hm:=(q1t ok he.left hu).eq;rw[qnd he.left ht hp]at hm;refine q0r rfl 0 ((q6b.ev _ _ _ _ _ _).trans ?_);unfold q99;cases hmm:q6i l e.left t p with
 |none=>rw[hmm]at hm;simp only[evz,Nat.reduceLT,(q3x ok ht hp).eq,hm,mT];rfl
 |some b=>
  rw[hmm]at hm;have hb:=qc4 he.left ht hp hmm;have hbo:=hb.ok he.left.le;have hrl:=he.right.le;have hal:=q6y hbo e.right;simp only[evz,Nat.reduceLT,(q3x ok ht hp).eq,hm,mT,(q0g b.1 b.2 hbo e.right (by omega) (he.right.range ok)).eq,(q5j ok ht hp (q01 b.1 b.2 e.right) (by omega)).eq];have hfit:=(q7d (q32 l t p (q01 b.1 b.2 e.right))).eq;by_cases h24:24<(q32 l t p (q01 b.1 b.2 e.right)).length
  ·rw[if_pos h24]at hfit ⊢;simp only[evz,Nat.reduceLT,hfit,q36]
  ·rw[if_neg h24]at hfit ⊢;simp only[evz,Nat.reduceLT,hfit,q36]
omit hr hn in
theorem q6c{e:Equation}(he:EqOk l e){t:List Int}(ht:TermOk l t){p:Nat}(hp:p<t.length):Call F.q6c [.rref [slc l] 0,.rref [slc e.left,slc e.right] 0,.int .i64 p,slc t] (.tup [slc (q99 l e t p).term,.int .i64 (q99 l e t p).code]):=by
 have hm:=(q18 ok he.left ht hp).eq;refine q0r rfl 0 ((q6c.ev _ _ _ _ _ _).trans ?_);unfold q99;cases hmm:q6i l e.left t p with
 |none=>rw[hmm]at hm;simp only[evz,Nat.reduceLT,hm,mT];rfl
 |some b=>
  rw[hmm]at hm;have hb:=qc4 he.left ht hp hmm;have hbo:=hb.ok he.left.le;have hrl:=he.right.le;have hal:=q6y hbo e.right;simp only[evz,Nat.reduceLT,hm,mT,(q13 b.1 b.2 hbo e.right (by omega) (he.right.range ok)).eq,(q4z ok ht hp (q01 b.1 b.2 e.right) (by omega)).eq];by_cases h24:24<(q32 l t p (q01 b.1 b.2 e.right)).length
  ·have h24':((q32 l t p (q01 b.1 b.2 e.right)).length:Int)>24:=by omega
   rw[if_pos h24];simp only[evz,Nat.reduceLT,h24'];rfl
  ·have h24':¬((q32 l t p (q01 b.1 b.2 e.right)).length:Int)>24:=by omega
   rw[if_neg h24];simp only[evz,Nat.reduceLT,h24']
end
theorem q87{l:List Symbol}{rs:List Equation}(h:q40 ⟨l⟩ rs=0):q2v ⟨l⟩=0/\SigOk ⟨l⟩/\rs.length<=12/\∀e∈rs,EqOk l e:=by
 unfold q40 at h;split at h
 ·rename_i h1;exact absurd h h1
 rename_i h1;have h1:q2v ⟨l⟩=0:=by simpa using h1
 unfold q8j at h;split at h
 ·rename_i h2;exact absurd h h2
 rename_i h2;obtain⟨q1,q2⟩:=q8v.1 (show q4r l rs=0 by simpa using h2);exact⟨h1,(q5g _).1 h1,q1,q2⟩
theorem qbu{l:List Symbol}{rs:List Equation}{t:List Int}(h:q53 ⟨l⟩ rs t=0):SigOk ⟨l⟩/\rs.length<=12/\(∀e∈rs,EqOk l e)/\TermOk l t:=by
 unfold q53 at h;split at h
 ·rename_i h1;exact absurd h h1
 rename_i h1;obtain⟨_,q1,q2,q3⟩:=q87 (l:=l) (rs:=rs) (by simpa using h1);exact⟨q1,q2,q3,(q85 _ _).1 h⟩
theorem q4w(l:List Symbol)(hs:l.length<=4294967296)(rs:List Equation)(hr:sm 4294967296 rs)(t:List Int)(ht:t.length<=4294967296) :
 Call F.q4w [.agg [slc l],slc rs,slc t] (.int .i64 (q53 ⟨l⟩ rs t)):=by
 refine q0r rfl 0 ((q4w.ev _ _ _ _).trans ?_);simp only[evz,Nat.reduceLT,(q4f l hs rs hr).eq,(q4g l hs t ht).eq,(qq3 _ _).eq,q53];by_cases h:q40 ⟨l⟩ rs=0
 ·have h0:=(q87 h).1;simp only[h,evz,Nat.reduceLT,ne_eq,gW,qdt,h0]
 ·simp only[h,evz,Nat.reduceLT,ne_eq,gX]
theorem q7y(l:List Symbol)(hs:l.length<=4294967296)(rs:List Equation)(hr:sm 4294967296 rs)(t:List Int)(ht:t.length<=4294967296) :
 Call F.q7y [.rref [slc l] 0,slc rs,slc t] (.int .i64 (q53 ⟨l⟩ rs t)):=by
 refine q0r rfl 0 ((q7y.ev _ _ _ _).trans ?_);simp only[evz,Nat.reduceLT,(q4e l hs rs hr).eq,q53];by_cases h:q40 ⟨l⟩ rs=0
 ·have h0:=(q87 h).2.1;simp only[h,evz,Nat.reduceLT,ne_eq,gW,(q17 l h0 t ht).eq]
 ·simp only[h,evz,Nat.reduceLT,ne_eq,gX]
theorem q45(s:Signature)(rs:List Equation)(r p:Int)(t:List Int)(hs:sm 1048576 s)(hr:sm 1048576 rs)(ht:sm 1048576 t):Call F.q45 [.agg (enc s),slc rs,.int .i64 r,.int .i64 p,slc t] (.agg (enc (q3w s rs r p t))):=by
 obtain⟨l⟩:=s;have hsl:l.length<=4294967296:=Nat.le_trans hs.1 (by omega);have htl:t.length<=4294967296:=Nat.le_trans ht.1 (by omega);have hrl:rs.length<=4294967296:=Nat.le_trans hr.1 (by omega);show Call F.q45 [.agg [slc l],slc rs,.int .i64 r,.int .i64 p,slc t] _;refine q0r rfl 0 ((q45.ev _ _ _ _ _ _).trans ?_);simp only[evz,Nat.reduceLT,(q4w l hsl rs (q2x (by omega) hr) t htl).eq,q3w,q1o (x:=(rs.length:Int)-1) (by omega),q1o (x:=(t.length:Int)-1) (by omega),(q2n _ _ _).eq];by_cases h:q53 ⟨l⟩ rs t=0
 case neg=>simp only[h,evz,Nat.reduceLT,ne_eq,gX,q36,q3q]
 obtain⟨ok,q1,q2,q3⟩:=qbu h;cases h1:inR r 0 (rs.length-1)with
 |false=>simp only[h,evz,Nat.reduceLT,ne_eq,gW,Bool.not_false,true_or,q36,q3q]
 |true=>
  cases h2:inR p 0 (t.length-1)with
  |false=>simp only[h,evz,Nat.reduceLT,ne_eq,gW,Bool.not_true,Bool.not_false,or_true,q36,q3q]
  |true=>
   have hr1:=q4p.1 h1;have hp1:=q4p.1 h2;obtain⟨k,rfl⟩:∃k:Nat,r=k:=⟨r.toNat,by omega⟩;obtain⟨a,rfl⟩:∃a:Nat,p=a:=⟨p.toNat,by omega⟩;have hk:k<rs.length:=by omega
   have ha:a<t.length:=by omega
   have hlk:rs[k]?=some rs[k]:=gA hk;have he:=q2 _ (gG hk);have hrw:=(q6b ok he q3 ha).eq;rw[q36]at hrw;simp only[h,evz,Nat.reduceLT,ne_eq,gW,Bool.not_true,or_self,hk,hlk,q4n,hrw,getE hk,q36,reduceCtorEq]
theorem q44(s:Signature)(rs:List Equation)(r p:Int)(t:List Int)(hs:sm 1048576 s)(hr:sm 1048576 rs)(ht:sm 1048576 t):Call F.q44 [.agg (enc s),slc rs,.int .i64 r,.int .i64 p,slc t] (.agg (enc (q3w s rs r p t))):=by
 obtain⟨l⟩:=s;have hsl:l.length<=4294967296:=Nat.le_trans hs.1 (by omega);have htl:t.length<=4294967296:=Nat.le_trans ht.1 (by omega);have hrl:rs.length<=4294967296:=Nat.le_trans hr.1 (by omega);show Call F.q44 [.agg [slc l],slc rs,.int .i64 r,.int .i64 p,slc t] _;refine q0r rfl 0 ((q44.ev _ _ _ _ _ _).trans ?_);simp only[evz,Nat.reduceLT,(q7y l hsl rs (q2x (by omega) hr) t htl).eq,q3w,q1o (x:=(rs.length:Int)-1) (by omega),(q14 _ _ _).eq,(q69 t p htl).eq];by_cases h:q53 ⟨l⟩ rs t=0
 case neg=>simp only[h,evz,Nat.reduceLT,ne_eq,gX,q36,q3q]
 obtain⟨ok,q1,q2,q3⟩:=qbu h;cases h1:inR r 0 (rs.length-1)with
 |false=>simp only[h,evz,Nat.reduceLT,ne_eq,gW,Bool.not_false,true_or,q36,q3q]
 |true=>
  cases h2:inR p 0 (t.length-1)with
  |false=>simp only[h,evz,Nat.reduceLT,ne_eq,gW,Bool.not_true,Bool.not_false,or_true,q36,q3q]
  |true=>
   have hr1:=q4p.1 h1;have hp1:=q4p.1 h2;obtain⟨k,rfl⟩:∃k:Nat,r=k:=⟨r.toNat,by omega⟩;obtain⟨a,rfl⟩:∃a:Nat,p=a:=⟨p.toNat,by omega⟩;have hk:k<rs.length:=by omega
   have ha:a<t.length:=by omega
   have hlk:rs[k]?=some rs[k]:=gA hk;have he:=q2 _ (gG hk);have hrw:=(q6c ok he q3 ha).eq;have hwin:=q4u (k:=2) (i:=k) rfl hlk;simp only[h,evz,Nat.reduceLT,ne_eq,gW,Bool.not_true,or_self,hk,hwin,q4n,hrw,getE hk,q36,reduceCtorEq]
theorem qfm(l:List Int):(cells l).all T.scalar=true:=by
 rw[<- q7c,gAL];intro x hx;obtain⟨n,_,rfl⟩:=List.mem_map.1 hx;rfl
theorem q2u(l:List Int)(h:l.length<=4294967296):Call F.q2u [slc l] (slc l):=by
 refine q0r rfl 0 ((q2u.ev _ _).trans ?_)
 have hb:Nat.ble ((0+(cells l).length)*8) (140737488355328*1)=true:=by
  rw[Nat.ble_eq,q0k,q3e];omega
 rw[qfm,hb];rfl
def eqOf(e:Entry):Equation:=⟨e.left,e.right⟩
theorem qe3(e:Entry):Call F.q2m [.agg (enc e)] (.agg [slc e.left,slc e.right]):=q0r rfl 0 (q2m.ev _ _ _ _ _ _ _ _)
theorem q43(e:Entry)(h:sm 4294967296 e):Call F.q43 [.rref (enc e) 0] (.agg [slc e.left,slc e.right]):=by
 refine q0r rfl 0 ((q43.ev _ _ _ _ _ _ _ _).trans ?_);simp only[evz,Nat.reduceLT,(q2u e.left h.1.1).eq,(q2u e.right h.2.1).eq]
section
variable (l:List Symbol)(z:Int)(tb:List (List Int))(hs:l.length<=4294967296)(ht:sm 4294967296 tb)
include hs ht
end
section
variable {l:List Symbol}{o:List Int}(ok:SigOk ⟨l⟩)(hol:o.length<=1048576)(ho:∀n:Int,0<=n->n<l.length->n∈o)
include ok hol ho
end
end Ev.Ty
end
section
namespace Ev.Ty
section
variable {α:Type}{lt:α->α->Bool}{S:α->Prop}
variable (h1:∀a b c,S a->S b->S c->lt a b=true->lt b c=true->lt a c=true)(h2:∀a b c,S a->S b->S c->lt a b=true->lt c b=false->lt a c=true)(h3:∀a b,S a->S b->lt a b=true->lt b a=false)
include h1 h2 h3
variable (h4:∀a b,S a->S b->a=b\/lt a b=true\/lt b a=true)
include h4
end
end Ev.Ty
end
section
namespace Ev.Ty
open Go Ev
open Enc (enc)
open Sm (sm)
set_option maxHeartbeats 1000000
theorem q2c(a b:List Int)(ha:a.length<=4294967296):Call F.q2c [slc a,slc b] (.bool (decide (a=b))):=by
 refine q0r rfl (a.length+1) ((q2c.ev _ _ _).trans ?_);by_cases hl:a.length=b.length
 ·have hl':((a.length:Nat):Int)=((b.length:Nat):Int):=by omega
  have key:∀(d k f:Nat),k+d=a.length->d<f->q2c.at0 (a.length+1) f (q2c.st0 (cells a) (cells b) (k:Nat))=some (.bool (decide (a.drop k=b.drop k)),[]):=by
   intro d;induction d with
   |zero=>
    intro k f hk hf;obtain⟨f,rfl⟩:∃g,f=g+1:=⟨f-1,by omega⟩;have h1:¬ k<a.length:=by omega
    have e:a.drop k=b.drop k:=by rw[List.drop_eq_nil_of_le (by omega),List.drop_eq_nil_of_le (by omega)]
    simp only[q2c.next0,q2c.round0,evz,Nat.reduceLT,h1,e,decide_true]
   |succ d ih=>
    intro k f hk hf;obtain⟨f,rfl⟩:∃g,f=g+1:=⟨f-1,by omega⟩;have h1:k<a.length:=by omega
    have h2:k<b.length:=by omega
    have i1:a[k]?=some a[k]:=gA h1;have i2:b[k]?=some b[k]:=gA h2;simp only[q2c.next0,q2c.round0,evz,Nat.reduceLT,h1,h2,i1,i2,q1x];rw[gH h1,gH h2];by_cases e:a[k]=b[k]
    ·simp only[e,evz,Nat.reduceLT,q0l (by omega:k<9223372036854775807),ih (k+1) f (by omega) (by omega),List.cons.injEq,true_and,bne_self_eq_false]
    ·rw[decide_eq_false (fun h=>e (List.cons.inj h).1)];simp[e]
  have:=key a.length 0 (a.length+1) (by omega) (by omega);simp only[evz,Nat.reduceLT,hl',bne_self_eq_false];refine this.trans ?_;rw[List.drop_zero,List.drop_zero]
 ·have hl':¬((a.length:Nat):Int)=((b.length:Nat):Int):=by omega
  have hne:¬ a=b:=fun e=>hl (by rw[e]);simp only[evz,Nat.reduceLT,hl',hne,ne_eq,gX,decide_true,decide_false]
section
variable {l:List Symbol}{o:List Int}(ok:SigOk ⟨l⟩)(hol:o.length<=1048576)(ho:∀n:Int,0<=n->n<l.length->n∈o)
include ok hol ho
end
section
variable {l:List Symbol}{o:List Int}(ok:SigOk ⟨l⟩)(hol:o.length<=1048576)(ho:∀n:Int,0<=n->n<l.length->n∈o)
include ok hol ho
end
end Ev.Ty
end
section
namespace Ev.Ty
open Go Ev
open Tm
theorem qu8{r:Int->Int}{a:Int->Nat}:∀(x:Tm)(q:Nat),x.ok a->q<x.flat.length->∃(y:Tm)(C:Tm->Tm),y.ok a/\(∃rest,x.flat.drop q=y.flat++rest)/\
 (∀u:Tm,u.ok a->(C u).ok a/\(C u).flat=x.flat.take q++u.flat++x.flat.drop (q+y.flat.length))/\∀u v:Tm,G r u v->G r (C u) (C v):=by
 have here:∀x:Tm,x.ok a->∃(y:Tm)(C:Tm->Tm),y.ok a/\(∃rest,x.flat.drop 0=y.flat++rest)/\
  (∀u:Tm,u.ok a->(C u).ok a/\(C u).flat=x.flat.take 0++u.flat++x.flat.drop (0+y.flat.length))/\∀u v:Tm,G r u v->G r (C u) (C v):=fun x hx=>
  ⟨x,id,hx,⟨[],by simp⟩,fun u hu=>⟨hu,by simp⟩,fun u v h=>h⟩
 intro x;induction x with
 |v n=>intro q hx hq;have:q=0:=by simp[Tm.flat]at hq;omega
       subst this;exact here _ hx
 |k n=>intro q hx hq;have:q=0:=by simp[Tm.flat]at hq;omega
       subst this;exact here _ hx
 |u n x ih=>
  intro q hx hq
  match q,hq with
  |0,_=>exact here _ hx
  |q+1,hq=>
   obtain⟨y,C,h1,⟨rest,h2⟩,h3,h4⟩:=ih q hx.2.2 (by simp only[Tm.flat,gAB]at hq;omega);refine⟨y,fun w=>.u n (C w),h1,⟨rest,h2⟩,fun w hw=>⟨⟨hx.1,hx.2.1,(h3 w hw).1⟩,?_⟩,fun w v h=>G.ctx (s:=.u n (C w)) (t:=.u n (C v)) (A:=[]) (B:=[]) hx.1 rfl rfl rfl (h4 w v h)⟩;show n::(C w).flat=(n::x.flat).take (q+1)++w.flat++(n::x.flat).drop (q+1+y.flat.length);rw[(h3 w hw).2,Nat.add_right_comm];rfl
 |b n x z ihx ihz=>
  intro q hx hq
  match q,hq with
  |0,_=>exact here _ hx
  |q+1,hq=>
   simp only[Tm.flat,gAB,gM]at hq;by_cases hl:q<x.flat.length
   ·obtain⟨y,C,h1,⟨rest,h2⟩,h3,h4⟩:=ihx q hx.2.2.1 hl
    have hy:q+y.flat.length<=x.flat.length:=by
     have:=congrArg List.length h2;rw[gAA,gM]at this;have:=y.flat_pos;omega
    refine⟨y,fun w=>.b n (C w) z,h1,⟨rest++z.flat,?_⟩,fun w hw=>⟨⟨hx.1,hx.2.1,(h3 w hw).1,hx.2.2.2⟩,?_⟩,fun w v h=>G.ctx (s:=.b n (C w) z) (t:=.b n (C v) z) (A:=[]) (B:=[z]) hx.1 rfl rfl rfl (h4 w v h)⟩
    ·show(x.flat++z.flat).drop q=_;rw[List.drop_append_of_le_length (by omega),h2,gZ]
    ·show n::((C w).flat++z.flat)=(n::(x.flat++z.flat)).take (q+1)++w.flat++(n::(x.flat++z.flat)).drop (q+1+y.flat.length);rw[(h3 w hw).2,Nat.add_right_comm];show n::(x.flat.take q++w.flat++x.flat.drop (q+y.flat.length)++z.flat)=n::((x.flat++z.flat).take q++w.flat++(x.flat++z.flat).drop (q+y.flat.length));rw[List.take_append_of_le_length (by omega),List.drop_append_of_le_length hy];simp
   ·obtain⟨y,C,h1,⟨rest,h2⟩,h3,h4⟩:=ihz (q-x.flat.length) hx.2.2.2 (by omega);refine⟨y,fun w=>.b n x (C w),h1,⟨rest,?_⟩,fun w hw=>⟨⟨hx.1,hx.2.1,hx.2.2.1,(h3 w hw).1⟩,?_⟩,fun w v h=>G.ctx (s:=.b n x (C w)) (t:=.b n x (C v)) (A:=[x]) (B:=[]) hx.1 rfl rfl rfl (h4 w v h)⟩
    ·show(x.flat++z.flat).drop q=_;rw[List.drop_append,List.drop_eq_nil_of_le (by omega),h2];rfl
    ·show n::(x.flat++(C w).flat)=(n::(x.flat++z.flat)).take (q+1)++w.flat++(n::(x.flat++z.flat)).drop (q+1+y.flat.length);rw[(h3 w hw).2,Nat.add_right_comm];show n::(x.flat++(z.flat.take (q-x.flat.length)++w.flat++z.flat.drop (q-x.flat.length+y.flat.length)))=n::((x.flat++z.flat).take q++w.flat++(x.flat++z.flat).drop (q+y.flat.length));rw[List.take_append,List.drop_append,List.take_of_length_le (by omega:x.flat.length<=q),List.drop_eq_nil_of_le (by omega:x.flat.length<=q+y.flat.length),show q+y.flat.length-x.flat.length=q-x.flat.length+y.flat.length by omega];simp
section
variable {l:List Symbol}(ok:SigOk ⟨l⟩){o:List Int}(ho:∀n:Int,0<=n->n<l.length->n∈o)
noncomputable def qqv(l:List Symbol)(t:List Int):Tm:=open Classical in if h:∃x:Tm,x.ok (ar l)/\t=x.flat then h.choose else .v (-1)
noncomputable def subB(l:List Symbol)(vs:List Int)(ts:List (List Int))(n:Int):Tm:=match q3c vs ts (-1-n)with|some t=>qqv l t|none=>.v n
include ok
theorem qk7{t:List Int}(h:TermOk l t):(qqv l t).ok (ar l)/\t=(qqv l t).flat:=by
 have e:∃x:Tm,x.ok (ar l)/\t=x.flat:=h.tree ok;unfold qqv;rw[dif_pos e];exact e.choose_spec
theorem qof{vs:List Int}{ts:List (List Int)}(h:BindOk vs ts/\∀t∈ts,TermOk l t)(n:Int)(hn:n<0):(subB l vs ts n).ok (ar l):=by
 unfold subB;cases e:q3c vs ts (-1-n)with
 |none=>exact hn
 |some t=>exact(qk7 ok (h.2 t (q4s e))).1
theorem q86{vs:List Int}{ts:List (List Int)}(h:BindOk vs ts/\∀t∈ts,TermOk l t):∀x:Tm,x.ok (ar l)->q01 vs ts x.flat=(x.inst (subB l vs ts)).flat:=by
 have hb:=h;have one:∀n:Int,0<=n->(q3c vs ts (-1-n)).getD [n]=[n]:=fun n hn=>by rw[qaf hb.1 (by omega)];rfl
 intro x;induction x with
 |v n=>
  intro _;show[n].flatMap _=(subB l vs ts n).flat
  rw[gAN,List.flatMap_nil,gAD];unfold subB;cases e:q3c vs ts (-1-n)with
  |none=>rfl
  |some t=>exact(qk7 ok (hb.2 t (q4s e))).2
 |k n=>
  intro hx;show[n].flatMap _=[n];rw[gAN,List.flatMap_nil,gAD,one n hx.1]
 |u n x ih=>
  intro hx;show(n::x.flat).flatMap _=n::(x.inst (subB l vs ts)).flat
  rw[gAN,one n hx.1,<- ih hx.2.2];rfl
 |b n x y ihx ihy=>
  intro hx;show(n::(x.flat++y.flat)).flatMap _=n::((x.inst (subB l vs ts)).flat++(y.inst (subB l vs ts)).flat);rw[gAN,one n hx.1,<- ihx hx.2.2.1,<- ihy hx.2.2.2,List.flatMap_append];rfl
omit ok in
theorem qhu{t:List Int}{x:Tm}(hx:x.ok (ar l))(e:t=x.flat)(hn:∀n∈t,q5l l n=true)(hl:t.length<=24):TermOk l t:=by
 refine⟨?_,hl,hn,?_⟩
 ·rw[e];exact x.flat_pos
 ·have:=Tm.skip_flat (a:=ar l) (fun n hn=>qa3 l hn) x [] 0 hx;rw[e];rwa[gAD]at this
theorem applied_ok{vs:List Int}{ts:List (List Int)}(h:BindOk vs ts/\∀t∈ts,TermOk l t){a:List Int}(ha:TermOk l a)(hl:(q01 vs ts a).length<=24):TermOk l (q01 vs ts a):=by
 obtain⟨x,hx,e⟩:=ha.tree ok;refine qhu (inst_ok (qof ok h) hx) (by rw[e];exact q86 ok h x hx) (fun n hn=>?_) hl;obtain⟨m,hm,hn⟩:=List.mem_flatMap.1 hn;cases eb:q3c vs ts (-1-m)with
 |none=>rw[eb]at hn;rw[gD.1 hn];exact ha.node m hm
 |some t=>rw[eb]at hn;exact(h.2 t (q4s eb)).node n hn
theorem qsk{t u:List Int}(ht:TermOk l t)(hu:TermOk l u){p:Nat}(hp:p<t.length)(hl:(q32 l t p u).length<=24):TermOk l (q32 l t p u):=by
 obtain⟨x,hx,ex⟩:=ht.tree ok;obtain⟨xu,hxu,exu⟩:=hu.tree ok;obtain⟨y,C,h1,⟨rest,h2⟩,h3,_⟩:=qu8 (r:=fun n=>n) x p hx (by rw[<- ex];exact hp);have hat:At l t p y:=⟨h1,rest,by rw[ex];exact h2⟩;have he:=hat.facts.2.2.1;have e:q32 l t p u=(C xu).flat:=by unfold q32;rw[(h3 xu hxu).2,he,ex,exu]
 refine qhu (h3 xu hxu).1 e (fun n hn=>?_) hl;unfold q32 at hn;rcases gO.1 hn with hn|hn
 ·rcases gO.1 hn with hn|hn
  ·exact ht.node n (List.mem_of_mem_take hn)
  ·exact hu.node n hn
 ·exact ht.node n (List.mem_of_mem_drop hn)
include ho
end
end Ev.Ty
end
section
namespace Ev.Ty
open Go Ev
theorem qcz(x:Int)(vs:List Int)(t:List Int)(ts:List (List Int))(v:Int):q3c (x::vs) (t::ts) v=if x=v then some t else q3c vs ts v:=by
 unfold q3c idx;rw[List.findIdx?_cons];by_cases h:x=v
 ·simp[h]
 ·simp only[h,decide_false,Bool.false_eq_true,if_false];cases e:vs.findIdx? (fun y=>decide (y=v))with
  |none=>simp
  |some i=>
   have h1:¬((i+1:Nat):Int)<0:=by omega
   have h2:¬((i:Nat):Int)<0:=by omega
   simp only[Option.map_some,h1,h2,if_false,gR,List.getElem?_cons_succ]
theorem qj8{v:Int}{t:List Int}(w:Int):∀(i:Nat)(vs:List Int)(ts:List (List Int)),vs.length=ts.length->i<=vs.length->v∉vs->q3c (ins vs i v) (ins ts i t) w=if v=w then some t else q3c vs ts w
 |0,vs,ts,_,_,_=>qcz v vs t ts w
 |i+1,[],ts,_,hi,_=>by simp at hi
 |i+1,x::vs,[],hl,_,_=>by simp at hl
 |i+1,x::vs,y::ts,hl,hi,hv=>by
  have hx:¬ v=x:=fun e=>hv (by rw[e];exact List.mem_cons_self ..);have ih:=qj8 (t:=t) w i vs ts (by simpa using hl) (by simpa using hi) (fun h=>hv (gF _ h));show q3c (x::ins vs i v) (y::ins ts i t) w=_;rw[qcz,qcz,ih];by_cases h:x=w
  ·rw[if_pos h,if_pos h,if_neg (fun e=>hx (by rw[e,h]))]
  ·rw[if_neg h,if_neg h]
theorem qj4{b:Bnd}{v:Int}{t:List Int}(hl:b.1.length=b.2.length)(hv:v∉b.1)(w:Int):q3c (bput b v t).1 (bput b v t).2 w=if v=w then some t else q3c b.1 b.2 w:=
 qj8 w _ _ _ hl (qe1 b.1 v) hv
theorem qi9{vs:List Int}{ts:List (List Int)}(hl:vs.length=ts.length){v:Int}(h:q3c vs ts v=none):v∉vs:=qcy hl h
theorem qdg{l:List Symbol}{t:List Int}(ht:TermOk l t){r:List Int}:∀(q:List Int)(b:Bnd)(p k:Nat),Both l t q p r->p<=t.length->MB l b k->k+q.length<=24->(∀n∈q,q5l l n=true)->∀x,mgo l t q b p=some x->
 p<=x.2/\x.2<=t.length/\(∃k',MB l x.1 k'/\k'<=24)/\(∀v o,q3c b.1 b.2 v=some o->q3c x.1.1 x.1.2 v=some o)/\q01 x.1.1 x.1.2 q=(t.drop p).take (x.2-p)/\∀n∈q,n<0->∃o,q3c x.1.1 x.1.2 (-1-n)=some o
 |[],b,p,k,h,hp,hb,hk,hq,x,hx=>by
  cases hx;exact⟨gAI _,hp,⟨k,hb,by simpa using hk⟩,fun _ _ h=>h,by simp[q01],fun n hn=>by cases hn⟩
 |n::q,b,p,k,h,hp,hb,hk,hq,x,hx=>by
  have hlt:=h.lt;obtain⟨h6,h7,_⟩:=q4a ht hlt;obtain⟨s1,hs,_⟩:=q54 ht hlt;rw[mgo,if_neg (by omega)]at hx;rw[gAB]at hk;have hnode:=q49.1 (hq n (by simp));have hq':∀n∈q,q5l l n=true:=fun n hn=>hq n (gF _ hn);by_cases hn:0<=n
  ·rw[if_pos hn]at hx;split at hx
   ·rename_i e;obtain⟨a1,a2,⟨k',mb,hk'⟩,a3,a4,a5⟩:=qdg ht q b (p+1) (k+1) (h.node e) (by omega) (hb.up (by omega)) (by omega) hq' x hx;refine⟨by omega,a2,⟨k',mb,hk'⟩,a3,?_,fun m hm h0=>?_⟩
    ·show(n::q).flatMap _=_;have e1:(q3c x.1.1 x.1.2 (-1-n)).getD [n]=[n]:=by rw[qaf (mb.ok hk') (by omega)];rfl
     have e2:t.drop p=n::t.drop (p+1):=by
      rw[gH hlt];rw[gI,gA hlt]at e;have e:t[p]=n:=e;rw[e]
     rw[gAN,e1,e2,show x.2-p=(x.2-(p+1))+1 by omega,List.take_succ_cons,<- a4];rfl
    ·rcases gK.1 hm with rfl|hm
     ·omega
     ·exact a5 m hm h0
   ·cases hx
  ·rw[if_neg hn]at hx
   have glue:∀z:Bnd×Nat,p+(q2s l t p).length<=z.2->z.2<=t.length->q3c z.1.1 z.1.2 (-1-n)=some (q2s l t p)->q01 z.1.1 z.1.2 q=(t.drop (p+(q2s l t p).length)).take (z.2-(p+(q2s l t p).length))->q01 z.1.1 z.1.2 (n::q)=(t.drop p).take (z.2-p):=fun z g1 gt g2 g3=>by
    show(n::q).flatMap _=_;rw[gAN,g2];show q2s l t p++q01 z.1.1 z.1.2 q=_;have ee:t.drop p=q2s l t p++t.drop (p+(q2s l t p).length):=by rw[hs,show p+(q52 l t p-p)=q52 l t p by omega];exact s1
    rw[ee,List.take_append,List.take_of_length_le (by omega:(q2s l t p).length<=z.2-p),show z.2-p-(q2s l t p).length=z.2-(p+(q2s l t p).length) by omega,<- g3]
   split at hx
   ·rename_i hnone;obtain⟨a1,a2,⟨k',mb,hk'⟩,a3,a4,a5⟩:=qdg ht q _ _ (k+1) (h.var ht (by omega)) (by omega) (hb.put (v := -1-n) (by omega) (q6g ht hlt)) (by omega) hq' x hx;have hput:=fun w=>qj4 (t:=q2s l t p) hb.len (qi9 hb.len hnone) w;have here:=a3 (-1-n) (q2s l t p) (by rw[hput,if_pos rfl]);refine⟨by omega,a2,⟨k',mb,hk'⟩,fun v o hv=>a3 v o ?_,glue x a1 a2 here a4,fun m hm h0=>?_⟩
    ·rw[hput,if_neg (fun e=>by rw[<- e,hnone]at hv;cases hv)];exact hv
    ·rcases gK.1 hm with rfl|hm
     ·exact⟨_,here⟩
     ·exact a5 m hm h0
   ·rename_i o ho;split at hx
    ·rename_i e;obtain⟨a1,a2,⟨k',mb,hk'⟩,a3,a4,a5⟩:=qdg ht q b _ (k+1) (h.var ht (by omega)) (by omega) (hb.up (by omega)) (by omega) hq' x hx;have here:=a3 (-1-n) o ho;rw[e]at here;refine⟨by omega,a2,⟨k',mb,hk'⟩,a3,glue x a1 a2 here a4,fun m hm h0=>?_⟩;rcases gK.1 hm with rfl|hm
     ·exact⟨_,here⟩
     ·exact a5 m hm h0
    ·cases hx
theorem qhz{l:List Symbol}{q t:List Int}(hq:TermOk l q)(ht:TermOk l t){p:Nat}(hp:p<t.length){b:Bnd}(h:q6i l q t p=some b) :
 q01 b.1 b.2 q=q2s l t p/\∀n∈q,n<0->∃o,q3c b.1 b.2 (-1-n)=some o:=by
 unfold q6i at h;rw[gP]at h;obtain⟨x,hx,rfl⟩:=h;have hB:=Both.start ht hq hp;obtain⟨e1,e2,_⟩:=qev ht q ([],[]) p 0 hB (by omega) (MB.nil l) (by have:=hq.le;omega) hq.node x hx;obtain⟨a1,a2,_,_,a4,a5⟩:=qdg ht q ([],[]) p 0 hB (by omega) (MB.nil l) (by have:=hq.le;omega) hq.node x hx;obtain⟨h6,h7,_⟩:=q4a ht hp
 have he:x.2=q52 l t p:=by
  have:=congrArg List.length e1;rw[gAA,gAA]at this;omega
 refine⟨?_,a5⟩;rw[a4,he];unfold q2s;rw[List.drop_take]
theorem qcr{l:List Symbol}{t:List Int}(ht:TermOk l t){p:Nat}(hp:p<t.length):q32 l t p (q2s l t p)=t:=by
 unfold q32;rw[gZ,<- (q54 ht hp).1,List.take_append_drop]
end Ev.Ty
end
section
namespace Ev.Ty
open Go Ev
section
variable {l:List Symbol}{rs:List Equation}
variable (hr:∀e∈rs,EqOk l e)
include hr
end
section
variable {l:List Symbol}{rs:List Equation}
end
end Ev.Ty
end
section
namespace Ev.Ty
open Go Ev
open Enc (enc)
open Sm (sm)
def rise(n:Nat):List Int:=(List.range n).map fun(i:Nat)=>(i:Int)
theorem qo8(n:Nat):(rise n).length=n:=by simp[rise]
def lcg(s:Int):Int:=(227*s+1) % 65521
theorem qry(s:Int):0<=lcg s/\lcg s<=65520:=by unfold lcg;omega
theorem qx4{s:Int}(h:0<=s/\s<=65520):Int.tmod (IntKind.wrap .i64 (IntKind.wrap .i64 (227*s)+1)) 65521=lcg s:=by
 rw[q1o (x:=227*s) (by omega),q1o (by omega),Int.tmod_eq_emod_of_nonneg (by omega)];rfl
def qe8(z:Int):Nat->Int->List Int->Int×List Int
 |0,s,t=>(s,t)
 |n+1,s,t=>qe8 z n (lcg s) (t++[lcg s % z])
theorem qk4(z:Int):∀n s t,0<=s/\s<=65520->(0<=(qe8 z n s t).1/\(qe8 z n s t).1<=65520)/\(qe8 z n s t).2.length=t.length+n
 |0,s,t,h=>⟨h,rfl⟩
 |n+1,s,t,h=>by
  have:=qk4 z n (lcg s) (t++[lcg s % z]) (qry s);refine⟨this.1,this.2.trans ?_⟩;simp;omega
theorem qr0{z:Int}{c:Nat}{S:Nat->Nat->Int->List Int->R}{y:Int->List Int->R}
 (step:∀m j s t,j<c->0<=s/\s<=65520->t.length=j->S (m+1) j s t=S m (j+1) (lcg s) (t++[lcg s % z]))
 (stop:∀m s t,0<=s/\s<=65520->t.length=c->S (m+1) c s t=y s t) {f:Nat} (hf:c<f) (s:Int) (hs:0<=s/\s<=65520) :
 S f 0 s []=y (qe8 z c s []).1 (qe8 z c s []).2:=by
 have:∀n m j s t,j+n=c->n<m->0<=s/\s<=65520->t.length=j->S m j s t=y (qe8 z n s t).1 (qe8 z n s t).2:=by
  intro n;induction n with
  |zero=>intro m j s t hj hm hs ht
         obtain⟨m,rfl⟩:∃q,m=q+1:=⟨m-1,by omega⟩;obtain rfl:j=c:=by omega
         exact stop m s t hs ht
  |succ n ih=>
   intro m j s t hj hm hs ht;obtain⟨m,rfl⟩:∃q,m=q+1:=⟨m-1,by omega⟩;rw[step m j s t (by omega) hs ht];exact ih m (j+1) _ _ (by omega) (by omega) (qry s) (by simp[ht])
 exact this c f 0 s [] (by omega) hf hs rfl
def qbs(z:Nat)(p:Int×List (List Int))(x:Symbol):Int×List (List Int):=((qe8 z (z ^ x.arity.toNat) p.1 []).1,p.2++[(qe8 z (z ^ x.arity.toNat) p.1 []).2])
def q61(s:Signature)(z seed:Int):AlgebraResult:=
 if q2v s=0 then if inR z 1 3=true/\inR seed 0 65520=true then⟨0,⟨z,(s.symbols.foldl (qbs z.toNat) (seed,[])).2⟩⟩else⟨3,⟨0,[]⟩⟩else⟨q2v s,⟨0,[]⟩⟩
def tabI(k:Nat)(p:Int×List (List Int)):Prop:=(0<=p.1/\p.1<=65520)/\p.2.length=k/\∀t∈p.2,t.length<=9
theorem qo7{z r:Nat}(hz:z<=3)(hr:r<=2):z ^ r<=9:=Nat.le_trans (Nat.pow_le_pow_left hz r) (Nat.le_trans (Nat.pow_le_pow_right (by omega) hr) (by decide))
theorem qm9{z:Nat}(hz:z<=3){x:Symbol}(hx:0<=x.arity/\x.arity<=2){k:Nat}{p:Int×List (List Int)}(h:tabI k p):tabI (k+1) (qbs z p x):=by
 obtain⟨h1,h2,h3⟩:=h;have hd:=qk4 z (z ^ x.arity.toNat) p.1 [] h1;have h9:=qo7 (r:=x.arity.toNat) hz (by omega);refine⟨hd.1,by simp[qbs,h2],fun t ht=>?_⟩;rcases gO.1 ht with h|h
 ·exact h3 t h
 ·rw[gD]at h;subst h;rw[hd.2];simp;omega
theorem qlj{seed:Int}(h:0<=seed/\seed<=65520):tabI 0 (seed,[]):=⟨h,rfl,by simp⟩
theorem qjv(s:Signature)(z seed:Int)(hs:sm 1048576 s):sm 67108864 (q61 s z seed):=by
 unfold q61;have h:=hs.1;split
 ·rename_i h0;split
  ·rename_i h1;have hz:=q4p.1 h1.1;have hz3:z.toNat<=3:=by omega
   have hi:=qp6 (l:=s.symbols) (g:=qbs z.toNat) tabI (fun k p hk hp=>qm9 hz3 (((q5g s).1 h0).arity _ (gG hk)) hp) (seed,[]) (qlj (q4p.1 h1.2));exact⟨Nat.le_trans (Nat.le_of_eq hi.2.1) (by omega),fun t ht=>⟨by have:=hi.2.2 t ht;omega,fun _ _=>trivial⟩⟩
  ·exact⟨by simp,by simp⟩
 ·exact⟨by simp,by simp⟩
theorem q0q(l:List Symbol)(ok:SigOk ⟨l⟩)(z:Nat)(seed:Int)(hz:1<=z/\z<=3)(hseed:0<=seed/\seed<=65520) :
 Call F.q0q [.rref [slc l] 0,.int .i64 z,.int .i64 seed] (.agg [.int .i64 z,slc (l.foldl (qbs z) (seed,[])).2]):=by
 refine q0r rfl (l.length+10) ((q0q.ev _ _ _ _).trans ?_);have hle:l.length<=6:=ok.le;have hz3:z<=3:=hz.2;show q0q.at0 (l.length+10) (l.length+10) (q0q.st0 (cells l) z seed 0 0 z [])=_;have key:=qg7 (l:=l) (f:=l.length+10) (S:=fun m k (p:Int×List (List Int))=>q0q.at0 (l.length+10) m (q0q.st0 (cells l) z p.1 (k:Nat) 0 z (cells p.2))) (g:=qbs z) (z:=fun(p:Int×List (List Int))=>some (.agg [.int .i64 z,slc p.2],[])) tabI (fun m k p h hp=>?_) (fun k p h hp=>qm9 hz3 (ok.arity _ (gG h)) hp) (fun m p hp=>?_) (seed,[]) (qlj hseed) (by omega)
 ·exact key
 ·have hx:=ok.arity _ (gG h);have h9:=qo7 (z:=z) (r:=l[k].arity.toNat) (by omega) (by omega);have hpw:=(q4k z l[k].arity.toNat (by omega) (by omega)).eq;rw[Int.toNat_of_nonneg hx.1]at hpw;simp only[q0q.next0,q0q.round0,evz,Nat.reduceLT,h,gA,q2q,hpw]
  refine(qr0 (z:=z) (c:=z ^ l[k].arity.toNat) (S:=fun m' j s t=>q0q.at2 (l.length+10) (q0q.at0 (l.length+10) m) m' (q0q.st2 (cells l) z s (k:Nat) (((z ^ l[k].arity.toNat:Nat):Int)-(j:Nat)) 0 z (cells p.2) (cells t)))
   (y:=fun s t=>q0q.at0 (l.length+10) m (q0q.st0 (cells l) z s ((k+1:Nat):Int) 0 z (cells (p.2++[t])))) (fun m' j s t hj hs ht=>?_) (fun m' s t hs ht=>?_) (by omega) p.1 hp.1)
  ·have hz0:¬((z:Int)=0):=by omega
   have hj0:((z ^ l[k].arity.toNat:Nat):Int)-(j:Nat)>0:=by omega
   have hj1:IntKind.wrap .i64 (((z ^ l[k].arity.toNat:Nat):Int)-(j:Nat)-1)=((z ^ l[k].arity.toNat:Nat):Int)-((j+1:Nat):Int):=by rw[q1o (by omega)];omega
   simp only[q0q.next2,q0q.round2,evz,Nat.reduceLT,hj0,hj1,hz0,qx4 hs,q0k,ht];rw[q1r (q3v (by omega)),Int.tmod_eq_emod_of_nonneg (qry s).1,q2f]
  ·have:=hp.2.1;have hj0:¬(((z ^ l[k].arity.toNat:Nat):Int)-((z ^ l[k].arity.toNat:Nat):Int)>0):=by omega
   simp only[q0q.next2,q0q.round2,evz,Nat.reduceLT,hj0,q0k,hp.2.1];rw[q1r (q3v (by omega)),q77,q0l (by omega)]
 ·simp only[q0q.next0,q0q.round0,evz,Nat.reduceLT,gAK]
theorem q6e(s:Signature)(z seed:Int)(hs:sm 1048576 s):Call F.q6e [.agg [slc s.symbols],.int .i64 z,.int .i64 seed] (.agg (enc (q61 s z seed))):=by
 obtain⟨l⟩:=s;have hl:l.length<=1048576:=hs.1;refine q0r rfl 0 ((q6e.ev _ _ _ _).trans ?_);simp only[evz,Nat.reduceLT,(q00 l (by omega)).eq,(q14 _ _ _).eq,q61];by_cases h0:q2v ⟨l⟩=0
 case neg=>simp only[h0,evz,Nat.reduceLT,q6j,q3q,Bool.not_false]
 simp only[h0,evz,Nat.reduceLT,Bool.not_true];cases h1:inR z 1 3 with
 |false=>simp only[evz,Nat.reduceLT,q6j,q3q,Bool.not_false,false_and,Bool.false_eq_true]
 |true=>
  cases h2:inR seed 0 65520 with
  |false=>simp only[evz,Nat.reduceLT,q6j,q3q,Bool.not_false,and_false,Bool.false_eq_true,Bool.not_true]
  |true=>
   have hz:=q4p.1 h1;have hseed:=q4p.1 h2;obtain⟨z,rfl⟩:∃n:Nat,z=n:=⟨z.toNat,by omega⟩;have ok:=(q5g _).1 h0;simp only[evz,Nat.reduceLT,Bool.not_true,and_self,(q0q l ok z seed (by omega) hseed).eq,q6j]
end Ev.Ty
end
section
namespace Ev.Ty
open Go Ev
theorem qp5{z:Nat}(hz:0<z):∀(k:Nat)(vs:List Int),vs.length=k->(∀n∈vs,0<=n/\n<=(z:Int)-1)->∃n,n<z ^ k/\digs z k n=vs
 |0,[],_,_=>⟨0,by simp,rfl⟩
 |0,x::vs,h,_=>by simp at h
 |k+1,[],h,_=>by simp at h
 |k+1,x::vs,h,hr=>by
  obtain⟨n,hn,e⟩:=qp5 hz k vs (by simpa using h) (fun n hn=>hr n (gF _ hn));have hx:=hr x (List.mem_cons_self ..);have hmod:(x.toNat+z*n) % z=x.toNat:=by rw[Nat.add_mul_mod_self_left];exact Nat.mod_eq_of_lt (by omega)
  have hdiv:(x.toNat+z*n)/z=n:=by rw[Nat.add_mul_div_left _ _ hz,Nat.div_eq_of_lt (by omega),gAJ]
  refine⟨x.toNat+z*n,?_,?_⟩
  ·rw[Nat.pow_succ];have:z*n+z<=z*z ^ k:=by rw[<- Nat.mul_succ];exact Nat.mul_le_mul_left _ hn
   rw[Nat.mul_comm (z ^ k)];omega
  ·rw[digs,hmod,hdiv,e,show((x.toNat:Nat):Int)=x by omega]
theorem q9i{l:List Symbol}{z:Nat}{tb:List (List Int)}{e:Equation}(hz:0<z)(h:q4b l z tb e=true){vs:List Int}(h6:vs.length=6)(hr:∀n∈vs,0<=n/\n<=(z:Int)-1) :
 (q2z l e.left).eval z tb vs=(q2z l e.right).eval z tb vs:=by
 obtain⟨n,hn,rfl⟩:=qp5 hz 6 vs h6 hr;unfold q4b at h;rw[Bool.not_eq_true',List.any_eq_false]at h;have:=h n (List.mem_range.2 hn);unfold qck at this;simpa using this
theorem qci{l:List Symbol}{z:Nat}{tb:List (List Int)}{e:Equation}(hz:0<z)(h:∀vs:List Int,vs.length=6->(∀n∈vs,0<=n/\n<=(z:Int)-1)->(q2z l e.left).eval z tb vs=(q2z l e.right).eval z tb vs):q4b l z tb e=true:=by
 unfold q4b;rw[Bool.not_eq_true',List.any_eq_false];intro n _;unfold qck;rw[decide_eq_true_iff];intro hne;exact hne (h _ (qb3 z 6 n) (qc2 hz 6 n))
theorem q91{z:Int}{tb:List (List Int)}{vs vs':List Int}{σ:Int->Tm}:∀x:Tm,(∀n∈x.flat,n<0->vs'.getD (-1-n).toNat 0=(σ n).eval z tb vs)->(a:Int->Nat)->x.ok a->(x.inst σ).eval z tb vs=x.eval z tb vs'
 |.v n,h,a,hx=>(h n (gD.2 rfl) hx).symm
 |.k n,h,a,hx=>rfl
 |.u n x,h,a,hx=>by
  show(tb.getD n.toNat []).getD ((x.inst σ).eval z tb vs).toNat 0=_;rw[q91 x (fun m hm=>h m (gF _ hm)) a hx.2.2];rfl
 |.b n x y,h,a,hx=>by
  show(tb.getD n.toNat []).getD ((x.inst σ).eval z tb vs*z+(y.inst σ).eval z tb vs).toNat 0=_;rw[q91 x (fun m hm=>h m (gF _ (gJ _ hm))) a hx.2.2.1,q91 y (fun m hm=>h m (gF _ (gN _ hm))) a hx.2.2.2];rfl
theorem qin{z:Int}{tb:List (List Int)}{vs:List Int}{a:Int->Nat}:∀(x:Tm)(q:Nat),x.ok a->q<x.flat.length->∃(y:Tm)(C:Tm->Tm),y.ok a/\(∃rest,x.flat.drop q=y.flat++rest)/\
 (∀u:Tm,u.ok a->(C u).ok a/\(C u).flat=x.flat.take q++u.flat++x.flat.drop (q+y.flat.length))/\∀u v:Tm,u.eval z tb vs=v.eval z tb vs->(C u).eval z tb vs=(C v).eval z tb vs:=by
 have here:∀x:Tm,x.ok a->∃(y:Tm)(C:Tm->Tm),y.ok a/\(∃rest,x.flat.drop 0=y.flat++rest)/\
  (∀u:Tm,u.ok a->(C u).ok a/\(C u).flat=x.flat.take 0++u.flat++x.flat.drop (0+y.flat.length))/\∀u v:Tm,u.eval z tb vs=v.eval z tb vs->(C u).eval z tb vs=(C v).eval z tb vs:=fun x hx=>
  ⟨x,id,hx,⟨[],by simp⟩,fun u hu=>⟨hu,by simp⟩,fun u v h=>h⟩
 intro x;induction x with
 |v n=>intro q hx hq;have:q=0:=by simp[Tm.flat]at hq;omega
       subst this;exact here _ hx
 |k n=>intro q hx hq;have:q=0:=by simp[Tm.flat]at hq;omega
       subst this;exact here _ hx
 |u n x ih=>
  intro q hx hq
  match q,hq with
  |0,_=>exact here _ hx
  |q+1,hq=>
   obtain⟨y,C,h1,⟨rest,h2⟩,h3,h4⟩:=ih q hx.2.2 (by simp only[Tm.flat,gAB]at hq;omega);refine⟨y,fun w=>.u n (C w),h1,⟨rest,h2⟩,fun w hw=>⟨⟨hx.1,hx.2.1,(h3 w hw).1⟩,?_⟩,fun w v h=>?_⟩
   ·show n::(C w).flat=(n::x.flat).take (q+1)++w.flat++(n::x.flat).drop (q+1+y.flat.length);rw[(h3 w hw).2,Nat.add_right_comm];rfl
   ·show(tb.getD n.toNat []).getD ((C w).eval z tb vs).toNat 0=(tb.getD n.toNat []).getD ((C v).eval z tb vs).toNat 0;rw[h4 w v h]
 |b n x w0 ihx ihz=>
  intro q hx hq
  match q,hq with
  |0,_=>exact here _ hx
  |q+1,hq=>
   simp only[Tm.flat,gAB,gM]at hq;by_cases hl:q<x.flat.length
   ·obtain⟨y,C,h1,⟨rest,h2⟩,h3,h4⟩:=ihx q hx.2.2.1 hl
    have hy:q+y.flat.length<=x.flat.length:=by
     have:=congrArg List.length h2;rw[gAA,gM]at this;have:=y.flat_pos;omega
    refine⟨y,fun w=>.b n (C w) w0,h1,⟨rest++w0.flat,?_⟩,fun w hw=>⟨⟨hx.1,hx.2.1,(h3 w hw).1,hx.2.2.2⟩,?_⟩,fun w v h=>?_⟩
    ·show(x.flat++w0.flat).drop q=_;rw[List.drop_append_of_le_length (by omega),h2,gZ]
    ·show n::((C w).flat++w0.flat)=(n::(x.flat++w0.flat)).take (q+1)++w.flat++(n::(x.flat++w0.flat)).drop (q+1+y.flat.length);rw[(h3 w hw).2,Nat.add_right_comm];show n::(x.flat.take q++w.flat++x.flat.drop (q+y.flat.length)++w0.flat)=n::((x.flat++w0.flat).take q++w.flat++(x.flat++w0.flat).drop (q+y.flat.length));rw[List.take_append_of_le_length (by omega),List.drop_append_of_le_length hy];simp
    ·show(tb.getD n.toNat []).getD ((C w).eval z tb vs*z+w0.eval z tb vs).toNat 0=(tb.getD n.toNat []).getD ((C v).eval z tb vs*z+w0.eval z tb vs).toNat 0;rw[h4 w v h]
   ·obtain⟨y,C,h1,⟨rest,h2⟩,h3,h4⟩:=ihz (q-x.flat.length) hx.2.2.2 (by omega);refine⟨y,fun w=>.b n x (C w),h1,⟨rest,?_⟩,fun w hw=>⟨⟨hx.1,hx.2.1,hx.2.2.1,(h3 w hw).1⟩,?_⟩,fun w v h=>?_⟩
    ·show(x.flat++w0.flat).drop q=_;rw[List.drop_append,List.drop_eq_nil_of_le (by omega),h2];rfl
    ·show n::(x.flat++(C w).flat)=(n::(x.flat++w0.flat)).take (q+1)++w.flat++(n::(x.flat++w0.flat)).drop (q+1+y.flat.length);rw[(h3 w hw).2,Nat.add_right_comm];show n::(x.flat++(w0.flat.take (q-x.flat.length)++w.flat++w0.flat.drop (q-x.flat.length+y.flat.length)))=n::((x.flat++w0.flat).take q++w.flat++(x.flat++w0.flat).drop (q+y.flat.length));rw[List.take_append,List.drop_append,List.take_of_length_le (by omega:x.flat.length<=q),List.drop_eq_nil_of_le (by omega:x.flat.length<=q+y.flat.length),show q+y.flat.length-x.flat.length=q-x.flat.length+y.flat.length by omega];simp
    ·show(tb.getD n.toNat []).getD (x.eval z tb vs*z+(C w).eval z tb vs).toNat 0=(tb.getD n.toNat []).getD (x.eval z tb vs*z+(C v).eval z tb vs).toNat 0;rw[h4 w v h]
section
variable {l:List Symbol}(ok:SigOk ⟨l⟩)
include ok
theorem q7o{t:List Int}{x:Tm}(ht:TermOk l t)(hx:x.ok (ar l))(e:t=x.flat):q2z l t=x:=by
 obtain⟨h1,h2⟩:=q3h ok ht;exact(qk5 h1 hx).1 (h2.symm.trans e)
theorem qq1{t:List Int}(ht:TermOk l t):qqv l t=q2z l t:=by
 obtain⟨h1,h2⟩:=qk7 ok ht;exact(q7o ok ht h1 h2).symm
theorem qoj{z:Int}{tb:List (List Int)}{vs:List Int}{t u w:List Int}(ht:TermOk l t)(hu:TermOk l u)(hw:TermOk l w){p:Nat}(hp:p<t.length)(hru:TermOk l (q32 l t p u))(hrw:TermOk l (q32 l t p w))
 (h:(q2z l u).eval z tb vs=(q2z l w).eval z tb vs):(q2z l (q32 l t p u)).eval z tb vs=(q2z l (q32 l t p w)).eval z tb vs:=by
 obtain⟨x,hx,ex⟩:=ht.tree ok;obtain⟨u1,u2⟩:=q3h ok hu;obtain⟨w1,w2⟩:=q3h ok hw;obtain⟨y,C,h1,⟨rest,h2⟩,h3,h4⟩:=qin (z:=z) (tb:=tb) (vs:=vs) x p hx (by rw[<- ex];exact hp);have hat:At l t p y:=⟨h1,rest,by rw[ex];exact h2⟩;have he:=hat.facts.2.2.1;have eu:q32 l t p u=(C (q2z l u)).flat:=by unfold q32;rw[(h3 _ u1).2,he,ex,<- u2]
 have ew:q32 l t p w=(C (q2z l w)).flat:=by unfold q32;rw[(h3 _ w1).2,he,ex,<- w2]
 rw[q7o ok hru (h3 _ u1).1 eu,q7o ok hrw (h3 _ w1).1 ew];exact h4 _ _ h
noncomputable def qgx(l:List Symbol)(z:Int)(tb:List (List Int))(vs:List Int)(b:Bnd)(q:List Int):List Int:=(List.range 6).map fun(i:Nat)=>open Classical in if(-1-(i:Int))∈q then(subB l b.1 b.2 (-1-(i:Int))).eval z tb vs else vs.getD i 0
omit ok in
theorem qjy(z:Int)(tb:List (List Int))(vs:List Int)(b:Bnd)(q:List Int):(qgx l z tb vs b q).length=6:=by unfold qgx;simp
omit ok in
theorem qs0{z:Int}{tb:List (List Int)}{vs:List Int}{b:Bnd}{q:List Int}{n:Int}(hn:n∈q)(h0:n<0)(h6 : -6<=n):(qgx l z tb vs b q).getD (-1-n).toNat 0=(subB l b.1 b.2 n).eval z tb vs:=by
 unfold qgx;have hi:(-1-n).toNat<6:=by omega
 rw[gI,gAC,List.getElem?_range hi];show(if _ then _ else _)=_;have e:(-1-(((-1-n).toNat:Nat):Int))=n:=by omega
 rw[e,if_pos hn]
theorem qdy{z:Int}{tb:List (List Int)}{vs:List Int}{b:Bnd}(hb:BindOk b.1 b.2/\∀t∈b.2,TermOk l t){q r:List Int}(hr:TermOk l r)(hq:∀n∈r,n<0->n∈q /\ -6<=n)(hl:(q01 b.1 b.2 r).length<=24) :
 (q2z l (q01 b.1 b.2 r)).eval z tb vs=(q2z l r).eval z tb (qgx l z tb vs b q):=by
 obtain⟨h1,h2⟩:=q3h ok hr;have e:=q86 ok hb _ h1;rw[<- h2]at e;rw[q7o ok (applied_ok ok hb hr hl) (Tm.inst_ok (qof ok hb) h1) e];refine q91 _ (fun n hn h0=>?_) (ar l) h1;rw[<- h2]at hn;exact qs0 (hq n hn h0).1 h0 (hq n hn h0).2
theorem qu5{t:List Int}(ht:TermOk l t)(h:∀n∈t,-6<=n):(q2z l t).low 6/\(q2z l t).syms l.length/\(q2z l t).ok (ar l):=by
 obtain⟨h1,h2⟩:=q3h ok ht;exact⟨Tm.low_of (by rw[<- h2];exact h),Tm.syms_of h1 (by rw[<- h2];exact ht.node),h1⟩
theorem qr3{z:Nat}{tb:List (List Int)}(al:AlgOk l z tb)(hz:0<z){vs:List Int}(h6:vs.length=6)(hv:∀n∈vs,0<=n/\n<=(z:Int)-1){e:Equation}(he:EqOk l e)(hru:q9l e=true)(hh:q4b l z tb e=true)
 {t:List Int} (ht:TermOk l t) (hlow:∀n∈t,-6<=n) {p:Nat} (hp:p<t.length) (h:(q99 l e t p).code=0) :
 (q2z l (q99 l e t p).term).eval z tb vs=(q2z l t).eval z tb vs/\∀n∈(q99 l e t p).term,-6<=n:=by
 have hto:=qmh he ht hp h
 obtain⟨b,hm,hb,h1,h2,h3,h4⟩:∃b:Bnd,q6i l e.left t p=some b/\(BindOk b.1 b.2/\∀t∈b.2,TermOk l t)/\q01 b.1 b.2 e.left=q2s l t p/\(q01 b.1 b.2 e.right).length<=24/\(q99 l e t p).term=q32 l t p (q01 b.1 b.2 e.right)/\(q32 l t p (q01 b.1 b.2 e.right)).length<=24:=by
  unfold q99 at h ⊢;cases hm:q6i l e.left t p with
  |none=>rw[hm]at h;cases h
  |some b=>
   rw[hm]at h;simp only at h ⊢;split at h
   ·cases h
   ·rename_i h24;rw[if_neg h24];have hb:=qc4 he.left ht hp hm;refine⟨b,rfl,⟨hb.ok he.left.le,hb.tm⟩,(qhz he.left ht hp hm).1,?_,rfl,by omega⟩
    have:(q01 b.1 b.2 e.right).length<=(q32 l t p (q01 b.1 b.2 e.right)).length:=by
     unfold q32;simp only[gM];omega
    omega
 have hvr:∀n∈e.right,n<0->n∈e.left /\ -6<=n:=fun n hn h0=>by
  refine⟨?_,he.lowR n hn⟩;unfold q9l at hru;simp only[gC,Bool.not_eq_true',List.any_eq_false,gS,not_and]at hru;exact Classical.byContradiction fun hne=>hru.2 n hn h0 hne
 have hbound:∀n∈e.left,n<0->∃o,q3c b.1 b.2 (-1-n)=some o/\TermOk l o/\∀m∈o,-6<=m:=fun n hn h0=>by
  obtain⟨o,ho⟩:=(qhz he.left ht hp hm).2 n hn h0;refine⟨o,ho,hb.2 o (q4s ho),fun m hm=>?_⟩;have:m∈q01 b.1 b.2 e.left:=List.mem_flatMap.2 ⟨n,hn,by rw[ho];exact hm⟩;rw[h1]at this;exact hlow m (List.mem_of_mem_take (List.mem_of_mem_drop this))
 have hs:=q6g ht hp;have ha:=applied_ok ok hb he.right h2;constructor
 ·rw[h3];have hl:(q01 b.1 b.2 e.left).length<=24:=by rw[h1];exact hs.le
  have v1:=qdy (z:=z) (tb:=tb) (vs:=vs) ok hb (q:=e.left) he.left (fun n hn _=>⟨hn,he.lowL n hn⟩) hl;have v2:=qdy (z:=z) (tb:=tb) (vs:=vs) ok hb (q:=e.left) he.right hvr h2;rw[h1]at v1
  have hvals:∀n∈qgx l z tb vs b e.left,0<=n/\n<=(z:Int)-1:=fun n hn=>by
   unfold qgx at hn;obtain⟨i,hi,rfl⟩:=List.mem_map.1 hn;have hi:=List.mem_range.1 hi;by_cases hc:(-1-(i:Int))∈e.left
   ·rw[if_pos hc];obtain⟨o,ho,to,lo⟩:=hbound _ hc (by omega)
    have es:subB l b.1 b.2 (-1-(i:Int))=q2z l o:=by
     unfold subB;rw[ho];exact qq1 ok to
    rw[es];obtain⟨q1,q2,q3⟩:=qu5 ok to lo;exact Tm.eval_range al h6 hv q3 q2 q1
   ·rw[if_neg hc,gI,gA (by omega)];exact hv _ (gG _)
  have hh:=q9i hz hh (qjy z tb vs b e.left) hvals;have key:=qoj (z:=z) (tb:=tb) (vs:=vs) ok ht ha hs hp (by rw[<- h3];exact hto) (by rw[qcr ht hp];exact ht) (by rw[v2,v1,hh]);rw[qcr ht hp]at key;exact key
 ·rw[h3];intro n hn;unfold q32 at hn;rcases gO.1 hn with hn|hn
  ·rcases gO.1 hn with hn|hn
   ·exact hlow n (List.mem_of_mem_take hn)
   ·obtain⟨m,hm',hn⟩:=List.mem_flatMap.1 hn;by_cases h0:m<0
    ·obtain⟨o,ho,_,lo⟩:=hbound m (hvr m hm' h0).1 h0;rw[ho]at hn;exact lo n hn
    ·rw[qaf hb.1 (by omega)]at hn;rw[gD.1 hn];omega
  ·exact hlow n (List.mem_of_mem_drop hn)
end
end Ev.Ty
end
