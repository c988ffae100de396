/- Steps on the way to RowAlgebras: TyEvalF, TyEvalT, TyAlgOk, TyVars, TyEqs, TyRules, TyHolds, TyAllHold, TyDraw, TyDrawT, TyPigeon, TySame, TyBind, TyCmp, TyOrd, TyWalk, TyTheory, TyDrawG, TyMatchP, TySortP, TyLpoP, TyLpo, TyLpoS, TyPartP, TyRead, TyPool, TyNormP, TyMatch, TyNorm, TyNormL, TyHasVar, TyEntries, TySortT, TySortQ, TyGreat, TyUnifyP, TyPeakP, TyUnify, TyUnify2, TyPeak, TyPeak2, TyPeaks, TyAllPeaks, TyUnjoined, TyDeriveP, TyDerive, TyNewC, TyOrient, TyDraw10, TyDrawB, TyStabP, TySoundP, TyRedexP, TySemP, TyLAlgebras. -/
import Derived.Test.YtleelbkgajbkfaaGreatDoorM3
set_option linter.unusedSectionVars false
set_option linter.unusedVariables false
set_option linter.unusedSimpArgs false
section
namespace Ev.Ty
open Go Ev
open Enc (enc)
open Sm (sm)
theorem getD_of{α:Type}{v:List α}{i:Nat}{d:α}(h:i<v.length):v.getD i d=v[i]:=by simp[h]
section
variable {l:List Symbol}{z:Int}{tb:List (List Int)}(al:AlgOk l z tb){vs:List Int}(hv:vs.length=6)(hr:∀n∈vs,0<=n/\n<=z-1)
include al hv hr
theorem impl_Algebra_evalAt{t:List Int}(ht:t.length<=4294967296):∀(x:Tm)(r:List Int)(e:Nat),t.drop e=x.flat++r->x.ok (ar l)->x.syms l.length->x.low 6->
 Call F.impl_Algebra_evalAt [.agg [.int .i64 z,slc tb],.agg [slc l],slc vs,slc t,.int .i64 e] (.tup [.int .i64 (x.eval z tb vs),.int .i64 (e+x.flat.length:Nat)]):=by
 intro x;induction x with
 |v n=>
  intro r e he ok hs hl;obtain⟨h1,h2,h3⟩:=at_head he;have ok:n<0:=ok;have hl : -6<=n:=hl;refine call_of rfl 4 ((impl_Algebra_evalAt.ev _ _ _ _ _ _ _).trans ?_);obtain⟨y,hy⟩:∃y:Nat,-1-n=y:=⟨(-1-n).toNat,by omega⟩;have hyv:y<vs.length:=by omega
  have hyl:vs[y]?=some vs[y]:=List.getElem?_eq_getElem hyv;have hw:IntKind.wrap .i64 (-1-n)=y:=by rw[wrap64 (by omega),hy]
  simp only[evz,Nat.reduceLT,h1,h2,enc_int,Tm.head,ok,hw,hyv,hyl];rw[wrap_succ (by omega)];simp only[Tm.eval,hy,Int.toNat_natCast,getD_of hyv,Tm.flat,List.length_singleton]
 |k n=>
  intro r e he ok hs hl;obtain⟨h1,h2,h3⟩:=at_head he;obtain⟨y,rfl,hy,hy',r1,r2,r3,r4⟩:=row_at al ok.1 hs;have hyl:l[y]?=some l[y]:=List.getElem?_eq_getElem hy;have hyt:tb[y]?=some tb[y]:=List.getElem?_eq_getElem hy';rw[ok.2,Nat.pow_zero]at r1;have hn:¬((y:Int)<0):=by omega
  have h0:(0:Nat)<tb[y].length:=by omega
  have h0l:tb[y][0]?=some tb[y][0]:=List.getElem?_eq_getElem h0;refine call_of rfl 4 ((impl_Algebra_evalAt.ev _ _ _ _ _ _ _).trans ?_);simp only[evz,Nat.reduceLT,h1,h2,enc_int,Tm.head,hn,hy,hyl,enc_Symbol,r4,ok.2];refine(impl_Algebra_evalAt.next0 4 3 _).trans ((impl_Algebra_evalAt.round0 _ _ _ _ _ _ _ _ _ _ _ _).trans ?_);rw[wrap_succ (by omega)];have hz0:inB 0 tb[y].length=true:=by rw[show(0:Int)=((0:Nat):Int)from rfl,inB_nat];simpa using h0
  simp only[evz,Nat.reduceLT,hy',hyt,enc_list,hz0,Int.toNat_zero,h0l,enc_int,Int.lt_irrefl,Int.ofNat_zero,Int.natCast_zero];simp only[Tm.eval,Int.toNat_natCast,getD_of hy',getD_of h0,Tm.flat,List.length_singleton]
 |u n x ihx=>
  intro r e he ok hs hl;obtain⟨h1,h2,h3⟩:=at_head he;obtain⟨y,rfl,hy,hy',r1,r2,r3,r4⟩:=row_at al ok.1 hs.1;have hyl:l[y]?=some l[y]:=List.getElem?_eq_getElem hy;have hyt:tb[y]?=some tb[y]:=List.getElem?_eq_getElem hy';rw[ok.2.1,Nat.pow_one]at r1;have hn:¬((y:Int)<0):=by omega
  obtain⟨i1,i2⟩:=Tm.eval_range al hv hr ok.2.2 hs.2 hl;obtain⟨q,hq⟩:∃q:Nat,x.eval z tb vs=q:=⟨(x.eval z tb vs).toNat,by omega⟩;have hz:=al.size;have h0:q<tb[y].length:=by omega
  have h0l:tb[y][q]?=some tb[y][q]:=List.getElem?_eq_getElem h0;have he1:t.drop (e+1)=x.flat++r:=at_next (q:=[(y:Int)]) (by simpa[Tm.flat]using he);have c1:=ihx r (e+1) he1 ok.2.2 hs.2 hl;refine call_of rfl 4 ((impl_Algebra_evalAt.ev _ _ _ _ _ _ _).trans ?_);simp only[evz,Nat.reduceLT,h1,h2,enc_int,Tm.head,hn,hy,hyl,enc_Symbol,r4,ok.2.1];rw[wrap_succ (by omega)];refine(impl_Algebra_evalAt.next0 4 3 _).trans ((impl_Algebra_evalAt.round0 _ _ _ _ _ _ _ _ _ _ _ _).trans ?_);simp only[evz,Nat.reduceLT,c1.eq,hq,show((1:Nat):Int)=1 from rfl,show((2:Nat):Int)=2 from rfl,Int.reduceLT,Int.reduceAdd,wrap64 (x:=0*z) (by omega),wrap64 (x:=0*z+(q:Int)) (by omega),wrap64 (x:=(1:Int)) (by omega)];refine(impl_Algebra_evalAt.next0 4 2 _).trans ((impl_Algebra_evalAt.round0 _ _ _ _ _ _ _ _ _ _ _ _).trans ?_);simp only[evz,Nat.reduceLT,show((1:Nat):Int)=1 from rfl,show((2:Nat):Int)=2 from rfl,Int.reduceLT,Int.reduceAdd,Int.zero_mul,Int.zero_add,hy',hyt,enc_list,h0,h0l,enc_int];simp only[Tm.eval,hq,Int.toNat_natCast,getD_of hy',getD_of h0,Tm.flat,List.length_cons];rw[show e+1+x.flat.length=e+(x.flat.length+1) by omega]
 |b n x w ihx ihw=>
  intro r e he ok hs hl;obtain⟨h1,h2,h3⟩:=at_head he;obtain⟨y,rfl,hy,hy',r1,r2,r3,r4⟩:=row_at al ok.1 hs.1;have hyl:l[y]?=some l[y]:=List.getElem?_eq_getElem hy;have hyt:tb[y]?=some tb[y]:=List.getElem?_eq_getElem hy';rw[ok.2.1]at r1;have hn:¬((y:Int)<0):=by omega
  obtain⟨i1,i2⟩:=Tm.eval_range al hv hr ok.2.2.1 hs.2.1 hl.1;obtain⟨j1,j2⟩:=Tm.eval_range al hv hr ok.2.2.2 hs.2.2 hl.2;obtain⟨q,hq⟩:∃q:Nat,x.eval z tb vs=q:=⟨(x.eval z tb vs).toNat,by omega⟩;obtain⟨p,hp⟩:∃p:Nat,w.eval z tb vs=p:=⟨(w.eval z tb vs).toNat,by omega⟩;obtain⟨zn,hzn⟩:∃zn:Nat,z=zn:=⟨z.toNat,by have:=al.size;omega⟩;have hz:=al.size
  have h0:q*zn+p<tb[y].length:=by
   rw[r1];have:zn=1\/zn=2\/zn=3:=by omega
   rcases this with h|h|h <;> subst h <;> subst hzn <;> simp <;> omega
  have hb:q*zn<=6:=by
   have h4:q<=2:=by omega
   have h5:zn<=3:=by omega
   exact Nat.mul_le_mul h4 h5
  have h0l:tb[y][q*zn+p]?=some tb[y][q*zn+p]:=List.getElem?_eq_getElem h0;have he1:t.drop (e+1)=x.flat++(w.flat++r):=at_next (q:=[(y:Int)]) (by simpa[Tm.flat]using he);have he2:t.drop (e+1+x.flat.length)=w.flat++r:=at_next he1;have c1:=ihx _ (e+1) he1 ok.2.2.1 hs.2.1 hl.1;have c2:=ihw _ _ he2 ok.2.2.2 hs.2.2 hl.2;refine call_of rfl 4 ((impl_Algebra_evalAt.ev _ _ _ _ _ _ _).trans ?_);simp only[evz,Nat.reduceLT,h1,h2,enc_int,Tm.head,hn,hy,hyl,enc_Symbol,r4,ok.2.1];rw[wrap_succ (by omega)];refine(impl_Algebra_evalAt.next0 4 3 _).trans ((impl_Algebra_evalAt.round0 _ _ _ _ _ _ _ _ _ _ _ _).trans ?_);simp only[evz,Nat.reduceLT,c1.eq,hq,show((1:Nat):Int)=1 from rfl,show((2:Nat):Int)=2 from rfl,Int.reduceLT,Int.reduceAdd,wrap64 (x:=0*z) (by omega),wrap64 (x:=0*z+(q:Int)) (by omega),wrap64 (x:=(1:Int)) (by omega)];refine(impl_Algebra_evalAt.next0 4 2 _).trans ((impl_Algebra_evalAt.round0 _ _ _ _ _ _ _ _ _ _ _ _).trans ?_);have hm:((q:Int)*z)=((q*zn:Nat):Int):=by rw[hzn];simp
  simp only[evz,Nat.reduceLT,c2.eq,hp,show((1:Nat):Int)=1 from rfl,show((2:Nat):Int)=2 from rfl,Int.reduceLT,Int.reduceAdd,Int.zero_mul,Int.zero_add,hm,wrap64 (x:=((q*zn:Nat):Int)) (by omega),wrap64 (x:=((q*zn:Nat):Int)+(p:Int)) (by omega),wrap64 (x:=(2:Int)) (by omega)];refine(impl_Algebra_evalAt.next0 4 1 _).trans ((impl_Algebra_evalAt.round0 _ _ _ _ _ _ _ _ _ _ _ _).trans ?_);have hc:((q*zn:Nat):Int)+(p:Int)=((q*zn+p:Nat):Int):=by omega
  simp only[evz,Nat.reduceLT,show((1:Nat):Int)=1 from rfl,show((2:Nat):Int)=2 from rfl,Int.reduceLT,Int.reduceAdd,hc,hy',hyt,enc_list,h0,h0l,enc_int];simp only[Tm.eval,hq,hp,hm,hc,Int.toNat_natCast,getD_of hy',getD_of h0,Tm.flat,List.length_cons,List.length_append];rw[show e+1+x.flat.length+w.flat.length=e+(x.flat.length+w.flat.length+1) by omega]
theorem spec_l10Eval{t:List Int}(hn:∀n∈t,nodeOk l n=true)(ht:t.length<=4294967296):∀(x:Tm)(r:List Int)(e:Nat),t.drop e=x.flat++r->x.ok (ar l)->x.syms l.length->x.low 6->
 Call F.spec_l10Eval [.rref [slc l] 0,.rref [.int .i64 z,slc tb] 0,slc vs,slc t,.int .i64 e] (.int .i64 (x.eval z tb vs)):=by
 have ends:∀(x:Tm)(r:List Int)(e:Nat),t.drop e=x.flat++r->x.ok (ar l)->Call F.spec_l3End [.rref [slc l] 0,slc t,.int .i64 e] (.int .i64 (e+x.flat.length:Nat)):=fun x r e he ok=>by
  have h3:=(at_head he).2.2;have:=spec_l3End al.sig t hn ht e (by omega);rw[he,Tm.skip_flat (fun n hn=>ar_neg l hn) x r 0 ok,skip_zero]at this;have hl:(t.drop e).length=x.flat.length+r.length:=by rw[he,List.length_append]
  rw[List.length_drop]at hl;rwa[show endRes (-1) t (some r)=((e+x.flat.length:Nat):Int) by simp only[endRes];omega]at this
 intro x;induction x with
 |v n=>
  intro r e he ok hs hl;obtain⟨h1,h2,h3⟩:=at_head he;have ok:n<0:=ok;have hl : -6<=n:=hl;refine call_of rfl 4 ((spec_l10Eval.ev _ _ _ _ _ _ _).trans ?_);obtain⟨y,hy⟩:∃y:Nat,-1-n=y:=⟨(-1-n).toNat,by omega⟩;have hyv:y<vs.length:=by omega
  have hyl:vs[y]?=some vs[y]:=List.getElem?_eq_getElem hyv;have hw:IntKind.wrap .i64 (-1-n)=y:=by rw[wrap64 (by omega),hy]
  simp only[evz,Nat.reduceLT,h1,h2,enc_int,Tm.head,ok,hw,hyv,hyl];simp only[Tm.eval,hy,Int.toNat_natCast,getD_of hyv]
 |k n=>
  intro r e he ok hs hl;obtain⟨h1,h2,h3⟩:=at_head he;obtain⟨y,rfl,hy,hy',r1,r2,r3,r4⟩:=row_at al ok.1 hs;have hyl:l[y]?=some l[y]:=List.getElem?_eq_getElem hy;have hyt:tb[y]?=some tb[y]:=List.getElem?_eq_getElem hy';rw[ok.2,Nat.pow_zero]at r1;have hn:¬((y:Int)<0):=by omega
  have h0:(0:Nat)<tb[y].length:=by omega
  have h0l:tb[y][0]?=some tb[y][0]:=List.getElem?_eq_getElem h0;refine call_of rfl 4 ((spec_l10Eval.ev _ _ _ _ _ _ _).trans ?_);simp only[evz,Nat.reduceLT,h1,h2,enc_int,Tm.head,hn];refine(spec_l10Eval.next0 4 3 _).trans ((spec_l10Eval.round0 _ _ _ _ _ _ _ _ _ _ _).trans ?_);have hz0:inB 0 tb[y].length=true:=by rw[show(0:Int)=((0:Nat):Int)from rfl,inB_nat];simpa using h0
  simp only[evz,Nat.reduceLT,h1,h2,enc_int,Tm.head,hy,hyl,enc_Symbol,r4,ok.2,hy',hyt,enc_list,hz0,Int.toNat_zero,h0l,Int.lt_irrefl,Int.ofNat_zero,Int.natCast_zero];simp only[Tm.eval,Int.toNat_natCast,getD_of hy',getD_of h0]
 |u n x ihx=>
  intro r e he ok hs hl;obtain⟨h1,h2,h3⟩:=at_head he;obtain⟨y,rfl,hy,hy',r1,r2,r3,r4⟩:=row_at al ok.1 hs.1;have hyl:l[y]?=some l[y]:=List.getElem?_eq_getElem hy;have hyt:tb[y]?=some tb[y]:=List.getElem?_eq_getElem hy';rw[ok.2.1,Nat.pow_one]at r1;have hn:¬((y:Int)<0):=by omega
  obtain⟨i1,i2⟩:=Tm.eval_range al hv hr ok.2.2 hs.2 hl;obtain⟨q,hq⟩:∃q:Nat,x.eval z tb vs=q:=⟨(x.eval z tb vs).toNat,by omega⟩;have hz:=al.size;have h0:q<tb[y].length:=by omega
  have h0l:tb[y][q]?=some tb[y][q]:=List.getElem?_eq_getElem h0;have he1:t.drop (e+1)=x.flat++r:=at_next (q:=[(y:Int)]) (by simpa[Tm.flat]using he);have c1:=ihx r (e+1) he1 ok.2.2 hs.2 hl;have d1:=ends x r (e+1) he1 ok.2.2;refine call_of rfl 4 ((spec_l10Eval.ev _ _ _ _ _ _ _).trans ?_);simp only[evz,Nat.reduceLT,h1,h2,enc_int,Tm.head,hn];rw[wrap_succ (by omega)];refine(spec_l10Eval.next0 4 3 _).trans ((spec_l10Eval.round0 _ _ _ _ _ _ _ _ _ _ _).trans ?_);simp only[evz,Nat.reduceLT,h1,h2,enc_int,Tm.head,hy,hyl,enc_Symbol,r4,ok.2.1,c1.eq,d1.eq,hq,show((1:Nat):Int)=1 from rfl,show((2:Nat):Int)=2 from rfl,Int.reduceLT,Int.reduceAdd,wrap64 (x:=0*z) (by omega),wrap64 (x:=0*z+(q:Int)) (by omega),wrap64 (x:=(1:Int)) (by omega)];refine(spec_l10Eval.next0 4 2 _).trans ((spec_l10Eval.round0 _ _ _ _ _ _ _ _ _ _ _).trans ?_);simp only[evz,Nat.reduceLT,h1,h2,enc_int,Tm.head,hy,hyl,enc_Symbol,r4,ok.2.1,show((1:Nat):Int)=1 from rfl,show((2:Nat):Int)=2 from rfl,Int.reduceLT,Int.reduceAdd,Int.zero_mul,Int.zero_add,hy',hyt,enc_list,h0,h0l];simp only[Tm.eval,hq,Int.toNat_natCast,getD_of hy',getD_of h0]
 |b n x w ihx ihw=>
  intro r e he ok hs hl;obtain⟨h1,h2,h3⟩:=at_head he;obtain⟨y,rfl,hy,hy',r1,r2,r3,r4⟩:=row_at al ok.1 hs.1;have hyl:l[y]?=some l[y]:=List.getElem?_eq_getElem hy;have hyt:tb[y]?=some tb[y]:=List.getElem?_eq_getElem hy';rw[ok.2.1]at r1;have hn:¬((y:Int)<0):=by omega
  obtain⟨i1,i2⟩:=Tm.eval_range al hv hr ok.2.2.1 hs.2.1 hl.1;obtain⟨j1,j2⟩:=Tm.eval_range al hv hr ok.2.2.2 hs.2.2 hl.2;obtain⟨q,hq⟩:∃q:Nat,x.eval z tb vs=q:=⟨(x.eval z tb vs).toNat,by omega⟩;obtain⟨p,hp⟩:∃p:Nat,w.eval z tb vs=p:=⟨(w.eval z tb vs).toNat,by omega⟩;obtain⟨zn,hzn⟩:∃zn:Nat,z=zn:=⟨z.toNat,by have:=al.size;omega⟩;have hz:=al.size
  have h0:q*zn+p<tb[y].length:=by
   rw[r1];have:zn=1\/zn=2\/zn=3:=by omega
   rcases this with h|h|h <;> subst h <;> subst hzn <;> simp <;> omega
  have hb:q*zn<=6:=by
   have h4:q<=2:=by omega
   have h5:zn<=3:=by omega
   exact Nat.mul_le_mul h4 h5
  have h0l:tb[y][q*zn+p]?=some tb[y][q*zn+p]:=List.getElem?_eq_getElem h0;have he1:t.drop (e+1)=x.flat++(w.flat++r):=at_next (q:=[(y:Int)]) (by simpa[Tm.flat]using he);have he2:t.drop (e+1+x.flat.length)=w.flat++r:=at_next he1;have c1:=ihx _ (e+1) he1 ok.2.2.1 hs.2.1 hl.1;have d1:=ends x _ (e+1) he1 ok.2.2.1;have c2:=ihw _ _ he2 ok.2.2.2 hs.2.2 hl.2;have d2:=ends w _ _ he2 ok.2.2.2;refine call_of rfl 4 ((spec_l10Eval.ev _ _ _ _ _ _ _).trans ?_);simp only[evz,Nat.reduceLT,h1,h2,enc_int,Tm.head,hn];rw[wrap_succ (by omega)];refine(spec_l10Eval.next0 4 3 _).trans ((spec_l10Eval.round0 _ _ _ _ _ _ _ _ _ _ _).trans ?_);simp only[evz,Nat.reduceLT,h1,h2,enc_int,Tm.head,hy,hyl,enc_Symbol,r4,ok.2.1,c1.eq,d1.eq,hq,show((1:Nat):Int)=1 from rfl,show((2:Nat):Int)=2 from rfl,Int.reduceLT,Int.reduceAdd,wrap64 (x:=0*z) (by omega),wrap64 (x:=0*z+(q:Int)) (by omega),wrap64 (x:=(1:Int)) (by omega)];refine(spec_l10Eval.next0 4 2 _).trans ((spec_l10Eval.round0 _ _ _ _ _ _ _ _ _ _ _).trans ?_);have hm:((q:Int)*z)=((q*zn:Nat):Int):=by rw[hzn];simp
  simp only[evz,Nat.reduceLT,h1,h2,enc_int,Tm.head,hy,hyl,enc_Symbol,r4,ok.2.1,c2.eq,d2.eq,hp,show((1:Nat):Int)=1 from rfl,show((2:Nat):Int)=2 from rfl,Int.reduceLT,Int.reduceAdd,Int.zero_mul,Int.zero_add,hm,wrap64 (x:=((q*zn:Nat):Int)) (by omega),wrap64 (x:=((q*zn:Nat):Int)+(p:Int)) (by omega),wrap64 (x:=(2:Int)) (by omega)];refine(spec_l10Eval.next0 4 1 _).trans ((spec_l10Eval.round0 _ _ _ _ _ _ _ _ _ _ _).trans ?_);have hc:((q*zn:Nat):Int)+(p:Int)=((q*zn+p:Nat):Int):=by omega
  simp only[evz,Nat.reduceLT,h1,h2,enc_int,Tm.head,hy,hyl,enc_Symbol,r4,ok.2.1,show((1:Nat):Int)=1 from rfl,show((2:Nat):Int)=2 from rfl,Int.reduceLT,Int.reduceAdd,hc,hy',hyt,enc_list,h0,h0l];simp only[Tm.eval,hq,hp,hm,hc,Int.toNat_natCast,getD_of hy',getD_of h0]
end
theorem cmp_Or_int64(l:List Int)(hl:l.length<=4294967296):Call F.cmp_Or_int64 [slc l] (.int .i64 ((l.find? fun n=>decide (n≠0)).getD 0)):=by
 refine call_of rfl (l.length+1) ((cmp_Or_int64.ev _ _).trans ?_)
 have:=scan_loop (l:=l) (g:=fun n=>if n≠0 then some (some (.int .i64 n,[]))else none) (z:=some (.int .i64 0,[])) (S:=fun m k=>cmp_Or_int64.at0 (l.length+1) m (cmp_Or_int64.st0 0 (cells l) l.length (k:Nat)))
  (fun m k h=>by
   have hlk:l[k]?=some l[k]:=List.getElem?_eq_getElem h;simp only[cmp_Or_int64.next0,cmp_Or_int64.round0,evz,Nat.reduceLT,h,hlk,enc_int];rw[wrap_succ (by omega)];by_cases e:l[k]=0 <;> simp[e])
  (fun m=>by simp only[cmp_Or_int64.next0,cmp_Or_int64.round0,evz,Nat.reduceLT,Nat.lt_irrefl]) (Nat.lt_succ_self _)
 simp only[cells_div,sz_int];refine this.trans ?_;clear this;induction l with
 |nil=>rfl
 |cons x l ih=>
  rw[List.findSome?_cons,List.find?_cons];by_cases e:x=0
  ·simpa[e]using ih (by simp at hl;omega)
  ·simp[e]
theorem impl_firstCode2(a b:Int):Call F.impl_firstCode [.sl 1 [.int .i64 a,.int .i64 b]] (.int .i64 (if a=0 then b else a)):=by
 refine call_of rfl 0 ((impl_firstCode.ev _ _).trans ?_);have:=cmp_Or_int64 [a,b] (by simp);simp only[evz,Nat.reduceLT,show LIM F.cmp_Or_int64 [.sl 1 [.int .i64 a,.int .i64 b]]=_ from this];by_cases h:a=0
 ·by_cases h':b=0 <;> simp[h,h']
 ·simp[h]
theorem slices_Min_Sint64(t:List Int)(h0:0<t.length)(hl:t.length<=4294967296):∃r,Call F.slices_Min_Sint64 [slc t] (.int .i64 r)/\∀c,r<c<->∃n∈t,n<c:=by
 have loop:∀m k (x:Int),k<=t.length->t.length<m+k->∃r,slices_Min_Sint64.at0 (t.length+1) m (slices_Min_Sint64.st0 (cells t) x (k:Nat))=some (.int .i64 r,[])/\∀c,r<c<->x<c\/∃n∈t.drop k,n<c:=by
  intro m;induction m with
  |zero=>intros;omega
  |succ m ih=>
   intro k x hk hm;by_cases h:k<t.length
   ·have hlk:t[k]?=some t[k]:=List.getElem?_eq_getElem h;obtain⟨r,hr,hc⟩:=ih (k+1) (min x t[k]) (by omega) (by omega);refine⟨r,?_,fun c=>?_⟩
    ·simp only[slices_Min_Sint64.next0,slices_Min_Sint64.round0,evz,Nat.reduceLT,h,hlk,enc_int];rw[wrap_succ (by omega)];exact hr
    ·rw[hc,List.drop_eq_getElem_cons h];simp only[List.mem_cons,exists_eq_or_imp];rw[<- or_assoc];have:min x t[k]<c<->x<c\/t[k]<c:=by omega
     rw[this]
   ·obtain rfl:k=t.length:=by omega
    refine⟨x,?_,fun c=>?_⟩
    ·simp only[slices_Min_Sint64.next0,slices_Min_Sint64.round0,evz,Nat.reduceLT,Nat.lt_irrefl]
    ·rw[List.drop_of_length_le (Nat.le_refl _)];simp
 obtain⟨r,hr,hc⟩:=loop (t.length+1) 1 t[0] (by omega) (by omega);refine⟨r,call_of rfl (t.length+1) ((slices_Min_Sint64.ev _ _).trans ?_),fun c=>?_⟩
 ·have h1:¬((t.length:Int)<1):=by omega
  have hlk:t[0]?=some t[0]:=List.getElem?_eq_getElem h0
  have hg:(cells t)[0]?=some (.int .i64 t[0]):=by
   have:=get0 (l:=t) (k:=1) (i:=0) rfl;rw[Nat.zero_mul,hlk]at this;exact this
  have hz0:inB 0 t.length=true:=by rw[show(0:Int)=((0:Nat):Int)from rfl,inB_nat];simpa using h0
  simp only[evz,Nat.reduceLT,h1,hz0,hg];exact hr
 ·rw[hc];have:t=t[0]::t.drop 1:=by rw[<- List.drop_eq_getElem_cons h0,List.drop_zero]
  constructor
  ·rintro(h|⟨n,hn,h⟩)
   ·exact⟨t[0],List.getElem_mem h0,h⟩
   ·exact⟨n,List.mem_of_mem_drop hn,h⟩
  ·rintro⟨n,hn,h⟩;rw[this]at hn;rcases List.mem_cons.1 hn with rfl|hn
   ·exact .inl h
   ·exact .inr ⟨n,hn,h⟩
theorem spec_l4Low(t:List Int)(hl:t.length<=4294967296):Call F.spec_l4Low [slc t] (.bool (!t.any fun n=>decide (n < -6))):=by
 refine call_of rfl (t.length+1) ((spec_l4Low.ev _ _).trans ?_);refine(any_loopL (l:=t) (p:=fun n=>decide (n < -6)) (r:=some (.bool false,[])) (z:=some (.bool true,[])) (S:=fun m k=>spec_l4Low.at0 (t.length+1) m (spec_l4Low.st0 (cells t) (k:Nat))) (fun m k h=>?_) (fun m=>?_) (Nat.lt_succ_self _)).trans ?_
 ·have hlk:t[k]?=some t[k]:=List.getElem?_eq_getElem h;simp only[spec_l4Low.next0,spec_l4Low.round0,evz,Nat.reduceLT,h,hlk,enc_int];rw[wrap_succ (by omega)];simp only[decide_eq_true_eq]
 ·simp only[spec_l4Low.next0,spec_l4Low.round0,evz,Nat.reduceLT,Nat.lt_irrefl]
 ·cases t.any fun n=>decide (n < -6) <;> rfl
open Classical in
noncomputable def treeOf(l:List Symbol)(t:List Int):Tm:=if h:∃x:Tm,x.ok (ar l)/\t=x.flat then h.choose else .k 0
theorem treeOf_spec{l:List Symbol}{t:List Int}(ok:SigOk ⟨l⟩)(h:TermOk l t):(treeOf l t).ok (ar l)/\t=(treeOf l t).flat:=by
 have:=h.tree ok;unfold treeOf;rw[dif_pos this];exact this.choose_spec
def valuesOk(z:Int)(vs:List Int):Bool := !vs.any fun n=>!inR n 0 (z-1)
noncomputable def evalTerm(s:Signature)(a:Algebra)(vs t:List Int):IntResult:=
 if algFault s a≠0 then⟨algFault s a,0⟩
 else if termFault0 s.symbols t≠0 then⟨termFault0 s.symbols t,0⟩
 else if vs.length≠6 then⟨2,0⟩
 else if valuesOk a.size vs=false then⟨3,0⟩
 else if t.any (fun n=>decide (n < -6))then⟨3,0⟩
 else⟨0,(treeOf s.symbols t).eval a.size a.tables vs⟩
theorem algFault_sig{s:Signature}{a:Algebra}(h:algFault s a=0):sigFault s=0:=by
 unfold algFault at h;by_cases h1:sigFault s=0
 ·exact h1
 ·rw[if_pos h1]at h;exact absurd h h1
theorem valuesOk_iff{z:Int}{vs:List Int}:valuesOk z vs=true<->∀n∈vs,0<=n/\n<=z-1:=by
 unfold valuesOk;rw[Bool.not_eq_true',List.any_eq_false];constructor
 ·intro h n hn;have:=h n hn;exact inR_iff.1 (by simpa using this)
 ·intro h n hn;simpa using inR_iff.2 (h n hn)
theorem slices_ContainsFunc_Sint64_at1_impl_EvalTerm_1(l:List Int)(hs:l.length<=4294967296)(z:Int)(t:List (List Int))(hz:1<=z/\z<=3) :
 Call F.slices_ContainsFunc_Sint64 [slc l,.clo F.impl_EvalTerm_1 [.rref [.int .i64 z,slc t] 0]] (.bool (!valuesOk z l)):=by
 have hi:Call F.slices_IndexFunc_Sint64 [slc l,.clo F.impl_EvalTerm_1 [.rref [.int .i64 z,slc t] 0]] (.int .i64 (idx (fun n=>!inR n 0 (z-1)) l)):=by
  refine call_of rfl (l.length+1) ((slices_IndexFunc_Sint64_at1_impl_EvalTerm_1.ev _ _ _ _).trans ?_);refine idx_loop (S:=fun m k=>slices_IndexFunc_Sint64_at1_impl_EvalTerm_1.at0 (l.length+1) m (slices_IndexFunc_Sint64_at1_impl_EvalTerm_1.st0 (cells l) z _ _ (k:Nat))) (fun m k h=>?_) (fun m=>?_) (Nat.lt_succ_self _)
  ·have hlk:l[k]?=some l[k]:=List.getElem?_eq_getElem h
   have hc:Call F.impl_EvalTerm_1 [.int .i64 l[k],.rref [.int .i64 z,slc t] 0] (.bool (!inR l[k] 0 (z-1))):=by
    refine call_of rfl 0 ((impl_EvalTerm_1.ev _ _ _ _).trans ?_);simp only[evz,Nat.reduceLT,wrap64 (x:=z-1) (by omega),(impl_within _ _ _).eq]
   simp only[slices_IndexFunc_Sint64_at1_impl_EvalTerm_1.next0,slices_IndexFunc_Sint64_at1_impl_EvalTerm_1.round0,evz,Nat.reduceLT,h,hlk,enc_int,hc.eq];rw[wrap_succ (by omega)];cases inR l[k] 0 (z-1) <;> rfl
  ·simp only[slices_IndexFunc_Sint64_at1_impl_EvalTerm_1.next0,slices_IndexFunc_Sint64_at1_impl_EvalTerm_1.round0,evz,Nat.reduceLT,Nat.lt_irrefl]
 refine call_of rfl 0 ((slices_ContainsFunc_Sint64_at1_impl_EvalTerm_1.ev _ _ _ _).trans ?_);simp only[evz,Nat.reduceLT,hi.eq,idx_nonneg,valuesOk,Bool.not_not]
section
variable (l:List Symbol)(z:Int)(tb:List (List Int))(vs t:List Int)(hs:l.length<=4294967296)(ht:sm 4294967296 tb)(hl:t.length<=4294967296)
include hs ht hl
theorem impl_EvalTerm(hv:vs.length<=4294967296):Call F.impl_EvalTerm [.agg [slc l],.agg [.int .i64 z,slc tb],slc vs,slc t] (.agg (enc (evalTerm ⟨l⟩ ⟨z,tb⟩ vs t))):=by
 refine call_of rfl 0 ((impl_EvalTerm.ev _ _ _ _ _ _).trans ?_);simp only[evz,Nat.reduceLT,(impl_AlgebraFault l z tb hs ht).eq,(impl_TermFault l hs t hl).eq,(impl_firstCode2 _ _).eq,evalTerm];by_cases h1:algFault ⟨l⟩ ⟨z,tb⟩=0
 case neg=>simp only[h1,evz,Nat.reduceLT,ne_eq,not_false_eq_true,enc_IntResult]
 have al:=algOk h1;have ht0:termFault ⟨l⟩ t=termFault0 l t:=by unfold termFault;rw[if_neg (by simpa using algFault_sig h1)]
 rw[ht0];simp only[h1,evz,Nat.reduceLT,ne_eq,not_true_eq_false];by_cases h2:termFault0 l t=0
 case neg=>simp only[h2,evz,Nat.reduceLT,not_false_eq_true,enc_IntResult]
 have to:=(termOk_iff l t).1 h2;have htp:=to.pos;simp only[h2,evz,Nat.reduceLT,not_true_eq_false];by_cases h3:vs.length=6
 case neg=>
  have:¬((vs.length:Int)=6):=by omega
  simp only[h3,this,evz,Nat.reduceLT,not_false_eq_true,enc_IntResult]
 have h3':(vs.length:Int)=6:=by omega
 rw[if_pos h3',if_neg (show ¬ ¬ vs.length=6 from fun h=>h h3)];simp only[evz,Nat.reduceLT,(slices_ContainsFunc_Sint64_at1_impl_EvalTerm_1 vs hv z tb al.size).eq];by_cases h4:valuesOk z vs=true
 case neg=>
  have:valuesOk z vs=false:=by simpa using h4
  simp only[this,evz,Nat.reduceLT,Bool.not_false,enc_IntResult]
 obtain⟨r,hr,hc⟩:=slices_Min_Sint64 t (by omega) hl;simp only[h4,evz,Nat.reduceLT,Bool.not_true,Bool.true_eq_false,hr.eq,hc];by_cases h5:t.any (fun n=>decide (n < -6))=true
 ·have:∃n∈t,n < -6:=by simpa[List.any_eq_true]using h5
  simp only[h5,this,evz,Nat.reduceLT,enc_IntResult]
 ·have:¬ ∃n∈t,n < -6:=by simpa[List.any_eq_true]using h5
  obtain⟨o1,o2⟩:=treeOf_spec al.sig to
  have hlow:(treeOf l t).low 6:=Tm.low_of fun n hn=>by
   rw[<- o2]at hn;apply Classical.byContradiction;intro h;exact this ⟨n,hn,by omega⟩
  have hsy:(treeOf l t).syms l.length:=Tm.syms_of o1 fun n hn=>to.node n (by rw[o2];exact hn);have he:=impl_Algebra_evalAt al h3 (valuesOk_iff.1 h4) hl (treeOf l t) [] 0 (by rw[List.drop_zero,List.append_nil];exact o2) o1 hsy hlow
  have hev:Call F.impl_Algebra_eval [.agg [.int .i64 z,slc tb],.agg [slc l],slc vs,slc t] (.int .i64 ((treeOf l t).eval z tb vs)):=by
   refine call_of rfl 0 ((impl_Algebra_eval.ev _ _ _ _ _ _).trans ?_);simp only[evz,Nat.reduceLT,show LIM F.impl_Algebra_evalAt [.agg [.int .i64 z,slc tb],.agg [slc l],slc vs,slc t,.int .i64 0]=_ from he]
  simp only[h5,this,evz,Nat.reduceLT,Bool.false_eq_true,hev.eq,enc_IntResult]
theorem spec_EvalTerm:Call F.spec_EvalTerm [.agg [slc l],.agg [.int .i64 z,slc tb],slc vs,slc t] (.agg (enc (evalTerm ⟨l⟩ ⟨z,tb⟩ vs t))):=by
 refine call_of rfl (vs.length+1) ((spec_EvalTerm.ev _ _ _ _ _ _).trans ?_);simp only[evz,Nat.reduceLT,(spec_AlgebraFault l z tb hs ht).eq,evalTerm];by_cases h1:algFault ⟨l⟩ ⟨z,tb⟩=0
 case neg=>simp only[h1,evz,Nat.reduceLT,ne_eq,not_false_eq_true,enc_IntResult]
 have al:=algOk h1;simp only[h1,evz,Nat.reduceLT,ne_eq,not_true_eq_false,(spec_l3Fault l al.sig t hl).eq];by_cases h2:termFault0 l t=0
 case neg=>simp only[h2,evz,Nat.reduceLT,not_false_eq_true,enc_IntResult]
 have to:=(termOk_iff l t).1 h2;simp only[h2,evz,Nat.reduceLT,not_true_eq_false];by_cases h3:vs.length=6
 case neg=>
  have:¬((vs.length:Int)=6):=by omega
  simp only[h3,this,evz,Nat.reduceLT,not_false_eq_true,enc_IntResult]
 have h3':(vs.length:Int)=6:=by omega
 have hz:=al.size
 have step:∀m k (h:k<vs.length),spec_EvalTerm.at0 (vs.length+1) (m+1) (spec_EvalTerm.st0 (cells vs) (cells t) (k:Nat) (cells l) z (cells tb) 0 0)=
  if(fun n=>!inR n 0 (z-1)) vs[k]=true then some (.agg [.int .i64 3,.int .i64 0],[])else spec_EvalTerm.at0 (vs.length+1) m (spec_EvalTerm.st0 (cells vs) (cells t) ((k+1:Nat):Int) (cells l) z (cells tb) 0 0):=fun m k h=>by
  have hlk:vs[k]?=some vs[k]:=List.getElem?_eq_getElem h;simp only[spec_EvalTerm.next0,spec_EvalTerm.round0,evz,Nat.reduceLT,h,hlk,enc_int,wrap64 (x:=z-1) (by omega),(spec_l1In _ _ _).eq];rw[wrap_succ (by omega)];by_cases hb:inR vs[k] 0 (z-1)=true <;> simp[hb]
 rw[if_pos h3',if_neg (show ¬ ¬ vs.length=6 from fun h=>h h3)];by_cases h4:valuesOk z vs=true
 case neg=>
  have h4':valuesOk z vs=false:=by simpa using h4
  refine(hit_loop (p:=fun n=>!inR n 0 (z-1)) (r:=some (.agg [.int .i64 3,.int .i64 0],[])) (S:=fun m k=>spec_EvalTerm.at0 (vs.length+1) m (spec_EvalTerm.st0 (cells vs) (cells t) (k:Nat) (cells l) z (cells tb) 0 0)) step ?_ (Nat.lt_succ_self _)).trans ?_
  ·unfold valuesOk at h4';simpa using h4'
  ·simp only[h4',evz,Nat.reduceLT,enc_IntResult]
 have hval:Call F.spec_l4Low [slc t] (.bool (!t.any fun n=>decide (n < -6))):=spec_l4Low t hl
 have fin:∀m,spec_EvalTerm.at0 (vs.length+1) (m+1) (spec_EvalTerm.st0 (cells vs) (cells t) vs.length (cells l) z (cells tb) 0 0)=
  some (.agg (enc (if t.any (fun n=>decide (n < -6))then(⟨3,0⟩:IntResult)else⟨0,(treeOf l t).eval z tb vs⟩)),[]):=fun m=>by
  simp only[spec_EvalTerm.next0,spec_EvalTerm.round0,evz,Nat.reduceLT,Nat.lt_irrefl,hval.eq];by_cases h5:t.any (fun n=>decide (n < -6))=true
  ·simp only[h5,evz,Nat.reduceLT,Bool.not_true,enc_IntResult]
  ·have h5':(t.any fun n=>decide (n < -6))=false:=by simpa using h5
   have:¬ ∃n∈t,n < -6:=by simpa[List.any_eq_true]using h5
   obtain⟨o1,o2⟩:=treeOf_spec al.sig to
   have hlow:(treeOf l t).low 6:=Tm.low_of fun n hn=>by
    rw[<- o2]at hn;apply Classical.byContradiction;intro h;exact this ⟨n,hn,by omega⟩
   have hsy:(treeOf l t).syms l.length:=Tm.syms_of o1 fun n hn=>to.node n (by rw[o2];exact hn);have he:=spec_l10Eval al h3 (valuesOk_iff.1 h4) to.node hl (treeOf l t) [] 0 (by rw[List.drop_zero,List.append_nil];exact o2) o1 hsy hlow;simp only[h5',evz,Nat.reduceLT,Bool.not_false,Bool.false_eq_true,show LIM F.spec_l10Eval [.rref [slc l] 0,.rref [.int .i64 z,slc tb] 0,slc vs,slc t,.int .i64 0]=_ from he,enc_IntResult]
 refine(any_loopL (p:=fun n=>!inR n 0 (z-1)) (r:=some (.agg [.int .i64 3,.int .i64 0],[])) (S:=fun m k=>spec_EvalTerm.at0 (vs.length+1) m (spec_EvalTerm.st0 (cells vs) (cells t) (k:Nat) (cells l) z (cells tb) 0 0)) step fin (Nat.lt_succ_self _)).trans ?_;have h4':=h4;unfold valuesOk at h4';rw[if_neg (by simpa using h4')];simp only[h4,evz,Nat.reduceLT,Bool.true_eq_false]
end
theorem draws_range{z:Int}(hz:1<=z):∀(n:Nat)(s:Int)(t:List Int),(∀y∈t,0<=y/\y<=z-1)->∀y∈(draws z n s t).2,0<=y/\y<=z-1
 |0,s,t,h=>h
 |n+1,s,t,h=>draws_range hz n (lcg s) (t++[lcg s % z]) fun y hy=>by
  rcases List.mem_append.1 hy with hy|hy
  ·exact h y hy
  ·rw[List.mem_singleton.1 hy];have h1:=Int.emod_nonneg (lcg s) (show z≠0 by omega);have h2:=Int.emod_lt_of_pos (lcg s) (show 0<z by omega);omega
theorem tabs_ok{z:Nat}(hz:1<=z):∀(xs ds:List Symbol)(seed:Int)(tb:List (List Int)),0<=seed/\seed<=65520->ds.length=tb.length->(∀x∈ds.zip tb,tableFault z x=none)->
 (xs.foldl (tabStep z) (seed,tb)).2.length=(ds++xs).length/\∀x∈(ds++xs).zip (xs.foldl (tabStep z) (seed,tb)).2,tableFault z x=none
 |[],ds,seed,tb,h1,h2,h3=>by rw[List.append_nil];exact⟨h2.symm,h3⟩
 |x::xs,ds,seed,tb,h1,h2,h3=>by
  have hd:=draws_in z (z ^ x.arity.toNat) seed [] h1;have hr:=draws_range (z:=(z:Int)) (by omega) (z ^ x.arity.toNat) seed [] (by simp)
  have ih:=tabs_ok hz xs (ds++[x]) (draws z (z ^ x.arity.toNat) seed []).1 (tb++[(draws z (z ^ x.arity.toNat) seed []).2]) hd.1 (by simp[h2]) (fun y hy=>by
   rw[List.zip_append h2]at hy;rcases List.mem_append.1 hy with hy|hy
   ·exact h3 y hy
   ·have hy:y=(x,(draws z (z ^ x.arity.toNat) seed []).2):=List.mem_singleton.1 hy;subst hy;unfold tableFault;rw[if_neg (by simp[hd.2]),if_neg];rw[Bool.not_eq_true,List.any_eq_false];intro n hn;have:=hr n hn;unfold inR;simp;omega)
  rw[List.append_assoc]at ih;exact ih
theorem algebraOf_ok{s:Signature}{z seed:Int}(h0:sigFault s=0)(hz:1<=z/\z<=3)(hs:0<=seed/\seed<=65520):(algebraOfR s z seed).code=0/\(algebraOfR s z seed).algebra.size=z/\algFault s (algebraOfR s z seed).algebra=0:=by
 have i1:inR z 1 3=true:=by unfold inR;simp;omega
 have i2:inR seed 0 65520=true:=by unfold inR;simp;omega
 unfold algebraOfR;rw[if_pos h0,if_pos ⟨i1,i2⟩];refine⟨rfl,rfl,?_⟩;obtain⟨k,rfl⟩:∃k:Nat,z=k:=⟨z.toNat,by omega⟩;obtain⟨t1,t2⟩:=tabs_ok (z:=k) (by omega) s.symbols [] seed [] hs rfl (by simp);unfold algFault;rw[if_neg (by simpa using h0),Int.toNat_natCast];simp only[List.nil_append]at t1 t2;rw[if_neg (by rw[i1];decide),if_neg (by simpa using t1),List.findSome?_eq_none_iff.2 t2]
theorem evalTerm_ok{l:List Symbol}{z:Int}{tb:List (List Int)}{vs t:List Int}(ha:algFault ⟨l⟩ ⟨z,tb⟩=0)(tt:TermOk l t)(h6:vs.length=6)(hv:valuesOk z vs=true)(hlow:∀n∈t,-6<=n):evalTerm ⟨l⟩ ⟨z,tb⟩ vs t=⟨0,(treeOf l t).eval z tb vs⟩:=by
 unfold evalTerm
 have hl:¬(t.any fun n=>decide (n < -6))=true:=by
  rw[Bool.not_eq_true,List.any_eq_false];intro n hn;have:=hlow n hn;simp only[decide_eq_true_eq];omega
 rw[if_neg (by simpa using ha),if_neg (by simpa using(termOk_iff l t).2 tt),if_neg (by simpa using h6),if_neg (by simpa using hv),if_neg hl]
theorem intsT_cells:∀l:List Int,intsT l=cells l
 |[]=>rfl
 |x::l=>by rw[cells_cons,<- intsT_cells l];rfl
def sorted(l:List Int):List Int:=l.mergeSort fun x y=>decide (x<=y)
theorem slices_Sort_Sint64(l:List Int)(h:l.length<=4294967296):LIM F.slices_Sort_Sint64 [slc l]=some (.tup [],[slc (sorted l)]):=by
 refine lim_ext (e:=sortE) rfl (Ev.of fun m=>?_);show((intsOf (cells l)).bind fun zs=>bif decide (zs.length<4611686018427387904)then some (T.tup [],[T.sl 1 (intsT (zs.mergeSort fun x y=>decide (x<=y)))])else none)=_;rw[<- intsT_cells,intsOf_intsT,Option.bind_some,decide_eq_true (by omega),cond_true,intsT_cells];rfl
theorem slices_Compact_Sint64(l:List Int)(h:l.length<=4294967296):Call F.slices_Compact_Sint64 [slc l] (slc (Lib.compact l)):=by
 refine lim_ext (e:=compactE) rfl (Ev.of fun m=>?_);show((intsOf (cells l)).bind fun zs=>bif decide (zs.length<4611686018427387904)then some (T.sl 1 (intsT (Lib.compact zs)),[])else none)=_;rw[<- intsT_cells,intsOf_intsT,Option.bind_some,decide_eq_true (by omega),cond_true,intsT_cells];rfl
theorem mem_compact{l:List Int}{x:Int}:x∈Lib.compact l<->x∈l:=by
 unfold Lib.compact Lib.compactUpTo;simp only[List.mem_map,List.mem_filter,List.mem_range];constructor
 ·rintro⟨j,⟨hj,_⟩,rfl⟩;rw[getElem!_pos _ j (by simpa using hj)];simp
 ·intro h;obtain⟨i,hi,rfl⟩:=List.mem_iff_getElem.1 h
  have:∀j,(hj:j<l.length)->∃k,(k<l.length/\Lib.keeps l.toArray k=true)/\l.toArray[k]! = l[j]:=by
   intro j;induction j with
   |zero=>intro hj;exact⟨0,⟨hj,by simp[Lib.keeps]⟩,by simp[hj]⟩
   |succ j ih=>
    intro hj;by_cases e:l[j+1]=l[j]
    ·obtain⟨k,hk,he⟩:=ih (by omega);exact⟨k,hk,by rw[he,e]⟩
    ·refine⟨j+1,⟨hj,?_⟩,by simp[hj]⟩;have hj':j<l.length:=by omega
     simp[Lib.keeps,hj,hj',e]
  exact this i hi
theorem compact_length(l:List Int):(Lib.compact l).length<=l.length:=compact_len l
def vars(t:List Int):List Int:=(t.filter fun n=>decide (n<0)).map fun n => -1-n
theorem mem_vars{t:List Int}{v:Int}:v∈vars t<->0<=v/\(-1-v)∈t:=by
 unfold vars;simp only[List.mem_map,List.mem_filter,decide_eq_true_eq];constructor
 ·rintro⟨n,⟨hn,h0⟩,rfl⟩;exact⟨by omega,by rw[show -1-(-1-n)=n by omega];exact hn⟩
 ·rintro⟨h0,h⟩;exact⟨-1-v,⟨h,by omega⟩,by omega⟩
theorem vars_length(t:List Int):(vars t).length<=t.length:=by
 unfold vars;rw[List.length_map];exact List.length_filter_le _ _
def varsOf(l:List (List Int)):List Int:=Lib.compact (sorted (l.flatMap vars))
theorem mem_varsOf{l:List (List Int)}{v:Int}:v∈varsOf l<->0<=v/\∃t∈l,(-1-v)∈t:=by
 unfold varsOf sorted;rw[mem_compact,List.mem_mergeSort,List.mem_flatMap];constructor
 ·rintro⟨t,ht,h⟩;obtain⟨h0,h1⟩:=mem_vars.1 h;exact⟨h0,t,ht,h1⟩
 ·rintro⟨h0,t,ht,h1⟩;exact⟨t,ht,mem_vars.2 ⟨h0,h1⟩⟩
theorem flat_vars_length:∀l:List (List Int),(l.flatMap vars).length<=(l.map List.length).sum
 |[]=>by simp
 |t::l=>by
  rw[List.flatMap_cons,List.length_append,List.map_cons,List.sum_cons];have:=vars_length t;have:=flat_vars_length l;omega
theorem varsOf_length(l:List (List Int)):(varsOf l).length<=(l.map List.length).sum:=by
 unfold varsOf;refine Nat.le_trans (compact_length _) ?_;unfold sorted;rw[List.length_mergeSort];exact flat_vars_length l
theorem impl_varsOf(l:List (List Int))(hl:l.length<=24)(ht:∀t∈l,t.length<=4294967296/\∀n∈t,-12<=n)(hsum:(l.map List.length).sum<=4294967296):Call F.impl_varsOf [slc l] (slc (varsOf l)):=by
 obtain⟨N,hN⟩:∃N,N=4294967297:=⟨_,rfl⟩
 have inner:∀(L0:St->R)(x0:List T)(x1 x2:Int)(t:List Int),(∀n∈t,-12<=n)->∀m k (acc:List Int),k<=t.length->t.length<m+k->acc.length+t.length<=k+4294967296->t.length<=4294967296->
  impl_varsOf.at2 N L0 m (impl_varsOf.st2 x0 x1 x2 (cells t) t.length (k:Nat) (cells acc))=L0 (impl_varsOf.st0 x0 x1 (IntKind.wrap .i64 (x2+1)) (cells (acc++vars (t.drop k)))):=by
  intro L0 x0 x1 x2 t hn m;induction m with
  |zero=>intros;omega
  |succ m ih=>
   intro k acc hk hm hacc htl;by_cases h:k<t.length
   ·have hlk:t[k]?=some t[k]:=List.getElem?_eq_getElem h;simp only[impl_varsOf.next2,impl_varsOf.round2,evz,Nat.reduceLT,h,hlk,enc_int];rw[wrap_succ (by omega),List.drop_eq_getElem_cons h];have hge:=hn t[k] (List.getElem_mem h);by_cases h0:t[k]<0
    ·have hble:Nat.ble (((cells acc).length+1)*8) (140737488355328*1)=true:=by
      rw[Nat.ble_eq,cells_length,sz_int];omega
     rw[wrap64 (by omega),cells_snoc_int,hble,ih (k+1) (acc++[-1-t[k]]) (by omega) (by omega) (by rw[List.length_append];simp;omega) htl];simp only[h0,evz,Nat.reduceLT,vars,List.filter_cons,List.map_cons,List.append_assoc,List.singleton_append]
    ·rw[ih (k+1) acc (by omega) (by omega) (by omega) htl];simp only[h0,evz,Nat.reduceLT,vars,List.filter_cons,Bool.false_eq_true]
   ·obtain rfl:k=t.length:=by omega
    simp only[impl_varsOf.next2,impl_varsOf.round2,evz,Nat.reduceLT,Nat.lt_irrefl,List.drop_length,vars,List.filter_nil,List.map_nil,List.append_nil]
 have outer:∀m k (acc:List Int),k<=l.length->l.length<m+k->acc.length+((l.drop k).map List.length).sum<=4294967296->
  impl_varsOf.at0 N m (impl_varsOf.st0 (cells l) l.length (k:Nat) (cells acc))=some (slc (Lib.compact (sorted (acc++(l.drop k).flatMap vars))),[]):=by
  intro m;induction m with
  |zero=>intros;omega
  |succ m ih=>
   intro k acc hk hm hacc;by_cases h:k<l.length
   ·have hlk:l[k]?=some l[k]:=List.getElem?_eq_getElem h;obtain⟨q1,q2⟩:=ht l[k] (List.getElem_mem h);rw[List.drop_eq_getElem_cons h,List.map_cons,List.sum_cons]at hacc;simp only[impl_varsOf.next0,impl_varsOf.round0,evz,Nat.reduceLT,h,hlk,enc_list];have hin:=inner (impl_varsOf.at0 N m) (cells l) l.length (k:Nat) l[k] q2 N 0 acc (by omega) (by omega) (by omega) q1;rw[List.drop_zero,wrap_succ (by omega)]at hin;refine Eq.trans hin ?_;have:=vars_length l[k];rw[ih (k+1) (acc++vars l[k]) (by omega) (by omega) (by rw[List.length_append];omega),List.drop_eq_getElem_cons h,List.flatMap_cons,List.append_assoc]
   ·obtain rfl:k=l.length:=by omega
    rw[List.drop_length]at hacc ⊢;have hs:=slices_Sort_Sint64 acc (by simpa using hacc);have hc:=slices_Compact_Sint64 (sorted acc) (by unfold sorted;rw[List.length_mergeSort];simpa using hacc);simp only[impl_varsOf.next0,impl_varsOf.round0,evz,Nat.reduceLT,Nat.lt_irrefl,List.flatMap_nil,List.append_nil];simp only[hs,hc.eq,evz,Nat.reduceLT]
 refine call_of rfl N ((impl_varsOf.ev _ _).trans ?_);have:=outer N 0 [] (by omega) (by omega) (by simpa using hsum);rw[List.drop_zero,List.nil_append]at this;simp only[cells_div,sz_list];exact this
def low6(t:List Int):Bool := !t.any fun n=>decide (n < -6)
theorem low6_iff{t:List Int}:low6 t=true<->∀n∈t,-6<=n:=by
 unfold low6;rw[Bool.not_eq_true',List.any_eq_false];constructor
 ·intro h n hn;have:=h n hn;simpa using this
 ·intro h n hn;simpa using h n hn
def eqFault(l:List Symbol)(e:Equation):Int:=
 if termFault0 l e.left≠0 then termFault0 l e.left else if termFault0 l e.right≠0 then termFault0 l e.right else if low6 e.left=true then(if low6 e.right=true then 0 else 3)else 3
def eqsFault(l:List Symbol)(es:List Equation):Int:=
 if 12<es.length then 2 else(es.findSome? fun e=>if eqFault l e≠0 then some (eqFault l e)else none).getD 0
def ruleOk(e:Equation):Bool:=decide (0<=e.left.headD 0) && !e.right.any fun n=>decide (n<0/\n∉e.left)
def rulesFault0(l:List Symbol)(es:List Equation):Int:=if eqsFault l es≠0 then eqsFault l es else if(es.any fun e=>!ruleOk e)=true then 1 else 0
def rulesFault(s:Signature)(es:List Equation):Int:=if sigFault s≠0 then sigFault s else rulesFault0 s.symbols es
structure EqOk(l:List Symbol)(e:Equation):Prop where
 left:TermOk l e.left
 right:TermOk l e.right
 lowL:∀n∈e.left,-6<=n
 lowR:∀n∈e.right,-6<=n
theorem eqOk_iff{l:List Symbol}{e:Equation}:eqFault l e=0<->EqOk l e:=by
 unfold eqFault;constructor
 ·intro h;by_cases h1:termFault0 l e.left=0
  ·by_cases h2:termFault0 l e.right=0
   ·by_cases h3:low6 e.left=true
    ·by_cases h4:low6 e.right=true
     ·exact⟨(termOk_iff _ _).1 h1,(termOk_iff _ _).1 h2,low6_iff.1 h3,low6_iff.1 h4⟩
     ·simp[h1,h2,h3,h4]at h
    ·simp[h1,h2,h3]at h
   ·simp[h1,h2]at h
  ·simp[h1]at h
 ·intro h;simp[(termOk_iff _ _).2 h.left,(termOk_iff _ _).2 h.right,low6_iff.2 h.lowL,low6_iff.2 h.lowR]
theorem eqsOk_iff{l:List Symbol}{es:List Equation}:eqsFault l es=0<->es.length<=12/\∀e∈es,EqOk l e:=by
 unfold eqsFault;by_cases h:12<es.length
 ·rw[if_pos h];constructor
  ·intro h;cases h
  ·intro h';omega
 ·rw[if_neg h]
  have:(es.findSome? fun e=>if eqFault l e≠0 then some (eqFault l e)else none).getD 0=0<->∀e∈es,eqFault l e=0:=by
   cases hf:es.findSome? fun e=>if eqFault l e≠0 then some (eqFault l e)else none with
   |none=>
    rw[findSome_none]at hf;refine⟨fun _ e he=>?_,fun _=>rfl⟩;have:=hf e he;by_cases h:eqFault l e=0
    ·exact h
    ·simp[h]at this
   |some c=>
    obtain⟨e,he,h1⟩:=List.exists_of_findSome?_eq_some hf;by_cases h:eqFault l e=0
    ·simp[h]at h1
    ·simp[h]at h1;subst h1;exact⟨fun h'=>absurd h' h,fun h'=>absurd (h' e he) h⟩
  rw[this];constructor
  ·intro h';exact⟨by omega,fun e he=>eqOk_iff.1 (h' e he)⟩
  ·intro h' e he;exact eqOk_iff.2 (h'.2 e he)
theorem TermOk.ge{l:List Symbol}{t:List Int}(h:TermOk l t):∀n∈t,-12<=n:=fun n hn=>by
 rcases nodeOk_iff.1 (h.node n hn)with h|h <;> omega
theorem slices_ContainsFunc_Sint64_at1_impl_EquationFault_1(t:List Int)(hs:t.length<=4294967296) :
 Call F.slices_ContainsFunc_Sint64 [slc t,.clo F.impl_EquationFault_1 []] (.bool (t.any fun n=>decide (n>=6))):=by
 have hi:Call F.slices_IndexFunc_Sint64 [slc t,.clo F.impl_EquationFault_1 []] (.int .i64 (idx (fun n=>decide (n>=6)) t)):=by
  refine call_of rfl (t.length+1) ((slices_IndexFunc_Sint64_at1_impl_EquationFault_1.ev _ _).trans ?_);refine idx_loop (S:=fun m k=>slices_IndexFunc_Sint64_at1_impl_EquationFault_1.at0 (t.length+1) m (slices_IndexFunc_Sint64_at1_impl_EquationFault_1.st0 (cells t) _ (k:Nat))) (fun m k h=>?_) (fun m=>?_) (Nat.lt_succ_self _)
  ·have hlk:t[k]?=some t[k]:=List.getElem?_eq_getElem h;have hc:Call F.impl_EquationFault_1 [.int .i64 t[k]] (.bool (decide (t[k]>=6))):=call_of rfl 0 (impl_EquationFault_1.ev _ _);simp only[slices_IndexFunc_Sint64_at1_impl_EquationFault_1.next0,slices_IndexFunc_Sint64_at1_impl_EquationFault_1.round0,evz,Nat.reduceLT,h,hlk,enc_int,hc.eq];rw[wrap_succ (by omega)];by_cases e:t[k]>=6 <;> simp[e]
  ·simp only[slices_IndexFunc_Sint64_at1_impl_EquationFault_1.next0,slices_IndexFunc_Sint64_at1_impl_EquationFault_1.round0,evz,Nat.reduceLT,Nat.lt_irrefl]
 refine call_of rfl 0 ((slices_ContainsFunc_Sint64_at1_impl_EquationFault_1.ev _ _).trans ?_);simp only[evz,Nat.reduceLT,hi.eq,idx_nonneg]
theorem impl_EquationFault(l:List Symbol)(hs:l.length<=4294967296)(a b:List Int)(ha:a.length<=4294967296)(hb:b.length<=4294967296) :
 Call F.impl_EquationFault [.agg [slc l],.agg [slc a,slc b]] (.int .i64 (if sigFault ⟨l⟩≠0 then sigFault ⟨l⟩else eqFault l ⟨a,b⟩)):=by
 refine call_of rfl 0 ((impl_EquationFault.ev _ _ _ _).trans ?_);simp only[evz,Nat.reduceLT,(impl_TermFault l hs a ha).eq,(impl_TermFault l hs b hb).eq,(impl_firstCode2 _ _).eq,termFault,eqFault];by_cases h1:sigFault ⟨l⟩=0
 case neg=>simp only[h1,evz,Nat.reduceLT,ne_eq,not_false_eq_true]
 simp only[h1,evz,Nat.reduceLT,ne_eq,not_true_eq_false];by_cases h2:termFault0 l a=0
 case neg=>simp only[h2,evz,Nat.reduceLT,not_false_eq_true]
 by_cases h3:termFault0 l b=0
 case neg=>simp only[h2,h3,evz,Nat.reduceLT,not_true_eq_false,not_false_eq_true]
 have ta:=(termOk_iff l a).1 h2;have tb:=(termOk_iff l b).1 h3;have hal:=ta.le;have hbl:=tb.le
 have hv:=impl_varsOf [a,b] (by simp) (fun t ht=>by
  simp only[List.mem_cons,List.not_mem_nil,or_false]at ht;rcases ht with rfl|rfl
  ·exact⟨ha,ta.ge⟩
  ·exact⟨hb,tb.ge⟩) (by simp;omega)
 have hvl:=varsOf_length [a,b];have hc:=slices_ContainsFunc_Sint64_at1_impl_EquationFault_1 (varsOf [a,b]) (by simp at hvl;omega);simp only[h2,h3,evz,Nat.reduceLT,not_true_eq_false,show LIM F.impl_varsOf [.sl 1 [slc a,slc b]]=_ from hv,hc.eq]
 have e1:((varsOf [a,b]).any fun n=>decide (n>=6)) = !(low6 a&&low6 b):=by
  rw[Bool.eq_iff_iff,List.any_eq_true,Bool.not_eq_true',Bool.eq_false_iff,ne_eq,Bool.and_eq_true,low6_iff,low6_iff];constructor
  ·rintro⟨v,hv,h6⟩ ⟨q1,q2⟩;rw[decide_eq_true_eq]at h6;obtain⟨_,t,ht,hm⟩:=mem_varsOf.1 hv;simp only[List.mem_cons,List.not_mem_nil,or_false]at ht;rcases ht with rfl|rfl
   ·have:=q1 _ hm;omega
   ·have:=q2 _ hm;omega
  ·intro h;by_cases q1:∀n∈a,-6<=n
   ·have q2:¬ ∀n∈b,-6<=n:=fun q2=>h ⟨q1,q2⟩;simp only[Classical.not_forall]at q2;obtain⟨n,hn,hlt⟩:=q2;exact⟨-1-n,mem_varsOf.2 ⟨by omega,b,by simp,by rw[show -1-(-1-n)=n by omega];exact hn⟩,by simp;omega⟩
   ·simp only[Classical.not_forall]at q1;obtain⟨n,hn,hlt⟩:=q1;exact⟨-1-n,mem_varsOf.2 ⟨by omega,a,by simp,by rw[show -1-(-1-n)=n by omega];exact hn⟩,by simp;omega⟩
 rw[e1];cases low6 a <;> cases low6 b <;> rfl
theorem spec_l4Fault(l:List Symbol)(ok:SigOk ⟨l⟩)(a b:List Int)(ha:a.length<=4294967296)(hb:b.length<=4294967296) :
 Call F.spec_l4Fault [.rref [slc l] 0,.rref [slc a,slc b] 0] (.int .i64 (eqFault l ⟨a,b⟩)):=by
 have la:Call F.spec_l4Low [slc a] (.bool (low6 a)):=spec_l4Low a ha;have lb:Call F.spec_l4Low [slc b] (.bool (low6 b)):=spec_l4Low b hb;refine call_of rfl 0 ((spec_l4Fault.ev _ _ _ _).trans ?_);simp only[evz,Nat.reduceLT,(spec_l3Fault l ok a ha).eq,(spec_l3Fault l ok b hb).eq,la.eq,lb.eq,eqFault];by_cases h2:termFault0 l a=0
 case neg=>simp only[h2,evz,Nat.reduceLT,ne_eq,not_false_eq_true]
 by_cases h3:termFault0 l b=0
 case neg=>simp only[h2,h3,evz,Nat.reduceLT,ne_eq,not_true_eq_false,not_false_eq_true]
 simp only[h2,h3,evz,Nat.reduceLT,ne_eq,not_true_eq_false];cases low6 a <;> cases low6 b <;> rfl
theorem eqs_sm{es:List Equation}{k:Nat}(he:sm 4294967296 es)(h:k<es.length):es[k].left.length<=4294967296/\es[k].right.length<=4294967296:=by
 have:=he.2 es[k] (List.getElem_mem h);exact⟨this.1.1,this.2.1⟩
theorem impl_EquationsFault(l:List Symbol)(hs:l.length<=4294967296)(es:List Equation)(he:sm 4294967296 es) :
 Call F.impl_EquationsFault [.agg [slc l],slc es] (.int .i64 (if sigFault ⟨l⟩≠0 then sigFault ⟨l⟩else eqsFault l es)):=by
 refine call_of rfl (es.length+1) ((impl_EquationsFault.ev _ _ _).trans ?_);simp only[evz,Nat.reduceLT,(impl_SignatureFault l hs).eq,eqsFault,gt_iff_lt];by_cases h1:sigFault ⟨l⟩=0
 case neg=>simp only[h1,evz,Nat.reduceLT,ne_eq,not_false_eq_true]
 by_cases h2:12<es.length
 ·have h2':(12:Int)<es.length:=by omega
  simp only[h1,h2,h2',evz,Nat.reduceLT,ne_eq,not_true_eq_false]
 have h2':¬(12:Int)<es.length:=by omega
 simp only[h1,h2,h2',evz,Nat.reduceLT,ne_eq,not_true_eq_false]
 refine(scan_loop (l:=es) (g:=fun e=>if eqFault l e≠0 then some (some (.int .i64 (eqFault l e),[]))else none) (z:=some (.int .i64 0,[])) (S:=fun m k=>impl_EquationsFault.at0 (es.length+1) m (impl_EquationsFault.st0 (cells es) es.length (k:Nat) (cells l)))
  (fun m k h=>?_) (fun m=>?_) (Nat.lt_succ_self _)).trans ?_
 ·have hlk:es[k]?=some es[k]:=List.getElem?_eq_getElem h;obtain⟨q1,q2⟩:=eqs_sm he h;have hc:=impl_EquationFault l hs es[k].left es[k].right q1 q2;rw[if_neg (by simpa using h1)]at hc;simp only[impl_EquationsFault.next0,impl_EquationsFault.round0,evz,Nat.reduceLT,h,hlk,enc_Equation,hc.eq];rw[wrap_succ (by omega)];by_cases e:eqFault l es[k]=0
  ·simp[e]
  ·simp[e]
 ·simp only[impl_EquationsFault.next0,impl_EquationsFault.round0,evz,Nat.reduceLT,Nat.lt_irrefl]
 ·have:=findSome_map (fun e=>if eqFault l e≠0 then some (eqFault l e)else none) (fun n=>(some (T.int .i64 n,[]):R)) es;rw[show(fun e=>(if eqFault l e≠0 then some (eqFault l e)else none).map fun n=>(some (T.int .i64 n,[]):R))=fun e=>if eqFault l e≠0 then some (some (T.int .i64 (eqFault l e),[]))else none from funext fun e=>by by_cases h:eqFault l e=0 <;> simp[h]]at this;rw[this];cases es.findSome? fun e=>if eqFault l e≠0 then some (eqFault l e)else none <;> rfl
theorem spec_l5Fault(l:List Symbol)(ok:SigOk ⟨l⟩)(es:List Equation)(he:sm 4294967296 es):Call F.spec_l5Fault [.rref [slc l] 0,slc es] (.int .i64 (eqsFault l es)):=by
 refine call_of rfl (es.length+1) ((spec_l5Fault.ev _ _ _).trans ?_);simp only[evz,Nat.reduceLT,eqsFault,gt_iff_lt];by_cases h2:12<es.length
 ·have h2':(12:Int)<es.length:=by omega
  simp only[h2,h2',evz,Nat.reduceLT]
 have h2':¬(12:Int)<es.length:=by omega
 simp only[h2,h2',evz,Nat.reduceLT]
 refine(scan_loop (l:=es) (g:=fun e=>if eqFault l e≠0 then some (some (.int .i64 (eqFault l e),[]))else none) (z:=some (.int .i64 0,[])) (S:=fun m k=>spec_l5Fault.at0 (es.length+1) m (spec_l5Fault.st0 (cells l) (cells es) (k:Nat)))
  (fun m k h=>?_) (fun m=>?_) (Nat.lt_succ_self _)).trans ?_
 ·have hlk:es[k]?=some es[k]:=List.getElem?_eq_getElem h;obtain⟨q1,q2⟩:=eqs_sm he h;have hc:=spec_l4Fault l ok es[k].left es[k].right q1 q2;simp only[spec_l5Fault.next0,spec_l5Fault.round0,evz,Nat.reduceLT,h,hlk,cells_window sz_Equation hlk,enc_Equation,hc.eq];rw[wrap_succ (by omega)];by_cases e:eqFault l es[k]=0
  ·simp[e]
  ·simp[e]
 ·simp only[spec_l5Fault.next0,spec_l5Fault.round0,evz,Nat.reduceLT,Nat.lt_irrefl]
 ·have:=findSome_map (fun e=>if eqFault l e≠0 then some (eqFault l e)else none) (fun n=>(some (T.int .i64 n,[]):R)) es;rw[show(fun e=>(if eqFault l e≠0 then some (eqFault l e)else none).map fun n=>(some (T.int .i64 n,[]):R))=fun e=>if eqFault l e≠0 then some (some (T.int .i64 (eqFault l e),[]))else none from funext fun e=>by by_cases h:eqFault l e=0 <;> simp[h]]at this;rw[this];cases es.findSome? fun e=>if eqFault l e≠0 then some (eqFault l e)else none <;> rfl
def digs(z:Nat):Nat->Nat->List Int
 |0,_=>[]
 |k+1,n=>((n % z:Nat):Int)::digs z k (n/z)
def odo(z:Nat):List Int->List Int
 |[]=>[]
 |x::r=>if x+1<z then(x+1)::r else 0::odo z r
theorem digs_length(z:Nat):∀k n,(digs z k n).length=k
 |0,_=>rfl
 |k+1,n=>by rw[digs,List.length_cons,digs_length z k]
theorem digs_range{z:Nat}(hz:0<z):∀k n,∀x∈digs z k n,0<=x/\x<=(z:Int)-1
 |0,_=>by simp[digs]
 |k+1,n=>by
  intro x hx;rw[digs,List.mem_cons]at hx;rcases hx with rfl|hx
  ·have:=Nat.mod_lt n hz;omega
  ·exact digs_range hz k _ x hx
theorem odo_digs{z:Nat}(hz:0<z):∀k n,odo z (digs z k n)=digs z k (n+1)
 |0,_=>rfl
 |k+1,n=>by
  rw[digs,odo,digs];have hm:=Nat.mod_lt n hz;have hd:=Nat.div_add_mod n z;by_cases h:n % z+1<z
  ·have e1:(n+1) % z=n % z+1:=by
    rw[Nat.add_mod,Nat.mod_eq_of_lt (show 1<z by omega),Nat.mod_eq_of_lt h]
   have e2:(n+1)/z=n/z:=by
    rw[Nat.div_eq_iff hz];constructor <;> (have:=Nat.mul_comm z (n/z);omega)
   rw[if_pos (by omega),e1,e2];rfl
  ·have e0:n+1=(n/z+1)*z:=by
    rw[Nat.add_mul,Nat.one_mul,Nat.mul_comm (n/z) z];omega
   have e1:(n+1) % z=0:=by rw[e0,Nat.mul_mod_left]
   have e2:(n+1)/z=n/z+1:=by rw[e0,Nat.mul_div_cancel _ hz]
   rw[if_neg (by omega),e1,e2,odo_digs hz k];rfl
theorem digs_zero(z:Nat):∀k,digs z k 0=List.replicate k 0
 |0=>rfl
 |k+1=>by rw[digs,Nat.zero_mod,Nat.zero_div,digs_zero z k,List.replicate_succ];rfl
noncomputable def differ(l:List Symbol)(z:Nat)(tb:List (List Int))(e:Equation)(n:Nat):Bool:=
 decide ((treeOf l e.left).eval z tb (digs z 6 n)≠(treeOf l e.right).eval z tb (digs z 6 n))
noncomputable def holdsB(l:List Symbol)(z:Nat)(tb:List (List Int))(e:Equation):Bool := !(List.range (z ^ 6)).any (differ l z tb e)
section
variable {l:List Symbol}{z:Nat}{tb:List (List Int)}(al:AlgOk l z tb)
include al
theorem impl_Algebra_eval_ok{vs t:List Int}(hv:vs.length=6)(hr:∀n∈vs,0<=n/\n<=(z:Int)-1)(to:TermOk l t)(hlow:∀n∈t,-6<=n) :
 Call F.impl_Algebra_eval [.agg [.int .i64 z,slc tb],.agg [slc l],slc vs,slc t] (.int .i64 ((treeOf l t).eval z tb vs)):=by
 obtain⟨o1,o2⟩:=treeOf_spec al.sig to;have hle:=to.le;have hl6:(treeOf l t).low 6:=Tm.low_of fun n hn=>by rw[<- o2]at hn;exact hlow n hn
 have hsy:(treeOf l t).syms l.length:=Tm.syms_of o1 fun n hn=>to.node n (by rw[o2];exact hn);have he:=impl_Algebra_evalAt al hv hr (by omega:t.length<=4294967296) (treeOf l t) [] 0 (by rw[List.drop_zero,List.append_nil];exact o2) o1 hsy hl6;refine call_of rfl 0 ((impl_Algebra_eval.ev _ _ _ _ _ _).trans ?_);simp only[evz,Nat.reduceLT,show LIM F.impl_Algebra_evalAt [.agg [.int .i64 z,slc tb],.agg [slc l],slc vs,slc t,.int .i64 0]=_ from he]
theorem spec_l10Eval_ok{vs t:List Int}(hv:vs.length=6)(hr:∀n∈vs,0<=n/\n<=(z:Int)-1)(to:TermOk l t)(hlow:∀n∈t,-6<=n) :
 Call F.spec_l10Eval [.rref [slc l] 0,.rref [.int .i64 z,slc tb] 0,slc vs,slc t,.int .i64 0] (.int .i64 ((treeOf l t).eval z tb vs)):=by
 obtain⟨o1,o2⟩:=treeOf_spec al.sig to;have hle:=to.le;have hl6:(treeOf l t).low 6:=Tm.low_of fun n hn=>by rw[<- o2]at hn;exact hlow n hn
 have hsy:(treeOf l t).syms l.length:=Tm.syms_of o1 fun n hn=>to.node n (by rw[o2];exact hn);exact spec_l10Eval al hv hr to.node (by omega) (treeOf l t) [] 0 (by rw[List.drop_zero,List.append_nil];exact o2) o1 hsy hl6
theorem pow6:z ^ 6<=729/\0<z/\z<=3:=by
 have:=al.size;have h1:1<=z:=by omega
 have h3:z<=3:=by omega
 refine⟨?_,by omega,h3⟩;have:z=1\/z=2\/z=3:=by omega
 rcases this with rfl|rfl|rfl <;> decide
theorem impl_Algebra_holds{e:Equation}(ho:EqOk l e):Call F.impl_Algebra_holds [.agg [.int .i64 z,slc tb],.agg [slc l],.agg [slc e.left,slc e.right]] (.bool (holdsB l z tb e)):=by
 obtain⟨h729,hz0,hz3⟩:=pow6 al;have hp:=impl_power z 6 hz3 (by omega);refine call_of rfl 1000 ((impl_Algebra_holds.ev _ _ _ _ _ _).trans ?_)
 have inner:∀(L0:St->R)(k:Nat),k<729->∀m j (v:List Int),v.length=6->(∀x∈v,0<=x/\x<=(z:Int)-1)->j<=6->6<m+j->
  impl_Algebra_holds.at2 1000 L0 m (impl_Algebra_holds.st2 (z ^ 6:Nat) (k:Nat) ((6:Nat):Int) (j:Nat) z (cells tb) (cells l) (cells e.left) (cells e.right) (cells v))=
   L0 (impl_Algebra_holds.st0 (z ^ 6:Nat) ((k+1:Nat):Int) z (cells tb) (cells l) (cells e.left) (cells e.right) (cells (v.take j++odo z (v.drop j)))):=by
  intro L0 k hk m;induction m with
  |zero=>intros;omega
  |succ m ih=>
   intro j v hv hr hj hm;by_cases h:j<6
   ·have hjv:j<v.length:=by omega
    have hlk:v[j]?=some v[j]:=List.getElem?_eq_getElem hjv;obtain⟨b1,b2⟩:=hr v[j] (List.getElem_mem hjv);have hls:∀x:Int,(v.set j x)[j]?=some x:=fun x=>by rw[List.getElem?_set_self hjv]
    have hdc:decide (j*1+1<=(cells v).length)=true:=by rw[cells_length,sz_int];exact decide_eq_true (by omega)
    have hdc':∀x:Int,decide (j*1+1<=(cells (v.set j x)).length)=true:=fun x=>by rw[cells_length,sz_int,List.length_set];exact decide_eq_true (by omega)
    simp only[impl_Algebra_holds.next2,impl_Algebra_holds.round2,evz,Nat.reduceLT,h,hjv,hlk,enc_int,hdc];rw[wrap_succ (by omega),wrap_succ (by omega),wrap64 (show -9223372036854775808<=v[j]+1/\v[j]+1<9223372036854775808 by omega)];simp only[set_Int hjv,evz,Nat.reduceLT,List.length_set,hjv,hls,enc_int,hdc'];rw[List.drop_eq_getElem_cons hjv,odo];by_cases hx:v[j]+1<(z:Int)
    ·simp only[hx,evz,Nat.reduceLT];rw[List.set_eq_take_append_cons_drop,if_pos hjv]
    ·simp only[hx,evz,Nat.reduceLT]
     rw[set_Int (by rw[List.length_set];exact hjv),List.set_set,ih (j+1) (v.set j 0) (by rw[List.length_set];exact hv) (fun x hx'=>by
      rcases List.mem_or_eq_of_mem_set hx' with h'|rfl
      ·exact hr x h'
      ·omega) (by omega) (by omega)]
     rw[List.drop_set_of_lt (by omega),List.take_succ_eq_append_getElem (by rw[List.length_set];exact hjv),List.getElem_set_self,List.take_set_of_le (Nat.le_refl _),List.append_assoc,List.singleton_append,if_pos (by rw[cells_length,sz_int,List.length_set];omega)]
   ·obtain rfl:j=6:=by omega
    simp only[impl_Algebra_holds.next2,impl_Algebra_holds.round2,evz,Nat.reduceLT,Nat.lt_irrefl];rw[wrap_succ (by omega),List.drop_of_length_le (by omega),odo,List.append_nil,List.take_of_length_le (by omega)]
 have outer:=any_loop (n:=z ^ 6) (bad:=differ l z tb e) (r:=some (.bool false,[])) (z:=some (.bool true,[]))
  (S:=fun m k=>impl_Algebra_holds.at0 1000 m (impl_Algebra_holds.st0 (z ^ 6:Nat) (k:Nat) z (cells tb) (cells l) (cells e.left) (cells e.right) (cells (digs z 6 k)))) (f:=1000)
  (fun m k hk=>by
   have hdl:=digs_length z 6 k;have hdr:=digs_range hz0 6 k;simp only[impl_Algebra_holds.next0,impl_Algebra_holds.round0,evz,Nat.reduceLT,hk,(impl_Algebra_eval_ok al hdl hdr ho.left ho.lowL).eq,(impl_Algebra_eval_ok al hdl hdr ho.right ho.lowR).eq,differ,hdl];have hin:=inner (impl_Algebra_holds.at0 1000 m) k (by omega) 1000 0 (digs z 6 k) hdl hdr (by omega) (by omega);rw[List.take_zero,List.nil_append,List.drop_zero,odo_digs hz0]at hin;by_cases hne:(treeOf l e.left).eval z tb (digs z 6 k)=(treeOf l e.right).eval z tb (digs z 6 k)
   ·simp only[hne,evz,Nat.reduceLT,ne_eq,not_true_eq_false,Bool.false_eq_true];exact hin
   ·simp only[hne,evz,Nat.reduceLT,ne_eq,not_false_eq_true])
  (fun m=>by simp only[impl_Algebra_holds.next0,impl_Algebra_holds.round0,evz,Nat.reduceLT,Nat.lt_irrefl]) (by omega)
 simp only[evz,Nat.reduceLT,show LIM F.impl_power [.int .i64 z,.int .i64 6]=_ from hp];rw[digs_zero]at outer;refine Eq.trans outer ?_;unfold holdsB;cases (List.range (z ^ 6)).any (differ l z tb e) <;> rfl
theorem spec_l10Holds{e:Equation}(ho:EqOk l e):Call F.spec_l10Holds [.rref [slc l] 0,.rref [.int .i64 z,slc tb] 0,.rref [slc e.left,slc e.right] 0] (.bool (holdsB l z tb e)):=by
 obtain⟨h729,hz0,hz3⟩:=pow6 al;have hp:=spec_l10Pow z 6 hz3 (by omega);refine call_of rfl 1000 ((spec_l10Holds.ev _ _ _ _ _ _).trans ?_)
 have inner:∀(L0:St->R)(k:Nat),k<729->∀m j x (acc:List Int),acc.length=j->j<=6->6<m+j->acc++digs z (6-j) x=digs z 6 k->x<=729->
  spec_l10Holds.at2 1000 L0 m (spec_l10Holds.st2 (cells l) z (cells tb) (cells e.left) (cells e.right) (k:Nat) (x:Nat) (j:Nat) (cells acc))=
   if differ l z tb e k=true then some (.bool false,[])else L0 (spec_l10Holds.st0 (cells l) z (cells tb) (cells e.left) (cells e.right) ((k+1:Nat):Int)):=by
  intro L0 k hk m;induction m with
  |zero=>intros;omega
  |succ m ih=>
   intro j x acc hacc hj hm hd hx;by_cases h:j<6
   ·have h6:((j:Nat):Int)<6:=by omega
    have hzi:¬((z:Nat):Int)=0:=by omega
    have hble:Nat.ble (((cells acc).length+1)*8) (140737488355328*1)=true:=by
     rw[Nat.ble_eq,cells_length,sz_int];omega
    have hdiv:x/z<=x:=Nat.div_le_self _ _;rw[show 6-j=(6-(j+1))+1 by omega,digs]at hd;have hdm:Int.tdiv (x:Nat) (z:Nat)=((x/z:Nat):Int):=rfl;generalize x/z=q at hdiv hdm hd;simp only[spec_l10Holds.next2,spec_l10Holds.round2,evz,Nat.reduceLT,h6,hzi,hble];rw[hdm,show Int.tmod (x:Nat) (z:Nat)=((x % z:Nat):Int)from rfl,wrap_succ (by omega),wrap64 (by omega),cells_snoc_int];refine ih (j+1) q (acc++[((x % z:Nat):Int)]) (by rw[List.length_append,hacc];rfl) (by omega) (by omega) ?_ (by omega);rw[List.append_assoc,List.singleton_append];exact hd
   ·obtain rfl:j=6:=by omega
    rw[Nat.sub_self,digs,List.append_nil]at hd;subst hd;have hdl:=digs_length z 6 k;have hdr:=digs_range hz0 6 k;have h6:¬((6:Nat):Int)<6:=by omega
    simp only[spec_l10Holds.next2,spec_l10Holds.round2,evz,Nat.reduceLT,h6,(spec_l10Eval_ok al hdl hdr ho.left ho.lowL).eq,(spec_l10Eval_ok al hdl hdr ho.right ho.lowR).eq,differ];rw[wrap_succ (by omega)];by_cases hne:(treeOf l e.left).eval z tb (digs z 6 k)=(treeOf l e.right).eval z tb (digs z 6 k)
    ·simp only[hne,evz,Nat.reduceLT,ne_eq,not_true_eq_false,Bool.false_eq_true]
    ·simp only[hne,evz,Nat.reduceLT,ne_eq,not_false_eq_true]
 have outer:=any_loop (n:=z ^ 6) (bad:=differ l z tb e) (r:=some (.bool false,[])) (z:=some (.bool true,[]))
  (S:=fun m k=>spec_l10Holds.at0 1000 m (spec_l10Holds.st0 (cells l) z (cells tb) (cells e.left) (cells e.right) (k:Nat))) (f:=1000)
  (fun m k hk=>by
   simp only[spec_l10Holds.next0,spec_l10Holds.round0,evz,Nat.reduceLT,show LIM F.spec_l10Pow [.int .i64 z,.int .i64 6]=_ from hp,hk];exact inner (spec_l10Holds.at0 1000 m) k (by omega) 1000 0 k [] rfl (by omega) (by omega) (by simp) (by omega))
  (fun m=>by simp only[spec_l10Holds.next0,spec_l10Holds.round0,evz,Nat.reduceLT,show LIM F.spec_l10Pow [.int .i64 z,.int .i64 6]=_ from hp,Nat.lt_irrefl]) (by omega)
 refine Eq.trans outer ?_;unfold holdsB;cases (List.range (z ^ 6)).any (differ l z tb e) <;> rfl
end
theorem impl_truth(b:Bool):Call F.impl_truth [.bool b] (.agg [.int .i64 0,.int .i64 (if b=true then 1 else 0)]):=by
 refine call_of rfl 0 ((impl_truth.ev _ _).trans ?_);cases b <;> rfl
theorem spec_l10Bit(b:Bool):Call F.spec_l10Bit [.bool b] (.agg [.int .i64 0,.int .i64 (if b=true then 1 else 0)]):=by
 refine call_of rfl 0 ((spec_l10Bit.ev _ _).trans ?_);cases b <;> rfl
noncomputable def holdsR(s:Signature)(a:Algebra)(e:Equation):IntResult:=
 if algFault s a≠0 then⟨algFault s a,0⟩else if eqFault s.symbols e≠0 then⟨eqFault s.symbols e,0⟩else⟨0,if holdsB s.symbols a.size.toNat a.tables e=true then 1 else 0⟩
noncomputable def allHoldR(s:Signature)(a:Algebra)(es:List Equation):IntResult:=
 if algFault s a≠0 then⟨algFault s a,0⟩else if eqsFault s.symbols es≠0 then⟨eqsFault s.symbols es,0⟩else⟨0,if(!es.any fun e=>!holdsB s.symbols a.size.toNat a.tables e)=true then 1 else 0⟩
section
variable (l:List Symbol)(z:Int)(tb:List (List Int))(hs:l.length<=4294967296)(ht:sm 4294967296 tb)
include hs ht
theorem impl_Holds(e:Equation)(he:sm 4294967296 e):Call F.impl_Holds [.agg [slc l],.agg [.int .i64 z,slc tb],.agg [slc e.left,slc e.right]] (.agg (enc (holdsR ⟨l⟩ ⟨z,tb⟩ e))):=by
 refine call_of rfl 0 ((impl_Holds.ev _ _ _ _ _ _).trans ?_);simp only[evz,Nat.reduceLT,(impl_AlgebraFault l z tb hs ht).eq,(impl_EquationFault l hs e.left e.right he.1.1 he.2.1).eq,(impl_firstCode2 _ _).eq,holdsR];by_cases h1:algFault ⟨l⟩ ⟨z,tb⟩=0
 case neg=>simp only[h1,evz,Nat.reduceLT,ne_eq,not_false_eq_true,enc_IntResult]
 have al:=algOk h1;have hsg:=algFault_sig h1;obtain⟨y,hy⟩:∃y:Nat,z=y:=⟨z.toNat,by have:=al.size;omega⟩;subst hy;simp only[h1,hsg,evz,Nat.reduceLT,ne_eq,not_true_eq_false];by_cases h2:eqFault l e=0
 case neg=>simp only[h2,evz,Nat.reduceLT,not_false_eq_true,enc_IntResult]
 have ho:=eqOk_iff.1 h2;simp only[h2,evz,Nat.reduceLT,not_true_eq_false,(impl_Algebra_holds al ho).eq,(impl_truth _).eq,enc_IntResult]
theorem spec_Holds(e:Equation)(he:sm 4294967296 e):Call F.spec_Holds [.agg [slc l],.agg [.int .i64 z,slc tb],.agg [slc e.left,slc e.right]] (.agg (enc (holdsR ⟨l⟩ ⟨z,tb⟩ e))):=by
 refine call_of rfl 0 ((spec_Holds.ev _ _ _ _ _ _).trans ?_);simp only[evz,Nat.reduceLT,(spec_AlgebraFault l z tb hs ht).eq,holdsR];by_cases h1:algFault ⟨l⟩ ⟨z,tb⟩=0
 case neg=>simp only[h1,evz,Nat.reduceLT,ne_eq,not_false_eq_true,enc_IntResult]
 have al:=algOk h1;obtain⟨y,hy⟩:∃y:Nat,z=y:=⟨z.toNat,by have:=al.size;omega⟩;subst hy;simp only[h1,evz,Nat.reduceLT,ne_eq,not_true_eq_false,(spec_l4Fault l al.sig e.left e.right he.1.1 he.2.1).eq];by_cases h2:eqFault l e=0
 case neg=>simp only[h2,evz,Nat.reduceLT,not_false_eq_true,enc_IntResult]
 have ho:=eqOk_iff.1 h2;simp only[h2,evz,Nat.reduceLT,not_true_eq_false,(spec_l10Holds al ho).eq,(spec_l10Bit _).eq,enc_IntResult]
theorem impl_AllHold(es:List Equation)(he:sm 4294967296 es):Call F.impl_AllHold [.agg [slc l],.agg [.int .i64 z,slc tb],slc es] (.agg (enc (allHoldR ⟨l⟩ ⟨z,tb⟩ es))):=by
 refine call_of rfl 0 ((impl_AllHold.ev _ _ _ _ _).trans ?_);simp only[evz,Nat.reduceLT,(impl_AlgebraFault l z tb hs ht).eq,(impl_EquationsFault l hs es he).eq,(impl_firstCode2 _ _).eq,allHoldR];by_cases h1:algFault ⟨l⟩ ⟨z,tb⟩=0
 case neg=>simp only[h1,evz,Nat.reduceLT,ne_eq,not_false_eq_true,enc_IntResult]
 have al:=algOk h1;have hsg:=algFault_sig h1;obtain⟨y,hy⟩:∃y:Nat,z=y:=⟨z.toNat,by have:=al.size;omega⟩;subst hy;simp only[h1,hsg,evz,Nat.reduceLT,ne_eq,not_true_eq_false];by_cases h2:eqsFault l es=0
 case neg=>simp only[h2,evz,Nat.reduceLT,not_false_eq_true,enc_IntResult]
 obtain⟨hlen,hok⟩:=eqsOk_iff.1 h2
 have hi:Call F.slices_IndexFunc_SEquation [slc es,.clo F.impl_AllHold_1 [.rref [.int .i64 y,slc tb] 0,.rref [slc l] 0]] (.int .i64 (idx (fun e=>!holdsB l y tb e) es)):=by
  refine call_of rfl (es.length+1) ((slices_IndexFunc_SEquation_at1_impl_AllHold_1.ev _ _ _ _ _).trans ?_);simp only[evz,Nat.reduceLT];refine idx_loop (S:=fun m k=>slices_IndexFunc_SEquation_at1_impl_AllHold_1.at0 (es.length+1) m (slices_IndexFunc_SEquation_at1_impl_AllHold_1.st0 (cells es) y (cells tb) (cells l) es.length (k:Nat))) (fun m k h=>?_) (fun m=>?_) (Nat.lt_succ_self _)
  ·have hlk:es[k]?=some es[k]:=List.getElem?_eq_getElem h;have ho:=hok es[k] (List.getElem_mem h)
   have hc:Call F.impl_AllHold_1 [.agg [slc es[k].left,slc es[k].right],.rref [.int .i64 y,slc tb] 0,.rref [slc l] 0] (.bool (!holdsB l y tb es[k])):=by
    refine call_of rfl 0 ((impl_AllHold_1.ev _ _ _ _ _ _).trans ?_);simp only[evz,Nat.reduceLT,(impl_Algebra_holds al ho).eq]
   simp only[slices_IndexFunc_SEquation_at1_impl_AllHold_1.next0,slices_IndexFunc_SEquation_at1_impl_AllHold_1.round0,evz,Nat.reduceLT,h,hlk,enc_Equation,hc.eq];rw[wrap_succ (by omega)];cases holdsB l y tb es[k] <;> rfl
  ·simp only[slices_IndexFunc_SEquation_at1_impl_AllHold_1.next0,slices_IndexFunc_SEquation_at1_impl_AllHold_1.round0,evz,Nat.reduceLT,Nat.lt_irrefl]
 have hc:Call F.slices_ContainsFunc_SEquation [slc es,.clo F.impl_AllHold_1 [.rref [.int .i64 y,slc tb] 0,.rref [slc l] 0]] (.bool (es.any fun e=>!holdsB l y tb e)):=by
  refine call_of rfl 0 ((slices_ContainsFunc_SEquation_at1_impl_AllHold_1.ev _ _ _ _ _).trans ?_);simp only[evz,Nat.reduceLT,hi.eq,idx_nonneg]
 simp only[h2,evz,Nat.reduceLT,not_true_eq_false,hc.eq,(impl_truth _).eq,enc_IntResult,Int.toNat_natCast]
end
def Drawn(code:List UInt8)(p c:Int)(P:T->Prop)(r:R):Prop:=∃x p',r=some (x,[.agg [slc code,.int .i64 p']])/\p<=p'/\p'<=p+c/\P x
theorem drawn_of{code:List UInt8}{p c:Int}{P:T->Prop}{g:FuncId}{args:List T}(hx:X g=none)(n:Nat)(h:Drawn code p c P (callK prog A H LIM n g args)):Drawn code p c P (LIM g args):=by
 obtain⟨x,p',e,h⟩:=h;exact⟨x,p',lim_of hx n e,h⟩
theorem Drawn.more{code:List UInt8}{p p1 c c1:Int}{P P1:T->Prop}{r:R}(h:Drawn code p1 c1 P1 r)(h1:p<=p1)(h2:p1+c1<=p+c)(hP:∀x,P1 x->P x):Drawn code p c P r:=by
 obtain⟨x,p',e,a,b,q⟩:=h;exact⟨x,p',e,by omega,by omega,hP x q⟩
theorem drawn_end{code:List UInt8}{p p' c:Int}{P:T->Prop}{x:T}(h1:p<=p'/\p'<=p+c)(h:P x):Drawn code p c P (some (x,[.agg [slc code,.int .i64 p']])):=⟨x,p',rfl,h1.1,h1.2,h⟩
theorem drawn_s{Q:R->Prop}{code:List UInt8}{p c:Int}{P:T->Prop}{r:R}{K:T×List T->R}(h:Drawn code p c P r)
 (k:∀x p',p<=p'->p'<=p+c->P x->Q (K (x,[.agg [slc code,.int .i64 p']]))):Q (r.bind K):=by
 obtain⟨x,p',rfl,a,b,q⟩:=h;exact k x p' a b q
theorem draw_loop{σ:Type}{S:Nat->σ->R}{Q:R->Prop}(I:σ->Prop)(μ:σ->Nat)(step:∀m s,I s->Q (S (m+1) s)\/∃s',S (m+1) s=S m s'/\I s'/\μ s'<μ s):∀f s,I s->μ s<f->Q (S f s):=by
 intro f;induction f with
 |zero=>intro s _ h;omega
 |succ f ih=>
  intro s hi hm;rcases step f s hi with h|⟨s',e,hi',hm'⟩
  ·exact h
  ·rw[e];exact ih s' hi' (by omega)
@[simp] theorem oBx_bx(c:List T):oBx (.bx c)=some c:=Eq.trans rfl rfl
theorem tmod_nn{a b:Int}(ha:0<=a)(hb:0<b):0<=Int.tmod a b/\Int.tmod a b<b:=⟨Int.tmod_nonneg b ha,Int.tmod_lt_of_pos a hb⟩
abbrev src(code:List UInt8)(p:Int):T:=.rref [slc code,.int .i64 p] 0
theorem u8_bound(b:UInt8):(0:Int)<=(b.toNat:Int)/\(b.toNat:Int)<256:=⟨by omega,by have:=b.toNat_lt;omega⟩
section
variable {code:List UInt8}(hc:code.length<=2097152)
include hc
theorem at_idx{p:Int}(hp:0<=p)(hl:0<code.length):∃i:Nat,Int.tmod p (code.length:Int)=i/\i<code.length:=by
 obtain⟨h1,h2⟩:=tmod_nn hp (show(0:Int)<(code.length:Int) by omega);exact⟨(Int.tmod p (code.length:Int)).toNat,by omega,by omega⟩
theorem spec_l1Next(p n:Int)(hp:0<=p/\p<=1099511627776) :
 ∃v:Int,LIM F.spec_l1Next [.rref [slc code,.int .i64 p] 0,.int .i64 n]=some (.int .i64 v,[.agg [slc code,.int .i64 (p+1)]])/\0<=v/\(1<=n->v<n):=by
 have e1:IntKind.wrap .i64 (p+1)=p+1:=wrap64 (by omega);have e2:IntKind.wrap .i64 (p+1-1)=p:=by rw[wrap64 (by omega)];omega
 by_cases hn:n<1
 ·refine⟨0,call2_of rfl 0 ((spec_l1Next.ev _ _ _ _).trans ?_),by omega,by omega⟩;simp only[evz,Nat.reduceLT,hn,e1]
 rw[Int.not_lt]at hn;have hn0:¬ n=0:=by omega
 by_cases hl:code.length=0
 ·obtain⟨q1,q2⟩:=tmod_nn (a:=p*7) (b:=n) (by omega) (by omega);refine⟨Int.tmod (p*7) n,call2_of rfl 0 ((spec_l1Next.ev _ _ _ _).trans ?_),q1,fun _=>q2⟩;have z:((code.length:Nat):Int)=0:=by omega
  have z1:¬ n<1:=by omega
  simp only[evz,Nat.reduceLT,z1,z,hn0,e1,e2,wrap64 (x:=p*7) (by omega)]
 have z1:¬ n<1:=by omega
 obtain⟨i,hi,hil⟩:=at_idx hc hp.1 (by omega);obtain⟨j,hj,hjl⟩:=at_idx (code:=code) hc (p:=p+1) (by omega) (by omega);have b1:=u8_bound code[i];have b2:=u8_bound code[j];have hd:0<=Int.tdiv p code.length/\Int.tdiv p code.length<=p:=⟨Int.tdiv_nonneg hp.1 (by omega),Int.tdiv_le_self _ hp.1⟩;have d1:¬((code.length:Nat):Int)=0:=by omega
 generalize hk:Int.tdiv p code.length=d at hd;have w1:IntKind.wrap .i64 d=d:=wrap64 (by omega);have w2:IntKind.wrap .i64 (d*37)=d*37:=wrap64 (by omega);have w3:IntKind.wrap .i64 (code[i].toNat:Int)=(code[i].toNat:Int):=wrap64 (by omega);have w4:IntKind.wrap .i64 (code[j].toNat:Int)=(code[j].toNat:Int):=wrap64 (by omega);have w5:IntKind.wrap .i64 ((code[i].toNat:Int)+d*37)=(code[i].toNat:Int)+d*37:=wrap64 (by omega);have w6:IntKind.wrap .i64 (((code[i].toNat:Int)+d*37)*251)=((code[i].toNat:Int)+d*37)*251:=wrap64 (by omega);have w7:IntKind.wrap .i64 ((code[j].toNat:Int)*13)=(code[j].toNat:Int)*13:=wrap64 (by omega);have w8:IntKind.wrap .i64 (((code[i].toNat:Int)+d*37)*251+(code[j].toNat:Int)*13)=((code[i].toNat:Int)+d*37)*251+(code[j].toNat:Int)*13:=wrap64 (by omega);have w9:IntKind.wrap .i64 (((code[i].toNat:Int)+d*37)*251+(code[j].toNat:Int)*13+p)=((code[i].toNat:Int)+d*37)*251+(code[j].toNat:Int)*13+p:=wrap64 (by omega);by_cases hbig:n>200
 ·obtain⟨q1,q2⟩:=tmod_nn (a:=((code[i].toNat:Int)+d*37)*251+(code[j].toNat:Int)*13+p) (b:=n) (by omega) (by omega);refine⟨_,call2_of rfl 0 ((spec_l1Next.ev _ _ _ _).trans ?_),q1,fun _=>q2⟩;simp only[evz,Nat.reduceLT,z1,d1,hn0,e1,e2,hi,hil,hj,hjl,List.getElem?_eq_getElem,enc_u8,hbig,hk,w1,w2,w3,w4,w5,w6,w7,w8,w9]
 ·obtain⟨q1,q2⟩:=tmod_nn (a:=(code[i].toNat:Int)+d*37) (b:=n) (by omega) (by omega);refine⟨_,call2_of rfl 0 ((spec_l1Next.ev _ _ _ _).trans ?_),q1,fun _=>q2⟩;simp only[evz,Nat.reduceLT,z1,d1,hn0,e1,e2,hi,hil,hj,hjl,List.getElem?_eq_getElem,enc_u8,hbig,hk,w1,w2,w3,w4,w5,w6,w7,w8,w9]
theorem next_s{Q:R->Prop}{p n:Int}{K:T×List T->R}(hp:0<=p/\p<=1099511627776)(k:∀v:Int,0<=v->(1<=n->v<n)->Q (K (.int .i64 v,[.agg [slc code,.int .i64 (p+1)]]))) :
 Q ((LIM F.spec_l1Next [.rref [slc code,.int .i64 p] 0,.int .i64 n]).bind K):=by
 obtain⟨v,e,h1,h2⟩:=spec_l1Next hc p n hp;rw[e];exact k v h1 h2
theorem spec_l1Chance(p n:Int)(hp:0<=p/\p<=1099511627776):∃b:Bool,LIM F.spec_l1Chance [.rref [slc code,.int .i64 p] 0,.int .i64 n]=some (.bool b,[.agg [slc code,.int .i64 (p+1)]]):=by
 obtain⟨v,e,_⟩:=spec_l1Next hc p n hp;exact⟨decide (v=0),call2_of rfl 0 ((spec_l1Chance.ev _ _ _ _).trans (by simp only[evz,Nat.reduceLT,e]))⟩
theorem chance_s{Q:R->Prop}{p n:Int}{K:T×List T->R}(hp:0<=p/\p<=1099511627776)(k:∀b:Bool,Q (K (.bool b,[.agg [slc code,.int .i64 (p+1)]]))) :
 Q ((LIM F.spec_l1Chance [.rref [slc code,.int .i64 p] 0,.int .i64 n]).bind K):=by
 obtain⟨b,e⟩:=spec_l1Chance hc p n hp;rw[e];exact k b
theorem spec_l1Pick(p:Int)(l:List Int){ts:List T}(hts:cells l=ts)(hl:l≠[])(hp:0<=p/\p<=1099511627776) :
 ∃v∈l,LIM F.spec_l1Pick [.rref [slc code,.int .i64 p] 0,.sl 1 ts]=some (.int .i64 v,[.agg [slc code,.int .i64 (p+1)]]):=by
 subst hts;have h0:0<l.length:=List.length_pos_iff.2 hl;have hd:(cells l).length/1=l.length:=cells_div rfl;obtain⟨v,e,h1,h2⟩:=spec_l1Next hc p (l.length:Int) hp;obtain⟨i,rfl⟩:∃i:Nat,v=i:=⟨v.toNat,by omega⟩;have hi:i<l.length:=by have:=h2 (by omega);omega
 refine⟨l[i],List.getElem_mem hi,call2_of rfl 0 ((spec_l1Pick.ev _ _ _ _).trans ?_)⟩;simp only[evz,Nat.reduceLT,e,hi,List.getElem?_eq_getElem,enc_int]
theorem pick_s{Q:R->Prop}{p:Int}(l:List Int){ts:List T}{K:T×List T->R}(hts:cells l=ts)(hl:l≠[])(hp:0<=p/\p<=1099511627776)(k:∀v:Int,v∈l->Q (K (.int .i64 v,[.agg [slc code,.int .i64 (p+1)]]))) :
 Q ((LIM F.spec_l1Pick [.rref [slc code,.int .i64 p] 0,.sl 1 ts]).bind K):=by
 obtain⟨v,hv,e⟩:=spec_l1Pick hc p l hts hl hp;rw[e];exact k v hv
omit hc in
theorem laws_lwBig:Call F.laws_lwBig [slc code] (.bool (decide ((code.length:Int)>1048576))):=call_of rfl 0 ((laws_lwBig.ev _ _).trans (by simp only[evz,Nat.reduceLT]))
omit hc in
theorem spec_l1Source:LIM F.spec_l1Source [slc code]=some (.bx [slc code,.int .i64 0],[]):=call2_of rfl 0 (spec_l1Source.ev _ _)
end
set_option maxHeartbeats 1000000
structure Grown(l:List Symbol)(m:Nat)(vars:Int)(t:List Int):Prop where
 pos:1<=t.length
 le:t.length<=m
 node:∀n∈t,(0<=n/\n<l.length)\/(-vars<=n/\n <= -1)
 tree:∃x:Tm,x.ok (ar l)/\t=x.flat
theorem Grown.ok{l:List Symbol}{m:Nat}{vars:Int}{t:List Int}(h:Grown l m vars t)(hm:m<=24)(hv:vars<=12):TermOk l t:=by
 refine⟨h.pos,Nat.le_trans h.le hm,fun n hn=>?_,?_⟩
 ·rw[nodeOk_iff];rcases h.node n hn with h|h
  ·exact .inl h
  ·exact .inr (by omega)
 ·obtain⟨x,hx,rfl⟩:=h.tree;have:=Tm.skip_flat (a:=ar l) (fun n hn=>ar_neg l hn) x [] 0 hx;rwa[List.append_nil]at this
section
variable {code:List UInt8}(hc:code.length<=2097152){l:List Symbol}(ok:SigOk ⟨l⟩)
def TermS(code:List UInt8)(l:List Symbol)(p:Int)(m:Nat)(vars:Int)(r:R):Prop:=∃t p',r=some (slc t,[.agg [slc code,.int .i64 p']])/\p<=p'/\p'<=p+3*(t.length:Int)/\Grown l m vars t
include hc ok
theorem l3_var(p q:Int)(m:Nat)(vars:Int)(hm:1<=m)(hv:1<=vars/\vars<=12)(hp:0<=p/\p<=q/\q<=p+2/\q<=1099511627776) :
 TermS code l p m vars ((LIM F.spec_l1Next [.rref [slc code,.int .i64 q] 0,.int .i64 vars]).bind fun r=>(oCons r.2).bind fun p2=>(oNil p2.2).bind fun _=>(oAgg p2.1).bind fun c3=>(oCons c3).bind fun p4=>(oSl 1 p4.1).bind fun c5=>(oCons p4.2).bind fun p6=>(oInt .i64 p6.1).bind fun n7=>(oNil p6.2).bind fun _=>(oInt .i64 r.1).bind fun n8=>some (.sl 1 [.int .i64 (IntKind.wrap .i64 ((-1:Int)-n8))],[.agg [.sl 1 (cells code),.int .i64 n7]])):=by
 refine next_s hc (by omega) fun v h1 h2=>?_;have h2:=h2 hv.1;simp only[evz,Nat.reduceLT];rw[wrap64 (by omega)];exact⟨[-1-v],q+1,rfl,by omega,by simp;omega,⟨by simp,by simp;omega,fun n hn=>.inr (by rw[List.mem_singleton.1 hn];omega),.v (-1-v),by show -1-v<0;omega,rfl⟩⟩
noncomputable def l3fin(l:List Symbol)(code:List UInt8)(m vars x4 p:Int):R:=
 (bif inB x4 ((cells l).length/2)then(((cells l)[(((Int.toNat x4)*2)+1)]?).bind fun e71=>((oInt .i64 e71).bind fun n72=>(bif ((n72==(1:Int)))then((LIM F.spec_l3Draw [(.rref [(.sl 1 (cells code)),(.int .i64 p)] 0),(.rref [(.sl 2 (cells l))] 0),(.int .i64 (IntKind.wrap .i64 (m-(1:Int)))),(.int .i64 vars)]).bind fun r73=>((oCons r73.2).bind fun p74=>((oNil p74.2).bind fun _=>((oAgg p74.1).bind fun c75=>((oCons c75).bind fun p76=>((oSl 1 p76.1).bind fun c77=>((oCons p76.2).bind fun p78=>((oInt .i64 p78.1).bind fun n79=>((oNil p78.2).bind fun _=>((oSl 1 r73.1).bind fun c80=>(bif (c80).all T.scalar then(bif Nat.ble ((1+(c80).length)*8) (140737488355328*1)then some ((.sl 1 ([(.int .i64 x4)]++c80:List T)),[(.agg [(.sl 1 (cells code)),(.int .i64 n79)])])else none)else none)))))))))))else(bif ((n72==(2:Int)))then((LIM F.spec_l3Draw [(.rref [(.sl 1 (cells code)),(.int .i64 p)] 0),(.rref [(.sl 2 (cells l))] 0),(.int .i64 (IntKind.wrap .i64 (m-(2:Int)))),(.int .i64 vars)]).bind fun r81=>((oCons r81.2).bind fun p82=>((oNil p82.2).bind fun _=>((oAgg p82.1).bind fun c83=>((oCons c83).bind fun p84=>((oSl 1 p84.1).bind fun c85=>((oCons p84.2).bind fun p86=>((oInt .i64 p86.1).bind fun n87=>((oNil p86.2).bind fun _=>((oSl 1 r81.1).bind fun c88=>(bif (c88).all T.scalar then(bif Nat.ble ((1+(c88).length)*8) (140737488355328*1)then((LIM F.spec_l3Draw [(.rref [(.sl 1 (cells code)),(.int .i64 n87)] 0),(.rref [(.sl 2 (cells l))] 0),(.int .i64 (IntKind.wrap .i64 ((IntKind.wrap .i64 (m-(1:Int)))-((((c88).length/1):Nat):Int)))),(.int .i64 vars)]).bind fun r89=>((oCons r89.2).bind fun p90=>((oNil p90.2).bind fun _=>((oAgg p90.1).bind fun c91=>((oCons c91).bind fun p92=>((oSl 1 p92.1).bind fun c93=>((oCons p92.2).bind fun p94=>((oInt .i64 p94.1).bind fun n95=>((oNil p94.2).bind fun _=>((oSl 1 r89.1).bind fun c96=>(bif (c96).all T.scalar then(bif Nat.ble (((([(.int .i64 x4)]++c88:List T)).length+(c96).length)*8) (140737488355328*1)then some ((.sl 1 (([(.int .i64 x4)]++c88:List T)++c96:List T)),[(.agg [(.sl 1 (cells code)),(.int .i64 n95)])])else none)else none)))))))))))else none)else none)))))))))))else some ((.sl 1 [(.int .i64 x4)]),[(.agg [(.sl 1 (cells code)),(.int .i64 p)])])))))else none)
theorem l3_fin(p q:Int)(m:Nat)(vars:Int)(hm:1<=m/\m<=1000)(hv:0<=vars/\vars<=12)(hp:0<=p/\p<=q/\q<=p+3/\p+10*(m:Int)<=1099511020000)
 (ih:∀k,1<=k->k<m->∀p,0<=p/\p+10*(k:Int)<=1099511020000->TermS code l p k vars (LIM F.spec_l3Draw [.rref [slc code,.int .i64 p] 0,.rref [slc l] 0,.int .i64 k,.int .i64 vars]))
 (i:Nat) (hi:i<l.length) (ha:l[i].arity<m):TermS code l p m vars (l3fin l code m vars i q):=by
 obtain⟨a1,a2⟩:=ok.arity l[i] (List.getElem_mem hi);have har:(ar l (i:Int):Int)=l[i].arity:=(ar_eq ok (n:=(i:Int)) (by omega) (by simpa using hi)).symm;unfold l3fin;have hn0:(0:Int)<=i/\(i:Int)<l.length:=by omega
 simp only[evz,Nat.reduceLT,hi,List.getElem?_eq_getElem,enc_Symbol];by_cases h1:l[i].arity=1
 ·simp only[evz,Nat.reduceLT,h1];rw[wrap64 (by omega),show(m:Int)-1=((m-1:Nat):Int) by omega];obtain⟨t,p',e,q1,q2,g⟩:=ih (m-1) (by omega) (by omega) q (by omega);have hl:=g.le;have e2:(cells t).length=t.length:=by rw[cells_length];simp
  simp only[evz,Nat.reduceLT,e,scalars_int];rw[cond_pos (ble_ok (by rw[e2];omega))];refine⟨(i:Int)::t,p',rfl,by omega,by simp;omega,⟨by simp,by simp;omega,fun n hn=>?_,?_⟩⟩
  ·rcases List.mem_cons.1 hn with rfl|hn
   ·exact .inl hn0
   ·exact g.node n hn
  ·obtain⟨x,hx,rfl⟩:=g.tree;exact⟨.u i x,⟨by omega,by omega,hx⟩,rfl⟩
 by_cases h2:l[i].arity=2
 ·simp only[evz,Nat.reduceLT,h2,Int.reduceEq];rw[wrap64 (x:=(m:Int)-2) (by omega),show(m:Int)-2=((m-2:Nat):Int) by omega];obtain⟨t,p',e,q1,q2,g⟩:=ih (m-2) (by omega) (by omega) q (by omega);have hl:=g.le;have hl1:=g.pos;have e2:(cells t).length=t.length:=by rw[cells_length];simp
  simp only[evz,Nat.reduceLT,e,scalars_int];rw[cond_pos (ble_ok (by rw[e2];omega)),wrap64 (x:=(m:Int)-1) (by omega),wrap64 (by omega),show(m:Int)-1-(t.length:Int)=((m-1-t.length:Nat):Int) by omega];obtain⟨t2,p2,e',q3,q4,g2⟩:=ih (m-1-t.length) (by omega) (by omega) p' (by omega);have hl2:=g2.le;have e3:(cells t2).length=t2.length:=by rw[cells_length];simp
  simp only[evz,Nat.reduceLT,e',scalars_int];rw[cond_pos (ble_ok (by simp only[List.length_append,List.length_singleton];rw[e2,e3];omega))];refine⟨(i:Int)::(t++t2),p2,by rw[List.append_assoc,<- cells_append];rfl,by omega,by simp;omega,⟨by simp,by simp;omega,fun n hn=>?_,?_⟩⟩
  ·rcases List.mem_cons.1 hn with rfl|hn
   ·exact .inl hn0
   ·rcases List.mem_append.1 hn with hn|hn
    ·exact g.node n hn
    ·exact g2.node n hn
  ·obtain⟨x,hx,rfl⟩:=g.tree;obtain⟨y,hy,rfl⟩:=g2.tree;exact⟨.b i x y,⟨by omega,by omega,hx,hy⟩,rfl⟩
 simp only[evz,Nat.reduceLT,h1,h2];exact⟨[(i:Int)],q,rfl,by omega,by simp;omega,⟨by simp,by simp;omega,fun n hn=>by rw[List.mem_singleton.1 hn];exact .inl hn0,.k i,⟨by omega,by omega⟩,rfl⟩⟩
omit hc ok in
theorem mod_step{n d k c:Nat}(h:(n+(d+1)) % k=c):((n+1) % k+d) % k=c:=by
 rw[Nat.mod_add_mod,show n+1+d=n+(d+1) by omega];exact h
omit hc ok in
theorem mod_to{n c k:Nat}(hn:n<k)(hc:c<k):∃d,d<k/\(n+d) % k=c:=by
 by_cases h:n<=c
 ·exact⟨c-n,by omega,by rw[show n+(c-n)=c by omega,Nat.mod_eq_of_lt hc]⟩
 ·exact⟨c+k-n,by omega,by rw[show n+(c+k-n)=c+k by omega,Nat.add_mod_right,Nat.mod_eq_of_lt hc]⟩
theorem l3_loops(p q:Int)(m:Nat)(vars:Int)(hm:1<=m/\m<=1000)(hv:0<=vars/\vars<=12)(hp:0<=p/\p<=q/\q<=p+3/\p+10*(m:Int)<=1099511020000)
 (ih:∀k,1<=k->k<m->∀p,0<=p/\p+10*(k:Int)<=1099511020000->TermS code l p k vars (LIM F.spec_l3Draw [.rref [slc code,.int .i64 p] 0,.rref [slc l] 0,.int .i64 k,.int .i64 vars]))
 (i:Nat) (hi:i<l.length):TermS code l p m vars (spec_l3Draw.at0 10 10 (spec_l3Draw.st0 (cells l) m vars l.length i 0 (cells code) q)):=by
 have hle:=ok.le;simp only at hle;obtain⟨y,hy,hy0⟩:=ok.const;obtain⟨c,hcl,hcy⟩:=List.getElem_of_mem hy;have hcl:c<l.length:=hcl
 have hca:l[c].arity=0:=by
  have:l[c]=y:=hcy;rw[this];exact hy0
 have fin:=l3_fin hc ok p q m vars hm hv hp ih
 have step2:∀i,i<l.length->TermS code l p m vars (spec_l3Draw.at2 10 10 (spec_l3Draw.st2 (cells l) m vars l.length (i:Nat) 0 (cells code) q)):=fun i hi=>by
  obtain⟨d,hd,hdc⟩:=mod_to hi hcl;refine draw_loop (σ:=Nat×Nat×Nat) (S:=fun k s=>spec_l3Draw.at2 10 k (spec_l3Draw.st2 (cells l) m vars l.length (s.1:Nat) (s.2.1:Nat) (cells code) q)) (fun s=>s.1<l.length/\(s.1+s.2.2) % l.length=c/\s.2.1+s.2.2<l.length) (fun s=>s.2.2) (fun k s hs=>?_) _ (i,0,d) ⟨hi,hdc,by simp only;omega⟩ (by simp only;omega);obtain⟨n,j,d⟩:=s;obtain⟨h1,h2,h3⟩:=hs;simp only at h1 h2 h3 ⊢;have hj:j<l.length:=by omega
  have hl0:¬((l.length:Nat):Int)=0:=by omega
  by_cases ha:l[n].arity>0
  ·right;cases d with
   |zero=>
    rw[Nat.add_zero,Nat.mod_eq_of_lt h1]at h2;subst h2;omega
   |succ d=>
    refine⟨((n+1) % l.length,j+1,d),?_,⟨Nat.mod_lt _ (by omega),mod_step h2,by simp only;omega⟩,by simp only;omega⟩;simp only[spec_l3Draw.next2,spec_l3Draw.round2,evz,Nat.reduceLT,hj,h1,List.getElem?_eq_getElem,enc_Symbol,ha,hl0];rw[wrap_succ (by omega),wrap_succ (by omega)];congr 2
  ·left;have hf:=fin n h1 (by omega);simp only[spec_l3Draw.next2,spec_l3Draw.round2,evz,Nat.reduceLT,hj,h1,List.getElem?_eq_getElem,enc_Symbol,ha];unfold l3fin at hf;simp only[evz,Nat.reduceLT,h1,List.getElem?_eq_getElem,enc_Symbol]at hf;exact hf
 obtain⟨d,hd,hdc⟩:=mod_to hi hcl;refine draw_loop (σ:=Nat×Nat×Nat) (S:=fun k s=>spec_l3Draw.at0 10 k (spec_l3Draw.st0 (cells l) m vars l.length (s.1:Nat) (s.2.1:Nat) (cells code) q)) (fun s=>s.1<l.length/\(s.1+s.2.2) % l.length=c/\s.2.1+s.2.2<l.length) (fun s=>s.2.2) (fun k s hs=>?_) _ (i,0,d) ⟨hi,hdc,by simp only;omega⟩ (by simp only;omega);obtain⟨n,j,d⟩:=s;obtain⟨h1,h2,h3⟩:=hs;simp only at h1 h2 h3 ⊢;have hj:j<l.length:=by omega
 have hl0:¬((l.length:Nat):Int)=0:=by omega
 by_cases ha:l[n].arity>=m
 ·right;cases d with
  |zero=>
   rw[Nat.add_zero,Nat.mod_eq_of_lt h1]at h2;subst h2;omega
  |succ d=>
   refine⟨((n+1) % l.length,j+1,d),?_,⟨Nat.mod_lt _ (by omega),mod_step h2,by simp only;omega⟩,by simp only;omega⟩;simp only[spec_l3Draw.next0,spec_l3Draw.round0,evz,Nat.reduceLT,hj,h1,List.getElem?_eq_getElem,enc_Symbol,ha,hl0];rw[wrap_succ (by omega),wrap_succ (by omega)];congr 2
 ·left;simp only[spec_l3Draw.next0,spec_l3Draw.round0,evz,Nat.reduceLT,hj,h1,List.getElem?_eq_getElem,enc_Symbol,ha];by_cases hm2:(m:Int)<2
  ·simp only[evz,Nat.reduceLT,hm2];exact step2 n h1
  ·have hf:=fin n h1 (by omega);unfold l3fin at hf;simp only[evz,Nat.reduceLT,h1,List.getElem?_eq_getElem,enc_Symbol]at hf;simp only[evz,Nat.reduceLT,hm2];exact hf
theorem spec_l3DrawS(vars:Int)(hv:0<=vars/\vars<=12):∀(m:Nat),1<=m->m<=1000->∀p,0<=p/\p+10*(m:Int)<=1099511020000->TermS code l p m vars (LIM F.spec_l3Draw [.rref [slc code,.int .i64 p] 0,.rref [slc l] 0,.int .i64 m,.int .i64 vars]):=by
 intro m;induction m using Nat.strongRecOn with
 |ind m ih=>
  intro hm1 hm2 p hp;have hle:=ok.le;have hpos:=ok.pos;simp only at hle hpos
  suffices h:TermS code l p m vars (callK prog A H LIM 10 F.spec_l3Draw [.rref [slc code,.int .i64 p] 0,.rref [slc l] 0,.int .i64 m,.int .i64 vars]) by
   obtain⟨t,p',e,r⟩:=h;exact⟨t,p',lim_of rfl 10 e,r⟩
  rw[show callK prog A H LIM 10 F.spec_l3Draw [.rref [slc code,.int .i64 p] 0,.rref [slc l] 0,.int .i64 m,.int .i64 vars]=_ from spec_l3Draw.ev _ _ _ _ _ _]
  have node:∀q,p<=q->q<=p+2->TermS code l p m vars ((LIM F.spec_l1Next [.rref [slc code,.int .i64 q] 0,.int .i64 (l.length:Int)]).bind fun r=>(oCons r.2).bind fun p2=>(oNil p2.2).bind fun _=>(oAgg p2.1).bind fun c3=>(oCons c3).bind fun p4=>(oSl 1 p4.1).bind fun c5=>(oCons p4.2).bind fun p6=>(oInt .i64 p6.1).bind fun n7=>(oNil p6.2).bind fun _=>(oInt .i64 r.1).bind fun n8=>spec_l3Draw.at0 10 10 (spec_l3Draw.st0 (cells l) m vars l.length n8 0 (cells code) n7)):=fun q q1 q2=>by
   refine next_s hc (by omega) fun v h1 h2=>?_;have h2:=h2 (by omega);obtain⟨i,rfl⟩:∃i:Nat,v=i:=⟨v.toNat,by omega⟩;simp only[evz,Nat.reduceLT];exact l3_loops hc ok p (q+1) m vars ⟨hm1,hm2⟩ hv (by omega) (fun k k1 k2 p hp=>ih k k2 k1 (by omega) p hp) i (by omega)
  by_cases hv0:vars>0
  ·simp only[evz,Nat.reduceLT,hv0]
   have rest:∀q,p<=q->q<=p+1->TermS code l p m vars ((LIM F.spec_l1Chance [.rref [slc code,.int .i64 q] 0,.int .i64 4]).bind fun r=>(oCons r.2).bind fun p2=>(oNil p2.2).bind fun _=>(oAgg p2.1).bind fun c3=>(oCons c3).bind fun p4=>(oSl 1 p4.1).bind fun c5=>(oCons p4.2).bind fun p6=>(oInt .i64 p6.1).bind fun n7=>(oNil p6.2).bind fun _=>(oBool r.1).bind fun b8=>
    bif b8 then((LIM F.spec_l1Next [.rref [slc code,.int .i64 n7] 0,.int .i64 vars]).bind fun r=>(oCons r.2).bind fun p2=>(oNil p2.2).bind fun _=>(oAgg p2.1).bind fun c3=>(oCons c3).bind fun p4=>(oSl 1 p4.1).bind fun c5=>(oCons p4.2).bind fun p6=>(oInt .i64 p6.1).bind fun n7=>(oNil p6.2).bind fun _=>(oInt .i64 r.1).bind fun n8=>some (.sl 1 [.int .i64 (IntKind.wrap .i64 ((-1:Int)-n8))],[.agg [slc code,.int .i64 n7]]))
    else((LIM F.spec_l1Next [.rref [slc code,.int .i64 n7] 0,.int .i64 (l.length:Int)]).bind fun r=>(oCons r.2).bind fun p2=>(oNil p2.2).bind fun _=>(oAgg p2.1).bind fun c3=>(oCons c3).bind fun p4=>(oSl 1 p4.1).bind fun c5=>(oCons p4.2).bind fun p6=>(oInt .i64 p6.1).bind fun n7=>(oNil p6.2).bind fun _=>(oInt .i64 r.1).bind fun n8=>spec_l3Draw.at0 10 10 (spec_l3Draw.st0 (cells l) m vars l.length n8 0 (cells code) n7))):=fun q q1 q2=>by
    refine chance_s hc (by omega) fun b=>?_;simp only[evz,Nat.reduceLT];cases b with
    |true=>exact l3_var hc ok p (q+1) m vars hm1 (by omega) (by omega)
    |false=>exact node (q+1) (by omega) (by omega)
   by_cases hm3:(m:Int)<2
   ·simp only[evz,Nat.reduceLT,hm3];refine chance_s hc (by omega) fun b=>?_;simp only[evz,Nat.reduceLT];cases b with
    |true=>exact l3_var hc ok p (p+1) m vars hm1 (by omega) (by omega)
    |false=>exact rest (p+1) (by omega) (by omega)
   ·simp only[evz,Nat.reduceLT,hm3];exact rest p (by omega) (by omega)
  ·simp only[evz,Nat.reduceLT,hv0];exact node p (by omega) (by omega)
theorem spec_l3Draw(p most vars:Int)(hm:1<=most/\most<=1000)(hv:0<=vars/\vars<=12)(hp:0<=p/\p<=1099511000000) :
 Drawn code p 3000 (fun x=>∃t,x=slc t/\Grown l most.toNat vars t) (LIM F.spec_l3Draw [.rref [slc code,.int .i64 p] 0,.rref [slc l] 0,.int .i64 most,.int .i64 vars]):=by
 obtain⟨t,p',e,h1,h2,g⟩:=spec_l3DrawS hc ok vars hv most.toNat (by omega) (by omega) p (by omega);rw[show((most.toNat:Nat):Int)=most by omega]at e;have:=g.le;exact⟨_,p',e,h1,by omega,t,rfl,g⟩
end
end Ev.Ty
end
section
namespace Ev.Ty
end Ev.Ty
end
section
namespace Ev.Ty
open Go Ev
open Enc (enc)
open Sm (sm)
theorem skip_inner{a:Int->Nat}:∀{t r:List Int}{k p:Nat},skip a k t=some r->p+r.length<t.length->∃q,skip a 1 (t.drop p)=some q
 |[],r,k,p,h,hp=>by simp at hp
 |n::t,r,0,p,h,hp=>by
  rw[skip_zero]at h;cases h;omega
 |n::t,r,k+1,0,h,hp=>by
  rw[show k+1=1+k by omega,skip_add]at h;cases h1:skip a 1 (n::t)with
  |none=>rw[h1]at h;cases h
  |some q=>exact⟨q,by simpa using h1⟩
 |n::t,r,k+1,p+1,h,hp=>by
  rw[skip]at h;obtain⟨q,hq⟩:=skip_inner (p:=p) h (by simp at hp;omega);exact⟨q,by simpa using hq⟩
def endAt(l:List Symbol)(t:List Int)(p:Nat):Nat:=match skip (ar l) 1 (t.drop p)with
 |some r=>t.length-r.length
 |none=>t.length
theorem endAt_spec{l:List Symbol}{t:List Int}(ok:TermOk l t){p:Nat}(hp:p<t.length) :
 p<endAt l t p/\endAt l t p<=t.length/\∀z,endRes z t (skip (ar l) 1 (t.drop p))=(endAt l t p:Nat):=by
 obtain⟨q,hq⟩:=skip_inner (p:=p) ok.skip (by simpa using hp);have h:=skip_at hq;unfold endAt;rw[hq];refine⟨?_,by simp only;omega,fun z=>rfl⟩;have:=h.2.2 (by omega);simp only;omega
section
variable {l:List Symbol}(ok:SigOk ⟨l⟩)
include ok
theorem l3End_at{t:List Int}(ht:TermOk l t){p:Nat}(hp:p<t.length):Call F.spec_l3End [.rref [slc l] 0,slc t,.int .i64 p] (.int .i64 (endAt l t p:Nat)):=by
 have h:=spec_l3End ok t ht.node (by have:=ht.le;omega) p (Nat.le_of_lt hp);rwa[(endAt_spec ht hp).2.2]at h
end
theorem cells_cut(t:List Int)(i j:Nat):((cells t).take (j*1)).drop (i*1)=cells ((t.take j).drop i):=by
 rw[cells_take t 1 j rfl,cells_drop _ 1 i rfl]
def subAt(l:List Symbol)(t:List Int)(p:Nat):List Int:=(t.take (endAt l t p)).drop p
section
variable {l:List Symbol}(ok:SigOk ⟨l⟩)
include ok
end
def bindOf(vs:List Int)(ts:List (List Int))(v:Int):Option (List Int):=if idx (fun x=>decide (x=v)) vs<0 then none else ts[(idx (fun x=>decide (x=v)) vs).toNat]?
theorem slices_Index_Sint64(l:List Int)(x:Int)(hl:l.length<=4294967296):Call F.slices_Index_Sint64 [slc l,.int .i64 x] (.int .i64 (idx (fun y=>decide (y=x)) l)):=by
 refine call_of rfl (l.length+1) ((slices_Index_Sint64.ev _ _ _).trans ?_);simp only[evz,Nat.reduceLT];refine idx_loop (S:=fun m k=>slices_Index_Sint64.at0 (l.length+1) m (slices_Index_Sint64.st0 (cells l) x l.length (k:Nat))) (fun m k h=>?_) (fun m=>?_) (Nat.lt_succ_self _)
 ·have hlk:l[k]?=some l[k]:=List.getElem?_eq_getElem h;simp only[slices_Index_Sint64.next0,slices_Index_Sint64.round0,evz,Nat.reduceLT,h,hlk,enc_int];rw[wrap_succ (by omega)];by_cases e:x=l[k]
  ·simp[e]
  ·have e':¬ l[k]=x:=fun h=>e h.symm;simp[e,e']
 ·simp only[slices_Index_Sint64.next0,slices_Index_Sint64.round0,evz,Nat.reduceLT,Nat.lt_irrefl]
def ofT:Option (List Int)->T
 |some t=>.tup [slc t,.bool true]
 |none=>.tup [slc ([]:List Int),.bool false]
theorem impl_Binding_of(vs:List Int)(ts:List (List Int))(v:Int)(hl:vs.length=ts.length)(hs:vs.length<=4294967296):Call F.impl_Binding_of [.agg [slc vs,slc ts],.int .i64 v] (ofT (bindOf vs ts v)):=by
 refine call_of rfl 0 ((impl_Binding_of.ev _ _ _ _).trans ?_);simp only[evz,Nat.reduceLT,(slices_Index_Sint64 vs v hs).eq,bindOf];rcases idx_spec (fun x:Int=>decide (x=v)) vs with⟨h,_⟩|⟨i,hi,h,_,_⟩
 ·simp only[h,evz,Nat.reduceLT,ofT,slc_nil,show((-1:Int)<0)=True from by simp]
 ·have hn:¬((i:Nat):Int)<0:=by omega
  have hit:i<ts.length:=by omega
  simp only[h,hn,evz,Nat.reduceLT,hit,List.getElem?_eq_getElem,enc_list,ofT]
theorem spec_l6Term(vs:List Int)(ts:List (List Int))(v:Int)(hl:vs.length=ts.length)(hs:vs.length<=4294967296):Call F.spec_l6Term [.rref [slc vs,slc ts] 0,.int .i64 v] (slc ((bindOf vs ts v).getD [])):=by
 refine call_of rfl (vs.length+1) ((spec_l6Term.ev _ _ _ _).trans ?_)
 have loop:=scan_loop (l:=List.range vs.length) (g:=fun k=>if vs[k]?=some v then some (some (slc (ts[k]?.getD []),[]))else none) (z:=some (slc ([]:List Int),[]))
  (S:=fun m k=>spec_l6Term.at0 (vs.length+1) m (spec_l6Term.st0 (cells vs) (cells ts) v (k:Nat))) (fun m k h=>?_) (fun m=>?_) (f:=vs.length+1) (by simp)
 ·refine loop.trans ?_;unfold bindOf;rcases idx_spec (fun x:Int=>decide (x=v)) vs with⟨h,hno⟩|⟨i,hi,h,hyes,hno⟩
  ·rw[h,if_pos (by omega)]
   have:(List.range vs.length).findSome? (fun k=>if vs[k]?=some v then some ((some (slc (ts[k]?.getD []),[]):R))else none)=none:=by
    rw[List.findSome?_eq_none_iff];intro k hk;rw[List.mem_range]at hk;rw[if_neg];rw[List.getElem?_eq_getElem hk];intro e;have:=hno _ (List.getElem_mem hk);simp at this e;exact this e
   rw[this];rfl
  ·rw[h,if_neg (by omega)];have hit:i<ts.length:=by omega
   have:(List.range vs.length).findSome? (fun k=>if vs[k]?=some v then some ((some (slc (ts[k]?.getD []),[]):R))else none)=some (some (slc ts[i],[])):=by
    rw[List.findSome?_eq_some_iff];refine⟨List.range i,i,(List.range' (i+1) (vs.length-i-1)),?_,?_,?_⟩
    ·rw[List.range_eq_range',List.range_eq_range',<- List.range'_succ,show vs.length-i-1+1=vs.length-i by omega];have:=List.range'_append (s:=0) (m:=i) (n:=vs.length-i) (step:=1);simp only[Nat.one_mul,Nat.zero_add]at this;rw[this,Nat.add_sub_cancel' (Nat.le_of_lt hi)]
    ·have e1:vs[i]?=some v:=(List.getElem?_eq_getElem hi).trans (congrArg some (of_decide_eq_true hyes));have e2:ts[i]?=some ts[i]:=List.getElem?_eq_getElem hit;simp only[e1,e2,if_true,Option.getD_some]
    ·intro k hk;rw[List.mem_range]at hk;rw[if_neg];rw[List.getElem?_eq_getElem (by omega)];intro e;have:=hno k hk;simp at this e;exact this e
   rw[this,Int.toNat_natCast,List.getElem?_eq_getElem hit];rfl
 ·rw[List.length_range]at h;have hlk:vs[k]?=some vs[k]:=List.getElem?_eq_getElem h;have hkt:k<ts.length:=by omega
  simp only[spec_l6Term.next0,spec_l6Term.round0,evz,Nat.reduceLT,h,hkt,hlk,List.getElem?_eq_getElem,enc_int,enc_list,List.getElem_range,Option.getD_some,Option.some.injEq];rw[wrap_succ (by omega)];by_cases e:vs[k]=v <;> simp[e]
 ·rw[List.length_range];simp only[spec_l6Term.next0,spec_l6Term.round0,evz,Nat.reduceLT,Nat.lt_irrefl,slc_nil]
def applied(vs:List Int)(ts:List (List Int))(t:List Int):List Int:=t.flatMap fun n=>(bindOf vs ts (-1-n)).getD [n]
structure BindOk(vs:List Int)(ts:List (List Int)):Prop where
 len:vs.length=ts.length
 le:vs.length<=1000
 nn:∀v∈vs,0<=v
 tm:∀t∈ts,1<=t.length/\t.length<=4096
theorem bindOf_neg{vs:List Int}{ts:List (List Int)}(ok:BindOk vs ts){v:Int}(hv:v<0):bindOf vs ts v=none:=by
 unfold bindOf;rcases idx_spec (fun x:Int=>decide (x=v)) vs with⟨h,_⟩|⟨i,hi,h,hy,_⟩
 ·rw[if_pos (by omega)]
 ·have:=ok.nn _ (List.getElem_mem hi);simp at hy;omega
theorem bindOf_mem{vs:List Int}{ts:List (List Int)}{v:Int}{t:List Int}(h:bindOf vs ts v=some t):t∈ts:=by
 unfold bindOf at h;split at h
 ·cases h
 ·exact List.mem_of_getElem? h
def appStep(vs:List Int)(ts:List (List Int))(o:List Int)(n:Int):List Int:=o++(bindOf vs ts (-1-n)).getD [n]
theorem app_fold(vs:List Int)(ts:List (List Int)):∀(t o:List Int),t.foldl (appStep vs ts) o=o++applied vs ts t
 |[],o=>by simp[applied]
 |n::t,o=>by
  rw[List.foldl_cons,app_fold vs ts t];simp[appStep,applied]
def appI(k:Nat)(o:List Int):Prop:=o.length<=k*4096
theorem appI_step{vs:List Int}{ts:List (List Int)}(ok:BindOk vs ts){k:Nat}{o:List Int}{n:Int}(h:appI k o):appI (k+1) (appStep vs ts o n):=by
 unfold appI appStep at *;rw[List.length_append];cases hb:bindOf vs ts (-1-n)with
 |none=>simp;omega
 |some t=>have:=(ok.tm t (bindOf_mem hb)).2;simp;omega
theorem impl_Binding_applied(vs:List Int)(ts:List (List Int))(ok:BindOk vs ts)(t:List Int)(ht:t.length<=4096)(hr:∀n∈t,-4611686018427387904<=n/\n<=4611686018427387904):Call F.impl_Binding_applied [.agg [slc vs,slc ts],slc t] (slc (applied vs ts t)):=by
 have hle:=ok.le;refine call_of rfl (t.length+1) ((impl_Binding_applied.ev _ _ _ _).trans ?_);simp only[cells_div,sz_int]
 have key:=fold_loop (l:=t) (f:=t.length+1) (S:=fun m k (o:List Int)=>impl_Binding_applied.at0 (t.length+1) m (impl_Binding_applied.st0 (cells t) t.length (k:Nat) (cells vs) (cells ts) (cells o))) (g:=appStep vs ts) (z:=fun(o:List Int)=>some (slc o,[])) appI
  (fun m k o h ho=>?_) (fun k o h ho=>appI_step ok ho) (fun m o ho=>?_) [] (by simp[appI]) (by omega)
 ·rw[app_fold]at key;exact key
 ·have hn:=hr _ (List.getElem_mem h);have ho:o.length<=k*4096:=ho;simp only[impl_Binding_applied.next0,impl_Binding_applied.round0,evz,Nat.reduceLT,h,List.getElem?_eq_getElem,enc_int,wrap64 (x := -1-t[k]) (by omega),(impl_Binding_of vs ts (-1-t[k]) ok.len (by omega)).eq,appStep];cases hb:bindOf vs ts (-1-t[k])with
  |none=>
   simp only[ofT,evz,Nat.reduceLT,scalars_int,Option.getD_none,<- cells_append];rw[cond_pos (ble_ok (by rw[cells_length,sz_int];omega)),cells_snoc_int,wrap_succ (by omega)]
  |some x=>
   have hx:=(ok.tm x (bindOf_mem hb)).2;simp only[ofT,evz,Nat.reduceLT,scalars_int,Option.getD_some,<- cells_append];rw[cond_pos (ble_ok (by rw[cells_length,cells_length,sz_int];omega)),wrap_succ (by omega)]
 ·simp only[impl_Binding_applied.next0,impl_Binding_applied.round0,evz,Nat.reduceLT,Nat.lt_irrefl]
theorem spec_l6Apply(vs:List Int)(ts:List (List Int))(ok:BindOk vs ts)(t:List Int)(ht:t.length<=4096)(hr:∀n∈t,-4611686018427387904<=n/\n<=4611686018427387904):Call F.spec_l6Apply [.rref [slc vs,slc ts] 0,slc t] (slc (applied vs ts t)):=by
 have hle:=ok.le;refine call_of rfl (t.length+1) ((spec_l6Apply.ev _ _ _ _).trans ?_)
 have key:=fold_loop (l:=t) (f:=t.length+1) (S:=fun m k (o:List Int)=>spec_l6Apply.at0 (t.length+1) m (spec_l6Apply.st0 (cells vs) (cells ts) (cells t) (k:Nat) (cells o))) (g:=appStep vs ts) (z:=fun(o:List Int)=>some (slc o,[])) appI
  (fun m k o h ho=>?_) (fun k o h ho=>appI_step ok ho) (fun m o ho=>?_) [] (by simp[appI]) (by omega)
 ·rw[app_fold]at key;exact key
 ·have hn:=hr _ (List.getElem_mem h);have ho:o.length<=k*4096:=ho;by_cases hneg:t[k]<0
  ·simp only[spec_l6Apply.next0,spec_l6Apply.round0,evz,Nat.reduceLT,h,List.getElem?_eq_getElem,enc_int,hneg,wrap64 (x := -1-t[k]) (by omega),(spec_l6Term vs ts (-1-t[k]) ok.len (by omega)).eq,appStep];cases hb:bindOf vs ts (-1-t[k])with
   |none=>
    simp only[slc_nil,evz,Nat.reduceLT,List.all_nil,Option.getD_none,cells_nil,List.length_nil,<- cells_append,Int.natCast_zero,Nat.zero_div,Int.ofNat_zero];rw[cond_pos (ble_ok (by rw[cells_length,sz_int];omega)),cells_snoc_int,wrap_succ (by omega)]
   |some x=>
    have hx:=ok.tm x (bindOf_mem hb);have hx0:¬((x.length:Int)=0):=by omega
    simp only[evz,Nat.reduceLT,scalars_int,Option.getD_some,hx0,<- cells_append];rw[cond_pos (ble_ok (by rw[cells_length,cells_length,sz_int];omega)),wrap_succ (by omega)]
  ·simp only[spec_l6Apply.next0,spec_l6Apply.round0,evz,Nat.reduceLT,h,List.getElem?_eq_getElem,enc_int,hneg,appStep,bindOf_neg ok (v := -1-t[k]) (by omega),Option.getD_none];rw[cond_pos (ble_ok (by rw[cells_length,sz_int];omega)),cells_snoc_int,wrap_succ (by omega)]
 ·simp only[spec_l6Apply.next0,spec_l6Apply.round0,evz,Nat.reduceLT,Nat.lt_irrefl]
def pairFault(l:List Symbol)(x:Int×List Int):Option Int:=if inR x.1 0 11=false then some 3 else if termFault0 l x.2≠0 then some (termFault0 l x.2)else none
def falls(vs:List Int):Bool:=(List.range (vs.length-1)).any fun i=>decide (vs.getD (i+1) 0<=vs.getD i 0)
def bindFault0(l:List Symbol)(vs:List Int)(ts:List (List Int)):Int:=
 if vs.length≠ts.length\/12<vs.length then 2 else match (vs.zip ts).findSome? (pairFault l)with
  |some c=>c
  |none=>if falls vs=true then 1 else 0
theorem bindOk_of{l:List Symbol}{vs:List Int}{ts:List (List Int)}(h:bindFault0 l vs ts=0):BindOk vs ts:=by
 unfold bindFault0 at h;split at h
 ·cases h
 ·rename_i h1;have hlen:vs.length=ts.length:=by omega
  split at h
  ·rename_i c hc;obtain⟨x,_,hx⟩:=List.exists_of_findSome?_eq_some hc;unfold pairFault at hx;split at hx
   ·cases hx;cases h
   ·split at hx
    ·rename_i hne;cases hx;exact absurd h hne
    ·cases hx
  ·rename_i hn
   have hp:∀k (hk:k<vs.length),(inR vs[k] 0 11=true)/\TermOk l (ts[k]'(by omega)):=fun k hk=>by
    have hz:k<(vs.zip ts).length:=by rw[List.length_zip];omega
    have:=List.findSome?_eq_none_iff.1 hn _ (List.getElem_mem hz);rw[List.getElem_zip]at this;unfold pairFault at this;split at this
    ·cases this
    ·rename_i q1;split at this
     ·cases this
     ·rename_i q2;exact⟨by simpa using q1,(termOk_iff _ _).1 (by simpa using q2)⟩
   refine⟨hlen,by omega,fun v hv=>?_,fun t ht=>?_⟩
   ·obtain⟨k,hk,rfl⟩:=List.getElem_of_mem hv;exact(inR_iff.1 (hp k hk).1).1
   ·obtain⟨k,hk,rfl⟩:=List.getElem_of_mem ht;have ok:=(hp k (by omega)).2;exact⟨ok.pos,by have:=ok.le;omega⟩
theorem getD_at{vs:List Int}{k:Nat}(h:k<vs.length):vs.getD k 0=vs[k]:=by rw[List.getD_eq_getElem?_getD,List.getElem?_eq_getElem h];rfl
theorem spec_l1Rise(vs:List Int)(hl:vs.length<=4294967296):Call F.spec_l1Rise [slc vs] (.bool (!falls vs)):=by
 refine call_of rfl (vs.length+1) ((spec_l1Rise.ev _ _).trans ?_);refine(any_loop (n:=vs.length-1) (bad:=fun i=>decide (vs.getD (i+1) 0<=vs.getD i 0)) (r:=some (.bool false,[])) (z:=some (.bool true,[])) (S:=fun m k=>spec_l1Rise.at0 (vs.length+1) m (spec_l1Rise.st0 (cells vs) ((k+1:Nat):Int))) (fun m k h=>?_) (fun m=>?_) (f:=vs.length+1) (by omega)).trans ?_
 ·have h1:k+1<vs.length:=by omega
  have h0:k<vs.length:=by omega
  have hw:IntKind.wrap .i64 (((k+1:Nat):Int)-1)=(k:Nat):=by rw[wrap64 (by omega)];omega
  simp only[spec_l1Rise.next0,spec_l1Rise.round0,evz,Nat.reduceLT,h1,h0,hw,List.getElem?_eq_getElem,enc_int,getD_at h1,getD_at h0,decide_eq_true_eq];rw[wrap_succ (by omega)]
 ·have h1:¬ vs.length-1+1<vs.length:=by omega
  simp only[spec_l1Rise.next0,spec_l1Rise.round0,evz,Nat.reduceLT,h1]
 ·unfold falls;cases (List.range (vs.length-1)).any fun i=>decide (vs.getD (i+1) 0<=vs.getD i 0) <;> rfl
theorem falls_impl(vs:List Int)(ts:List (List Int))(n:Nat)(hn:vs.length<n)(hl:vs.length<=4294967296):impl_BindingFault.at2 n n (impl_BindingFault.st2 1 (cells vs) (cells ts))=some (.int .i64 (if falls vs=true then 1 else 0),[]):=by
 refine(any_loop (n:=vs.length-1) (bad:=fun i=>decide (vs.getD (i+1) 0<=vs.getD i 0)) (r:=some (.int .i64 1,[])) (z:=some (.int .i64 0,[])) (S:=fun m k=>impl_BindingFault.at2 n m (impl_BindingFault.st2 ((k+1:Nat):Int) (cells vs) (cells ts))) (fun m k h=>?_) (fun m=>?_) (f:=n) (by omega)).trans ?_
 ·have h1:k+1<vs.length:=by omega
  have h0:k<vs.length:=by omega
  have hw:IntKind.wrap .i64 (((k+1:Nat):Int)-1)=(k:Nat):=by rw[wrap64 (by omega)];omega
  simp only[impl_BindingFault.next2,impl_BindingFault.round2,evz,Nat.reduceLT,h1,h0,hw,List.getElem?_eq_getElem,enc_int,getD_at h1,getD_at h0,decide_eq_true_eq];rw[wrap_succ (by omega)]
 ·have h1:¬ vs.length-1+1<vs.length:=by omega
  simp only[impl_BindingFault.next2,impl_BindingFault.round2,evz,Nat.reduceLT,h1]
 ·unfold falls;cases (List.range (vs.length-1)).any fun i=>decide (vs.getD (i+1) 0<=vs.getD i 0) <;> rfl
theorem impl_BindingFault(l:List Symbol)(hs:l.length<=4294967296)(vs:List Int)(ts:List (List Int))(hv:vs.length<=4294967296)(ht:sm 4294967296 ts) :
 Call F.impl_BindingFault [.agg [slc l],.agg [slc vs,slc ts]] (.int .i64 (if sigFault ⟨l⟩≠0 then sigFault ⟨l⟩else bindFault0 l vs ts)):=by
 refine call_of rfl (vs.length+1) ((impl_BindingFault.ev _ _ _ _).trans ?_);have htl:=ht.1;simp only[evz,Nat.reduceLT,(impl_SignatureFault l hs).eq,bindFault0,gt_iff_lt];by_cases h1:sigFault ⟨l⟩=0
 case neg=>simp only[h1,evz,Nat.reduceLT,ne_eq,not_false_eq_true]
 by_cases h2:vs.length=ts.length
 case neg=>
  have h2':¬((ts.length:Int)=(vs.length:Int)):=by omega
  simp only[h1,h2,h2',evz,Nat.reduceLT,ne_eq,not_true_eq_false,not_false_eq_true,true_or]
 by_cases h3:12<vs.length
 ·have h3':(12:Int)<vs.length:=by omega
  simp only[h1,<- h2,h3,h3',evz,Nat.reduceLT,ne_eq,not_true_eq_false,or_true]
 have h3':¬(12:Int)<vs.length:=by omega
 simp only[h1,<- h2,h3,h3',evz,Nat.reduceLT,ne_eq,not_true_eq_false,or_self];have hz:(vs.zip ts).length=vs.length:=by rw[List.length_zip];omega
 refine(scan_loop (l:=vs.zip ts) (g:=fun x=>(pairFault l x).map fun n=>(some (T.int .i64 n,[]):R)) (z:=some (.int .i64 (if falls vs=true then 1 else 0),[]))
  (S:=fun m k=>impl_BindingFault.at0 (vs.length+1) m (impl_BindingFault.st0 (cells vs) vs.length (k:Nat) (cells l) (cells vs) (cells ts))) (fun m k h=>?_) (fun m=>?_) (f:=vs.length+1) (by omega)).trans ?_
 ·have hk:k<vs.length:=by omega
  have hkt:k<ts.length:=by omega
  have hc:=impl_TermFault l hs ts[k] (ht.2 _ (List.getElem_mem hkt)).1;unfold termFault at hc;rw[if_neg (by simpa using h1)]at hc;have hc:Call F.impl_TermFault [.agg [slc l],slc ts[k]] (.int .i64 (termFault0 l ts[k])):=hc;simp only[impl_BindingFault.next0,impl_BindingFault.round0,evz,Nat.reduceLT,hk,hkt,List.getElem?_eq_getElem,enc_int,enc_list,(impl_within _ _ _).eq,List.getElem_zip,pairFault,hc.eq];rw[wrap_succ (by omega)];cases inR vs[k] 0 11 with
  |false=>simp
  |true=>
   by_cases e:termFault0 l ts[k]=0
   ·simp[e]
   ·simp[e]
 ·rw[hz];simp only[impl_BindingFault.next0,impl_BindingFault.round0,evz,Nat.reduceLT,Nat.lt_irrefl,falls_impl vs ts (vs.length+1) (by omega) hv]
 ·rw[findSome_map];cases (vs.zip ts).findSome? (pairFault l) <;> rfl
theorem spec_l6Fault(l:List Symbol)(ok:SigOk ⟨l⟩)(vs:List Int)(ts:List (List Int))(hv:vs.length<=4294967296)(ht:sm 4294967296 ts) :
 Call F.spec_l6Fault [.rref [slc l] 0,.rref [slc vs,slc ts] 0] (.int .i64 (bindFault0 l vs ts)):=by
 refine call_of rfl (vs.length+1) ((spec_l6Fault.ev _ _ _ _).trans ?_);have htl:=ht.1;simp only[evz,Nat.reduceLT,bindFault0,gt_iff_lt];by_cases h2:vs.length=ts.length
 case neg=>
  have h2':¬((vs.length:Int)=(ts.length:Int)):=by omega
  simp only[h2,h2',evz,Nat.reduceLT,ne_eq,not_true_eq_false,not_false_eq_true,true_or]
 by_cases h3:12<vs.length
 ·have h3':(12:Int)<vs.length:=by omega
  simp only[<- h2,h3,h3',evz,Nat.reduceLT,ne_eq,not_true_eq_false,or_true]
 have h3':¬(12:Int)<vs.length:=by omega
 simp only[<- h2,h3,h3',evz,Nat.reduceLT,ne_eq,not_true_eq_false,or_self];have hz:(vs.zip ts).length=vs.length:=by rw[List.length_zip];omega
 refine(scan_loop (l:=vs.zip ts) (g:=fun x=>(pairFault l x).map fun n=>(some (T.int .i64 n,[]):R)) (z:=some (.int .i64 (if falls vs=true then 1 else 0),[]))
  (S:=fun m k=>spec_l6Fault.at0 (vs.length+1) m (spec_l6Fault.st0 (cells l) (cells vs) (cells ts) (k:Nat))) (fun m k h=>?_) (fun m=>?_) (f:=vs.length+1) (by omega)).trans ?_
 ·have hk:k<vs.length:=by omega
  have hkt:k<ts.length:=by omega
  have hc:=spec_l3Fault l ok ts[k] (ht.2 _ (List.getElem_mem hkt)).1;simp only[spec_l6Fault.next0,spec_l6Fault.round0,evz,Nat.reduceLT,hk,hkt,List.getElem?_eq_getElem,enc_int,enc_list,(spec_l1In _ _ _).eq,List.getElem_zip,pairFault,hc.eq];rw[wrap_succ (by omega)];cases inR vs[k] 0 11 with
  |false=>simp
  |true=>
   by_cases e:termFault0 l ts[k]=0
   ·simp[e]
   ·simp[e]
 ·rw[hz];simp only[spec_l6Fault.next0,spec_l6Fault.round0,evz,Nat.reduceLT,Nat.lt_irrefl,(spec_l1Rise vs hv).eq];cases falls vs <;> rfl
 ·rw[findSome_map];cases (vs.zip ts).findSome? (pairFault l) <;> rfl
def startsN(l:List Symbol)(t:List Int):Nat->Nat->List Nat
 |0,_=>[]
 |n+1,p=>p::startsN l t n (endAt l t p)
def starts(l:List Symbol)(t:List Int)(p:Nat):List Nat:=startsN l t (ar l (t.getD p 0)) (p+1)
theorem startsN_length(l:List Symbol)(t:List Int):∀n p,(startsN l t n p).length=n
 |0,_=>rfl
 |n+1,p=>by rw[startsN,List.length_cons,startsN_length l t n]
theorem skip_one{l:List Symbol}{t:List Int}{p n:Nat}{r:List Int}(h:skip (ar l) (n+1) (t.drop p)=some r):p<t.length/\skip (ar l) n (t.drop (endAt l t p))=some r/\p<endAt l t p/\endAt l t p<=t.length:=by
 have hp:p<t.length:=by
  rcases Nat.lt_or_ge p t.length with h1|h1
  ·exact h1
  ·rw[List.drop_of_length_le h1]at h;cases h
 rw[show n+1=1+n by omega,skip_add]at h;cases h1:skip (ar l) 1 (t.drop p)with
 |none=>rw[h1]at h;cases h
 |some q=>
  rw[h1]at h;have h2:=skip_at h1;have e:endAt l t p=t.length-q.length:=by unfold endAt;rw[h1]
  have h3:=h2.2.2 (by omega);refine⟨hp,?_,by rw[e];omega,by rw[e];omega⟩;rw[e,<- h2.1];exact h
theorem startsN_mem{l:List Symbol}{t:List Int}:∀{n p:Nat}{r:List Int},skip (ar l) n (t.drop p)=some r->∀q∈startsN l t n p,p<=q/\q<t.length
 |0,p,r,h,q,hq=>by cases hq
 |n+1,p,r,h,q,hq=>by
  obtain⟨h1,h2,h3,h4⟩:=skip_one h;rcases List.mem_cons.1 hq with rfl|hq
  ·exact⟨Nat.le_refl _,h1⟩
  ·have:=startsN_mem h2 q hq;exact⟨by omega,this.2⟩
theorem args_skip{l:List Symbol}{t:List Int}(ok:TermOk l t){p:Nat}(hp:p<t.length):∃r,skip (ar l) (ar l t[p]) (t.drop (p+1))=some r:=by
 obtain⟨q,hq⟩:=skip_inner (p:=p) ok.skip (by simpa using hp);rw[List.drop_eq_getElem_cons hp,skip]at hq;exact⟨q,by simpa using hq⟩
theorem starts_mem{l:List Symbol}{t:List Int}(ok:TermOk l t){p:Nat}(hp:p<t.length){q:Nat}(hq:q∈starts l t p):p<q/\q<t.length:=by
 obtain⟨r,hr⟩:=args_skip ok hp;have hd:t.getD p 0=t[p]:=getD_at hp;unfold starts at hq;rw[hd]at hq;have:=startsN_mem hr q hq;exact⟨by omega,this.2⟩
def rank(o:List Int)(n:Int):Int:=idx (fun x=>decide (x=n)) o
def cell(l:List Symbol)(o a b:List Int)(above:Nat->Nat->Bool)(i j:Nat):Bool:=
 if b.getD j 0<0 then decide (0<=a.getD i 0)&&decide (b.getD j 0∈subAt l a i)
 else if a.getD i 0<0 then false
 else if(starts l a i).any (fun p=>decide (subAt l a p=subAt l b j)||above p j)then true
 else if rank o (a.getD i 0)<rank o (b.getD j 0)then false
 else if(starts l b j).any (fun q=>!above i q)then false
 else if rank o (b.getD j 0)<rank o (a.getD i 0)then true
 else match ((starts l a i).zip (starts l b j)).find? fun x=>!decide (subAt l a x.1=subAt l b x.2)with
  |some x=>above x.1 x.2
  |none=>false
theorem cell_congr{l:List Symbol}{o a b:List Int}(ha:TermOk l a)(hb:TermOk l b){f g:Nat->Nat->Bool}{i j:Nat}(hi:i<a.length)(hj:j<b.length)
 (h:∀p q,i<=p->j<=q->p<a.length->q<b.length->(i<p\/j<q)->f p q=g p q):cell l o a b f i j=cell l o a b g i j:=by
 have h1:(starts l a i).any (fun p=>decide (subAt l a p=subAt l b j)||f p j)=(starts l a i).any (fun p=>decide (subAt l a p=subAt l b j)||g p j):=by
  rw[Bool.eq_iff_iff,List.any_eq_true,List.any_eq_true];constructor
  ·rintro⟨p,hp,h1⟩;have:=starts_mem ha hi hp;exact⟨p,hp,by rw[<- h p j (by omega) (Nat.le_refl _) this.2 hj (.inl this.1)];exact h1⟩
  ·rintro⟨p,hp,h1⟩;have:=starts_mem ha hi hp;exact⟨p,hp,by rw[h p j (by omega) (Nat.le_refl _) this.2 hj (.inl this.1)];exact h1⟩
 have h2:(starts l b j).any (fun q=>!f i q)=(starts l b j).any (fun q=>!g i q):=by
  rw[Bool.eq_iff_iff,List.any_eq_true,List.any_eq_true];constructor
  ·rintro⟨p,hp,h1⟩;have:=starts_mem hb hj hp;exact⟨p,hp,by rw[<- h i p (Nat.le_refl _) (by omega) hi this.2 (.inr this.1)];exact h1⟩
  ·rintro⟨p,hp,h1⟩;have:=starts_mem hb hj hp;exact⟨p,hp,by rw[h i p (Nat.le_refl _) (by omega) hi this.2 (.inr this.1)];exact h1⟩
 unfold cell;rw[h1,h2];cases hf:((starts l a i).zip (starts l b j)).find? fun x=>!decide (subAt l a x.1=subAt l b x.2)with
 |none=>rfl
 |some x=>
  have hm:=List.mem_of_find?_eq_some hf;have hm1:=starts_mem ha hi (List.of_mem_zip hm).1;have hm2:=starts_mem hb hj (List.of_mem_zip hm).2;simp only[h x.1 x.2 (by omega) (by omega) hm1.2 hm2.2 (.inl hm1.1)]
def gtN(l:List Symbol)(o a b:List Int):Nat->Nat->Nat->Bool
 |0,_,_=>false
 |n+1,i,j=>cell l o a b (gtN l o a b n) i j
def gt(l:List Symbol)(o a b:List Int)(i j:Nat):Bool:=gtN l o a b (a.length+b.length+1) i j
theorem gtN_stable{l:List Symbol}{o a b:List Int}(ha:TermOk l a)(hb:TermOk l b):∀(d n m i j:Nat),i<a.length->j<b.length->(a.length-i)+(b.length-j)<=d->d<n->d<m->gtN l o a b n i j=gtN l o a b m i j:=by
 intro d;induction d with
 |zero=>intros;omega
 |succ d ih=>
  intro n m i j hi hj hd hn hm;obtain⟨n,rfl⟩:∃q,n=q+1:=⟨n-1,by omega⟩;obtain⟨m,rfl⟩:∃q,m=q+1:=⟨m-1,by omega⟩;rw[gtN,gtN];exact cell_congr ha hb hi hj fun p q h1 h2 h3 h4 h5=>ih n m p q h3 h4 (by omega) (by omega) (by omega)
theorem gt_eq{l:List Symbol}{o a b:List Int}(ha:TermOk l a)(hb:TermOk l b){i j:Nat}(hi:i<a.length)(hj:j<b.length):gt l o a b i j=cell l o a b (gt l o a b) i j:=by
 show gtN l o a b (a.length+b.length+1) i j=_;rw[gtN];exact cell_congr ha hb hi hj fun p q h1 h2 h3 h4 h5=>gtN_stable ha hb ((a.length-p)+(b.length-q)) _ _ p q h3 h4 (Nat.le_refl _) (by omega) (by omega)
section
variable {l:List Symbol}(ok:SigOk ⟨l⟩)
include ok
end
theorem mpAt_map:∀(l:List (Int×Int×Bool))(a b:Int)(i j:Nat),(mpAt l a b i).map (·.2)=(mpAt l a b j).map (·.2)
 |[],_,_,_,_=>rfl
 |(x,y,v)::r,a,b,i,j=>by
  rw[mpAt,mpAt];cases (a==x&&b==y)with
  |true=>rfl
  |false=>exact mpAt_map r a b (i+1) (j+1)
theorem mpFind_cons(x y:Int)(v:Bool)(r:List (Int×Int×Bool))(a b:Int):mpFind ((x,y,v)::r) a b=bif a==x&&b==y then some v else mpFind r a b:=by
 unfold mpFind;rw[mpAt];cases (a==x&&b==y)with
 |true=>rfl
 |false=>exact mpAt_map r a b 1 0
theorem mpFind_put:∀(l:List (Int×Int×Bool))(x y:Int)(v:Bool)(a b:Int),mpFind (mpPut l x y v) a b=bif a==x&&b==y then some v else mpFind l a b
 |[],x,y,v,a,b=>by rw[mpPut,mpFind_cons]
 |(x',y',v')::r,x,y,v,a,b=>by
  rw[mpPut];cases h:(x==x'&&y==y')with
  |true=>
   simp only[Bool.and_eq_true,beq_iff_eq]at h;obtain⟨rfl,rfl⟩:=h;rw[cond_true,mpFind_cons,mpFind_cons];cases (a==x&&b==y) <;> rfl
  |false=>
   rw[cond_false,mpFind_cons,mpFind_cons,mpFind_put r];cases h1:(a==x'&&b==y')with
   |false=>rfl
   |true=>
    cases h2:(a==x&&b==y)with
    |false=>rfl
    |true=>
     simp only[Bool.and_eq_true,beq_iff_eq]at h1 h2;obtain⟨rfl,rfl⟩:=h1;obtain⟨rfl,rfl⟩:=h2;simp at h
def Good(l:List Symbol)(o a b:List Int)(m:List (Int×Int×Bool)):Prop:=∀(p q:Nat)(v:Bool),mpFind m p q=some v->v=gt l o a b p q
theorem Good.put{l:List Symbol}{o a b:List Int}{m:List (Int×Int×Bool)}(h:Good l o a b m)(i j:Nat):Good l o a b (mpPut m i j (gt l o a b i j)):=fun p q v hv=>by
 rw[mpFind_put]at hv;cases hc:(((p:Int)==(i:Int))&&((q:Int)==(j:Int)))with
 |true=>
  rw[hc,cond_true]at hv;simp only[Bool.and_eq_true,beq_iff_eq,Int.ofNat_inj]at hc;obtain⟨rfl,rfl⟩:=hc;exact(Option.some.inj hv).symm
 |false=>rw[hc,cond_false]at hv;exact h p q v hv
section
variable {l:List Symbol}(ok:SigOk ⟨l⟩){o a b:List Int}(ha:TermOk l a)(hb:TermOk l b)
include ok ha hb
end
section
variable {l:List Symbol}(ok:SigOk ⟨l⟩)
include ok
omit ok in
theorem at_bound{i j la lb:Nat}(hi:i<la)(hj:j<lb):i*lb+j<la*lb:=by
 have:i*lb+lb<=la*lb:=by rw[<- Nat.succ_mul];exact Nat.mul_le_mul_right _ hi
 omega
section
variable {o a b:List Int}(ha:TermOk l a)(hb:TermOk l b){T:List Bool}(hT:T.length=a.length*b.length)
include ha hb hT
end
def Done(l:List Symbol)(o a b:List Int)(T:List Bool)(n:Nat):Prop:=
 T.length=a.length*b.length/\∀p q,p<a.length->q<b.length->n<=p*b.length+q->T.getD (p*b.length+q) false=gt l o a b p q
omit ok in
theorem at_inj{n p q i j:Nat}(hq:q<n)(hj:j<n)(h:p*n+q=i*n+j):p=i/\q=j:=by
 rcases Nat.lt_trichotomy p i with h1|h1|h1
 ·have:(p+1)*n<=i*n:=Nat.mul_le_mul_right _ h1;rw[Nat.succ_mul]at this;omega
 ·subst h1;exact⟨rfl,by omega⟩
 ·have:(i+1)*n<=p*n:=Nat.mul_le_mul_right _ h1;rw[Nat.succ_mul]at this;omega
omit ok in
theorem Done.cell{o a b:List Int}(ha:TermOk l a)(hb:TermOk l b){T:List Bool}{i j:Nat}(hi:i<a.length)(hj:j<b.length)(h:Done l o a b T (i*b.length+(j+1))) :
 cell l o a b (fun p q=>T.getD (p*b.length+q) false) i j=gt l o a b i j:=by
 rw[gt_eq ha hb hi hj];refine cell_congr ha hb hi hj fun p q h1 h2 h3 h4 h5=>h.2 p q h3 h4 ?_;have h6:i*b.length<=p*b.length:=Nat.mul_le_mul_right _ h1;rcases h5 with h5|h5
 ·have:(i+1)*b.length<=p*b.length:=Nat.mul_le_mul_right _ h5;rw[Nat.succ_mul]at this;omega
 ·omega
omit ok in
theorem Done.set{o a b:List Int}{T:List Bool}{i j:Nat}(hi:i<a.length)(hj:j<b.length)(h:Done l o a b T (i*b.length+(j+1))):Done l o a b (T.set (i*b.length+j) (gt l o a b i j)) (i*b.length+j):=by
 have hin:=at_bound hi hj;refine⟨by rw[List.length_set];exact h.1,fun p q hp hq hle=>?_⟩;by_cases e:i*b.length+j=p*b.length+q
 ·obtain⟨rfl,rfl⟩:=at_inj hq hj e.symm;simp[List.getD_eq_getElem?_getD,h.1,hin]
 ·have:=h.2 p q hp hq (by omega);rw[<- this,List.getD_eq_getElem?_getD,List.getD_eq_getElem?_getD,List.getElem?_set_ne e]
end
def orderF(l:List Symbol)(o:List Int):Int:=if o.length≠l.length then 2 else if(o.any fun n=>!inR n 0 (l.length-1))=true then 3 else if twice o=true then 6 else 0
theorem impl_isSymbol{l:List Symbol}(hs:l.length<=4294967296)(n:Int):Call F.impl_isSymbol [.agg [slc l],.int .i64 n] (.bool (inR n 0 (l.length-1))):=by
 refine call_of rfl 0 ((impl_isSymbol.ev _ _ _).trans ?_);simp only[evz,Nat.reduceLT,wrap64 (x:=(l.length:Int)-1) (by omega),(impl_within _ _ _).eq]
theorem spec_l2Symbol{l:List Symbol}(hs:l.length<=4294967296)(n:Int):Call F.spec_l2Symbol [.rref [slc l] 0,.int .i64 n] (.bool (inR n 0 (l.length-1))):=by
 refine call_of rfl 0 ((spec_l2Symbol.ev _ _ _).trans ?_);simp only[evz,Nat.reduceLT,wrap64 (x:=(l.length:Int)-1) (by omega),(spec_l1In _ _ _).eq]
theorem sigOk_of{l:List Symbol}(h:sigFault ⟨l⟩=0):SigOk ⟨l⟩:=(sigOk_iff _).1 h
theorem TermOk.range{l:List Symbol}(ok:SigOk ⟨l⟩){t:List Int}(h:TermOk l t):∀n∈t,-4611686018427387904<=n/\n<=4611686018427387904:=fun n hn=>by
 have:=nodeOk_iff.1 (h.node n hn);have hle:l.length<=6:=ok.le;omega
theorem impl_fitting(t:List Int):Call F.impl_fitting [slc t] (.agg (enc (if 24<t.length then(⟨2,[]⟩:TermResult)else⟨0,t⟩))):=by
 refine call_of rfl 0 ((impl_fitting.ev _ _).trans ?_);simp only[evz,Nat.reduceLT,gt_iff_lt];by_cases h:24<t.length
 ·have h':(24:Int)<t.length:=by omega
  simp only[h,h',evz,Nat.reduceLT,enc_TermResult,slc_nil]
 ·have h':¬(24:Int)<t.length:=by omega
  simp only[h,h',evz,Nat.reduceLT,enc_TermResult]
set_option maxHeartbeats 1000000
def ba(l:List UInt8):ByteArray:=ByteArray.mk l.toArray
def sigA:List Symbol:=[⟨ba [101],0⟩,⟨ba [105],1⟩,⟨ba [109],2⟩,⟨ba [97],0⟩]
def sigB:List Symbol:=[⟨ba [97],0⟩,⟨ba [115,117,99],1⟩,⟨ba [97,100,100],2⟩,⟨ba [98],0⟩]
def sigC:List Symbol:=[⟨ba [97],0⟩,⟨ba [102],1⟩,⟨ba [103],1⟩]
def sigD:List Symbol:=[⟨ba [97],0⟩,⟨ba [98],0⟩,⟨ba [101],0⟩,⟨ba [109],2⟩,⟨ba [105],1⟩,⟨ba [115,117,99],1⟩]
def sigE:List Symbol:=[⟨ba [97],0⟩]
theorem sigA_ok:SigOk ⟨sigA⟩:=sigOk_of (by decide)
theorem sigB_ok:SigOk ⟨sigB⟩:=sigOk_of (by decide)
theorem sigC_ok:SigOk ⟨sigC⟩:=sigOk_of (by decide)
theorem sigD_ok:SigOk ⟨sigD⟩:=sigOk_of (by decide)
theorem sigE_ok:SigOk ⟨sigE⟩:=sigOk_of (by decide)
theorem name_small{b:ByteArray}(h:nameOk b=true):b.size<=3:=by
 unfold nameOk at h;rw[Bool.and_eq_true,decide_eq_true_iff]at h;exact h.1.2
theorem SigOk.small{l:List Symbol}(ok:SigOk ⟨l⟩):sm 7 (Signature.mk l):=⟨Nat.le_trans ok.le (by omega),fun x hx=>Nat.le_trans (name_small (ok.name x hx)) (by omega)⟩
def Places(l:List Symbol)(o:List Int):Prop:=o.Perm (rise l.length)
theorem Places.order{l:List Symbol}{o:List Int}(h:Places l o):orderF l o=0:=by
 have hl:o.length=l.length:=by have:=h.length_eq;rwa[rise_length]at this
 have hm:∀n∈o,0<=n/\n<l.length:=fun n hn=>by
  have:=(h.mem_iff).1 hn;unfold rise at this;obtain⟨k,hk,rfl⟩:=List.mem_map.1 this;have:=List.mem_range.1 hk;omega
 have hd:o.Nodup:=by
  refine(h.nodup_iff).2 ?_;unfold rise;rw[List.Nodup,List.pairwise_map];exact List.nodup_range.imp fun {a b} hab e=>hab (Int.ofNat_inj.1 e)
 unfold orderF;rw[if_neg (by omega),if_neg,if_neg]
 ·unfold twice;simpa using hd
 ·rw[Bool.not_eq_true,List.any_eq_false];intro n hn;obtain⟨a,b⟩:=hm n hn;unfold inR;simp;omega
section
variable {code:List UInt8}(hc:code.length<=2097152)
include hc
theorem spec_l2Sig(p:Int)(hp:0<=p/\p<=1099511000000):Drawn code p 1 (fun x=>∃l:List Symbol,x=.agg [slc l]/\SigOk ⟨l⟩) (LIM F.spec_l2Sig [.rref [slc code,.int .i64 p] 0]):=by
 refine drawn_of rfl 0 ?_;rw[show callK prog A H LIM 0 F.spec_l2Sig [.rref [slc code,.int .i64 p] 0]=_ from spec_l2Sig.ev _ _ _];refine next_s hc (by omega) fun v h1 h2=>?_;simp only[evz,Nat.reduceLT];have leaf:∀l:List Symbol,SigOk ⟨l⟩->Drawn code p 1 (fun x=>∃l:List Symbol,x=.agg [slc l]/\SigOk ⟨l⟩) (some (.agg [slc l],[.agg [slc code,.int .i64 (p+1)]])):=fun l hl=>drawn_end (by omega) ⟨l,rfl,hl⟩
 repeat' split
 all_goals first|exact leaf sigA sigA_ok|exact leaf sigB sigB_ok|exact leaf sigC sigC_ok|exact leaf sigD sigD_ok|exact leaf sigE sigE_ok
omit hc in
theorem set_sym{l:List Symbol}{i:Nat}(hi:i<l.length)(n:ByteArray):setCells (cells l) (i*2) [.str n]=cells (l.set i ⟨n,l[i].arity⟩):=by
 have:=fset_gen (o:=l) (i:=i) (n:=2) (j:=0) (x:=l[i]) (x':=⟨n,l[i].arity⟩) (c:=.str n) rfl hi (by decide) (by rw[enc_Symbol,enc_Symbol];rfl);rwa[set_same (List.getElem?_eq_getElem hi)]at this
omit hc in
theorem set_ar{l:List Symbol}{i:Nat}(hi:i<l.length)(n:Int):setCells (cells l) (i*2+1) [.int .i64 n]=cells (l.set i ⟨l[i].name,n⟩):=by
 have:=fset_gen (o:=l) (i:=i) (n:=2) (j:=1) (x:=l[i]) (x':=⟨l[i].name,n⟩) (c:=.int .i64 n) rfl hi (by decide) (by rw[enc_Symbol,enc_Symbol];rfl);rwa[set_same (List.getElem?_eq_getElem hi)]at this
theorem spec_l2Bent(p:Int)(hp:0<=p/\p<=1099511000000):Drawn code p 5 (fun x=>∃l:List Symbol,x=.agg [slc l]/\sm 7 (Signature.mk l)) (LIM F.spec_l2Bent [.rref [slc code,.int .i64 p] 0]):=by
 refine drawn_of rfl 10 ?_;rw[show callK prog A H LIM 10 F.spec_l2Bent [.rref [slc code,.int .i64 p] 0]=_ from spec_l2Bent.ev _ _ _];refine drawn_s (spec_l2Sig hc p (by omega)) ?_;rintro _ p1 a1 b1 ⟨l,rfl,ok⟩;have hle:=ok.le;have hpos:=ok.pos;simp only at hle hpos;have sml:=ok.small;have leaf:∀(l:List Symbol)(p2:Int),p<=p2/\p2<=p+5->sm 7 (Signature.mk l)->Drawn code p 5 (fun x=>∃l:List Symbol,x=.agg [slc l]/\sm 7 (Signature.mk l)) (some (.agg [slc l],[.agg [slc code,.int .i64 p2]])):=fun l p2 h hl=>drawn_end h ⟨l,rfl,hl⟩
 have setS:∀(i:Nat)(y:Symbol),y.name.size<=7->sm 7 (Signature.mk (l.set i y)):=fun i y hy=>⟨by show(l.set i y).length<=7;rw[List.length_set];omega,fun x hx=>by
  rcases List.mem_or_eq_of_mem_set hx with h|rfl
  ·exact sml.2 x h
  ·exact hy⟩
 simp only[evz,Nat.reduceLT];refine chance_s hc (by omega) fun b=>?_;simp only[evz,Nat.reduceLT];cases b with
 |false=>simp only[evz,Nat.reduceLT,Bool.not_false];exact leaf l _ (by omega) sml
 |true=>
  simp only[evz,Nat.reduceLT,Bool.not_true];refine next_s hc (by omega) fun v h1 h2=>?_;simp only[evz,Nat.reduceLT];split
  ·exact leaf [] _ (by omega) ⟨by simp,by simp⟩
  split
  ·rw[wrap64 (by omega),show(l.length:Int)-1=((l.length-1:Nat):Int) by omega];have hi:l.length-1<l.length:=by omega
   have z:(l.length-1)*2+1<=l.length*2:=by omega
   simp only[evz,Nat.reduceLT,hi,cells_le,sz_Symbol,z,set_sym hi];exact leaf _ _ (by omega) (setS _ _ (show(ba [97,98,99,100]).size<=7 by decide))
  split
  ·refine next_s hc (by omega) fun x k1 k2=>?_;obtain⟨i,rfl⟩:∃i:Nat,x=i:=⟨x.toNat,by omega⟩;have hi:i<l.length:=by have:=k2 (by omega);omega
   have z:i*2+1<=l.length*2:=by omega
   simp only[evz,Nat.reduceLT,hi,cells_le,sz_Symbol,z,set_sym hi];exact leaf _ _ (by omega) (setS _ _ (show(ba [97,66]).size<=7 by decide))
  split
  ·refine next_s hc (by omega) fun x k1 k2=>?_;obtain⟨i,rfl⟩:∃i:Nat,x=i:=⟨x.toNat,by omega⟩;have hi:i<l.length:=by have:=k2 (by omega);omega
   simp only[evz,Nat.reduceLT];refine pick_s hc [3,-1] rfl (by simp) (by omega) fun y hy=>?_;have z:i*2+1+1<=l.length*2:=by omega
   simp only[evz,Nat.reduceLT,hi,cells_le,sz_Symbol,z,set_ar hi];exact leaf _ _ (by omega) (setS _ _ (sml.2 l[i] (List.getElem_mem hi)))
  split
  ·have h0:0<l.length:=by omega
   have e0:inB 0 l.length=true:=(inB_nat 0 _).trans (by simpa using h0)
   have g0:(cells l)[0]?=some (.str l[0].name):=by
    have:=get0 (l:=l) (k:=2) (i:=0) rfl;rw[Nat.zero_mul]at this;rw[this,List.getElem?_eq_getElem h0];rfl
   have g1:(cells l)[1]?=some (.int .i64 l[0].arity):=by
    have:=get1 (l:=l) (k:=2) (i:=0) rfl (by decide);rw[Nat.zero_mul,Nat.zero_add]at this;rw[this,List.getElem?_eq_getElem h0];rfl
   simp only[evz,Nat.reduceLT,e0,g0,g1];rw[cond_pos (ble_ok (by rw[cells_length];simp only[sz_Symbol];omega))];have e9:cells l++[.str l[0].name,.int .i64 l[0].arity]=cells (l++[l[0]]):=by rw[cells_append,enc_cells_one];rfl
   rw[e9];refine leaf _ _ (by omega) ⟨by show(l++[l[0]]).length<=7;simp;omega,fun x hx=>?_⟩;rcases List.mem_append.1 hx with h|h
   ·exact sml.2 x h
   ·rw[List.mem_singleton.1 h];exact sml.2 _ (List.getElem_mem h0)
  split
  ·refine draw_loop (σ:=Nat×List Symbol) (S:=fun m s=>spec_l2Bent.at3 10 m (spec_l2Bent.st3 l.length (s.1:Nat) (cells code) (p1+1+1) (cells s.2))) (fun s=>s.1<=l.length/\s.2.length=l.length/\sm 7 (Signature.mk s.2)) (fun s=>l.length-s.1) (fun m s hs=>?_) _ (0,l) ⟨by simp,rfl,sml⟩ (by simp only;omega);obtain⟨k,o⟩:=s;obtain⟨q1,q2,q3⟩:=hs;simp only at q1 q2 q3 ⊢;by_cases hk:k<l.length
   ·right;have hko:k<o.length:=by omega
    have z:k*2+1+1<=o.length*2:=by omega
    refine⟨(k+1,o.set k ⟨o[k].name,1⟩),?_,⟨by simp only;omega,by simp[q2],⟨by show(o.set k _).length<=7;rw[List.length_set];omega,fun x hx=>?_⟩⟩,by simp only;omega⟩
    ·simp only[spec_l2Bent.next3,spec_l2Bent.round3,evz,Nat.reduceLT,hk,hko,cells_le,sz_Symbol,z,set_ar hko];rw[wrap_succ (by omega)]
    ·rcases List.mem_or_eq_of_mem_set hx with h|rfl
     ·exact q3.2 x h
     ·exact q3.2 o[k] (List.getElem_mem hko)
   ·left;simp only[spec_l2Bent.next3,spec_l2Bent.round3,evz,Nat.reduceLT,hk];exact leaf _ _ (by omega) q3
  refine draw_loop (σ:=List Symbol) (S:=fun m s=>spec_l2Bent.at1 10 m (spec_l2Bent.st1 (cells code) (p1+1+1) (cells s))) (fun s=>s.length<=7/\sm 7 (Signature.mk s)) (fun s=>7-s.length) (fun m s hs=>?_) _ l ⟨by omega,sml⟩ (by omega);obtain⟨k1,k2⟩:=hs;by_cases hk:s.length<7
  ·right;have hk2:((s.length:Nat):Int)<7:=by omega
   refine⟨s++[⟨ba [122],0⟩],?_,⟨by simp;omega,⟨by show(s++_).length<=7;simp;omega,fun x hx=>?_⟩⟩,by simp;omega⟩
   ·simp only[spec_l2Bent.next1,spec_l2Bent.round1,evz,Nat.reduceLT,hk2];rw[cond_pos (ble_ok (by rw[cells_length];simp only[sz_Symbol];omega)),cells_append,enc_cells_one];rfl
   ·rcases List.mem_append.1 hx with h|h
    ·exact k2.2 x h
    ·rw[List.mem_singleton.1 h];show(ba [122]).size<=7;decide
  ·left;have hk2:¬((s.length:Nat):Int)<7:=by omega
   simp only[spec_l2Bent.next1,spec_l2Bent.round1,evz,Nat.reduceLT,hk2];exact leaf _ _ (by omega) k2
theorem spec_l3BentTerm(p most vars:Int)(l:List Symbol)(hl:l.length<=1000)(hm:1<=most/\most<=1000)(hv:0<=vars/\vars<=12)(hp:0<=p/\p<=1099510000000) :
 Drawn code p 3200 (fun x=>∃t:List Int,x=slc t/\t.length<=1001) (LIM F.spec_l3BentTerm [.rref [slc code,.int .i64 p] 0,.rref [slc l] 0,.int .i64 most,.int .i64 vars]):=by
 have leaf:∀(t:List Int)(p2:Int),p<=p2/\p2<=p+3200->t.length<=1001->Drawn code p 3200 (fun x=>∃t:List Int,x=slc t/\t.length<=1001) (some (slc t,[.agg [slc code,.int .i64 p2]])):=fun t p2 h hl=>drawn_end h ⟨t,rfl,hl⟩;refine drawn_of rfl 30 ?_;rw[show callK prog A H LIM 30 F.spec_l3BentTerm [.rref [slc code,.int .i64 p] 0,.rref [slc l] 0,.int .i64 most,.int .i64 vars]=_ from spec_l3BentTerm.ev _ _ _ _ _ _];simp only[evz,Nat.reduceLT];split
 ·exact leaf [0] p (by omega) (by simp)
 simp only[(spec_SignatureFault l (by omega)).eq,evz,Nat.reduceLT];split
 case isFalse=>exact leaf [0] p (by omega) (by simp)
 rename_i hs;have ok:=sigOk_of hs;refine drawn_s (spec_l3Draw hc ok p most vars hm hv (by omega)) ?_;rintro _ p1 a1 b1 ⟨t,rfl,g⟩;have tl:=g.le;have tp:=g.pos;simp only[evz,Nat.reduceLT];refine chance_s hc (by omega) fun b=>?_;simp only[evz,Nat.reduceLT];cases b with
 |false=>simp only[evz,Nat.reduceLT,Bool.not_false];exact leaf t _ (by omega) (by omega)
 |true=>
  simp only[evz,Nat.reduceLT,Bool.not_true];refine next_s hc (by omega) fun v h1 h2=>?_;simp only[evz,Nat.reduceLT];split
  ·rw[wrap64 (by omega),show(t.length:Int)-1=((t.length-1:Nat):Int) by omega];have z1:(0:Int)<=((t.length-1:Nat):Int):=by omega
   have z2:((t.length-1:Nat):Int)<=(t.length:Int):=by omega
   simp only[evz,Nat.reduceLT,z1,z2,Bool.and_self];rw[cells_take t 1 _ rfl];exact leaf _ _ (by omega) (by rw[List.length_take];omega)
  split
  ·rw[cond_pos (ble_ok (by rw[cells_length];simp only[sz_int];omega)),cells_snoc_int];exact leaf _ _ (by omega) (by simp;omega)
  split
  ·refine next_s hc (by omega) fun x k1 k2=>?_;obtain⟨i,rfl⟩:∃i:Nat,x=i:=⟨x.toNat,by omega⟩;have hi:i<t.length:=by have:=k2 (by omega);omega
   simp only[evz,Nat.reduceLT];refine pick_s hc [(l.length:Int),-13,-12] rfl (by simp) (by omega) fun y hy=>?_;have z:i*1+1<=t.length*1:=by omega
   simp only[evz,Nat.reduceLT,hi,cells_le,sz_int,z,set_Int hi];exact leaf _ _ (by omega) (by rw[List.length_set];omega)
  refine draw_loop (σ:=Nat×Int×List Int) (S:=fun m s=>spec_l3BentTerm.at1 30 m (spec_l3BentTerm.st1 (s.1:Nat) (cells code) s.2.1 (cells s.2.2))) (fun s=>s.1<=25/\s.2.2.length=s.1/\p<=s.2.1/\s.2.1=p1+1+1+2*(s.1:Int)) (fun s=>25-s.1) (fun m s hs=>?_) _ (0,p1+1+1,[]) ⟨by simp,rfl,by simp only;omega,by simp⟩ (by simp);obtain⟨k,q,o⟩:=s;obtain⟨q1,q2,q3,q4⟩:=hs;simp only at q1 q2 q3 q4 ⊢;obtain⟨x,hx,e⟩:=spec_l1Pick hc q [24,25] (ts:=[.int .i64 24,.int .i64 25]) rfl (by simp) (by omega);have hx':x<=25:=by simp only[List.mem_cons,List.not_mem_nil,or_false]at hx;omega
  by_cases hk:(k:Int)<x
  ·right;obtain⟨y,hy,e'⟩:=spec_l1Pick hc (q+1) [1,2,0] (ts:=[.int .i64 1,.int .i64 2,.int .i64 0]) rfl (by simp) (by omega);refine⟨(k+1,q+1+1,o++[y]),?_,⟨by simp only;omega,by simp[q2],by simp only;omega,by simp only;omega⟩,by simp only;omega⟩;simp only[spec_l3BentTerm.next1,spec_l3BentTerm.round1,evz,Nat.reduceLT,e,hk,e'];rw[cond_pos (ble_ok (by rw[cells_length];simp only[sz_int];omega)),wrap_succ (by omega),cells_snoc_int]
  ·left;simp only[spec_l3BentTerm.next1,spec_l3BentTerm.round1,evz,Nat.reduceLT,e,hk];exact leaf o _ (by omega) (by omega)
end
theorem skip_append{a:Int->Nat}:∀{x r q:List Int}{k:Nat},skip a k x=some q->skip a k (x++r)=some (q++r)
 |x,r,q,0,h=>by rw[skip_zero]at h;cases h;rw[skip_zero]
 |[],r,q,k+1,h=>by cases h
 |n::x,r,q,k+1,h=>by
  rw[skip]at h;rw[List.cons_append,skip];exact skip_append h
theorem skip_nil{a:Int->Nat}{m:Nat}{r:List Int}(h:skip a m []=some r):m=0/\r=[]:=by
 cases m with
 |zero=>rw[skip_zero]at h;cases h;exact⟨rfl,rfl⟩
 |succ m=>cases h
theorem sub_split{l:List Symbol}{t:List Int}(ht:TermOk l t){p:Nat}(hp:p<t.length):t.drop p=subAt l t p++t.drop (endAt l t p)/\(subAt l t p).length=endAt l t p-p/\skip (ar l) 1 (t.drop p)=some (t.drop (endAt l t p)):=by
 obtain⟨h1,h2,_⟩:=endAt_spec ht hp;have hl:(subAt l t p).length=endAt l t p-p:=by simp[subAt];omega
 refine⟨?_,hl,?_⟩
 ·have e:t.drop (endAt l t p)=(t.drop p).drop (endAt l t p-p):=by rw[List.drop_drop];congr 1;omega
  have e2:subAt l t p=(t.drop p).take (endAt l t p-p):=by unfold subAt;rw[List.drop_take]
  rw[e,e2,List.take_append_drop]
 ·obtain⟨q,hq⟩:=skip_inner (p:=p) ht.skip (by simpa using hp);have:=(skip_at hq).1;rw[hq];unfold endAt;rw[hq];exact congrArg some this
abbrev Bnd:=List Int×List (List Int)
def insAt(vs:List Int)(v:Int):Nat:=(vs.takeWhile fun x=>decide (x<v)).length
def ins{α:Type}(l:List α)(i:Nat)(x:α):List α:=l.take i++x::l.drop i
def bput(b:Bnd)(v:Int)(t:List Int):Bnd:=(ins b.1 (insAt b.1 v) v,ins b.2 (insAt b.1 v) t)
theorem insAt_le(vs:List Int)(v:Int):insAt vs v<=vs.length:=by
 have:=(List.takeWhile_sublist (l:=vs) (p:=fun x=>decide (x<v))).length_le;exact this
theorem ins_length{α:Type}(l:List α)(i:Nat)(x:α)(h:i<=l.length):(ins l i x).length=l.length+1:=by simp[ins];omega
theorem mem_ins{α:Type}{l:List α}{i:Nat}{x y:α}(h:y∈ins l i x):y=x\/y∈l:=by
 unfold ins at h;rcases List.mem_append.1 h with h|h
 ·exact .inr (List.mem_of_mem_take h)
 ·rcases List.mem_cons.1 h with h|h
  ·exact .inl h
  ·exact .inr (List.mem_of_mem_drop h)
structure MB(l:List Symbol)(b:Bnd)(k:Nat):Prop where
 len:b.1.length=b.2.length
 le:b.1.length<=k
 var:∀v∈b.1,0<=v/\v<=11
 tm:∀t∈b.2,TermOk l t
theorem MB.nil(l:List Symbol):MB l ([],[]) 0:=⟨rfl,Nat.le_refl _,by simp,by simp⟩
theorem MB.up{l:List Symbol}{b:Bnd}{k k':Nat}(h:MB l b k)(hk:k<=k'):MB l b k':=⟨h.len,Nat.le_trans h.le hk,h.var,h.tm⟩
theorem MB.put{l:List Symbol}{b:Bnd}{k:Nat}(h:MB l b k){v:Int}(hv:0<=v/\v<=11){t:List Int}(ht:TermOk l t):MB l (bput b v t) (k+1):=by
 have hi:=insAt_le b.1 v;have hlen:=h.len;have:=h.le;refine⟨?_,?_,fun x hx=>?_,fun x hx=>?_⟩
 ·unfold bput;rw[ins_length _ _ _ hi,ins_length _ _ _ (by omega)];omega
 ·unfold bput;rw[ins_length _ _ _ hi];omega
 ·rcases mem_ins hx with rfl|hx
  ·exact hv
  ·exact h.var x hx
 ·rcases mem_ins hx with rfl|hx
  ·exact ht
  ·exact h.tm x hx
theorem MB.ok{l:List Symbol}{b:Bnd}{k:Nat}(h:MB l b k)(hk:k<=24):BindOk b.1 b.2:=
 ⟨h.len,by have:=h.le;omega,fun v hv=>(h.var v hv).1,fun t ht=>⟨(h.tm t ht).pos,by have:=(h.tm t ht).le;omega⟩⟩
theorem bindOf_none{vs:List Int}{ts:List (List Int)}(hl:vs.length=ts.length){v:Int}(h:bindOf vs ts v=none):v∉vs:=fun hv=>by
 unfold bindOf at h;rcases idx_spec (fun x:Int=>decide (x=v)) vs with⟨h1,hno⟩|⟨i,hi,h1,_,_⟩
 ·have:=hno v hv;simp at this
 ·rw[h1,if_neg (by omega),Int.toNat_natCast,List.getElem?_eq_getElem (by omega)]at h;cases h
def mgo(l:List Symbol)(t:List Int):List Int->Bnd->Nat->Option (Bnd×Nat)
 |[],b,p=>some (b,p)
 |n::q,b,p=>
  if t.length<=p then none
  else if 0<=n then(if t.getD p 0=n then mgo l t q b (p+1)else none)
  else match bindOf b.1 b.2 (-1-n)with
   |none=>mgo l t q (bput b (-1-n) (subAt l t p)) (p+(subAt l t p).length)
   |some o=>if o=subAt l t p then mgo l t q b (p+(subAt l t p).length)else none
structure Both(l:List Symbol)(t q:List Int)(p:Nat)(r:List Int):Prop where
 both:∃m,skip (ar l) m q=some []/\skip (ar l) m (t.drop p)=some r
theorem Both.start{l:List Symbol}{t q:List Int}(ht:TermOk l t)(hq:TermOk l q){p:Nat}(hp:p<t.length):Both l t q p (t.drop (endAt l t p)):=⟨1,hq.skip,(sub_split ht hp).2.2⟩
theorem Both.stop{l:List Symbol}{t:List Int}{p:Nat}{r:List Int}(h:Both l t [] p r):t.drop p=r:=by
 obtain⟨m,h1,h2⟩:=h.both;obtain⟨rfl,_⟩:=skip_nil h1;rw[skip_zero]at h2;exact Option.some.inj h2
theorem Both.lt{l:List Symbol}{t q:List Int}{n:Int}{p:Nat}{r:List Int}(h:Both l t (n::q) p r):p<t.length:=by
 obtain⟨m,h1,h2⟩:=h.both;cases m with
 |zero=>rw[skip_zero]at h1;cases h1
 |succ m=>
  rcases Nat.lt_or_ge p t.length with h|h
  ·exact h
  ·rw[List.drop_of_length_le h]at h2;cases h2
theorem Both.node{l:List Symbol}{t q:List Int}{n:Int}{p:Nat}{r:List Int}(h:Both l t (n::q) p r)(hn:t.getD p 0=n):Both l t q (p+1) r:=by
 have hp:=h.lt;obtain⟨m,h1,h2⟩:=h.both;cases m with
 |zero=>rw[skip_zero]at h1;cases h1
 |succ m=>
  rw[List.drop_eq_getElem_cons hp,skip,<- getD_at hp,hn]at h2;rw[skip]at h1;exact⟨_,h1,h2⟩
theorem Both.var{l:List Symbol}{t q:List Int}{n:Int}{p:Nat}{r:List Int}(ht:TermOk l t)(h:Both l t (n::q) p r)(hn:n<0):Both l t q (p+(subAt l t p).length) r:=by
 have hp:=h.lt;obtain⟨h3,h4,h5⟩:=sub_split ht hp;obtain⟨h6,h7,_⟩:=endAt_spec ht hp;obtain⟨m,h1,h2⟩:=h.both;cases m with
 |zero=>rw[skip_zero]at h1;cases h1
 |succ m=>
  rw[skip,ar_neg l hn,Nat.add_zero]at h1;rw[show m+1=1+m by omega,skip_add,h5]at h2;refine⟨m,h1,?_⟩;rw[h4,show p+(endAt l t p-p)=endAt l t p by omega];exact h2
def matchAt(l:List Symbol)(q t:List Int)(p:Nat):Option Bnd:=(mgo l t q ([],[]) p).map (·.1)
end Ev.Ty
end
section
namespace Ev.Ty
section
variable {α:Type}(lt:α->α->Bool)
variable {lt}
end
end Ev.Ty
end
section
namespace Ev.Ty
open Go Ev
namespace Tm
def args:Tm->List Tm
 |v _=>[]
 |k _=>[]
 |u _ x=>[x]
 |b _ x y=>[x,y]
def size:Tm->Nat
 |v _=>1
 |k _=>1
 |u _ x=>x.size+1
 |b _ x y=>x.size+y.size+1
theorem args_size{p t:Tm}(h:p∈t.args):p.size<t.size:=by
 cases t with
 |v n=>cases h
 |k n=>cases h
 |u n x=>rw[List.mem_singleton.1 h];exact Nat.lt_succ_self _
 |b n x y=>
  rcases List.mem_cons.1 h with rfl|h
  ·show p.size<p.size+y.size+1;omega
  ·rw[List.mem_singleton.1 h];show y.size<x.size+y.size+1;omega
def gr(a:Int->Nat):Tm->Prop
 |v _=>False
 |k n=>0<=n/\a n=0
 |u n x=>0<=n/\a n=1/\x.gr a
 |b n x y=>0<=n/\a n=2/\x.gr a/\y.gr a
variable {a:Int->Nat}
theorem gr.args{t p:Tm}(h:t.gr a)(hp:p∈t.args):p.gr a:=by
 cases t with
 |v n=>cases h
 |k n=>cases hp
 |u n x=>rw[List.mem_singleton.1 hp];exact h.2.2
 |b n x y=>
  rcases List.mem_cons.1 hp with rfl|hp
  ·exact h.2.2.1
  ·rw[List.mem_singleton.1 hp];exact h.2.2.2
theorem gr.ok:∀{t:Tm},t.gr a->t.ok a
 |.v _,h=>h.elim
 |.k _,h=>h
 |.u _ _,h=>⟨h.1,h.2.1,h.2.2.ok⟩
 |.b _ _ _,h=>⟨h.1,h.2.1,h.2.2.1.ok,h.2.2.2.ok⟩
theorem gr.head{t:Tm}(h:t.gr a):0<=t.head/\t.args.length=a t.head:=by
 cases t with
 |v n=>cases h
 |k n=>exact⟨h.1,h.2.symm⟩
 |u n x=>exact⟨h.1,h.2.1.symm⟩
 |b n x y=>exact⟨h.1,h.2.1.symm⟩
theorem ok.args{t p:Tm}(h:t.ok a)(hp:p∈t.args):p.ok a:=by
 cases t with
 |v n=>cases hp
 |k n=>cases hp
 |u n x=>rw[List.mem_singleton.1 hp];exact h.2.2
 |b n x y=>
  rcases List.mem_cons.1 hp with rfl|hp
  ·exact h.2.2.1
  ·rw[List.mem_singleton.1 hp];exact h.2.2.2
theorem ok.len{t:Tm}(ha:∀n,n<0->a n=0)(h:t.ok a):t.args.length=a t.head:=by
 cases t with
 |v n=>exact(ha n h).symm
 |k n=>exact h.2.symm
 |u n x=>exact h.2.1.symm
 |b n x y=>exact h.2.1.symm
theorem ok.head{t p:Tm}(h:t.ok a)(hp:p∈t.args):0<=t.head:=by
 cases t with
 |v n=>cases hp
 |k n=>cases hp
 |u n x=>exact h.1
 |b n x y=>exact h.1
theorem args_flat{t p:Tm}(hp:p∈t.args){n:Int}(hn:n∈p.flat):n∈t.flat:=by
 cases t with
 |v m=>cases hp
 |k m=>cases hp
 |u m x=>rw[List.mem_singleton.1 hp]at hn;exact List.mem_cons_of_mem _ hn
 |b m x y=>
  rcases List.mem_cons.1 hp with rfl|hp
  ·exact List.mem_cons_of_mem _ (List.mem_append_left _ hn)
  ·rw[List.mem_singleton.1 hp]at hn;exact List.mem_cons_of_mem _ (List.mem_append_right _ hn)
end Tm
open Tm
inductive G(r:Int->Int):Tm->Tm->Prop
 |eq {s p}:p∈s.args->G r s p
 |sub {s t p}:p∈s.args->G r p t->G r s t
 |big {s t}:0<=s.head->0<=t.head->r t.head<r s.head->(∀q,q∈t.args->G r s q)->G r s t
 |lex {s t A B C x y}:0<=s.head->s.head=t.head->(∀q,q∈t.args->G r s q)->s.args=A++x::B->t.args=A++y::C->G r x y->G r s t
namespace G
variable {r:Int->Int}
theorem arg{s t q:Tm}(h:G r s t)(hq:q∈t.args):G r s q:=by
 induction h with
 |eq hp=>exact .sub hp (.eq hq)
 |sub hp _ ih=>exact .sub hp (ih hq)
 |big _ _ _ h=>exact h q hq
 |lex _ _ h _ _ _=>exact h q hq
theorem trans:∀(n:Nat){s t u:Tm},s.size+t.size+u.size<=n->G r s t->G r t u->G r s u:=by
 intro n;induction n with
 |zero=>intro s t u hn h1 h2;cases s <;> simp[Tm.size]at hn
 |succ n ih=>
  intro s t u hn h1 h2;cases h1 with
  |eq hp=>exact .sub hp h2
  |sub hp h1=>
   have:=args_size hp;exact .sub hp (ih (by omega) h1 h2)
  |big z1 z2 hr hq=>
   have h1:G r s t:=.big z1 z2 hr hq;cases h2 with
   |eq hu=>exact hq _ hu
   |sub hp h2=>
    have:=args_size hp;exact ih (by omega) (hq _ hp) h2
   |big _ z3 hr2 hq2=>exact .big z1 z3 (Int.lt_trans hr2 hr) fun w hw=>ih (by have:=args_size hw;omega) h1 (hq2 w hw)
   |lex z3 he hq2 _ _ _=>exact .big z1 (he▸z3) (he▸hr) fun w hw=>ih (by have:=args_size hw;omega) h1 (hq2 w hw)
  | @lex _ _ A B C x y z1 he hq e1 e2 hxy=>
    have h1:G r s t:=.lex z1 he hq e1 e2 hxy;cases h2 with
    |eq hu=>exact hq _ hu
    |sub hp h2=>
     have:=args_size hp;exact ih (by omega) (hq _ hp) h2
    |big _ z3 hr2 hq2=>exact .big z1 z3 (by rw[he];exact hr2) fun w hw=>ih (by have:=args_size hw;omega) h1 (hq2 w hw)
    | @lex _ _ A' B' C' x' y' z3 he2 hq2 e3 e4 hxy2=>
      have hall:∀w,w∈u.args->G r s w:=fun w hw=>ih (by have:=args_size hw;omega) h1 (hq2 w hw);have hx:x.size<s.size:=args_size (by rw[e1];simp);have hy:y.size<t.size:=args_size (by rw[e2];simp);have hy':y'.size<u.size:=args_size (by rw[e4];simp);rcases List.append_eq_append_iff.1 (e2.symm.trans e3)with⟨D,hA,hD⟩|⟨D,hA,hD⟩
      ·cases D with
       |nil=>
        rw[List.append_nil]at hA;have hD:y=x'/\C=B':=by simpa using hD
        subst hA;refine .lex z1 (he.trans he2) hall e1 e4 (ih (by omega) hxy (hD.1▸hxy2))
       |cons d D=>
        have hD:y=d/\C=D++x'::B':=by simpa using hD
        rw[hA,List.append_assoc]at e4;rw[<- hD.1]at e4;exact .lex z1 (he.trans he2) hall e1 e4 hxy
      ·cases D with
       |nil=>
        rw[List.append_nil]at hA;have hD:x'=y/\B'=C:=by simpa using hD
        subst hA;refine .lex z1 (he.trans he2) hall e1 e4 (ih (by omega) hxy (hD.1▸hxy2))
       |cons d D=>
        have hD:x'=d/\B'=D++y::C:=by simpa using hD
        rw[hA,List.append_assoc]at e1;rw[<- hD.1]at e1;exact .lex z1 (he.trans he2) hall e1 e4 hxy2
theorem var{a:Int->Nat}{n:Int}(hn:n<0):∀(m:Nat){x:Tm},x.size<=m->x.ok a->(G r x (.v n)<->0<=x.head/\n∈x.flat):=by
 intro m;induction m with
 |zero=>intro x hm _;cases x <;> simp[Tm.size]at hm
 |succ m ih=>
  intro x hm hx
  have up:∀p,p∈x.args->n∈p.flat->G r x (.v n):=fun p hp hnp=>by
   have hpo:=hx.args hp;by_cases h0:0<=p.head
   ·exact .sub hp ((ih (by have:=args_size hp;omega) hpo).2 ⟨h0,hnp⟩)
   ·cases p with
    |v k=>rw[List.mem_singleton.1 hnp];exact .eq hp
    |k k=>exact absurd hpo.1 h0
    |u k y=>exact absurd hpo.1 h0
    |b k y z=>exact absurd hpo.1 h0
  constructor
  ·intro h;cases h with
   |eq hp=>exact⟨hx.head hp,args_flat hp (List.mem_singleton.2 rfl)⟩
   |sub hp h=>exact⟨hx.head hp,args_flat hp ((ih (by have:=args_size hp;omega) (hx.args hp)).1 h).2⟩
   |big _ z _ _=>exact absurd z (by show ¬ 0<=n;omega)
   |lex z e _ _ _ _=>
    have e:x.head=n:=e;omega
  ·rintro⟨h1,h2⟩;cases x with
   |v k=>have h1:0<=k:=h1;have hx:k<0:=hx;omega
   |k k=>
    have h1:0<=k:=h1;have:=List.mem_singleton.1 h2;omega
   |u k y=>
    have h1:0<=k:=h1;rcases List.mem_cons.1 h2 with e|h2
    ·omega
    ·exact up y (List.mem_singleton.2 rfl) h2
   |b k y z=>
    have h1:0<=k:=h1;rcases List.mem_cons.1 h2 with e|h2
    ·omega
    ·rcases List.mem_append.1 h2 with h2|h2
     ·exact up y (List.mem_cons_self ..) h2
     ·exact up z (List.mem_cons_of_mem _ (List.mem_singleton.2 rfl)) h2
variable {a:Int->Nat}
end G
end Ev.Ty
end
section
namespace Ev.Ty
open Go Ev
open Tm
theorem flat_inj{a:Int->Nat}:∀(x y:Tm)(r r':List Int),x.ok a->y.ok a->x.flat++r=y.flat++r'->x=y/\r=r':=by
 have hd:∀{n m:Int}{A B:List Int},n::A=m::B->n=m:=fun h=>(List.cons.inj h).1;intro x;induction x with
 |v n=>
  intro y r r' h1 h2 h;cases y with
  |v m=>have h:n=m/\r=r':=List.cons.inj h;exact⟨by rw[h.1],h.2⟩
  |k m=>have e:=hd h;have h1:n<0:=h1;have:=h2.1;omega
  |u m y=>have e:=hd h;have h1:n<0:=h1;have:=h2.1;omega
  |b m y z=>have e:=hd h;have h1:n<0:=h1;have:=h2.1;omega
 |k n=>
  intro y r r' h1 h2 h;cases y with
  |v m=>have e:=hd h;have h2:m<0:=h2;have:=h1.1;omega
  |k m=>have h:n=m/\r=r':=List.cons.inj h;exact⟨by rw[h.1],h.2⟩
  |u m y=>have e:=hd h;have h1:=h1.2;have h2:=h2.2.1;rw[e]at h1;omega
  |b m y z=>have e:=hd h;have h1:=h1.2;have h2:=h2.2.1;rw[e]at h1;omega
 |u n x ih=>
  intro y r r' h1 h2 h;cases y with
  |v m=>have e:=hd h;have h2:m<0:=h2;have:=h1.1;omega
  |k m=>have e:=hd h;have h1:=h1.2.1;have h2:=h2.2;rw[e]at h1;omega
  |u m y=>
   have h:n=m/\x.flat++r=y.flat++r':=List.cons.inj h;obtain⟨e1,e2⟩:=ih y r r' h1.2.2 h2.2.2 h.2;exact⟨by rw[h.1,e1],e2⟩
  |b m y z=>have e:=hd h;have h1:=h1.2.1;have h2:=h2.2.1;rw[e]at h1;omega
 |b n x w ih1 ih2=>
  intro y r r' h1 h2 h;cases y with
  |v m=>have e:=hd h;have h2:m<0:=h2;have:=h1.1;omega
  |k m=>have e:=hd h;have h1:=h1.2.1;have h2:=h2.2;rw[e]at h1;omega
  |u m y=>have e:=hd h;have h1:=h1.2.1;have h2:=h2.2.1;rw[e]at h1;omega
  |b m y z=>
   have h:n=m/\(x.flat++w.flat)++r=(y.flat++z.flat)++r':=List.cons.inj h;have h':=h.2;rw[List.append_assoc,List.append_assoc]at h';obtain⟨e1,e2⟩:=ih1 y _ _ h1.2.2.1 h2.2.2.1 h';obtain⟨e3,e4⟩:=ih2 z _ _ h1.2.2.2 h2.2.2.2 e2;exact⟨by rw[h.1,e1,e3],e4⟩
theorem flat_iff{a:Int->Nat}{x y:Tm}(hx:x.ok a)(hy:y.ok a):x.flat=y.flat<->x=y:=
 ⟨fun h=>(flat_inj x y [] [] hx hy (by rw[h])).1,fun h=>by rw[h]⟩
inductive F2{α β:Type}(R:α->β->Prop):List α->List β->Prop
 |nil:F2 R [] []
 |cons {a b A B}:R a b->F2 R A B->F2 R (a::A) (b::B)
theorem F2.any{α β:Type}{R:α->β->Prop}{f:α->Bool}{P:β->Prop}{A:List α}{B:List β}(h:F2 R A B)(hf:∀a b,R a b->b∈B->(f a=true<->P b)):A.any f=true<->∃b,b∈B/\P b:=by
 induction h with
 |nil=>simp
 | @cons a b A B hr _ ih=>
   rw[List.any_cons,Bool.or_eq_true,hf a b hr (List.mem_cons_self ..),ih fun a b hr hb=>hf a b hr (List.mem_cons_of_mem _ hb)];constructor
   ·rintro(h|⟨b',h1,h2⟩)
    ·exact⟨b,List.mem_cons_self .., h⟩
    ·exact⟨b',List.mem_cons_of_mem _ h1,h2⟩
   ·rintro⟨b',h1,h2⟩;rcases List.mem_cons.1 h1 with rfl|h1
    ·exact .inl h2
    ·exact .inr ⟨b',h1,h2⟩
def At(l:List Symbol)(t:List Int)(i:Nat)(x:Tm):Prop:=x.ok (ar l)/\∃r,t.drop i=x.flat++r
theorem At.facts{l:List Symbol}{t:List Int}{i:Nat}{x:Tm}(h:At l t i x):i<t.length/\t.getD i 0=x.head/\endAt l t i=i+x.flat.length/\subAt l t i=x.flat:=by
 obtain⟨hx,r,h⟩:=h;obtain⟨h1,h2,h3⟩:=at_head h
 have hs:skip (ar l) 1 (t.drop i)=some r:=by
  rw[h,skip_flat (fun n hn=>ar_neg l hn) x r 0 hx,skip_zero]
 have hl:(t.drop i).length=x.flat.length+r.length:=by rw[h,List.length_append]
 rw[List.length_drop]at hl
 have he:endAt l t i=i+x.flat.length:=by
  unfold endAt;rw[hs];show t.length-r.length=_;omega
 refine⟨h1,?_,he,?_⟩
 ·rw[List.getD_eq_getElem?_getD,h2];rfl
 ·unfold subAt;rw[he,List.drop_take,Nat.add_sub_cancel_left,h,List.take_left]
theorem At.next{l:List Symbol}{t:List Int}{i:Nat}{n:Int}{x:Tm}{r:List Int}(hx:x.ok (ar l))(h:t.drop i=n::(x.flat++r)):At l t (i+1) x:=⟨hx,r,by
 rw[<- List.drop_drop,h];rfl⟩
theorem At.args{l:List Symbol}{t:List Int}{i:Nat}{x:Tm}(h:At l t i x):F2 (At l t) (starts l t i) x.args:=by
 obtain⟨_,h2,_,_⟩:=h.facts;obtain⟨hx,r,h⟩:=h;unfold starts;rw[h2,<- hx.len (fun n hn=>ar_neg l hn)];cases x with
 |v n=>exact .nil
 |k n=>exact .nil
 |u n x=>exact .cons (At.next hx.2.2 h) .nil
 |b n x y=>
  have h:t.drop i=n::(x.flat++(y.flat++r)):=by rw[h];simp[Tm.flat]
  have a1:=At.next hx.2.2.1 h;refine .cons a1 (.cons ⟨hx.2.2.2,r,?_⟩ .nil);rw[a1.facts.2.2.1,<- List.drop_drop,<- List.drop_drop,h];show(x.flat++(y.flat++r)).drop _=_;rw[List.drop_left]
section
variable {l:List Symbol}{o a b:List Int}
end
def Closed(l:List Symbol)(t:List Int):Prop:=TermOk l t/\∀n∈t,0<=n
theorem gr_of{a:Int->Nat}:∀x:Tm,x.ok a->(∀n∈x.flat,0<=n)->x.gr a
 |.v n,h,h2=>by have h:n<0:=h;have:=h2 n (List.mem_singleton.2 rfl);omega
 |.k n,h,_=>h
 |.u n x,h,h2=>⟨h.1,h.2.1,gr_of x h.2.2 fun m hm=>h2 m (List.mem_cons_of_mem _ hm)⟩
 |.b n x y,h,h2=>⟨h.1,h.2.1,gr_of x h.2.2.1 fun m hm=>h2 m (List.mem_cons_of_mem _ (List.mem_append_left _ hm)),gr_of y h.2.2.2 fun m hm=>h2 m (List.mem_cons_of_mem _ (List.mem_append_right _ hm))⟩
theorem Closed.at{l:List Symbol}(ok:SigOk ⟨l⟩){t:List Int}(h:Closed l t):∃x,At l t 0 x/\t=x.flat/\x.gr (ar l):=by
 obtain⟨x,hx,e⟩:=h.1.tree ok;exact⟨x,⟨hx,[],by simpa using e⟩,e,gr_of x hx (e▸h.2)⟩
section
variable {l:List Symbol}(ok:SigOk ⟨l⟩){o:List Int}(ho:∀n:Int,0<=n->n<l.length->n∈o)
include ok ho
end
end Ev.Ty
end
section
namespace Ev.Ty
open Go Ev
open Tm
namespace Tm
def inst(σ:Int->Tm):Tm->Tm
 |v n=>σ n
 |k n=>k n
 |u n x=>u n (x.inst σ)
 |b n x y=>b n (x.inst σ) (y.inst σ)
theorem inst_ok{σ:Int->Tm}{a:Int->Nat}(hσ:∀n,n<0->(σ n).ok a):∀{t:Tm},t.ok a->(t.inst σ).ok a
 |.v n,h=>hσ n h
 |.k _,h=>h
 |.u _ _,h=>⟨h.1,h.2.1,inst_ok hσ h.2.2⟩
 |.b _ _ _,h=>⟨h.1,h.2.1,inst_ok hσ h.2.2.1,inst_ok hσ h.2.2.2⟩
inductive Part:Tm->Tm->Prop
 |arg {p t}:p∈t.args->Part p t
 |deep {p q t}:q∈t.args->Part p q->Part p t
end Tm
namespace G
variable {r:Int->Int}
theorem above{t p:Tm}(h:Tm.Part p t):G r t p:=by
 induction h with
 |arg h=>exact .eq h
 |deep h _ ih=>exact .sub h ih
end G
end Ev.Ty
end
section
namespace Ev.Ty
open Go Ev
open Tm
section
variable {l:List Symbol}(ok:SigOk ⟨l⟩){o:List Int}(ho:∀n:Int,0<=n->n<l.length->n∈o)
include ok
theorem TermOk.atZero{t:List Int}(h:TermOk l t):∃x,At l t 0 x/\t=x.flat:=by
 obtain⟨x,hx,e⟩:=h.tree ok;exact⟨x,⟨hx,[],by simpa using e⟩,e⟩
include ho
end
end Ev.Ty
end
section
namespace Ev.Ty
open Go Ev
open Enc (enc)
open Sm (sm)
set_option maxHeartbeats 1000000
theorem spec_l2Find(l:List Symbol)(hl:l.length<=1000)(s:ByteArray):∃n:Int,Call F.spec_l2Find [.rref [slc l] 0,.str s] (.int .i64 n):=by
 suffices h:∃r,callK prog A H LIM (l.length+1) F.spec_l2Find [.rref [slc l] 0,.str s]=r/\∃n:Int,r=some (.int .i64 n,[]) by
  obtain⟨_,e,n,rfl⟩:=h;exact⟨n,call_of rfl _ e⟩
 refine⟨_,spec_l2Find.ev _ _ _,?_⟩;refine draw_loop (Q:=fun r=>∃n:Int,r=some (.int .i64 n,[])) (σ:=Nat) (S:=fun m k=>spec_l2Find.at0 (l.length+1) m (spec_l2Find.st0 (cells l) s (k:Nat))) (fun k=>k<=l.length) (fun k=>l.length-k) (fun m k hk=>?_) _ 0 (by omega) (by omega);by_cases h:k<l.length
 ·have g0:=get0 (l:=l) (k:=2) (i:=k) rfl;have ek:l[k]?=some l[k]:=List.getElem?_eq_getElem h;by_cases e:l[k].name=s
  ·left;exact⟨(k:Int),by simp only[spec_l2Find.next0,spec_l2Find.round0,evz,Nat.reduceLT,h,g0,ek,e,beq_self_eq_true,enc_Symbol]⟩
  ·right;refine⟨k+1,?_,by omega,by omega⟩;simp only[spec_l2Find.next0,spec_l2Find.round0,evz,Nat.reduceLT,h,g0,ek,e,enc_Symbol];rw[wrap_succ (by omega)]
 ·left;exact⟨-1,by simp only[spec_l2Find.next0,spec_l2Find.round0,evz,Nat.reduceLT,h]⟩
def CutQ(s:ByteArray)(r:R):Prop:=∃xs:List ByteArray,r=some (.sl 1 (xs.map .str),[])/\xs.length<=s.size+1/\∀x∈xs,x.size<=s.size
theorem spec_l1Cut(s:ByteArray)(hs:s.size<=1000)(c:Int):∃xs:List ByteArray,Call F.spec_l1Cut [.str s,.int .u8 c] (.sl 1 (xs.map .str))/\xs.length<=s.size+1/\∀x∈xs,x.size<=s.size:=by
 suffices h:∃r,callK prog A H LIM (s.size+2) F.spec_l1Cut [.str s,.int .u8 c]=r/\CutQ s r by
  obtain⟨_,e,n,rfl,h⟩:=h;exact⟨n,call_of rfl _ e,h⟩
 refine⟨_,spec_l1Cut.ev _ _ _,?_⟩;have z:([]:List T)=([]:List ByteArray).map .str:=rfl;rw[z];refine draw_loop (Q:=CutQ s) (σ:=Nat×Nat×List ByteArray) (S:=fun m q=>spec_l1Cut.at0 (s.size+2) m (spec_l1Cut.st0 s c (q.1:Nat) (q.2.1:Nat) (q.2.2.map .str))) (fun q=>q.1<=q.2.1/\q.2.1<=s.size+1/\q.2.2.length<=q.2.1/\∀x∈q.2.2,x.size<=s.size) (fun q=>s.size+1-q.2.1) (fun m q hq=>?_) _ (0,0,[]) ⟨by simp,by simp,by simp,by simp⟩ (by simp only;omega);obtain⟨a,k,xs⟩:=q;obtain⟨h1,h2,h3,h4⟩:=hq;simp only at h1 h2 h3 h4 ⊢;by_cases hk:k<=s.size
 case neg=>
  left;have hk':¬(k:Int)<=(s.size:Int):=by omega
  exact⟨xs,by simp only[spec_l1Cut.next0,spec_l1Cut.round0,evz,Nat.reduceLT,hk'],by omega,h4⟩
 right;have hk':(k:Int)<=(s.size:Int):=by omega
 have ha':(0:Int)<=(a:Int):=by omega
 have hak:(a:Int)<=(k:Int):=by omega
 have put:∀x∈xs++[s.extract a k],x.size<=s.size:=fun x hx=>by
  rcases List.mem_append.1 hx with h|h
  ·exact h4 x h
  ·rw[List.mem_singleton.1 h,ByteArray.size_extract];omega
 have cell:(xs.map T.str)++[.str (s.extract a k)]=(xs++[s.extract a k]).map .str:=by rw[List.map_append];rfl
 have blen:Nat.ble (((xs.map T.str).length+1)*16) (140737488355328*1)=true:=ble_ok (by rw[List.length_map];omega);by_cases e:k=s.size
 ·refine⟨(k+1,k+1,xs++[s.extract a k]),?_,⟨by simp only;omega,by simp only;omega,by simp;omega,put⟩,by simp only;omega⟩;have e':((k:Nat):Int)=(s.size:Int):=by omega
  simp only[spec_l1Cut.next0,spec_l1Cut.round0,evz,Nat.reduceLT,hk',e',beq_self_eq_true,ha',hak,Int.le_refl,decide_true,Bool.and_self,<- cell];rw[<- e]at *;simp only[evz,Nat.reduceLT,hak,decide_true,Bool.and_self,blen];rw[wrap_succ (by omega)]
 ·have e':¬((k:Nat):Int)=(s.size:Int):=by omega
  have hlt:k<s.size:=by omega
  by_cases eb:((s.data.getD k 0).toNat:Int)=c
  ·refine⟨(k+1,k+1,xs++[s.extract a k]),?_,⟨by simp only;omega,by simp only;omega,by simp;omega,put⟩,by simp only;omega⟩;simp only[spec_l1Cut.next0,spec_l1Cut.round0,evz,Nat.reduceLT,hk',e',hlt,eb,ha',hak,decide_true,Bool.and_self,blen,<- cell];rw[wrap_succ (by omega)]
  ·refine⟨(a,k+1,xs),?_,⟨by simp only;omega,by simp only;omega,by simp only;omega,h4⟩,by simp only;omega⟩;simp only[spec_l1Cut.next0,spec_l1Cut.round0,evz,Nat.reduceLT,hk',e',hlt,eb];rw[wrap_succ (by omega)]
def NodesQ(s:ByteArray)(r:R):Prop:=∃(t:List Int)(b:Bool),r=some (.tup [slc t,.bool b],[])/\t.length<=s.size
theorem nodes_inner{l:List Symbol}(hl:l.length<=1000)(s:ByteArray)(hs:s.size<=1000)(N:Nat)(L:St->R)(a:Nat)(t:List Int)(ht:t.length<=a)(k0:Nat)(ha:a<=k0)
 (K:∀(e:Nat)(n:Int),k0<=e->e<=s.size->NodesQ s (L (spec_l4Nodes.st0 (cells l) s (e:Nat) (cells (t++[n]))))):∀(d k f:Nat),k+d=s.size->k0<=k->d<f->
 NodesQ s (spec_l4Nodes.at3 N L f (spec_l4Nodes.st3 (cells l) s (a:Nat) (k:Nat) (cells t))):=by
 intro d;induction d with
 |zero=>
  intro k f hk h0 hf;obtain⟨f,rfl⟩:∃g,f=g+1:=⟨f-1,by omega⟩;have n1:¬(k:Int)<(s.size:Int):=by omega
  have c1:(0:Int)<=(a:Int):=by omega
  have c2:(a:Int)<=(k:Int):=by omega
  have c3:(k:Int)<=(s.size:Int):=by omega
  obtain⟨n,en⟩:=spec_l2Find l hl (s.extract a k);have blen:Nat.ble (((cells t).length+1)*8) (140737488355328*1)=true:=ble_ok (by rw[cells_length,sz_int];omega);simp only[spec_l4Nodes.next3,spec_l4Nodes.round3,n1,c1,c2,c3,decide_true,decide_false,Bool.and_self,cond_true,cond_false,Int.toNat_natCast,en.eq,evz,Nat.reduceLT];by_cases hn:n<0
  ·simp only[hn,evz,Nat.reduceLT];exact⟨[],false,rfl,by simp⟩
  ·simp only[hn,evz,Nat.reduceLT,blen];rw[cells_snoc_int];exact K k n h0 (by omega)
 |succ d ih=>
  intro k f hk h0 hf;obtain⟨f,rfl⟩:∃g,f=g+1:=⟨f-1,by omega⟩;have n1:(k:Int)<(s.size:Int):=by omega
  have n2:k<s.size:=by omega
  have c1:(0:Int)<=(a:Int):=by omega
  have c2:(a:Int)<=(k:Int):=by omega
  have c3:(k:Int)<=(s.size:Int):=by omega
  obtain⟨n,en⟩:=spec_l2Find l hl (s.extract a k);have blen:Nat.ble (((cells t).length+1)*8) (140737488355328*1)=true:=ble_ok (by rw[cells_length,sz_int];omega)
  have stop:NodesQ s (if n<0 then some (.tup [.sl 1 [],.bool false],[])else L (spec_l4Nodes.st0 (cells l) s (k:Nat) (cells t++[.int .i64 n]))):=by
   by_cases hn:n<0
   ·rw[if_pos hn];exact⟨[],false,rfl,by simp⟩
   ·rw[if_neg hn,cells_snoc_int];exact K k n h0 (by omega)
  have ih:=ih (k+1) f (by omega) (by omega) (by omega);simp only[spec_l4Nodes.next3,spec_l4Nodes.round3,n1,n2,c1,c2,c3,inB_nat,decide_true,decide_false,Bool.and_self,cond_true,cond_false,Int.toNat_natCast,en.eq,evz,Nat.reduceLT,blen,wrap_succ (by omega:k<9223372036854775807)];split
  ·split
   ·exact ih
   ·exact stop
  ·exact stop
theorem spec_l4Nodes{l:List Symbol}(hl:l.length<=1000)(s:ByteArray)(hs:s.size<=1000):∃(t:List Int)(b:Bool),Call F.spec_l4Nodes [.rref [slc l] 0,.str s] (.tup [slc t,.bool b])/\t.length<=s.size:=by
 suffices h:∃r,callK prog A H LIM (s.size+1) F.spec_l4Nodes [.rref [slc l] 0,.str s]=r/\NodesQ s r by
  obtain⟨_,e,t,b,rfl,h⟩:=h;exact⟨t,b,call_of rfl _ e,h⟩
 refine⟨_,spec_l4Nodes.ev _ _ _,?_⟩
 have key:∀(d k f:Nat)(t:List Int),k+d=s.size->t.length<=k->d<f->NodesQ s (spec_l4Nodes.at0 (s.size+1) f (spec_l4Nodes.st0 (cells l) s (k:Nat) (cells t))):=by
  intro d;induction d using Nat.strongRecOn with
  |ind d ih=>
   intro k f t hk ht hf;obtain⟨f,rfl⟩:∃g,f=g+1:=⟨f-1,by omega⟩;by_cases hk0:k<s.size
   case neg=>
    have n1:¬(k:Int)<(s.size:Int):=by omega
    simp only[spec_l4Nodes.next0,spec_l4Nodes.round0,evz,Nat.reduceLT,n1];exact⟨t,true,rfl,by omega⟩
   have n1:(k:Int)<(s.size:Int):=by omega
   have next:NodesQ s (spec_l4Nodes.at0 (s.size+1) f (spec_l4Nodes.st0 (cells l) s ((k+1:Nat):Int) (cells t))):=ih (d-1) (by omega) (k+1) f t (by omega) (by omega) (by omega)
   have put:∀n:Int,NodesQ s (spec_l4Nodes.at0 (s.size+1) f (spec_l4Nodes.st0 (cells l) s ((k+1:Nat):Int) (cells t++[.int .i64 n]))):=fun n=>by
    rw[cells_snoc_int];exact ih (d-1) (by omega) (k+1) f _ (by omega) (by simp;omega) (by omega)
   have bad:NodesQ s (some (.tup [.sl 1 [],.bool false],[])):=⟨[],false,rfl,by simp⟩;have blen:Nat.ble (((cells t).length+1)*8) (140737488355328*1)=true:=ble_ok (by rw[cells_length,sz_int];omega)
   have word:((s.data.getD k 0).toNat:Int)>=97->((s.data.getD k 0).toNat:Int)<=122->NodesQ s (spec_l4Nodes.at3 (s.size+1) (spec_l4Nodes.at0 (s.size+1) f) (s.size+1) (spec_l4Nodes.st3 (cells l) s (k:Nat) (k:Nat) (cells t))):=fun w1 w2=>by
    have:=nodes_inner hl s hs (s.size+1) (spec_l4Nodes.at0 (s.size+1) f) k t ht (k+1) (by omega) (fun e n h1 h2=>ih (s.size-e) (by omega) e f _ (by omega) (by simp;omega) (by omega)) (d-1) (k+1) s.size (by omega) (by omega) (by omega);simp only[spec_l4Nodes.next3,spec_l4Nodes.round3,n1,hk0,inB_nat,decide_true,cond_true,Int.toNat_natCast,w1,w2,wrap_succ (by omega:k<9223372036854775807)];exact this
   simp only[spec_l4Nodes.next0,spec_l4Nodes.round0,n1,hk0,inB_nat,decide_true,cond_true,Int.toNat_natCast,evz,Nat.reduceLT,blen,wrap_succ (by omega:k<9223372036854775807)]
   repeat' split
   all_goals first|with_reducible exact next|with_reducible exact bad|with_reducible exact put _|(with_reducible apply word <;> assumption)
 exact key s.size 0 (s.size+1) [] (by omega) (by simp) (by omega)
section
variable {l:List Symbol}(ok:SigOk ⟨l⟩)
include ok
theorem node_sym{t:List Int}(ht:TermOk l t){i:Nat}(hi:i<t.length)(h0:0<=t[i]):∃k:Nat,t[i]=k/\∃h:k<l.length,ar l t[i]=l[k].arity.toNat/\0<=l[k].arity/\l[k].arity<=2/\l[k].name.size<=3:=by
 have hn:=ht.node _ (List.getElem_mem hi);unfold nodeOk inR at hn;simp only[Bool.or_eq_true,Bool.and_eq_true,decide_eq_true_eq]at hn;have hk:t[i].toNat<l.length:=by omega
 refine⟨t[i].toNat,by omega,hk,?_,(ok.arity _ (List.getElem_mem hk)).1,(ok.arity _ (List.getElem_mem hk)).2,name_small (ok.name _ (List.getElem_mem hk))⟩;unfold ar;rw[if_neg (by omega),List.getElem?_eq_getElem hk];rfl
def TextQ(c:Nat)(r:R):Prop:=∃s:ByteArray,r=some (.str s,[])/\s.size<=c
theorem spec_l4TextAt{t:List Int}(ht:TermOk l t):∀(x:Tm)(i:Nat),At l t i x->TextQ (6*x.flat.length) (LIM F.spec_l4Text [.rref [slc l] 0,slc t,.int .i64 i]):=by
 have lb:(ByteArray.mk #[40]).size=1:=rfl;have rb:(ByteArray.mk #[41]).size=1:=rfl;have cm:(ByteArray.mk #[44]).size=1:=rfl;have hle:=ht.le;intro x;induction x with
 |v n=>
  intro i h;obtain⟨h1,h2,_,_⟩:=h.facts;have hn:n<0:=h.1;have e:t[i]=n:=by rw[List.getD_eq_getElem?_getD,List.getElem?_eq_getElem h1]at h2;exact h2
  have ei:t[i]?=some n:=by rw[List.getElem?_eq_getElem h1,e]
  have ev:=spec_l4Text.ev 0 (cells l) (cells t) i;simp only[evz,Nat.reduceLT,h1,ei,enc_int,hn]at ev;refine⟨_,lim_of rfl 0 ev,?_⟩;show ByteArray.size (ByteArray.push ByteArray.empty _)<=6*[n].length;rw[ByteArray.size_push];show 0+1<=6*1;decide
 |k n=>
  intro i h;obtain⟨h1,h2,_,_⟩:=h.facts;have hn:0<=n/\ar l n=0:=h.1;have e:t[i]=n:=by rw[List.getD_eq_getElem?_getD,List.getElem?_eq_getElem h1]at h2;exact h2
  subst e;obtain⟨q,eq,hq,q1,q2,q3,q4⟩:=node_sym ok ht h1 hn.1;have ei:t[i]?=some (q:Int):=by rw[List.getElem?_eq_getElem h1,eq]
  have e0:l[q].arity=0:=by omega
  have hn':¬(q:Int)<0:=by omega
  have ek:l[q]?=some l[q]:=List.getElem?_eq_getElem hq;refine⟨l[q].name,lim_of rfl 0 ((spec_l4Text.ev _ _ _ _).trans ?_),by show _<=6*1;omega⟩;simp only[evz,Nat.reduceLT,h1,ei,enc_int,hn',hq,get0 (l:=l) (k:=2) rfl,get1 (l:=l) (k:=2) rfl,ek,enc_Symbol,e0]
 |u n y ihy=>
  intro i h;obtain⟨h1,h2,_,_⟩:=h.facts;have hn:0<=n/\ar l n=1:=⟨h.1.1,h.1.2.1⟩;have e:t[i]=n:=by rw[List.getD_eq_getElem?_getD,List.getElem?_eq_getElem h1]at h2;exact h2
  have hy:At l t (i+1) y:=by
   obtain⟨hx,r,hr⟩:=h;exact At.next hx.2.2 hr
  obtain⟨y1,_,y3,_⟩:=hy.facts
  have yl:y.flat.length<=24:=by
   have:=(endAt_spec ht y1).2.1;omega
  subst e;obtain⟨q,eq,hq,q1,q2,q3,q4⟩:=node_sym ok ht h1 hn.1;have ei:t[i]?=some (q:Int):=by rw[List.getElem?_eq_getElem h1,eq]
  have e0:l[q].arity=1:=by omega
  have hn':¬(q:Int)<0:=by omega
  have ek:l[q]?=some l[q]:=List.getElem?_eq_getElem hq;obtain⟨s,es,hs⟩:=ihy (i+1) hy;have b1:l[q].name.size+1<=9223372036854775807:=by omega
  have ee:=(l3End_at ok ht y1).eq;refine⟨(l[q].name++ByteArray.mk #[40])++s++ByteArray.mk #[41],lim_of rfl 2 ((spec_l4Text.ev _ _ _ _).trans ?_),?_⟩
  ·simp only[evz,Nat.reduceLT,h1,ei,enc_int,hn',hq,get0 (l:=l) (k:=2) rfl,get1 (l:=l) (k:=2) rfl,ek,enc_Symbol,e0,lb,b1,wrap_succ (by omega:i<9223372036854775807)];have c1:(l[q].name++ByteArray.mk #[40]).size+s.size<=9223372036854775807:=by rw[ByteArray.size_append,lb];omega
   have c2:((l[q].name++ByteArray.mk #[40])++s).size+1<=9223372036854775807:=by rw[ByteArray.size_append,ByteArray.size_append,lb];omega
   simp only[spec_l4Text.next0,spec_l4Text.round0,evz,Nat.reduceLT,es,c1,ee,rb,c2];rfl
  ·rw[ByteArray.size_append,ByteArray.size_append,ByteArray.size_append,lb,rb];show _<=6*(t[i]::y.flat).length;rw[List.length_cons];omega
 |b n y z ihy ihz=>
  intro i h;obtain⟨h1,h2,_,_⟩:=h.facts;have hn:0<=n/\ar l n=2:=⟨h.1.1,h.1.2.1⟩;have e:t[i]=n:=by rw[List.getD_eq_getElem?_getD,List.getElem?_eq_getElem h1]at h2;exact h2
  have hy:At l t (i+1) y:=by
   obtain⟨hx,r,hr⟩:=h;exact At.next (n:=n) hx.2.2.1 (r:=z.flat++r) (by rw[hr];simp[Tm.flat])
  obtain⟨y1,_,y3,_⟩:=hy.facts
  have hz:At l t (endAt l t (i+1)) z:=by
   obtain⟨hx,r,hr⟩:=h;refine⟨hx.2.2.2,r,?_⟩;rw[y3,<- List.drop_drop,<- List.drop_drop,hr];simp[Tm.flat]
  obtain⟨z1,_,z3,_⟩:=hz.facts;have el:=(endAt_spec ht z1).2.1;have yl:y.flat.length<=24:=by omega
  have zl:z.flat.length<=24:=by omega
  subst e;obtain⟨q,eq,hq,q1,q2,q3,q4⟩:=node_sym ok ht h1 hn.1;have ei:t[i]?=some (q:Int):=by rw[List.getElem?_eq_getElem h1,eq]
  have e0:l[q].arity=2:=by omega
  have hn':¬(q:Int)<0:=by omega
  have ek:l[q]?=some l[q]:=List.getElem?_eq_getElem hq;obtain⟨s,es,hs⟩:=ihy (i+1) hy;obtain⟨s2,es2,hs2⟩:=ihz _ hz;have b1:l[q].name.size+1<=9223372036854775807:=by omega
  have ee:=(l3End_at ok ht y1).eq;have ee2:=(l3End_at ok ht z1).eq;refine⟨(((l[q].name++ByteArray.mk #[40])++s)++ByteArray.mk #[44])++s2++ByteArray.mk #[41],lim_of rfl 3 ((spec_l4Text.ev _ _ _ _).trans ?_),?_⟩
  ·simp only[evz,Nat.reduceLT,h1,ei,enc_int,hn',hq,get0 (l:=l) (k:=2) rfl,get1 (l:=l) (k:=2) rfl,ek,enc_Symbol,e0,lb,b1,wrap_succ (by omega:i<9223372036854775807)];have c1:(l[q].name++ByteArray.mk #[40]).size+s.size<=9223372036854775807:=by rw[ByteArray.size_append,lb];omega
   have c2:((l[q].name++ByteArray.mk #[40])++s).size+1<=9223372036854775807:=by rw[ByteArray.size_append,ByteArray.size_append,lb];omega
   have c3:(((l[q].name++ByteArray.mk #[40])++s)++ByteArray.mk #[44]).size+s2.size<=9223372036854775807:=by rw[ByteArray.size_append,ByteArray.size_append,ByteArray.size_append,lb,cm];omega
   have c4:((((l[q].name++ByteArray.mk #[40])++s)++ByteArray.mk #[44])++s2).size+1<=9223372036854775807:=by rw[ByteArray.size_append,ByteArray.size_append,ByteArray.size_append,ByteArray.size_append,lb,cm];omega
   simp only[spec_l4Text.next0,spec_l4Text.round0,evz,Nat.reduceLT,es,c1,ee,rb,c2,es2,ee2,cm,c3,c4];rfl
  ·rw[ByteArray.size_append,ByteArray.size_append,ByteArray.size_append,ByteArray.size_append,ByteArray.size_append,lb,rb,cm];show _<=6*(t[i]::(y.flat++z.flat)).length;rw[List.length_cons,List.length_append];omega
theorem spec_l4Read(s:ByteArray)(hs:s.size<=1000):∃t:List Int,Call F.spec_l4Read [.rref [slc l] 0,.str s] (slc t)/\t.length<=168:=by
 have hle:=ok.le;simp only at hle
 suffices h:∃r,callK prog A H LIM 0 F.spec_l4Read [.rref [slc l] 0,.str s]=r/\∃t:List Int,r=some (slc t,[])/\t.length<=168 by
  obtain⟨_,e,t,rfl,h⟩:=h;exact⟨t,call_of rfl _ e,h⟩
 refine⟨_,spec_l4Read.ev _ _ _,?_⟩;by_cases hb:(s.size:Int)>168
 ·simp only[evz,Nat.reduceLT,hb];exact⟨[],rfl,by simp⟩
 obtain⟨t,b,en,ht⟩:=spec_l4Nodes (l:=l) (by omega) s hs;simp only[evz,Nat.reduceLT,hb,en.eq,(spec_l3Fault l ok t (by omega)).eq];cases b with
 |false=>exact⟨[],rfl,by simp⟩
 |true=>
  simp only[evz,Nat.reduceLT,Bool.not_true];by_cases h0:termFault0 l t=0
  ·have ok':=(termOk_iff l t).1 h0;obtain⟨x,hx,_⟩:=TermOk.atZero ok ok';obtain⟨w,ew,_⟩:=spec_l4TextAt ok ok' x 0 hx;have ew:LIM F.spec_l4Text [.rref [slc l] 0,slc t,.int .i64 0]=some (.str w,[]):=ew;simp only[h0,evz,Nat.reduceLT,ew,ne_eq,not_true_eq_false];split
   ·exact⟨t,rfl,by omega⟩
   ·exact⟨[],rfl,by simp⟩
  ·simp only[h0,evz,Nat.reduceLT,ne_eq,not_false_eq_true];exact⟨[],rfl,by simp⟩
theorem spec_ReadEquation(s:ByteArray)(hs:s.size<=1000):∃(c:Int)(a b:List Int),Call F.spec_ReadEquation [.agg [slc l],.str s] (.agg [.int .i64 c,slc a,slc b])/\(c=0->EqOk l ⟨a,b⟩):=by
 have hle:=ok.le;simp only at hle;let Q:R->Prop:=fun r=>∃(c:Int)(a b:List Int),r=some (.agg [.int .i64 c,slc a,slc b],[])/\(c=0->EqOk l ⟨a,b⟩)
 suffices h:∃r,callK prog A H LIM 0 F.spec_ReadEquation [.agg [slc l],.str s]=r/\Q r by
  obtain⟨_,e,c,a,b,rfl,h⟩:=h;exact⟨c,a,b,call_of rfl _ e,h⟩
 refine⟨_,spec_ReadEquation.ev _ _ _,?_⟩;have bad:Q (some (.agg [.int .i64 5,.sl 1 [],.sl 1 []],[])):=⟨5,[],[],rfl,by omega⟩;obtain⟨xs,ex,x1,x2⟩:=spec_l1Cut s hs 61;have es:=(spec_SignatureFault l (by omega)).eq;rw[(sigOk_iff _).2 ok]at es;simp only[evz,Nat.reduceLT,es,ex.eq,List.length_map];by_cases hb:(s.size:Int)>337
 ·simp only[hb,evz,Nat.reduceLT];exact bad
 simp only[hb,evz,Nat.reduceLT]
 match xs,x2 with
 |[x,y],x2=>
  have hx:=x2 x (by simp);have hy:=x2 y (by simp);obtain⟨a,ea,ha⟩:=spec_l4Read ok x (by omega);obtain⟨b,eb,hb⟩:=spec_l4Read ok y (by omega);have ef:LIM F.spec_l4Fault [.rref [slc l] 0,.rref [.sl 1 (cells a),.sl 1 (cells b)] 0]=_:=(spec_l4Fault l ok a b (by omega) (by omega)).eq;by_cases h0:eqFault l ⟨a,b⟩=0
  ·have r:Q (some (.agg [.int .i64 0,.sl 1 (cells a),.sl 1 (cells b)],[])):=⟨0,a,b,rfl,fun _=>eqOk_iff.1 h0⟩;simpa[ea.eq,eb.eq,ef,h0,inB]using r
  ·simpa[ea.eq,eb.eq,ef,h0,inB]using bad
 |[],_=>simpa using bad
 |[x],_=>simpa using bad
 |x::y::z::r,_=>
  have hne:¬((r.length:Int)+1+1+1=2):=by omega
  simpa[hne]using bad
end
set_option maxHeartbeats 2000000
set_option maxRecDepth 10000
theorem Grown.eq{l:List Symbol}{m n:Nat}{v w:Int}{a b:List Int}(ha:Grown l m v a)(hb:Grown l n w b)(h1:m<=24)(h2:n<=24)(h3:v<=6)(h4:w<=6):EqOk l ⟨a,b⟩:=
 ⟨ha.ok h1 (by omega),hb.ok h2 (by omega),fun n hn=>by rcases ha.node n hn with h|h <;> omega,fun n hn=>by rcases hb.node n hn with h|h <;> omega⟩
section
variable {code:List UInt8}(hc:code.length<=2097152)
include hc
theorem spec_l4Pool{l:List Symbol}(ok:SigOk ⟨l⟩)(p:Int)(hp:0<=p/\p<=1099510000000) :
 Drawn code p 6100 (fun x=>∃a b:List Int,x=.agg [slc a,slc b]/\EqOk l ⟨a,b⟩) (LIM F.spec_l4Pool [.rref [slc code,.int .i64 p] 0,.rref [slc l] 0]):=by
 refine drawn_of rfl 20 ?_;rw[show callK prog A H LIM 20 F.spec_l4Pool [.rref [slc code,.int .i64 p] 0,.rref [slc l] 0]=_ from spec_l4Pool.ev _ _ _ _];refine next_s hc (by omega) fun v h1 h2=>?_;have h2:=h2 (by omega);obtain⟨v,rfl⟩:∃n:Nat,v=n:=⟨v.toNat,by omega⟩;simp only[evz,Nat.reduceLT];generalize hX:([.str _,.str _,.str _,.str _,.str _,.str _,.str _,.str _,.str _,.str _,.str _,.str _,.str _,.str _,.str _,.str _,.str _,.str _]:List T)=X;have hlen:X.length=18:=by rw[<- hX];rfl
 have hX:∃Y:List ByteArray,X=Y.map .str/\∀y∈Y,y.size<=1000:=by
  subst hX;refine⟨[_,_,_,_,_,_,_,_,_,_,_,_,_,_,_,_,_,_],rfl,?_⟩;intro y hy;simp only[List.mem_cons,List.not_mem_nil,or_false]at hy;rcases hy with rfl|rfl|rfl|rfl|rfl|rfl|rfl|rfl|rfl|rfl|rfl|rfl|rfl|rfl|rfl|rfl|rfl|rfl <;> decide
 obtain⟨Y,rfl,hY⟩:=hX;rw[List.length_map]at hlen;refine draw_loop (σ:=Nat) (S:=fun m k=>spec_l4Pool.at0 20 m (spec_l4Pool.st0 (cells l) 18 (v:Nat) (k:Nat) (cells code) (p+1) (Y.map .str))) (fun k=>k<=18) (fun k=>18-k) (fun m k hk=>?_) _ 0 (by omega) (by omega);by_cases h:k<18
 ·have hi:(v+k) % 18<Y.length:=by omega
  have w:IntKind.wrap .i64 (((v:Nat):Int)+(k:Nat))=((v+k:Nat):Int):=by rw[wrap64 (by omega)];omega
  have w2:Int.tmod ((v+k:Nat):Int) 18=(((v+k) % 18:Nat):Int):=by rw[Int.tmod_eq_emod_of_nonneg (by omega)];omega
  have hk':((k:Nat):Int)<18:=by omega
  have ei:Y[(v+k) % 18]?=some Y[(v+k) % 18]:=List.getElem?_eq_getElem hi;obtain⟨c,a,b,er,hr⟩:=spec_ReadEquation ok Y[(v+k) % 18] (hY _ (List.getElem_mem hi));by_cases h0:c=0
  ·left;subst h0;simp only[spec_l4Pool.next0,spec_l4Pool.round0,evz,Nat.reduceLT,hk',w,w2,inB_nat,hi,List.length_map,List.getElem?_map,ei,Option.map_some,Option.bind_some,Int.toNat_natCast,Nat.mul_one,Nat.div_one,er.eq,show ¬(18:Int)=0 by decide];exact drawn_end (by omega) ⟨a,b,rfl,hr rfl⟩
  ·right;refine⟨k+1,?_,by omega,by omega⟩;simp only[spec_l4Pool.next0,spec_l4Pool.round0,evz,Nat.reduceLT,hk',w,w2,inB_nat,hi,List.length_map,List.getElem?_map,ei,Option.map_some,Option.bind_some,Int.toNat_natCast,Nat.mul_one,Nat.div_one,er.eq,h0,show ¬(18:Int)=0 by decide];rw[wrap_succ (by omega)]
 ·left;have hk':¬((k:Nat):Int)<18:=by omega
  simp only[spec_l4Pool.next0,spec_l4Pool.round0,evz,Nat.reduceLT,hk'];refine drawn_s (spec_l3Draw hc ok (p+1) 4 2 (by omega) (by omega) (by omega)) ?_;rintro _ p1 a1 b1 ⟨a,rfl,ha⟩;simp only[evz,Nat.reduceLT];refine drawn_s (spec_l3Draw hc ok p1 2 2 (by omega) (by omega) (by omega)) ?_;rintro _ p2 a2 b2 ⟨b,rfl,hb⟩;simp only[evz,Nat.reduceLT];exact drawn_end (by omega) ⟨a,b,rfl,ha.eq hb (by decide) (by decide) (by decide) (by decide)⟩
theorem spec_l4Draw{l:List Symbol}(ok:SigOk ⟨l⟩)(p:Int)(hp:0<=p/\p<=1099500000000) :
 Drawn code p 6200 (fun x=>∃a b:List Int,x=.agg [slc a,slc b]/\EqOk l ⟨a,b⟩) (LIM F.spec_l4Draw [.rref [slc code,.int .i64 p] 0,.rref [slc l] 0]):=by
 refine drawn_of rfl 0 ?_;rw[show callK prog A H LIM 0 F.spec_l4Draw [.rref [slc code,.int .i64 p] 0,.rref [slc l] 0]=_ from spec_l4Draw.ev _ _ _ _];refine chance_s hc (by omega) fun b=>?_;simp only[evz,Nat.reduceLT];cases b with
 |true=>
  simp only[evz,Nat.reduceLT];refine pick_s hc [4,7,9] rfl (by simp) (by omega) fun v hv=>?_
  have hv':4<=v/\v<=9:=by
   simp only[List.mem_cons,List.not_mem_nil,or_false]at hv;omega
  simp only[evz,Nat.reduceLT];refine drawn_s (spec_l3Draw hc ok _ v 3 (by omega) (by omega) (by omega)) ?_;rintro _ p1 a1 b1 ⟨a,rfl,ha⟩;simp only[evz,Nat.reduceLT];refine pick_s hc [1,3,5] rfl (by simp) (by omega) fun w hw=>?_
  have hw':1<=w/\w<=5:=by
   simp only[List.mem_cons,List.not_mem_nil,or_false]at hw;omega
  simp only[evz,Nat.reduceLT];refine drawn_s (spec_l3Draw hc ok _ w 3 (by omega) (by omega) (by omega)) ?_;rintro _ p2 a2 b2 ⟨b,rfl,hb⟩;simp only[evz,Nat.reduceLT];exact drawn_end (by omega) ⟨a,b,rfl,ha.eq hb (by omega) (by omega) (by decide) (by decide)⟩
 |false=>
  simp only[evz,Nat.reduceLT];refine drawn_s (spec_l4Pool hc ok _ (by omega)) ?_;rintro _ p1 a1 b1 ⟨a,b,rfl,h⟩;simp only[evz,Nat.reduceLT];exact drawn_end (by omega) ⟨a,b,rfl,h⟩
theorem spec_l4BentEquation{l:List Symbol}(hl:l.length<=1000)(p:Int)(hp:0<=p/\p<=1099490000000) :
 Drawn code p 6500 (fun x=>∃a b:List Int,x=.agg [slc a,slc b]/\a.length<=1001/\b.length<=1001) (LIM F.spec_l4BentEquation [.rref [slc code,.int .i64 p] 0,.rref [slc l] 0]):=by
 refine drawn_of rfl 0 ?_;rw[show callK prog A H LIM 0 F.spec_l4BentEquation [.rref [slc code,.int .i64 p] 0,.rref [slc l] 0]=_ from spec_l4BentEquation.ev _ _ _ _];simp only[evz,Nat.reduceLT,(spec_SignatureFault l (by omega)).eq];by_cases h0:sigFault ⟨l⟩=0
 case neg=>
  simp only[h0,evz,Nat.reduceLT,ne_eq,not_false_eq_true];exact drawn_end (by omega) ⟨[0],[0],rfl,by simp,by simp⟩
 have ok:=sigOk_of h0;simp only[h0,evz,Nat.reduceLT,ne_eq,not_true_eq_false];refine chance_s hc (by omega) fun b=>?_;simp only[evz,Nat.reduceLT];cases b with
 |true=>
  simp only[evz,Nat.reduceLT];refine drawn_s (spec_l3BentTerm hc _ 9 7 l hl (by omega) (by omega) (by omega)) ?_;rintro _ p1 a1 b1 ⟨a,rfl,ha⟩;simp only[evz,Nat.reduceLT];refine drawn_s (spec_l3BentTerm hc _ 5 12 l hl (by omega) (by omega) (by omega)) ?_;rintro _ p2 a2 b2 ⟨b,rfl,hb⟩;simp only[evz,Nat.reduceLT];exact drawn_end (by omega) ⟨a,b,rfl,ha,hb⟩
 |false=>
  simp only[evz,Nat.reduceLT];refine drawn_s (spec_l4Draw hc ok _ (by omega)) ?_;rintro _ p1 a1 b1 ⟨a,b,rfl,h⟩;simp only[evz,Nat.reduceLT];have h1:=h.left.le;have h2:=h.right.le;simp only at h1 h2;exact drawn_end (by omega) ⟨a,b,rfl,by omega,by omega⟩
end
section
variable (e:Nat->Nat)(f:Nat->Int)
def upStep(s:Int×Int×Int)(k:Nat):Int×Int×Int:=if(e k:Int)>s.2.2 then s else if f k>=0 then((k:Int),f k,(e k:Int))else s
def IsBest(lo hi:Nat)(s:Int×Int):Prop:=
 (s=(-1,-1)/\∀a,lo<=a->a<hi->f a<0)\/
  ∃a,lo<=a/\a<hi/\s=((a:Int),f a)/\f a>=0/\∀a',lo<=a'->a'<hi->f a'>=0->e a<e a'\/(e a=e a'/\a'<=a)
theorem IsBest.up{k:Nat}{s:Int×Int×Int}(he:∀a,e a<=24)(h:IsBest e f 0 k (s.1,s.2.1))(hs:(s.1 = -1/\s.2.2=25)\/∃a:Nat,s.1=a/\s.2.2=e a) :
 IsBest e f 0 (k+1) ((upStep e f s k).1,(upStep e f s k).2.1)/\(((upStep e f s k).1 = -1/\(upStep e f s k).2.2=25)\/∃a:Nat,(upStep e f s k).1=a/\(upStep e f s k).2.2=e a):=by
 have hek:=he k;obtain⟨p,r,d⟩:=s;unfold upStep;simp only at h hs ⊢;rcases h with⟨hp,h⟩|⟨a,h1,h2,hp,h3,h4⟩
 ·simp only[Prod.mk.injEq]at hp;obtain⟨rfl,rfl⟩:=hp
  have hd:d=25:=by
   rcases hs with⟨_,h⟩|⟨a,h,_⟩
   ·exact h
   ·omega
  subst hd;rw[if_neg (by omega)];by_cases hf:f k>=0
  ·rw[if_pos hf];refine⟨.inr ⟨k,by omega,by omega,rfl,hf,fun a' q1 q2 q3=>?_⟩,.inr ⟨k,rfl,rfl⟩⟩;by_cases hak:a'=k
   ·subst hak;exact .inr ⟨rfl,Nat.le_refl _⟩
   ·have:=h a' (by omega) (by omega);omega
  ·rw[if_neg hf];refine⟨.inl ⟨rfl,fun a' q1 q2=>?_⟩,.inl ⟨rfl,rfl⟩⟩;by_cases hak:a'=k
   ·subst hak;omega
   ·exact h a' (by omega) (by omega)
 ·simp only[Prod.mk.injEq]at hp;obtain⟨rfl,rfl⟩:=hp
  have hd:d=e a:=by
   rcases hs with⟨h,_⟩|⟨a',h,h'⟩
   ·omega
   ·have:a=a':=by omega
    rw[this];exact h'
  subst hd;by_cases hc:(e k:Int)>e a
  ·rw[if_pos hc];refine⟨.inr ⟨a,by omega,by omega,rfl,h3,fun a' q1 q2 q3=>?_⟩,.inr ⟨a,rfl,rfl⟩⟩;by_cases hak:a'=k
   ·subst hak;exact .inl (by omega)
   ·exact h4 a' (by omega) (by omega) q3
  ·rw[if_neg hc];by_cases hf:f k>=0
   ·rw[if_pos hf];refine⟨.inr ⟨k,by omega,by omega,rfl,hf,fun a' q1 q2 q3=>?_⟩,.inr ⟨k,rfl,rfl⟩⟩;by_cases hak:a'=k
    ·subst hak;exact .inr ⟨rfl,Nat.le_refl _⟩
    ·rcases h4 a' (by omega) (by omega) q3 with q|⟨q,_⟩
     ·exact .inl (by omega)
     ·rcases Nat.lt_or_ge (e k) (e a')with q'|q'
      ·exact .inl q'
      ·exact .inr ⟨by omega,by omega⟩
   ·rw[if_neg hf];refine⟨.inr ⟨a,by omega,by omega,rfl,h3,fun a' q1 q2 q3=>?_⟩,.inr ⟨a,rfl,rfl⟩⟩;by_cases hak:a'=k
    ·subst hak;omega
    ·exact h4 a' (by omega) (by omega) q3
end
def fits(l:List Symbol)(rs:List Equation)(t:List Int)(p:Nat):Int:=idx (fun e=>(matchAt l e.left t p).isSome) rs
theorem skip_applied{l:List Symbol}{b:Bnd}{k:Nat}(hb:MB l b k)(hk:k<=24):∀(q x:List Int)(m:Nat),skip (ar l) m q=some []->skip (ar l) m (applied b.1 b.2 q++x)=some x
 |[],x,m,h=>by
  obtain⟨rfl,_⟩:=skip_nil h;rw[skip_zero];rfl
 |n::q,x,m,h=>by
  cases m with
  |zero=>rw[skip_zero]at h;cases h
  |succ m=>
   rw[skip]at h;have ih:=skip_applied hb hk q x _ h;have e:applied b.1 b.2 (n::q)=(bindOf b.1 b.2 (-1-n)).getD [n]++applied b.1 b.2 q:=by simp[applied]
   rw[e,List.append_assoc];cases ho:bindOf b.1 b.2 (-1-n)with
   |none=>
    show skip (ar l) (m+1) (n::(applied b.1 b.2 q++x))=_;rw[skip];exact ih
   |some o=>
    have hn:n<0:=by
     rcases Int.lt_or_le n 0 with h|h
     ·exact h
     ·rw[bindOf_neg (hb.ok hk) (by omega)]at ho;cases ho
    rw[ar_neg l hn,Nat.add_zero]at ih;have ht:=hb.tm o (bindOf_mem ho);show skip (ar l) (m+1) (o++(applied b.1 b.2 q++x))=_;rw[show m+1=1+m by omega,skip_add,skip_append ht.skip];exact ih
theorem applied_node{l:List Symbol}{b:Bnd}{k:Nat}(hb:MB l b k){q:List Int}(hq:∀n∈q,nodeOk l n=true):∀n∈applied b.1 b.2 q,nodeOk l n=true:=fun n hn=>by
 unfold applied at hn;obtain⟨m,hm,hn⟩:=List.mem_flatMap.1 hn;cases ho:bindOf b.1 b.2 (-1-m)with
 |none=>rw[ho]at hn;rw[List.mem_singleton.1 hn];exact hq m hm
 |some o=>rw[ho]at hn;exact(hb.tm o (bindOf_mem ho)).node n hn
section
variable {l:List Symbol}(ok:SigOk ⟨l⟩)
include ok
end
section
variable {l:List Symbol}(ok:SigOk ⟨l⟩){rs:List Equation}(hr:∀e∈rs,EqOk l e)(hn:rs.length<=12)
include ok hr hn
end
theorem cells_int_scalar(l:List Int):(cells l).all T.scalar=true:=by
 rw[<- intsT_cells,List.all_eq_true];intro x hx;obtain⟨n,_,rfl⟩:=List.mem_map.1 hx;rfl
theorem spec_l1Ints(l:List Int)(h:l.length<=4294967296):Call F.spec_l1Ints [slc l] (slc l):=by
 refine call_of rfl 0 ((spec_l1Ints.ev _ _).trans ?_)
 have hb:Nat.ble ((0+(cells l).length)*8) (140737488355328*1)=true:=by
  rw[Nat.ble_eq,cells_length,sz_int];omega
 rw[cells_int_scalar,hb];rfl
def eqOf(e:Entry):Equation:=⟨e.left,e.right⟩
section
variable (l:List Symbol)(z:Int)(tb:List (List Int))(hs:l.length<=4294967296)(ht:sm 4294967296 tb)
include hs ht
end
section
variable {l:List Symbol}{o:List Int}(ok:SigOk ⟨l⟩)(hol:o.length<=1048576)(ho:∀n:Int,0<=n->n<l.length->n∈o)
include ok hol ho
end
end Ev.Ty
end
section
namespace Ev.Ty
section
variable {α:Type}{lt:α->α->Bool}{S:α->Prop}
variable (h1:∀a b c,S a->S b->S c->lt a b=true->lt b c=true->lt a c=true)(h2:∀a b c,S a->S b->S c->lt a b=true->lt c b=false->lt a c=true)(h3:∀a b,S a->S b->lt a b=true->lt b a=false)
include h1 h2 h3
variable (h4:∀a b,S a->S b->a=b\/lt a b=true\/lt b a=true)
include h4
end
end Ev.Ty
end
section
namespace Ev.Ty
open Go Ev
open Enc (enc)
open Sm (sm)
set_option maxHeartbeats 1000000
theorem termFault_0{l:List Symbol}(h:sigFault ⟨l⟩=0)(t:List Int):termFault ⟨l⟩ t=termFault0 l t:=by
 unfold termFault;rw[if_neg (by simpa using h)]
section
variable {l:List Symbol}{o:List Int}(ok:SigOk ⟨l⟩)(hol:o.length<=1048576)(ho:∀n:Int,0<=n->n<l.length->n∈o)
include ok hol ho
end
section
variable {l:List Symbol}{o:List Int}(ok:SigOk ⟨l⟩)(hol:o.length<=1048576)(ho:∀n:Int,0<=n->n<l.length->n∈o)
include ok hol ho
end
def Free(b:Bnd)(t:List Int):Prop:=∀n∈t,(-1-n)∉b.1
theorem bindOf_notMem{vs:List Int}{ts:List (List Int)}{v:Int}(h:v∉vs):bindOf vs ts v=none:=by
 unfold bindOf;rcases idx_spec (fun x:Int=>decide (x=v)) vs with⟨h1,_⟩|⟨i,hi,h1,hy,_⟩
 ·rw[if_pos (by omega)]
 ·have:vs[i]=v:=by simpa using hy
  exact absurd (this▸List.getElem_mem hi) h
theorem applied_free{b:Bnd}:∀{t:List Int},Free b t->applied b.1 b.2 t=t
 |[],_=>rfl
 |n::t,h=>by
  have ih:=applied_free (b:=b) (t:=t) fun m hm=>h m (List.mem_cons_of_mem _ hm);have e:applied b.1 b.2 (n::t)=(bindOf b.1 b.2 (-1-n)).getD [n]++applied b.1 b.2 t:=by simp[applied]
  rw[e,bindOf_notMem (h n (by simp)),ih];rfl
theorem applied_nodes{vs:List Int}{ts:List (List Int)}{P:Int->Prop}(ht:∀x∈ts,∀n∈x,P n){t:List Int}(h:∀n∈t,bindOf vs ts (-1-n)=none->P n):∀n∈applied vs ts t,P n:=fun n hn=>by
 unfold applied at hn;obtain⟨m,hm,hn⟩:=List.mem_flatMap.1 hn;cases ho:bindOf vs ts (-1-m)with
 |none=>rw[ho]at hn;rw[List.mem_singleton.1 hn];exact h m hm ho
 |some o=>rw[ho]at hn;exact ht o (bindOf_mem ho) n hn
structure UB(l:List Symbol)(b:Bnd):Prop where
 mb:MB l b 12
 nd:b.1.Nodup
 free:∀t∈b.2,Free b t
theorem UB.nil(l:List Symbol):UB l ([],[]):=⟨(MB.nil l).up (by omega),List.nodup_nil,by simp⟩
theorem UB.le{l:List Symbol}{b:Bnd}(h:UB l b):b.1.length<=12:=h.mb.le
theorem UB.applied_free{l:List Symbol}{b:Bnd}(h:UB l b)(t:List Int):Free b (applied b.1 b.2 t):=applied_nodes h.free fun n _ hn=>bindOf_none h.mb.len hn
theorem UB.applied_ok{l:List Symbol}{b:Bnd}(h:UB l b){t:List Int}(ht:TermOk l t)(hl:(applied b.1 b.2 t).length<=24):TermOk l (applied b.1 b.2 t):=by
 have hs:=skip_applied h.mb (by omega) t [] 1 ht.skip;rw[List.append_nil]at hs;refine⟨?_,hl,applied_node h.mb ht.node,hs⟩;rcases Nat.eq_zero_or_pos (applied b.1 b.2 t).length with h0|h0
 ·rw[List.eq_nil_of_length_eq_zero h0]at hs;cases hs
 ·exact h0
def one(v:Int)(t:List Int):Bnd:=([v],[t])
abbrev Pr:=Equation
def argsOf(l:List Symbol)(x y:List Int):List Pr:=((starts l x 0).zip (starts l y 0)).map fun p=>⟨subAt l x p.1,subAt l y p.2⟩
def psize(b:Bnd)(ps:List Pr):Nat:=(ps.map fun p=>(applied b.1 b.2 p.left).length+(applied b.1 b.2 p.right).length).sum
theorem sum_starts{l:List Symbol}{t:List Int}(ht:TermOk l t):∀{n p:Nat}{r:List Int},skip (ar l) n (t.drop p)=some r->((startsN l t n p).map fun q=>(subAt l t q).length).sum+r.length=t.length-p
 |0,p,r,h=>by
  rw[skip_zero]at h;rw[<- Option.some.inj h];simp[startsN]
 |n+1,p,r,h=>by
  obtain⟨h1,h2,h3,h4⟩:=skip_one h;have ih:=sum_starts ht h2;have hs:=(sub_split ht h1).2.1;rw[startsN,List.map_cons,List.sum_cons];omega
theorem sum_args{l:List Symbol}{t:List Int}(ht:TermOk l t):((starts l t 0).map fun q=>(subAt l t q).length).sum+1=t.length:=by
 have hp:=ht.pos;obtain⟨r,hr⟩:=args_skip ht (p:=0) (by omega);have hd:t.getD 0 0=t[0]:=getD_at (by omega);have h:=sum_starts ht hr;have hw:=ht.skip
 have e:t=t[0]::t.drop 1:=by
  have:=List.drop_eq_getElem_cons (l:=t) (i:=0) (by omega);rwa[List.drop_zero]at this
 rw[e,skip,Nat.zero_add]at hw;rw[Nat.zero_add,hw]at hr;have:r=[]:=(Option.some.inj hr).symm;subst this;unfold starts;rw[hd];simp at h ⊢;omega
theorem zip_sum{α β:Type}(f:α->Nat)(g:β->Nat):∀(A:List α)(B:List β),A.length=B.length->((A.zip B).map fun p=>f p.1+g p.2).sum=(A.map f).sum+(B.map g).sum
 |[],[],_=>rfl
 |a::A,b::B,h=>by
  have ih:=zip_sum f g A B (by simpa using h);simp only[List.zip_cons_cons,List.map_cons,List.sum_cons]at ih ⊢;omega
 |[],_::_,h=>by simp at h
 |_::_,[],h=>by simp at h
theorem subAt_sub{l:List Symbol}{t:List Int}{p:Nat}:∀n∈subAt l t p,n∈t:=fun n hn=>List.mem_of_mem_take (List.mem_of_mem_drop hn)
theorem args_size{l:List Symbol}{b:Bnd}{x y:List Int}(hx:TermOk l x)(hy:TermOk l y)(fx:Free b x)(fy:Free b y)(he:x.getD 0 0=y.getD 0 0):psize b (argsOf l x y)+2=x.length+y.length:=by
 have e:(argsOf l x y).map (fun p=>(applied b.1 b.2 p.left).length+(applied b.1 b.2 p.right).length)=((starts l x 0).zip (starts l y 0)).map fun p=>(subAt l x p.1).length+(subAt l y p.2).length:=by
  unfold argsOf;rw[List.map_map];refine List.map_congr_left fun p hp=>?_;show(applied b.1 b.2 (subAt l x p.1)).length+(applied b.1 b.2 (subAt l y p.2)).length=_;rw[applied_free fun n hn=>fx n (subAt_sub n hn),applied_free fun n hn=>fy n (subAt_sub n hn)]
 have hl:(starts l x 0).length=(starts l y 0).length:=by unfold starts;rw[startsN_length,startsN_length,he]
 unfold psize;rw[e,zip_sum (fun p=>(subAt l x p).length) (fun q=>(subAt l y q).length) _ _ hl];have:=sum_args hx;have:=sum_args hy;omega
theorem applied_ge{b:Bnd}{l:List Symbol}{k:Nat}(hb:MB l b k):∀t:List Int,t.length<=(applied b.1 b.2 t).length
 |[]=>by simp[applied]
 |n::t=>by
  have ih:=applied_ge hb t;have e:applied b.1 b.2 (n::t)=(bindOf b.1 b.2 (-1-n)).getD [n]++applied b.1 b.2 t:=by simp[applied]
  rw[e,List.length_append,List.length_cons];cases ho:bindOf b.1 b.2 (-1-n)with
  |none=>simp;omega
  |some o=>
   have:=(hb.tm o (bindOf_mem ho)).pos;simp;omega
def StackOk(b:Bnd)(ps:List Pr):Prop:=∃new old:List Pr,ps=new++old/\psize b new<=46/\old.length<=24*b.1.length+1
theorem psize_len{l:List Symbol}{b:Bnd}(hb:UB l b):∀{ps:List Pr},(∀p∈ps,TermOk l p.left/\TermOk l p.right)->2*ps.length<=psize b ps
 |[],_=>by simp[psize]
 |p::ps,h=>by
  have ih:=psize_len hb (ps:=ps) fun q hq=>h q (List.mem_cons_of_mem _ hq);have hp:=h p (by simp);have h1:=applied_ge hb.mb p.left;have h2:=applied_ge hb.mb p.right;have:=hp.1.pos;have:=hp.2.pos;simp only[psize,List.map_cons,List.sum_cons,List.length_cons]at ih ⊢;omega
theorem StackOk.len{l:List Symbol}{b:Bnd}(hb:UB l b){ps:List Pr}(hps:∀p∈ps,TermOk l p.left/\TermOk l p.right)(h:StackOk b ps):ps.length<=400:=by
 obtain⟨new,old,rfl,h1,h2⟩:=h;have:=psize_len hb (ps:=new) fun q hq=>hps q (List.mem_append_left _ hq);have:=hb.le;rw[List.length_append];omega
theorem psize_cons(b:Bnd)(p:Pr)(ps:List Pr):psize b (p::ps)=(applied b.1 b.2 p.left).length+(applied b.1 b.2 p.right).length+psize b ps:=by simp[psize]
theorem psize_append(b:Bnd)(ps qs:List Pr):psize b (ps++qs)=psize b ps+psize b qs:=by simp[psize]
theorem StackOk.tail{b:Bnd}{p:Pr}{ps:List Pr}(h:StackOk b (p::ps)):StackOk b ps:=by
 obtain⟨new,old,e,h1,h2⟩:=h;cases new with
 |nil=>
  rw[List.nil_append]at e;subst e;exact⟨[],ps,rfl,by simp[psize],by simp at h2;omega⟩
 |cons q new=>
  rw[List.cons_append]at e;injection e with e1 e2;rw[psize_cons]at h1;exact⟨new,old,e2,by omega,h2⟩
theorem StackOk.bind{l:List Symbol}{b b':Bnd}(hb:UB l b){p:Pr}{ps:List Pr}(hps:∀q∈p::ps,TermOk l q.left/\TermOk l q.right)(h:StackOk b (p::ps))(hl:b'.1.length=b.1.length+1):StackOk b' ps:=by
 obtain⟨new,old,e,h1,h2⟩:=h.tail;have:=psize_len hb (ps:=new) fun q hq=>hps q (List.mem_cons_of_mem _ (e▸List.mem_append_left _ hq));exact⟨[],ps,rfl,by simp[psize],by rw[e,List.length_append];omega⟩
theorem StackOk.args{b:Bnd}{p:Pr}{ps qs:List Pr}(h:StackOk b (p::ps))(hq:psize b qs+2=(applied b.1 b.2 p.left).length+(applied b.1 b.2 p.right).length)(h1:(applied b.1 b.2 p.left).length<=24)(h2:(applied b.1 b.2 p.right).length<=24):StackOk b (qs++ps):=by
 obtain⟨new,old,e,h3,h4⟩:=h;cases new with
 |nil=>
  rw[List.nil_append]at e;subst e;exact⟨qs,ps,rfl,by omega,by simp at h4;omega⟩
 |cons q new=>
  rw[List.cons_append]at e;injection e with e1 e2;subst e1;rw[psize_cons]at h3;exact⟨qs++new,old,by rw[e2,List.append_assoc],by rw[psize_append];omega,h4⟩
section
variable {l:List Symbol}(ok:SigOk ⟨l⟩)
include ok
end
section
variable {l:List Symbol}(ok:SigOk ⟨l⟩)
include ok
end
section
variable {l:List Symbol}(ok:SigOk ⟨l⟩)
include ok
end
section
variable {l:List Symbol}(ok:SigOk ⟨l⟩)
include ok
end
section
variable {l:List Symbol}(ok:SigOk ⟨l⟩){rs:List Equation}(hr:∀e∈rs,EqOk l e)(hl:rs.length<=12)
include ok hr hl
end
section
variable {l:List Symbol}{rs:List Equation}(hrf:rulesFault ⟨l⟩ rs=0)(hls:sm 1048576 (Signature.mk l))(hrs:sm 1048576 rs){fuel:Nat}(hf:fuel<=200)
include hrf hls hrs hf
end
def two(e:Entry):Bool:=decide (e.kind=4)||decide (e.kind=5)
structure NumsOk(eqn enn:Nat)(e:Entry):Prop where
 kind:e.kind=1\/e.kind=2\/e.kind=3\/e.kind=4\/e.kind=5
 a0:0<=e.a
 given:e.kind=1->e.a.toNat<eqn
 other:e.kind≠1->e.a.toNat<enn
 b:e.kind=4\/e.kind=5->0<=e.b/\e.b.toNat<enn
 side:e.side=0\/(e.kind=4/\e.side=1)
 zero:e.kind≠4->e.kind≠5->e.b=0/\e.place=0
theorem nodup_sub:∀{s t:List Int},s.Nodup->s ⊆ t->s.length<=t.length
 |[],t,_,_=>Nat.zero_le _
 |x::s,t,h,hs=>by
  have hx:x∈t:=hs (by simp);rw[List.nodup_cons]at h
  have h1:s ⊆ t.erase x:=fun y hy=>by
   refine(List.mem_erase_of_ne (fun(e:y=x)=>h.1 (by rw[<- e];exact hy))).2 (hs (List.mem_cons_of_mem _ hy))
  have h2:=nodup_sub h.2 h1;rw[List.length_erase_of_mem hx]at h2;have:=List.length_pos_of_mem hx;rw[List.length_cons];omega
theorem six{s:List Int}(h1:s.Nodup)(h2:∀m∈s,-6<=m/\m<0):s.length<=6:=by
 have:s ⊆ [-6,-5,-4,-3,-2,-1]:=fun m hm=>by
  have:=h2 m hm;simp only[List.mem_cons,List.not_mem_nil,or_false];omega
 exact nodup_sub h1 this
theorem EqOk.small{l:List Symbol}{e:Equation}(h:EqOk l e):sm 1048576 e:=⟨⟨by have:=h.left.le;omega,fun _ _=>trivial⟩,⟨by have:=h.right.le;omega,fun _ _=>trivial⟩⟩
section
variable {l:List Symbol}(ok:SigOk ⟨l⟩)(hs:sm 1048576 (Signature.mk l)){eqs:List Equation}{ents:List Entry}(hq:∀x∈eqs,EqOk l x)(he:∀x∈ents,EqOk l (eqOf x))(hql:eqs.length<=12)(hel:ents.length<=500)
include ok hs hq he hql hel
end
section
variable {l:List Symbol}(ok:SigOk ⟨l⟩)(hs:sm 1048576 (Signature.mk l)){eqs:List Equation}(hq:∀x∈eqs,EqOk l x)(hql:eqs.length<=12){ents:List Entry}(hel:ents.length<=500)
include ok hs hq hql hel
end
section
variable {l:List Symbol}(ok:SigOk ⟨l⟩)(hs:sm 1048576 (Signature.mk l)){eqs:List Equation}(hqs:sm 1048576 eqs)(hq:∀x∈eqs,EqOk l x)(hql:eqs.length<=12){o:List Int}(ho:sm 1048576 o)
include ok hs hqs hq hql ho
end
set_option maxHeartbeats 2000000
set_option maxRecDepth 10000
theorem copy_eq(x y:List Int)(h1:x.length<=4294967296)(h2:y.length<=4294967296):Call F.spec_l4Copy [.rref [slc x,slc y] 0] (.agg [slc x,slc y]):=by
 refine call_of rfl 0 ((spec_l4Copy.ev _ _ _).trans ?_);simp only[evz,Nat.reduceLT,(spec_l1Ints x h1).eq,(spec_l1Ints y h2).eq]
def EqS(n:Nat)(es:List Equation):Prop:=es.length<=n/\∀e∈es,e.left.length<=1001/\e.right.length<=1001
theorem EqS.sm{n:Nat}{es:List Equation}(h:EqS n es)(hn:n<=1001):Sm.sm 1048576 es:=⟨by have:=h.1;omega,fun e he=>⟨⟨by have:=(h.2 e he).1;omega,fun _ _=>trivial⟩,⟨by have:=(h.2 e he).2;omega,fun _ _=>trivial⟩⟩⟩
section
variable {code:List UInt8}(hc:code.length<=2097152)
include hc
end
set_option maxHeartbeats 4000000
set_option maxRecDepth 10000
theorem spec_l10All{l:List Symbol}{y:Nat}{tb:List (List Int)}(al:AlgOk l (y:Int) tb)(es:List Equation)(hlen:es.length<=4294967296)(hok:∀e∈es,EqOk l e) :
 Call F.spec_l10All [.rref [slc l] 0,.rref [.int .i64 y,slc tb] 0,slc es] (.bool (!es.any fun e=>!holdsB l y tb e)):=by
 refine call_of rfl (es.length+1) ((spec_l10All.ev _ _ _ _ _).trans ?_);refine(any_loopL (l:=es) (p:=fun e=>!holdsB l y tb e) (r:=some (.bool false,[])) (z:=some (.bool true,[])) (S:=fun m k=>spec_l10All.at0 (es.length+1) m (spec_l10All.st0 (cells l) y (cells tb) (cells es) (k:Nat))) (fun m k h=>?_) (fun m=>?_) (Nat.lt_succ_self _)).trans ?_
 ·have hlk:es[k]?=some es[k]:=List.getElem?_eq_getElem h;have ho:=hok es[k] (List.getElem_mem h);simp only[spec_l10All.next0,spec_l10All.round0,evz,Nat.reduceLT,h,hlk,cells_window sz_Equation hlk,enc_Equation,(spec_l10Holds al ho).eq];rw[wrap_succ (by omega)];cases holdsB l y tb es[k] <;> rfl
 ·simp only[spec_l10All.next0,spec_l10All.round0,evz,Nat.reduceLT,Nat.lt_irrefl]
 ·cases es.any fun e=>!holdsB l y tb e <;> rfl
theorem spec_l10Make_ok{l:List Symbol}(ok:SigOk ⟨l⟩)(z:Nat)(seed:Int)(hz:1<=z/\z<=3)(hseed:0<=seed/\seed<=65520) :
 ∃tb:List (List Int),LIM F.spec_l10Make [.rref [slc l] 0,.int .i64 z,.int .i64 seed]=some (.agg [.int .i64 z,slc tb],[])/\algFault ⟨l⟩ ⟨z,tb⟩=0:=by
 refine⟨_,(spec_l10Make l ok z seed hz hseed).eq,?_⟩;have h:=(algebraOf_ok (s:=⟨l⟩) (z:=(z:Int)) (seed:=seed) ((sigOk_iff _).2 ok) (by omega) hseed).2.2;unfold algebraOfR at h;rw[if_pos ((sigOk_iff _).2 ok),if_pos ⟨by unfold inR;simp;omega,by unfold inR;simp;omega⟩]at h;simpa only[Int.toNat_natCast]using h
structure AlgS(z:Int)(tb:List (List Int)):Prop where
 size:0<=z/\z<=4
 len:tb.length<=6
 row:∀t∈tb,t.length<=10
theorem AlgS.sm{z:Int}{tb:List (List Int)}(h:AlgS z tb):sm 4294967296 tb:=⟨by have:=h.len;omega,fun t ht=>⟨by have:=h.row t ht;omega,fun _ _=>trivial⟩⟩
theorem AlgOk.row_pos{l:List Symbol}{z:Int}{tb:List (List Int)}(al:AlgOk l z tb){k:Nat}(h:k<tb.length):1<=tb[k].length/\tb[k].length<=9:=by
 have hk:k<l.length:=by rw[<- al.len];exact h
 have ha:=al.sig.arity _ (List.getElem_mem hk);have hs:=al.size;rw[(al.rows k hk h).1];exact⟨Nat.pow_pos (by omega),pow_le9 (by omega) (by omega)⟩
theorem AlgOk.small{l:List Symbol}{z:Int}{tb:List (List Int)}(al:AlgOk l z tb):AlgS z tb/\1<=tb.length:=by
 have h1:=al.sig.pos;have h2:=al.sig.le;have h3:=al.size;have h4:=al.len;simp only at h1 h2;refine⟨⟨by omega,by omega,fun t ht=>?_⟩,by omega⟩;obtain⟨k,hk,rfl⟩:=List.getElem_of_mem ht;have:=al.row_pos hk;omega
section
variable {code:List UInt8}(hc:code.length<=2097152)
include hc
theorem spec_l10Draw{l:List Symbol}(ok:SigOk ⟨l⟩){es:List Equation}(hn:es.length<=12)(hok:∀e∈es,EqOk l e)(p:Int)(hp:0<=p/\p<=1099490000000) :
 Drawn code p 3 (fun x=>∃(z:Int)(tb:List (List Int)),x=.agg [.int .i64 z,slc tb]/\AlgOk l z tb) (LIM F.spec_l10Draw [.rref [slc code,.int .i64 p] 0,.rref [slc l] 0,slc es]):=by
 refine drawn_of rfl 14 ?_;rw[show callK prog A H LIM 14 F.spec_l10Draw [.rref [slc code,.int .i64 p] 0,.rref [slc l] 0,slc es]=_ from spec_l10Draw.ev _ _ _ _ _];refine pick_s hc [1,2,2,3] rfl (by simp) (by omega) fun v hv=>?_;obtain⟨z,rfl,hz⟩:∃z:Nat,v=z/\1<=z/\z<=3:=⟨v.toNat,by simp only[List.mem_cons,List.not_mem_nil,or_false]at hv;omega,by simp only[List.mem_cons,List.not_mem_nil,or_false]at hv;omega⟩;simp only[evz,Nat.reduceLT];refine next_s hc (by omega) fun seed s1 s2=>?_;have s2:=s2 (by omega);simp only[evz,Nat.reduceLT]
 have key:∀(d k f:Nat),k+d=12->d<f->Drawn code p 3 (fun x=>∃(z:Int)(tb:List (List Int)),x=.agg [.int .i64 z,slc tb]/\AlgOk l z tb) (spec_l10Draw.at0 14 f (spec_l10Draw.st0 (cells l) (cells es) z seed (k:Nat) (cells code) (p+1+1) 0)):=by
  intro d;induction d with
  |zero=>
   intro k f hk hf;obtain⟨f,rfl⟩:∃g,f=g+1:=⟨f-1,by omega⟩;have n1:¬((k:Nat):Int)<12:=by omega
   simp only[spec_l10Draw.next0,spec_l10Draw.round0,evz,Nat.reduceLT,n1];refine pick_s hc [1,2,3] rfl (by simp) (by omega) fun v hv=>?_;obtain⟨y,rfl,hy⟩:∃y:Nat,v=y/\1<=y/\y<=3:=⟨v.toNat,by simp only[List.mem_cons,List.not_mem_nil,or_false]at hv;omega,by simp only[List.mem_cons,List.not_mem_nil,or_false]at hv;omega⟩;obtain⟨tb,e,h0⟩:=spec_l10Make_ok ok y seed hy (by omega);simp only[evz,Nat.reduceLT,e];exact drawn_end (by omega) ⟨_,tb,rfl,algOk h0⟩
  |succ d ih=>
   intro k f hk hf;obtain⟨f,rfl⟩:∃g,f=g+1:=⟨f-1,by omega⟩;have n1:((k:Nat):Int)<12:=by omega
   have w1:IntKind.wrap .i64 (((k:Nat):Int)*97)=((k:Nat):Int)*97:=wrap64 (by omega);have w2:IntKind.wrap .i64 (seed+((k:Nat):Int)*97)=seed+((k:Nat):Int)*97:=wrap64 (by omega);obtain⟨tb,e,h0⟩:=spec_l10Make_ok ok z (seed+((k:Nat):Int)*97) hz (by omega);have al:=algOk h0;simp only[spec_l10Draw.next0,spec_l10Draw.round0,evz,Nat.reduceLT,n1,w1,w2,e,(spec_l10All al es (by omega) hok).eq];rw[wrap_succ (by omega)];cases es.any fun e=>!holdsB l z tb e with
   |true=>exact ih (k+1) f (by omega) (by omega)
   |false=>exact drawn_end (by omega) ⟨_,tb,rfl,al⟩
 exact key 12 0 14 rfl (by omega)
omit hc in
theorem set_row{ts:List (List Int)}{i:Nat}(hi:i<ts.length)(t:List Int):List.set (cells ts) (i*1) (slc t)=cells (ts.set i t):=by
 have:=fset_gen (o:=ts) (i:=i) (n:=1) (j:=0) (x:=ts[i]) (x':=t) (c:=slc t) rfl hi (by decide) (by rw[enc_list,enc_list];rfl);rwa[set_same (List.getElem?_eq_getElem hi)]at this
theorem spec_l10Bent{l:List Symbol}(hl:l.length<=1000){es:List Equation}(hes:sm 1048576 es)(p:Int)(hp:0<=p/\p<=1099480000000) :
 Drawn code p 10 (fun x=>∃(z:Int)(tb:List (List Int)),x=.agg [.int .i64 z,slc tb]/\AlgS z tb) (LIM F.spec_l10Bent [.rref [slc code,.int .i64 p] 0,.rref [slc l] 0,slc es]):=by
 refine drawn_of rfl 10 ?_;rw[show callK prog A H LIM 10 F.spec_l10Bent [.rref [slc code,.int .i64 p] 0,.rref [slc l] 0,slc es]=_ from spec_l10Bent.ev _ _ _ _ _];have leaf:∀(z:Int)(tb:List (List Int))(q:Int),p<=q/\q<=p+10->AlgS z tb->Drawn code p 10 (fun x=>∃(z:Int)(tb:List (List Int)),x=.agg [.int .i64 z,slc tb]/\AlgS z tb) (some (.agg [.int .i64 z,slc tb],[.agg [slc code,.int .i64 q]])):=fun z tb q h ha=>drawn_end h ⟨z,tb,rfl,ha⟩;have none_:AlgS 0 []:=⟨by omega,by simp,by simp⟩;simp only[evz,Nat.reduceLT,(spec_SignatureFault l (by omega)).eq];by_cases h0:sigFault ⟨l⟩=0
 case neg=>simp only[h0,evz,Nat.reduceLT,ne_eq,not_false_eq_true];exact leaf 0 [] p (by omega) none_
 have ok:=(sigOk_iff _).1 h0;simp only[h0,evz,Nat.reduceLT,ne_eq,not_true_eq_false,(spec_l5Fault l ok es (sm_mono (by omega) hes)).eq];by_cases h1:eqsFault l es=0
 case neg=>simp only[h1,evz,Nat.reduceLT,ne_eq,not_false_eq_true];exact leaf 0 [] p (by omega) none_
 obtain⟨hlen,hok⟩:=eqsOk_iff.1 h1;simp only[h1,evz,Nat.reduceLT,ne_eq,not_true_eq_false];refine drawn_s (spec_l10Draw hc ok (by omega) hok p (by omega)) ?_;rintro _ p1 a1 b1 ⟨z,tb,rfl,al⟩;obtain⟨hs,hpos⟩:=al.small;have hsl:=hs.len;simp only[evz,Nat.reduceLT];refine chance_s hc (by omega) fun b=>?_;simp only[evz,Nat.reduceLT];cases b with
 |false=>simp only[evz,Nat.reduceLT,Bool.not_false];exact leaf z tb _ (by omega) hs
 |true=>
  simp only[evz,Nat.reduceLT,Bool.not_true];refine next_s hc (by omega) fun v h2 h3=>?_;obtain⟨k,rfl⟩:∃k:Nat,v=k:=⟨v.toNat,by omega⟩;have hk:k<tb.length:=by have:=h3 (by omega);omega
  have hr:=al.row_pos hk;simp only[evz,Nat.reduceLT];refine next_s hc (by omega) fun w _ _=>?_;simp only[evz,Nat.reduceLT];split
  ·refine pick_s hc [0,4] rfl (by simp) (by omega) fun y hy=>?_;simp only[evz,Nat.reduceLT];exact leaf y tb _ (by omega) ⟨by simp only[List.mem_cons,List.not_mem_nil,or_false]at hy;omega,hs.len,hs.row⟩
  split
  ·have z1:(1:Int)<=(tb.length:Int):=by omega
   simp only[evz,Nat.reduceLT,z1,Int.le_refl,Bool.and_self,Int.reduceLE]
   have e9:((cells tb).take (tb.length*1)).drop (1*1)=cells (tb.drop 1):=by
    rw[cells_take tb 1 _ rfl,List.take_length,cells_drop tb 1 1 rfl]
   rw[e9];exact leaf z (tb.drop 1) _ (by omega) ⟨hs.size,by rw[List.length_drop];omega,fun t ht=>hs.row t (List.mem_of_mem_drop ht)⟩
  have rows:∀t:List Int,t.length<=10->AlgS z (tb.set k t):=fun t ht=>⟨hs.size,by rw[List.length_set];exact hs.len,fun u hu=>by
   rcases List.mem_or_eq_of_mem_set hu with h|rfl
   ·exact hs.row u h
   ·exact ht⟩
  split
  ·have blen:Nat.ble (((cells tb[k]).length+1)*8) (140737488355328*1)=true:=ble_ok (by rw[cells_length,sz_int];omega);have hk1:k*1<tb.length*1:=by omega
   have hk2:k*1<(cells tb).length:=by rw[cells_length,sz_list];omega
   simp only[evz,Nat.reduceLT,hk,List.getElem?_eq_getElem,enc_list,blen,hk2,List.set_set,cells_snoc_int];rw[set_row hk];exact leaf z _ _ (by omega) (rows _ (by simp;omega))
  ·simp only[evz,Nat.reduceLT,hk,List.getElem?_eq_getElem,enc_list];refine pick_s hc [3,-1] rfl (by simp) (by omega) fun y hy=>?_;have h0:0<tb[k].length:=by omega
   have e0:inB 0 tb[k].length=true:=(inB_nat 0 _).trans (by simpa using h0);have z0:0+1<=tb[k].length*1:=by omega
   have s0:∀n:Int,setCells (cells tb[k]) 0 [.int .i64 n]=cells (tb[k].set 0 n):=fun n=>by
    have:=set_Int (l:=tb[k]) h0 n;rwa[Nat.zero_mul]at this
   simp only[evz,Nat.reduceLT,e0,cells_le,sz_int,z0,s0];rw[set_row hk];exact leaf z _ _ (by omega) (rows _ (by rw[List.length_set];omega))
def EvalQ(r:R):Prop:=∃(l:List Symbol)(z:Int)(tb:List (List Int))(vs t:List Int),r=some (.tup [.agg [slc l],.agg [.int .i64 z,slc tb],slc vs,slc t],[])/\sm 7 (Signature.mk l)/\AlgS z tb/\vs.length<=6/\t.length<=1001
theorem spec_DrawEvalTerm:∃(l:List Symbol)(z:Int)(tb:List (List Int))(vs t:List Int),Call F.spec_DrawEvalTerm [slc code] (.tup [.agg [slc l],.agg [.int .i64 z,slc tb],slc vs,slc t])/\sm 7 (Signature.mk l)/\AlgS z tb/\vs.length<=6/\t.length<=1001:=by
 suffices h:∃r,callK prog A H LIM 10 F.spec_DrawEvalTerm [slc code]=r/\EvalQ r by
  obtain⟨_,e,l,z,tb,vs,t,rfl,h⟩:=h;exact⟨l,z,tb,vs,t,call_of rfl 10 e,h⟩
 refine⟨_,spec_DrawEvalTerm.ev _ _,?_⟩;rw[show LIM F.spec_l1Source [.sl 1 (cells code)]=_ from spec_l1Source];simp only[evz,Nat.reduceLT,oBx_bx];refine drawn_s (Q:=EvalQ) (spec_l2Bent hc 0 (by omega)) ?_;rintro _ p1 a1 b1 ⟨l,rfl,hl⟩;have hll:l.length<=7:=hl.1;simp only[evz,Nat.reduceLT];refine drawn_s (Q:=EvalQ) (spec_l10Bent hc (l:=l) (by omega) (es:=[]) ⟨by simp,by simp⟩ p1 (by omega)) ?_;rintro _ p2 a2 b2 ⟨z,tb,rfl,ha⟩;simp only[evz,Nat.reduceLT]
 have last:∀(vs:List Int)(p:Int),0<=p/\p<=1000->vs.length<=6->EvalQ
  ((LIM F.spec_l1Pick [.rref [slc code,.int .i64 p] 0,.sl 1 [.int .i64 4,.int .i64 9,.int .i64 20]]).bind fun r53=>bS r53 fun c57 n59=>(oInt .i64 r53.1).bind fun n60=>(LIM F.spec_l1Pick [.rref [slc code,.int .i64 n59] 0,.sl 1 [.int .i64 2,.int .i64 6,.int .i64 6,.int .i64 8]]).bind fun r61=>bS r61 fun c65 n67=>(oInt .i64 r61.1).bind fun n68=>
   (LIM F.spec_l3BentTerm [.rref [slc code,.int .i64 n67] 0,.rref [slc l] 0,.int .i64 n60,.int .i64 n68]).bind fun r69=>bS r69 fun c73 n75=>(oSl 1 r69.1).bind fun c76=>some (.tup [.agg [slc l],.agg [.int .i64 z,slc tb],slc vs,.sl 1 c76],[])):=by
  intro vs p hp hv;refine pick_s (Q:=EvalQ) hc [4,9,20] rfl (by simp) (by omega) fun v hv1=>?_;have hv2:4<=v/\v<=20:=by simp only[List.mem_cons,List.not_mem_nil,or_false]at hv1;omega
  simp only[evz,Nat.reduceLT];refine pick_s (Q:=EvalQ) hc [2,6,6,8] rfl (by simp) (by omega) fun w hw1=>?_;have hw2:2<=w/\w<=8:=by simp only[List.mem_cons,List.not_mem_nil,or_false]at hw1;omega
  simp only[evz,Nat.reduceLT];refine drawn_s (Q:=EvalQ) (spec_l3BentTerm hc _ v w l (by omega) (by omega) (by omega) (by omega)) ?_;rintro _ p4 a4 b4 ⟨t,rfl,ht⟩;simp only[evz,Nat.reduceLT];exact⟨l,z,tb,vs,t,rfl,hl,ha,hv,by omega⟩
 have key:∀(d k f:Nat)(vs:List Int)(p:Int),k+d=6->d<f->vs.length=k->0<=p/\p<=20+2*k->EvalQ (spec_DrawEvalTerm.at0 10 f (spec_DrawEvalTerm.st0 (cells l) (k:Nat) 0 (cells code) p z (cells tb) (cells vs))):=by
  intro d;induction d with
  |zero=>
   intro k f vs p hk hf hv hp;obtain⟨f,rfl⟩:∃g,f=g+1:=⟨f-1,by omega⟩;have n1:¬((k:Nat):Int)<6:=by omega
   simp only[spec_DrawEvalTerm.next0,spec_DrawEvalTerm.round0,evz,Nat.reduceLT,n1];refine chance_s (Q:=EvalQ) hc (by omega) fun b=>?_;simp only[evz,Nat.reduceLT];cases b with
   |false=>
    simp only[evz,Nat.reduceLT];have:=last vs (p+1) (by omega) (by omega);simp only[evz,Nat.reduceLT]at this;exact this
   |true=>
    have z1:(1:Int)<=(vs.length:Int):=by omega
    simp only[evz,Nat.reduceLT,z1,Int.le_refl,Bool.and_self,Int.reduceLE]
    have e9:((cells vs).take (vs.length*1)).drop (1*1)=cells (vs.drop 1):=by
     rw[cells_take vs 1 _ rfl,List.take_length,cells_drop vs 1 1 rfl]
    rw[e9];have:=last (vs.drop 1) (p+1) (by omega) (by rw[List.length_drop];omega);simp only[evz,Nat.reduceLT]at this;exact this
  |succ d ih=>
   intro k f vs p hk hf hv hp;obtain⟨f,rfl⟩:∃g,f=g+1:=⟨f-1,by omega⟩;have n1:((k:Nat):Int)<6:=by omega
   have blen:Nat.ble (((cells vs).length+1)*8) (140737488355328*1)=true:=ble_ok (by rw[cells_length,sz_int];omega);simp only[spec_DrawEvalTerm.next0,spec_DrawEvalTerm.round0,evz,Nat.reduceLT,n1];refine pick_s (Q:=EvalQ) hc [z,z,z,3] rfl (by simp) (by omega) fun v hv1=>?_;simp only[evz,Nat.reduceLT];refine next_s (Q:=EvalQ) hc (by omega) fun w _ _=>?_;simp only[evz,Nat.reduceLT,blen,cells_snoc_int];rw[wrap_succ (by omega)];exact ih (k+1) f (vs++[w]) _ (by omega) (by omega) (by simp[hv]) (by omega)
 exact key 6 0 10 [] p2 rfl (by omega) rfl (by omega)
def HoldsQ(r:R):Prop:=∃(l:List Symbol)(z:Int)(tb:List (List Int))(e:Equation),r=some (.tup [.agg [slc l],.agg [.int .i64 z,slc tb],.agg [slc e.left,slc e.right]],[])/\sm 7 (Signature.mk l)/\AlgS z tb/\e.left.length<=1001/\e.right.length<=1001
theorem spec_DrawHolds:∃(l:List Symbol)(z:Int)(tb:List (List Int))(e:Equation),Call F.spec_DrawHolds [slc code] (.tup [.agg [slc l],.agg [.int .i64 z,slc tb],.agg [slc e.left,slc e.right]])/\sm 7 (Signature.mk l)/\AlgS z tb/\e.left.length<=1001/\e.right.length<=1001:=by
 suffices h:∃r,callK prog A H LIM 0 F.spec_DrawHolds [slc code]=r/\HoldsQ r by
  obtain⟨_,e,l,z,tb,q,rfl,h⟩:=h;exact⟨l,z,tb,q,call_of rfl 0 e,h⟩
 refine⟨_,spec_DrawHolds.ev _ _,?_⟩;rw[show LIM F.spec_l1Source [.sl 1 (cells code)]=_ from spec_l1Source];simp only[evz,Nat.reduceLT,oBx_bx];refine drawn_s (Q:=HoldsQ) (spec_l2Bent hc 0 (by omega)) ?_;rintro _ p1 a1 b1 ⟨l,rfl,hl⟩;have hll:l.length<=7:=hl.1;simp only[evz,Nat.reduceLT];refine drawn_s (Q:=HoldsQ) (spec_l4BentEquation hc (l:=l) (by omega) p1 (by omega)) ?_;rintro _ p2 a2 b2 ⟨a,b,rfl,ha,hb⟩;simp only[evz,Nat.reduceLT,(copy_eq a b (by omega) (by omega)).eq];have hes:sm 1048576 [(⟨a,b⟩:Equation)]:=⟨by simp,fun e he=>by rw[List.mem_singleton.1 he];exact⟨⟨by simp only;omega,fun _ _=>trivial⟩,⟨by simp only;omega,fun _ _=>trivial⟩⟩⟩;have hb10:=spec_l10Bent hc (l:=l) (by omega) hes p2 (by omega);have e1:(slc [(⟨a,b⟩:Equation)]:T)=.sl 2 [slc a,slc b]:=rfl;rw[e1]at hb10;refine drawn_s (Q:=HoldsQ) hb10 ?_;rintro _ p3 a3 b3 ⟨z,tb,rfl,hA⟩;simp only[evz,Nat.reduceLT];exact⟨l,z,tb,⟨a,b⟩,rfl,hl,hA,ha,hb⟩
end
set_option maxHeartbeats 2000000
set_option maxRecDepth 10000
structure BindS(vs:List Int)(ts:List (List Int)):Prop where
 vlen:vs.length<=12
 tlen:ts.length<=12
 size:∀t∈ts,t.length<=1001
section
variable {code:List UInt8}(hc:code.length<=2097152)
include hc
theorem spec_l6Draw{l:List Symbol}(ok:SigOk ⟨l⟩)(p n:Int)(hn:0<=n/\n<=12)(hp:0<=p/\p<=1099490000000) :
 Drawn code p 40000 (fun x=>∃vs ts,x=.agg [slc vs,slc ts]/\BindS vs ts/\BindOk vs ts) (LIM F.spec_l6Draw [.rref [slc code,.int .i64 p] 0,.rref [slc l] 0,.int .i64 n]):=by
 refine drawn_of rfl 20 ?_;rw[show callK prog A H LIM 20 F.spec_l6Draw [.rref [slc code,.int .i64 p] 0,.rref [slc l] 0,.int .i64 n]=_ from spec_l6Draw.ev _ _ _ _ _];refine draw_loop (σ:=Int×Int×List Int×List (List Int)) (S:=fun m s=>spec_l6Draw.at0 20 m (spec_l6Draw.st0 (cells l) n s.1 (cells code) s.2.1 (cells s.2.2.1) (cells s.2.2.2))) (fun s=>0<=s.1/\s.1<=n/\p<=s.2.1/\s.2.1<=p+s.1*3003/\(s.2.2.1.length:Int)<=s.1/\s.2.2.1.length=s.2.2.2.length/\(∀v∈s.2.2.1,0<=v)/\∀t∈s.2.2.2,1<=t.length/\t.length<=1001) (fun s=>(n-s.1).toNat) (fun m s hs=>?_) _ (0,p,[],[]) ⟨by simp only;omega,by simp only;omega,by simp only;omega,by simp only;omega,by simp,by simp,by simp,by simp⟩ (by simp only;omega);obtain⟨k,q,vs,ts⟩:=s;obtain⟨h1,h2,h3,h4,h5,h6,h8,h7⟩:=hs;simp only at h1 h2 h3 h4 h5 h6 h8 h7 ⊢;by_cases hk:k<n
 case neg=>
  left;simp only[spec_l6Draw.next0,spec_l6Draw.round0,evz,Nat.reduceLT,hk];exact drawn_end (by omega) ⟨vs,ts,rfl,⟨by omega,by omega,fun t ht=>(h7 t ht).2⟩,⟨h6,by omega,h8,fun t ht=>⟨(h7 t ht).1,by have:=(h7 t ht).2;omega⟩⟩⟩
 right;have wk:IntKind.wrap .i64 (k+1)=k+1:=wrap64 (by omega);obtain⟨b,ec⟩:=spec_l1Chance hc q 3 (by omega);cases b with
 |true=>
  refine⟨(k+1,q+1,vs,ts),?_,⟨by simp only;omega,by simp only;omega,by simp only;omega,by simp only;omega,by simp only;omega,h6,h8,h7⟩,by simp only;omega⟩;simp only[spec_l6Draw.next0,spec_l6Draw.round0,evz,Nat.reduceLT,hk,ec,wk,Bool.not_true]
 |false=>
  obtain⟨v,hv,ep⟩:=spec_l1Pick hc (q+1) [1,3,4] (ts:=[.int .i64 1,.int .i64 3,.int .i64 4]) rfl (by simp) (by omega)
  have hv':1<=v/\v<=4:=by
   simp only[List.mem_cons,List.not_mem_nil,or_false]at hv;omega
  obtain⟨_,q2,et,c1,c2,t,rfl,ht⟩:=spec_l3Draw hc ok (q+1+1) v 4 (by omega) (by omega) (by omega);have htl:=ht.le;refine⟨(k+1,q2,vs++[k],ts++[t]),?_,⟨by simp only;omega,by simp only;omega,by simp only;omega,by simp only;omega,by simp;omega,by simp[h6],fun x hx=>?_,fun x hx=>?_⟩,by simp only;omega⟩
  ·simp only[spec_l6Draw.next0,spec_l6Draw.round0,evz,Nat.reduceLT,hk,ec,wk,Bool.not_false,ep,et];rw[cond_pos (ble_ok (by rw[cells_length];simp only[sz_int];omega)),cond_pos (ble_ok (by rw[cells_length];simp only[sz_list];omega)),cells_snoc_list,cells_snoc_int]
  ·rcases List.mem_append.1 hx with h|h
   ·exact h8 x h
   ·rw[List.mem_singleton.1 h];omega
  ·rcases List.mem_append.1 hx with h|h
   ·exact h7 x h
   ·rw[List.mem_singleton.1 h];exact⟨ht.pos,by omega⟩
theorem spec_l6Bent{l:List Symbol}(hl:l.length<=1000)(p:Int)(hp:0<=p/\p<=1099480000000) :
 Drawn code p 50000 (fun x=>∃vs ts,x=.agg [slc vs,slc ts]/\BindS vs ts) (LIM F.spec_l6Bent [.rref [slc code,.int .i64 p] 0,.rref [slc l] 0]):=by
 refine drawn_of rfl 0 ?_;rw[show callK prog A H LIM 0 F.spec_l6Bent [.rref [slc code,.int .i64 p] 0,.rref [slc l] 0]=_ from spec_l6Bent.ev _ _ _ _];have leaf:∀(vs:List Int)(ts:List (List Int))(p2:Int),p<=p2/\p2<=p+50000->BindS vs ts->Drawn code p 50000 (fun x=>∃vs ts,x=.agg [slc vs,slc ts]/\BindS vs ts) (some (.agg [slc vs,slc ts],[.agg [slc code,.int .i64 p2]])):=fun vs ts p2 h hb=>drawn_end h ⟨vs,ts,rfl,hb⟩;simp only[evz,Nat.reduceLT,(spec_SignatureFault l (by omega)).eq];by_cases h0:sigFault ⟨l⟩=0
 case neg=>
  simp only[h0,evz,Nat.reduceLT,ne_eq,not_false_eq_true];exact leaf [] [] p (by omega) ⟨by simp,by simp,by simp⟩
 have ok:=sigOk_of h0;simp only[h0,evz,Nat.reduceLT,ne_eq,not_true_eq_false];refine pick_s hc [1,3,6] rfl (by simp) (by omega) fun v hv=>?_
 have hv':1<=v/\v<=6:=by
  simp only[List.mem_cons,List.not_mem_nil,or_false]at hv;omega
 simp only[evz,Nat.reduceLT];refine drawn_s (spec_l6Draw hc ok _ v (by omega) (by omega)) ?_;rintro _ p1 a1 b1 ⟨vs,ts,rfl,hb,hbo⟩;have hlen:=hbo.len;simp only[evz,Nat.reduceLT];split
 ·exact leaf vs ts _ (by omega) hb
 rename_i hv1;have hpos:0<vs.length:=by omega
 refine chance_s hc (by omega) fun b=>?_;simp only[evz,Nat.reduceLT];cases b with
 |false=>simp only[evz,Nat.reduceLT,Bool.not_false];exact leaf vs ts _ (by omega) hb
 |true=>
  simp only[evz,Nat.reduceLT,Bool.not_true];refine next_s hc (by omega) fun x hx1 hx2=>?_;simp only[evz,Nat.reduceLT];split
  ·have e1:(1:Int)<=((vs.length:Nat):Int):=by omega
   simp only[e1,Int.le_refl,evz,Nat.reduceLT,Bool.and_self,Int.reduceLE]
   have e2:((cells vs).take (vs.length*1)).drop (1*1)=cells (vs.drop 1):=by
    rw[cells_cut,List.take_length]
   rw[e2];exact leaf (vs.drop 1) ts _ (by omega) ⟨by rw[List.length_drop];have:=hb.vlen;omega,hb.tlen,hb.size⟩
  split
  ·refine next_s hc (by omega) fun y hy1 hy2=>?_;obtain⟨i,rfl⟩:∃i:Nat,y=i:=⟨y.toNat,by omega⟩;have hi:i<vs.length:=by have:=hy2 (by omega);omega
   simp only[evz,Nat.reduceLT];refine pick_s hc [12,-1] rfl (by simp) (by omega) fun w hw=>?_;have z:i*1+1<=vs.length*1:=by omega
   have hset:setCells (cells vs) (i*1) [.int .i64 w]=cells (vs.set i w):=by
    have:=fset_gen (o:=vs) (i:=i) (n:=1) (j:=0) (x:=vs[i]) (x':=w) (c:=.int .i64 w) rfl hi (by decide) (by rw[enc_int,enc_int];rfl);rwa[set_same (List.getElem?_eq_getElem hi)]at this
   simp only[evz,Nat.reduceLT,hi,cells_le,sz_int,z,hset];exact leaf (vs.set i w) ts _ (by omega) ⟨by rw[List.length_set];exact hb.vlen,hb.tlen,hb.size⟩
  split
  ·refine next_s hc (by omega) fun y hy1 hy2=>?_;obtain⟨i,rfl⟩:∃i:Nat,y=i:=⟨y.toNat,by omega⟩;have hi:i<ts.length:=by have:=hy2 (by omega);omega
   simp only[evz,Nat.reduceLT];refine drawn_s (spec_l3BentTerm hc _ 3 3 l hl (by omega) (by omega) (by omega)) ?_;rintro _ p2 a2 b2 ⟨t,rfl,ht⟩;have z:i*1+1<=ts.length*1:=by omega
   have hset:setCells (cells ts) (i*1) [slc t]=cells (ts.set i t):=by
    have:=fset_gen (o:=ts) (i:=i) (n:=1) (j:=0) (x:=ts[i]) (x':=t) (c:=slc t) rfl hi (by decide) (by rw[enc_list,enc_list];rfl);rwa[set_same (List.getElem?_eq_getElem hi)]at this
   simp only[evz,Nat.reduceLT,hi,cells_le,sz_list,z,hset];refine leaf vs (ts.set i t) _ (by omega) ⟨hb.vlen,by rw[List.length_set];exact hb.tlen,fun u hu=>?_⟩;rcases List.mem_or_eq_of_mem_set hu with h|rfl
   ·exact hb.size u h
   ·exact ht
  ·have z:0+1<=vs.length*1:=by omega
   have e0:inB 0 vs.length=true:=(inB_nat 0 _).trans (by simpa using hpos)
   have hset:setCells (cells vs) 0 [.int .i64 11]=cells (vs.set 0 11):=by
    have:=fset_gen (o:=vs) (i:=0) (n:=1) (j:=0) (x:=vs[0]) (x':=11) (c:=.int .i64 11) rfl hpos (by decide) (by rw[enc_int,enc_int];rfl);rwa[set_same (List.getElem?_eq_getElem hpos)]at this
   simp only[evz,Nat.reduceLT,e0,cells_le,sz_int,z,hset];exact leaf (vs.set 0 11) ts _ (by omega) ⟨by rw[List.length_set];exact hb.vlen,hb.tlen,hb.size⟩
def ApplyQ(r:R):Prop:=∃(l:List Symbol)(vs:List Int)(ts:List (List Int))(t:List Int),r=some (.tup [.agg [slc l],.agg [slc vs,slc ts],slc t],[])/\sm 7 (Signature.mk l)/\BindS vs ts/\t.length<=1001
theorem spec_DrawApplyBinding:∃(l:List Symbol)(vs:List Int)(ts:List (List Int))(t:List Int),Call F.spec_DrawApplyBinding [slc code] (.tup [.agg [slc l],.agg [slc vs,slc ts],slc t])/\sm 7 (Signature.mk l)/\BindS vs ts/\t.length<=1001:=by
 suffices h:∃r,callK prog A H LIM 0 F.spec_DrawApplyBinding [slc code]=r/\ApplyQ r by
  obtain⟨_,e,l,vs,ts,t,rfl,h⟩:=h;exact⟨l,vs,ts,t,call_of rfl 0 e,h⟩
 refine⟨_,spec_DrawApplyBinding.ev _ _,?_⟩;rw[show LIM F.spec_l1Source [.sl 1 (cells code)]=_ from spec_l1Source];simp only[evz,Nat.reduceLT,oBx_bx];refine drawn_s (Q:=ApplyQ) (spec_l2Bent hc 0 (by omega)) ?_;rintro _ p1 a1 b1 ⟨l,rfl,hl⟩;have hll:l.length<=7:=hl.1;simp only[evz,Nat.reduceLT];refine drawn_s (Q:=ApplyQ) (spec_l6Bent hc (l:=l) (by omega) p1 (by omega)) ?_;rintro _ p2 a2 b2 ⟨vs,ts,rfl,hb⟩;simp only[evz,Nat.reduceLT];refine pick_s (Q:=ApplyQ) hc [3,6,12] rfl (by simp) (by omega) fun v hv=>?_
 have hv':3<=v/\v<=12:=by
  simp only[List.mem_cons,List.not_mem_nil,or_false]at hv;omega
 simp only[evz,Nat.reduceLT];refine drawn_s (Q:=ApplyQ) (spec_l3BentTerm hc _ v 6 l (by omega) (by omega) (by omega) (by omega)) ?_;rintro _ p3 a3 b3 ⟨t,rfl,ht⟩;simp only[evz,Nat.reduceLT];exact⟨l,vs,ts,t,rfl,hl,hb,ht⟩
end
end Ev.Ty
end
section
namespace Ev.Ty
open Go Ev
open Tm
section
variable {l:List Symbol}(ok:SigOk ⟨l⟩){o:List Int}(ho:∀n:Int,0<=n->n<l.length->n∈o)
noncomputable def treeB(l:List Symbol)(t:List Int):Tm:=open Classical in if h:∃x:Tm,x.ok (ar l)/\t=x.flat then h.choose else .v (-1)
noncomputable def subB(l:List Symbol)(vs:List Int)(ts:List (List Int))(n:Int):Tm:=match bindOf vs ts (-1-n)with|some t=>treeB l t|none=>.v n
include ok
theorem treeB_ok{t:List Int}(h:TermOk l t):(treeB l t).ok (ar l)/\t=(treeB l t).flat:=by
 have e:∃x:Tm,x.ok (ar l)/\t=x.flat:=h.tree ok;unfold treeB;rw[dif_pos e];exact e.choose_spec
omit ok in
theorem bound_ok{vs:List Int}{ts:List (List Int)}(h:bindFault0 l vs ts=0):BindOk vs ts/\∀t∈ts,TermOk l t:=by
 refine⟨bindOk_of h,?_⟩;unfold bindFault0 at h;split at h
 ·cases h
 ·rename_i h1;have hlen:vs.length=ts.length:=by omega
  split at h
  ·rename_i c hc;obtain⟨x,_,hx⟩:=List.exists_of_findSome?_eq_some hc;unfold pairFault at hx;split at hx
   ·cases hx;cases h
   ·split at hx
    ·rename_i hne;cases hx;exact absurd h hne
    ·cases hx
  ·rename_i hn;intro t ht;obtain⟨k,hk,rfl⟩:=List.getElem_of_mem ht;have hz:k<(vs.zip ts).length:=by rw[List.length_zip];omega
   have:=List.findSome?_eq_none_iff.1 hn _ (List.getElem_mem hz);rw[List.getElem_zip]at this;unfold pairFault at this;split at this
   ·cases this
   ·split at this
    ·cases this
    ·rename_i q2;exact(termOk_iff _ _).1 (by simpa using q2)
theorem subB_ok{vs:List Int}{ts:List (List Int)}(h:BindOk vs ts/\∀t∈ts,TermOk l t)(n:Int)(hn:n<0):(subB l vs ts n).ok (ar l):=by
 unfold subB;cases e:bindOf vs ts (-1-n)with
 |none=>exact hn
 |some t=>exact(treeB_ok ok (h.2 t (bindOf_mem e))).1
theorem applied_inst{vs:List Int}{ts:List (List Int)}(h:BindOk vs ts/\∀t∈ts,TermOk l t):∀x:Tm,x.ok (ar l)->applied vs ts x.flat=(x.inst (subB l vs ts)).flat:=by
 have hb:=h;have one:∀n:Int,0<=n->(bindOf vs ts (-1-n)).getD [n]=[n]:=fun n hn=>by rw[bindOf_neg hb.1 (by omega)];rfl
 intro x;induction x with
 |v n=>
  intro _;show[n].flatMap _=(subB l vs ts n).flat
  rw[List.flatMap_cons,List.flatMap_nil,List.append_nil];unfold subB;cases e:bindOf vs ts (-1-n)with
  |none=>rfl
  |some t=>exact(treeB_ok ok (hb.2 t (bindOf_mem e))).2
 |k n=>
  intro hx;show[n].flatMap _=[n];rw[List.flatMap_cons,List.flatMap_nil,List.append_nil,one n hx.1]
 |u n x ih=>
  intro hx;show(n::x.flat).flatMap _=n::(x.inst (subB l vs ts)).flat
  rw[List.flatMap_cons,one n hx.1,<- ih hx.2.2];rfl
 |b n x y ihx ihy=>
  intro hx;show(n::(x.flat++y.flat)).flatMap _=n::((x.inst (subB l vs ts)).flat++(y.inst (subB l vs ts)).flat);rw[List.flatMap_cons,one n hx.1,<- ihx hx.2.2.1,<- ihy hx.2.2.2,List.flatMap_append];rfl
omit ok in
theorem termOk_tree{t:List Int}{x:Tm}(hx:x.ok (ar l))(e:t=x.flat)(hn:∀n∈t,nodeOk l n=true)(hl:t.length<=24):TermOk l t:=by
 refine⟨?_,hl,hn,?_⟩
 ·rw[e];exact x.flat_pos
 ·have:=Tm.skip_flat (a:=ar l) (fun n hn=>ar_neg l hn) x [] 0 hx;rw[e];rwa[List.append_nil]at this
theorem applied_ok{vs:List Int}{ts:List (List Int)}(h:BindOk vs ts/\∀t∈ts,TermOk l t){a:List Int}(ha:TermOk l a)(hl:(applied vs ts a).length<=24):TermOk l (applied vs ts a):=by
 obtain⟨x,hx,e⟩:=ha.tree ok;refine termOk_tree (inst_ok (subB_ok ok h) hx) (by rw[e];exact applied_inst ok h x hx) (fun n hn=>?_) hl;obtain⟨m,hm,hn⟩:=List.mem_flatMap.1 hn;cases eb:bindOf vs ts (-1-m)with
 |none=>rw[eb]at hn;rw[List.mem_singleton.1 hn];exact ha.node m hm
 |some t=>rw[eb]at hn;exact(h.2 t (bindOf_mem eb)).node n hn
include ho
end
end Ev.Ty
end
section
namespace Ev.Ty
open Go Ev
end Ev.Ty
end
section
namespace Ev.Ty
open Go Ev
section
variable {l:List Symbol}{rs:List Equation}
variable (hr:∀e∈rs,EqOk l e)
include hr
end
section
variable {l:List Symbol}{rs:List Equation}
end
end Ev.Ty
end
section
namespace Ev.Ty
open Go Ev
theorem eval_inst{z:Int}{tb:List (List Int)}{vs vs':List Int}{σ:Int->Tm}:∀x:Tm,(∀n∈x.flat,n<0->vs'.getD (-1-n).toNat 0=(σ n).eval z tb vs)->(a:Int->Nat)->x.ok a->(x.inst σ).eval z tb vs=x.eval z tb vs'
 |.v n,h,a,hx=>(h n (List.mem_singleton.2 rfl) hx).symm
 |.k n,h,a,hx=>rfl
 |.u n x,h,a,hx=>by
  show(tb.getD n.toNat []).getD ((x.inst σ).eval z tb vs).toNat 0=_;rw[eval_inst x (fun m hm=>h m (List.mem_cons_of_mem _ hm)) a hx.2.2];rfl
 |.b n x y,h,a,hx=>by
  show(tb.getD n.toNat []).getD ((x.inst σ).eval z tb vs*z+(y.inst σ).eval z tb vs).toNat 0=_;rw[eval_inst x (fun m hm=>h m (List.mem_cons_of_mem _ (List.mem_append_left _ hm))) a hx.2.2.1,eval_inst y (fun m hm=>h m (List.mem_cons_of_mem _ (List.mem_append_right _ hm))) a hx.2.2.2];rfl
section
variable {l:List Symbol}(ok:SigOk ⟨l⟩)
include ok
theorem treeOf_eq{t:List Int}{x:Tm}(ht:TermOk l t)(hx:x.ok (ar l))(e:t=x.flat):treeOf l t=x:=by
 obtain⟨h1,h2⟩:=treeOf_spec ok ht;exact(flat_iff h1 hx).1 (h2.symm.trans e)
theorem treeB_eq{t:List Int}(ht:TermOk l t):treeB l t=treeOf l t:=by
 obtain⟨h1,h2⟩:=treeB_ok ok ht;exact(treeOf_eq ok ht h1 h2).symm
theorem low_tree{t:List Int}(ht:TermOk l t)(h:∀n∈t,-6<=n):(treeOf l t).low 6/\(treeOf l t).syms l.length/\(treeOf l t).ok (ar l):=by
 obtain⟨h1,h2⟩:=treeOf_spec ok ht;exact⟨Tm.low_of (by rw[<- h2];exact h),Tm.syms_of h1 (by rw[<- h2];exact ht.node),h1⟩
end
end Ev.Ty
end
section
namespace Ev.Ty
open Go Ev
open Enc (enc)
open Sm (sm)
set_option maxHeartbeats 4000000
set_option maxRecDepth 10000
theorem rise_of{vs:List Int}(h:falls vs=false):∀(d i:Nat)(hi:i<vs.length)(hj:i+d+1<vs.length),vs[i]<vs[i+d+1]:=by
 have step:∀(i:Nat)(h1:i+1<vs.length),vs[i]'(by omega)<vs[i+1]:=fun i h1=>by
  unfold falls at h;rw[List.any_eq_false]at h;have:=h i (List.mem_range.2 (by omega));rw[getD_at h1,getD_at (show i<vs.length by omega)]at this;simpa using this
 intro d;induction d with
 |zero=>intro i hi hj;exact step i hj
 |succ d ih=>
  intro i hi hj;have h1:=ih i hi (by omega);have h2:=step (i+d+1) (by omega);exact Int.lt_trans h1 h2
theorem bind_rise{l:List Symbol}{vs:List Int}{ts:List (List Int)}(h:bindFault0 l vs ts=0):falls vs=false:=by
 unfold bindFault0 at h;split at h
 ·cases h
 split at h
 ·rename_i c hc;obtain⟨x,_,hx⟩:=List.exists_of_findSome?_eq_some hc;unfold pairFault at hx;split at hx
  ·cases hx;cases h
  ·split at hx
   ·rename_i hne;cases hx;exact absurd h hne
   ·cases hx
 ·split at h
  ·cases h
  ·rename_i q;simpa using q
structure Laid(l:List Symbol)(z:Int)(tb:List (List Int))(vals vs:List Int)(ts:List (List Int))(k:Nat)(nx:List Int):Prop where
 len:nx.length=6
 rng:∀n∈nx,0<=n/\n<=z-1
 hit:∀(i:Nat)(h:i<vs.length)(h':i<ts.length),i<k->vs[i]<6->nx.getD vs[i].toNat 0=(treeOf l ts[i]).eval z tb vals/\∀n∈ts[i],-6<=n
 miss:∀j:Nat,j<6->(∀(i:Nat)(h:i<vs.length),i<k->vs[i]≠j)->nx.getD j 0=vals.getD j 0
theorem getD_set_ne{nx:List Int}{i j:Nat}{x:Int}(h:i≠j):(nx.set i x).getD j 0=nx.getD j 0:=by
 rw[List.getD_eq_getElem?_getD,List.getElem?_set_ne h,List.getD_eq_getElem?_getD]
theorem getD_set_eq{nx:List Int}{i:Nat}{x:Int}(h:i<nx.length):(nx.set i x).getD i 0=x:=by
 rw[List.getD_eq_getElem?_getD,List.getElem?_set_self h];rfl
section
variable {l:List Symbol}{z:Int}{tb:List (List Int)}{vals vs:List Int}{ts:List (List Int)}
theorem Laid.start(h6:vals.length=6)(hv:∀n∈vals,0<=n/\n<=z-1):Laid l z tb vals vs ts 0 vals:=⟨h6,hv,fun i h h' hk=>absurd hk (by omega),fun j _ _=>rfl⟩
theorem Laid.skip{k:Nat}{nx:List Int}(h:Laid l z tb vals vs ts k nx)(hk:k<vs.length)(h6:6<=vs[k]):Laid l z tb vals vs ts (k+1) nx:=
 ⟨h.len,h.rng,fun i h1 h2 h3 h4=>by
  rcases Nat.lt_or_ge i k with h5|h5
  ·exact h.hit i h1 h2 h5 h4
  ·obtain rfl:i=k:=by omega
   omega,fun j hj hm=>h.miss j hj fun i h1 h2=>hm i h1 (by omega)⟩
theorem Laid.put{k:Nat}{nx:List Int}(hbo:BindOk vs ts)(hf:falls vs=false)(h:Laid l z tb vals vs ts k nx)(hk:k<vs.length)(hk':k<ts.length)(h6:vs[k]<6)(hr:0<=(treeOf l ts[k]).eval z tb vals/\(treeOf l ts[k]).eval z tb vals<=z-1)
 (hlow:∀n∈ts[k],-6<=n) (hpos:0<=vs[k]):Laid l z tb vals vs ts (k+1) (nx.set vs[k].toNat ((treeOf l ts[k]).eval z tb vals)):=by
 refine⟨by rw[List.length_set];exact h.len,fun n hn=>?_,fun i h1 h2 h3 h4=>?_,fun j hj hm=>?_⟩
 ·rcases List.mem_or_eq_of_mem_set hn with hn|rfl
  ·exact h.rng n hn
  ·exact hr
 ·rcases Nat.lt_or_ge i k with h5|h5
  ·have hlt:=rise_of hf (k-i-1) i h1 (by omega);have e:i+(k-i-1)+1=k:=by omega
   simp only[e]at hlt;have hq:=h.hit i h1 h2 h5 h4;have h0:=hbo.nn _ (List.getElem_mem h1);rw[getD_set_ne (by omega)];exact hq
  ·obtain rfl:i=k:=by omega
   rw[getD_set_eq (by rw[h.len];omega)];exact⟨rfl,hlow⟩
 ·have:=hm k hk (by omega);rw[getD_set_ne (by omega)];exact h.miss j hj fun i h1 h2=>hm i h1 (by omega)
variable (ok:SigOk ⟨l⟩)
include ok
theorem Laid.value{nx:List Int}(hb:BindOk vs ts/\∀t∈ts,TermOk l t)(h:Laid l z tb vals vs ts vs.length nx){r:List Int}(hr:TermOk l r)(hlow:∀n∈r,-6<=n)(hl:(applied vs ts r).length<=24) :
 (treeOf l (applied vs ts r)).eval z tb vals=(treeOf l r).eval z tb nx/\∀n∈applied vs ts r,-6<=n:=by
 have hlen:vs.length=ts.length:=hb.1.len
 have look:∀n∈r,n<0->nx.getD (-1-n).toNat 0=(subB l vs ts n).eval z tb vals/\∀m∈(bindOf vs ts (-1-n)).getD [n],-6<=m:=fun n hn h0=>by
  have h6:=hlow n hn;unfold subB bindOf;rcases idx_spec (fun x=>decide (x = -1-n)) vs with⟨e,hm⟩|⟨i,hi,e,he,_⟩
  ·rw[e,if_pos (by omega)]
   have:=h.miss (-1-n).toNat (by omega) fun i h1 _ he=>by
    have:=hm _ (List.getElem_mem h1);rw[decide_eq_false_iff_not]at this;omega
   refine⟨?_,fun m hm=>by rw[List.mem_singleton.1 hm];exact h6⟩;show nx.getD _ 0=vals.getD _ 0;exact this
  ·have he:vs[i] = -1-n:=by simpa using he
   have hi':i<ts.length:=by omega
   rw[e,if_neg (by omega),Int.toNat_natCast,List.getElem?_eq_getElem hi'];have:=h.hit i hi hi' (by omega) (by omega);rw[he]at this;refine⟨?_,this.2⟩;show _=(treeB l ts[i]).eval z tb vals;rw[treeB_eq ok (hb.2 _ (List.getElem_mem hi'))];exact this.1
 refine⟨?_,fun n hn=>?_⟩
 ·obtain⟨h1,h2⟩:=treeOf_spec ok hr;have e:=applied_inst ok hb _ h1;rw[<- h2]at e;rw[treeOf_eq ok (applied_ok ok hb hr hl) (Tm.inst_ok (subB_ok ok hb) h1) e];refine eval_inst _ (fun n hn h0=>?_) (ar l) h1;rw[<- h2]at hn;exact(look n hn h0).1
 ·unfold applied at hn;obtain⟨m,hm,hn⟩:=List.mem_flatMap.1 hn;rcases Int.lt_or_le m 0 with h0|h0
  ·exact(look m hm h0).2 n hn
  ·rw[bindOf_neg hb.1 (by omega)]at hn;have:n=m:=List.mem_singleton.1 hn;omega
end
def apC(l:List Symbol)(vs:List Int)(ts:List (List Int))(a:List Int):Int:=if bindFault0 l vs ts≠0 then bindFault0 l vs ts else if 24<(applied vs ts a).length then 2 else 0
def apR(l:List Symbol)(vs:List Int)(ts:List (List Int))(a:List Int):List Int:=if apC l vs ts a≠0 then[]else applied vs ts a
section
variable {l:List Symbol}(ok:SigOk ⟨l⟩){a:List Int}(ha:TermOk l a){vs:List Int}{ts:List (List Int)}(hb:BindS vs ts)
include ok ha hb
theorem impl_ApplyBinding_eq:Call F.impl_ApplyBinding [.agg [slc l],.agg [slc vs,slc ts],slc a] (.agg [.int .i64 (apC l vs ts a),slc (apR l vs ts a)]):=by
 have hll:l.length<=6:=ok.le;have hle:=ha.le;have ef:=(impl_TermFault l (by omega) a (by omega)).eq;rw[termFault_0 ((sigOk_iff _).2 ok),(termOk_iff l a).2 ha]at ef;have eb:=(impl_BindingFault l (by omega) vs ts (by have:=hb.vlen;omega) ⟨by have:=hb.tlen;omega,fun t ht=>⟨by have:=hb.size t ht;omega,fun _ _=>trivial⟩⟩).eq;rw[if_neg (by simpa using(sigOk_iff _).2 ok)]at eb;refine call_of rfl 0 ((impl_ApplyBinding.ev _ _ _ _ _).trans ?_);by_cases h:bindFault0 l vs ts=0
 ·have hr:∀n∈a,-4611686018427387904<=n/\n<=4611686018427387904:=fun n hn=>by
   rcases nodeOk_iff.1 (ha.node n hn)with h|h <;> omega
  have e:=(impl_fitting (applied vs ts a)).eq;by_cases h1:24<(applied vs ts a).length
  ·rw[if_pos h1]at e;have e:LIM F.impl_fitting [slc (applied vs ts a)]=some (.agg [.int .i64 2,slc []],[]):=e;simp only[evz,Nat.reduceLT,eb,h,ef,(impl_firstCode2 _ _).eq,(impl_Binding_applied vs ts (bindOk_of h) a (by omega) hr).eq,e,ne_eq,not_true_eq_false,apC,apR,h1];simp
  ·rw[if_neg h1]at e;have e:LIM F.impl_fitting [slc (applied vs ts a)]=some (.agg [.int .i64 0,slc (applied vs ts a)],[]):=e;simp only[evz,Nat.reduceLT,eb,h,ef,(impl_firstCode2 _ _).eq,(impl_Binding_applied vs ts (bindOk_of h) a (by omega) hr).eq,e,ne_eq,not_true_eq_false,apC,apR,h1]
 ·simp only[evz,Nat.reduceLT,eb,h,ef,(impl_firstCode2 _ _).eq,ne_eq,not_false_eq_true,apC,apR];rfl
theorem spec_ApplyBinding_eq:Call F.spec_ApplyBinding [.agg [slc l],.agg [slc vs,slc ts],slc a] (.agg [.int .i64 (apC l vs ts a),slc (apR l vs ts a)]):=by
 have hll:l.length<=6:=ok.le;have hle:=ha.le;have ef:=(spec_l3Fault l ok a (by omega)).eq;rw[(termOk_iff l a).2 ha]at ef;have es:=(spec_SignatureFault l (by omega)).eq;rw[(sigOk_iff _).2 ok]at es;have e6:=(spec_l6Fault l ok vs ts (by have:=hb.vlen;omega) ⟨by have:=hb.tlen;omega,fun t ht=>⟨by have:=hb.size t ht;omega,fun _ _=>trivial⟩⟩).eq
 have eb:Call F.spec_BindingFault [.agg [slc l],.agg [slc vs,slc ts]] (.int .i64 (bindFault0 l vs ts)):=by
  refine call_of rfl 0 ((spec_BindingFault.ev _ _ _ _).trans ?_);simp only[evz,Nat.reduceLT,es,e6,ne_eq,not_true_eq_false]
 refine call_of rfl 0 ((spec_ApplyBinding.ev _ _ _ _ _).trans ?_);by_cases h:bindFault0 l vs ts=0
 ·have hr:∀n∈a,-4611686018427387904<=n/\n<=4611686018427387904:=fun n hn=>by
   rcases nodeOk_iff.1 (ha.node n hn)with h|h <;> omega
  have e:=(spec_l6Apply vs ts (bindOk_of h) a (by omega) hr).eq;by_cases h1:24<(applied vs ts a).length
  ·have h':(((applied vs ts a).length:Nat):Int)>24:=by omega
   simp only[evz,Nat.reduceLT,eb.eq,h,ef,e,ne_eq,not_true_eq_false,apC,apR,h1,h'];simp
   try rfl
  ·have h':¬(((applied vs ts a).length:Nat):Int)>24:=by omega
   simp only[evz,Nat.reduceLT,eb.eq,h,ef,e,ne_eq,not_true_eq_false,apC,apR,h1,h']
 ·simp only[evz,Nat.reduceLT,eb.eq,h,ne_eq,not_false_eq_true,apC,apR];rfl
end
theorem evalTerm_facts{l:List Symbol}{z:Int}{tb:List (List Int)}{vs t:List Int}(hx:(evalTerm ⟨l⟩ ⟨z,tb⟩ vs t).code=0) :
 algFault ⟨l⟩ ⟨z,tb⟩=0/\TermOk l t/\vs.length=6/\valuesOk z vs=true/\(∀n∈t,-6<=n)/\evalTerm ⟨l⟩ ⟨z,tb⟩ vs t=⟨0,(treeOf l t).eval z tb vs⟩:=by
 have ha:algFault ⟨l⟩ ⟨z,tb⟩=0:=Classical.byContradiction fun hne=>by unfold evalTerm at hx;rw[if_pos hne]at hx;exact hne hx
 have tt:termFault0 l t=0:=Classical.byContradiction fun hne=>by unfold evalTerm at hx;rw[if_neg (by simpa using ha),if_pos hne]at hx;exact hne hx
 have to_:=(termOk_iff l t).1 tt;unfold evalTerm at hx;rw[if_neg (by simpa using ha),if_neg (by simpa using tt)]at hx;by_cases h6:vs.length≠6
 ·rw[if_pos h6]at hx;cases hx
 rw[if_neg h6]at hx;by_cases hv:valuesOk z vs=false
 ·rw[if_pos hv]at hx;cases hx
 rw[if_neg hv]at hx;by_cases hlow:(t.any fun n=>decide (n < -6))=true
 ·rw[if_pos hlow]at hx;cases hx
 have hlow':∀n∈t,-6<=n:=fun n hn=>by
  rw[Bool.not_eq_true,List.any_eq_false]at hlow;have:=hlow n hn;simp only[decide_eq_true_eq]at this;omega
 have hv:valuesOk z vs=true:=by simpa using hv
 exact⟨ha,to_,by omega,hv,hlow',evalTerm_ok ha to_ (by omega) hv hlow'⟩
theorem hold_one{l:List Symbol}{z:Int}{tb:List (List Int)}{e:Equation}(h:(holdsR ⟨l⟩ ⟨z,tb⟩ e).code=0):(allHoldR ⟨l⟩ ⟨z,tb⟩ [e]).value=(holdsR ⟨l⟩ ⟨z,tb⟩ e).value:=by
 have h1:algFault ⟨l⟩ ⟨z,tb⟩=0:=Classical.byContradiction fun hne=>by unfold holdsR at h;rw[if_pos hne]at h;exact hne h
 have h2:eqFault l e=0:=Classical.byContradiction fun hne=>by unfold holdsR at h;rw[if_neg (by simpa using h1),if_pos hne]at h;exact hne h
 have h3:eqsFault l [e]=0:=eqsOk_iff.2 ⟨by simp,fun x hx=>by rw[List.mem_singleton.1 hx];exact eqOk_iff.1 h2⟩
 have e1:holdsR ⟨l⟩ ⟨z,tb⟩ e=⟨0,if holdsB l z.toNat tb e=true then 1 else 0⟩:=by
  unfold holdsR;rw[if_neg (show ¬ algFault ⟨l⟩ ⟨z,tb⟩≠0 from fun g=>g h1),if_neg (show ¬ eqFault l e≠0 from fun g=>g h2)]
 have e2:allHoldR ⟨l⟩ ⟨z,tb⟩ [e]=⟨0,if(!([e].any fun e=>!holdsB l z.toNat tb e))=true then 1 else 0⟩:=by
  unfold allHoldR;rw[if_neg (show ¬ algFault ⟨l⟩ ⟨z,tb⟩≠0 from fun g=>g h1),if_neg (show ¬ eqsFault l [e]≠0 from fun g=>g h3)]
 rw[e1,e2];show(if(!((!holdsB l z.toNat tb e)||false))=true then(1:Int)else 0)=if holdsB l z.toNat tb e=true then 1 else 0
 cases holdsB l z.toNat tb e <;> rfl
theorem laws_lwCopy(x:List Int)(hx:x.length<=4294967296):Call F.laws_lwCopy [slc x] (slc x):=by
 refine call_of rfl 0 ((laws_lwCopy.ev _ _).trans ?_);rw[scalars_int,cond_true,cond_pos (ble_ok (by rw[cells_length];simp only[sz_int];omega))];rfl
theorem laws_FnAlgebras(code:List UInt8)(h:sm maxLen code):Call F.laws_FnAlgebras [slc code] (.bool true):=by
 by_cases hbig:(code.length:Int)>1048576
 ·exact call_of rfl 0 ((laws_FnAlgebras.ev _ _).trans (by simp only[evz,Nat.reduceLT,(laws_lwBig (code:=code)).eq,hbig]))
 have hc:code.length<=2097152:=by omega
 obtain⟨l,z,tb,vals,t,ed,hl,hA,hvl,htl⟩:=spec_DrawEvalTerm hc;have hll:l.length<=7:=hl.1;have eE:=(impl_EvalTerm l z tb vals t (by omega) hA.sm (by omega) (by omega)).eq;have eE':=(spec_EvalTerm l z tb vals t (by omega) hA.sm (by omega)).eq;have eF:=(impl_AlgebraFault l z tb (by omega) hA.sm).eq;have eF':=(spec_AlgebraFault l z tb (by omega) hA.sm).eq;obtain⟨l1,z1,tb1,e1,ed1,hl1,hA1,hel,her⟩:=spec_DrawHolds hc;have hll1:l1.length<=7:=hl1.1;have hse:sm 4294967296 e1:=⟨⟨by omega,fun _ _=>trivial⟩,⟨by omega,fun _ _=>trivial⟩⟩;have eH:=(impl_Holds l1 z1 tb1 (by omega) hA1.sm e1 hse).eq;have eH':=(spec_Holds l1 z1 tb1 (by omega) hA1.sm e1 hse).eq;have eAH:=(impl_AllHold l1 z1 tb1 (by omega) hA1.sm [e1] ⟨by simp,fun x hx=>by rw[List.mem_singleton.1 hx];exact hse⟩).eq;have e2:(slc [e1]:T)=.sl 2 [slc e1.left,slc e1.right]:=rfl;rw[e2]at eAH;have hone:=hold_one (l:=l1) (z:=z1) (tb:=tb1) (e:=e1);generalize holdsR ⟨l1⟩ ⟨z1,tb1⟩ e1=HR at *;generalize allHoldR ⟨l1⟩ ⟨z1,tb1⟩ [e1]=AR at *;generalize hER:evalTerm ⟨l⟩ ⟨z,tb⟩ vals t=ER at *;rw[enc_IntResult]at eE eE' eH eH' eAH;by_cases h0:ER.code=0
 case neg=>
  refine call_of rfl 0 ((laws_FnAlgebras.ev _ _).trans ?_);by_cases h1:HR.code=0
  ·have hone:=hone h1;simp only[evz,Nat.reduceLT,(laws_lwBig (code:=code)).eq,hbig,ed.eq,eE,eE',eF,eF',ed1.eq,eH,eH',eAH,h1,hone,beq_self_eq_true,bne_self_eq_false,Bool.and_self,Bool.not_true,h0,ne_eq,not_false_eq_true,not_true_eq_false]
  ·simp only[evz,Nat.reduceLT,(laws_lwBig (code:=code)).eq,hbig,ed.eq,eE,eE',eF,eF',ed1.eq,eH,eH',eAH,h1,beq_self_eq_true,bne_self_eq_false,Bool.and_self,Bool.not_true,h0,ne_eq,not_false_eq_true,not_true_eq_false]
 obtain⟨al0,tt,h6,hvo,hlow,hev⟩:=evalTerm_facts (l:=l) (z:=z) (tb:=tb) (vs:=vals) (t:=t) (by rw[hER];exact h0);have al:=algOk al0;have ok:=al.sig;have hvr:=valuesOk_iff.1 hvo;obtain⟨l2,vs,ts,u,edB,_,hbs,_⟩:=spec_DrawApplyBinding hc;have eM:=(impl_ApplyBinding_eq ok tt hbs).eq;have eM':=(spec_ApplyBinding_eq ok tt hbs).eq;have eC:=(laws_lwCopy vals (by omega)).eq;by_cases hm:apC l vs ts t=0
 case neg=>
  refine call_of rfl 0 ((laws_FnAlgebras.ev _ _).trans ?_);by_cases h1:HR.code=0
  ·have hone:=hone h1;simp only[evz,Nat.reduceLT,(laws_lwBig (code:=code)).eq,hbig,ed.eq,eE,eE',eF,eF',ed1.eq,eH,eH',eAH,h1,hone,beq_self_eq_true,bne_self_eq_false,Bool.and_self,Bool.not_true,h0,ne_eq,not_false_eq_true,not_true_eq_false,edB.eq,eM,eM',hm]
  ·simp only[evz,Nat.reduceLT,(laws_lwBig (code:=code)).eq,hbig,ed.eq,eE,eE',eF,eF',ed1.eq,eH,eH',eAH,h1,beq_self_eq_true,bne_self_eq_false,Bool.and_self,Bool.not_true,h0,ne_eq,not_false_eq_true,not_true_eq_false,edB.eq,eM,eM',hm]
 have hb0:bindFault0 l vs ts=0:=Classical.byContradiction fun hne=>by unfold apC at hm;rw[if_pos hne]at hm;exact hne hm
 have hal:(applied vs ts t).length<=24:=by
  unfold apC at hm;rw[if_neg (by simpa using hb0)]at hm;split at hm
  ·cases hm
  ·omega
 have hR:apR l vs ts t=applied vs ts t:=by unfold apR;rw[if_neg (by simpa using hm)]
 rw[hm,hR]at eM;have hb:=bound_ok hb0;have hf:=bind_rise hb0;have hlen:vs.length=ts.length:=hb.1.len;have hvl12:=hbs.vlen
 have key:∀(d k f:Nat)(nx:List Int),k+d=vs.length->d<f->Laid l z tb vals vs ts k nx->
  laws_FnAlgebras.at0 20 f (laws_FnAlgebras.st0 (cells vals) (cells t) (k:Nat) (cells l) z (cells tb) (cells vs) (cells ts) (cells (applied vs ts t)) 0 (cells nx))=some (.bool true,[]):=by
  intro d;induction d with
  |zero=>
   intro k f nx hk hf hL;obtain⟨f,rfl⟩:∃g,f=g+1:=⟨f-1,by omega⟩;have n1:¬((k:Nat):Int)<((vs.length:Nat):Int):=by omega
   obtain rfl:k=vs.length:=by omega
   obtain⟨q1,q2⟩:=hL.value ok hb tt hlow hal;have x1:=(impl_EvalTerm l z tb vals (applied vs ts t) (by omega) hA.sm (by omega) (by omega)).eq;have x2:=(impl_EvalTerm l z tb nx t (by omega) hA.sm (by omega) (by have:=hL.len;omega)).eq;rw[evalTerm_ok al0 (applied_ok ok hb tt hal) h6 hvo q2,enc_IntResult]at x1;rw[evalTerm_ok al0 tt hL.len (valuesOk_iff.2 hL.rng) hlow,enc_IntResult]at x2;simp only[laws_FnAlgebras.next0,laws_FnAlgebras.round0,evz,Nat.reduceLT,n1,x1,x2,q1,Nat.lt_irrefl,decide_true]
  |succ d ih=>
   intro k f nx hk hf' hL;obtain⟨f,rfl⟩:∃g,f=g+1:=⟨f-1,by omega⟩;have hkv:k<vs.length:=by omega
   have hkt:k<ts.length:=by omega
   have hpos:0<=vs[k]:=hb.1.nn _ (List.getElem_mem hkv);have hsz:=hbs.size _ (List.getElem_mem hkt);by_cases h6v:vs[k]<6
   case neg=>
    simp only[laws_FnAlgebras.next0,laws_FnAlgebras.round0,evz,Nat.reduceLT,hkv,List.getElem?_eq_getElem,enc_int,h6v];rw[wrap_succ (by omega)];exact ih (k+1) f nx (by omega) (by omega) (hL.skip hkv (by omega))
   have x1:=(impl_EvalTerm l z tb vals ts[k] (by omega) hA.sm (by omega) (by omega)).eq;have x2:=(spec_EvalTerm l z tb vals ts[k] (by omega) hA.sm (by omega)).eq;rw[enc_IntResult]at x1 x2;by_cases hx0:(evalTerm ⟨l⟩ ⟨z,tb⟩ vals ts[k]).code=0
   case neg=>
    simp only[laws_FnAlgebras.next0,laws_FnAlgebras.round0,evz,Nat.reduceLT,hkv,hkt,List.getElem?_eq_getElem,enc_int,enc_list,h6v,x1,x2,hx0,ne_eq,not_false_eq_true,decide_true]
   obtain⟨_,tk,_,_,lowk,evk⟩:=evalTerm_facts hx0;rw[evk]at x1;obtain⟨j,hj⟩:∃j:Nat,vs[k]=j:=⟨vs[k].toNat,by omega⟩;have hj6:j<nx.length:=by rw[hL.len];omega
   have hrk:=Tm.eval_range al h6 hvr (low_tree ok tk lowk).2.2 (low_tree ok tk lowk).2.1 (low_tree ok tk lowk).1;have hnew:=hL.put hb.1 hf hkv hkt h6v hrk lowk hpos;rw[hj,Int.toNat_natCast]at hnew;rw[hj]at h6v;have z1:j*1+1<=nx.length*1:=by omega
   simp only[laws_FnAlgebras.next0,laws_FnAlgebras.round0,evz,Nat.reduceLT,hkv,hkt,List.getElem?_eq_getElem,enc_int,enc_list,hj,h6v,x1,ne_eq,not_true_eq_false,hj6,cells_le,sz_int,z1,set_Int hj6];rw[wrap_succ (by omega)];exact ih (k+1) f _ (by omega) (by omega) hnew
 have fin:=key vs.length 0 20 vals (by omega) (by omega) (Laid.start h6 hvr);refine call_of rfl 20 ((laws_FnAlgebras.ev _ _).trans ?_);by_cases h1:HR.code=0
 ·have hone:=hone h1;simp only[evz,Nat.reduceLT,(laws_lwBig (code:=code)).eq,hbig,ed.eq,eE,eE',eF,eF',ed1.eq,eH,eH',eAH,h1,hone,beq_self_eq_true,bne_self_eq_false,Bool.and_self,Bool.not_true,h0,ne_eq,not_false_eq_true,not_true_eq_false,edB.eq,eM,eC];exact fin
 ·simp only[evz,Nat.reduceLT,(laws_lwBig (code:=code)).eq,hbig,ed.eq,eE,eE',eF,eF',ed1.eq,eH,eH',eAH,h1,beq_self_eq_true,bne_self_eq_false,Bool.and_self,Bool.not_true,h0,ne_eq,not_false_eq_true,not_true_eq_false,edB.eq,eM,eC];exact fin
end Ev.Ty
end
