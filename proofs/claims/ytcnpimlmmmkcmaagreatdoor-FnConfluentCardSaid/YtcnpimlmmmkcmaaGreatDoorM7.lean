/- Steps on the way to RowConfluent: TyPeakV, TyCPP, TyCPQ, TyDraw, TyDrawT, TyTheory, TyDrawG, TyRead, TyPool, TyDrawB, TyDeriveP, TyDerive, TyNewC, TyOrient, TyDraw8, TyLParts, TyLRedexes, TyLConfluent. -/
import Derived.Test.YtcnpimlmmmkcmaaGreatDoorM6
set_option linter.unusedSectionVars false
set_option linter.unusedVariables false
set_option linter.unusedSimpArgs false
section
namespace Ev.Ty
open Go Ev
set_option maxHeartbeats 1000000
section
variable {l:List Symbol}{z:Int}{tb:List (List Int)}(al:AlgOk l z tb){vs:List Int}(hr:∀n∈vs,0<=n/\n<=z-1)
include al hr
end
theorem qd3{ρ:Int->Int}(hρ:∀n,0<=n->ρ n=n){a:Int->Nat}:∀x:Tm,x.ok a->(x.inst fun n=>.v (ρ n)).flat=x.flat.map ρ
 |.v n,h=>rfl
 |.k n,h=>by show[n]=[ρ n];rw[hρ n h.1]
 |.u n x,h=>by
  show n::(x.inst fun n=>.v (ρ n)).flat=ρ n::x.flat.map ρ;rw[hρ n h.1,qd3 hρ x h.2.2]
 |.b n x y,h=>by
  show n::((x.inst fun n=>.v (ρ n)).flat++(y.inst fun n=>.v (ρ n)).flat)=ρ n::(x.flat++y.flat).map ρ;rw[hρ n h.1,qd3 hρ x h.2.2.1,qd3 hρ y h.2.2.2,List.map_append]
def ren(S:List Int)(n:Int):Int:=if 0<=n then n else -1-idx (fun x=>decide (x=n)) S
theorem qje{s S:List Int}{n:Int}(h:s <+: S)(hn:¬ idx (fun x=>decide (x=n)) s<0):idx (fun x=>decide (x=n)) S=idx (fun x=>decide (x=n)) s:=by
 obtain⟨r,rfl⟩:=h;unfold idx at hn ⊢;cases e:s.findIdx? (fun x=>decide (x=n))with
 |none=>rw[e]at hn;exact absurd (by decide) hn
 |some i=>rw[List.findIdx?_append,e];rfl
theorem qbc:∀(seen t:List Int),seen <+: (q2t seen t).2
 |seen,[]=>List.prefix_refl _
 |seen,n::t=>by
  have ih:=qbc (q94 seen n).2 t
  have h1:seen <+: (q94 seen n).2:=by
   unfold q94;split
   ·exact List.prefix_refl _
   ·split
    ·exact List.prefix_append _ _
    ·exact List.prefix_refl _
  exact h1.trans ih
theorem qfh:∀(seen t S:List Int),(q2t seen t).2 <+: S->(q2t seen t).1=t.map (ren S)/\∀n∈t,n<0->¬ idx (fun x=>decide (x=n)) S<0
 |seen,[],S,_=>⟨rfl,fun n hn=>by cases hn⟩
 |seen,n::t,S,h=>by
  obtain⟨ih1,ih2⟩:=qfh (q94 seen n).2 t S h;have hp:(q94 seen n).2 <+: S:=(qbc _ t).trans h
  have here:(q94 seen n).1=ren S n/\(n<0->¬ idx (fun x=>decide (x=n)) S<0):=by
   unfold q94 at hp ⊢;unfold ren;by_cases h0:0<=n
   ·rw[if_pos h0,if_pos h0];exact⟨rfl,fun h=>by omega⟩
   ·rw[if_neg h0]at hp ⊢;rw[if_neg h0];by_cases h1:idx (fun x=>decide (x=n)) seen<0
    ·rw[if_pos h1]at hp ⊢;have hs:=qkd (s:=seen) (n:=n) (qa4.1 h1);have e:=qje hp (n:=n) (by rw[hs];omega);rw[e,hs];exact⟨rfl,fun _=>by omega⟩
    ·rw[if_neg h1]at hp ⊢;have e:=qje hp h1;rw[e];exact⟨rfl,fun _=>h1⟩
  refine⟨by show(q94 seen n).1::(q2t (q94 seen n).2 t).1=ren S n::t.map (ren S);rw[here.1,ih1],fun m hm h0=>?_⟩;rcases gK.1 hm with rfl|hm
  ·exact here.2 h0
  ·exact ih2 m hm h0
section
variable {l:List Symbol}(ok:SigOk ⟨l⟩)
include ok
end
end Ev.Ty
end
section
namespace Ev.Ty
open Go Ev
set_option maxHeartbeats 1000000
theorem qbb{l:List Symbol}{o i:Equation}{same:Bool}{q:Nat}(h0:0<=o.left.getD q 0)(hs:¬(same=true/\q=0)):∀{n k:Nat}{qs:List Nat},q67 l o i same n k=.inl qs->k<=q->q<k+n->(q6l l o i q).code=4\/((q6l l o i q).code=0/\q∈qs)
 |0,k,qs,h,h1,h2=>by omega
 |n+1,k,qs,h,h1,h2=>by
  rw[q67]at h;by_cases hk:k=q
  ·subst hk;rw[if_neg (by intro hh;rcases hh with hh|hh;omega;exact hs hh)]at h;by_cases c4:(q6l l o i k).code=4
   ·exact .inl c4
   ·rw[if_neg c4]at h;by_cases c0:(q6l l o i k).code=0
    ·rw[if_pos c0]at h;split at h
     ·cases h;exact .inr ⟨c0,List.mem_cons_self ..⟩
     ·cases h
    ·rw[if_neg c0]at h;cases h
  ·split at h
   ·exact qbb h0 hs h (by omega) (by omega)
   ·split at h
    ·exact qbb h0 hs h (by omega) (by omega)
    ·split at h
     ·split at h
      ·rename_i qs' hq;cases h;rcases qbb h0 hs hq (by omega) (by omega)with g|⟨g1,g2⟩
       ·exact .inl g
       ·exact .inr ⟨g1,gF _ g2⟩
      ·cases h
     ·cases h
theorem qpi{l:List Symbol}{rs:List Equation}{i:Nat}:∀{n j:Nat}{out o':List Equation},rowN l rs i n j out=.inl o'->(∀e∈out,e∈o')/\∀j',j<=j'->j'<j+n->∃ps,qa8 l (rs.getD i ⟨[],[]⟩) (rs.getD j' ⟨[],[]⟩) (decide (i=j'))=.inl ps/\∀e∈ps,e∈o'
 |0,j,out,o',h=>by cases h;exact⟨fun e he=>he,fun j' h1 h2=>by omega⟩
 |n+1,j,out,o',h=>by
  rw[rowN]at h;split at h
  ·cases h
  ·rename_i ps hp;split at h
   ·cases h
   ·obtain⟨g1,g2⟩:=qpi h;refine⟨fun e he=>g1 e (gJ _ he),fun j' h1 h2=>?_⟩;by_cases hj:j=j'
    ·subst hj;exact⟨ps,hp,fun e he=>g1 e (gN _ he)⟩
    ·exact g2 j' (by omega) (by omega)
theorem qqf{l:List Symbol}{rs:List Equation}:∀{n i:Nat}{out o':List Equation},allN l rs n i out=.inl o'->(∀e∈out,e∈o')/\∀i',i<=i'->i'<i+n->∀j',j'<rs.length->∃ps,qa8 l (rs.getD i' ⟨[],[]⟩) (rs.getD j' ⟨[],[]⟩) (decide (i'=j'))=.inl ps/\∀e∈ps,e∈o'
 |0,i,out,o',h=>by cases h;exact⟨fun e he=>he,fun j' h1 h2=>by omega⟩
 |n+1,i,out,o',h=>by
  rw[allN]at h;split at h
  ·cases h
  ·rename_i out' hp;obtain⟨r1,r2⟩:=qpi hp;obtain⟨g1,g2⟩:=qqf h;refine⟨fun e he=>g1 e (r1 e he),fun i' h1 h2 j' hj'=>?_⟩;by_cases hi:i=i'
   ·subst hi;obtain⟨ps,e1,e2⟩:=r2 j' (by omega) (by omega);exact⟨ps,e1,fun e he=>g1 e (e2 e he)⟩
   ·exact g2 i' (by omega) (by omega) j' hj'
theorem qki{l:List Symbol}{rs:List Equation}{fuel:Nat}:∀{es out o':List Equation},unjN l rs fuel es out=.inl o'->o'.length=0->out.length=0/\∀e∈es,(q99 l rs fuel e).code=0/\(q99 l rs fuel e).value≠0
 |[],out,o',h,h0=>by cases h;exact⟨h0,fun e he=>by cases he⟩
 |e::es,out,o',h,h0=>by
  rw[unjN]at h;by_cases c0:(q99 l rs fuel e).code=0
  ·rw[if_pos c0]at h;by_cases c1:(q99 l rs fuel e).value=0
   ·rw[if_pos c1]at h;have:=(qki h h0).1;simp at this
   ·rw[if_neg c1]at h;obtain⟨g1,g2⟩:=qki h h0;refine⟨g1,fun x hx=>?_⟩;rcases gK.1 hx with rfl|hx
    ·exact⟨c0,c1⟩
    ·exact g2 x hx
  ·rw[if_neg c0]at h;cases h
theorem qfl{l:List Symbol}{rs:List Equation}{fuel:Nat}:∀{es out:List Equation}{c:Int},unjN l rs fuel es out=.inr c->c≠0
 |[],out,c,h=>by cases h
 |e::es,out,c,h=>by
  rw[unjN]at h;by_cases c0:(q99 l rs fuel e).code=0
  ·rw[if_pos c0]at h;by_cases c1:(q99 l rs fuel e).value=0
   ·rw[if_pos c1]at h;exact qfl h
   ·rw[if_neg c1]at h;exact qfl h
  ·rw[if_neg c0]at h;cases h;exact c0
theorem qcl{l:List Symbol}{o:List Int}{rs:List Equation}(h:q5d ⟨l⟩ o rs=true):q4n ⟨l⟩ o rs=true/\q4i ⟨l⟩ rs=0/\
 ∀i j (hi:i<rs.length) (hj:j<rs.length) (q:Nat),q<rs[i].left.length->0<=rs[i].left.getD q 0->¬(i=j/\q=0)->(q6l l rs[i] rs[j] q).code=4\/((q6l l rs[i] rs[j] q).code=0/\(q99 l rs 200 (q6l l rs[i] rs[j] q).equation).code=0/\(q99 l rs 200 (q6l l rs[i] rs[j] q).equation).value≠0):=by
 unfold q5d at h;simp only[gC,gS]at h;obtain⟨h1,h2,h3⟩:=h;have hrf:=qal h1;refine⟨h1,hrf,fun i j hi hj q hq hn hs=>?_⟩;unfold q62 at h2 h3;rw[if_neg (by simpa using hrf),if_neg (by decide)]at h2 h3;simp only[show(200:Int).toNat=200 from rfl]at h2 h3;unfold unjR at h2 h3;cases ha:allN l rs rs.length 0 []with
 |inr c=>
  rw[ha]at h2;simp only at h2;exact absurd h2 (qck ha)
 |inl all=>
  rw[ha]at h2 h3;simp only at h2 h3;cases hu:unjN l rs 200 all []with
  |inr c=>
   rw[hu]at h2;simp only at h2;exact absurd h2 (qfl hu)
  |inl u=>
   rw[hu]at h3;simp only at h3;obtain⟨_,hall⟩:=qki hu h3;obtain⟨_,g⟩:=qqf ha;obtain⟨ps,e1,e2⟩:=g i (by omega) (by omega) j hj;have gi:rs.getD i ⟨[],[]⟩=rs[i]:=by rw[gI,gA hi];rfl
   have gj:rs.getD j ⟨[],[]⟩=rs[j]:=by rw[gI,gA hj];rfl
   rw[gi,gj]at e1;unfold qa8 at e1;cases hp:q67 l rs[i] rs[j] (decide (i=j)) rs[i].left.length 0 with
   |inr c=>rw[hp]at e1;cases e1
   |inl qs=>
    rw[hp]at e1;cases e1;rcases qbb hn (by rintro⟨a1,a2⟩;exact hs ⟨by simpa using a1,a2⟩) hp (by omega) (by omega)with g|⟨g1,g2⟩
    ·exact .inl g
    ·exact .inr ⟨g1,hall _ (e2 _ (List.mem_map.2 ⟨q,g2,rfl⟩))⟩
end Ev.Ty
end
section
namespace Ev.Ty
open Go Ev
set_option maxHeartbeats 1000000
theorem qgi:∀{p:Path}{x y:Tm},p.sub x=some y->p=.here\/y.size<x.size
 |.here,x,y,e=>.inl rfl
 |.u p,.u n x,y,e=>by
  right;rcases qgi (p:=p) (x:=x) e with rfl|h
  ·cases e;show x.size<x.size+1;omega
  ·show y.size<x.size+1;omega
 |.l p,.b n x z,y,e=>by
  right;rcases qgi (p:=p) (x:=x) e with rfl|h
  ·cases e;show x.size<x.size+z.size+1;omega
  ·show y.size<x.size+z.size+1;omega
 |.r p,.b n x z,y,e=>by
  right;rcases qgi (p:=p) (x:=z) e with rfl|h
  ·cases e;show z.size<x.size+z.size+1;omega
  ·show y.size<x.size+z.size+1;omega
 |.u p,.v n,y,e=>by cases e
 |.u p,.k n,y,e=>by cases e
 |.u p,.b n x z,y,e=>by cases e
 |.l p,.v n,y,e=>by cases e
 |.l p,.k n,y,e=>by cases e
 |.l p,.u n x,y,e=>by cases e
 |.r p,.v n,y,e=>by cases e
 |.r p,.k n,y,e=>by cases e
 |.r p,.u n x,y,e=>by cases e
theorem qxi(o:List Int)(n:Int) : -1<=rank o n:=by
 unfold rank;rcases q6s (fun x=>decide (x=n)) o with⟨h,_⟩|⟨i,_,h,_⟩ <;> rw[h] <;> omega
section
variable {l:List Symbol}(ok:SigOk ⟨l⟩)
include ok
theorem qnq{L R:List Int}(hL:TermOk l L)(hR:TermOk l R)(h6:(qb5 ⟨L,R⟩).length<=6)(ρ:Int->Tm) :
 ∃κ:Int->Tm,(q3b l (q9n ⟨L,R⟩).left).inst κ=(q3b l L).inst ρ/\(q3b l (q9n ⟨L,R⟩).right).inst κ=(q3b l R).inst ρ:=by
 have hp:=qlc (e:=⟨L,R⟩) hL hR h6;generalize hS:qb5 ⟨L,R⟩=S at *;have hS2:(q2t (q2t [] L).2 R).2=S:=hS;obtain⟨r1,r2⟩:=qfh [] L S (by rw[<- hS2];exact qbc _ _);obtain⟨r3,r4⟩:=qfh (q2t [] L).2 R S (by rw[hS2];exact List.prefix_refl _);have hρ:∀n,0<=n->ren S n=n:=fun n hn=>by unfold ren;rw[if_pos hn]
 obtain⟨xL,eL⟩:=q36 ok hL;obtain⟨xR,eR⟩:=q36 ok hR
 have hrn:∀n,n<0->ren S n<0\/idx (fun x=>decide (x=n)) S<0:=fun n hn=>by
  unfold ren;rw[if_neg (by omega)];omega
 have low:∀x:Tm,x.ok (ar l)->(∀n∈x.flat,n<0->¬ idx (fun x=>decide (x=n)) S<0)->(x.inst fun n=>.v (ren S n)).ok (ar l):=by
  intro x;induction x with
  |v n=>intro h1 h2;have:=hrn n h1;have:=h2 n (gD.2 rfl) h1;show ren S n<0;omega
  |k n=>intro h1 _;exact h1
  |u n x ih=>intro h1 h2;exact⟨h1.1,h1.2.1,ih h1.2.2 fun m hm=>h2 m (gF _ hm)⟩
  |b n x y ihx ihy=>intro h1 h2;exact⟨h1.1,h1.2.1,ihx h1.2.2.1 fun m hm=>h2 m (gF _ (gJ _ hm)),ihy h1.2.2.2 fun m hm=>h2 m (gF _ (gN _ hm))⟩
 have tL:q3b l (q2t [] L).1=(q3b l L).inst fun n=>.v (ren S n):=qkm ok hp.left (low _ xL (by rw[<- eL];exact r2)) (by show(q2t [] L).1=_;rw[r1,qd3 hρ _ xL,<- eL]);have tR:q3b l (q2t (q2t [] L).2 R).1=(q3b l R).inst fun n=>.v (ren S n):=qkm ok hp.right (low _ xR (by rw[<- eR];exact r4)) (by show(q2t (q2t [] L).2 R).1=_;rw[r3,qd3 hρ _ xR,<- eR])
 have back:∀x:Tm,x.ok (ar l)->(∀n∈x.flat,n<0->¬ idx (fun x=>decide (x=n)) S<0)->((x.inst fun n=>.v (ren S n)).inst fun m=>ρ (S.getD (-1-m).toNat 0))=x.inst ρ:=fun x hx hn=>by
  rw[Tm.inst_inst];refine Tm.inst_congr fun n hno=>?_;obtain⟨q1,q2⟩:=(q9u hx).1 hno;have hi:=hn n q1 q2;show ρ (S.getD (-1-ren S n).toNat 0)=ρ n;congr 1;unfold ren;rw[if_neg (by omega)];rcases q6s (fun x=>decide (x=n)) S with⟨g,_⟩|⟨i,hi',g,g2,_⟩
  ·rw[g]at hi;exact absurd (by decide) hi
  ·rw[g,show(-1-(-1-((i:Nat):Int))).toNat=i by omega,gI,gA hi'];exact gAH g2
 exact⟨fun m=>ρ (S.getD (-1-m).toNat 0),by show(q3b l (q2t [] L).1).inst _=_;rw[tL];exact back _ xL (by rw[<- eL];exact r2),by show(q3b l (q2t (q2t [] L).2 R).1).inst _=_;rw[tR];exact back _ xR (by rw[<- eR];exact r4)⟩
theorem qk8{t:List Int}(ht:TermOk l t)(hts:TermOk l (q4b t 6)):q3b l (q4b t 6)=(q3b l t).inst fun n=>.v (if n<0 then n-6 else n):=by
 obtain⟨a1,a2⟩:=q36 ok ht;have hρ:∀n:Int,0<=n->(if n<0 then n-6 else n)=n:=fun n hn=>by rw[if_neg (by omega)]
 exact qkm ok hts (Tm.inst_ok (fun n hn=>by show(if n<0 then n-6 else n)<0;rw[if_pos hn];omega) a1) (by rw[qd3 hρ _ a1,<- a2];rfl)
theorem qu4{o:List Int}{rs:List Equation}(ho:∀n:Int,0<=n->n<l.length->n∈o)(hr:∀e∈rs,EqOk l e)(hg:∀e∈rs,gt l o e.left e.right 0 0=true)(hru:∀e∈rs,q9e e=true):Rules (ar l) (rank o) (RT l rs) where
 left:=by rintro _ _ ⟨e,hm,rfl,rfl⟩;exact(q36 ok (hr e hm).left).1
 right:=by rintro _ _ ⟨e,hm,rfl,rfl⟩;exact(q36 ok (hr e hm).right).1
 vars:=by
  rintro _ _ ⟨e,hm,rfl,rfl⟩ n hn;obtain⟨l1,l2⟩:=q36 ok (hr e hm).left;obtain⟨r1,r2⟩:=q36 ok (hr e hm).right;obtain⟨q1,q2⟩:=(q9u r1).1 hn;refine(q9u l1).2 ⟨?_,q2⟩;have:=hru e hm;unfold q9e at this;simp only[gC,Bool.not_eq_true',List.any_eq_false,gS,not_and]at this;rw[<- l2];exact Classical.byContradiction fun hne=>this.2 n (by rw[r2];exact q1) q2 hne
 down:=by
  rintro _ _ ⟨e,hm,rfl,rfl⟩;obtain⟨l1,l2⟩:=q36 ok (hr e hm).left;obtain⟨r1,r2⟩:=q36 ok (hr e hm).right;exact(qvb ok ho (hr e hm).left (hr e hm).right l1 r1 l2 r2).1 (hg e hm)
theorem qyq{o:List Int}{rs:List Equation}(hr:∀e∈rs,EqOk l e)(hR:Rules (ar l) (rank o) (RT l rs))
 (hj:∀i j (hi:i<rs.length) (hj:j<rs.length) (q:Nat),q<rs[i].left.length->0<=rs[i].left.getD q 0->¬(i=j/\q=0)->(q6l l rs[i] rs[j] q).code=4\/((q6l l rs[i] rs[j] q).code=0/\(q99 l rs 200 (q6l l rs[i] rs[j] q).equation).code=0/\(q99 l rs 200 (q6l l rs[i] rs[j] q).equation).value≠0)):CP (ar l) (RT l rs):=by
 intro l1 r1 l2 r2 p y σ τ hok hR1 hR2 hsub hnv heq;have hv1:=hR.vars l1 r1 hR1;have hv2:=hR.vars l2 r2 hR2;obtain⟨e1,hm1,rfl,rfl⟩:=hR1;obtain⟨e2,hm2,rfl,rfl⟩:=hR2;have E1:=hr e1 hm1;have E2:=hr e2 hm2;obtain⟨i,hi,rfl⟩:=List.getElem_of_mem hm1;obtain⟨j,hjl,rfl⟩:=List.getElem_of_mem hm2;obtain⟨a1,a2⟩:=q36 ok E1.left;obtain⟨b1,b2⟩:=q36 ok E1.right;obtain⟨c1,c2⟩:=q36 ok E2.left;obtain⟨d1,d2⟩:=q36 ok E2.right;obtain⟨q,hq⟩:=qh6 a1 hsub;obtain⟨q1,q2,q3⟩:=ql3 ok E1.left hq;have hat:At l rs[i].left q y:=⟨hq.1,by obtain⟨rest,h⟩:=hq.2.2.2.1;exact⟨rest,by rw[<- a2]at h;exact h⟩⟩
 have hnode:0<=rs[i].left.getD q 0:=by
  rw[hat.facts.2.1];have hy:=hq.1;cases y with
  |v n=>exact absurd rfl (hnv n)
  |k n=>exact hy.1
  |u n y=>exact hy.1
  |b n y z=>exact hy.1
 by_cases hs:i=j/\q=0
 ·obtain⟨rfl,rfl⟩:=hs
  have hyx:y=q3b l rs[i].left:=by
   obtain⟨rest,h⟩:=hq.2.2.2.1;rw[List.drop_zero]at h;have:=qpl (q3b l rs[i].left) y [] rest a1 hq.1 (by rw[gAD];exact h);exact this.1.symm
  have hph:p=.here:=by
   rcases qgi hsub with h|h
   ·exact h
   ·rw[hyx]at h;omega
  subst hph;rw[hyx]at heq;have:(q3b l rs[i].right).inst σ=(q3b l rs[i].right).inst τ:=Tm.inst_congr fun n hn=>Tm.inst_same heq n (hv1 n hn);show Join _ _ ((q3b l rs[i].right).inst τ);rw[this];exact⟨_,.refl _,.refl _⟩
 have hjj:=hj i j hi hjl q q1 hnode hs;have hsl:=qaj E2.left E2.lowL;have hsr:=qaj E2.right E2.lowR
 have low1:∀n,(q3b l rs[i].left).occ n -> -6<=n/\n<0:=fun n hn=>by
  obtain⟨g1,g2⟩:=(q9u a1).1 hn;exact⟨E1.lowL n (by rw[a2];exact g1),g2⟩
 have low2:∀n,(q3b l rs[j].left).occ n -> -6<=n/\n<0:=fun n hn=>by
  obtain⟨g1,g2⟩:=(q9u c1).1 hn;exact⟨E2.lowL n (by rw[c2];exact g1),g2⟩
 obtain⟨ρ,hρ1,hρ2,hρok⟩:∃ρ:Int->Tm,(∀n,(q3b l rs[i].left).occ n->ρ n=σ n)/\(∀n,(q3b l rs[j].left).occ n->ρ (n-6)=τ n)/\∀n,n<0->(ρ n).ok (ar l):=by
  refine⟨fun n=>open Classical in if -6<=n then(if(q3b l rs[i].left).occ n then σ n else .v n)else(if(q3b l rs[j].left).occ (n+6)then τ (n+6)else .v n),fun n hn=>?_,fun n hn=>?_,fun n hn=>?_⟩
  ·show(if _ then _ else _)=_;rw[if_pos (low1 n hn).1,if_pos hn]
  ·have:=low2 n hn;show(if _ then _ else _)=_;rw[if_neg (by omega),show n-6+6=n by omega,if_pos hn]
  ·show Tm.ok (ar l) (if _ then _ else _);have hl2:((q3b l rs[j].left).inst τ).ok (ar l):=by rw[<- heq];exact qi3 hok (Path.sub_inst hsub)
   split
   ·split
    ·rename_i h;exact qi9 hok n h
    ·exact hn
   ·split
    ·rename_i h;exact qi9 hl2 _ h
    ·exact hn
 have i1:(q3b l rs[i].left).inst ρ=(q3b l rs[i].left).inst σ:=Tm.inst_congr hρ1;have i2:(q3b l rs[i].right).inst ρ=(q3b l rs[i].right).inst σ:=Tm.inst_congr fun n hn=>hρ1 n (hv1 n hn)
 have iy:y.inst ρ=y.inst σ:=by
  have h1:=Path.sub_inst (σ:=ρ) hsub;rw[i1,Path.sub_inst (σ:=σ) hsub]at h1;exact(Option.some.inj h1).symm
 have i3:(q3b l (q4b rs[j].left 6)).inst ρ=(q3b l rs[j].left).inst τ:=by
  rw[qk8 ok E2.left hsl,Tm.inst_inst];exact Tm.inst_congr fun n hn=>by show ρ (if n<0 then n-6 else n)=τ n;rw[if_pos (low2 n hn).2];exact hρ2 n hn
 have i4:(q3b l (q4b rs[j].right 6)).inst ρ=(q3b l rs[j].right).inst τ:=by
  rw[qk8 ok E2.right hsr,Tm.inst_inst];exact Tm.inst_congr fun n hn=>by show ρ (if n<0 then n-6 else n)=τ n;rw[if_pos (low2 n (hv2 n hn)).2];exact hρ2 n (hv2 n hn)
 obtain⟨s1,s2⟩:=q36 ok hsl;obtain⟨t1,t2⟩:=q36 ok hsr;have hsubT:=q6b E1.left q1
 have hphi:phi ρ (q1i l rs[i].left q)=phi ρ (q4b rs[j].left 6):=by
  rw[q2,s2,q6t _ hq.1,q6t _ s1,iy,i3,heq]
 have hrep0:q42 l rs[i].left q (q4b rs[j].right 6)=(p.put (q3b l rs[i].left) (q3b l (q4b rs[j].right 6))).flat:=by
  rw[<- q3,<- t2]
 rcases qs5 ok hρok hsubT hsl hphi with hu|⟨b,hu,hgen⟩
 ·have hc:(q6l l rs[i] rs[j] q).code=2:=by unfold q6l;rw[hu]
  rcases hjj with h|⟨h,_⟩ <;> omega
 obtain⟨ub,_⟩:=qor ok hsubT hsl hu;by_cases z1:24<(q02 b.1 b.2 rs[i].right).length\/24<(q02 b.1 b.2 (q42 l rs[i].left q (q4b rs[j].right 6))).length
 ·have hc:(q6l l rs[i] rs[j] q).code=2:=by unfold q6l;rw[hu];simp only;rw[if_pos z1]
  rcases hjj with h|⟨h,_⟩ <;> omega
 by_cases z2:6<(qb5 ⟨q02 b.1 b.2 rs[i].right,q02 b.1 b.2 (q42 l rs[i].left q (q4b rs[j].right 6))⟩).length
 ·have hc:(q6l l rs[i] rs[j] q).code=2:=by unfold q6l;rw[hu];simp only;rw[if_neg z1,if_pos z2]
  rcases hjj with h|⟨h,_⟩ <;> omega
 have hP:q6l l rs[i] rs[j] q=⟨0,q9n ⟨q02 b.1 b.2 rs[i].right,q02 b.1 b.2 (q42 l rs[i].left q (q4b rs[j].right 6))⟩⟩:=by
  unfold q6l;rw[hu];simp only;rw[if_neg z1,if_neg z2]
 rw[hP]at hjj;rcases hjj with h|⟨_,hjc,hjv⟩
 ·exact absurd (show(0:Int)=4 from h) (by decide)
 simp only at hjc hjv;have hge:=q95 ub.mb (q42 l rs[i].left q (q4b rs[j].right 6));have hrep:=qsk ok E1.left hsr q1 (by omega);have hA:=ub.applied_ok E1.right (by omega);have hB:=ub.applied_ok hrep (by omega);have hpl:=qlc (e:=⟨q02 b.1 b.2 rs[i].right,q02 b.1 b.2 (q42 l rs[i].left q (q4b rs[j].right 6))⟩) hA hB (by omega);obtain⟨κ,k1,k2⟩:=qnq ok hA hB (by omega) ρ;obtain⟨A1,A2⟩:=q36 ok hA;obtain⟨B1,B2⟩:=q36 ok hB
 have fA:(q3b l (q02 b.1 b.2 rs[i].right)).inst ρ=(q3b l rs[i].right).inst σ:=by
  refine(qbl (Tm.inst_ok hρok A1) (by rw[<- i2];exact Tm.inst_ok hρok b1)).1 ?_;rw[<- q6t _ A1,<- A2,hgen.all,<- i2,<- q6t _ b1,<- b2]
 have hput:(p.put (q3b l rs[i].left) (q3b l (q4b rs[j].right 6))).ok (ar l):=qf6 a1 hsub t1
 have fB:(q3b l (q02 b.1 b.2 (q42 l rs[i].left q (q4b rs[j].right 6)))).inst ρ=p.put ((q3b l rs[i].left).inst σ) ((q3b l rs[j].right).inst τ):=by
  rw[<- i1,<- i4,Path.put_inst hsub];refine(qbl (Tm.inst_ok hρok B1) (Tm.inst_ok hρok hput)).1 ?_;rw[<- q6t _ B1,<- B2,hgen.all,<- q6t _ hput,hrep0]
 generalize hE:q9n ⟨q02 b.1 b.2 rs[i].right,q02 b.1 b.2 (q42 l rs[i].left q (q4b rs[j].right 6))⟩=E at *;unfold q99 at hjc hjv;by_cases n1:(norm l rs 200 0 E.left).code≠0
 ·rw[if_pos n1]at hjc;exact absurd hjc n1
 rw[if_neg n1]at hjc hjv;by_cases n2:(norm l rs 200 0 E.right).code≠0
 ·rw[if_pos n2]at hjc;exact absurd hjc n2
 rw[if_neg n2]at hjc hjv;by_cases n3:(norm l rs 200 0 E.left).term=(norm l rs 200 0 E.right).term
 case neg=>rw[if_neg n3]at hjv;exact absurd rfl hjv
 have S1:=qek ok hr 200 0 E.left hpl.left (by omega);have S2:=qek ok hr 200 0 E.right hpl.right (by omega);rw[<- n3]at S2;have L1:=S1.lift (f:=fun t=>t.inst κ) fun _ _ h=>h.inst κ;have L2:=S2.lift (f:=fun t=>t.inst κ) fun _ _ h=>h.inst κ;rw[k1,fA]at L1;rw[k2,fB]at L2;exact⟨_,L1,L2⟩
theorem qle{o:List Int}{rs:List Equation}(h:q5d ⟨l⟩ o rs=true){t u v:List Int}(ht:TermOk l t)(hu:TermOk l u)(hv:TermOk l v)(su:Star (Stp (RT l rs)) (q3b l t) (q3b l u))(sv:Star (Stp (RT l rs)) (q3b l t) (q3b l v))(nu:(q5c l rs u).1<0)(nv:(q5c l rs v).1<0):u=v:=by
 obtain⟨h1,h2,h3⟩:=qcl h;obtain⟨_,_,hn,hr⟩:=q6z h2
 have hru:∀e∈rs,q9e e=true:=fun e he=>by
  unfold q4i at h2;rw[if_neg (by simpa using(qa3 _).2 ok)]at h2;unfold q8n at h2;rw[if_neg (by simpa using q9f.2 ⟨hn,hr⟩)]at h2;cases hq:q9e e
  ·rw[if_pos (List.any_eq_true.2 ⟨e,he,by rw[hq];rfl⟩)]at h2;omega
  ·rfl
 have hdec:(∀n:Int,0<=n->n<l.length->n∈o)/\∀e∈rs,gt l o e.left e.right 0 0=true:=by
  unfold q4n at h1;simp only[gC,gS]at h1;obtain⟨⟨g1,_⟩,g3⟩:=h1
  have hof:qb2 l o=0:=by
   unfold q4e at g1;rw[if_neg (by simpa using(qa3 _).2 ok)]at g1;exact g1
  refine⟨(qlh hof).2,fun e he=>?_⟩;unfold qgz at g3;cases hg:gt l o e.left e.right 0 0
  ·have:(rs.any fun e=>!gt l o e.left e.right 0 0)=true:=List.any_eq_true.2 ⟨e,he,by rw[hg];rfl⟩;rw[this]at g3;cases g3
  ·rfl
 have hR:=qu4 ok hdec.1 hr hdec.2 hru;obtain⟨x1,x2⟩:=q36 ok ht;obtain⟨u1,u2⟩:=q36 ok hu;obtain⟨v1,v2⟩:=q36 ok hv;have:=qqv hR.keep (hR.wf (qxi o)) (qyq ok hr hR h3) x1 su sv (qk7 ok hr hu nu) (qk7 ok hr hv nv);rw[u2,v2,this]
end
end Ev.Ty
end
section
namespace Ev.Ty
open Go Ev
open Enc (enc)
open Sm (sm)
def Drawn(code:List UInt8)(p c:Int)(P:T->Prop)(r:R):Prop:=∃x p',r=some (x,[.agg [slc code,.int .i64 p']])/\p<=p'/\p'<=p+c/\P x
theorem q91{code:List UInt8}{p c:Int}{P:T->Prop}{g:FuncId}{args:List T}(hx:X g=none)(n:Nat)(h:Drawn code p c P (q1j prog A H LIM n g args)):Drawn code p c P (LIM g args):=by
 obtain⟨x,p',e,h⟩:=h;exact⟨x,p',qg1 hx n e,h⟩
theorem Drawn.more{code:List UInt8}{p p1 c c1:Int}{P P1:T->Prop}{r:R}(h:Drawn code p1 c1 P1 r)(h1:p<=p1)(h2:p1+c1<=p+c)(hP:∀x,P1 x->P x):Drawn code p c P r:=by
 obtain⟨x,p',e,a,b,q⟩:=h;exact⟨x,p',e,by omega,by omega,hP x q⟩
theorem q5t{code:List UInt8}{p p' c:Int}{P:T->Prop}{x:T}(h1:p<=p'/\p'<=p+c)(h:P x):Drawn code p c P (some (x,[.agg [slc code,.int .i64 p']])):=⟨x,p',rfl,h1.1,h1.2,h⟩
theorem q78{Q:R->Prop}{code:List UInt8}{p c:Int}{P:T->Prop}{r:R}{K:T×List T->R}(h:Drawn code p c P r)
 (k:∀x p',p<=p'->p'<=p+c->P x->Q (K (x,[.agg [slc code,.int .i64 p']]))):Q (r.bind K):=by
 obtain⟨x,p',rfl,a,b,q⟩:=h;exact k x p' a b q
theorem q7i{σ:Type}{S:Nat->σ->R}{Q:R->Prop}(I:σ->Prop)(μ:σ->Nat)(step:∀m s,I s->Q (S (m+1) s)\/∃s',S (m+1) s=S m s'/\I s'/\μ s'<μ s):∀f s,I s->μ s<f->Q (S f s):=by
 intro f;induction f with
 |zero=>intro s _ h;omega
 |succ f ih=>
  intro s hi hm;rcases step f s hi with h|⟨s',e,hi',hm'⟩
  ·exact h
  ·rw[e];exact ih s' hi' (by omega)
@[simp] theorem qly(c:List T):oBx (.bx c)=some c:=Eq.trans rfl rfl
theorem qdw{a b:Int}(ha:0<=a)(hb:0<b):0<=Int.tmod a b/\Int.tmod a b<b:=⟨Int.tmod_nonneg b ha,Int.tmod_lt_of_pos a hb⟩
abbrev src(code:List UInt8)(p:Int):T:=.rref [slc code,.int .i64 p] 0
theorem qgj(b:UInt8):(0:Int)<=(b.toNat:Int)/\(b.toNat:Int)<256:=⟨by omega,by have:=b.toNat_lt;omega⟩
section
variable {code:List UInt8}(hc:code.length<=2097152)
include hc
theorem qpp{p:Int}(hp:0<=p)(hl:0<code.length):∃i:Nat,Int.tmod p (code.length:Int)=i/\i<code.length:=by
 obtain⟨h1,h2⟩:=qdw hp (show(0:Int)<(code.length:Int) by omega);exact⟨(Int.tmod p (code.length:Int)).toNat,by omega,by omega⟩
theorem q2d(p n:Int)(hp:0<=p/\p<=1099511627776) :
 ∃v:Int,LIM F.q2d [.rref [slc code,.int .i64 p] 0,.int .i64 n]=some (.int .i64 v,[.agg [slc code,.int .i64 (p+1)]])/\0<=v/\(1<=n->v<n):=by
 have e1:IntKind.wrap .i64 (p+1)=p+1:=q2y (by omega);have e2:IntKind.wrap .i64 (p+1-1)=p:=by rw[q2y (by omega)];omega
 by_cases hn:n<1
 ·refine⟨0,q6r rfl 0 ((q2d.ev _ _ _ _).trans ?_),by omega,by omega⟩;simp only[evz,Nat.reduceLT,hn,e1]
 rw[Int.not_lt]at hn;have hn0:¬ n=0:=by omega
 by_cases hl:code.length=0
 ·obtain⟨q1,q2⟩:=qdw (a:=p*7) (b:=n) (by omega) (by omega);refine⟨Int.tmod (p*7) n,q6r rfl 0 ((q2d.ev _ _ _ _).trans ?_),q1,fun _=>q2⟩;have z:((code.length:Nat):Int)=0:=by omega
  have z1:¬ n<1:=by omega
  simp only[evz,Nat.reduceLT,z1,z,hn0,e1,e2,q2y (x:=p*7) (by omega)]
 have z1:¬ n<1:=by omega
 obtain⟨i,hi,hil⟩:=qpp hc hp.1 (by omega);obtain⟨j,hj,hjl⟩:=qpp (code:=code) hc (p:=p+1) (by omega) (by omega);have b1:=qgj code[i];have b2:=qgj code[j];have hd:0<=Int.tdiv p code.length/\Int.tdiv p code.length<=p:=⟨Int.tdiv_nonneg hp.1 (by omega),Int.tdiv_le_self _ hp.1⟩;have d1:¬((code.length:Nat):Int)=0:=by omega
 generalize hk:Int.tdiv p code.length=d at hd;have w1:IntKind.wrap .i64 d=d:=q2y (by omega);have w2:IntKind.wrap .i64 (d*37)=d*37:=q2y (by omega);have w3:IntKind.wrap .i64 (code[i].toNat:Int)=(code[i].toNat:Int):=q2y (by omega);have w4:IntKind.wrap .i64 (code[j].toNat:Int)=(code[j].toNat:Int):=q2y (by omega);have w5:IntKind.wrap .i64 ((code[i].toNat:Int)+d*37)=(code[i].toNat:Int)+d*37:=q2y (by omega);have w6:IntKind.wrap .i64 (((code[i].toNat:Int)+d*37)*251)=((code[i].toNat:Int)+d*37)*251:=q2y (by omega);have w7:IntKind.wrap .i64 ((code[j].toNat:Int)*13)=(code[j].toNat:Int)*13:=q2y (by omega);have w8:IntKind.wrap .i64 (((code[i].toNat:Int)+d*37)*251+(code[j].toNat:Int)*13)=((code[i].toNat:Int)+d*37)*251+(code[j].toNat:Int)*13:=q2y (by omega);have w9:IntKind.wrap .i64 (((code[i].toNat:Int)+d*37)*251+(code[j].toNat:Int)*13+p)=((code[i].toNat:Int)+d*37)*251+(code[j].toNat:Int)*13+p:=q2y (by omega);by_cases hbig:n>200
 ·obtain⟨q1,q2⟩:=qdw (a:=((code[i].toNat:Int)+d*37)*251+(code[j].toNat:Int)*13+p) (b:=n) (by omega) (by omega);refine⟨_,q6r rfl 0 ((q2d.ev _ _ _ _).trans ?_),q1,fun _=>q2⟩;simp only[evz,Nat.reduceLT,z1,d1,hn0,e1,e2,hi,hil,hj,hjl,gA,qk6,hbig,hk,w1,w2,w3,w4,w5,w6,w7,w8,w9]
 ·obtain⟨q1,q2⟩:=qdw (a:=(code[i].toNat:Int)+d*37) (b:=n) (by omega) (by omega);refine⟨_,q6r rfl 0 ((q2d.ev _ _ _ _).trans ?_),q1,fun _=>q2⟩;simp only[evz,Nat.reduceLT,z1,d1,hn0,e1,e2,hi,hil,hj,hjl,gA,qk6,hbig,hk,w1,w2,w3,w4,w5,w6,w7,w8,w9]
theorem qay{Q:R->Prop}{p n:Int}{K:T×List T->R}(hp:0<=p/\p<=1099511627776)(k:∀v:Int,0<=v->(1<=n->v<n)->Q (K (.int .i64 v,[.agg [slc code,.int .i64 (p+1)]]))) :
 Q ((LIM F.q2d [.rref [slc code,.int .i64 p] 0,.int .i64 n]).bind K):=by
 obtain⟨v,e,h1,h2⟩:=q2d hc p n hp;rw[e];exact k v h1 h2
theorem q2z(p n:Int)(hp:0<=p/\p<=1099511627776):∃b:Bool,LIM F.q2z [.rref [slc code,.int .i64 p] 0,.int .i64 n]=some (.bool b,[.agg [slc code,.int .i64 (p+1)]]):=by
 obtain⟨v,e,_⟩:=q2d hc p n hp;exact⟨decide (v=0),q6r rfl 0 ((q2z.ev _ _ _ _).trans (by simp only[evz,Nat.reduceLT,e]))⟩
theorem q8z{Q:R->Prop}{p n:Int}{K:T×List T->R}(hp:0<=p/\p<=1099511627776)(k:∀b:Bool,Q (K (.bool b,[.agg [slc code,.int .i64 (p+1)]]))) :
 Q ((LIM F.q2z [.rref [slc code,.int .i64 p] 0,.int .i64 n]).bind K):=by
 obtain⟨b,e⟩:=q2z hc p n hp;rw[e];exact k b
theorem q3q(p:Int)(l:List Int){ts:List T}(hts:cells l=ts)(hl:l≠[])(hp:0<=p/\p<=1099511627776) :
 ∃v∈l,LIM F.q3q [.rref [slc code,.int .i64 p] 0,.sl 1 ts]=some (.int .i64 v,[.agg [slc code,.int .i64 (p+1)]]):=by
 subst hts;have h0:0<l.length:=List.length_pos_iff.2 hl;have hd:(cells l).length/1=l.length:=q53 rfl;obtain⟨v,e,h1,h2⟩:=q2d hc p (l.length:Int) hp;obtain⟨i,rfl⟩:∃i:Nat,v=i:=⟨v.toNat,by omega⟩;have hi:i<l.length:=by have:=h2 (by omega);omega
 refine⟨l[i],gG hi,q6r rfl 0 ((q3q.ev _ _ _ _).trans ?_)⟩;simp only[evz,Nat.reduceLT,e,hi,gA,q1r]
theorem qe9{Q:R->Prop}{p:Int}(l:List Int){ts:List T}{K:T×List T->R}(hts:cells l=ts)(hl:l≠[])(hp:0<=p/\p<=1099511627776)(k:∀v:Int,v∈l->Q (K (.int .i64 v,[.agg [slc code,.int .i64 (p+1)]]))) :
 Q ((LIM F.q3q [.rref [slc code,.int .i64 p] 0,.sl 1 ts]).bind K):=by
 obtain⟨v,hv,e⟩:=q3q hc p l hts hl hp;rw[e];exact k v hv
theorem q7r(i n:Int)(hi:0<=i/\i<=1099511627776):∃v:Int,Call F.q7r [slc code,.int .i64 i,.int .i64 n] (.int .i64 v)/\0<=v/\(1<=n->v<n):=by
 by_cases hn:n<=1
 ·exact⟨0,q0q rfl 0 ((q7r.ev _ _ _ _).trans (by simp only[evz,Nat.reduceLT,hn])),by omega,by omega⟩
 have hn0:¬ n=0:=by omega
 by_cases hl:code.length=0
 ·obtain⟨q1,q2⟩:=qdw (a:=i*7) (b:=n) (by omega) (by omega);have z:((code.length:Nat):Int)=0:=by omega
  exact⟨Int.tmod (i*7) n,q0q rfl 0 ((q7r.ev _ _ _ _).trans (by simp only[evz,Nat.reduceLT,hn,z,hn0,q2y (x:=i*7) (by omega)])),q1,fun _=>q2⟩
 obtain⟨a,ha,hal⟩:=qpp hc hi.1 (by omega);obtain⟨j,hj,hjl⟩:=qpp (code:=code) hc (p:=i+1) (by omega) (by omega);have b1:=qgj code[a];have b2:=qgj code[j];have hd:0<=Int.tdiv i code.length/\Int.tdiv i code.length<=i:=⟨Int.tdiv_nonneg hi.1 (by omega),Int.tdiv_le_self _ hi.1⟩;have d1:¬((code.length:Nat):Int)=0:=by omega
 generalize hk:Int.tdiv i code.length=d at hd;have e1:IntKind.wrap .i64 (i+1)=i+1:=q2y (by omega);have w1:IntKind.wrap .i64 d=d:=q2y (by omega);have w2:IntKind.wrap .i64 (d*3)=d*3:=q2y (by omega);have w3:IntKind.wrap .i64 (code[a].toNat:Int)=(code[a].toNat:Int):=q2y (by omega);have w4:IntKind.wrap .i64 (code[j].toNat:Int)=(code[j].toNat:Int):=q2y (by omega);have w5:IntKind.wrap .i64 ((code[a].toNat:Int)+d*3)=(code[a].toNat:Int)+d*3:=q2y (by omega);have w6:IntKind.wrap .i64 (((code[a].toNat:Int)+d*3)*251)=((code[a].toNat:Int)+d*3)*251:=q2y (by omega);have w7:IntKind.wrap .i64 (((code[a].toNat:Int)+d*3)*251+(code[j].toNat:Int))=((code[a].toNat:Int)+d*3)*251+(code[j].toNat:Int):=q2y (by omega);by_cases hbig:n>200
 ·obtain⟨q1,q2⟩:=qdw (a:=((code[a].toNat:Int)+d*3)*251+(code[j].toNat:Int)) (b:=n) (by omega) (by omega);exact⟨_,q0q rfl 0 ((q7r.ev _ _ _ _).trans (by simp only[evz,Nat.reduceLT,hn,d1,hn0,e1,ha,hal,hj,hjl,gA,qk6,hbig,hk,w1,w2,w3,w4,w5,w6,w7])),q1,fun _=>q2⟩
 ·obtain⟨q1,q2⟩:=qdw (a:=(code[a].toNat:Int)+d*3) (b:=n) (by omega) (by omega);exact⟨_,q0q rfl 0 ((q7r.ev _ _ _ _).trans (by simp only[evz,Nat.reduceLT,hn,d1,hn0,e1,ha,hal,hj,hjl,gA,qk6,hbig,hk,w1,w2,w3,w5])),q1,fun _=>q2⟩
omit hc in
theorem q7h:Call F.q7h [slc code] (.bool (decide ((code.length:Int)>1048576))):=q0q rfl 0 ((q7h.ev _ _).trans (by simp only[evz,Nat.reduceLT]))
omit hc in
theorem q58:LIM F.q58 [slc code]=some (.bx [slc code,.int .i64 0],[]):=q6r rfl 0 (q58.ev _ _)
end
set_option maxHeartbeats 1000000
structure Grown(l:List Symbol)(m:Nat)(vars:Int)(t:List Int):Prop where
 pos:1<=t.length
 le:t.length<=m
 node:∀n∈t,(0<=n/\n<l.length)\/(-vars<=n/\n <= -1)
 tree:∃x:Tm,x.ok (ar l)/\t=x.flat
theorem Grown.ok{l:List Symbol}{m:Nat}{vars:Int}{t:List Int}(h:Grown l m vars t)(hm:m<=24)(hv:vars<=12):TermOk l t:=by
 refine⟨h.pos,Nat.le_trans h.le hm,fun n hn=>?_,?_⟩
 ·rw[q4j];rcases h.node n hn with h|h
  ·exact .inl h
  ·exact .inr (by omega)
 ·obtain⟨x,hx,rfl⟩:=h.tree;have:=Tm.skip_flat (a:=ar l) (fun n hn=>q9l l hn) x [] 0 hx;rwa[gAD]at this
section
variable {code:List UInt8}(hc:code.length<=2097152){l:List Symbol}(ok:SigOk ⟨l⟩)
def qiy(code:List UInt8)(l:List Symbol)(p:Int)(m:Nat)(vars:Int)(r:R):Prop:=∃t p',r=some (slc t,[.agg [slc code,.int .i64 p']])/\p<=p'/\p'<=p+3*(t.length:Int)/\Grown l m vars t
include hc ok
theorem qw3(p q:Int)(m:Nat)(vars:Int)(hm:1<=m)(hv:1<=vars/\vars<=12)(hp:0<=p/\p<=q/\q<=p+2/\q<=1099511627776) :
 qiy code l p m vars ((LIM F.q2d [.rref [slc code,.int .i64 q] 0,.int .i64 vars]).bind fun r=>(q0z r.2).bind fun p2=>(oNil p2.2).bind fun _=>(oAgg p2.1).bind fun c3=>(q0z c3).bind fun p4=>(oSl 1 p4.1).bind fun c5=>(q0z p4.2).bind fun p6=>(oInt .i64 p6.1).bind fun n7=>(oNil p6.2).bind fun _=>(oInt .i64 r.1).bind fun n8=>some (.sl 1 [.int .i64 (IntKind.wrap .i64 ((-1:Int)-n8))],[.agg [.sl 1 (cells code),.int .i64 n7]])):=by
 refine qay hc (by omega) fun v h1 h2=>?_;have h2:=h2 hv.1;simp only[evz,Nat.reduceLT];rw[q2y (by omega)];exact⟨[-1-v],q+1,rfl,by omega,by simp;omega,⟨by simp,by simp;omega,fun n hn=>.inr (by rw[gD.1 hn];omega),.v (-1-v),by show -1-v<0;omega,rfl⟩⟩
noncomputable def qvs(l:List Symbol)(code:List UInt8)(m vars x4 p:Int):R:=
 (bif inB x4 ((cells l).length/2)then(((cells l)[(((Int.toNat x4)*2)+1)]?).bind fun e71=>((oInt .i64 e71).bind fun n72=>(bif ((n72==(1:Int)))then((LIM F.q0f [(.rref [(.sl 1 (cells code)),(.int .i64 p)] 0),(.rref [(.sl 2 (cells l))] 0),(.int .i64 (IntKind.wrap .i64 (m-(1:Int)))),(.int .i64 vars)]).bind fun r73=>((q0z r73.2).bind fun p74=>((oNil p74.2).bind fun _=>((oAgg p74.1).bind fun c75=>((q0z c75).bind fun p76=>((oSl 1 p76.1).bind fun c77=>((q0z p76.2).bind fun p78=>((oInt .i64 p78.1).bind fun n79=>((oNil p78.2).bind fun _=>((oSl 1 r73.1).bind fun c80=>(bif (c80).all T.scalar then(bif Nat.ble ((1+(c80).length)*8) (140737488355328*1)then some ((.sl 1 ([(.int .i64 x4)]++c80:List T)),[(.agg [(.sl 1 (cells code)),(.int .i64 n79)])])else none)else none)))))))))))else(bif ((n72==(2:Int)))then((LIM F.q0f [(.rref [(.sl 1 (cells code)),(.int .i64 p)] 0),(.rref [(.sl 2 (cells l))] 0),(.int .i64 (IntKind.wrap .i64 (m-(2:Int)))),(.int .i64 vars)]).bind fun r81=>((q0z r81.2).bind fun p82=>((oNil p82.2).bind fun _=>((oAgg p82.1).bind fun c83=>((q0z c83).bind fun p84=>((oSl 1 p84.1).bind fun c85=>((q0z p84.2).bind fun p86=>((oInt .i64 p86.1).bind fun n87=>((oNil p86.2).bind fun _=>((oSl 1 r81.1).bind fun c88=>(bif (c88).all T.scalar then(bif Nat.ble ((1+(c88).length)*8) (140737488355328*1)then((LIM F.q0f [(.rref [(.sl 1 (cells code)),(.int .i64 n87)] 0),(.rref [(.sl 2 (cells l))] 0),(.int .i64 (IntKind.wrap .i64 ((IntKind.wrap .i64 (m-(1:Int)))-((((c88).length/1):Nat):Int)))),(.int .i64 vars)]).bind fun r89=>((q0z r89.2).bind fun p90=>((oNil p90.2).bind fun _=>((oAgg p90.1).bind fun c91=>((q0z c91).bind fun p92=>((oSl 1 p92.1).bind fun c93=>((q0z p92.2).bind fun p94=>((oInt .i64 p94.1).bind fun n95=>((oNil p94.2).bind fun _=>((oSl 1 r89.1).bind fun c96=>(bif (c96).all T.scalar then(bif Nat.ble (((([(.int .i64 x4)]++c88:List T)).length+(c96).length)*8) (140737488355328*1)then some ((.sl 1 (([(.int .i64 x4)]++c88:List T)++c96:List T)),[(.agg [(.sl 1 (cells code)),(.int .i64 n95)])])else none)else none)))))))))))else none)else none)))))))))))else some ((.sl 1 [(.int .i64 x4)]),[(.agg [(.sl 1 (cells code)),(.int .i64 p)])])))))else none)
theorem qyc(p q:Int)(m:Nat)(vars:Int)(hm:1<=m/\m<=1000)(hv:0<=vars/\vars<=12)(hp:0<=p/\p<=q/\q<=p+3/\p+10*(m:Int)<=1099511020000)
 (ih:∀k,1<=k->k<m->∀p,0<=p/\p+10*(k:Int)<=1099511020000->qiy code l p k vars (LIM F.q0f [.rref [slc code,.int .i64 p] 0,.rref [slc l] 0,.int .i64 k,.int .i64 vars]))
 (i:Nat) (hi:i<l.length) (ha:l[i].arity<m):qiy code l p m vars (qvs l code m vars i q):=by
 obtain⟨a1,a2⟩:=ok.arity l[i] (gG hi);have har:(ar l (i:Int):Int)=l[i].arity:=(qru ok (n:=(i:Int)) (by omega) (by simpa using hi)).symm;unfold qvs;have hn0:(0:Int)<=i/\(i:Int)<l.length:=by omega
 simp only[evz,Nat.reduceLT,hi,gA,q33];by_cases h1:l[i].arity=1
 ·simp only[evz,Nat.reduceLT,h1];rw[q2y (by omega),show(m:Int)-1=((m-1:Nat):Int) by omega];obtain⟨t,p',e,q1,q2,g⟩:=ih (m-1) (by omega) (by omega) q (by omega);have hl:=g.le;have e2:(cells t).length=t.length:=by rw[q0m];simp
  simp only[evz,Nat.reduceLT,e,q4t];rw[q1o (q41 (by rw[e2];omega))];refine⟨(i:Int)::t,p',rfl,by omega,by simp;omega,⟨by simp,by simp;omega,fun n hn=>?_,?_⟩⟩
  ·rcases gK.1 hn with rfl|hn
   ·exact .inl hn0
   ·exact g.node n hn
  ·obtain⟨x,hx,rfl⟩:=g.tree;exact⟨.u i x,⟨by omega,by omega,hx⟩,rfl⟩
 by_cases h2:l[i].arity=2
 ·simp only[evz,Nat.reduceLT,h2,Int.reduceEq];rw[q2y (x:=(m:Int)-2) (by omega),show(m:Int)-2=((m-2:Nat):Int) by omega];obtain⟨t,p',e,q1,q2,g⟩:=ih (m-2) (by omega) (by omega) q (by omega);have hl:=g.le;have hl1:=g.pos;have e2:(cells t).length=t.length:=by rw[q0m];simp
  simp only[evz,Nat.reduceLT,e,q4t];rw[q1o (q41 (by rw[e2];omega)),q2y (x:=(m:Int)-1) (by omega),q2y (by omega),show(m:Int)-1-(t.length:Int)=((m-1-t.length:Nat):Int) by omega];obtain⟨t2,p2,e',q3,q4,g2⟩:=ih (m-1-t.length) (by omega) (by omega) p' (by omega);have hl2:=g2.le;have e3:(cells t2).length=t2.length:=by rw[q0m];simp
  simp only[evz,Nat.reduceLT,e',q4t];rw[q1o (q41 (by simp only[gM,List.length_singleton];rw[e2,e3];omega))];refine⟨(i:Int)::(t++t2),p2,by rw[gZ,<- q2s];rfl,by omega,by simp;omega,⟨by simp,by simp;omega,fun n hn=>?_,?_⟩⟩
  ·rcases gK.1 hn with rfl|hn
   ·exact .inl hn0
   ·rcases gO.1 hn with hn|hn
    ·exact g.node n hn
    ·exact g2.node n hn
  ·obtain⟨x,hx,rfl⟩:=g.tree;obtain⟨y,hy,rfl⟩:=g2.tree;exact⟨.b i x y,⟨by omega,by omega,hx,hy⟩,rfl⟩
 simp only[evz,Nat.reduceLT,h1,h2];exact⟨[(i:Int)],q,rfl,by omega,by simp;omega,⟨by simp,by simp;omega,fun n hn=>by rw[gD.1 hn];exact .inl hn0,.k i,⟨by omega,by omega⟩,rfl⟩⟩
omit hc ok in
theorem qpv{n d k c:Nat}(h:(n+(d+1)) % k=c):((n+1) % k+d) % k=c:=by
 rw[Nat.mod_add_mod,show n+1+d=n+(d+1) by omega];exact h
omit hc ok in
theorem qw0{n c k:Nat}(hn:n<k)(hc:c<k):∃d,d<k/\(n+d) % k=c:=by
 by_cases h:n<=c
 ·exact⟨c-n,by omega,by rw[show n+(c-n)=c by omega,Nat.mod_eq_of_lt hc]⟩
 ·exact⟨c+k-n,by omega,by rw[show n+(c+k-n)=c+k by omega,Nat.add_mod_right,Nat.mod_eq_of_lt hc]⟩
theorem qv4(p q:Int)(m:Nat)(vars:Int)(hm:1<=m/\m<=1000)(hv:0<=vars/\vars<=12)(hp:0<=p/\p<=q/\q<=p+3/\p+10*(m:Int)<=1099511020000)
 (ih:∀k,1<=k->k<m->∀p,0<=p/\p+10*(k:Int)<=1099511020000->qiy code l p k vars (LIM F.q0f [.rref [slc code,.int .i64 p] 0,.rref [slc l] 0,.int .i64 k,.int .i64 vars]))
 (i:Nat) (hi:i<l.length):qiy code l p m vars (q0f.at0 10 10 (q0f.st0 (cells l) m vars l.length i 0 (cells code) q)):=by
 have hle:=ok.le;simp only at hle;obtain⟨y,hy,hy0⟩:=ok.const;obtain⟨c,hcl,hcy⟩:=List.getElem_of_mem hy;have hcl:c<l.length:=hcl
 have hca:l[c].arity=0:=by
  have:l[c]=y:=hcy;rw[this];exact hy0
 have fin:=qyc hc ok p q m vars hm hv hp ih
 have step2:∀i,i<l.length->qiy code l p m vars (q0f.at2 10 10 (q0f.st2 (cells l) m vars l.length (i:Nat) 0 (cells code) q)):=fun i hi=>by
  obtain⟨d,hd,hdc⟩:=qw0 hi hcl;refine q7i (σ:=Nat×Nat×Nat) (S:=fun k s=>q0f.at2 10 k (q0f.st2 (cells l) m vars l.length (s.1:Nat) (s.2.1:Nat) (cells code) q)) (fun s=>s.1<l.length/\(s.1+s.2.2) % l.length=c/\s.2.1+s.2.2<l.length) (fun s=>s.2.2) (fun k s hs=>?_) _ (i,0,d) ⟨hi,hdc,by simp only;omega⟩ (by simp only;omega);obtain⟨n,j,d⟩:=s;obtain⟨h1,h2,h3⟩:=hs;simp only at h1 h2 h3 ⊢;have hj:j<l.length:=by omega
  have hl0:¬((l.length:Nat):Int)=0:=by omega
  by_cases ha:l[n].arity>0
  ·right;cases d with
   |zero=>
    rw[Nat.add_zero,Nat.mod_eq_of_lt h1]at h2;subst h2;omega
   |succ d=>
    refine⟨((n+1) % l.length,j+1,d),?_,⟨Nat.mod_lt _ (by omega),qpv h2,by simp only;omega⟩,by simp only;omega⟩;simp only[q0f.next2,q0f.round2,evz,Nat.reduceLT,hj,h1,gA,q33,ha,hl0];rw[q0k (by omega),q0k (by omega)];congr 2
  ·left;have hf:=fin n h1 (by omega);simp only[q0f.next2,q0f.round2,evz,Nat.reduceLT,hj,h1,gA,q33,ha];unfold qvs at hf;simp only[evz,Nat.reduceLT,h1,gA,q33]at hf;exact hf
 obtain⟨d,hd,hdc⟩:=qw0 hi hcl;refine q7i (σ:=Nat×Nat×Nat) (S:=fun k s=>q0f.at0 10 k (q0f.st0 (cells l) m vars l.length (s.1:Nat) (s.2.1:Nat) (cells code) q)) (fun s=>s.1<l.length/\(s.1+s.2.2) % l.length=c/\s.2.1+s.2.2<l.length) (fun s=>s.2.2) (fun k s hs=>?_) _ (i,0,d) ⟨hi,hdc,by simp only;omega⟩ (by simp only;omega);obtain⟨n,j,d⟩:=s;obtain⟨h1,h2,h3⟩:=hs;simp only at h1 h2 h3 ⊢;have hj:j<l.length:=by omega
 have hl0:¬((l.length:Nat):Int)=0:=by omega
 by_cases ha:l[n].arity>=m
 ·right;cases d with
  |zero=>
   rw[Nat.add_zero,Nat.mod_eq_of_lt h1]at h2;subst h2;omega
  |succ d=>
   refine⟨((n+1) % l.length,j+1,d),?_,⟨Nat.mod_lt _ (by omega),qpv h2,by simp only;omega⟩,by simp only;omega⟩;simp only[q0f.next0,q0f.round0,evz,Nat.reduceLT,hj,h1,gA,q33,ha,hl0];rw[q0k (by omega),q0k (by omega)];congr 2
 ·left;simp only[q0f.next0,q0f.round0,evz,Nat.reduceLT,hj,h1,gA,q33,ha];by_cases hm2:(m:Int)<2
  ·simp only[evz,Nat.reduceLT,hm2];exact step2 n h1
  ·have hf:=fin n h1 (by omega);unfold qvs at hf;simp only[evz,Nat.reduceLT,h1,gA,q33]at hf;simp only[evz,Nat.reduceLT,hm2];exact hf
theorem qm1(vars:Int)(hv:0<=vars/\vars<=12):∀(m:Nat),1<=m->m<=1000->∀p,0<=p/\p+10*(m:Int)<=1099511020000->qiy code l p m vars (LIM F.q0f [.rref [slc code,.int .i64 p] 0,.rref [slc l] 0,.int .i64 m,.int .i64 vars]):=by
 intro m;induction m using Nat.strongRecOn with
 |ind m ih=>
  intro hm1 hm2 p hp;have hle:=ok.le;have hpos:=ok.pos;simp only at hle hpos
  suffices h:qiy code l p m vars (q1j prog A H LIM 10 F.q0f [.rref [slc code,.int .i64 p] 0,.rref [slc l] 0,.int .i64 m,.int .i64 vars]) by
   obtain⟨t,p',e,r⟩:=h;exact⟨t,p',qg1 rfl 10 e,r⟩
  rw[show q1j prog A H LIM 10 F.q0f [.rref [slc code,.int .i64 p] 0,.rref [slc l] 0,.int .i64 m,.int .i64 vars]=_ from q0f.ev _ _ _ _ _ _]
  have node:∀q,p<=q->q<=p+2->qiy code l p m vars ((LIM F.q2d [.rref [slc code,.int .i64 q] 0,.int .i64 (l.length:Int)]).bind fun r=>(q0z r.2).bind fun p2=>(oNil p2.2).bind fun _=>(oAgg p2.1).bind fun c3=>(q0z c3).bind fun p4=>(oSl 1 p4.1).bind fun c5=>(q0z p4.2).bind fun p6=>(oInt .i64 p6.1).bind fun n7=>(oNil p6.2).bind fun _=>(oInt .i64 r.1).bind fun n8=>q0f.at0 10 10 (q0f.st0 (cells l) m vars l.length n8 0 (cells code) n7)):=fun q q1 q2=>by
   refine qay hc (by omega) fun v h1 h2=>?_;have h2:=h2 (by omega);obtain⟨i,rfl⟩:∃i:Nat,v=i:=⟨v.toNat,by omega⟩;simp only[evz,Nat.reduceLT];exact qv4 hc ok p (q+1) m vars ⟨hm1,hm2⟩ hv (by omega) (fun k k1 k2 p hp=>ih k k2 k1 (by omega) p hp) i (by omega)
  by_cases hv0:vars>0
  ·simp only[evz,Nat.reduceLT,hv0]
   have rest:∀q,p<=q->q<=p+1->qiy code l p m vars ((LIM F.q2z [.rref [slc code,.int .i64 q] 0,.int .i64 4]).bind fun r=>(q0z r.2).bind fun p2=>(oNil p2.2).bind fun _=>(oAgg p2.1).bind fun c3=>(q0z c3).bind fun p4=>(oSl 1 p4.1).bind fun c5=>(q0z p4.2).bind fun p6=>(oInt .i64 p6.1).bind fun n7=>(oNil p6.2).bind fun _=>(q7g r.1).bind fun b8=>
    bif b8 then((LIM F.q2d [.rref [slc code,.int .i64 n7] 0,.int .i64 vars]).bind fun r=>(q0z r.2).bind fun p2=>(oNil p2.2).bind fun _=>(oAgg p2.1).bind fun c3=>(q0z c3).bind fun p4=>(oSl 1 p4.1).bind fun c5=>(q0z p4.2).bind fun p6=>(oInt .i64 p6.1).bind fun n7=>(oNil p6.2).bind fun _=>(oInt .i64 r.1).bind fun n8=>some (.sl 1 [.int .i64 (IntKind.wrap .i64 ((-1:Int)-n8))],[.agg [slc code,.int .i64 n7]]))
    else((LIM F.q2d [.rref [slc code,.int .i64 n7] 0,.int .i64 (l.length:Int)]).bind fun r=>(q0z r.2).bind fun p2=>(oNil p2.2).bind fun _=>(oAgg p2.1).bind fun c3=>(q0z c3).bind fun p4=>(oSl 1 p4.1).bind fun c5=>(q0z p4.2).bind fun p6=>(oInt .i64 p6.1).bind fun n7=>(oNil p6.2).bind fun _=>(oInt .i64 r.1).bind fun n8=>q0f.at0 10 10 (q0f.st0 (cells l) m vars l.length n8 0 (cells code) n7))):=fun q q1 q2=>by
    refine q8z hc (by omega) fun b=>?_;simp only[evz,Nat.reduceLT];cases b with
    |true=>exact qw3 hc ok p (q+1) m vars hm1 (by omega) (by omega)
    |false=>exact node (q+1) (by omega) (by omega)
   by_cases hm3:(m:Int)<2
   ·simp only[evz,Nat.reduceLT,hm3];refine q8z hc (by omega) fun b=>?_;simp only[evz,Nat.reduceLT];cases b with
    |true=>exact qw3 hc ok p (p+1) m vars hm1 (by omega) (by omega)
    |false=>exact rest (p+1) (by omega) (by omega)
   ·simp only[evz,Nat.reduceLT,hm3];exact rest p (by omega) (by omega)
  ·simp only[evz,Nat.reduceLT,hv0];exact node p (by omega) (by omega)
theorem q0f(p most vars:Int)(hm:1<=most/\most<=1000)(hv:0<=vars/\vars<=12)(hp:0<=p/\p<=1099511000000) :
 Drawn code p 3000 (fun x=>∃t,x=slc t/\Grown l most.toNat vars t) (LIM F.q0f [.rref [slc code,.int .i64 p] 0,.rref [slc l] 0,.int .i64 most,.int .i64 vars]):=by
 obtain⟨t,p',e,h1,h2,g⟩:=qm1 hc ok vars hv most.toNat (by omega) (by omega) p (by omega);rw[show((most.toNat:Nat):Int)=most by omega]at e;have:=g.le;exact⟨_,p',e,h1,by omega,t,rfl,g⟩
end
set_option maxHeartbeats 1000000
def ba(l:List UInt8):ByteArray:=ByteArray.mk l.toArray
def sigA:List Symbol:=[⟨ba [101],0⟩,⟨ba [105],1⟩,⟨ba [109],2⟩,⟨ba [97],0⟩]
def sigB:List Symbol:=[⟨ba [97],0⟩,⟨ba [115,117,99],1⟩,⟨ba [97,100,100],2⟩,⟨ba [98],0⟩]
def sigC:List Symbol:=[⟨ba [97],0⟩,⟨ba [102],1⟩,⟨ba [103],1⟩]
def sigD:List Symbol:=[⟨ba [97],0⟩,⟨ba [98],0⟩,⟨ba [101],0⟩,⟨ba [109],2⟩,⟨ba [105],1⟩,⟨ba [115,117,99],1⟩]
def sigE:List Symbol:=[⟨ba [97],0⟩]
theorem qwo:SigOk ⟨sigA⟩:=q7z (by decide)
theorem qx3:SigOk ⟨sigB⟩:=q7z (by decide)
theorem qxj:SigOk ⟨sigC⟩:=q7z (by decide)
theorem qwq:SigOk ⟨sigD⟩:=q7z (by decide)
theorem qx8:SigOk ⟨sigE⟩:=q7z (by decide)
theorem qjr{b:ByteArray}(h:qch b=true):b.size<=3:=by
 unfold qch at h;rw[gC,decide_eq_true_iff]at h;exact h.1.2
theorem SigOk.small{l:List Symbol}(ok:SigOk ⟨l⟩):sm 7 (Signature.mk l):=⟨Nat.le_trans ok.le (by omega),fun x hx=>Nat.le_trans (qjr (ok.name x hx)) (by omega)⟩
theorem qte(o:List Int){i:Nat}(h:i+1<o.length):((o.set i o[i+1]).set (i+1) (o[i]'(by omega))).Perm o:=by
 obtain⟨A,x,y,B,rfl,rfl⟩:∃A x y B,o=A++x::y::B/\A.length=i:=by
  refine⟨o.take i,o[i],o[i+1],o.drop (i+2),?_,by rw[gAF];omega⟩;rw[<- gH h,<- gH (by omega),List.take_append_drop]
 have e1:(A++x::y::B)[A.length+1]=y:=by simp[List.getElem_append_right]
 have e2:(A++x::y::B)[A.length]'(by simp)=x:=by simp[List.getElem_append_right]
 rw[e1,e2,List.set_append_right _ _ (gAI _),List.set_append_right _ _ (by omega)];simp only[Nat.sub_self,List.set_cons_zero,show A.length+1-A.length=1 by omega,List.set_cons_succ];exact(List.Perm.swap x y B).append_left A
def Places(l:List Symbol)(o:List Int):Prop:=o.Perm (rise l.length)
theorem Places.order{l:List Symbol}{o:List Int}(h:Places l o):qb2 l o=0:=by
 have hl:o.length=l.length:=by have:=h.length_eq;rwa[q8p]at this
 have hm:∀n∈o,0<=n/\n<l.length:=fun n hn=>by
  have:=(h.mem_iff).1 hn;unfold rise at this;obtain⟨k,hk,rfl⟩:=List.mem_map.1 this;have:=List.mem_range.1 hk;omega
 have hd:o.Nodup:=by
  refine(h.nodup_iff).2 ?_;unfold rise;rw[List.Nodup,List.pairwise_map];exact List.nodup_range.imp fun {a b} hab e=>hab (Int.ofNat_inj.1 e)
 unfold qb2;rw[if_neg (by omega),if_neg,if_neg]
 ·unfold qdf;simpa using hd
 ·rw[Bool.not_eq_true,List.any_eq_false];intro n hn;obtain⟨a,b⟩:=hm n hn;unfold inR;simp;omega
section
variable {code:List UInt8}(hc:code.length<=2097152)
include hc
theorem q8y(p:Int)(hp:0<=p/\p<=1099511000000):Drawn code p 1 (fun x=>∃l:List Symbol,x=.agg [slc l]/\SigOk ⟨l⟩) (LIM F.q8y [.rref [slc code,.int .i64 p] 0]):=by
 refine q91 rfl 0 ?_;rw[show q1j prog A H LIM 0 F.q8y [.rref [slc code,.int .i64 p] 0]=_ from q8y.ev _ _ _];refine qay hc (by omega) fun v h1 h2=>?_;simp only[evz,Nat.reduceLT];have leaf:∀l:List Symbol,SigOk ⟨l⟩->Drawn code p 1 (fun x=>∃l:List Symbol,x=.agg [slc l]/\SigOk ⟨l⟩) (some (.agg [slc l],[.agg [slc code,.int .i64 (p+1)]])):=fun l hl=>q5t (by omega) ⟨l,rfl,hl⟩
 repeat' split
 all_goals first|exact leaf sigA qwo|exact leaf sigB qx3|exact leaf sigC qxj|exact leaf sigD qwq|exact leaf sigE qx8
omit hc in
theorem qta{l:List Symbol}{i:Nat}(hi:i<l.length)(n:ByteArray):setCells (cells l) (i*2) [.str n]=cells (l.set i ⟨n,l[i].arity⟩):=by
 have:=qq7 (o:=l) (i:=i) (n:=2) (j:=0) (x:=l[i]) (x':=⟨n,l[i].arity⟩) (c:=.str n) rfl hi (by decide) (by rw[q33,q33];rfl);rwa[qgq (gA hi)]at this
omit hc in
theorem qw4{l:List Symbol}{i:Nat}(hi:i<l.length)(n:Int):setCells (cells l) (i*2+1) [.int .i64 n]=cells (l.set i ⟨l[i].name,n⟩):=by
 have:=qq7 (o:=l) (i:=i) (n:=2) (j:=1) (x:=l[i]) (x':=⟨l[i].name,n⟩) (c:=.int .i64 n) rfl hi (by decide) (by rw[q33,q33];rfl);rwa[qgq (gA hi)]at this
theorem q15(p:Int)(hp:0<=p/\p<=1099511000000):Drawn code p 5 (fun x=>∃l:List Symbol,x=.agg [slc l]/\sm 7 (Signature.mk l)) (LIM F.q15 [.rref [slc code,.int .i64 p] 0]):=by
 refine q91 rfl 10 ?_;rw[show q1j prog A H LIM 10 F.q15 [.rref [slc code,.int .i64 p] 0]=_ from q15.ev _ _ _];refine q78 (q8y hc p (by omega)) ?_;rintro _ p1 a1 b1 ⟨l,rfl,ok⟩;have hle:=ok.le;have hpos:=ok.pos;simp only at hle hpos;have sml:=ok.small;have leaf:∀(l:List Symbol)(p2:Int),p<=p2/\p2<=p+5->sm 7 (Signature.mk l)->Drawn code p 5 (fun x=>∃l:List Symbol,x=.agg [slc l]/\sm 7 (Signature.mk l)) (some (.agg [slc l],[.agg [slc code,.int .i64 p2]])):=fun l p2 h hl=>q5t h ⟨l,rfl,hl⟩
 have setS:∀(i:Nat)(y:Symbol),y.name.size<=7->sm 7 (Signature.mk (l.set i y)):=fun i y hy=>⟨by show(l.set i y).length<=7;rw[List.length_set];omega,fun x hx=>by
  rcases List.mem_or_eq_of_mem_set hx with h|rfl
  ·exact sml.2 x h
  ·exact hy⟩
 simp only[evz,Nat.reduceLT];refine q8z hc (by omega) fun b=>?_;simp only[evz,Nat.reduceLT];cases b with
 |false=>simp only[evz,Nat.reduceLT,Bool.not_false];exact leaf l _ (by omega) sml
 |true=>
  simp only[evz,Nat.reduceLT,Bool.not_true];refine qay hc (by omega) fun v h1 h2=>?_;simp only[evz,Nat.reduceLT];split
  ·exact leaf [] _ (by omega) ⟨by simp,by simp⟩
  split
  ·rw[q2y (by omega),show(l.length:Int)-1=((l.length-1:Nat):Int) by omega];have hi:l.length-1<l.length:=by omega
   have z:(l.length-1)*2+1<=l.length*2:=by omega
   simp only[evz,Nat.reduceLT,hi,qag,qa1,z,qta hi];exact leaf _ _ (by omega) (setS _ _ (show(ba [97,98,99,100]).size<=7 by decide))
  split
  ·refine qay hc (by omega) fun x k1 k2=>?_;obtain⟨i,rfl⟩:∃i:Nat,x=i:=⟨x.toNat,by omega⟩;have hi:i<l.length:=by have:=k2 (by omega);omega
   have z:i*2+1<=l.length*2:=by omega
   simp only[evz,Nat.reduceLT,hi,qag,qa1,z,qta hi];exact leaf _ _ (by omega) (setS _ _ (show(ba [97,66]).size<=7 by decide))
  split
  ·refine qay hc (by omega) fun x k1 k2=>?_;obtain⟨i,rfl⟩:∃i:Nat,x=i:=⟨x.toNat,by omega⟩;have hi:i<l.length:=by have:=k2 (by omega);omega
   simp only[evz,Nat.reduceLT];refine qe9 hc [3,-1] rfl (by simp) (by omega) fun y hy=>?_;have z:i*2+1+1<=l.length*2:=by omega
   simp only[evz,Nat.reduceLT,hi,qag,qa1,z,qw4 hi];exact leaf _ _ (by omega) (setS _ _ (sml.2 l[i] (gG hi)))
  split
  ·have h0:0<l.length:=by omega
   have e0:inB 0 l.length=true:=(q61 0 _).trans (by simpa using h0)
   have g0:(cells l)[0]?=some (.str l[0].name):=by
    have:=get0 (l:=l) (k:=2) (i:=0) rfl;rw[Nat.zero_mul]at this;rw[this,gA h0];rfl
   have g1:(cells l)[1]?=some (.int .i64 l[0].arity):=by
    have:=get1 (l:=l) (k:=2) (i:=0) rfl (by decide);rw[Nat.zero_mul,gAJ]at this;rw[this,gA h0];rfl
   simp only[evz,Nat.reduceLT,e0,g0,g1];rw[q1o (q41 (by rw[q0m];simp only[qa1];omega))];have e9:cells l++[.str l[0].name,.int .i64 l[0].arity]=cells (l++[l[0]]):=by rw[q2s,q9s];rfl
   rw[e9];refine leaf _ _ (by omega) ⟨by show(l++[l[0]]).length<=7;simp;omega,fun x hx=>?_⟩;rcases gO.1 hx with h|h
   ·exact sml.2 x h
   ·rw[gD.1 h];exact sml.2 _ (gG h0)
  split
  ·refine q7i (σ:=Nat×List Symbol) (S:=fun m s=>q15.at3 10 m (q15.st3 l.length (s.1:Nat) (cells code) (p1+1+1) (cells s.2))) (fun s=>s.1<=l.length/\s.2.length=l.length/\sm 7 (Signature.mk s.2)) (fun s=>l.length-s.1) (fun m s hs=>?_) _ (0,l) ⟨by simp,rfl,sml⟩ (by simp only;omega);obtain⟨k,o⟩:=s;obtain⟨q1,q2,q3⟩:=hs;simp only at q1 q2 q3 ⊢;by_cases hk:k<l.length
   ·right;have hko:k<o.length:=by omega
    have z:k*2+1+1<=o.length*2:=by omega
    refine⟨(k+1,o.set k ⟨o[k].name,1⟩),?_,⟨by simp only;omega,by simp[q2],⟨by show(o.set k _).length<=7;rw[List.length_set];omega,fun x hx=>?_⟩⟩,by simp only;omega⟩
    ·simp only[q15.next3,q15.round3,evz,Nat.reduceLT,hk,hko,qag,qa1,z,qw4 hko];rw[q0k (by omega)]
    ·rcases List.mem_or_eq_of_mem_set hx with h|rfl
     ·exact q3.2 x h
     ·exact q3.2 o[k] (gG hko)
   ·left;simp only[q15.next3,q15.round3,evz,Nat.reduceLT,hk];exact leaf _ _ (by omega) q3
  refine q7i (σ:=List Symbol) (S:=fun m s=>q15.at1 10 m (q15.st1 (cells code) (p1+1+1) (cells s))) (fun s=>s.length<=7/\sm 7 (Signature.mk s)) (fun s=>7-s.length) (fun m s hs=>?_) _ l ⟨by omega,sml⟩ (by omega);obtain⟨k1,k2⟩:=hs;by_cases hk:s.length<7
  ·right;have hk2:((s.length:Nat):Int)<7:=by omega
   refine⟨s++[⟨ba [122],0⟩],?_,⟨by simp;omega,⟨by show(s++_).length<=7;simp;omega,fun x hx=>?_⟩⟩,by simp;omega⟩
   ·simp only[q15.next1,q15.round1,evz,Nat.reduceLT,hk2];rw[q1o (q41 (by rw[q0m];simp only[qa1];omega)),q2s,q9s];rfl
   ·rcases gO.1 hx with h|h
    ·exact k2.2 x h
    ·rw[gD.1 h];show(ba [122]).size<=7;decide
  ·left;have hk2:¬((s.length:Nat):Int)<7:=by omega
   simp only[q15.next1,q15.round1,evz,Nat.reduceLT,hk2];exact leaf _ _ (by omega) k2
theorem q11(p:Int)(hp:0<=p/\p<=1099511000000)(l:List Symbol)(hl:l.length<=1000):Drawn code p 4 (fun x=>∃o,x=slc o/\Places l o) (LIM F.q11 [.rref [slc code,.int .i64 p] 0,.agg [slc l]]):=by
 refine q91 rfl 10 ?_;rw[show q1j prog A H LIM 10 F.q11 [.rref [slc code,.int .i64 p] 0,.agg [slc l]]=_ from q11.ev _ _ _ _];simp only[evz,Nat.reduceLT,(q2r l.length (by omega)).eq];refine qay hc (by omega) fun v h1 h2=>?_;simp only[evz,Nat.reduceLT];refine q7i (σ:=Int×Int×List Int) (S:=fun m s=>q11.at0 10 m (q11.st0 s.1 (cells code) s.2.1 (cells s.2.2))) (fun s=>0<=s.1/\s.1<=3/\p<=s.2.1/\s.2.1<=p+1+(3-s.1)/\Places l s.2.2) (fun s=>s.1.toNat) (fun m s hs=>?_) _ (v,p+1,rise l.length) ⟨h1,by simp only;omega,by simp only;omega,by simp only;omega,List.Perm.refl _⟩ (by simp only;omega);obtain⟨a,q,o⟩:=s;obtain⟨k1,k2,k3,k4,k5⟩:=hs;simp only at k1 k2 k3 k4 k5 ⊢;have hol:o.length=l.length:=by have:=k5.length_eq;rwa[q8p]at this
 by_cases ha:a>0
 ·by_cases ho:((o.length:Nat):Int)>1
  ·right;obtain⟨x,e,x1,x2⟩:=q2d hc q ((o.length:Int)-1) (by omega);obtain⟨i,rfl⟩:∃i:Nat,x=i:=⟨x.toNat,by omega⟩;have hi:i+1<o.length:=by have:=x2 (by omega);omega
   have hi0:i<o.length:=by omega
   refine⟨(a-1,q+1,(o.set i o[i+1]).set (i+1) o[i]),?_,⟨by simp only;omega,by simp only;omega,by simp only;omega,by simp only;omega,(qte o hi).trans k5⟩,by simp only;omega⟩;have z1:i*1+1<=o.length*1:=by omega
   have z2:(i+1)*1+1<=o.length*1:=by omega
   simp only[q11.next0,q11.round0,evz,Nat.reduceLT,ha,ho];rw[q2y (x:=(o.length:Int)-1) (by omega)];have hi':i+1<(o.set i o[i+1]).length:=by rw[List.length_set];exact hi
   simp only[evz,Nat.reduceLT,e,q0k (show i<9223372036854775807 by omega),hi,hi0,gA,q1r,qag,q3o,z1,qaa hi0,List.length_set,z2,qaa hi'];rw[q2y (x:=a-1) (by omega)]
  ·left;simp only[q11.next0,q11.round0,evz,Nat.reduceLT,ha,ho];exact q5t (by omega) ⟨o,rfl,k5⟩
 ·left;simp only[q11.next0,q11.round0,evz,Nat.reduceLT,ha];exact q5t (by omega) ⟨o,rfl,k5⟩
theorem q5f(p:Int)(hp:0<=p/\p<=1099511000000)(l:List Symbol)(hl:l.length<=1000):Drawn code p 10 (fun x=>∃o:List Int,x=slc o/\o.length<=l.length) (LIM F.q5f [.rref [slc code,.int .i64 p] 0,.agg [slc l]]):=by
 refine q91 rfl 10 ?_;rw[show q1j prog A H LIM 10 F.q5f [.rref [slc code,.int .i64 p] 0,.agg [slc l]]=_ from q5f.ev _ _ _ _];refine q78 (q11 hc p (by omega) l hl) ?_;rintro _ p1 a1 b1 ⟨o,rfl,ho⟩;have hol:o.length=l.length:=by have:=ho.length_eq;rwa[q8p]at this
 have leaf:∀(o:List Int)(p2:Int),p<=p2/\p2<=p+10->o.length<=l.length->Drawn code p 10 (fun x=>∃o:List Int,x=slc o/\o.length<=l.length) (some (slc o,[.agg [slc code,.int .i64 p2]])):=fun o p2 h hl=>q5t h ⟨o,rfl,hl⟩;simp only[evz,Nat.reduceLT];split
 ·exact leaf o _ (by omega) (by omega)
 rename_i hne;refine q8z hc (by omega) fun b=>?_;simp only[evz,Nat.reduceLT];cases b with
 |false=>simp only[evz,Nat.reduceLT,Bool.not_false];exact leaf o _ (by omega) (by omega)
 |true=>
  simp only[evz,Nat.reduceLT,Bool.not_true];refine qay hc (by omega) fun v h1 h2=>?_;simp only[evz,Nat.reduceLT];have h0:0<o.length:=by omega
  have e0:inB 0 o.length=true:=(q61 0 _).trans (by simpa using h0);have z0:0+1<=o.length*1:=by omega
  have s0:∀n:Int,setCells (cells o) 0 [.int .i64 n]=cells (o.set 0 n):=fun n=>by
   have:=qaa (l:=o) h0 n;rwa[Nat.zero_mul]at this
  split
  ·have z1:(1:Int)<=(o.length:Int):=by omega
   simp only[evz,Nat.reduceLT,z1,Int.le_refl,Bool.and_self,Int.reduceLE]
   have e9:((cells o).take (o.length*1)).drop (1*1)=cells (o.drop 1):=by
    rw[q9a o 1 _ rfl,List.take_length,q9z o 1 1 rfl]
   rw[e9];exact leaf (o.drop 1) _ (by omega) (by rw[gAA];omega)
  split
  ·refine qe9 hc [6,-1] rfl (by simp) (by omega) fun y hy=>?_;simp only[evz,Nat.reduceLT,e0,qag,q3o,z0,s0];exact leaf (o.set 0 y) _ (by omega) (by rw[List.length_set];omega)
  ·rw[q2y (by omega),show(o.length:Int)-1=((o.length-1:Nat):Int) by omega];have hi:o.length-1<o.length:=by omega
   simp only[evz,Nat.reduceLT,hi,gA,q1r,e0,qag,q3o,z0,s0];exact leaf _ _ (by omega) (by rw[List.length_set];omega)
theorem q1a(p most vars:Int)(l:List Symbol)(hl:l.length<=1000)(hm:1<=most/\most<=1000)(hv:0<=vars/\vars<=12)(hp:0<=p/\p<=1099510000000) :
 Drawn code p 3200 (fun x=>∃t:List Int,x=slc t/\t.length<=1001) (LIM F.q1a [.rref [slc code,.int .i64 p] 0,.rref [slc l] 0,.int .i64 most,.int .i64 vars]):=by
 have leaf:∀(t:List Int)(p2:Int),p<=p2/\p2<=p+3200->t.length<=1001->Drawn code p 3200 (fun x=>∃t:List Int,x=slc t/\t.length<=1001) (some (slc t,[.agg [slc code,.int .i64 p2]])):=fun t p2 h hl=>q5t h ⟨t,rfl,hl⟩;refine q91 rfl 30 ?_;rw[show q1j prog A H LIM 30 F.q1a [.rref [slc code,.int .i64 p] 0,.rref [slc l] 0,.int .i64 most,.int .i64 vars]=_ from q1a.ev _ _ _ _ _ _];simp only[evz,Nat.reduceLT];split
 ·exact leaf [0] p (by omega) (by simp)
 simp only[(q01 l (by omega)).eq,evz,Nat.reduceLT];split
 case isFalse=>exact leaf [0] p (by omega) (by simp)
 rename_i hs;have ok:=q7z hs;refine q78 (q0f hc ok p most vars hm hv (by omega)) ?_;rintro _ p1 a1 b1 ⟨t,rfl,g⟩;have tl:=g.le;have tp:=g.pos;simp only[evz,Nat.reduceLT];refine q8z hc (by omega) fun b=>?_;simp only[evz,Nat.reduceLT];cases b with
 |false=>simp only[evz,Nat.reduceLT,Bool.not_false];exact leaf t _ (by omega) (by omega)
 |true=>
  simp only[evz,Nat.reduceLT,Bool.not_true];refine qay hc (by omega) fun v h1 h2=>?_;simp only[evz,Nat.reduceLT];split
  ·rw[q2y (by omega),show(t.length:Int)-1=((t.length-1:Nat):Int) by omega];have z1:(0:Int)<=((t.length-1:Nat):Int):=by omega
   have z2:((t.length-1:Nat):Int)<=(t.length:Int):=by omega
   simp only[evz,Nat.reduceLT,z1,z2,Bool.and_self];rw[q9a t 1 _ rfl];exact leaf _ _ (by omega) (by rw[gAF];omega)
  split
  ·rw[q1o (q41 (by rw[q0m];simp only[q3o];omega)),q2w];exact leaf _ _ (by omega) (by simp;omega)
  split
  ·refine qay hc (by omega) fun x k1 k2=>?_;obtain⟨i,rfl⟩:∃i:Nat,x=i:=⟨x.toNat,by omega⟩;have hi:i<t.length:=by have:=k2 (by omega);omega
   simp only[evz,Nat.reduceLT];refine qe9 hc [(l.length:Int),-13,-12] rfl (by simp) (by omega) fun y hy=>?_;have z:i*1+1<=t.length*1:=by omega
   simp only[evz,Nat.reduceLT,hi,qag,q3o,z,qaa hi];exact leaf _ _ (by omega) (by rw[List.length_set];omega)
  refine q7i (σ:=Nat×Int×List Int) (S:=fun m s=>q1a.at1 30 m (q1a.st1 (s.1:Nat) (cells code) s.2.1 (cells s.2.2))) (fun s=>s.1<=25/\s.2.2.length=s.1/\p<=s.2.1/\s.2.1=p1+1+1+2*(s.1:Int)) (fun s=>25-s.1) (fun m s hs=>?_) _ (0,p1+1+1,[]) ⟨by simp,rfl,by simp only;omega,by simp⟩ (by simp);obtain⟨k,q,o⟩:=s;obtain⟨q1,q2,q3,q4⟩:=hs;simp only at q1 q2 q3 q4 ⊢;obtain⟨x,hx,e⟩:=q3q hc q [24,25] (ts:=[.int .i64 24,.int .i64 25]) rfl (by simp) (by omega);have hx':x<=25:=by simp only[gK,List.not_mem_nil,or_false]at hx;omega
  by_cases hk:(k:Int)<x
  ·right;obtain⟨y,hy,e'⟩:=q3q hc (q+1) [1,2,0] (ts:=[.int .i64 1,.int .i64 2,.int .i64 0]) rfl (by simp) (by omega);refine⟨(k+1,q+1+1,o++[y]),?_,⟨by simp only;omega,by simp[q2],by simp only;omega,by simp only;omega⟩,by simp only;omega⟩;simp only[q1a.next1,q1a.round1,evz,Nat.reduceLT,e,hk,e'];rw[q1o (q41 (by rw[q0m];simp only[q3o];omega)),q0k (by omega),q2w]
  ·left;simp only[q1a.next1,q1a.round1,evz,Nat.reduceLT,e,hk];exact leaf o _ (by omega) (by omega)
end
set_option maxHeartbeats 1000000
theorem q26(l:List Symbol)(hl:l.length<=1000)(s:ByteArray):∃n:Int,Call F.q26 [.rref [slc l] 0,.str s] (.int .i64 n):=by
 suffices h:∃r,q1j prog A H LIM (l.length+1) F.q26 [.rref [slc l] 0,.str s]=r/\∃n:Int,r=some (.int .i64 n,[]) by
  obtain⟨_,e,n,rfl⟩:=h;exact⟨n,q0q rfl _ e⟩
 refine⟨_,q26.ev _ _ _,?_⟩;refine q7i (Q:=fun r=>∃n:Int,r=some (.int .i64 n,[])) (σ:=Nat) (S:=fun m k=>q26.at0 (l.length+1) m (q26.st0 (cells l) s (k:Nat))) (fun k=>k<=l.length) (fun k=>l.length-k) (fun m k hk=>?_) _ 0 (by omega) (by omega);by_cases h:k<l.length
 ·have g0:=get0 (l:=l) (k:=2) (i:=k) rfl;have ek:l[k]?=some l[k]:=gA h;by_cases e:l[k].name=s
  ·left;exact⟨(k:Int),by simp only[q26.next0,q26.round0,evz,Nat.reduceLT,h,g0,ek,e,beq_self_eq_true,q33]⟩
  ·right;refine⟨k+1,?_,by omega,by omega⟩;simp only[q26.next0,q26.round0,evz,Nat.reduceLT,h,g0,ek,e,q33];rw[q0k (by omega)]
 ·left;exact⟨-1,by simp only[q26.next0,q26.round0,evz,Nat.reduceLT,h]⟩
def CutQ(s:ByteArray)(r:R):Prop:=∃xs:List ByteArray,r=some (.sl 1 (xs.map .str),[])/\xs.length<=s.size+1/\∀x∈xs,x.size<=s.size
theorem q2k(s:ByteArray)(hs:s.size<=1000)(c:Int):∃xs:List ByteArray,Call F.q2k [.str s,.int .u8 c] (.sl 1 (xs.map .str))/\xs.length<=s.size+1/\∀x∈xs,x.size<=s.size:=by
 suffices h:∃r,q1j prog A H LIM (s.size+2) F.q2k [.str s,.int .u8 c]=r/\CutQ s r by
  obtain⟨_,e,n,rfl,h⟩:=h;exact⟨n,q0q rfl _ e,h⟩
 refine⟨_,q2k.ev _ _ _,?_⟩;have z:([]:List T)=([]:List ByteArray).map .str:=rfl;rw[z];refine q7i (Q:=CutQ s) (σ:=Nat×Nat×List ByteArray) (S:=fun m q=>q2k.at0 (s.size+2) m (q2k.st0 s c (q.1:Nat) (q.2.1:Nat) (q.2.2.map .str))) (fun q=>q.1<=q.2.1/\q.2.1<=s.size+1/\q.2.2.length<=q.2.1/\∀x∈q.2.2,x.size<=s.size) (fun q=>s.size+1-q.2.1) (fun m q hq=>?_) _ (0,0,[]) ⟨by simp,by simp,by simp,by simp⟩ (by simp only;omega);obtain⟨a,k,xs⟩:=q;obtain⟨h1,h2,h3,h4⟩:=hq;simp only at h1 h2 h3 h4 ⊢;by_cases hk:k<=s.size
 case neg=>
  left;have hk':¬(k:Int)<=(s.size:Int):=by omega
  exact⟨xs,by simp only[q2k.next0,q2k.round0,evz,Nat.reduceLT,hk'],by omega,h4⟩
 right;have hk':(k:Int)<=(s.size:Int):=by omega
 have ha':(0:Int)<=(a:Int):=by omega
 have hak:(a:Int)<=(k:Int):=by omega
 have put:∀x∈xs++[s.extract a k],x.size<=s.size:=fun x hx=>by
  rcases gO.1 hx with h|h
  ·exact h4 x h
  ·rw[gD.1 h,ByteArray.size_extract];omega
 have cell:(xs.map T.str)++[.str (s.extract a k)]=(xs++[s.extract a k]).map .str:=by rw[List.map_append];rfl
 have blen:Nat.ble (((xs.map T.str).length+1)*16) (140737488355328*1)=true:=q41 (by rw[gAG];omega);by_cases e:k=s.size
 ·refine⟨(k+1,k+1,xs++[s.extract a k]),?_,⟨by simp only;omega,by simp only;omega,by simp;omega,put⟩,by simp only;omega⟩;have e':((k:Nat):Int)=(s.size:Int):=by omega
  simp only[q2k.next0,q2k.round0,evz,Nat.reduceLT,hk',e',beq_self_eq_true,ha',hak,Int.le_refl,decide_true,Bool.and_self,<- cell];rw[<- e]at *;simp only[evz,Nat.reduceLT,hak,decide_true,Bool.and_self,blen];rw[q0k (by omega)]
 ·have e':¬((k:Nat):Int)=(s.size:Int):=by omega
  have hlt:k<s.size:=by omega
  by_cases eb:((s.data.getD k 0).toNat:Int)=c
  ·refine⟨(k+1,k+1,xs++[s.extract a k]),?_,⟨by simp only;omega,by simp only;omega,by simp;omega,put⟩,by simp only;omega⟩;simp only[q2k.next0,q2k.round0,evz,Nat.reduceLT,hk',e',hlt,eb,ha',hak,decide_true,Bool.and_self,blen,<- cell];rw[q0k (by omega)]
  ·refine⟨(a,k+1,xs),?_,⟨by simp only;omega,by simp only;omega,by simp only;omega,h4⟩,by simp only;omega⟩;simp only[q2k.next0,q2k.round0,evz,Nat.reduceLT,hk',e',hlt,eb];rw[q0k (by omega)]
def qei(s:ByteArray)(r:R):Prop:=∃(t:List Int)(b:Bool),r=some (.tup [slc t,.bool b],[])/\t.length<=s.size
theorem qnr{l:List Symbol}(hl:l.length<=1000)(s:ByteArray)(hs:s.size<=1000)(N:Nat)(L:St->R)(a:Nat)(t:List Int)(ht:t.length<=a)(k0:Nat)(ha:a<=k0)
 (K:∀(e:Nat)(n:Int),k0<=e->e<=s.size->qei s (L (q0l.st0 (cells l) s (e:Nat) (cells (t++[n]))))):∀(d k f:Nat),k+d=s.size->k0<=k->d<f->
 qei s (q0l.at3 N L f (q0l.st3 (cells l) s (a:Nat) (k:Nat) (cells t))):=by
 intro d;induction d with
 |zero=>
  intro k f hk h0 hf;obtain⟨f,rfl⟩:∃g,f=g+1:=⟨f-1,by omega⟩;have n1:¬(k:Int)<(s.size:Int):=by omega
  have c1:(0:Int)<=(a:Int):=by omega
  have c2:(a:Int)<=(k:Int):=by omega
  have c3:(k:Int)<=(s.size:Int):=by omega
  obtain⟨n,en⟩:=q26 l hl (s.extract a k);have blen:Nat.ble (((cells t).length+1)*8) (140737488355328*1)=true:=q41 (by rw[q0m,q3o];omega);simp only[q0l.next3,q0l.round3,n1,c1,c2,c3,decide_true,decide_false,Bool.and_self,cond_true,cond_false,gR,en.eq,evz,Nat.reduceLT];by_cases hn:n<0
  ·simp only[hn,evz,Nat.reduceLT];exact⟨[],false,rfl,by simp⟩
  ·simp only[hn,evz,Nat.reduceLT,blen];rw[q2w];exact K k n h0 (by omega)
 |succ d ih=>
  intro k f hk h0 hf;obtain⟨f,rfl⟩:∃g,f=g+1:=⟨f-1,by omega⟩;have n1:(k:Int)<(s.size:Int):=by omega
  have n2:k<s.size:=by omega
  have c1:(0:Int)<=(a:Int):=by omega
  have c2:(a:Int)<=(k:Int):=by omega
  have c3:(k:Int)<=(s.size:Int):=by omega
  obtain⟨n,en⟩:=q26 l hl (s.extract a k);have blen:Nat.ble (((cells t).length+1)*8) (140737488355328*1)=true:=q41 (by rw[q0m,q3o];omega)
  have stop:qei s (if n<0 then some (.tup [.sl 1 [],.bool false],[])else L (q0l.st0 (cells l) s (k:Nat) (cells t++[.int .i64 n]))):=by
   by_cases hn:n<0
   ·rw[if_pos hn];exact⟨[],false,rfl,by simp⟩
   ·rw[if_neg hn,q2w];exact K k n h0 (by omega)
  have ih:=ih (k+1) f (by omega) (by omega) (by omega);simp only[q0l.next3,q0l.round3,n1,n2,c1,c2,c3,q61,decide_true,decide_false,Bool.and_self,cond_true,cond_false,gR,en.eq,evz,Nat.reduceLT,blen,q0k (by omega:k<9223372036854775807)];split
  ·split
   ·exact ih
   ·exact stop
  ·exact stop
theorem q0l{l:List Symbol}(hl:l.length<=1000)(s:ByteArray)(hs:s.size<=1000):∃(t:List Int)(b:Bool),Call F.q0l [.rref [slc l] 0,.str s] (.tup [slc t,.bool b])/\t.length<=s.size:=by
 suffices h:∃r,q1j prog A H LIM (s.size+1) F.q0l [.rref [slc l] 0,.str s]=r/\qei s r by
  obtain⟨_,e,t,b,rfl,h⟩:=h;exact⟨t,b,q0q rfl _ e,h⟩
 refine⟨_,q0l.ev _ _ _,?_⟩
 have key:∀(d k f:Nat)(t:List Int),k+d=s.size->t.length<=k->d<f->qei s (q0l.at0 (s.size+1) f (q0l.st0 (cells l) s (k:Nat) (cells t))):=by
  intro d;induction d using Nat.strongRecOn with
  |ind d ih=>
   intro k f t hk ht hf;obtain⟨f,rfl⟩:∃g,f=g+1:=⟨f-1,by omega⟩;by_cases hk0:k<s.size
   case neg=>
    have n1:¬(k:Int)<(s.size:Int):=by omega
    simp only[q0l.next0,q0l.round0,evz,Nat.reduceLT,n1];exact⟨t,true,rfl,by omega⟩
   have n1:(k:Int)<(s.size:Int):=by omega
   have next:qei s (q0l.at0 (s.size+1) f (q0l.st0 (cells l) s ((k+1:Nat):Int) (cells t))):=ih (d-1) (by omega) (k+1) f t (by omega) (by omega) (by omega)
   have put:∀n:Int,qei s (q0l.at0 (s.size+1) f (q0l.st0 (cells l) s ((k+1:Nat):Int) (cells t++[.int .i64 n]))):=fun n=>by
    rw[q2w];exact ih (d-1) (by omega) (k+1) f _ (by omega) (by simp;omega) (by omega)
   have bad:qei s (some (.tup [.sl 1 [],.bool false],[])):=⟨[],false,rfl,by simp⟩;have blen:Nat.ble (((cells t).length+1)*8) (140737488355328*1)=true:=q41 (by rw[q0m,q3o];omega)
   have word:((s.data.getD k 0).toNat:Int)>=97->((s.data.getD k 0).toNat:Int)<=122->qei s (q0l.at3 (s.size+1) (q0l.at0 (s.size+1) f) (s.size+1) (q0l.st3 (cells l) s (k:Nat) (k:Nat) (cells t))):=fun w1 w2=>by
    have:=qnr hl s hs (s.size+1) (q0l.at0 (s.size+1) f) k t ht (k+1) (by omega) (fun e n h1 h2=>ih (s.size-e) (by omega) e f _ (by omega) (by simp;omega) (by omega)) (d-1) (k+1) s.size (by omega) (by omega) (by omega);simp only[q0l.next3,q0l.round3,n1,hk0,q61,decide_true,cond_true,gR,w1,w2,q0k (by omega:k<9223372036854775807)];exact this
   simp only[q0l.next0,q0l.round0,n1,hk0,q61,decide_true,cond_true,gR,evz,Nat.reduceLT,blen,q0k (by omega:k<9223372036854775807)]
   repeat' split
   all_goals first|with_reducible exact next|with_reducible exact bad|with_reducible exact put _|(with_reducible apply word <;> assumption)
 exact key s.size 0 (s.size+1) [] (by omega) (by simp) (by omega)
section
variable {l:List Symbol}(ok:SigOk ⟨l⟩)
include ok
theorem qky{t:List Int}(ht:TermOk l t){i:Nat}(hi:i<t.length)(h0:0<=t[i]):∃k:Nat,t[i]=k/\∃h:k<l.length,ar l t[i]=l[k].arity.toNat/\0<=l[k].arity/\l[k].arity<=2/\l[k].name.size<=3:=by
 have hn:=ht.node _ (gG hi);unfold q5x inR at hn;simp only[Bool.or_eq_true,gC,gS]at hn;have hk:t[i].toNat<l.length:=by omega
 refine⟨t[i].toNat,by omega,hk,?_,(ok.arity _ (gG hk)).1,(ok.arity _ (gG hk)).2,qjr (ok.name _ (gG hk))⟩;unfold ar;rw[if_neg (by omega),gA hk];rfl
def qyl(c:Nat)(r:R):Prop:=∃s:ByteArray,r=some (.str s,[])/\s.size<=c
theorem qld{t:List Int}(ht:TermOk l t):∀(x:Tm)(i:Nat),At l t i x->qyl (6*x.flat.length) (LIM F.q2e [.rref [slc l] 0,slc t,.int .i64 i]):=by
 have lb:(ByteArray.mk #[40]).size=1:=rfl;have rb:(ByteArray.mk #[41]).size=1:=rfl;have cm:(ByteArray.mk #[44]).size=1:=rfl;have hle:=ht.le;intro x;induction x with
 |v n=>
  intro i h;obtain⟨h1,h2,_,_⟩:=h.facts;have hn:n<0:=h.1;have e:t[i]=n:=by rw[gI,gA h1]at h2;exact h2
  have ei:t[i]?=some n:=by rw[gA h1,e]
  have ev:=q2e.ev 0 (cells l) (cells t) i;simp only[evz,Nat.reduceLT,h1,ei,q1r,hn]at ev;refine⟨_,qg1 rfl 0 ev,?_⟩;show ByteArray.size (ByteArray.push ByteArray.empty _)<=6*[n].length;rw[ByteArray.size_push];show 0+1<=6*1;decide
 |k n=>
  intro i h;obtain⟨h1,h2,_,_⟩:=h.facts;have hn:0<=n/\ar l n=0:=h.1;have e:t[i]=n:=by rw[gI,gA h1]at h2;exact h2
  subst e;obtain⟨q,eq,hq,q1,q2,q3,q4⟩:=qky ok ht h1 hn.1;have ei:t[i]?=some (q:Int):=by rw[gA h1,eq]
  have e0:l[q].arity=0:=by omega
  have hn':¬(q:Int)<0:=by omega
  have ek:l[q]?=some l[q]:=gA hq;refine⟨l[q].name,qg1 rfl 0 ((q2e.ev _ _ _ _).trans ?_),by show _<=6*1;omega⟩;simp only[evz,Nat.reduceLT,h1,ei,q1r,hn',hq,get0 (l:=l) (k:=2) rfl,get1 (l:=l) (k:=2) rfl,ek,q33,e0]
 |u n y ihy=>
  intro i h;obtain⟨h1,h2,_,_⟩:=h.facts;have hn:0<=n/\ar l n=1:=⟨h.1.1,h.1.2.1⟩;have e:t[i]=n:=by rw[gI,gA h1]at h2;exact h2
  have hy:At l t (i+1) y:=by
   obtain⟨hx,r,hr⟩:=h;exact At.next hx.2.2 hr
  obtain⟨y1,_,y3,_⟩:=hy.facts
  have yl:y.flat.length<=24:=by
   have:=(q3n ht y1).2.1;omega
  subst e;obtain⟨q,eq,hq,q1,q2,q3,q4⟩:=qky ok ht h1 hn.1;have ei:t[i]?=some (q:Int):=by rw[gA h1,eq]
  have e0:l[q].arity=1:=by omega
  have hn':¬(q:Int)<0:=by omega
  have ek:l[q]?=some l[q]:=gA hq;obtain⟨s,es,hs⟩:=ihy (i+1) hy;have b1:l[q].name.size+1<=9223372036854775807:=by omega
  have ee:=(q9c ok ht y1).eq;refine⟨(l[q].name++ByteArray.mk #[40])++s++ByteArray.mk #[41],qg1 rfl 2 ((q2e.ev _ _ _ _).trans ?_),?_⟩
  ·simp only[evz,Nat.reduceLT,h1,ei,q1r,hn',hq,get0 (l:=l) (k:=2) rfl,get1 (l:=l) (k:=2) rfl,ek,q33,e0,lb,b1,q0k (by omega:i<9223372036854775807)];have c1:(l[q].name++ByteArray.mk #[40]).size+s.size<=9223372036854775807:=by rw[gY,lb];omega
   have c2:((l[q].name++ByteArray.mk #[40])++s).size+1<=9223372036854775807:=by rw[gY,gY,lb];omega
   simp only[q2e.next0,q2e.round0,evz,Nat.reduceLT,es,c1,ee,rb,c2];rfl
  ·rw[gY,gY,gY,lb,rb];show _<=6*(t[i]::y.flat).length;rw[gAB];omega
 |b n y z ihy ihz=>
  intro i h;obtain⟨h1,h2,_,_⟩:=h.facts;have hn:0<=n/\ar l n=2:=⟨h.1.1,h.1.2.1⟩;have e:t[i]=n:=by rw[gI,gA h1]at h2;exact h2
  have hy:At l t (i+1) y:=by
   obtain⟨hx,r,hr⟩:=h;exact At.next (n:=n) hx.2.2.1 (r:=z.flat++r) (by rw[hr];simp[Tm.flat])
  obtain⟨y1,_,y3,_⟩:=hy.facts
  have hz:At l t (q3v l t (i+1)) z:=by
   obtain⟨hx,r,hr⟩:=h;refine⟨hx.2.2.2,r,?_⟩;rw[y3,<- List.drop_drop,<- List.drop_drop,hr];simp[Tm.flat]
  obtain⟨z1,_,z3,_⟩:=hz.facts;have el:=(q3n ht z1).2.1;have yl:y.flat.length<=24:=by omega
  have zl:z.flat.length<=24:=by omega
  subst e;obtain⟨q,eq,hq,q1,q2,q3,q4⟩:=qky ok ht h1 hn.1;have ei:t[i]?=some (q:Int):=by rw[gA h1,eq]
  have e0:l[q].arity=2:=by omega
  have hn':¬(q:Int)<0:=by omega
  have ek:l[q]?=some l[q]:=gA hq;obtain⟨s,es,hs⟩:=ihy (i+1) hy;obtain⟨s2,es2,hs2⟩:=ihz _ hz;have b1:l[q].name.size+1<=9223372036854775807:=by omega
  have ee:=(q9c ok ht y1).eq;have ee2:=(q9c ok ht z1).eq;refine⟨(((l[q].name++ByteArray.mk #[40])++s)++ByteArray.mk #[44])++s2++ByteArray.mk #[41],qg1 rfl 3 ((q2e.ev _ _ _ _).trans ?_),?_⟩
  ·simp only[evz,Nat.reduceLT,h1,ei,q1r,hn',hq,get0 (l:=l) (k:=2) rfl,get1 (l:=l) (k:=2) rfl,ek,q33,e0,lb,b1,q0k (by omega:i<9223372036854775807)];have c1:(l[q].name++ByteArray.mk #[40]).size+s.size<=9223372036854775807:=by rw[gY,lb];omega
   have c2:((l[q].name++ByteArray.mk #[40])++s).size+1<=9223372036854775807:=by rw[gY,gY,lb];omega
   have c3:(((l[q].name++ByteArray.mk #[40])++s)++ByteArray.mk #[44]).size+s2.size<=9223372036854775807:=by rw[gY,gY,gY,lb,cm];omega
   have c4:((((l[q].name++ByteArray.mk #[40])++s)++ByteArray.mk #[44])++s2).size+1<=9223372036854775807:=by rw[gY,gY,gY,gY,lb,cm];omega
   simp only[q2e.next0,q2e.round0,evz,Nat.reduceLT,es,c1,ee,rb,c2,es2,ee2,cm,c3,c4];rfl
  ·rw[gY,gY,gY,gY,gY,lb,rb,cm];show _<=6*(t[i]::(y.flat++z.flat)).length;rw[gAB,gM];omega
theorem q7a(s:ByteArray)(hs:s.size<=1000):∃t:List Int,Call F.q7a [.rref [slc l] 0,.str s] (slc t)/\t.length<=168:=by
 have hle:=ok.le;simp only at hle
 suffices h:∃r,q1j prog A H LIM 0 F.q7a [.rref [slc l] 0,.str s]=r/\∃t:List Int,r=some (slc t,[])/\t.length<=168 by
  obtain⟨_,e,t,rfl,h⟩:=h;exact⟨t,q0q rfl _ e,h⟩
 refine⟨_,q7a.ev _ _ _,?_⟩;by_cases hb:(s.size:Int)>168
 ·simp only[evz,Nat.reduceLT,hb];exact⟨[],rfl,by simp⟩
 obtain⟨t,b,en,ht⟩:=q0l (l:=l) (by omega) s hs;simp only[evz,Nat.reduceLT,hb,en.eq,(q16 l ok t (by omega)).eq];cases b with
 |false=>exact⟨[],rfl,by simp⟩
 |true=>
  simp only[evz,Nat.reduceLT,Bool.not_true];by_cases h0:q3t l t=0
  ·have ok':=(q5w l t).1 h0;obtain⟨x,hx,_⟩:=TermOk.atZero ok ok';obtain⟨w,ew,_⟩:=qld ok ok' x 0 hx;have ew:LIM F.q2e [.rref [slc l] 0,slc t,.int .i64 0]=some (.str w,[]):=ew;simp only[h0,evz,Nat.reduceLT,ew,ne_eq,gW];split
   ·exact⟨t,rfl,by omega⟩
   ·exact⟨[],rfl,by simp⟩
  ·simp only[h0,evz,Nat.reduceLT,ne_eq,gX];exact⟨[],rfl,by simp⟩
theorem q52(s:ByteArray)(hs:s.size<=1000):∃(c:Int)(a b:List Int),Call F.q52 [.agg [slc l],.str s] (.agg [.int .i64 c,slc a,slc b])/\(c=0->EqOk l ⟨a,b⟩):=by
 have hle:=ok.le;simp only at hle;let Q:R->Prop:=fun r=>∃(c:Int)(a b:List Int),r=some (.agg [.int .i64 c,slc a,slc b],[])/\(c=0->EqOk l ⟨a,b⟩)
 suffices h:∃r,q1j prog A H LIM 0 F.q52 [.agg [slc l],.str s]=r/\Q r by
  obtain⟨_,e,c,a,b,rfl,h⟩:=h;exact⟨c,a,b,q0q rfl _ e,h⟩
 refine⟨_,q52.ev _ _ _,?_⟩;have bad:Q (some (.agg [.int .i64 5,.sl 1 [],.sl 1 []],[])):=⟨5,[],[],rfl,by omega⟩;obtain⟨xs,ex,x1,x2⟩:=q2k s hs 61;have es:=(q01 l (by omega)).eq;rw[(qa3 _).2 ok]at es;simp only[evz,Nat.reduceLT,es,ex.eq,gAG];by_cases hb:(s.size:Int)>337
 ·simp only[hb,evz,Nat.reduceLT];exact bad
 simp only[hb,evz,Nat.reduceLT]
 match xs,x2 with
 |[x,y],x2=>
  have hx:=x2 x (by simp);have hy:=x2 y (by simp);obtain⟨a,ea,ha⟩:=q7a ok x (by omega);obtain⟨b,eb,hb⟩:=q7a ok y (by omega);have ef:LIM F.q6e [.rref [slc l] 0,.rref [.sl 1 (cells a),.sl 1 (cells b)] 0]=_:=(q6e l ok a b (by omega) (by omega)).eq;by_cases h0:q46 l ⟨a,b⟩=0
  ·have r:Q (some (.agg [.int .i64 0,.sl 1 (cells a),.sl 1 (cells b)],[])):=⟨0,a,b,rfl,fun _=>qkz.1 h0⟩;simpa[ea.eq,eb.eq,ef,h0,inB]using r
  ·simpa[ea.eq,eb.eq,ef,h0,inB]using bad
 |[],_=>simpa using bad
 |[x],_=>simpa using bad
 |x::y::z::r,_=>
  have hne:¬((r.length:Int)+1+1+1=2):=by omega
  simpa[hne]using bad
end
set_option maxHeartbeats 2000000
set_option maxRecDepth 10000
theorem Grown.eq{l:List Symbol}{m n:Nat}{v w:Int}{a b:List Int}(ha:Grown l m v a)(hb:Grown l n w b)(h1:m<=24)(h2:n<=24)(h3:v<=6)(h4:w<=6):EqOk l ⟨a,b⟩:=
 ⟨ha.ok h1 (by omega),hb.ok h2 (by omega),fun n hn=>by rcases ha.node n hn with h|h <;> omega,fun n hn=>by rcases hb.node n hn with h|h <;> omega⟩
theorem q5q(l:List Symbol)(hs:l.length<=4294967296)(t:List Int)(ht:t.length<=4294967296):Call F.q5q [.agg [slc l],slc t] (.int .i64 (q6j ⟨l⟩ t)):=by
 refine q0q rfl 0 ((q5q.ev _ _ _).trans ?_);simp only[evz,Nat.reduceLT,(q01 l hs).eq,q6j];by_cases h:q3y ⟨l⟩=0
 ·simp only[h,evz,Nat.reduceLT,ne_eq,gW,(q16 l (q7z h) t ht).eq]
 ·simp only[h,evz,Nat.reduceLT,ne_eq,gX]
section
variable {code:List UInt8}(hc:code.length<=2097152)
include hc
theorem q2c{l:List Symbol}(ok:SigOk ⟨l⟩)(p:Int)(hp:0<=p/\p<=1099510000000) :
 Drawn code p 6100 (fun x=>∃a b:List Int,x=.agg [slc a,slc b]/\EqOk l ⟨a,b⟩) (LIM F.q2c [.rref [slc code,.int .i64 p] 0,.rref [slc l] 0]):=by
 refine q91 rfl 20 ?_;rw[show q1j prog A H LIM 20 F.q2c [.rref [slc code,.int .i64 p] 0,.rref [slc l] 0]=_ from q2c.ev _ _ _ _];refine qay hc (by omega) fun v h1 h2=>?_;have h2:=h2 (by omega);obtain⟨v,rfl⟩:∃n:Nat,v=n:=⟨v.toNat,by omega⟩;simp only[evz,Nat.reduceLT];generalize hX:([.str _,.str _,.str _,.str _,.str _,.str _,.str _,.str _,.str _,.str _,.str _,.str _,.str _,.str _,.str _,.str _,.str _,.str _]:List T)=X;have hlen:X.length=18:=by rw[<- hX];rfl
 have hX:∃Y:List ByteArray,X=Y.map .str/\∀y∈Y,y.size<=1000:=by
  subst hX;refine⟨[_,_,_,_,_,_,_,_,_,_,_,_,_,_,_,_,_,_],rfl,?_⟩;intro y hy;simp only[gK,List.not_mem_nil,or_false]at hy;rcases hy with rfl|rfl|rfl|rfl|rfl|rfl|rfl|rfl|rfl|rfl|rfl|rfl|rfl|rfl|rfl|rfl|rfl|rfl <;> decide
 obtain⟨Y,rfl,hY⟩:=hX;rw[gAG]at hlen;refine q7i (σ:=Nat) (S:=fun m k=>q2c.at0 20 m (q2c.st0 (cells l) 18 (v:Nat) (k:Nat) (cells code) (p+1) (Y.map .str))) (fun k=>k<=18) (fun k=>18-k) (fun m k hk=>?_) _ 0 (by omega) (by omega);by_cases h:k<18
 ·have hi:(v+k) % 18<Y.length:=by omega
  have w:IntKind.wrap .i64 (((v:Nat):Int)+(k:Nat))=((v+k:Nat):Int):=by rw[q2y (by omega)];omega
  have w2:Int.tmod ((v+k:Nat):Int) 18=(((v+k) % 18:Nat):Int):=by rw[Int.tmod_eq_emod_of_nonneg (by omega)];omega
  have hk':((k:Nat):Int)<18:=by omega
  have ei:Y[(v+k) % 18]?=some Y[(v+k) % 18]:=gA hi;obtain⟨c,a,b,er,hr⟩:=q52 ok Y[(v+k) % 18] (hY _ (gG hi));by_cases h0:c=0
  ·left;subst h0;simp only[q2c.next0,q2c.round0,evz,Nat.reduceLT,hk',w,w2,q61,hi,gAG,gAC,ei,Option.map_some,Option.bind_some,gR,Nat.mul_one,Nat.div_one,er.eq,show ¬(18:Int)=0 by decide];exact q5t (by omega) ⟨a,b,rfl,hr rfl⟩
  ·right;refine⟨k+1,?_,by omega,by omega⟩;simp only[q2c.next0,q2c.round0,evz,Nat.reduceLT,hk',w,w2,q61,hi,gAG,gAC,ei,Option.map_some,Option.bind_some,gR,Nat.mul_one,Nat.div_one,er.eq,h0,show ¬(18:Int)=0 by decide];rw[q0k (by omega)]
 ·left;have hk':¬((k:Nat):Int)<18:=by omega
  simp only[q2c.next0,q2c.round0,evz,Nat.reduceLT,hk'];refine q78 (q0f hc ok (p+1) 4 2 (by omega) (by omega) (by omega)) ?_;rintro _ p1 a1 b1 ⟨a,rfl,ha⟩;simp only[evz,Nat.reduceLT];refine q78 (q0f hc ok p1 2 2 (by omega) (by omega) (by omega)) ?_;rintro _ p2 a2 b2 ⟨b,rfl,hb⟩;simp only[evz,Nat.reduceLT];exact q5t (by omega) ⟨a,b,rfl,ha.eq hb (by decide) (by decide) (by decide) (by decide)⟩
theorem q76{l:List Symbol}(ok:SigOk ⟨l⟩)(p:Int)(hp:0<=p/\p<=1099500000000) :
 Drawn code p 6200 (fun x=>∃a b:List Int,x=.agg [slc a,slc b]/\EqOk l ⟨a,b⟩) (LIM F.q76 [.rref [slc code,.int .i64 p] 0,.rref [slc l] 0]):=by
 refine q91 rfl 0 ?_;rw[show q1j prog A H LIM 0 F.q76 [.rref [slc code,.int .i64 p] 0,.rref [slc l] 0]=_ from q76.ev _ _ _ _];refine q8z hc (by omega) fun b=>?_;simp only[evz,Nat.reduceLT];cases b with
 |true=>
  simp only[evz,Nat.reduceLT];refine qe9 hc [4,7,9] rfl (by simp) (by omega) fun v hv=>?_
  have hv':4<=v/\v<=9:=by
   simp only[gK,List.not_mem_nil,or_false]at hv;omega
  simp only[evz,Nat.reduceLT];refine q78 (q0f hc ok _ v 3 (by omega) (by omega) (by omega)) ?_;rintro _ p1 a1 b1 ⟨a,rfl,ha⟩;simp only[evz,Nat.reduceLT];refine qe9 hc [1,3,5] rfl (by simp) (by omega) fun w hw=>?_
  have hw':1<=w/\w<=5:=by
   simp only[gK,List.not_mem_nil,or_false]at hw;omega
  simp only[evz,Nat.reduceLT];refine q78 (q0f hc ok _ w 3 (by omega) (by omega) (by omega)) ?_;rintro _ p2 a2 b2 ⟨b,rfl,hb⟩;simp only[evz,Nat.reduceLT];exact q5t (by omega) ⟨a,b,rfl,ha.eq hb (by omega) (by omega) (by decide) (by decide)⟩
 |false=>
  simp only[evz,Nat.reduceLT];refine q78 (q2c hc ok _ (by omega)) ?_;rintro _ p1 a1 b1 ⟨a,b,rfl,h⟩;simp only[evz,Nat.reduceLT];exact q5t (by omega) ⟨a,b,rfl,h⟩
theorem q4k{l:List Symbol}(hl:l.length<=1000)(p:Int)(hp:0<=p/\p<=1099490000000) :
 Drawn code p 6500 (fun x=>∃a b:List Int,x=.agg [slc a,slc b]/\a.length<=1001/\b.length<=1001) (LIM F.q4k [.rref [slc code,.int .i64 p] 0,.rref [slc l] 0]):=by
 refine q91 rfl 0 ?_;rw[show q1j prog A H LIM 0 F.q4k [.rref [slc code,.int .i64 p] 0,.rref [slc l] 0]=_ from q4k.ev _ _ _ _];simp only[evz,Nat.reduceLT,(q01 l (by omega)).eq];by_cases h0:q3y ⟨l⟩=0
 case neg=>
  simp only[h0,evz,Nat.reduceLT,ne_eq,gX];exact q5t (by omega) ⟨[0],[0],rfl,by simp,by simp⟩
 have ok:=q7z h0;simp only[h0,evz,Nat.reduceLT,ne_eq,gW];refine q8z hc (by omega) fun b=>?_;simp only[evz,Nat.reduceLT];cases b with
 |true=>
  simp only[evz,Nat.reduceLT];refine q78 (q1a hc _ 9 7 l hl (by omega) (by omega) (by omega)) ?_;rintro _ p1 a1 b1 ⟨a,rfl,ha⟩;simp only[evz,Nat.reduceLT];refine q78 (q1a hc _ 5 12 l hl (by omega) (by omega) (by omega)) ?_;rintro _ p2 a2 b2 ⟨b,rfl,hb⟩;simp only[evz,Nat.reduceLT];exact q5t (by omega) ⟨a,b,rfl,ha,hb⟩
 |false=>
  simp only[evz,Nat.reduceLT];refine q78 (q76 hc ok _ (by omega)) ?_;rintro _ p1 a1 b1 ⟨a,b,rfl,h⟩;simp only[evz,Nat.reduceLT];have h1:=h.left.le;have h2:=h.right.le;simp only at h1 h2;exact q5t (by omega) ⟨a,b,rfl,by omega,by omega⟩
omit hc in
theorem q6d(l:List Symbol)(hl:l.length<=1000)(t:List Int)(ht:t.length<=2000)(n:Int)(u:List Int)(hu:u.length<=1000000):∃(c:Int)(r:List Int),Call F.q6d [.agg [slc l],slc t,.int .i64 n,slc u] (.agg [.int .i64 c,slc r])/\r.length<=24:=by
 suffices h:∃r,q1j prog A H LIM 0 F.q6d [.agg [slc l],slc t,.int .i64 n,slc u]=r/\∃(c:Int)(x:List Int),r=some (.agg [.int .i64 c,slc x],[])/\x.length<=24 by
  obtain⟨_,e,c,x,rfl,h⟩:=h;exact⟨c,x,q0q rfl _ e,h⟩
 have bad:∀c:Int,∃(c':Int)(x:List Int),(some (.agg [.int .i64 c,.sl 1 []],[]):R)=some (.agg [.int .i64 c',slc x],[])/\x.length<=24:=fun c=>⟨c,[],rfl,by simp⟩;refine⟨_,q6d.ev _ _ _ _ _,?_⟩;simp only[evz,Nat.reduceLT,(q5q l (by omega) t (by omega)).eq,(q72 t n (by omega)).eq];by_cases h1:q6j ⟨l⟩ t=0
 case neg=>simp only[h1,evz,Nat.reduceLT,ne_eq,gX];exact bad _
 have hs:q3y ⟨l⟩=0:=Classical.byContradiction fun hne=>by unfold q6j at h1;rw[if_pos hne]at h1;exact hne h1
 have ok:=q7z hs;have ht':TermOk l t:=(q5w l t).1 (by rw[q6j,if_neg (by simpa using hs)]at h1;exact h1);simp only[h1,evz,Nat.reduceLT,ne_eq,gW,(q16 l ok u (by omega)).eq];cases h2:inR n 0 (t.length-1)
 ·simp only[evz,Nat.reduceLT,Bool.not_false];exact bad _
 ·obtain⟨q,rfl⟩:∃q:Nat,n=q:=⟨n.toNat,by unfold inR at h2;simp only[gC,gS]at h2;omega⟩;have hq:q<t.length:=by unfold inR at h2;simp only[gC,gS]at h2;omega
  simp only[evz,Nat.reduceLT,Bool.not_true];by_cases h3:q3t l u=0
  ·simp only[h3,evz,Nat.reduceLT,ne_eq,gW,(q4v ok ht' hq u (by omega)).eq];split
   ·exact bad _
   ·exact⟨0,_,rfl,by omega⟩
  ·simp only[h3,evz,Nat.reduceLT,ne_eq,gX];exact bad _
end
set_option maxHeartbeats 2000000
set_option maxRecDepth 10000
structure BindS(vs:List Int)(ts:List (List Int)):Prop where
 vlen:vs.length<=12
 tlen:ts.length<=12
 size:∀t∈ts,t.length<=1001
section
variable {code:List UInt8}(hc:code.length<=2097152)
include hc
theorem q2a{l:List Symbol}(ok:SigOk ⟨l⟩)(p n:Int)(hn:0<=n/\n<=12)(hp:0<=p/\p<=1099490000000) :
 Drawn code p 40000 (fun x=>∃vs ts,x=.agg [slc vs,slc ts]/\BindS vs ts/\BindOk vs ts) (LIM F.q2a [.rref [slc code,.int .i64 p] 0,.rref [slc l] 0,.int .i64 n]):=by
 refine q91 rfl 20 ?_;rw[show q1j prog A H LIM 20 F.q2a [.rref [slc code,.int .i64 p] 0,.rref [slc l] 0,.int .i64 n]=_ from q2a.ev _ _ _ _ _];refine q7i (σ:=Int×Int×List Int×List (List Int)) (S:=fun m s=>q2a.at0 20 m (q2a.st0 (cells l) n s.1 (cells code) s.2.1 (cells s.2.2.1) (cells s.2.2.2))) (fun s=>0<=s.1/\s.1<=n/\p<=s.2.1/\s.2.1<=p+s.1*3003/\(s.2.2.1.length:Int)<=s.1/\s.2.2.1.length=s.2.2.2.length/\(∀v∈s.2.2.1,0<=v)/\∀t∈s.2.2.2,1<=t.length/\t.length<=1001) (fun s=>(n-s.1).toNat) (fun m s hs=>?_) _ (0,p,[],[]) ⟨by simp only;omega,by simp only;omega,by simp only;omega,by simp only;omega,by simp,by simp,by simp,by simp⟩ (by simp only;omega);obtain⟨k,q,vs,ts⟩:=s;obtain⟨h1,h2,h3,h4,h5,h6,h8,h7⟩:=hs;simp only at h1 h2 h3 h4 h5 h6 h8 h7 ⊢;by_cases hk:k<n
 case neg=>
  left;simp only[q2a.next0,q2a.round0,evz,Nat.reduceLT,hk];exact q5t (by omega) ⟨vs,ts,rfl,⟨by omega,by omega,fun t ht=>(h7 t ht).2⟩,⟨h6,by omega,h8,fun t ht=>⟨(h7 t ht).1,by have:=(h7 t ht).2;omega⟩⟩⟩
 right;have wk:IntKind.wrap .i64 (k+1)=k+1:=q2y (by omega);obtain⟨b,ec⟩:=q2z hc q 3 (by omega);cases b with
 |true=>
  refine⟨(k+1,q+1,vs,ts),?_,⟨by simp only;omega,by simp only;omega,by simp only;omega,by simp only;omega,by simp only;omega,h6,h8,h7⟩,by simp only;omega⟩;simp only[q2a.next0,q2a.round0,evz,Nat.reduceLT,hk,ec,wk,Bool.not_true]
 |false=>
  obtain⟨v,hv,ep⟩:=q3q hc (q+1) [1,3,4] (ts:=[.int .i64 1,.int .i64 3,.int .i64 4]) rfl (by simp) (by omega)
  have hv':1<=v/\v<=4:=by
   simp only[gK,List.not_mem_nil,or_false]at hv;omega
  obtain⟨_,q2,et,c1,c2,t,rfl,ht⟩:=q0f hc ok (q+1+1) v 4 (by omega) (by omega) (by omega);have htl:=ht.le;refine⟨(k+1,q2,vs++[k],ts++[t]),?_,⟨by simp only;omega,by simp only;omega,by simp only;omega,by simp only;omega,by simp;omega,by simp[h6],fun x hx=>?_,fun x hx=>?_⟩,by simp only;omega⟩
  ·simp only[q2a.next0,q2a.round0,evz,Nat.reduceLT,hk,ec,wk,Bool.not_false,ep,et];rw[q1o (q41 (by rw[q0m];simp only[q3o];omega)),q1o (q41 (by rw[q0m];simp only[qow];omega)),q84,q2w]
  ·rcases gO.1 hx with h|h
   ·exact h8 x h
   ·rw[gD.1 h];omega
  ·rcases gO.1 hx with h|h
   ·exact h7 x h
   ·rw[gD.1 h];exact⟨ht.pos,by omega⟩
omit hc in
theorem q88:∃b:UInt8,Call F.q88 [slc code] (.int .u8 b.toNat):=by
 by_cases h:code.length=0
 ·have h':((code.length:Nat):Int)=0:=by omega
  exact⟨0,q0q rfl 0 ((q88.ev _ _).trans (by simp only[evz,Nat.reduceLT,h',beq_self_eq_true];rfl))⟩
 ·have h0:0<code.length:=by omega
  have h':¬((code.length:Nat):Int)=0:=by omega
  have e0:inB 0 code.length=true:=(q61 0 _).trans (by simpa using h0)
  have g0:(cells code)[0]?=some (.int .u8 code[0].toNat):=by
   have:=get0 (l:=code) (k:=1) (i:=0) rfl;rw[Nat.zero_mul]at this;rw[this,gA h0];rfl
  exact⟨code[0],q0q rfl 0 ((q88.ev _ _).trans (by simp only[evz,Nat.reduceLT,h',e0,g0]))⟩
end
def two(e:Entry):Bool:=decide (e.kind=4)||decide (e.kind=5)
structure NumsOk(eqn enn:Nat)(e:Entry):Prop where
 kind:e.kind=1\/e.kind=2\/e.kind=3\/e.kind=4\/e.kind=5
 a0:0<=e.a
 given:e.kind=1->e.a.toNat<eqn
 other:e.kind≠1->e.a.toNat<enn
 b:e.kind=4\/e.kind=5->0<=e.b/\e.b.toNat<enn
 side:e.side=0\/(e.kind=4/\e.side=1)
 zero:e.kind≠4->e.kind≠5->e.b=0/\e.place=0
theorem qls:∀{s t:List Int},s.Nodup->s ⊆ t->s.length<=t.length
 |[],t,_,_=>Nat.zero_le _
 |x::s,t,h,hs=>by
  have hx:x∈t:=hs (by simp);rw[List.nodup_cons]at h
  have h1:s ⊆ t.erase x:=fun y hy=>by
   refine(List.mem_erase_of_ne (fun(e:y=x)=>h.1 (by rw[<- e];exact hy))).2 (hs (gF _ hy))
  have h2:=qls h.2 h1;rw[List.length_erase_of_mem hx]at h2;have:=List.length_pos_of_mem hx;rw[gAB];omega
theorem six{s:List Int}(h1:s.Nodup)(h2:∀m∈s,-6<=m/\m<0):s.length<=6:=by
 have:s ⊆ [-6,-5,-4,-3,-2,-1]:=fun m hm=>by
  have:=h2 m hm;simp only[gK,List.not_mem_nil,or_false];omega
 exact qls h1 this
theorem EqOk.small{l:List Symbol}{e:Equation}(h:EqOk l e):sm 1048576 e:=⟨⟨by have:=h.left.le;omega,fun _ _=>trivial⟩,⟨by have:=h.right.le;omega,fun _ _=>trivial⟩⟩
section
variable {l:List Symbol}(ok:SigOk ⟨l⟩)(hs:sm 1048576 (Signature.mk l)){eqs:List Equation}{ents:List Entry}(hq:∀x∈eqs,EqOk l x)(he:∀x∈ents,EqOk l (eqOf x))(hql:eqs.length<=12)(hel:ents.length<=500)
include ok hs hq he hql hel
end
section
variable {l:List Symbol}(ok:SigOk ⟨l⟩)(hs:sm 1048576 (Signature.mk l)){eqs:List Equation}(hq:∀x∈eqs,EqOk l x)(hql:eqs.length<=12){ents:List Entry}(hel:ents.length<=500)
include ok hs hq hql hel
end
section
variable {l:List Symbol}(ok:SigOk ⟨l⟩)(hs:sm 1048576 (Signature.mk l)){eqs:List Equation}(hqs:sm 1048576 eqs)(hq:∀x∈eqs,EqOk l x)(hql:eqs.length<=12){o:List Int}(ho:sm 1048576 o)
include ok hs hqs hq hql ho
end
set_option maxHeartbeats 2000000
set_option maxRecDepth 10000
def qkh(s:Signature)(o a b:List Int):Int:=if cmpF s o a b=0 then if cmpV s.symbols o a b=1\/cmpV s.symbols o a b=2 then 0 else 10 else cmpF s o a b
def qfc(s:Signature)(o a b:List Int):List Int:=if cmpF s o a b=0 then if cmpV s.symbols o a b=1 then a else if cmpV s.symbols o a b=2 then b else[]else[]
def qf3(s:Signature)(o a b:List Int):List Int:=if cmpF s o a b=0 then if cmpV s.symbols o a b=1 then b else if cmpV s.symbols o a b=2 then a else[]else[]
theorem qs2(x y:List Int)(h1:x.length<=4294967296)(h2:y.length<=4294967296):Call F.q96 [.rref [slc x,slc y] 0] (.agg [slc x,slc y]):=by
 refine q0q rfl 0 ((q96.ev _ _ _).trans ?_);simp only[evz,Nat.reduceLT,(q31 x h1).eq,(q31 y h2).eq]
theorem q51(l:List Symbol)(hsl:l.length<=4294967296)(o:List Int)(hol:o.length<=4294967296)(a b:List Int)(ha:a.length<=4294967296)(hb:b.length<=4294967296) :
 Call F.q51 [.agg [slc l],slc o,.agg [slc a,slc b]] (.agg [.int .i64 (qkh ⟨l⟩ o a b),slc (qfc ⟨l⟩ o a b),slc (qf3 ⟨l⟩ o a b)]):=by
 refine q0q rfl 0 ((q51.ev _ _ _ _ _).trans ?_);simp only[evz,Nat.reduceLT,(q4l l hsl o hol).eq]
 have bad:∀c:Int,cmpF ⟨l⟩ o a b=c->¬ c=0->qkh ⟨l⟩ o a b=c/\qfc ⟨l⟩ o a b=[]/\qf3 ⟨l⟩ o a b=[]:=fun c h1 h2=>by
  subst h1;exact⟨if_neg h2,if_neg h2,if_neg h2⟩
 by_cases h0:q4e ⟨l⟩ o=0
 case neg=>
  obtain⟨b1,b2,b3⟩:=bad (q4e ⟨l⟩ o) (by unfold cmpF;rw[if_neg h0]) h0;rw[b1,b2,b3];simp only[h0,evz,Nat.reduceLT,ne_eq,gX];rfl
 have h1:=(qiu h0).1;have ok:=q7z h1;simp only[h0,evz,Nat.reduceLT,ne_eq,gW,(q16 l ok a ha).eq,(q16 l ok b hb).eq];by_cases h2:q3t l a=0
 case neg=>
  obtain⟨b1,b2,b3⟩:=bad (q3t l a) (by unfold cmpF;rw[if_pos h0,q7l h1,q7l h1,if_neg h2]) h2;rw[b1,b2,b3];simp only[h2,evz,Nat.reduceLT,ne_eq,gX];rfl
 by_cases h3:q3t l b=0
 case neg=>
  obtain⟨b1,b2,b3⟩:=bad (q3t l b) (by unfold cmpF;rw[if_pos h0,q7l h1,q7l h1,if_pos h2]) h3;rw[b1,b2,b3];simp only[h2,h3,evz,Nat.reduceLT,ne_eq,gX,gW];rfl
 have h:cmpF ⟨l⟩ o a b=0:=by unfold cmpF;rw[if_pos h0,q7l h1,q7l h1,if_pos h2,h3]
 obtain⟨_,q1,q2,q3,q4⟩:=qwm h;rw[qkh,qfc,qf3];simp only[h,h2,h3,evz,Nat.reduceLT,ne_eq,gW,(q7c ok q1 q2 q3 q4).eq];by_cases v1:cmpV l o a b=1
 ·simp only[v1,evz,Nat.reduceLT,(qs2 a b ha hb).eq,true_or]
 ·by_cases v2:cmpV l o a b=2
  ·simp only[v1,v2,evz,Nat.reduceLT,(q31 a ha).eq,(q31 b hb).eq,or_true,show ¬(2:Int)=1 by decide]
  ·simp only[v1,v2,evz,Nat.reduceLT,or_self,gX];rfl
theorem qn9(l:List Symbol)(o a b:List Int){n:Nat}(ha:a.length<=n)(hb:b.length<=n):(qfc ⟨l⟩ o a b).length<=n/\(qf3 ⟨l⟩ o a b).length<=n:=by
 unfold qfc qf3;split
 ·split
  ·exact⟨ha,hb⟩
  ·split
   ·exact⟨hb,ha⟩
   ·exact⟨Nat.zero_le _,Nat.zero_le _⟩
 ·exact⟨Nat.zero_le _,Nat.zero_le _⟩
def EqS(n:Nat)(es:List Equation):Prop:=es.length<=n/\∀e∈es,e.left.length<=1001/\e.right.length<=1001
theorem EqS.sm{n:Nat}{es:List Equation}(h:EqS n es)(hn:n<=1001):Sm.sm 1048576 es:=⟨by have:=h.1;omega,fun e he=>⟨⟨by have:=(h.2 e he).1;omega,fun _ _=>trivial⟩,⟨by have:=(h.2 e he).2;omega,fun _ _=>trivial⟩⟩⟩
theorem EqS.snoc{n:Nat}{es:List Equation}(h:EqS n es){a b:List Int}(ha:a.length<=1001)(hb:b.length<=1001):EqS (n+1) (es++[⟨a,b⟩]):=⟨by have:=h.1;simp;omega,fun e he=>by
 rcases gO.1 he with h1|h1
 ·exact h.2 e h1
 ·rw[gD.1 h1];exact⟨ha,hb⟩⟩
theorem ql8(es:List Equation)(a b:List Int):cells es++[slc a,slc b]=cells (es++[⟨a,b⟩]):=by rw[q2s];rfl
section
variable {code:List UInt8}(hc:code.length<=2097152)
include hc
theorem q1q{l:List Symbol}(ok:SigOk ⟨l⟩)(o:List Int)(ho:o.length<=1000)(p n:Int)(hn:0<=n/\n<=12)(hp:0<=p/\p<=1099400000000) :
 Drawn code p 100000 (fun x=>∃es,x=slc es/\EqS n.toNat es) (LIM F.q1q [.rref [slc code,.int .i64 p] 0,.rref [slc l] 0,slc o,.int .i64 n]):=by
 have hll:l.length<=6:=ok.le;refine q91 rfl 20 ?_;rw[show q1j prog A H LIM 20 F.q1q [.rref [slc code,.int .i64 p] 0,.rref [slc l] 0,slc o,.int .i64 n]=_ from q1q.ev _ _ _ _ _ _];rw[show IntKind.wrap .i64 (n+1)=n+1 from q2y (by omega)];refine qay hc (by omega) fun v h1 h2=>?_;have h2:=h2 (by omega);simp only[evz,Nat.reduceLT];refine q7i (σ:=Int×Int×List Equation) (S:=fun m s=>q1q.at0 20 m (q1q.st0 (cells l) (cells o) s.1 (cells code) s.2.1 (cells s.2.2))) (fun s=>0<=s.1/\s.1<=n/\p<=s.2.1/\s.2.1<=p+1+(n-s.1)*6300/\EqS (n-s.1).toNat s.2.2) (fun s=>s.1.toNat) (fun m s hs=>?_) _ (v,p+1,[]) ⟨h1,by simp only;omega,by simp only;omega,by simp only;omega,⟨by simp,by simp⟩⟩ (by simp only;omega);obtain⟨k,q,es⟩:=s;obtain⟨g1,g2,g3,g4,g5⟩:=hs;simp only at g1 g2 g3 g4 g5 ⊢;have hes:=g5.1;by_cases hk:k>0
 case neg=>
  left;simp only[q1q.next0,q1q.round0,evz,Nat.reduceLT,hk];exact q5t (by omega) ⟨es,rfl,by omega,g5.2⟩
 right;have wk:IntKind.wrap .i64 (k-1)=k-1:=q2y (by omega);obtain⟨_,q2,e1,c1,c2,a,b,rfl,heq⟩:=q76 hc ok q (by omega);have hal:=heq.left.le;have hbl:=heq.right.le;simp only at hal hbl;have e2:=(q51 l (by omega) o (by omega) a b (by omega) (by omega)).eq;obtain⟨s1,s2⟩:=qn9 l o a b hal hbl;have skip:EqS (n-(k-1)).toNat es:=⟨by omega,g5.2⟩;by_cases h0:qkh ⟨l⟩ o a b=0
 ·generalize hx:qfc ⟨l⟩ o a b=x at *;generalize hy:qf3 ⟨l⟩ o a b=y at *;have e3:=(q1p x y (by omega) (by omega)).eq;have l1:=(q43 [] x).1;have l2:=(q43 (q2t [] x).2 y).1;by_cases h6:(qb5 ⟨x,y⟩).length<=6
  ·refine⟨(k-1,q2,es++[⟨(q9n ⟨x,y⟩).left,(q9n ⟨x,y⟩).right⟩]),?_,⟨by simp only;omega,by simp only;omega,by simp only;omega,by simp only;omega,?_⟩,by simp only;omega⟩
   ·simp only[h6,if_true,decide_true]at e3;simp only[q1q.next0,q1q.round0,evz,Nat.reduceLT,hk,wk,e1,e2,h0,e3];rw[q1o (q41 (by rw[q0m];simp only[q49];omega)),ql8]
   ·simp only;have:=g5.snoc (a:=(q9n ⟨x,y⟩).left) (b:=(q9n ⟨x,y⟩).right) (by show(q2t [] x).1.length<=1001;omega) (by show(q2t (q2t [] x).2 y).1.length<=1001;omega);exact⟨by have:=this.1;omega,this.2⟩
  ·refine⟨(k-1,q2,es),?_,⟨by simp only;omega,by simp only;omega,by simp only;omega,by simp only;omega,skip⟩,by simp only;omega⟩;simp only[h6,if_false,decide_false]at e3;simp only[q1q.next0,q1q.round0,evz,Nat.reduceLT,hk,wk,e1,e2,h0,e3]
 ·refine⟨(k-1,q2,es),?_,⟨by simp only;omega,by simp only;omega,by simp only;omega,by simp only;omega,skip⟩,by simp only;omega⟩;simp only[q1q.next0,q1q.round0,evz,Nat.reduceLT,hk,wk,e1,e2,h0]
omit hc in
theorem qk3(o:List Int)(p2 p n:Int)(hp:p<=p2/\p2<=p+200000)(hn:n<=13)(es:List Equation)(h0:0<es.length)(he:EqS 13 es) :
 Drawn code p 200000 (fun x=>∃es,x=slc es/\EqS 13 es) (q10.at0 20 20 (q10.st0 n (cells code) p2 (cells es))):=by
 refine q7i (σ:=List Equation) (S:=fun m s=>q10.at0 20 m (q10.st0 n (cells code) p2 (cells s))) (fun s=>0<s.length/\EqS 13 s) (fun s=>13-s.length) (fun m s hs=>?_) _ es ⟨h0,he⟩ (by omega);obtain⟨g1,g2⟩:=hs;have hs:=g2.1;by_cases hk:((s.length:Nat):Int)<n
 case neg=>
  left;simp only[q10.next0,q10.round0,evz,Nat.reduceLT,hk];exact q5t hp ⟨s,rfl,g2⟩
 right
 match s,g1 with
 |e::r,_=>
  have hem:=g2.2 e (List.mem_cons_self ..);have e0:inB 0 (e::r).length=true:=(q61 0 _).trans (by simp);have ew:((cells (e::r)).drop 0).take 2=[slc e.left,slc e.right]:=by rw[q8c];rfl
  have ec:=(qs2 e.left e.right (by omega) (by omega)).eq;refine⟨(e::r)++[⟨e.left,e.right⟩],?_,⟨by simp,?_⟩,by simp only[gM,gAB,List.length_nil]at hk ⊢;omega⟩
  ·simp only[q10.next0,q10.round0,evz,Nat.reduceLT,hk,e0,ew,ec];rw[q1o (q41 (by rw[q0m];simp only[q49];omega)),ql8]
  ·exact⟨by simp only[gM,gAB,List.length_nil]at hk ⊢;omega,fun x hx=>by
    rcases gO.1 hx with h|h
    ·exact g2.2 x h
    ·rw[gD.1 h];exact hem⟩
theorem q10{l:List Symbol}(hl:l.length<=1000)(o:List Int)(ho:o.length<=1000)(p:Int)(hp:0<=p/\p<=1099300000000) :
 Drawn code p 200000 (fun x=>∃es,x=slc es/\EqS 13 es/\(0<es.length->SigOk ⟨l⟩)) (LIM F.q10 [.rref [slc code,.int .i64 p] 0,.rref [slc l] 0,slc o]):=by
 refine q91 rfl 20 ?_;rw[show q1j prog A H LIM 20 F.q10 [.rref [slc code,.int .i64 p] 0,.rref [slc l] 0,slc o]=_ from q10.ev _ _ _ _ _];have leaf:∀(es:List Equation)(p2:Int),p<=p2/\p2<=p+200000->EqS 13 es->(0<es.length->SigOk ⟨l⟩)->Drawn code p 200000 (fun x=>∃es,x=slc es/\EqS 13 es/\(0<es.length->SigOk ⟨l⟩)) (some (slc es,[.agg [slc code,.int .i64 p2]])):=fun es p2 h he hs=>q5t h ⟨es,rfl,he,hs⟩;simp only[evz,Nat.reduceLT,(q4l l (by omega) o (by omega)).eq];by_cases h0:q4e ⟨l⟩ o=0
 case neg=>
  simp only[h0,evz,Nat.reduceLT,ne_eq,gX];exact leaf [] p (by omega) ⟨by simp,by simp⟩ (fun h=>absurd h (by simp))
 have ok:=q7z (qiu h0).1;simp only[h0,evz,Nat.reduceLT,ne_eq,gW];refine q78 (q1q hc ok o ho p 5 (by omega) (by omega)) ?_;rintro _ p1 a1 b1 ⟨es,rfl,hes⟩;have hes:EqS 5 es:=hes;have hel:=hes.1;simp only[evz,Nat.reduceLT];refine q8z hc (by omega) fun b=>?_;simp only[evz,Nat.reduceLT];cases b with
 |true=>
  simp only[evz,Nat.reduceLT];refine q78 (q4k hc (l:=l) hl _ (by omega)) ?_;rintro _ p2 a2 b2 ⟨a,b,rfl,ha,hb⟩;simp only[evz,Nat.reduceLT];rw[q1o (q41 (by rw[q0m];simp only[q49];omega))];refine q8z hc (by omega) fun b=>?_;simp only[evz,Nat.reduceLT,ql8];have h6:=hes.snoc ha hb;cases b with
  |false=>simp only[evz,Nat.reduceLT];exact leaf _ _ (by omega) ⟨by have:=h6.1;omega,h6.2⟩ (fun _=>ok)
  |true=>
   simp only[evz,Nat.reduceLT];split
   ·rename_i hpos;refine qe9 hc [12,13] rfl (by simp) (by omega) fun v hv=>?_
    have hv':v<=13:=by
     simp only[gK,List.not_mem_nil,or_false]at hv;omega
    simp only[evz,Nat.reduceLT];exact(qk3 o _ p v (by omega) hv' _ (by omega) ⟨by have:=h6.1;omega,h6.2⟩).more (Int.le_refl _) (Int.le_refl _) fun x ⟨es,e,h⟩=>⟨es,e,h,fun _=>ok⟩
   ·exact leaf _ _ (by omega) ⟨by have:=h6.1;omega,h6.2⟩ (fun _=>ok)
 |false=>
  simp only[evz,Nat.reduceLT];refine q8z hc (by omega) fun b=>?_;simp only[evz,Nat.reduceLT];cases b with
  |false=>simp only[evz,Nat.reduceLT];exact leaf es _ (by omega) ⟨by omega,hes.2⟩ (fun _=>ok)
  |true=>
   simp only[evz,Nat.reduceLT];split
   ·rename_i hpos;refine qe9 hc [12,13] rfl (by simp) (by omega) fun v hv=>?_
    have hv':v<=13:=by
     simp only[gK,List.not_mem_nil,or_false]at hv;omega
    simp only[evz,Nat.reduceLT];exact(qk3 o _ p v (by omega) hv' es (by omega) ⟨by omega,hes.2⟩).more (Int.le_refl _) (Int.le_refl _) fun x ⟨es,e,h⟩=>⟨es,e,h,fun _=>ok⟩
   ·exact leaf es _ (by omega) ⟨by omega,hes.2⟩ (fun _=>ok)
end
set_option maxHeartbeats 4000000
set_option maxRecDepth 10000
section
variable {code:List UInt8}(hc:code.length<=2097152)
include hc
def qce(code:List UInt8)(r:R):Prop:=∃(l:List Symbol)(rs:List Equation)(t:List Int)(p:Int),r=some (.tup [.agg [slc l],slc rs,slc t,.bx [slc code,.int .i64 p]],[])/\sm 7 (Signature.mk l)/\EqS 13 rs/\t.length<=1001/\0<=p/\p<=400000
theorem q82:∃(l:List Symbol)(rs:List Equation)(t:List Int)(p:Int),Call F.q82 [slc code] (.tup [.agg [slc l],slc rs,slc t,.bx [slc code,.int .i64 p]])/\sm 7 (Signature.mk l)/\EqS 13 rs/\t.length<=1001/\0<=p/\p<=400000:=by
 suffices h:∃r,q1j prog A H LIM 0 F.q82 [slc code]=r/\qce code r by
  obtain⟨_,e,l,rs,t,p,rfl,h⟩:=h;exact⟨l,rs,t,p,q0q rfl 0 e,h⟩
 refine⟨_,q82.ev _ _,?_⟩;rw[show LIM F.q58 [.sl 1 (cells code)]=_ from q58];simp only[evz,Nat.reduceLT,qly];refine q78 (Q:=qce code) (q15 hc 0 (by omega)) ?_;rintro _ p1 a1 b1 ⟨l,rfl,hl⟩;have hll:l.length<=7:=hl.1;simp only[evz,Nat.reduceLT];refine q78 (Q:=qce code) (q11 hc p1 (by omega) l (by omega)) ?_;rintro _ p2 a2 b2 ⟨o,rfl,ho⟩;have hol:o.length<=1000:=by have:=ho.length_eq;rw[q8p]at this;omega
 simp only[evz,Nat.reduceLT];refine q78 (Q:=qce code) (q10 hc (l:=l) (by omega) o hol p2 (by omega)) ?_;rintro _ p3 a3 b3 ⟨rs,rfl,hrs,hok⟩;have hrl:=hrs.1;simp only[evz,Nat.reduceLT];refine qe9 (Q:=qce code) hc [4,8,12,20] rfl (by simp) (by omega) fun v hv=>?_
 have hv':4<=v/\v<=20:=by
  simp only[gK,List.not_mem_nil,or_false]at hv;omega
 simp only[evz,Nat.reduceLT];refine qe9 (Q:=qce code) hc [0,0,3] rfl (by simp) (by omega) fun w hw=>?_
 have hw':0<=w/\w<=3:=by
  simp only[gK,List.not_mem_nil,or_false]at hw;omega
 simp only[evz,Nat.reduceLT];refine q78 (Q:=qce code) (q1a hc _ v w l (by omega) (by omega) (by omega) (by omega)) ?_;rintro _ p4 a4 b4 ⟨t,rfl,ht⟩;have leaf:∀(t:List Int)(p:Int),0<=p/\p<=400000->t.length<=1001->qce code (some (.tup [.agg [slc l],slc rs,slc t,.bx [slc code,.int .i64 p]],[])):=fun t p hp ht=>⟨l,rs,t,p,rfl,hl,hrs,ht,hp⟩;simp only[evz,Nat.reduceLT];split
 case isFalse=>exact leaf t _ (by omega) ht
 rename_i hpos;have hpos:0<rs.length:=by omega
 have ok:=hok hpos;refine q8z (Q:=qce code) hc (by omega) fun b=>?_;simp only[evz,Nat.reduceLT];cases b with
 |false=>simp only[evz,Nat.reduceLT];exact leaf t _ (by omega) ht
 |true=>
  simp only[evz,Nat.reduceLT,(q16 l ok t (by omega)).eq];split
  case isFalse=>exact leaf t _ (by omega) ht
  rename_i h3;simp only[evz,Nat.reduceLT,(q1y l ok rs (q3k (by omega) (hrs.sm (by omega)))).eq];split
  case isFalse=>exact leaf t _ (by omega) ht
  rename_i h5;refine q78 (Q:=qce code) (q2a hc ok _ 3 (by omega) (by omega)) ?_;rintro _ p5 a5 b5 ⟨vs,ts,rfl,hb,hbo⟩;simp only[evz,Nat.reduceLT];refine qay (Q:=qce code) hc (by omega) fun x hx1 hx2=>?_
  match rs,hpos with
  |e::r,_=>
   have e0:inB 0 (e::r).length=true:=(q61 0 _).trans (by simp);have eL:EqOk l e:=(q9f.1 h5).2 e (List.mem_cons_self ..);have ell:=eL.left.le
   have hr:∀n∈e.left,-4611686018427387904<=n/\n<=4611686018427387904:=fun n hn=>by
    rcases q4j.1 (eL.left.node n hn)with h|h <;> omega
   have ea:=(q1b vs ts hbo e.left (by omega) hr).eq;have hal:=q7e hbo e.left;obtain⟨c,u,er,hu⟩:=q6d l (by omega) t (by omega) x (q02 vs ts e.left) (by omega);have g0:(cells (e::r))[0]?=some (slc e.left):=rfl;have es:List.set (cells (e::r)) 0 (slc e.left)=cells (e::r):=rfl;simp only[evz,Nat.reduceLT,e0,g0,ea,er.eq,es];split
   ·exact leaf u _ (by omega) (by omega)
   ·exact leaf t _ (by omega) ht
theorem q4u:∃(l:List Symbol)(rs:List Equation)(t:List Int),Call F.q4u [slc code] (.tup [.agg [slc l],slc rs,slc t])/\sm 7 (Signature.mk l)/\EqS 13 rs/\t.length<=1001:=by
 obtain⟨l,rs,t,p,e,h1,h2,h3,_⟩:=q82 hc;refine⟨l,rs,t,q0q rfl 0 ((q4u.ev _ _).trans ?_),h1,h2,h3⟩;simp only[evz,Nat.reduceLT,e.eq,qly]
end
set_option maxHeartbeats 1000000
set_option maxHeartbeats 4000000
set_option maxRecDepth 10000
set_option maxHeartbeats 4000000
set_option maxRecDepth 10000
theorem q0r(a b:List Symbol)(ha:a.length<=1000):∃r:Bool,Call F.q0r [.agg [slc a],.agg [slc b]] (.bool r):=by
 suffices h:∃r,q1j prog A H LIM (a.length+1) F.q0r [.agg [slc a],.agg [slc b]]=r/\∃v:Bool,r=some (.bool v,[]) by
  obtain⟨_,e,v,rfl⟩:=h;exact⟨v,q0q rfl _ e⟩
 refine⟨_,q0r.ev _ _ _,?_⟩;by_cases hl:a.length=b.length
 case neg=>
  have hl':¬((a.length:Nat):Int)=((b.length:Nat):Int):=by omega
  exact⟨false,by simp only[evz,Nat.reduceLT,hl',ne_eq,gX]⟩
 have hl':((a.length:Nat):Int)=((b.length:Nat):Int):=by omega
 simp only[evz,Nat.reduceLT,hl',ne_eq,gW,bne_self_eq_false];refine q7i (Q:=fun r=>∃v:Bool,r=some (.bool v,[])) (σ:=Nat) (S:=fun m k=>q0r.at0 (a.length+1) m (q0r.st0 (k:Nat) (cells a) (cells b))) (fun k=>k<=a.length) (fun k=>a.length-k) (fun m k hk=>?_) _ 0 (by omega) (by omega);by_cases h:k<a.length
 ·have h2:k<b.length:=by omega
  have ea:a[k]?=some a[k]:=gA h;have eb:b[k]?=some b[k]:=gA h2;have wk:IntKind.wrap .i64 (((k:Nat):Int)+1)=((k+1:Nat):Int):=by rw[q2y (by omega)];omega
  by_cases e:a[k].name=b[k].name/\a[k].arity=b[k].arity
  ·right;refine⟨k+1,?_,by omega,by omega⟩;simp only[q0r.next0,q0r.round0,evz,Nat.reduceLT,h,h2,ea,eb,q33,e.1,e.2,beq_self_eq_true,Bool.and_self,Bool.not_true,wk]
  ·left;refine⟨false,?_⟩;by_cases n1:a[k].name=b[k].name
   ·have n2:¬ a[k].arity=b[k].arity:=fun h=>e ⟨n1,h⟩;simp only[q0r.next0,q0r.round0,evz,Nat.reduceLT,h,h2,ea,eb,q33,n1,n2,beq_self_eq_true,Bool.true_and,decide_true,decide_false,Bool.not_false,and_false,if_false,Bool.and_false]
   ·simp only[q0r.next0,q0r.round0,evz,Nat.reduceLT,h,h2,ea,eb,q33,n1,decide_false,Bool.false_and,Bool.not_false,false_and,if_false]
 ·left;exact⟨true,by simp only[q0r.next0,q0r.round0,evz,Nat.reduceLT,h]⟩
section
variable {code:List UInt8}(hc:code.length<=2097152)
include hc
def qq0(code:List UInt8)(r:R):Prop:=∃(l:List Symbol)(o:List Int)(rs:List Equation)(p:Int),r=some (.tup [.agg [slc l],slc o,slc rs,.bx [slc code,.int .i64 p]],[])/\sm 7 (Signature.mk l)/\Places l o/\EqS 13 rs/\0<=p/\p<=400000
theorem q86:∃(l:List Symbol)(o:List Int)(rs:List Equation)(p:Int),Call F.q86 [slc code] (.tup [.agg [slc l],slc o,slc rs,.bx [slc code,.int .i64 p]])/\sm 7 (Signature.mk l)/\Places l o/\EqS 13 rs/\0<=p/\p<=400000:=by
 suffices h:∃r,q1j prog A H LIM 0 F.q86 [slc code]=r/\qq0 code r by
  obtain⟨_,e,l,o,rs,p,rfl,h⟩:=h;exact⟨l,o,rs,p,q0q rfl 0 e,h⟩
 refine⟨_,q86.ev _ _,?_⟩;rw[show LIM F.q58 [.sl 1 (cells code)]=_ from q58];simp only[evz,Nat.reduceLT,qly];refine q78 (Q:=qq0 code) (q15 hc 0 (by omega)) ?_;rintro _ p1 a1 b1 ⟨l,rfl,hl⟩;have hll:l.length<=7:=hl.1;simp only[evz,Nat.reduceLT];refine q78 (Q:=qq0 code) (q11 hc p1 (by omega) l (by omega)) ?_;rintro _ p2 a2 b2 ⟨o,rfl,ho⟩;have hol:o.length<=1000:=by have:=ho.length_eq;rw[q8p]at this;omega
 simp only[evz,Nat.reduceLT];refine q78 (Q:=qq0 code) (q10 hc (l:=l) (by omega) o hol p2 (by omega)) ?_;rintro _ p3 a3 b3 ⟨rs,rfl,hrs,hok⟩;simp only[evz,Nat.reduceLT];exact⟨l,o,rs,p3,rfl,hl,ho,hrs,by omega,by omega⟩
theorem q4f:∃(l:List Symbol)(o:List Int)(rs:List Equation),Call F.q4f [slc code] (.tup [.agg [slc l],slc o,slc rs])/\sm 7 (Signature.mk l)/\o.length<=1000/\EqS 13 rs:=by
 obtain⟨l,o,rs,p,e,hl,ho,hrs,hp1,hp2⟩:=q86 hc;have hll:l.length<=7:=hl.1;have hol:o.length<=1000:=by have:=ho.length_eq;rw[q8p]at this;omega
 obtain⟨b,ec⟩:=q2z hc p 9 (by omega);cases b with
 |false=>exact⟨l,o,rs,q0q rfl 0 ((q4f.ev _ _).trans (by simp only[evz,Nat.reduceLT,e.eq,qly,ec])),hl,hol,hrs⟩
 |true=>
  obtain⟨_,p2,e2,_,_,o2,rfl,ho2⟩:=q5f hc (p+1) (by omega) l (by omega);exact⟨l,o2,rs,q0q rfl 0 ((q4f.ev _ _).trans (by simp only[evz,Nat.reduceLT,e.eq,qly,ec,e2])),hl,by omega,hrs⟩
end
theorem q0t(code:List UInt8)(h:sm maxLen code):Call F.q0t [slc code] (.bool true):=by
 by_cases hbig:(code.length:Int)>1048576
 ·exact q0q rfl 0 ((q0t.ev _ _).trans (by simp only[evz,Nat.reduceLT,(q7h (code:=code)).eq,hbig]))
 have hc:code.length<=2097152:=by omega
 obtain⟨l,o,rs,ed,hl,ho,hrs⟩:=q4f hc;have hll:l.length<=7:=hl.1;have s1:sm 1048576 (Signature.mk l):=q3k (by omega) hl;have s2:sm 1048576 rs:=hrs.sm (by omega);have s3:∀{u:List Int},u.length<=1001->sm 1048576 u:=fun h=>⟨by omega,fun _ _=>trivial⟩;have eC:LIM F.q4y [.agg [slc l],slc o,slc rs]=some (.bool (q5d ⟨l⟩ o rs),[]):=(q4y ⟨l⟩ o rs s1 (s3 (by omega)) s2).eq;have eC':LIM F.q4m [.agg [slc l],slc o,slc rs]=some (.bool (q5d ⟨l⟩ o rs),[]):=(q4m ⟨l⟩ o rs s1 (s3 (by omega)) s2).eq;by_cases hcf:q5d ⟨l⟩ o rs=true
 case neg=>
  have hcf:q5d ⟨l⟩ o rs=false:=by simpa using hcf
  rw[hcf]at eC eC';refine q0q rfl 0 ((q0t.ev _ _).trans ?_);simp only[evz,Nat.reduceLT,(q7h (code:=code)).eq,hbig,ed.eq,eC,eC',beq_self_eq_true,Bool.not_true,Bool.not_false]
 rw[hcf]at eC eC';obtain⟨hd,hrf,_⟩:=qcl hcf;obtain⟨hsf,ok,hn,hr⟩:=q6z hrf
 have hU:(q62 ⟨l⟩ rs 200).code=0:=by
  unfold q5d at hcf;simp only[gC,gS]at hcf;exact hcf.2.1
 have eU:LIM F.q14 [.agg [slc l],slc rs,.int .i64 200]=_:=(q14 ⟨l⟩ rs 200 s1 s2).eq;rw[q6n,hU]at eU;obtain⟨x,ex⟩:=q88 (code:=code);obtain⟨g,rs2,t,eT,hg,_,ht⟩:=q4u (code:=x::code) (by simp only[gAB];omega);have hgl:g.length<=7:=hg.1;have eT:LIM F.q4u [.sl 1 ([.int .u8 x.toNat]++cells code)]=_:=eT.eq;obtain⟨same,eS⟩:=q0r g l (by omega);have eTF:=(q5q l (by omega) t (by omega)).eq;have blen:Nat.ble ((1+(cells code).length)*1) (140737488355328*1)=true:=q41 (by rw[q0m];simp only[qyt];omega);cases same with
 |false=>
  refine q0q rfl 0 ((q0t.ev _ _).trans ?_);simp only[evz,Nat.reduceLT,(q7h (code:=code)).eq,hbig,ed.eq,eC,eC',beq_self_eq_true,Bool.not_true,Bool.not_false,ex.eq,qfo,blen,eT,eS.eq,eU,decide_true]
 |true=>
  by_cases hT:q6j ⟨l⟩ t=0
  case neg=>
   refine q0q rfl 0 ((q0t.ev _ _).trans ?_);simp only[evz,Nat.reduceLT,(q7h (code:=code)).eq,hbig,ed.eq,eC,eC',beq_self_eq_true,Bool.not_true,Bool.not_false,ex.eq,qfo,blen,eT,eS.eq,eTF,hT,ne_eq,gX,eU,decide_true]
  have tt:TermOk l t:=(q5w l t).1 (by rw[q7l hsf]at hT;exact hT)
  have hrw:∀{u:List Int},TermOk l u->q3x ⟨l⟩ rs u=0:=fun {u} hu=>by
   unfold q3x;rw[if_neg (by simpa using hrf)];exact(q5w l u).2 hu
  have nf:∀{u:List Int},TermOk l u->q38 ⟨l⟩ rs u 200=norm l rs 200 0 u:=fun {u} hu=>by
   unfold q38;rw[if_neg (by simpa using hrw hu),if_neg (by decide)];rfl
  have eN:∀u:List Int,TermOk l u->LIM F.q3c [.agg [slc l],slc rs,slc u,.int .i64 200]=some (.agg [.int .i64 (norm l rs 200 0 u).code,slc (norm l rs 200 0 u).term,.int .i64 (norm l rs 200 0 u).steps],[]):=fun u hu=>by
   have:=(q3c ⟨l⟩ rs u 200 s1 s2 (s3 (by have:=hu.le;omega))).eq;rw[nf hu]at this;exact this
  have eN':∀u:List Int,TermOk l u->LIM F.q4c [.agg [slc l],slc rs,slc u,.int .i64 200]=some (.agg [.int .i64 (norm l rs 200 0 u).code,slc (norm l rs 200 0 u).term,.int .i64 (norm l rs 200 0 u).steps],[]):=fun u hu=>by
   have:=(q4c ⟨l⟩ rs u 200 s1 s2 (s3 (by have:=hu.le;omega))).eq;rw[nf hu]at this;exact this
  have e1:=eN t tt;have e1':=eN' t tt
  have endFacts:∀u:List Int,TermOk l u->(norm l rs 200 0 u).code=0->TermOk l (norm l rs 200 0 u).term/\(q5c l rs (norm l rs 200 0 u).term).1<0/\Star (Stp (RT l rs)) (q3b l u) (q3b l (norm l rs 200 0 u).term):=fun u hu h0=>by
   obtain⟨s,w,_,q2,q3,_⟩:=qpf 200 0 u h0;refine⟨(qlb hr 200 0 u hu).2 h0,?_,qek ok hr 200 0 u hu h0⟩;rw[q2];exact q3
  have key:∀(d k f:Nat)(now:List Int),k+d=8->d<f->TermOk l now->Star (Stp (RT l rs)) (q3b l t) (q3b l now)->
   q0t.at0 12 f (q0t.st0 (cells code) (cells rs) (cells t) (cells now) (k:Nat) (cells l) (cells (norm l rs 200 0 t).term) (norm l rs 200 0 t).code (norm l rs 200 0 t).steps)=some (.bool true,[]):=by
   intro d;induction d with
   |zero=>
    intro k f now hk hf hnow hst;obtain⟨f,rfl⟩:∃g,f=g+1:=⟨f-1,by omega⟩;have n1:¬((k:Nat):Int)<8:=by omega
    have e2:=eN now hnow;have e2':=eN' now hnow;by_cases z1:(norm l rs 200 0 t).code=0
    ·by_cases z2:(norm l rs 200 0 now).code=0
     ·obtain⟨a1,a2,a3⟩:=endFacts t tt z1;obtain⟨b1,b2,b3⟩:=endFacts now hnow z2;have e:=qle ok hcf tt a1 b1 a3 (hst.trans b3) a2 b2;have el:=(q2o (norm l rs 200 0 t).term (norm l rs 200 0 now).term (by have:=a1.le;omega)).eq;rw[decide_eq_true e]at el;simp only[q0t.next0,q0t.round0,evz,Nat.reduceLT,n1,e2,z1,z2,ne_eq,gW,el]
     ·simp only[q0t.next0,q0t.round0,evz,Nat.reduceLT,n1,e2,e1',e2',z1,z2,ne_eq,gW,gX,beq_self_eq_true,decide_true]
    ·simp only[q0t.next0,q0t.round0,evz,Nat.reduceLT,n1,e2,e1',e2',z1,ne_eq,gX,beq_self_eq_true,decide_true]
   |succ d ih=>
    intro k f now hk hf hnow hst;obtain⟨f,rfl⟩:∃g,f=g+1:=⟨f-1,by omega⟩;have n1:((k:Nat):Int)<8:=by omega
    have nl:=hnow.le;have np:=hnow.pos;obtain⟨v,ev,v1,v2⟩:=q7r (code:=code) hc (k:Nat) (rs.length:Int) (by omega);have wk9:IntKind.wrap .i64 (((k:Nat):Int)+9)=((k:Nat):Int)+9:=q2y (by omega);obtain⟨w,ew,w1,w2⟩:=q7r (code:=code) hc (((k:Nat):Int)+9) (now.length:Int) (by omega);have w2:=w2 (by omega);have eW:LIM F.q5r [.agg [slc l],slc rs,.int .i64 v,.int .i64 w,slc now]=_:=(q5r ⟨l⟩ rs v w now s1 s2 (s3 (by omega))).eq;rw[q54]at eW;by_cases h0:(q9y ⟨l⟩ rs v w now).code=0
    ·have hlt:v<rs.length:=by
      have:¬(inR v 0 (rs.length-1)=false\/inR w 0 (now.length-1)=false):=fun hor=>by
       unfold q9y at h0;rw[if_neg (by simpa using hrw hnow),if_pos hor]at h0;cases h0
      have:inR v 0 (rs.length-1)=true:=by cases e:inR v 0 (rs.length-1) <;> simp_all
      unfold inR at this;simp only[gC,gS]at this;omega
     obtain⟨i,rfl⟩:∃i:Nat,v=i:=⟨v.toNat,by omega⟩;obtain⟨a,rfl⟩:∃a:Nat,w=a:=⟨w.toNat,by omega⟩;have hi:i<rs.length:=by omega
     have ha:a<now.length:=by omega
     have hgd:rs.getD i ⟨[],[]⟩=rs[i]:=by rw[gI,gA hi];rfl
     have hW:q9y ⟨l⟩ rs i a now=q7t l rs[i] now a:=by
      unfold q9y;rw[if_neg (by simpa using hrw hnow),if_neg (by intro hor;unfold inR at hor;simp at hor;omega),gR,gR,hgd]
     rw[hW]at h0 eW;have he:=hr _ (gG hi);have tw:=qax he hnow ha h0;have hs:=qpq ok (gG hi) he hnow ha h0;have ih:=ih (k+1) f (q7t l rs[i] now a).term (by omega) (by omega) tw (hst.trans (.one hs));simp only[q0t.next0,q0t.round0,evz,Nat.reduceLT,n1,ev.eq,wk9,ew.eq,eW,h0,beq_self_eq_true];rw[q0k (by omega)];exact ih
    ·have ih:=ih (k+1) f now (by omega) (by omega) hnow hst;simp only[q0t.next0,q0t.round0,evz,Nat.reduceLT,n1,ev.eq,wk9,ew.eq,eW,h0];rw[q0k (by omega)];exact ih
  refine q0q rfl 12 ((q0t.ev _ _).trans ?_);simp only[evz,Nat.reduceLT,(q7h (code:=code)).eq,hbig,ed.eq,eC,eC',beq_self_eq_true,Bool.not_true,Bool.not_false,ex.eq,qfo,blen,eT,eS.eq,eTF,hT,ne_eq,gW,e1];exact key 8 0 12 t (by omega) (by omega) tt (.refl _)
end Ev.Ty
end
