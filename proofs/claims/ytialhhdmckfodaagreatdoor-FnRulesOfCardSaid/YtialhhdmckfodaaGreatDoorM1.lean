/- Steps on the way to RowRulesOf: EvOpsG, EvSnap, EvCall, EvTurn, EvWin, EvMore, EvView, EvMapLaw. -/
import Derived.Test.YtialhhdmckfodaaGreatDoorM0
import Derived.Laws.BytesString
import Derived.Laws.IdiomCopy
import Derived.WalkKit
import Derived.MapKept
import Derived.Lib.Walk
set_option linter.unusedSectionVars false
set_option linter.unusedVariables false
set_option linter.unusedSimpArgs false
section
namespace Ev
open Go
section
variable {P:Program}{A:q7t}{E:Env}{c:Ctx}{s s1:St}{a:Act}{w w':World}{val:Key->Value}{fp:Key->List Nat}
variable {l:Log}{K:St->Log->R}{r:T×List T}
theorem qqb(w:World):∀{ts:List TypeId}{vs:List Value}{zs:List T},qn1.go P ts (vs.map ofC)=some zs->
 zs.length=vs.length/\∀(i:Nat)(x:T)(v:Value),zs[i]?=some x->vs[i]?=some v->RO w x v []
 |[],[],zs,h=>by simp[qn1.go]at h;subst h;simp
 |[],v::vs,zs,h=>by simp[qn1.go]at h
 |t::ts,[],zs,h=>by simp[qn1.go]at h
 |t::ts,v::vs,zs,h=>by
  rw[List.map_cons,qn1.go,gAE]at h;obtain⟨r',hr,h⟩:=h;obtain⟨e1,e2⟩:=qqb w hr;split at h
  ·rename_i x hx;cases h;refine⟨by simp[e1],fun i y u hy hu=>?_⟩;cases i with
   |succ i=>exact e2 i y u (by simpa using hy) (by simpa using hu)
   |zero=>
    simp at hy hu;subst hy;subst hu;unfold ofC at hx;split at hx <;> cases hx
    ·exact .int _ _
    ·exact .bool _
    ·exact .str _
  ·rename_i hx;replace h:=q1c h;obtain⟨hp,h⟩:=h;cases h;refine⟨by simp[e1],fun i y u hy hu=>?_⟩;cases i with
   |succ i=>exact e2 i y u (by simpa using hy) (by simpa using hu)
   |zero=>
    simp at hy hu;subst hy;subst hu;unfold ofC at hx;split at hx <;> cases hx;exact RO.nil (qag hp)
  ·cases h
theorem qmx(h:Inv c s a w val fp){o:Oper}{t:TypeId}{x y:Operand}(ho:o.op=.makeSlice t x y)(hd:∀d,o.dst=some d->d<a.tmps.size)
 {Q:Exit->Act->World->Prop} (hr:runP E (opP P A o) s l K=some r):o.wp P a w (Post c w K r) Q:=by
 unfold opP at hr;simp only[ho]at hr;split at hr
 ·rename_i d hd';rw[q1s]at hr;replace hr:=q1c hr;obtain⟨hok,hr⟩:=hr;obtain⟨e,i,z,st⟩:=qcz hok;obtain⟨vx,l1,h1,hx⟩:=q2x h hr;obtain⟨vy,l2,h2,hy⟩:=q2x h h1;split at h2
  ·rename_i kx n ky m zs hz;rw[q1s]at h2;replace h2:=q1c h2;obtain⟨hb,h2⟩:=h2;rw[gC,gC]at hb;have h0:0<=n:=gAH hb.1.1;have hnm:n=m:=gAH hb.1.2;subst hnm;have hfit:=qug st.hi (st.elem▸hb.2);have hex:a.eval x=.int kx n:=RB.int_inv hx;have hey:a.eval y=.int ky n:=RB.int_inv hy;rw[st.elem]at hz;rw[st.size]at hfit
   have hfit':n.toNat*i.bytes<=140737488355328:=by
    rw[Nat.mul_right_comm]at hfit;exact Nat.le_of_mul_le_mul_right hfit st.pos
   have hn47:n.toNat<=140737488355328:=Nat.le_trans (Nat.le_mul_of_pos_right _ st.bpos) hfit'
   have hz1:qn1.go P (q26 P 8 e) (z.cells.toList.map ofC)=some zs:=by
    unfold qn1 at hz;rw[st.zeroC]at hz;exact hz
   obtain⟨z1,z2⟩:=qqb w hz1;have hzpos:0<z.cells.size:=by rw[st.hzs];exact st.pos
   have hmv:MovedCs c w fp [] [] true (repT n.toNat zs) (madeCells z.cells (n.toNat*i.size)).toList (fun _=>[]):=by
    have key:∀(j:Nat)(y:T)(v:Value),(repT n.toNat zs)[j]?=some y->(madeCells z.cells (n.toNat*i.size)).toList[j]?=some v->RO w y v []:=fun j y v hy hv=>by
     have hj:j<n.toNat*i.size:=by
      have:=(gB.1 hv).1;simpa[size_madeCells]using this
     rw[qf7 _ _ _ hzpos hj]at hv;unfold repT at hy;rw[qow _ _ _ (by rw[z1];simpa[st.hzs]using hj)]at hy;refine z2 _ y v hy ?_;rw[z1,Array.length_toList,Array.getElem?_toList,gAQ (Nat.mod_lt _ hzpos)];exact hv
    refine⟨by unfold repT;rw[qxo,z1];simp[size_madeCells,st.hzs],fun j y v hy hv=>RO.rb (key j y v hy hv) (by simp),fun _=>⟨key,ND.nil _,by simp⟩⟩
   obtain⟨hfree,l3,h3⟩:=q6h h2;rw[q4r,q49,st.stride]at h3;obtain⟨F'',q1,q2,q3⟩:=qsv h (Moved.refl s) st.pos hmv hfree (n:=n.toNat) (by simp[size_madeCells]) (by simp only[maxLen];omega) e;rw[Array.toArray_toList]at q1 q2 q3
   have hbI:(i.bytes:Int)*n<=281474976710656:=by
    have h4:((i.bytes*n.toNat:Nat):Int)<=281474976710656:=by rw[Nat.mul_comm];omega
    rw[Int.natCast_mul,Int.toNat_of_nonneg h0]at h4;exact h4
   have hrun:=run_make (P:=P) w t e i z st.hu st.hi st.hz kx ky n n h0 (Int.le_refl _) hbI (by omega);refine q3h (v:=.slice (some ⟨w.heap.size,0,none⟩) n.toNat n.toNat) (w':=w.alloc (.cells (madeCells z.cells (n.toNat*i.size)) e)) ?_ ?_
   ·simp only[execOp,ho,hex,hey,Sem.run_bind,hrun,Result.andThen_ok,Sem.run_pure]
   ·rw[hd'];exact⟨_,_,_,_,h3,q1.setT (hd d hd') (VR_c q3),rfl,q2⟩
  ·cases h2
 ·cases hr
theorem qod(h:Inv c s a w val fp){k0:Key}(hfree:s.getO k0=.free){sz:Nat}(hsz:0<sz)(A':Option Addr) :
 ∃F'',Inv c (s.setO k0 (.arr true true sz [])) a w (upd val k0 (.slice A' 0 0)) (upd fp k0 F'')/\CR (mkFr c w (upd val k0 (.slice A' 0 0)) (upd fp k0 F'')) (s.setO k0 (.arr true true sz [])) (.obj k0) (.slice A' 0 0):=by
 obtain⟨r1,r2,r3⟩:=h.change1 (w':=w) k0 (.arr true true sz []) (.slice A' 0 0) [] (by rw[hfree];trivial) (by rw[hfree];rfl) (by simp) (fun _ _ _=>rfl) (gAI _) rfl rfl rfl (fun _=>RO.nil hsz);refine⟨[],r1,?_,rfl⟩;show Ob.ref _ _;rw[q2y,if_pos rfl];show _=upd val k0 _ k0;rw[q78]
theorem qca{t:TypeId}(ht:tyOk P t=true){g q:Nat}{cur:Array Value}{e:TypeId}(hg:w.heap[g]?=some (.cells cur e (0,0))){u:Value}(hsz:u.cells.size=(q26 P 8 t).length)
 (hq:q+u.cells.size<=cur.size) (h1:∀v∈u.cells.toList,v.oneCell'=true) :
 (Instr.storeAt t (.pointer (some ⟨g,q,none⟩)) u).run P w=.ok () (w.setRow g (setCells cur.toList q u.cells.toList).toArray):=by
 obtain⟨i,d,hi,hd,hs,_⟩:=qde ht;have hst:=run_storeCells_at P g q e u.cells.toList 0 cur w hg (by simpa using hq) h1;simp only[Nat.add_zero]at hst;rw[<- qyb _ _ _ (by simpa using hq)];have:u.cells.size=i.size:=by omega
 simp[Instr.storeAt,Instr.sureAddr,storeVar,Go.sizeOf,typeInfo,hi,this,hst]
theorem qlm{f:Fr}{s:St}{cs:List C}{vs:List Value}(h:CRs f s cs vs):∀v∈vs,v.oneCell'=true:=fun v hv=>by
 obtain⟨j,hj⟩:=List.mem_iff_getElem?.1 hv;have hjl:=(gB.1 hj).1;exact CR.one (h.2 j _ v (gA (by rw[h.1];exact hjl)) hj)
theorem qdb{o:Oper}{Q:Exit->Act->World->Prop}(hd:∀d,o.dst=some d->d<a.tmps.size)(hn:o.dst=none)(hrun:(execOp a.eval o).run P w=.ok .skip w')
 {s':St} {l':Log} {val':Key->Value} {fp':Key->List Nat} (hK:K s' l'=some r) (hi:Inv c s' a w' val' fp') (hp:Kp c.own w w'):o.wp P a w (Post c w K r) Q:=by
 refine qv3 hrun ?_;rw[hn];exact⟨_,_,_,_,hK,hi,rfl,hp⟩
theorem quw(h:Inv c s a w val fp){o:Oper}{t:TypeId}{x y:Operand}(ho:o.op=.store t x y)(hn:o.dst=none)
 {Q:Exit->Act->World->Prop} (hr:runP E (opP P A o) s l K=some r):o.wp P a w (Post c w K r) Q:=by
 unfold opP at hr;simp only[ho,hn]at hr;obtain⟨vx,l1,h1,hx⟩:=q2x h hr;obtain⟨vy,l2,h2,hy⟩:=q2x h h1;unfold qwf at h2;rw[q1s]at h2;replace h2:=q1c h2;obtain⟨ht,h2⟩:=h2;split at h2
 ·rename_i k q;rw[q3s]at h2;split at h2
  ·rename_i cells hk;rw[q1s]at h2;replace h2:=q1c h2;obtain⟨hb,h2⟩:=h2;rw[gC,gC]at hb;have hp:=qag hb.1.1;have hl:vy.cells.length=(q26 P 8 t).length:=gE hb.1.2;have hq:=gAH hb.2;rw[q51,q49]at h2;have hptr:=q6y hx hk (.inl ⟨_,rfl⟩);have hob:=h.obs k;rw[hk]at hob;obtain⟨b,cur,e,hu,hF,hh,hcs⟩:=hob;have hh:w.heap[b]?=some (.cells cur e (0,0)):=hh
   have hpx:a.eval x=.pointer (some ⟨b,0+q,none⟩):=by
    have:q8j (val k) q (a.eval x):=hptr;rw[show val k=_ from hu]at this;exact this
   rw[gAJ]at hpx;have hvc:=qfj hy hp;have hsz:(a.eval y).cells.size=(q26 P 8 t).length:=by have:=hvc.1;simp at this;omega
   have hcl:cells.length=cur.size:=by have:=hcs.1;simpa using this
   have hrun:=qca (q:=q) ht hh hsz (by omega) (qlm hvc)
   obtain⟨r1,r2,r3⟩:=h.change1 (w':=w.setRow b (setCells cur.toList q (a.eval y).cells.toList).toArray) k (.box (setCells cells q vy.cells)) (val k) (fp k) (by rw[hk];rfl) (by rw[hk];rfl) (fun b hb=>.inl hb)
    (fun b' _ hb=>setRow_other w b b' _ (fun e=>hb (by rw[hF];simp[e]))) (by simp) rfl rfl rfl
    (fun g=>⟨b,_,e,hu,hF,setRow_heap w b cur _ e _ hh,quk (hcs.goes g) (hvc.goes g) hq⟩)
   have e1:upd val k (val k)=val:=by funext j;by_cases hj:k=j <;> simp[upd,hj]
   have e2:upd fp k (fp k)=fp:=by funext j;by_cases hj:k=j <;> simp[upd,hj]
   rw[e1,e2]at r1;exact qdb (by simp[hn]) hn (by simp[execOp,ho,hpx,hrun]) h2 r1 r3
  ·rename_i own deep sz cells hk;rw[q1s]at h2;replace h2:=q1c h2;obtain⟨hb,h2⟩:=h2;rw[gC,gC,gC]at hb;obtain⟨⟨⟨rfl,hp⟩,hl⟩,hq⟩:=hb;have hp:=qag hp;have hl:vy.cells.length=(q26 P 8 t).length:=gE hl;have hq:=gAH hq;have hvc:=qfj hy hp;obtain⟨ys,b,s1,l3,M,gs,h3,hm,hmv⟩:=qb6 h (Moved.refl s) hvc h2;rw[gAD]at hm;rw[q3s]at h3;split at h3
   ·rename_i deep' sz' cells' hk1;rw[q51,q49]at h3;have hkM:k∉M:=fun hkm=>by rcases(hm.gone k hkm).1 with e|⟨j,e⟩ <;> rw[hk1]at e <;> cases e
    have hptr:=q6y hx hk (.inr (.inl ⟨_,_,_,_,rfl⟩));have hob:=h.obs k;rw[hk]at hob;obtain⟨xs,Fg,fs,ho',hF⟩:=q9i.1 hob;have hsz:(a.eval y).cells.size=(q26 P 8 t).length:=by have:=hvc.1;simp at this;omega
    have hyl:ys.length=(q26 P 8 t).length:=by rw[hmv.len];simpa using hsz
    have hrow:=ho'.row;rcases hrow with⟨hxs,_,_⟩|⟨g,len,cap,cur,e,hv,hFg,hg,hxl,hcap,hmax,hcur,htake⟩
    ·have:=ho'.len;rw[hxs]at this;simp at this;rw[<- this]at hq;omega
    have hg:w.heap[g]?=some (.cells cur e (0,0)):=hg
    have hpx:a.eval x=.pointer (some ⟨g,q,none⟩):=by
     have h4:q8j (val k) q (a.eval x):=hptr;rw[hv]at h4;rw[show a.eval x=.pointer (some ⟨g,0+q,none⟩)from h4,gAJ]
    have hxlen:xs.length=cells.length:=ho'.len;have hle:len*sz<=cur.size:=by rw[hcur];exact gAO _ hcap
    have hrun:=qca (q:=q) ht hg hsz (by omega) (qlm hvc);let us:=(a.eval y).cells.toList;have husl:us.length=ys.length:=by show(a.eval y).cells.toList.length=_;rw[hmv.len]
    let hs:Nat->List Nat:=fun i=>if q<=i/\i<q+ys.length then gs (i-q)else fs i
    let F'':List Nat:=[g]++(if(deep&&b)=true then flat cells.length hs else[]);let w1:=w.setRow g (setCells cur.toList q us).toArray;have hw1:∀x,x≠g->w1.heap[x]?=w.heap[x]?:=fun x hx=>setRow_other w g x _ hx;have hgk:g∈fp k:=by rw[hF,hFg];simp
    have hgM:∀k' x,k'∈M->x∈fp k'->x≠g:=fun k' x hk' hx e=>h.disj k k' (fun e=>hkM (e▸hk')) g hgk (e▸hx);have hfsg:∀i x,i<cells.length->x∈fs i->x≠g/\x∈fp k:=fun i x hi hx=>⟨fun e=>ho'.apart g (by rw[hFg];simp) i hi (e▸hx),by rw[hF];exact gN _ (q23.2 ⟨i,hi,hx⟩)⟩
    have good:∀x,(c.I x\/c.own x)->x<w.heap.size->x≠g->(∀k',k'≠k->k'∉M->x∉fp k')->(deep&&b)=false->inI c w1 (upd (clr fp M) k F'') x/\w1.heap[x]?=w.heap[x]?:=by
     intro x h1 h2 h3 h4 hdb;refine⟨⟨h1,by simpa[w1]using h2,fun k' hk'=>?_⟩,hw1 x h3⟩;by_cases hkk:k=k'
     ·subst hkk;rw[q78]at hk';have:F''=[g]:=by show[g]++_=[g];rw[hdb];simp
      rw[this]at hk';exact h3 (gD.1 hk')
     ·rw[qab _ _ hkk]at hk';obtain⟨e1,e2⟩:=qa2 hk';exact h4 k' (fun e=>hkk e.symm) e1 e2
    have goodJ:∀x,(c.J x\/c.own x)->x<w.heap.size->x≠g->(∀k',k'≠k->k'∉M->x∉fp k')->(deep&&b)=false->inJ c w1 (upd (clr fp M) k F'') x/\w1.heap[x]?=w.heap[x]?:=by
     intro x h1 h2 h3 h4 hdb;refine⟨⟨h1,by simpa[w1]using h2,fun k' hk'=>?_⟩,hw1 x h3⟩;by_cases hkk:k=k'
     ·subst hkk;rw[q78]at hk';have:F''=[g]:=by show[g]++_=[g];rw[hdb];simp
      rw[this]at hk';exact h3 (gD.1 hk')
     ·rw[qab _ _ hkk]at hk';obtain⟨e1,e2⟩:=qa2 hk';exact h4 k' (fun e=>hkk e.symm) e1 e2
    have own':OwnR w1 (inI c w1 (upd (clr fp M) k F'')) (inJ c w1 (upd (clr fp M) k F'')) (deep&&b) sz (setCells cells q ys) (val k) (setCells xs q us) [g] (fun i=>if(deep&&b)=true then hs i else[]):=by
     have hqx:q+us.length<=xs.length:=by rw[husl];omega
     refine⟨ho'.pos,.inr ⟨g,len,cap,_,e,hv,rfl,setRow_heap w g cur _ e _ hg,by rw[q41];exact hxl,hcap,hmax,by simp[q41,hcur],?_⟩,by rw[q41,q41];exact hxlen,?_,fun x hx i hi=>?_,fun i y v hy hv'=>?_⟩
     ·apply List.ext_getElem?;intro i;have hqc:q+us.length<=cur.toList.length:=by simp;omega
      rw[q3y _ _ _ _ hqx,gT,q3y _ _ _ _ hqc,<- htake,gT];by_cases h1:q<=i/\i<q+us.length
      ·rw[if_pos h1,if_pos (by omega),if_pos h1]
      ·rw[if_neg h1,if_neg h1]
     ·rw[q41];cases hdb:(deep&&b)with
      |false=>simpa using ND.nil _
      |true=>
       simp only[if_true];rw[gC]at hdb;obtain⟨q1,q2,q3⟩:=hmv.ro hdb.2
       have cross:∀i j x,i<cells.length->j<ys.length->x∈fs i->x∉gs j:=fun i j x hi hj hx hx'=>by
        obtain⟨k',hk',hxk⟩:=q3 j x hj hx';exact h.disj k k' (fun e=>hkM (e▸hk')) x (hfsg i x hi hx).2 hxk
       refine⟨fun i hi=>?_,fun i j hi hj hne x hx hx'=>?_⟩
       ·show(hs i).Nodup;simp only[hs];split
        ·exact q2.1 _ (by omega)
        ·exact ho'.nd.1 i hi
       ·simp only[hs]at hx hx';split at hx
        ·split at hx'
         ·exact q2.2 _ _ (by omega) (by omega) (by omega) x hx hx'
         ·exact cross j _ x hj (by omega) hx' hx
        ·split at hx'
         ·exact cross i _ x hi (by omega) hx hx'
         ·exact ho'.nd.2 i j hi hj hne x hx hx'
     ·rw[q41]at hi;rw[gD.1 hx];cases hdb:(deep&&b)with
      |false=>simp
      |true=>
       simp only[if_true];rw[gC]at hdb;obtain⟨q1,q2,q3⟩:=hmv.ro hdb.2;intro hxh;simp only[hs]at hxh;split at hxh
       ·obtain⟨k',hk',hxk⟩:=q3 _ g (by omega) hxh;exact hgM k' g hk' hxk rfl
       ·exact(hfsg i g hi hxh).1 rfl
     ·have hqx':q+ys.length<=cells.length:=by omega
      rw[q3y _ _ _ _ hqx']at hy;rw[q3y _ _ _ _ hqx,husl]at hv';cases hdb:(deep&&b)with
      |true=>
       simp only[El,if_true];rw[gC]at hdb;obtain⟨q1,q2,q3⟩:=hmv.ro hdb.2;split at hy
       ·rename_i hin;rw[if_pos hin]at hv';simp only[hs,if_pos hin];refine RO.move (q1 _ y v hy hv') fun x hx=>?_;obtain⟨k',hk',hxk⟩:=q3 _ x (by omega) hx;exact hw1 x (hgM k' x hk' hxk)
       ·rename_i hin;rw[if_neg hin]at hv';simp only[hs,if_neg hin];have hel:=ho'.el i y v hy hv';rw[El,if_pos hdb.1]at hel;exact RO.move hel fun x hx=>hw1 x (hfsg i x (gB.1 hy).1 hx).1
      |false=>
       simp only[El,Bool.false_eq_true,if_false,and_true];split at hy
       ·rename_i hin;rw[if_pos hin]at hv';have hrb:=hmv.rb _ y v hy hv'
        have key:∀x,(∀k',x∉clr fp (M++[]) k')->x≠g/\∀k',k'≠k->k'∉M->x∉fp k':=fun x hx=>
         ⟨fun e=>hx k (by simp[clr,hkM,e,hgk]),fun k' _ hk' hxk=>hx k' (by simp[clr,hk',hxk])⟩
        exact RB.move hrb (fun x hx=>good x hx.1 hx.2.1 (key x hx.2.2).1 (key x hx.2.2).2 hdb) (fun x hx=>goodJ x hx.1 hx.2.1 (key x hx.2.2).1 (key x hx.2.2).2 hdb)
       ·rename_i hin;rw[if_neg hin]at hv';have hel:=ho'.el i y v hy hv';have hi:=(gB.1 hy).1;rw[El]at hel;split at hel
        ·refine RO.rb (I:=inI c w1 (upd (clr fp M) k F'')) (RO.move hel fun x hx=>hw1 x (hfsg i x hi hx).1) fun x hx=>?_;obtain⟨h5,h6⟩:=hfsg i x hi hx;exact(good x (.inr (h.mine k x h6)) (h.lt h6) h5 (fun k' hk' _=>h.disj k k' (fun e=>hk' e.symm) x h6) hdb).1
        ·have key:∀x,(∀k',x∉fp k')->x≠g:=fun x hx e=>hx k (e▸hgk);exact RB.move hel.1 (fun x hx=>good x hx.1 hx.2.1 (key x hx.2.2) (fun k' _ _=>hx.2.2 k') hdb) (fun x hx=>goodJ x hx.1 hx.2.1 (key x hx.2.2) (fun k' _ _=>hx.2.2 k') hdb)
    have hF'':F''=[g]++flat (setCells cells q ys).length (fun i=>if(deep&&b)=true then hs i else[]):=by
     show[g]++_=_;congr 1;rw[q41];cases hdb:(deep&&b)with
     |true=>simp
     |false=>simp[flat]
    obtain⟨r1,r2,r3⟩:=h.finish (w':=w1) hm hkM (o':=.arr true (deep&&b) sz (setCells cells q ys)) (u':=val k) (F':=F'') (by rw[hk];rfl) (by rw[hk];rfl) (fun x hx=>by
     left;rcases gO.1 hx with hx|hx
     ·rw[gD.1 hx];exact⟨k,.inr rfl,hgk⟩
     ·split at hx
      ·rename_i hdb;rw[gC]at hdb;obtain⟨q1,q2,q3⟩:=hmv.ro hdb.2;obtain⟨i,hi,hx⟩:=q23.1 hx;simp only[hs]at hx;split at hx
       ·obtain⟨k',hk',hxk⟩:=q3 _ x (by omega) hx;exact⟨k',.inl hk',hxk⟩
       ·exact⟨k,.inr rfl,(hfsg i x hi hx).2⟩
      ·simp at hx)
     (fun x _ hn=>hw1 x fun e=>hn k (.inr rfl) (e▸hgk)) (by simp[w1]) rfl rfl rfl (fun _=>q9i.2 ⟨_,_,_,own',hF''⟩)
    exact qdb (by simp[hn]) hn (by simp[execOp,ho,hpx,hrun,w1,us]) h3 r1 r3
   ·cases h3
  ·rename_i sz cells ws hk;split at h2
   ·rename_i x1 hx1;rw[q1s]at h2;replace h2:=q1c h2;obtain⟨hb,h2⟩:=h2;rw[gC]at hb;have hl1:(q26 P 8 t).length=1:=gE hb.1;have hq:q<cells.length:=gAH hb.2;rw[q51,q49]at h2;have hp:0<vy.cells.length:=by rw[hx1];simp
    have hvc:=qfj hy hp;have hob:=h.obs k;rw[hk]at hob;obtain⟨g,len,cap,cur,e,vs,fs,hu,hF,hsz,hg,hlen,hcap,hmax,hcur,hv,hel,hnd⟩:=hob;have hg:w.heap[g]?=some (.cells cur e (0,0)):=hg
    have hptr:q8j (val k) q (a.eval x):=by
     have h1:=hx.1;rw[hk]at h1;exact h1
    have hpx:a.eval x=.pointer (some ⟨g,q,none⟩):=by
     rw[show val k=_ from hu]at hptr;have:a.eval x=.pointer (some ⟨g,0+q,none⟩):=hptr;rwa[gAJ]at this
    have husz:(a.eval y).cells.size=1:=by have:=hvc.1;rw[hx1]at this;simpa using this.symm
    obtain⟨u1,hu1⟩:∃u1,(a.eval y).cells.toList=[u1]:=by
     have hll:(a.eval y).cells.toList.length=1:=by simpa using husz
     generalize (a.eval y).cells.toList=L at hll;cases L with
     |nil=>cases hll
     |cons u L=>
      cases L with
      |nil=>exact⟨u,rfl⟩
      |cons _ _=>simp at hll
    have hcr:CR (mkFr c w val fp) s x1 u1:=hvc.2 0 x1 u1 (by rw[hx1];rfl) (by rw[hu1];rfl);have hlc:cells.length<=cur.size:=by rw[hlen,hcur];exact gAO _ hcap
    have hrun:=qca (q:=q) ht hg (by rw[husz,hl1]) (by rw[husz];omega) (qlm hvc);rw[hu1]at hrun;rw[List.nodup_cons]at hnd;have hnd2:=(q6u cells.length fs).1 hnd.2;let fs':Nat->List Nat:=fun i=>if q=i then[]else fs i
    let vs':Nat->Value:=fun i=>if q=i then u1 else vs i
    have fsub:∀i b,b∈fs' i->b∈fs i/\q≠i:=fun i b hb=>by
     simp only[fs']at hb;split at hb
     ·cases hb
     ·rename_i hne;exact⟨hb,hne⟩
    have hin:∀b,b∈(List.range cells.length).flatMap fs'->b∈(List.range cells.length).flatMap fs:=fun b hb=>by
     obtain⟨i,hi,hb⟩:=q23.1 hb;exact q23.2 ⟨i,hi,(fsub i b hb).1⟩
    have hnd':(g::(List.range cells.length).flatMap fs').Nodup:=by
     rw[List.nodup_cons];refine⟨fun hb=>hnd.1 (hin g hb),(q6u cells.length fs').2 ⟨fun i hi=>?_,fun i j hi hj hne b hb hb'=>hnd2.2 i j hi hj hne b (fsub i b hb).1 (fsub j b hb').1⟩⟩;simp only[fs'];split
     ·exact List.nodup_nil
     ·exact hnd2.1 i hi
    have hcl:q+[u1].length<=cur.toList.length:=by simp;omega
    obtain⟨r1,r2,r3⟩:=h.change1 (w':=w.setRow g (setCells cur.toList q [u1]).toArray) k (.opn sz cells ((q,x1)::ws)) (val k) (g::(List.range cells.length).flatMap fs') (by rw[hk];rfl) (by rw[hk];rfl)
     (fun b hb=>.inl (by
      rw[hF];rcases gK.1 hb with rfl|hb
      ·simp
      ·exact gF _ (hin b hb)))
     (fun b' _ hb=>setRow_other w g b' _ (fun e=>hb (by rw[hF];simp[e]))) (by simp) rfl rfl rfl
     (fun gg=>⟨g,len,cap,_,e,vs',fs',hu,rfl,⟨hsz.1,fun i hi=>by
      by_cases hqi:q=i
      ·omega
      ·rw[q5s,if_neg hqi]at hi;exact hsz.2 i hi⟩,setRow_heap w g cur _ e _ hg,hlen,hcap,hmax,by simp[q41,hcur],fun i hi=>by
      rw[List.getElem?_toArray,q3y _ _ _ _ hcl];simp only[vs',List.length_singleton];by_cases hqi:q=i
      ·subst hqi;simp
      ·rw[if_neg (by omega),if_neg hqi];simpa using hv i hi,fun i y' hy'=>by
      by_cases hqi:q=i
      ·subst hqi;unfold WR;rw[q5s,if_pos rfl];show CR _ _ x1 (if q=q then u1 else vs q)/\(if q=q then[]else fs q)=[];rw[if_pos rfl,if_pos rfl];exact⟨hcr.goes gg,rfl⟩
      ·have hi:i<cells.length:=(gB.1 hy').1;have h1:=(hel i y' hy').goes gg fun b hb=>setRow_other w g b _ (fun e=>hnd.1 (q23.2 ⟨i,hi,e▸hb⟩));unfold WR at h1 ⊢;rw[q5s,if_neg hqi];simp only[vs',fs',if_neg hqi];exact h1,hnd'⟩)
    exact qdb (by simp[hn]) hn (by simp[execOp,ho,hpx,hrun]) h2 r1 r3
   ·rename_i x1 x2 hx1;rw[q1s]at h2;replace h2:=q1c h2;obtain⟨hb,h2⟩:=h2;rw[gC]at hb;have hl1:(q26 P 8 t).length=2:=gE hb.1;have hq:q+1<cells.length:=gAH hb.2;rw[q51,q49]at h2;have hp:0<vy.cells.length:=by rw[hx1];simp
    have hvc:=qfj hy hp;have hob:=h.obs k;rw[hk]at hob;obtain⟨g,len,cap,cur,e,vs,fs,hu,hF,hsz,hg,hlen,hcap,hmax,hcur,hv,hel,hnd⟩:=hob;have hg:w.heap[g]?=some (.cells cur e (0,0)):=hg
    have hptr:q8j (val k) q (a.eval x):=by
     have h1:=hx.1;rw[hk]at h1;exact h1
    have hpx:a.eval x=.pointer (some ⟨g,q,none⟩):=by
     rw[show val k=_ from hu]at hptr;have:a.eval x=.pointer (some ⟨g,0+q,none⟩):=hptr;rwa[gAJ]at this
    have husz:(a.eval y).cells.size=2:=by have:=hvc.1;rw[hx1]at this;simpa using this.symm
    obtain⟨u1,u2,hu1⟩:∃u1 u2,(a.eval y).cells.toList=[u1,u2]:=by
     have hll:(a.eval y).cells.toList.length=2:=by simpa using husz
     generalize (a.eval y).cells.toList=L at hll
     match L,hll with
     |[u,u'],_=>exact⟨u,u',rfl⟩
    have hcr:CR (mkFr c w val fp) s x1 u1:=hvc.2 0 x1 u1 (by rw[hx1];rfl) (by rw[hu1];rfl);have hcr2:CR (mkFr c w val fp) s x2 u2:=hvc.2 1 x2 u2 (by rw[hx1];rfl) (by rw[hu1];rfl);have hlc:cells.length<=cur.size:=by rw[hlen,hcur];exact gAO _ hcap
    have hrun:=qca (q:=q) ht hg (by rw[husz,hl1]) (by rw[husz];omega) (qlm hvc);rw[hu1]at hrun;rw[List.nodup_cons]at hnd;have hnd2:=(q6u cells.length fs).1 hnd.2;let fs':Nat->List Nat:=fun i=>if q=i\/q+1=i then[]else fs i
    let vs':Nat->Value:=fun i=>if q=i then u1 else if q+1=i then u2 else vs i
    have fsub:∀i b,b∈fs' i->b∈fs i/\¬(q=i\/q+1=i):=fun i b hb=>by
     simp only[fs']at hb;split at hb
     ·cases hb
     ·rename_i hne;exact⟨hb,hne⟩
    have hin:∀b,b∈(List.range cells.length).flatMap fs'->b∈(List.range cells.length).flatMap fs:=fun b hb=>by
     obtain⟨i,hi,hb⟩:=q23.1 hb;exact q23.2 ⟨i,hi,(fsub i b hb).1⟩
    have hnd':(g::(List.range cells.length).flatMap fs').Nodup:=by
     rw[List.nodup_cons];refine⟨fun hb=>hnd.1 (hin g hb),(q6u cells.length fs').2 ⟨fun i hi=>?_,fun i j hi hj hne b hb hb'=>hnd2.2 i j hi hj hne b (fsub i b hb).1 (fsub j b hb').1⟩⟩;simp only[fs'];split
     ·exact List.nodup_nil
     ·exact hnd2.1 i hi
    have hcl:q+[u1,u2].length<=cur.toList.length:=by simp;omega
    obtain⟨r1,r2,r3⟩:=h.change1 (w':=w.setRow g (setCells cur.toList q [u1,u2]).toArray) k (.opn sz cells ((q,x1)::(q+1,x2)::ws)) (val k) (g::(List.range cells.length).flatMap fs') (by rw[hk];rfl) (by rw[hk];rfl)
     (fun b hb=>.inl (by
      rw[hF];rcases gK.1 hb with rfl|hb
      ·simp
      ·exact gF _ (hin b hb)))
     (fun b' _ hb=>setRow_other w g b' _ (fun e=>hb (by rw[hF];simp[e]))) (by simp) rfl rfl rfl
     (fun gg=>⟨g,len,cap,_,e,vs',fs',hu,rfl,⟨hsz.1,fun i hi=>by
      by_cases hqi:q=i
      ·omega
      ·by_cases hqj:q+1=i
       ·omega
       ·rw[q5s,if_neg hqi,q5s,if_neg hqj]at hi;exact hsz.2 i hi⟩,setRow_heap w g cur _ e _ hg,hlen,hcap,hmax,by simp[q41,hcur],fun i hi=>by
      rw[List.getElem?_toArray,q3y _ _ _ _ hcl];simp only[vs',gAB,List.length_nil];by_cases hqi:q=i
      ·subst hqi;simp
      ·by_cases hqj:q+1=i
       ·subst hqj;simp
       ·rw[if_neg (by omega),if_neg hqi,if_neg hqj];simpa using hv i hi,fun i y' hy'=>by
      by_cases hqi:q=i
      ·subst hqi;unfold WR;rw[q5s,if_pos rfl];show CR _ _ x1 (if q=q then u1 else if q+1=q then u2 else vs q)/\(if q=q\/q+1=q then[]else fs q)=[];rw[if_pos rfl,if_pos (.inl rfl)];exact⟨hcr.goes gg,rfl⟩
      ·by_cases hqj:q+1=i
       ·subst hqj;unfold WR;rw[q5s,if_neg (by omega),q5s,if_pos rfl];show CR _ _ x2 (if q=q+1 then u1 else if q+1=q+1 then u2 else vs (q+1))/\(if q=q+1\/q+1=q+1 then[]else fs (q+1))=[];rw[if_neg (by omega),if_pos rfl,if_pos (.inr rfl)];exact⟨hcr2.goes gg,rfl⟩
       ·have hi:i<cells.length:=(gB.1 hy').1;have h1:=(hel i y' hy').goes gg fun b hb=>setRow_other w g b _ (fun e=>hnd.1 (q23.2 ⟨i,hi,e▸hb⟩));unfold WR at h1 ⊢;rw[q5s,if_neg hqi,q5s,if_neg hqj];simp only[vs',fs',if_neg hqi,if_neg hqj,if_neg (show ¬(q=i\/q+1=i)from fun e=>e.elim hqi hqj)];exact h1,hnd'⟩)
    exact qdb (by simp[hn]) hn (by simp[execOp,ho,hpx,hrun]) h2 r1 r3
   ·cases h2
  ·cases h2
 ·cases h2
end
end Ev
end
section
namespace Ev
open Go
def BoxR(w:World)(I J:Nat->Prop)(ys:List T)(v:Value)(F:List Nat):Prop:=
 ∃b cur e,v=.pointer (some ⟨b,0,none⟩)/\F=[b]/\w.heap[b]?=some (.cells cur e (0,0))/\ys.length=cur.size/\∀(i:Nat)(y:T)(u:Value),ys[i]?=some y->cur[i]?=some u->RB w I J y u
def ResV(w:World)(I J:Nat->Prop)(own:Bool)(x:T)(v:Value)(F:List Nat):Prop:=
 match x with
 |.agg xs=>∃vs:Array Value,∃fs,v=.agg vs/\xs.length=vs.size/\ND xs.length fs/\F=flat xs.length fs/\∀(i:Nat)(y:T)(u:Value),xs[i]?=some y->vs[i]?=some u->El w I J own y u (fs i)
 |.tup _=>False
 |.bx ys=>BoxR w I J ys v F
 |x=>El w I J own x v F
def ResT(w:World)(I J:Nat->Prop)(own:Bool)(x:T)(v:Value)(F:List Nat):Prop:=
 match x with
 |.tup ps=>∃us:Array Value,∃fs,v=.tuple us/\ps.length=us.size/\ND ps.length fs/\F=flat ps.length fs/\∀(i:Nat)(y:T)(u:Value),ps[i]?=some y->us[i]?=some u->ResV w I J own y u (fs i)
 |x=>ResV w I J own x v F
section
variable {P:Program}{E:Env}{c:Ctx}{s s1:St}{a:Act}{w:World}{val:Key->Value}{fp:Key->List Nat}{Ft:List Nat}
variable {l:Log}{K:St->Log->R}{r:T×List T}
def SI(c:Ctx)(w:World)(fp:Key->List Nat)(Ft:List Nat)(b:Bool)(x:Nat):Prop:=(c.I x\/c.own x)/\x<w.heap.size/\x∉Ft/\(b=false->∀k,x∉fp k)
def SJ(c:Ctx)(w:World)(fp:Key->List Nat)(Ft:List Nat)(b:Bool)(x:Nat):Prop:=(c.J x\/c.own x)/\x<w.heap.size/\x∉Ft/\(b=false->∀k,x∉fp k)
def Ob.live:Ob->Bool
 |.free|.gone|.moved _=>false
 |_=>true
def qal(o:Ob):Prop:=o.live=true
structure Snap(c:Ctx)(s s1:St)(a:Act)(w:World)(val:Key->Value)(fp:Key->List Nat)(Ft:List Nat):Prop where
 inv:Inv c s a w val fp
 obs:∀k,qal (s1.getO k)->s.getO k=s1.getO k/\∀x,x∈fp k->x∉Ft
 ft:∀x,x∈Ft->∃k,x∈fp k
 lent:∀x,Lent (mkFr c w val fp) s x->x∉Ft
abbrev SR(c:Ctx)(w:World)(fp:Key->List Nat)(Ft:List Nat)(b:Bool)(x:T)(v:Value):Prop:=RB w (SI c w fp Ft b) (SJ c w fp Ft b) x v
theorem SR.or{b b':Bool}{x:T}{v:Value}(h:SR c w fp Ft b x v)(hb:b=true->b'=true):SR c w fp Ft b' x v:=by
 have hb':b'=false->b=false:=fun e=>by cases b <;> simp_all
 exact RB.move h (fun x hx=>⟨⟨hx.1,hx.2.1,hx.2.2.1,fun e=>hx.2.2.2 (hb' e)⟩,rfl⟩) (fun x hx=>⟨⟨hx.1,hx.2.1,hx.2.2.1,fun e=>hx.2.2.2 (hb' e)⟩,rfl⟩)
theorem Snap.rb(h:Snap c s s1 a w val fp Ft)(b:Bool){x:T}{v:Value}(hx:RB w (inI c w fp) (inJ c w fp) x v):SR c w fp Ft b x v:=
 RB.move hx (fun x hx=>⟨⟨hx.1,hx.2.1,fun e=>by obtain⟨k,hk⟩:=h.ft x e;exact hx.2.2 k hk,fun _=>hx.2.2⟩,rfl⟩)
  (fun x hx=>⟨⟨hx.1,hx.2.1,fun e=>by obtain⟨k,hk⟩:=h.ft x e;exact hx.2.2 k hk,fun _=>hx.2.2⟩,rfl⟩)
theorem Snap.ownI(h:Snap c s s1 a w val fp Ft){k:Key}(hk:qal (s1.getO k)){x:Nat}(hx:x∈fp k):SI c w fp Ft true x:=
 ⟨.inr (h.inv.mine k x hx),h.inv.lt hx,(h.obs k hk).2 x hx,fun e=>by cases e⟩
theorem Snap.ownJ(h:Snap c s s1 a w val fp Ft){k:Key}(hk:qal (s1.getO k)){x:Nat}(hx:x∈fp k):SJ c w fp Ft true x:=
 ⟨.inr (h.inv.mine k x hx),h.inv.lt hx,(h.obs k hk).2 x hx,fun e=>by cases e⟩
theorem Snap.I_le(h:Snap c s s1 a w val fp Ft)(b:Bool){x:Nat}(hx:inI c w fp x):SI c w fp Ft b x:=
 ⟨hx.1,hx.2.1,fun e=>by obtain⟨k,hk⟩:=h.ft x e;exact hx.2.2 k hk,fun _=>hx.2.2⟩
theorem Snap.J_le(h:Snap c s s1 a w val fp Ft)(b:Bool){x:Nat}(hx:inJ c w fp x):SJ c w fp Ft b x:=
 ⟨hx.1,hx.2.1,fun e=>by obtain⟨k,hk⟩:=h.ft x e;exact hx.2.2 k hk,fun _=>hx.2.2⟩
theorem Snap.arr(h:Snap c s s1 a w val fp Ft){k:Key}{own deep:Bool}{sz:Nat}{cs:List T}(hk:s1.getO k=.arr own deep sz cs):SR c w fp Ft own (.sl sz cs) (val k):=by
 have hal:qal (s1.getO k):=by rw[hk];rfl
 have h0:=(h.obs k hal).1;rw[hk]at h0;have hob:=h.inv.obs k;rw[h0]at hob;cases own with
 |false=>exact h.rb false hob.1
 |true=>
  obtain⟨xs,Fg,fs,ho,hF⟩:=q9i.1 hob;exact ho.rb (fun b hb=>h.ownI hal (by rw[hF];exact hb)) (fun b hb=>h.I_le true hb) (fun b hb=>h.J_le true hb)
theorem Snap.objv(h:Snap c s s1 a w val fp Ft){k:Key}{own deep:Bool}{sz:Nat}{cs:List T}(hk:s1.getO k=.arr own deep sz cs){v:Value}(hx:CR (mkFr c w val fp) s (.obj k) v):v=val k:=by
 have h0:=(h.obs k (by rw[hk];rfl)).1;rw[hk]at h0;exact q6a hx h0
theorem qcc{f:Fr}{s:St}{k:Key}{v:Value}(h:CR f s (.obj k) v)(hl:qal (s.getO k)):v=f.val k:=by
 have h1:=h.1;unfold qal at hl;cases ho:s.getO k <;> rw[ho]at h1 hl <;> first|exact h1|cases hl
theorem Snap.objL(h:Snap c s s1 a w val fp Ft){k:Key}(hk:qal (s1.getO k)){v:Value}(hx:CR (mkFr c w val fp) s (.obj k) v):v=val k:=
 qcc hx (by rw[(h.obs k hk).1];exact hk)
theorem ShR.rb{f:Fr}{I J:Nat->Prop}{sz:Nat}{cells:List T}{u:Value}{F:List Nat}(h:ShR f sz cells u F)(hF:∀b,b∈F->I b)(hI:∀b,f.I b->I b)(hJ:∀b,f.J b->J b):RB f.w I J (.sl sz cells) u:=by
 rcases h with⟨hsz,rfl,rfl,a,rfl⟩|⟨g,len,cap,cur,e,vs,rfl,rfl,hsz,hg,hlen,hcap,hmax,hcur,hv,hc⟩
 ·exact .sl (fun _=>undef) hsz (by simp) (gAI _) (fun h=>absurd rfl h) (by simp)
 ·refine .sl vs hsz hlen hcap (fun _=>⟨g,0,rfl,hF g (by simp),fun i hi=>?_⟩) (fun i x hx=>RB.move (hc i x hx) (fun b hb=>⟨hI b hb,rfl⟩) (fun b hb=>⟨hJ b hb,rfl⟩));rw[gAJ,q48 hg];exact hv i hi
theorem Snap.lentR(h:Snap c s s1 a w val fp Ft){k:Key}{deep:Bool}{sz:Nat}{cs:List T}(hk:s1.getO k=.lent deep sz cs):SR c w fp Ft true (.sl sz cs) (val k):=by
 have hal:qal (s1.getO k):=by rw[hk];rfl
 have h0:=(h.obs k hal).1;rw[hk]at h0;have hob:=h.inv.obs k;rw[h0]at hob;cases deep with
 |true=>exact RO.rb hob fun b hb=>h.ownI hal hb
 |false=>exact ShR.rb hob (fun b hb=>h.ownI hal hb) (fun b hb=>h.I_le true hb) (fun b hb=>h.J_le true hb)
def qf8:List (Nat×T)->Nat->Option T
 |[],_=>none
 |(q,x)::r,i=>if q=i then some x else qf8 r i
theorem qbv:∀(xs:List (Nat×T))(l:List T),(qjm l xs).length=l.length
 |[],_=>rfl
 |(q,x)::r,l=>by rw[qjm,List.length_set,qbv r l]
theorem qhw:∀(xs:List (Nat×T))(l:List T)(i:Nat),i<l.length->(qjm l xs)[i]?=match qf8 xs i with|some x=>some x|none=>l[i]?
 |[],_,_,_=>rfl
 |(q,x)::r,l,i,hi=>by
  rw[qjm,List.getElem?_set,qf8];by_cases hq:q=i
  ·rw[if_pos hq,if_pos hq,if_pos (by rw[qbv];omega)]
  ·rw[if_neg hq,if_neg hq];exact qhw r l i hi
def Named(ws:List (Nat×C))(xs:List (Nat×T))(p:C->T->Prop):Prop:=∀i,(q5s ws i=none/\qf8 xs i=none)\/∃c x,q5s ws i=some c/\qf8 xs i=some x/\p c x
theorem Named.nil{p:C->T->Prop}:Named [] [] p:=fun _=>.inl ⟨rfl,rfl⟩
theorem Named.cons{ws:List (Nat×C)}{xs:List (Nat×T)}{p:C->T->Prop}(h:Named ws xs p){q:Nat}{c:C}{x:T}(hp:p c x):Named ((q,c)::ws) ((q,x)::xs) p:=fun i=>by
 rw[q5s,qf8];by_cases hq:q=i
 ·rw[if_pos hq,if_pos hq];exact .inr ⟨c,x,rfl,rfl,hp⟩
 ·rw[if_neg hq,if_neg hq];exact h i
theorem qpj(h:Snap c s s1 a w val fp Ft){x:C}{f:T->Prog}{l:Log}(hr:runP E (qxa x f) s1 l K=some r) :
 ∃y l',runP E (f y) s1 l' K=some r/\∀v,CR (mkFr c w val fp) s x v->SR c w fp Ft true y v:=by
 unfold qxa at hr;split at hr
 ·rename_i y;exact⟨y,l,hr,fun v hx=>h.rb true hx⟩
 ·rename_i k;rw[q3s]at hr;split at hr
  ·rename_i own deep sz cs hk;exact⟨_,_,hr,fun v hx=>by rw[h.objv hk hx];exact(h.arr hk).or fun _=>rfl⟩
  ·cases hr
 ·exact⟨.hole,l,hr,fun v hx=>.hole (CR.one hx)⟩
 ·cases hr
theorem qgn(h:Snap c s s1 a w val fp Ft):∀{ws:List (Nat×C)}{f:List (Nat×T)->Prog}{l:Log},runP E (qr1 ws f) s1 l K=some r->
 ∃xs l',runP E (f xs) s1 l' K=some r/\Named ws xs fun x y=>∀v,CR (mkFr c w val fp) s x v->SR c w fp Ft true y v
 |[],f,l,hr=>⟨[],l,hr,Named.nil⟩
 |(q,x)::ws,f,l,hr=>by
  rw[qr1]at hr;obtain⟨y,l1,h1,hy⟩:=qpj h hr;obtain⟨xs,l2,h2,hxs⟩:=qgn h h1;exact⟨(q,y)::xs,l2,h2,hxs.cons hy⟩
theorem Snap.opnR(h:Snap c s s1 a w val fp Ft){k:Key}{sz:Nat}{cs:List T}{ws:List (Nat×C)}(hk:s1.getO k=.opn sz cs ws){xs:List (Nat×T)}
 (hxs:Named ws xs fun x y=>∀v,CR (mkFr c w val fp) s x v->SR c w fp Ft true y v):SR c w fp Ft true (.sl sz (qjm cs xs)) (val k):=by
 have hal:qal (s1.getO k):=by rw[hk];rfl
 have h0:=(h.obs k hal).1;rw[hk]at h0;have hob:=h.inv.obs k;rw[h0]at hob;obtain⟨g,len,cap,cur,e,vs,fs,hu,hF,hsz,hg,hlen,hcap,hmax,hcur,hv,hel,hnd⟩:=hob;have hg:w.heap[g]?=some (.cells cur e (0,0)):=hg;rw[hu];refine .sl vs hsz.1 (by rw[qbv];exact hlen) hcap (fun _=>⟨g,0,rfl,h.ownI hal (by rw[hF];simp),fun i hi=>?_⟩) (fun i x hx=>?_)
 ·rw[gAJ,q48 hg];exact hv i (by rwa[qbv]at hi)
 ·have hi:i<cs.length:=by have:=(gB.1 hx).1;rwa[qbv]at this
  rw[qhw _ _ _ hi]at hx;have hw:=hel i _ (gA hi);unfold WR at hw;rcases hxs i with⟨h1,h2⟩|⟨cc,y,h1,h2,h3⟩
  ·rw[h1]at hw;rw[h2]at hx;have hx:cs[i]?=some x:=hx;rw[gA hi]at hx;cases hx;refine RO.rb hw fun b hb=>h.ownI hal ?_;rw[hF];exact gF _ (List.mem_flatMap.2 ⟨i,by simpa using hi,hb⟩)
  ·rw[h1]at hw;rw[h2]at hx;have hx:some y=some x:=hx;cases hx;exact h3 _ hw.1
theorem qa9(h:Snap c s s1 a w val fp Ft){t:TypeId}{x:C}{v:Value}(hx:CR (mkFr c w val fp) s x v){f:T->Bool->Prog}(hr:runP E (qjg P t x f) s1 l K=some r) :
 ∃y b l',runP E (f y b) s1 l' K=some r/\SR c w fp Ft b y v:=by
 unfold qjg at hr;split at hr
 ·rename_i y;exact⟨y,false,l,hr,h.rb false hx⟩
 ·have hv:v=.slice none 0 0:=hx;subst hv;split at hr
  ·rename_i e he;rw[q1s]at hr;replace hr:=q1c hr;obtain⟨hs,hr⟩:=hr;exact⟨_,false,l,hr,RB.sl (fun _=>undef) (qag hs) (by simp) (gAI _) (fun h=>absurd rfl h) (by simp)⟩
  ·cases hr
 ·rename_i k;rw[q3s]at hr;split at hr
  ·rename_i own deep sz cs hk;exact⟨_,own,_,hr,by rw[h.objv hk hx];exact h.arr hk⟩
  ·rename_i deep sz cs hk;exact⟨_,true,_,hr,by rw[h.objL (by rw[hk];rfl) hx];exact h.lentR hk⟩
  ·rename_i sz cs ws hk;obtain⟨xs,l1,h1,hxs⟩:=qgn h hr;exact⟨_,true,l1,h1,by rw[h.objL (by rw[hk];rfl) hx];exact h.opnR hk hxs⟩
  ·cases hr
 ·rename_i y;refine⟨y,true,l,hr,?_⟩;have hx:RB w (fun b=>inI c w fp b\/Lent (mkFr c w val fp) s b) (fun b=>inJ c w fp b\/Lent (mkFr c w val fp) s b) y v:=hx
  have lt:∀b,Lent (mkFr c w val fp) s b->(c.own b/\b<w.heap.size):=by
   rintro b ⟨k,_,hb⟩;exact⟨h.inv.mine k b hb,h.inv.lt hb⟩
  refine RB.move hx (fun b hb=>⟨?_,rfl⟩) (fun b hb=>⟨?_,rfl⟩)
  ·rcases hb with hb|hb
   ·exact h.I_le true hb
   ·exact⟨.inr (lt b hb).1,(lt b hb).2,h.lent b hb,fun e=>by cases e⟩
  ·rcases hb with hb|hb
   ·exact h.J_le true hb
   ·exact⟨.inr (lt b hb).1,(lt b hb).2,h.lent b hb,fun e=>by cases e⟩
 ·cases hr
theorem qc3(h:Snap c s s1 a w val fp Ft):∀{ts:List TypeId}{cs:List C}{vs:List Value}{f:List T->Bool->Prog}{l:Log},CRs (mkFr c w val fp) s cs vs->runP E (qif P ts cs f) s1 l K=some r->
 ∃ys b l',runP E (f ys b) s1 l' K=some r/\ys.length=vs.length/\∀(i:Nat)(y:T)(v:Value),ys[i]?=some y->vs[i]?=some v->SR c w fp Ft b y v
 |[],[],vs,f,l,hx,hr=>by
  have:vs=[]:=gL (by simpa using hx.1.symm);subst this;exact⟨[],false,l,hr,rfl,by simp⟩
 |t::ts,x::cs,[],f,l,hx,hr=>by have:=hx.1;simp at this
 |t::ts,x::cs,v::vs,f,l,hx,hr=>by
  rw[qif]at hr;obtain⟨y,b,l1,h1,hy⟩:=qa9 h (hx.2 0 x v rfl rfl) hr;obtain⟨ys,b',l2,h2,hl,hys⟩:=qc3 h (vs:=vs) ⟨by simpa using hx.1,fun i c v hc hv=>hx.2 (i+1) c v (by simpa using hc) (by simpa using hv)⟩ h1;refine⟨y::ys,b||b',l2,h2,by simp[hl],fun i z u hz hu=>?_⟩;cases i with
  |zero=>simp at hz hu;subst hz;subst hu;exact hy.or (by simp;intro h;exact .inl h)
  |succ i=>exact(hys i z u (by simpa using hz) (by simpa using hu)).or (by simp;intro h;exact .inr h)
 |[],_::_,_,_,_,_,hr=>by cases hr
 |_::_,[],_,_,_,_,hr=>by cases hr
theorem qt2{vs:List Value}{i:Nat}{v:Value}(h:vs[i]?=some v):vs.getD i undef=v:=by
 rw[gI,h];rfl
theorem SR.rref{b:Nat}{q:Nat}{ys:List T}{f:Nat->Value}(hJ:ys≠[]->SJ c w fp Ft true b)(hc:∀i,i<ys.length->w.cell? ⟨b,q+i,none⟩=some (f i))
 (hr:∀(i:Nat)(y:T),ys[i]?=some y->SR c w fp Ft true y (f i)):SR c w fp Ft true (.rref ys 0) (.pointer (some ⟨b,q,none⟩)):=
 RB.rref (q:=0) f hJ hc hr
theorem Snap.box(h:Snap c s s1 a w val fp Ft){k:Key}{cells:List C}(hk:s1.getO k=.box cells) :
 ∃b cur e,val k=.pointer (some ⟨b,0,none⟩)/\fp k=[b]/\w.heap[b]?=some (.cells cur e (0,0))/\CRs (mkFr c w val fp) s cells cur.toList/\s.getO k=.box cells:=by
 have h0:=(h.obs k (by rw[hk];rfl)).1;rw[hk]at h0;have hob:=h.inv.obs k;rw[h0]at hob;obtain⟨b,cur,e,hu,hF,hh,hcs⟩:=hob;exact⟨b,cur,e,hu,hF,hh,hcs,h0⟩
theorem CRs.cut{f:Fr}{s:St}{cs:List C}{vs:List Value}(h:CRs f s cs vs)(q n:Nat):CRs f s ((cs.drop q).take n) ((vs.drop q).take n):=by
 refine⟨by simp[h.1],fun i c v hc hv=>?_⟩;rw[gT]at hc hv;split at hc
 ·rename_i hi;rw[if_pos hi]at hv;rw[gV]at hc hv;exact h.2 _ c v hc hv
 ·cases hc
theorem qno(h:Snap c s s1 a w val fp Ft){t:TypeId}{x:C}{v:Value}(hx:CR (mkFr c w val fp) s x v){f:T->Bool->Prog}(hr:runP E (qtx P t x f) s1 l K=some r) :
 ∃y b l',runP E (f y b) s1 l' K=some r/\SR c w fp Ft b y v:=by
 unfold qtx at hr;split at hr
 ·rename_i k q;rw[q3s]at hr;split at hr
  ·rename_i cells hk;obtain⟨b,cur,e,hu,hF,hh,hcs,h0⟩:=h.box hk;have hp:q8j (val k) q v:=q6y hx h0 (.inl ⟨_,rfl⟩);rw[hu]at hp;have hv:v=.pointer (some ⟨b,0+q,none⟩):=hp;rw[gAJ]at hv;obtain⟨ys,b',l1,h1,hl,hys⟩:=qc3 h (hcs.cut q (q38 P (qbj P t))) hr;refine⟨_,true,l1,h1,?_⟩;rw[hv]
   have hget:∀i,i<ys.length->((cur.toList.drop q).take (q38 P (qbj P t)))[i]?=some (cur.getD (q+i) undef):=fun i hi=>by
    rw[hl]at hi;have h4:=hi;rw[gAF,gAA,Array.length_toList]at h4;rw[gT,if_pos (by omega),gV,Array.getElem?_toList];have:q+i<cur.size:=by omega
    simp[this]
   refine SR.rref (f:=fun i=>cur.getD (q+i) undef) (fun _=>h.ownJ (by rw[hk];rfl) (by rw[hF];simp)) (fun i hi=>?_) (fun i y hy=>(hys i y _ hy (hget i (gB.1 hy).1)).or fun _=>rfl);rw[q48 hh];have h4:=hi;rw[hl,gAF,gAA,Array.length_toList]at h4;have:q+i<cur.size:=by omega
   simp[this]
  ·rename_i own deep sz cells hk;have hal:qal (s1.getO k):=by rw[hk];rfl
   have h0:=(h.obs k hal).1;rw[hk]at h0;have hp:q8j (val k) q v:=q6y hx h0 (.inr (.inl ⟨_,_,_,_,rfl⟩));have hsr:=h.arr hk;refine⟨_,own,_,hr,?_⟩;generalize hn:q38 P (qbj P t)=n;obtain⟨A,len,cap,hv,hpos,hlen,hcap,vs,hc,hcells⟩:=RB.sl_inv hsr;rw[hv]at hp
   have hget:∀(i:Nat)(y:T),((cells.drop q).take n)[i]?=some y->cells[q+i]?=some y:=fun i y hy=>by
    rw[gT]at hy;split at hy
    ·rwa[gV]at hy
    ·cases hy
   have hlt:∀i,i<((cells.drop q).take n).length->q+i<cells.length:=fun i hi=>by simp at hi;omega
   have hpv:∃b o,A=some ⟨b,o,none⟩/\v=.pointer (some ⟨b,o+q,none⟩):=by
    cases A with
    |none=>exact hp.elim
    |some A=>
     obtain⟨b,o,sp⟩:=A;cases sp with
     |none=>exact⟨b,o,rfl,hp⟩
     |some _=>exact hp.elim
   obtain⟨b,o,rfl,rfl⟩:=hpv;refine RB.rref (q:=0) (fun i=>vs (q+i)) (fun hne=>?_) (fun i hi=>?_) (fun i y hy=>hc _ _ (hget i y hy))
   ·have hne':cells≠[]:=by intro e;rw[e]at hne;simp at hne
    obtain⟨b',o',e,hI,_⟩:=hcells hne';cases e;exact⟨hI.1.imp (h.inv.ij b) id,hI.2⟩
   ·have hi':=hlt i hi;have hne':cells≠[]:=by intro e;rw[e]at hi';simp at hi'
    obtain⟨b',o',e,hI,hcell⟩:=hcells hne';cases e;have h5:=hcell (q+i) hi';rw[<- Nat.add_assoc]at h5;exact h5
  ·cases hr
 ·rename_i cells q;refine⟨_,false,l,hr,?_⟩;have hx':=h.rb false (CR_t hx);generalize hn:q38 P (qbj P t)=n;cases hx' with
  |rref vs hJ hcell hc=>
   rename_i b o;refine RB.rref (q:=0) (o:=o+q) (fun i=>vs (q+i)) (fun hne=>hJ (fun e=>hne (by rw[e];simp))) (fun i hi=>?_) (fun i y hy=>?_)
   ·simp at hi;rw[Nat.add_assoc];exact hcell _ (by omega)
   ·rw[gT]at hy;split at hy
    ·rw[gV]at hy;exact hc _ _ hy
    ·cases hy
 ·exact qa9 h hx hr
theorem qc6(h:Snap c s s1 a w val fp Ft):∀{cs:List C}{vs:List Value}{f:List T->Prog}{l:Log},CRs (mkFr c w val fp) s cs vs->runP E (qaw.snapAll cs f) s1 l K=some r->
 ∃ys l',runP E (f ys) s1 l' K=some r/\ys.length=vs.length/\∀(i:Nat)(y:T)(v:Value),ys[i]?=some y->vs[i]?=some v->SR c w fp Ft true y v
 |[],vs,f,l,hx,hr=>by
  have:vs=[]:=gL (by simpa using hx.1.symm);subst this;exact⟨[],l,hr,rfl,by simp⟩
 |x::cs,[],f,l,hx,hr=>by have:=hx.1;simp at this
 |x::cs,v::vs,f,l,hx,hr=>by
  have hx0:=hx.2 0 x v rfl rfl;have hxr:CRs (mkFr c w val fp) s cs vs:=⟨by simpa using hx.1,fun i c v hc hv=>hx.2 (i+1) c v (by simpa using hc) (by simpa using hv)⟩;cases x with
  |t y=>
   rw[qaw.snapAll]at hr;obtain⟨ys,l2,h2,hl,hys⟩:=qc6 h hxr hr;refine⟨y::ys,l2,h2,by simp[hl],fun i z u hz hu=>?_⟩;cases i with
   |zero=>simp at hz hu;subst hz;subst hu;exact h.rb true hx0
   |succ i=>exact hys i z u (by simpa using hz) (by simpa using hu)
  |obj k=>
   rw[qaw.snapAll,q3s]at hr;split at hr
   ·rename_i own deep sz cells hk;obtain⟨ys,l2,h2,hl,hys⟩:=qc6 h hxr hr;refine⟨_::ys,l2,h2,by simp[hl],fun i z u hz hu=>?_⟩;cases i with
    |zero=>
     simp at hz hu;subst hz;subst hu;rw[h.objv hk hx0];exact(h.arr hk).or fun _=>rfl
    |succ i=>exact hys i z u (by simpa using hz) (by simpa using hu)
   ·cases hr
  |nil=>simp[qaw.snapAll,runP]at hr
  |ptr k q=>simp[qaw.snapAll,runP]at hr
  |undef=>simp[qaw.snapAll,runP]at hr
  |view _=>simp[qaw.snapAll,runP]at hr
  |kept _ _=>simp[qaw.snapAll,runP]at hr
theorem qle(h:Snap c s s1 a w val fp Ft){x:C}{v:Value}(hx:CR (mkFr c w val fp) s x v){f:T->Bool->Prog}(hr:runP E (qaw x f) s1 l K=some r) :
 ∃y b l',runP E (f y b) s1 l' K=some r/\SR c w fp Ft b y v:=by
 unfold qaw at hr;split at hr
 ·rename_i k q;rw[q3s]at hr;split at hr
  ·rename_i cells hk;obtain⟨b,cur,e,hu,hF,hh,hcs,h0⟩:=h.box hk;have hp:q8j (val k) q v:=q6y hx h0 (.inl ⟨_,rfl⟩);rw[hu]at hp;have hv:v=.pointer (some ⟨b,0+q,none⟩):=hp;split at hr
   ·rename_i cs;rw[Nat.add_zero]at hv;obtain⟨ys,l1,h1,hl,hys⟩:=qc6 h hcs hr;refine⟨_,true,l1,h1,?_⟩;rw[hv]
    have hget:∀i,i<ys.length->cur[i]?=some (cur.getD i undef):=fun i hi=>by
     rw[hl,Array.length_toList]at hi;simp[hi]
    refine SR.rref (f:=fun i=>cur.getD i undef) (fun _=>h.ownJ (by rw[hk];rfl) (by rw[hF];simp)) (fun i hi=>?_) (fun i y hy=>hys i y _ hy (by rw[Array.getElem?_toList];exact hget i (gB.1 hy).1));rw[q48 hh,gAJ];exact hget i hi
   ·cases hr
  ·cases hr
 ·rename_i y;exact⟨y,false,l,hr,h.rb false hx⟩
 ·rename_i k;rw[q3s]at hr;split at hr
  ·rename_i own deep sz cs hk;exact⟨_,own,_,hr,by rw[h.objv hk hx];exact h.arr hk⟩
  ·cases hr
 ·cases hr
theorem qbk(h:Snap c s s1 a w val fp Ft):∀{cs:List C}{vs:List Value}{f:List T->Bool->Prog}{l:Log},CRs (mkFr c w val fp) s cs vs->runP E (qf1 cs f) s1 l K=some r->
 ∃ys b l',runP E (f ys b) s1 l' K=some r/\ys.length=vs.length/\∀(i:Nat)(y:T)(v:Value),ys[i]?=some y->vs[i]?=some v->SR c w fp Ft b y v
 |[],vs,f,l,hx,hr=>by
  have:vs=[]:=gL (by simpa using hx.1.symm);subst this;exact⟨[],false,l,hr,rfl,by simp⟩
 |x::cs,[],f,l,hx,hr=>by have:=hx.1;simp at this
 |x::cs,v::vs,f,l,hx,hr=>by
  rw[qf1]at hr;obtain⟨y,b,l1,h1,hy⟩:=qle h (hx.2 0 x v rfl rfl) hr;obtain⟨ys,b',l2,h2,hl,hys⟩:=qbk h (vs:=vs) ⟨by simpa using hx.1,fun i c v hc hv=>hx.2 (i+1) c v (by simpa using hc) (by simpa using hv)⟩ h1;refine⟨y::ys,b||b',l2,h2,by simp[hl],fun i z u hz hu=>?_⟩;cases i with
  |zero=>simp at hz hu;subst hz;subst hu;exact hy.or (by simp;intro h;exact .inl h)
  |succ i=>exact(hys i z u (by simpa using hz) (by simpa using hu)).or (by simp;intro h;exact .inr h)
theorem RB.notAgg{I J:Nat->Prop}{y:T}{u:Value}(hy:RB w I J y u):ResV w I J false y u []:=by
 cases hy <;> (refine⟨?_,rfl⟩)
 ·exact .int _ _
 ·exact .bool _
 ·exact .str _
 ·exact .sl _ (by assumption) (by assumption) (by assumption) (by assumption) (by assumption)
 ·exact .rref _ (by assumption) (by assumption) (by assumption)
 ·exact .clo _ (by assumption) (by assumption)
 ·exact .hole (by assumption)
 ·exact .mp (by assumption) (by assumption) (by assumption)
theorem qot(h:Snap c s s1 a w val fp Ft){t:TypeId}{x:V}{v:Value}(hx:VR (mkFr c w val fp) s x v){f:T->Bool->Prog}(hr:runP E (qxz P t x f) s1 l K=some r) :
 ∃y b l',runP E (f y b) s1 l' K=some r/\ResV w (SI c w fp Ft b) (SJ c w fp Ft b) false y v []:=by
 unfold qxz at hr;split at hr
 ·obtain⟨y,b,l1,h1,hy⟩:=qno h hx hr;exact⟨y,b,l1,h1,RB.notAgg hy⟩
 ·obtain⟨vs,rfl,hcs⟩:=hx;obtain⟨ys,b,l1,h1,hl,hys⟩:=qc3 h hcs hr;refine⟨_,b,l1,h1,vs,fun _=>[],rfl,by simpa using hl,ND.nil _,by simp[flat],fun i y u hy hu=>⟨hys i y u hy (by simpa using hu),rfl⟩⟩
 ·rename_i fn cs;obtain⟨vs,rfl,hcs⟩:=hx;obtain⟨ys,b,l1,h1,hl,hys⟩:=qbk h hcs hr;refine⟨_,b,l1,h1,RB.notAgg (RB.clo (fun i=>vs.getD i undef) ?_ fun i y hy=>?_)⟩
  ·apply Array.ext';apply List.ext_getElem?;intro i;rw[gAC];by_cases hi:i<ys.length
   ·have:i<vs.size:=by rw[hl]at hi;simpa using hi
    simp[hi,this]
   ·have:¬ i<vs.size:=by rw[hl]at hi;simpa using hi
    simp[hi,this]
  ·have hi:=(gB.1 hy).1;have:i<vs.size:=by rw[hl]at hi;simpa using hi
   exact hys i y _ hy (by simp[this])
 ·cases hr
theorem ResV.or{b b':Bool}{x:T}{v:Value}(h:ResV w (SI c w fp Ft b) (SJ c w fp Ft b) false x v [])(hb:b=true->b'=true):ResV w (SI c w fp Ft b') (SJ c w fp Ft b') false x v []:=by
 unfold ResV at *;cases x with
 |agg xs=>
  obtain⟨vs,fs,h1,h2,h3,h4,h5⟩:=h;exact⟨vs,fs,h1,h2,h3,h4,fun i y u hy hu=>⟨SR.or (h5 i y u hy hu).1 hb,(h5 i y u hy hu).2⟩⟩
 |tup _=>exact h
 |int _ _=>exact⟨SR.or h.1 hb,rfl⟩
 |bool _=>exact⟨SR.or h.1 hb,rfl⟩
 |str _=>exact⟨SR.or h.1 hb,rfl⟩
 |sl _ _=>exact⟨SR.or h.1 hb,rfl⟩
 |rref _ _=>exact⟨SR.or h.1 hb,rfl⟩
 |clo _ _=>exact⟨SR.or h.1 hb,rfl⟩
 |hole=>exact⟨SR.or h.1 hb,rfl⟩
 |mp _=>exact⟨SR.or h.1 hb,rfl⟩
 |bx _=>obtain⟨_,_,_,_,hF,_⟩:=h;cases hF
end
end Ev
end
section
namespace Ev
open Go
def Does(P:Program)(g:FuncId)(vs:Array Value)(w:World)(R:Value->World->Prop):Prop:=
 match (callFunc g vs).run P w with
 |.ok (.value v) w'=>R v w'
 |.ok (.enter f args) w'=>Calls P f args w' fun e w''=>∃v,e=.returned v/\R v w''
 |_=>False
def qhg(w:World)(I J:Nat->Prop)(os:List Bool)(ys:List T)(us:List Value)(fs:Nat->List Nat):Prop:=
 ys.length=us.length/\ND ys.length fs/\∀(i:Nat)(y:T)(u:Value),ys[i]?=some y->us[i]?=some u->El w I J (os.getD i false) y u (fs i)
def qq4(w:World)(I J:Nat->Prop)(os:List Bool)(ys:List T)(v:Value)(F:List Nat):Prop:=
 ∃b cur e fs,v=.pointer (some ⟨b,0,none⟩)/\F=b::flat ys.length fs/\b∉flat ys.length fs/\w.heap[b]?=some (.cells cur e (0,0))/\qhg w I J os ys cur.toList fs
def AggT(w:World)(ys:List T)(v:Value)(F:List Nat):Prop:=
 ∃vs:Array Value,∃fs,v=.agg vs/\F=flat ys.length fs/\qhg w (fun _=>False) (fun _=>False) (qe1 ys) ys vs.toList fs
def ArgT(w:World)(I J:Nat->Prop)(md:Mode)(x:T)(v:Value)(F:List Nat):Prop:=
 match md with
 |.src=>∃ys,x=.rref ys 0/\qq4 w I J [] ys v F
 |.ptr os=>∃ys,x=.rref ys 0/\qq4 w I J os ys v F
 |.sl=>(∃sz cs,x=.sl sz cs)/\RO w x v F
 |.val=>∃ys,x=.agg ys/\AggT w ys v F
 |.two _=>(∃sz cs,x=.sl sz cs)/\RO w x v F
 |.both _=>∃ys,x=.rref ys 0/\qq4 w I J [] ys v F
def qe2(w:World)(v:Value)(j:Nat):Value:=
 match v with
 |.pointer (some ⟨b,_,_⟩)=>match w.heap[b]? with
  |some (.cells cur _ _)=>cur.getD j undef
  |_=>undef
 |_=>undef
def OutT(w:World)(I J:Nat->Prop)(kept:Nat->Value)(md:Mode)(x:T)(v:Value)(F:List Nat):Prop:=
 match md with
 |.src=>∃ys,x=.agg ys/\∃b cur e,v=.pointer (some ⟨b,0,none⟩)/\F=[b]/\w.heap[b]?=some (.cells cur e (0,0))/\ys.length=cur.size/\
  ∀(i:Nat)(y:T)(u:Value),ys[i]?=some y->cur[i]?=some u->(y.scalar=true->RB w I J y u)/\(y.scalar=false->u=kept i)
 |.ptr os=>∃ys,x=.agg ys/\qq4 w I J os ys v F
 |.sl=>(∃sz cs,x=.sl sz cs)/\RO w x v F
 |.val=>∃ys,x=.agg ys/\AggT w ys v F
 |.two _=>False
 |.both _=>∃ys,x=.agg ys/\∃b cur e,v=.pointer (some ⟨b,0,none⟩)/\F=[b]/\w.heap[b]?=some (.cells cur e (0,0))/\ys.length=cur.size/\
  ∀(i:Nat)(y:T)(u:Value),ys[i]?=some y->cur[i]?=some u->(y.scalar=true->RB w I J y u)/\(y.scalar=false->u=kept i)
theorem qu3{w:World}{I J:Nat->Prop}{kept:Nat->Value}{md:Mode}{x:T}{v:Value}{F:List Nat}:OutT w I J kept md.bare x v F=OutT w I J kept md x v F:=by cases md <;> rfl
def qs5(at_:Attr)(args:List T)(vs:Array Value)(w:World)(F1 F:List Nat):Prop:=
 match at_.more with
 |none=>F1=F
 |some m=>∃y u F2,args[m]?=some y/\vs[m]?=some u/\(∃sz cs,y=.sl sz cs)/\RO w y u F2/\F=F1++F2/\∀b,b∈F1->b∉F2
structure Pre(at_:Attr)(args:List T)(w:World)(I J:Nat->Prop)(vs:Array Value)(F:List Nat):Prop where
 ij:∀b,I b->J b
 len:vs.size=args.length
 vals:∀(i:Nat)(x:T)(v:Value),at_.turn≠some i->at_.more≠some i->args[i]?=some x->vs[i]?=some v->ResV w I J false x v []
 turned:∀i,at_.turn=some i->∃x v F1,args[i]?=some x/\vs[i]?=some v/\ArgT w I J at_.md x v F1/\qs5 at_ args vs w F1 F
 none:at_.turn=none->F=[]
 ap:∀b,b∈F->¬ J b
 lt:∀b,J b->b<w.heap.size
def aftI(I:Nat->Prop)(w w':World)(F Fr Fo:List Nat)(b:Nat):Prop:=(I b\/b∈F\/w.heap.size<=b)/\b<w'.heap.size/\b∉Fr/\b∉Fo
structure Done(at_:Attr)(w:World)(I J:Nat->Prop)(vs:Array Value)(F:List Nat)(r:T×List T)(v:Value)(w':World)(Fr Fo:List Nat):Prop where
 kp:Kp (· ∈ F) w w'
 fr:∀b,b∈Fr\/b∈Fo->b∈F\/w.heap.size<=b
 ap:∀b,b∈Fr->b∉Fo
 res:ResT w' (aftI I w w' F Fr Fo) (aftI J w w' F Fr Fo) at_.own r.1 v Fr
 out:(at_.turn=none/\r.2=[]/\Fo=[])\/(∃i y u,at_.turn=some i/\at_.take=false/\r.2=[y]/\vs[i]?=some u/\OutT w' (aftI I w w' F Fr Fo) (aftI J w w' F Fr Fo) (qe2 w u) at_.md y u Fo)\/(at_.take=true/\r.2=[]/\Fo=[])
def Meets(P:Program)(at_:Attr)(f:FuncId)(args:List T)(r:T×List T):Prop:=
 ∀w I J vs F,Pre at_ args w I J vs F->Does P f vs w fun v w'=>∃Fr Fo,Done at_ w I J vs F r v w' Fr Fo
structure Ent where
 key:Key
 ob:Ob
 tr:T
 v:Value
 F:List Nat
def Ent.Ok(e:Ent):Prop:=(∃sz cs,e.tr=.sl sz cs/\e.ob=.arr true true sz cs)\/∃l,e.tr=.mp l/\e.ob=.mp l
theorem Ent.Ok.ne{e:Ent}(h:e.Ok):e.ob ≠ .free:=by
 rcases h with⟨sz,cs,_,h⟩|⟨l,_,h⟩ <;> rw[h] <;> exact fun h=>by cases h
theorem Ent.Ok.alive{e:Ent}(h:e.Ok):qal e.ob:=by
 rcases h with⟨sz,cs,_,h⟩|⟨l,_,h⟩ <;> rw[h] <;> rfl
theorem Ent.Ok.obr{e:Ent}(h:e.Ok){fr:Fr}{s:St}(hr:RO fr.w e.tr e.v e.F):ObR fr s e.ob e.v e.F:=by
 rcases h with⟨sz,cs,h1,h⟩|⟨l,h1,h⟩ <;> rw[h] <;> rw[h1]at hr <;> exact hr
def Ent.Good(w1:World)(I1 J1:Nat->Prop)(p:Prop)(e:Ent):Prop:=(e.Ok/\RO w1 e.tr e.v e.F)\/(p/\∃ys,e.ob=.box (ys.map C.t)/\BoxR w1 I1 J1 ys e.v e.F)
section
variable {w1:World}{I1 J1:Nat->Prop}{p:Prop}{e:Ent}
theorem Ent.Good.ne(h:e.Good w1 I1 J1 p):e.ob ≠ .free:=by
 rcases h with h|⟨_,ys,h,_⟩
 ·exact h.1.ne
 ·rw[h];exact fun h=>by cases h
theorem Ent.Good.alive(h:e.Good w1 I1 J1 p):qal e.ob:=by
 rcases h with h|⟨_,ys,h,_⟩
 ·exact h.1.alive
 ·rw[h];rfl
theorem Ent.Good.obr(h:e.Good w1 I1 J1 p){fr:Fr}{s:St}(hw:fr.w=w1)(hI:p->∀b,I1 b->fr.I b)(hJ:p->∀b,J1 b->fr.J b):ObR fr s e.ob e.v e.F:=by
 rcases h with h|⟨hp,ys,h,b,cur,ty,hv,hF,hh,hl,hc⟩
 ·exact h.1.obr (by rw[hw];exact h.2)
 ·rw[h];refine⟨b,cur,ty,hv,hF,by rw[hw];exact hh,by simpa using hl,fun i c v hci hvi=>?_⟩;rw[gAC,gP]at hci;obtain⟨y,hy,rfl⟩:=hci;show RB fr.w fr.I fr.J y v;rw[hw];exact RB.move (hc i y v hy (by simpa using hvi)) (fun b hb=>⟨hI hp b hb,rfl⟩) (fun b hb=>⟨hJ hp b hb,rfl⟩)
end
structure Taken(w1:World)(I1 J1:Nat->Prop)(p:Prop)(s s':St)(N:List Ent)(F:List Nat):Prop where
 tm:∀i,s'.getT i=s.getT i
 same:∀k,(∀e,e∈N->e.key≠k)->s'.getO k=s.getO k
 ent:∀e,e∈N->s.getO e.key=.free/\s'.getO e.key=e.ob/\e.Good w1 I1 J1 p/\∀x,x∈e.F->x∈F
 dis:N.Pairwise fun a b=>a.key≠b.key/\∀x,x∈a.F->x∉b.F
structure Fits(w1:World)(I1 J1:Nat->Prop)(own fl:Bool)(fr:Fr)(s:St)(N:List Ent):Prop where
 w:fr.w=w1
 I:own=false->fl=false->∀b,I1 b->fr.I b
 J:own=false->fl=false->∀b,J1 b->fr.J b
 ent:∀e,e∈N->s.getO e.key=e.ob/\fr.val e.key=e.v
theorem Fits.sub{w1:World}{I1 J1:Nat->Prop}{own fl:Bool}{fr:Fr}{s:St}{N N':List Ent}(h:Fits w1 I1 J1 own fl fr s N)(hn:∀e,e∈N'->e∈N):Fits w1 I1 J1 own fl fr s N':=
 ⟨h.w,h.I,h.J,fun e he=>h.ent e (hn e he)⟩
theorem Taken.refl(w1:World){I1 J1:Nat->Prop}{p:Prop}(s:St)(F:List Nat):Taken w1 I1 J1 p s s [] F:=⟨fun _=>rfl,fun _ _=>rfl,by simp,List.Pairwise.nil⟩
theorem Taken.trans{w1:World}{I1 J1:Nat->Prop}{p:Prop}{s s' s'':St}{N N':List Ent}{F F' G:List Nat}(h:Taken w1 I1 J1 p s s' N F)(h':Taken w1 I1 J1 p s' s'' N' F')(hd:∀x,x∈F->x∉F')(hG:∀x,x∈F\/x∈F'->x∈G):Taken w1 I1 J1 p s s'' (N++N') G:=by
 have hne:∀e e',e∈N->e'∈N'->e.key≠e'.key:=fun e e' he he' hk=>by
  have h1:=(h.ent e he).2.1;have h2:=(h'.ent e' he').1;rw[hk,h2]at h1;exact(h.ent e he).2.2.1.ne h1.symm
 refine⟨fun i=>(h'.tm i).trans (h.tm i),fun k hk=>?_,fun e he=>?_,?_⟩
 ·rw[h'.same k (fun e he=>hk e (gN _ he)),h.same k (fun e he=>hk e (gJ _ he))]
 ·rcases gO.1 he with he|he
  ·obtain⟨h1,h2,h3,h4⟩:=h.ent e he;refine⟨h1,?_,h3,fun x hx=>hG x (.inl (h4 x hx))⟩;rw[h'.same e.key (fun e' he' hk=>hne e e' he he' hk.symm)];exact h2
  ·obtain⟨h1,h2,h3,h4⟩:=h'.ent e he;refine⟨?_,h2,h3,fun x hx=>hG x (.inr (h4 x hx))⟩;rw[<- h.same e.key (fun e' he' hk=>hne e' e he' he hk)];exact h1
 ·rw[List.pairwise_append];exact⟨h.dis,h'.dis,fun e he e' he'=>⟨hne e e' he he',fun x hx hx'=>hd x ((h.ent e he).2.2.2 x hx) ((h'.ent e' he').2.2.2 x hx')⟩⟩
theorem Taken.mono{w1:World}{I1 J1:Nat->Prop}{p:Prop}{s s':St}{N:List Ent}{F G:List Nat}(h:Taken w1 I1 J1 p s s' N F)(hG:∀x,x∈F->x∈G):Taken w1 I1 J1 p s s' N G:=
 ⟨h.tm,h.same,fun e he=>⟨(h.ent e he).1,(h.ent e he).2.1,(h.ent e he).2.2.1,fun x hx=>hG x ((h.ent e he).2.2.2 x hx)⟩,h.dis⟩
section
variable {P:Program}{E:Env}{s:St}{w1:World}{I1 J1:Nat->Prop}{own fl:Bool}{p:Prop}
variable {l:Log}{K:St->Log->R}{r:T×List T}
theorem qeg{key:Key}{t:TypeId}(hfl:fl=true->qdi P t=true){x:T}{v:Value}{F:List Nat}(hx:El w1 I1 J1 own x v F){f:C->Prog}(hr:runP E (qlj P own key t x f) s l K=some r) :
 ∃c s' l' N,runP E (f c) s' l' K=some r/\Taken w1 I1 J1 p s s' N F/\∀fr s'',Fits w1 I1 J1 own fl fr s'' N->CR fr s'' c v:=by
 have borrowed:own=false->(fl=true->x.scalar=true)->∀fr s'',Fits w1 I1 J1 own fl fr s'' []->CR fr s'' (.t x) v:=fun ho hsc fr s'' hf=>by
  subst ho;have h1:RB w1 I1 J1 x v:=hx.1;show RB fr.w fr.I fr.J x v;cases fl with
  |true=>exact qbo h1 (hsc rfl)
  |false=>
   rw[hf.w];exact RB.move h1 (fun b hb=>⟨hf.I rfl rfl b hb,rfl⟩) (fun b hb=>⟨hf.J rfl rfl b hb,rfl⟩)
 unfold qlj at hr;split at hr
 ·rename_i e he;rw[q6f]at hr;split at hr
  ·rename_i sz cs;replace hr:=q1c hr;obtain⟨hsz,hr⟩:=hr;have hsz:sz=q38 P e:=gE hsz;subst hsz;cases own with
   |true=>
    rw[cond_true]at hr;obtain⟨hfree,l1,h1⟩:=q6h hr;have hro:RO w1 (.sl (q38 P e) cs) v F:=hx;refine⟨.obj key,_,l1,[⟨key,.arr true true (q38 P e) cs,.sl (q38 P e) cs,v,F⟩],h1,⟨fun _=>rfl,fun k hk=>?_,fun e' he'=>?_,by simp⟩,fun fr s'' hf=>?_⟩
    ·have hne:key≠k:=hk _ (gD.2 rfl);rw[q2y,if_neg hne]
    ·rw[gD.1 he'];exact⟨hfree,by simp,.inl ⟨.inl ⟨_,_,rfl,rfl⟩,hro⟩,fun _ h=>h⟩
    ·obtain⟨h2,h3⟩:=hf.ent _ (gD.2 rfl);refine⟨?_,hro.one⟩;rw[h2];exact h3.symm
   |false=>
    rw[cond_false]at hr;exact⟨_,s,_,[],hr,Taken.refl _ _ _,borrowed rfl fun e=>by have:=hfl e;simp[qdi,he]at this⟩
  ·cases hr
 ·rw[q1s]at hr;replace hr:=q1c hr;obtain⟨hm,hr⟩:=hr;rw[gC]at hm;obtain⟨hown,hmp⟩:=hm;subst hown;obtain⟨m,rfl⟩:∃m,x=.mp m:=by cases x <;> first|exact⟨_,rfl⟩|cases hmp
  obtain⟨hfree,l1,h1⟩:=q6h hr;have hro:RO w1 (.mp m) v F:=hx;refine⟨.obj key,_,l1,[⟨key,.mp m,.mp m,v,F⟩],h1,⟨fun _=>rfl,fun k hk=>?_,fun e' he'=>?_,by simp⟩,fun fr s'' hf=>?_⟩
  ·have hne:key≠k:=hk _ (gD.2 rfl);rw[q2y,if_neg hne]
  ·rw[gD.1 he'];exact⟨hfree,by simp[T.mpL],.inl ⟨.inr ⟨_,rfl,rfl⟩,hro⟩,fun _ h=>h⟩
  ·obtain⟨h2,h3⟩:=hf.ent _ (gD.2 rfl);refine⟨?_,hro.one⟩;rw[h2];exact h3.symm
 ·obtain⟨l1,h1,hsc,_⟩:=q9p hr;cases own with
  |true=>
   rw[cond_true,q1s]at h1;replace h1:=q1c h1;obtain⟨hs,h1⟩:=h1;have hro:RO w1 x v F:=hx;refine⟨_,s,l1,[],h1,Taken.refl _ _ _,fun fr s'' hf=>?_⟩;show RB fr.w fr.I fr.J x v;exact qbo (hro.rb (I:=fun _=>True) (J:=fun _=>True) fun _ _=>trivial) hs
  |false=>
   rw[cond_false]at h1;exact⟨_,s,l1,[],h1,Taken.refl _ _ _,borrowed rfl fun e=>hsc (hfl e)⟩
theorem qgh:∀{ts:List TypeId}{key:Key}{xs:List T}{vs:List Value}{fs:Nat->List Nat}{s:St}{l:Log}{f:List C->Prog},(fl=true->∀t,t∈ts->qdi P t=true)->xs.length=vs.length->ND xs.length fs->
 (∀(i:Nat)(y:T)(u:Value),xs[i]?=some y->vs[i]?=some u->El w1 I1 J1 own y u (fs i))->runP E (qmk P own key ts xs f) s l K=some r->
 ∃cs s' l' N,runP E (f cs) s' l' K=some r/\Taken w1 I1 J1 p s s' N (flat xs.length fs)/\∀fr s'',Fits w1 I1 J1 own fl fr s'' N->CRs fr s'' cs vs
 |[],key,xs,vs,fs,s,l,f,hfl,hl,hnd,hx,hr=>by
  rw[qmk,q7v]at hr;split at hr
  ·have:vs=[]:=gL (by simpa using hl.symm);subst this;exact⟨[],s,l,[],hr,Taken.refl _ _ _,fun _ _ _=>⟨rfl,by simp⟩⟩
  ·cases hr
 |t::ts,key,xs,vs,fs,s,l,f,hfl,hl,hnd,hx,hr=>by
  rw[qmk,q96]at hr;split at hr
  ·rename_i x xs;cases vs with
   |nil=>simp at hl
   |cons v vs=>
    obtain⟨c,s1,l1,N,h1,ht1,hc1⟩:=qeg (fun e=>hfl e t (by simp)) (hx 0 x v rfl rfl) hr
    obtain⟨cs,s2,l2,N',h2,ht2,hc2⟩:=qgh (xs:=xs) (vs:=vs) (fs:=fun i=>fs (i+1)) (fun e t ht=>hfl e t (gF _ ht)) (by simpa using hl)
     ⟨fun i hi=>hnd.1 (i+1) (by simp;omega),fun i j hi hj hne=>hnd.2 (i+1) (j+1) (by simp;omega) (by simp;omega) (by omega)⟩
     (fun i y u hy hu=>hx (i+1) y u (by simpa using hy) (by simpa using hu)) h1
    refine⟨c::cs,s2,l2,N++N',h2,ht1.trans ht2 (fun x hx hx'=>?_) (fun x hx=>?_),fun fr s'' hf=>?_⟩
    ·obtain⟨i,hi,hx'⟩:=q23.1 hx';exact hnd.2 0 (i+1) (by simp) (by simp;omega) (by omega) x hx hx'
    ·rcases hx with hx|hx
     ·exact q23.2 ⟨0,by simp,hx⟩
     ·obtain⟨i,hi,hx⟩:=q23.1 hx;exact q23.2 ⟨i+1,by simp;omega,hx⟩
    ·have q1:=hc1 fr s'' (hf.sub fun e he=>gJ _ he);have q2:=hc2 fr s'' (hf.sub fun e he=>gN _ he);refine⟨by simpa using q2.1,fun i c' v' hc' hv'=>?_⟩;cases i with
     |zero=>simp at hc' hv';subst hc';subst hv';exact q1
     |succ i=>exact q2.2 i c' v' (by simpa using hc') (by simpa using hv')
  ·cases hr
theorem ResV.cell{w:World}{I J:Nat->Prop}{x:T}{v:Value}{F:List Nat}(h:ResV w I J own x v F)(hc:x.cell=true):El w I J own x v F:=by
 cases x <;> first|exact h|(simp[T.cell]at hc)
theorem qk0{key:Key}{t:TypeId}{x:T}{f:C->Prog}(hr:runP E (qlj P own key t x f) s l K=some r):x.cell=true:=by
 unfold qlj at hr;split at hr
 ·rw[q6f]at hr;split at hr
  ·rfl
  ·cases hr
 ·rw[q1s]at hr;obtain⟨hm,_⟩:=q1c hr;rw[gC]at hm;cases x <;> first|rfl|cases hm.2
 ·obtain⟨_,_,_,h⟩:=q9p hr;exact h
theorem qss{t:TypeId}(ha:q86 P t=false)(h:qe9 P t=true):qdi P t=true:=by
 have:q26 P 8 t=[t]:=by
  unfold q86 at ha;rw[q26];split at ha
  ·cases ha
  ·cases ha
  ·rfl
 unfold qe9 at h;rw[this]at h;simp only[List.all_cons,List.all_nil,Bool.and_true]at h;exact h
theorem qic:∀{ts:List TypeId}{xs:List T}{f:List C->Prog}{s:St}{l:Log},runP E (qtd P ts xs f) s l K=some r->∃l',runP E (f (xs.map C.t)) s l' K=some r
 |[],xs,f,s,l,hr=>by
  rw[qtd,q7v]at hr;split at hr
  ·exact⟨l,hr⟩
  ·cases hr
 |t::ts,xs,f,s,l,hr=>by
  rw[qtd,q96]at hr;split at hr
  ·obtain⟨l1,h1,_⟩:=q9p hr;obtain⟨l2,h2⟩:=qic h1;exact⟨l2,h2⟩
  ·cases hr
theorem qhy{key:Key}{t:TypeId}(hfl:fl=true->qe9 P t=true)(hpt:q9s P t=true->p){x:T}{v:Value}{F:List Nat}(hx:ResV w1 I1 J1 own x v F){f:V->Prog}(hr:runP E (qu5 P own key t x f) s l K=some r) :
 ∃y s' l' N,runP E (f y) s' l' K=some r/\Taken w1 I1 J1 p s s' N F/\((q86 P t=true/\∃cs,y=.agg cs/\∃vs:Array Value,v=.agg vs/\∀fr s'',Fits w1 I1 J1 own fl fr s'' N->CRs fr s'' cs vs.toList)\/
  (q86 P t=false/\∃c,y=.one c/\∀fr s'',Fits w1 I1 J1 own fl fr s'' N->CR fr s'' c v)):=by
 unfold qu5 at hr;cases ha:q86 P t with
 |true=>
  rw[ha,cond_true,qat]at hr;split at hr
  ·rename_i xs;obtain⟨vs,fs,rfl,hl,hnd,rfl,hel⟩:=hx;obtain⟨cs,s',l',N,h1,h2,h3⟩:=qgh (vs:=vs.toList) (fun e t' ht=>gAL.1 (hfl e) t' ht) (by simpa using hl) hnd (fun i y u hy hu=>hel i y u hy (by simpa using hu)) hr;exact⟨_,s',l',N,h1,h2,.inl ⟨rfl,cs,rfl,vs,rfl,h3⟩⟩
  ·cases hr
 |false=>
  rw[ha,cond_false]at hr;cases hp:q9s P t with
  |true=>
   rw[hp,cond_true,qr2]at hr;split at hr
   ·rename_i ys;obtain⟨l1,h1⟩:=qic hr;obtain⟨hfree,l2,h2⟩:=q6h h1;have hb:BoxR w1 I1 J1 ys v F:=hx;refine⟨_,_,l2,[⟨key,.box (ys.map C.t),.bx ys,v,F⟩],h2,⟨fun _=>rfl,fun k hk=>?_,fun e' he'=>?_,by simp⟩,.inr ⟨rfl,_,rfl,fun fr s'' hf=>?_⟩⟩
    ·have hne:key≠k:=hk _ (gD.2 rfl);rw[q2y,if_neg hne]
    ·rw[gD.1 he'];exact⟨hfree,by simp,.inr ⟨hpt hp,ys,rfl,hb⟩,fun _ h=>h⟩
    ·obtain⟨h3,h4⟩:=hf.ent _ (gD.2 rfl);obtain⟨b,cur,ty,hv,_⟩:=hb;refine⟨?_,by rw[hv];rfl⟩;rw[h3];show q8j (fr.val key) 0 v;rw[show fr.val key=v from h4,hv];rfl
   ·cases hr
  |false=>
  rw[hp,cond_false]at hr;obtain⟨c,s',l',N,h1,h2,h3⟩:=qeg (fun e=>qss ha (hfl e)) (hx.cell (qk0 hr)) hr;exact⟨_,s',l',N,h1,h2,.inr ⟨rfl,c,rfl,h3⟩⟩
theorem qgb:∀{ts:List TypeId}{key:Key}{xs:List T}{vs:List Value}{fs:Nat->List Nat}{s:St}{l:Log}{f:List (Bool×List C)->Prog},(fl=true->∀t,t∈ts->qe9 P t=true)->(∀t,t∈ts->q9s P t=true->p)->xs.length=vs.length->ND xs.length fs->
 (∀(i:Nat)(y:T)(u:Value),xs[i]?=some y->vs[i]?=some u->ResV w1 I1 J1 own y u (fs i))->runP E (qn6 P own key ts xs f) s l K=some r->
 ∃ps s' l' N,runP E (f ps) s' l' K=some r/\Taken w1 I1 J1 p s s' N (flat xs.length fs)/\ps.length=vs.length/\∀fr s'',Fits w1 I1 J1 own fl fr s'' N->
  ∀(i:Nat)(p:Bool×List C)(u:Value),ps[i]?=some p->vs[i]?=some u->(p.1=true/\(∃vs:Array Value,u=.agg vs/\CRs fr s'' p.2 vs.toList))\/(p.1=false/\∃c,p.2=[c]/\CR fr s'' c u)
 |[],key,xs,vs,fs,s,l,f,hfl,hpt,hl,hnd,hx,hr=>by
  rw[qn6,q7v]at hr;split at hr
  ·have:vs=[]:=gL (by simpa using hl.symm);subst this;exact⟨[],s,l,[],hr,Taken.refl _ _ _,rfl,fun _ _ _=>by simp⟩
  ·cases hr
 |t::ts,key,xs,vs,fs,s,l,f,hfl,hpt,hl,hnd,hx,hr=>by
  rw[qn6,q96]at hr;split at hr
  ·rename_i x xs;cases vs with
   |nil=>simp at hl
   |cons v vs=>
    obtain⟨y,s1,l1,N,h1,ht1,hc1⟩:=qhy (fun e=>hfl e t (by simp)) (fun e=>hpt t (by simp) e) (hx 0 x v rfl rfl) hr
    obtain⟨ps,s2,l2,N',h2,ht2,hpl,hc2⟩:=qgb (xs:=xs) (vs:=vs) (fs:=fun i=>fs (i+1)) (fun e t ht=>hfl e t (gF _ ht)) (fun t ht e=>hpt t (gF _ ht) e) (by simpa using hl)
     ⟨fun i hi=>hnd.1 (i+1) (by simp;omega),fun i j hi hj hne=>hnd.2 (i+1) (j+1) (by simp;omega) (by simp;omega) (by omega)⟩
     (fun i y u hy hu=>hx (i+1) y u (by simpa using hy) (by simpa using hu)) h1
    refine⟨_::ps,s2,l2,N++N',h2,ht1.trans ht2 (fun x hx hx'=>?_) (fun x hx=>?_),by simp[hpl],fun fr s'' hf i p u hp hu=>?_⟩
    ·obtain⟨i,hi,hx'⟩:=q23.1 hx';exact hnd.2 0 (i+1) (by simp) (by simp;omega) (by omega) x hx hx'
    ·rcases hx with hx|hx
     ·exact q23.2 ⟨0,by simp,hx⟩
     ·obtain⟨i,hi,hx⟩:=q23.1 hx;exact q23.2 ⟨i+1,by simp;omega,hx⟩
    ·cases i with
     |zero=>
      simp at hp hu;subst hp;subst hu;rcases hc1 with⟨ha,cs,rfl,us,rfl,hc1⟩|⟨ha,c,rfl,hc1⟩
      ·exact .inl ⟨ha,us,rfl,hc1 fr s'' (hf.sub fun e he=>gJ _ he)⟩
      ·exact .inr ⟨ha,c,rfl,hc1 fr s'' (hf.sub fun e he=>gJ _ he)⟩
     |succ i=>exact hc2 fr s'' (hf.sub fun e he=>gN _ he) i p u (by simpa using hp) (by simpa using hu)
  ·cases hr
theorem qc7{key:Key}{t:TypeId}(hfl:fl=true->qgk P t=true)(hpt:qob P t=true->p){x:T}{v:Value}{F:List Nat}(hx:ResT w1 I1 J1 own x v F){f:V->Prog}(hr:runP E (qln P own key t x f) s l K=some r) :
 ∃y s' l' N,runP E (f y) s' l' K=some r/\Taken w1 I1 J1 p s s' N F/\∀fr s'',Fits w1 I1 J1 own fl fr s'' N->VR fr s'' y v:=by
 unfold qln at hr;split at hr
 ·rename_i ts hts;rw[qnv]at hr;split at hr
  ·rename_i ps;obtain⟨us,fs,rfl,hl,hnd,rfl,hel⟩:=hx;obtain⟨qs,s',l',N,h1,h2,h3,h4⟩:=qgb (vs:=us.toList) (fun e t' ht=>by have:=hfl e;unfold qgk at this;rw[hts]at this;exact gAL.1 this t' ht) (fun t' ht e=>hpt (by unfold qob;rw[hts];exact List.any_eq_true.2 ⟨t',ht,e⟩)) (by simpa using hl) hnd (fun i y u hy hu=>hel i y u hy (by simpa using hu)) hr;exact⟨_,s',l',N,h1,h2,fun fr s'' hf=>⟨us,rfl,by simpa using h3,fun i p u hp hu=>h4 fr s'' hf i p u hp (by simpa using hu)⟩⟩
  ·cases hr
 ·rename_i hts
  have hfl':fl=true->qe9 P t=true:=fun e=>by
   have:=hfl e;unfold qgk at this;split at this
   ·rename_i ts h;exact absurd h (hts ts)
   ·exact this
  have hx':ResV w1 I1 J1 own x v F:=by
   cases x with
   |tup ps=>
    exfalso;unfold qu5 at hr;cases ha:q86 P t with
    |true=>rw[ha,cond_true,qat]at hr;cases hr
    |false=>
     rw[ha,cond_false]at hr;cases hp:q9s P t with
     |true=>rw[hp,cond_true,qr2]at hr;cases hr
     |false=>rw[hp,cond_false]at hr;have:=qk0 hr;simp[T.cell]at this
   |_=>exact hx
  have hpt':q9s P t=true->p:=fun e=>hpt (by
   unfold qob;split
   ·rename_i ts h;exact absurd h (hts ts)
   ·exact e)
  obtain⟨y,s',l',N,h1,h2,h3⟩:=qhy hfl' hpt' hx' hr;refine⟨y,s',l',N,h1,h2,fun fr s'' hf=>?_⟩;rcases h3 with⟨_,cs,rfl,vs,rfl,h3⟩|⟨_,c,rfl,h3⟩
  ·exact⟨vs,rfl,h3 fr s'' hf⟩
  ·exact h3 fr s'' hf
end
end Ev
namespace Ev
open Go
structure EntG where
 key:Key
 ob:Ob
 v:Value
 F:List Nat
def Ent.g(e:Ent):EntG:=⟨e.key,e.ob,e.v,e.F⟩
def qr9(N:List EntG)(k:Key):Option EntG:=N.find? fun e=>Nat.beq e.key k
theorem qkc{N:List EntG}{k:Key}(h:∀e,e∈N->e.key≠k):qr9 N k=none:=by
 unfold qr9;rw[List.find?_eq_none];intro e he;rw[nbeq (h e he)];simp
theorem qkn{N:List EntG}(hp:N.Pairwise fun a b=>a.key≠b.key/\∀x,x∈a.F->x∉b.F){e:EntG}(he:e∈N):qr9 N e.key=some e:=by
 unfold qr9;induction N with
 |nil=>simp at he
 |cons x N ih=>
  rw[List.pairwise_cons]at hp;rcases gK.1 he with rfl|he
  ·simp
  ·have:Nat.beq x.key e.key=false:=nbeq (hp.1 e he).1;rw[List.find?_cons,this];exact ih hp.2 he
theorem qw3{N:List EntG}(hp:N.Pairwise fun a b=>a.key≠b.key/\∀x,x∈a.F->x∉b.F){e e':EntG}(he:e∈N)(he':e'∈N)(hne:e.key≠e'.key):∀x,x∈e.F->x∉e'.F:=by
 induction N with
 |nil=>simp at he
 |cons y N ih=>
  rw[List.pairwise_cons]at hp;rcases gK.1 he with h1|h1
  ·rcases gK.1 he' with h2|h2
   ·exact absurd (by rw[h1,h2]) hne
   ·subst h1;exact(hp.1 e' h2).2
  ·rcases gK.1 he' with h2|h2
   ·subst h2;exact fun x hx hx'=>(hp.1 e h1).2 x hx' hx
   ·exact ih hp.2 h1 h2
section
variable {P:Program}{A:q7t}{E:Env}{c:Ctx}{s s1 s2 s3:St}{a:Act}{w w1:World}{val:Key->Value}{fp:Key->List Nat}{Ft Fr Fo:List Nat}{G:List Key}
variable {l:Log}{K:St->Log->R}{r:T×List T}
def aftG(Q:Nat->Prop)(w w1:World)(Ft:List Nat)(N:List EntG)(x:Nat):Prop:=(Q x\/x∈Ft\/w.heap.size<=x)/\x<w1.heap.size/\∀e,e∈N->x∉e.F
theorem qry(h:Inv c s a w val fp){N:List EntG}(htm:∀i,s3.getT i=s.getT i)
 (hsame:∀k,k∉G->(∀e,e∈N->e.key≠k)->s3.getO k=s.getO k)
 (hG:∀k,k∈G->qal (s.getO k)/\(s.getO k).isLent=false/\((∀e,e∈N->e.key≠k)->s3.getO k=.gone\/∃j,s3.getO k=.moved j))
 (hN:∀e,e∈N->s3.getO e.key=e.ob/\qal e.ob/\(s.getO e.key=.free\/(e.key∈G/\e.v=val e.key))/\∀x,x∈e.F->x∈Ft\/w.heap.size<=x)
 (dis:N.Pairwise fun a b=>a.key≠b.key/\∀x,x∈a.F->x∉b.F) (hFt:∀x,x∈Ft->∃k,k∈G/\x∈fp k) (hkp:Kp (· ∈ Ft) w w1)
 (hob:∀fr,fr.w=w1->fr.kept=c.kept->(∀x,aftG (inI c w fp) w w1 Ft N x->fr.I x)->(∀x,aftG (inJ c w fp) w w1 Ft N x->fr.J x)->(∀e,e∈N->fr.val e.key=e.v)->∀e,e∈N->ObR fr s3 e.ob e.v e.F) :
 ∃val' fp',Inv c s3 a w1 val' fp'/\Kp c.own w w1/\(∀x,aftG (inI c w fp) w w1 Ft N x->inI c w1 fp' x)/\(∀x,aftG (inJ c w fp) w w1 Ft N x->inJ c w1 fp' x)/\∀e,e∈N->val' e.key=e.v:=by
 let val':Key->Value:=fun k=>match qr9 N k with|some e=>e.v|none=>val k
 let fp':Key->List Nat:=fun k=>match qr9 N k with|some e=>e.F|none=>if k∈G then[]else fp k
 have v1:∀e,e∈N->val' e.key=e.v:=fun e he=>by simp only[val',qkn dis he]
 have v2:∀k,(∀e,e∈N->e.key≠k)->val' k=val k:=fun k hk=>by simp only[val',qkc hk]
 have f1:∀e,e∈N->fp' e.key=e.F:=fun e he=>by simp only[fp',qkn dis he]
 have f2:∀k,(∀e,e∈N->e.key≠k)->fp' k=if k∈G then[]else fp k:=fun k hk=>by simp only[fp',qkc hk]
 have cases_fp:∀k x,x∈fp' k->(∃e,e∈N/\e.key=k/\x∈e.F)\/(k∉G/\(∀e,e∈N->e.key≠k)/\x∈fp k):=fun k x hx=>by
  by_cases hk:∃e,e∈N/\e.key=k
  ·obtain⟨e,he,rfl⟩:=hk;rw[f1 e he]at hx;exact .inl ⟨e,he,rfl,hx⟩
  ·have hk':∀e,e∈N->e.key≠k:=fun e he hek=>hk ⟨e,he,hek⟩;rw[f2 k hk']at hx;split at hx
   ·simp at hx
   ·exact .inr ⟨by assumption,hk',hx⟩
 have good:∀(Q:Nat->Prop) x,(∀y,Q y->(∀k,y∉fp k))->aftG Q w w1 Ft N x->∀k,x∉fp' k:=fun Q x hQ hx k hk=>by
  obtain⟨h1,h2,h3⟩:=hx;rcases cases_fp k x hk with⟨e,he,rfl,hxe⟩|⟨hkG,_,hxk⟩
  ·exact h3 e he hxe
  ·rcases h1 with h1|h1|h1
   ·exact hQ x h1 k hxk
   ·obtain⟨k1,hk1,hb1⟩:=hFt x h1;exact h.disj k1 k (fun e=>hkG (e▸hk1)) x hb1 hxk
   ·have:=h.lt hxk;omega
 have ownx:∀x,x∈Ft\/w.heap.size<=x->c.own x:=fun x hx=>by
  rcases hx with hx|hx
  ·obtain⟨k1,_,hb1⟩:=hFt x hx;exact h.mine k1 x hb1
  ·exact .inl (Nat.le_trans h.size hx)
 have hI:∀x,aftG (inI c w fp) w w1 Ft N x->inI c w1 fp' x:=fun x hx=>⟨by
  rcases hx.1 with h1|h1
  ·exact h1.1
  ·exact .inr (ownx x h1),hx.2.1,good _ x (fun y hy=>hy.2.2) hx⟩
 have hJ:∀x,aftG (inJ c w fp) w w1 Ft N x->inJ c w1 fp' x:=fun x hx=>⟨by
  rcases hx.1 with h1|h1
  ·exact h1.1
  ·exact .inr (ownx x h1),hx.2.1,good _ x (fun y hy=>hy.2.2) hx⟩
 obtain⟨r1,r2,r3⟩:=h.changes (s':=s3) (w':=w1) (val':=val') (fp':=fp') (fun k=>k∈G\/∃e,e∈N/\e.key=k) htm (fun k hk=>by
  rw[not_or]at hk;have hk':∀e,e∈N->e.key≠k:=fun e he hek=>hk.2 ⟨e,he,hek⟩;exact⟨hsame k hk.1 hk',v2 k hk',by rw[f2 k hk',if_neg hk.1]⟩)
  (fun k hk=>by
   by_cases hke:∃e,e∈N/\e.key=k
   ·obtain⟨e,he,rfl⟩:=hke;obtain⟨e1,e2,e3,_⟩:=hN e he;rw[v1 e he,e1];rcases e3 with e3|⟨e3,e4⟩
    ·rw[e3];trivial
    ·rw[e4];have ha:=(hG _ e3).1;unfold qal at ha e2;cases ho:s.getO e.key <;> cases ho':e.ob <;> rw[ho]at ha <;> rw[ho']at e2 <;> first|trivial|rfl|cases ha|cases e2
   ·have hk':∀e,e∈N->e.key≠k:=fun e he hek=>hke ⟨e,he,hek⟩;rcases hk with hk|hk
    ·obtain⟨g1,_,g3⟩:=hG k hk;unfold qal at g1;rcases g3 hk' with g|⟨j,g⟩ <;> rw[g] <;> cases ho:s.getO k <;> rw[ho]at g1 <;> first|trivial|cases g1
    ·exact absurd hk hke)
  (fun k hk=>by
   rcases hk with hk|⟨e,he,rfl⟩
   ·exact(hG k hk).2.1
   ·rcases(hN e he).2.2.1 with h1|⟨h1,_⟩
    ·rw[h1];rfl
    ·exact(hG _ h1).2.1)
  (fun k b hk hb=>by
   rcases cases_fp k b hb with⟨e,he,rfl,hbe⟩|⟨h1,h2,_⟩
   ·rcases(hN e he).2.2.2 b hbe with h1|h1
    ·obtain⟨k1,hk1,hb1⟩:=hFt b h1;exact .inl ⟨k1,.inl hk1,hb1⟩
    ·exact .inr h1
   ·rcases hk with hk|⟨e,he,hek⟩
    ·exact absurd hk h1
    ·exact absurd hek (h2 e he))
  (fun k k' hk hk' hkk b hb hb'=>by
   have pick:∀k,(k∈G\/∃e,e∈N/\e.key=k)->b∈fp' k->∃e,e∈N/\e.key=k/\b∈e.F:=fun k hk hb=>by
    rcases cases_fp k b hb with h1|⟨h1,h2,_⟩
    ·exact h1
    ·rcases hk with hk|⟨e,he,hek⟩
     ·exact absurd hk h1
     ·exact absurd hek (h2 e he)
   obtain⟨e,he,e1,e2⟩:=pick k hk hb;obtain⟨e',he',e1',e2'⟩:=pick k' hk' hb';exact qw3 dis he he' (by rw[e1,e1'];exact hkk) b e2 e2')
  (fun b hb hn=>hkp.block b hb fun hbt=>by obtain⟨k1,hk1,hb1⟩:=hFt b hbt;exact hn k1 (.inl hk1) hb1) hkp.size hkp.os hkp.tape hkp.output
  (fun _ k hk=>by
   by_cases hke:∃e,e∈N/\e.key=k
   ·obtain⟨e,he,rfl⟩:=hke;rw[(hN e he).1,f1 e he,v1 e he];exact hob (mkFr c w1 val' fp') rfl rfl hI hJ v1 e he
   ·have hk':∀e,e∈N->e.key≠k:=fun e he hek=>hke ⟨e,he,hek⟩;rcases hk with hk|hk
    ·have e2:fp' k=[]:=by rw[f2 k hk',if_pos hk]
     rw[e2];rcases(hG k hk).2.2 hk' with g|⟨j,g⟩ <;> rw[g] <;> rfl
    ·exact absurd hk hke)
 exact⟨val',fp',r1,r3,hI,hJ,v1⟩
theorem q8n(h:Snap c s s1 a w val fp Ft){tr:Nat->Option T}:∀{i:Nat}{ts:List TypeId}{vs:List V}{us:List Value}{f:List T->Bool->Prog}{l:Log},vs.length=us.length->
 (∀(j:Nat)(v:V)(u:Value),vs[j]?=some v->us[j]?=some u->VR (mkFr c w val fp) s v u)->runP E (qba P tr i ts vs f) s1 l K=some r->
 ∃ys b l',runP E (f ys b) s1 l' K=some r/\ys.length=vs.length/\∀(j:Nat)(y:T),ys[j]?=some y->tr (i+j)=some y\/(tr (i+j)=none/\∀u,us[j]?=some u->ResV w (SI c w fp Ft b) (SJ c w fp Ft b) false y u [])
 |i,[],[],us,f,l,hl,hv,hr=>⟨[],false,l,hr,rfl,by simp⟩
 |i,t::ts,v::vs,[],f,l,hl,hv,hr=>by simp at hl
 |i,t::ts,v::vs,u::us,f,l,hl,hv,hr=>by
  have hv':∀(j:Nat)(v:V)(u:Value),vs[j]?=some v->us[j]?=some u->VR (mkFr c w val fp) s v u:=fun j v' u' h1 h2=>hv (j+1) v' u' (by simpa using h1) (by simpa using h2);rw[qba]at hr;split at hr
  ·rename_i x hx;obtain⟨ys,b,l1,h1,hl1,hys⟩:=q8n h (us:=us) (by simpa using hl) hv' hr;refine⟨x::ys,b,l1,h1,by simp[hl1],fun j y hy=>?_⟩;cases j with
   |zero=>simp at hy;subst hy;exact .inl hx
   |succ j=>
    have:=hys j y (by simpa using hy);rw[show i+1+j=i+(j+1) by omega]at this;simpa using this
  ·rename_i hx;obtain⟨y0,b0,l0,h0,hy0⟩:=qot h (hv 0 v u rfl rfl) hr;obtain⟨ys,b,l1,h1,hl1,hys⟩:=q8n h (us:=us) (by simpa using hl) hv' h0;refine⟨y0::ys,b0||b,l1,h1,by simp[hl1],fun j y hy=>?_⟩;cases j with
   |zero=>
    simp at hy;subst hy;refine .inr ⟨hx,fun u' hu'=>?_⟩;simp at hu';subst hu';exact hy0.or (by simp;intro h;exact .inl h)
   |succ j=>
    have:=hys j y (by simpa using hy);rw[show i+1+j=i+(j+1) by omega]at this;rcases this with h2|⟨h2,h3⟩
    ·exact .inl h2
    ·exact .inr ⟨h2,fun u' hu'=>(h3 u' (by simpa using hu')).or (by simp;intro h;exact .inr h)⟩
 |i,[],_::_,_,_,_,_,_,hr=>by cases hr
 |i,_::_,[],_,_,_,_,_,hr=>by cases hr
theorem Does.mono{g:FuncId}{vs:Array Value}{R R':Value->World->Prop}(h:Does P g vs w R)(hR:∀v w,R v w->R' v w):Does P g vs w R':=by
 unfold Does at *;split
 ·rename_i heq;rw[heq]at h;exact hR _ _ h
 ·rename_i heq;rw[heq]at h;exact Calls.mono h fun e w' ⟨v,he,hr⟩=>⟨v,he,hR _ _ hr⟩
 ·rename_i h1 h2;split at h
  ·rename_i heq;exact(h1 _ _ heq).elim
  ·rename_i heq;exact(h2 _ _ _ heq).elim
  ·exact h.elim
theorem RB.resV{I J:Nat->Prop}{y:T}{u:Value}(h:RB w I J y u):ResV w I J false y u []:=RB.notAgg h
end
end Ev
end
section
namespace Ev
open Go
section
variable {P:Program}{A:q7t}{E:Env}{c:Ctx}{s s1 s2 s3:St}{a:Act}{w w1:World}{val:Key->Value}{fp:Key->List Nat}{Ft Fr Fo:List Nat}{G:List Key}
variable {l:Log}{K:St->Log->R}{r:T×List T}
theorem qru(h:Inv c s a w val fp){L:List Key}(hm:Moved s s1 L):Snap c s s1 a w val fp []:=by
 refine⟨h,fun k hk=>⟨?_,by simp⟩,by simp,by simp⟩;by_cases hl:k∈L
 ·exfalso;rcases(hm.gone k hl).1 with e|⟨j,e⟩ <;> rw[e]at hk <;> cases hk
 ·exact(hm.same k hl).symm
theorem qou(h:Inv c s a w val fp){L:List Key}(hm:Moved s s1 L){o:Bool}{t:TypeId}{x:C}{v:Value}(hx:CR (mkFr c w val fp) s x v){f:T->Prog}(hr:runP E (qxm P o t x f) s1 l K=some r) :
 ∃y s' l' M F,runP E (f y) s' l' K=some r/\Moved s s' (M++L)/\El w (inI c w fp) (inJ c w fp) o y v F/\F.Nodup/\(∀b,b∈F->∃k,k∈M/\b∈fp k)/\(o=true->∀k,x=.obj k->k∈M):=by
 unfold qxm at hr;cases o with
 |true=>
  rw[cond_true]at hr;obtain⟨y,b,s',l',M,F,h1,hm1,hc1⟩:=qej h hm hx hr;rw[q1s]at h1;replace h1:=q1c h1;obtain⟨hb,h1⟩:=h1;obtain⟨q1,q2⟩:=hc1.ro hb;exact⟨y,s',l',M,F,h1,hm1,q1,q1.nodup,q2,fun _=>hc1.obj hb⟩
 |false=>
  rw[cond_false]at hr;obtain⟨y,b,l',h1,hy⟩:=qa9 (qru h hm) hx hr;rw[q8q,q92]at h1;rcases q99 h1 with⟨_,h1⟩|⟨hb,h1⟩
  ·cases h1
  subst hb;refine⟨y,s1,l',[],[],h1,hm,⟨RB.move hy (fun b hb=>⟨⟨hb.1,hb.2.1,hb.2.2.2 rfl⟩,rfl⟩) (fun b hb=>⟨⟨hb.1,hb.2.1,hb.2.2.2 rfl⟩,rfl⟩),rfl⟩,List.nodup_nil,by simp,fun e=>by cases e⟩
structure GivenCs(c:Ctx)(w:World)(fp:Key->List Nat)(M:List Key)(os:List Bool)(cs:List C)(ys:List T)(vs:List Value)(fs:Nat->List Nat):Prop where
 r:qhg w (inI c w fp) (inJ c w fp) os ys vs fs
 ol:os.length=ys.length
 sub:∀i b,i<ys.length->b∈fs i->∃k,k∈M/\b∈fp k
 obj:∀i k,os.getD i false=true->cs[i]?=some (.obj k)->k∈M
theorem q9q(h:Inv c s a w val fp):∀{os:List Bool}{ts:List TypeId}{cs:List C}{vs:List Value}{L:List Key}{s1:St}{l:Log}{f:List T->Prog},Moved s s1 L->CRs (mkFr c w val fp) s cs vs->runP E (qgq P os ts cs f) s1 l K=some r->
 ∃ys s' l' M fs,runP E (f ys) s' l' K=some r/\Moved s s' (M++L)/\GivenCs c w fp M os cs ys vs fs
 |[],[],[],vs,L,s1,l,f,hm,hx,hr=>by
  have:vs=[]:=gL (by simpa using hx.1.symm);subst this;exact⟨[],s1,l,[],fun _=>[],hr,hm,⟨rfl,ND.nil _,by simp⟩,rfl,by simp,by simp⟩
 |o::os,t::ts,x::cs,[],L,s1,l,f,hm,hx,hr=>by have:=hx.1;simp at this
 |o::os,t::ts,x::cs,v::vs,L,s1,l,f,hm,hx,hr=>by
  rw[qgq]at hr;obtain⟨y,s2,l2,M,F,h1,hm1,q1,q2,q3,q4⟩:=qou h hm (hx.2 0 x v rfl rfl) hr;obtain⟨ys,s3,l3,M',fs,h2,hm2,hg⟩:=q9q h (vs:=vs) hm1 ⟨by simpa using hx.1,fun i c v hc hv=>hx.2 (i+1) c v (by simpa using hc) (by simpa using hv)⟩ h1
  have hap:∀k,k∈M->k∉M':=fun k hk hk'=>by
   have:=hm2.nd;rw[List.nodup_append]at this;exact this.2.2 k hk' k (gJ _ hk) rfl
  have cross:∀b,b∈F->∀i,i<ys.length->b∉fs i:=fun b hb i hi hbi=>by
   obtain⟨k,hk,hbk⟩:=q3 b hb;obtain⟨k',hk',hbk'⟩:=hg.sub i b hi hbi;exact h.disj k k' (fun e=>hap k hk (e▸hk')) b hbk hbk'
  refine⟨y::ys,s3,l3,M'++M,fun i=>match i with|0=>F|i+1=>fs i,h2,by rw[gZ];exact hm2,⟨by simp[hg.r.1],⟨fun i hi=>?_,fun i j hi hj hne b hb hb'=>?_⟩,fun i z u hz hu=>?_⟩,by simp[hg.ol],fun i b hi hb=>?_,fun i k ho hc=>?_⟩
  ·cases i with
   |zero=>exact q2
   |succ i=>exact hg.r.2.1.1 i (by simpa using hi)
  ·cases i with
   |zero=>
    cases j with
    |zero=>exact absurd rfl hne
    |succ j=>exact cross b hb j (by simpa using hj) hb'
   |succ i=>
    cases j with
    |zero=>exact cross b hb' i (by simpa using hi) hb
    |succ j=>exact hg.r.2.1.2 i j (by simpa using hi) (by simpa using hj) (by omega) b hb hb'
  ·cases i with
   |zero=>simp at hz hu;subst hz;subst hu;exact q1
   |succ i=>exact hg.r.2.2 i z u (by simpa using hz) (by simpa using hu)
  ·cases i with
   |zero=>obtain⟨k,hk,hb⟩:=q3 b hb;exact⟨k,gN _ hk,hb⟩
   |succ i=>obtain⟨k,hk,hb⟩:=hg.sub i b (by simpa using hi) hb;exact⟨k,gJ _ hk,hb⟩
  ·cases i with
   |zero=>simp at ho hc;exact gN _ (q4 ho k hc)
   |succ i=>exact gJ _ (hg.obj i k (by simpa using ho) (by simpa using hc))
 |[],_::_,_,_,_,_,_,_,_,_,hr=>by cases hr
 |[],[],_::_,_,_,_,_,_,_,_,hr=>by cases hr
 |_::_,[],_,_,_,_,_,_,_,_,hr=>by cases hr
 |_::_,_::_,[],_,_,_,_,_,_,_,hr=>by cases hr
structure Gone(s s':St)(G:List Key):Prop where
 tm:∀i,s'.getT i=s.getT i
 gone:∀k,k∈G->qal (s.getO k)/\(s.getO k).isLent=false/\(s'.getO k=.gone\/∃j,s'.getO k=.moved j)
 same:∀k,k∉G->s'.getO k=s.getO k
theorem Moved.gn{L:List Key}(h:Moved s s1 L):Gone s s1 L:=
 ⟨h.tm,fun k hk=>by
  obtain⟨h1,⟨d,sz,cells,h2⟩|⟨m,h2⟩⟩:=h.gone k hk <;> exact⟨by rw[h2];rfl,by rw[h2];rfl,h1⟩,h.same⟩
theorem Gone.add{L:List Key}(h:Gone s s1 L){k:Key}(ha:qal (s.getO k))(hl:(s.getO k).isLent=false):Gone s (s1.setO k .gone) (k::L):=by
 refine⟨h.tm,fun j hj=>?_,fun j hj=>?_⟩
 ·rw[q2y];by_cases e:k=j
  ·subst e;exact⟨ha,hl,by simp⟩
  ·rw[if_neg e];exact h.gone j ((gK.1 hj).resolve_left fun e'=>e e'.symm)
 ·rw[gK,not_or]at hj;rw[q2y,if_neg (fun e=>hj.1 e.symm)];exact h.same j hj.2
def BkOk(c:Ctx)(s:St)(w:World)(val:Key->Value)(fp:Key->List Nat)(md:Mode)(G:List Key)(u:Value):Bk->Prop
 |.sl k _=>md=.sl/\k∈G/\u=val k
 |.ptr k old=>k∈G/\u=val k/\(∃b,u=.pointer (some ⟨b,0,none⟩))/\((∃os,md=.ptr os/\∀(i:Nat)(k:Key),os.getD i false=true->old[i]?=some (C.obj k)->k∈G)\/(md=.src/\s.getO k=.box old/\∀(i:Nat)(c:C),old[i]?=some c->∃x,c=.t x\/∃j,c=.kept j x))
 |.val old=>md=.val/\∃vs:Array Value,u=.agg vs/\CRs (mkFr c w val fp) s old vs.toList/\∀(i:Nat)(k:Key),old[i]?=some (C.obj k)->k∈G
theorem qc0{f:Ev.Fr}{k:Key}{q:Nat}{v:Value}(h:CR f s (.ptr k q) v)(hl:qal (s.getO k)):q8j (f.val k) q v:=by
 have h1:=h.1;unfold qal at hl;cases ho:s.getO k <;> rw[ho]at h1 hl <;> first|exact h1|cases hl
theorem qho:∀{cs:List C}{f:List T->Prog}{l:Log},runP E (qsm cs f) s l K=some r->∃xs l',runP E (f xs) s l' K=some r/\xs.length=cs.length/\∀(i:Nat)(c:C),cs[i]?=some c->∃x,xs[i]?=some x/\(c=.t x\/∃j,c=.kept j x)
 |[],f,l,hr=>⟨[],l,hr,rfl,by simp⟩
 |c::cs,f,l,hr=>by
  have go:∀{x:T},(c=.t x\/∃j,c=.kept j x)->runP E (qsm cs fun l=>f (x::l)) s l K=some r->∃xs l',runP E (f xs) s l' K=some r/\xs.length=(c::cs).length/\∀(i:Nat)(c':C),(c::cs)[i]?=some c'->∃x,xs[i]?=some x/\(c'=.t x\/∃j,c'=.kept j x):=fun {x} hc hr=>by
   obtain⟨xs,l',h1,h2,h3⟩:=qho hr;refine⟨x::xs,l',h1,by simp[h2],fun i c' hc'=>?_⟩;cases i with
   |zero=>simp at hc';subst hc';exact⟨x,rfl,hc⟩
   |succ i=>exact h3 i c' (by simpa using hc')
  cases c with
  |t x=>exact go (.inl rfl) hr
  |kept j x=>exact go (.inr ⟨_,rfl⟩) hr
  |_=>cases hr
theorem qki(h:Inv c s a w val fp){md:Mode}{t:TypeId}{v:V}{u:Value}(hv:VR (mkFr c w val fp) s v u){f:T->Bk->Prog}(hr:runP E (give P md t v f) s l K=some r) :
 ∃x bk s' l' G F,runP E (f x bk) s' l' K=some r/\Gone s s' G/\ArgT w (inI c w fp) (inJ c w fp) md x u F/\(∀b,b∈F->∃k,k∈G/\b∈fp k)/\BkOk c s w val fp md G u bk:=by
 unfold give at hr;split at hr
 ·rename_i os k;rw[q3s]at hr;split at hr
  ·rename_i cells hk;have hob:=h.obs k;rw[hk]at hob;obtain⟨b,cur,e,hvk,hF,hh,hcs⟩:=hob;have hh:w.heap[b]?=some (.cells cur e (0,0)):=hh;have hp:q8j (val k) 0 u:=qc0 hv (by rw[hk];rfl);rw[hvk]at hp;have hp:u=.pointer (some ⟨b,0,none⟩):=hp;obtain⟨ys,s',l',M,fs,h1,hm,hg⟩:=q9q h (Moved.refl s) hcs hr;rw[gAD]at hm;rw[q51]at h1
   have hbn:b∉flat ys.length fs:=fun hb=>by
    obtain⟨i,hi,hbi⟩:=q23.1 hb;obtain⟨k',hk',hbk'⟩:=hg.sub i b hi hbi
    have hne:k≠k':=fun e=>by
     subst e;obtain⟨_,⟨d,sz,cells',h2⟩|⟨m,h2⟩⟩:=hm.gone k hk' <;> rw[hk]at h2 <;> cases h2
    exact h.disj k k' hne b (by rw[hF];simp) hbk'
   refine⟨_,_,_,_,k::M,b::flat ys.length fs,h1,hm.gn.add (by rw[hk];rfl) (by rw[hk];rfl),⟨ys,rfl,b,cur,e,fs,hp,rfl,hbn,hh,hg.r⟩,fun x hx=>?_,by simp,by rw[hp,hvk],⟨b,hp⟩,.inl ⟨os,rfl,fun i k' h1 h2=>gF _ (hg.obj i k' h1 h2)⟩⟩;rcases gK.1 hx with rfl|hx
   ·exact⟨k,by simp,by rw[hF];simp⟩
   ·obtain⟨i,hi,hxi⟩:=q23.1 hx;obtain⟨k',hk',hbk'⟩:=hg.sub i x hi hxi;exact⟨k',gF _ hk',hbk'⟩
  ·cases hr
 ·rename_i k;rw[q3s]at hr;split at hr
  ·rename_i cells hk;have hob:=h.obs k;rw[hk]at hob;obtain⟨b,cur,e,hvk,hF,hh,hcs⟩:=hob;have hh:w.heap[b]?=some (.cells cur e (0,0)):=hh;have hp:q8j (val k) 0 u:=qc0 hv (by rw[hk];rfl);rw[hvk]at hp;have hp:u=.pointer (some ⟨b,0,none⟩):=hp;obtain⟨ys,l',h1,hl,hys⟩:=qho hr;rw[q51]at h1;have g0:Gone s s []:=⟨fun _=>rfl,by simp,fun _ _=>rfl⟩;refine⟨_,_,_,_,[k],[b],h1,g0.add (by rw[hk];rfl) (by rw[hk];rfl),⟨ys,rfl,b,cur,e,fun _=>[],hp,by simp[flat],by simp[flat],hh,by rw[hl];exact hcs.1,ND.nil _,fun i y u' hy hu=>?_⟩,fun x hx=>⟨k,by simp,by rw[hF];exact hx⟩,by simp,by rw[hp,hvk],⟨b,hp⟩,.inr ⟨rfl,hk,fun i c hc=>by obtain⟨x,_,hx⟩:=hys i c hc;exact⟨x,hx⟩⟩⟩;have hi:i<cells.length:=by rw[<- hl];exact(gB.1 hy).1
   obtain⟨x,hx,hc⟩:=hys i _ (gA hi);rw[hy]at hx;cases hx;have hcr:=hcs.2 i _ u' (gA hi) hu;unfold El;rw[if_neg (by simp)];refine⟨?_,rfl⟩;rcases hc with hc|⟨j,hc⟩ <;> rw[hc]at hcr
   ·exact hcr
   ·exact hcr.1
  ·cases hr
 ·rename_i k;rw[q3s]at hr;split at hr
  ·rename_i sz cs hk;rw[q51]at hr;have hob:=h.obs k;rw[hk]at hob;have hu:u=val k:=q6a hv hk;have g0:Gone s s []:=⟨fun _=>rfl,by simp,fun _ _=>rfl⟩;refine⟨_,_,_,_,[k],fp k,hr,g0.add (by rw[hk];rfl) (by rw[hk];rfl),⟨⟨_,_,rfl⟩,by rw[hu];exact hob⟩,fun x hx=>⟨k,by simp,hx⟩,rfl,by simp,hu⟩
  ·cases hr
 ·rename_i cells;obtain⟨vs,rfl,hcs⟩:=hv;obtain⟨ys,s',l',M,fs,h1,hm,hg⟩:=q9q h (Moved.refl s) hcs hr;rw[gAD]at hm
  have tr:∀i,i<ys.length->(qmn (q26 P 8 t)).getD i false=true:=fun i hi=>by
   have h1:i<(qmn (q26 P 8 t)).length:=by rw[hg.ol];exact hi
   unfold qmn at *;simp at h1;simp[gI,h1]
  refine⟨_,_,_,_,M,flat ys.length fs,h1,hm.gn,⟨ys,rfl,vs,fs,rfl,rfl,hg.r.1,hg.r.2.1,fun i y u hy hu=>?_⟩,fun x hx=>?_,rfl,vs,rfl,hcs,fun i k hk=>?_⟩
  ·have hi:=(gB.1 hy).1;have h2:=hg.r.2.2 i y u hy hu;rw[tr i hi]at h2;have h3:(qe1 ys).getD i false=true:=by simp[qe1,gI,hi]
   rw[h3];exact h2
  ·obtain⟨i,hi,hxi⟩:=q23.1 hx;exact hg.sub i x hi hxi
  ·refine hg.obj i k (tr i ?_) hk;rw[hg.r.1,<- hcs.1];exact(gB.1 hk).1
 ·cases hr
structure TakenG(w1:World)(I1 J1:Nat->Prop)(p:Prop)(s s':St)(G:List Key)(N:List Ent)(F:List Nat):Prop where
 tm:∀i,s'.getT i=s.getT i
 same:∀k,k∉G->(∀e,e∈N->e.key≠k)->s'.getO k=s.getO k
 gone:∀k,k∈G->(s.getO k=.gone\/∃j,s.getO k=.moved j)->(s'.getO k=.gone\/∃j,s'.getO k=.moved j)
 ent:∀e,e∈N->s.getO e.key=.free/\s'.getO e.key=e.ob/\e.Good w1 I1 J1 p/\∀x,x∈e.F->x∈F
 dis:N.Pairwise fun a b=>a.key≠b.key/\∀x,x∈a.F->x∉b.F
structure FitsM(w1:World)(I1 J1:Nat->Prop)(fl:Bool)(fr:Ev.Fr)(s:St)(N:List Ent):Prop where
 w:fr.w=w1
 I:fl=false->∀b,I1 b->fr.I b
 J:fl=false->∀b,J1 b->fr.J b
 ent:∀e,e∈N->s.getO e.key=e.ob/\fr.val e.key=e.v
theorem qox{I1 J1:Nat->Prop}{fl o:Bool}{t:TypeId}{key:Key}(hfl:fl=true->o=false->qdi P t=true){x:T}{v:Value}{F:List Nat}(hx:El w1 I1 J1 o x v F){old:C}
 (hG:o=true->∀k,old=.obj k->k∈G) {f:C->Prog} (hr:runP E (qx3 P o t key x old f) s l K=some r) :
 ∃c' s' l' N,runP E (f c') s' l' K=some r/\TakenG w1 I1 J1 (fl=false) s s' G N F/\∀fr s'',FitsM w1 I1 J1 fl fr s'' N->CR fr s'' c' v:=by
 have plain:∀{s0:St}{l0:Log},runP E (qlj P o key t x f) s0 l0 K=some r->∃c' s' l' N,runP E (f c') s' l' K=some r/\Taken w1 I1 J1 (fl=false) s0 s' N F/\∀fr s'',FitsM w1 I1 J1 fl fr s'' N->CR fr s'' c' v:=fun hr=>by
  obtain⟨c',s',l',N,h1,h2,h3⟩:=qeg (p:=fl=false) (own:=o) (fl:=fl && !o) (fun e=>by rw[gC,Bool.not_eq_true']at e;exact hfl e.1 e.2) hx hr;refine⟨c',s',l',N,h1,h2,fun fr s'' hf=>h3 fr s'' ⟨hf.w,fun ho hf'=>hf.I ?_,fun ho hf'=>hf.J ?_,hf.ent⟩⟩
  ·subst ho;simpa using hf'
  ·subst ho;simpa using hf'
 unfold qx3 at hr;split at hr
 ·rename_i k;rw[q51]at hr;obtain⟨c',s',l',N,h1,h2,h3⟩:=plain hr;have hk:=hG rfl k rfl;refine⟨c',s',l',N,h1,⟨h2.tm,fun j hj hn=>?_,fun j hj hg=>?_,fun e he=>?_,h2.dis⟩,h3⟩
  ·have hkj:k≠j:=fun e=>by subst e;exact hj hk
   rw[h2.same j hn,q2y,if_neg hkj]
  ·by_cases hn:∀e,e∈N->e.key≠j
   ·rw[h2.same j hn,q2y];by_cases hkj:k=j
    ·rw[if_pos hkj];exact .inr ⟨_,rfl⟩
    ·rw[if_neg hkj];exact hg
   ·exfalso;apply hn;intro e he hek;have:=(h2.ent e he).1;rw[hek,q2y]at this;split at this
    ·cases this
    ·rcases hg with hg|⟨i,hg⟩ <;> rw[hg]at this <;> cases this
  ·obtain⟨e1,e2,e3,e4⟩:=h2.ent e he;rw[q2y]at e1;split at e1
   ·cases e1
   ·exact⟨e1,e2,e3,e4⟩
 ·obtain⟨c',s',l',N,h1,h2,h3⟩:=plain hr;refine⟨c',s',l',N,h1,⟨h2.tm,fun j _ hn=>h2.same j hn,fun j hj hg=>?_,h2.ent,h2.dis⟩,h3⟩;rw[h2.same j fun e he hek=>?_]
  ·exact hg
  ·have:=(h2.ent e he).1;rw[hek]at this;rcases hg with hg|⟨i,hg⟩ <;> rw[hg]at this <;> cases this
theorem TakenG.trans{I1 J1:Nat->Prop}{p:Prop}{N N':List Ent}{F F' H:List Nat}(h:TakenG w1 I1 J1 p s s1 G N F)(h':TakenG w1 I1 J1 p s1 s2 G N' F')(hg:∀k,k∈G->(s.getO k=.gone\/∃j,s.getO k=.moved j))(hd:∀x,x∈F->x∉F')(hH:∀x,x∈F\/x∈F'->x∈H):TakenG w1 I1 J1 p s s2 G (N++N') H:=by
 have hng:∀e,e∈N->e.key∉G:=fun e he hk=>by
  have:=(h.ent e he).1;rcases hg _ hk with hg|⟨i,hg⟩ <;> rw[hg]at this <;> cases this
 have hng':∀e,e∈N'->e.key∉G:=fun e he hk=>by
  have:=(h'.ent e he).1;rcases h.gone _ hk (hg _ hk)with hg|⟨i,hg⟩ <;> rw[hg]at this <;> cases this
 have hne:∀e e',e∈N->e'∈N'->e.key≠e'.key:=fun e e' he he' hk=>by
  have h1:=(h.ent e he).2.1;have h2:=(h'.ent e' he').1;rw[hk,h2]at h1;exact(h.ent e he).2.2.1.ne h1.symm
 refine⟨fun i=>(h'.tm i).trans (h.tm i),fun k hk hn=>?_,fun k hk hg=>h'.gone k hk (h.gone k hk hg),fun e he=>?_,?_⟩
 ·rw[h'.same k hk (fun e he=>hn e (gN _ he)),h.same k hk (fun e he=>hn e (gJ _ he))]
 ·rcases gO.1 he with he|he
  ·obtain⟨h1,h2,h3,h4⟩:=h.ent e he;refine⟨h1,?_,h3,fun x hx=>hH x (.inl (h4 x hx))⟩;rw[h'.same e.key (hng e he) (fun e' he' hk=>hne e e' he he' hk.symm)];exact h2
  ·obtain⟨h1,h2,h3,h4⟩:=h'.ent e he;refine⟨?_,h2,h3,fun x hx=>hH x (.inr (h4 x hx))⟩;rw[<- h.same e.key (hng' e he) (fun e' he' hk=>hne e' e he' he hk)];exact h1
 ·rw[List.pairwise_append];exact⟨h.dis,h'.dis,fun e he e' he'=>⟨hne e e' he he',fun x hx hx'=>hd x ((h.ent e he).2.2.2 x hx) ((h'.ent e' he').2.2.2 x hx')⟩⟩
theorem qg7{I1 J1:Nat->Prop}{fl:Bool}:∀{os:List Bool}{ts:List TypeId}{key:Key}{xs:List T}{olds:List C}{us:List Value}{fs:Nat->List Nat}{s:St}{l:Log}{f:List C->Prog},
 (fl=true->∀i t,os.getD i false=false->ts[i]?=some t->qdi P t=true)->qhg w1 I1 J1 os xs us fs->(∀(i:Nat)(k:Key),os.getD i false=true->olds[i]?=some (C.obj k)->k∈G)->
 (∀k,k∈G->(s.getO k=.gone\/∃j,s.getO k=.moved j))->runP E (qn5 P os ts key xs olds f) s l K=some r->
 ∃cs s' l' N,runP E (f cs) s' l' K=some r/\TakenG w1 I1 J1 (fl=false) s s' G N (flat xs.length fs)/\∀fr s'',FitsM w1 I1 J1 fl fr s'' N->CRs fr s'' cs us
 |[],[],key,xs,[],us,fs,s,l,f,hfl,hx,hG,hg,hr=>by
  rw[qn5,q7v]at hr;split at hr
  ·have:us=[]:=gL (by simpa using hx.1.symm);subst this;exact⟨[],s,l,[],hr,⟨fun _=>rfl,fun _ _ _=>rfl,fun _ _ h=>h,by simp,List.Pairwise.nil⟩,fun _ _ _=>⟨rfl,by simp⟩⟩
  ·cases hr
 |o::os,t::ts,key,xs,old::olds,us,fs,s,l,f,hfl,hx,hG,hg,hr=>by
  rw[qn5,q96]at hr;split at hr
  ·rename_i x xs;cases us with
   |nil=>have:=hx.1;simp at this
   |cons u us=>
    obtain⟨c',s1,l1,N,h1,ht1,hc1⟩:=qox (I1:=I1) (J1:=J1) (fl:=fl) (fun e ho=>hfl e 0 t ho rfl) (hx.2.2 0 x u rfl rfl) (fun ho k hk=>hG 0 k ho (by rw[hk];rfl)) hr
    obtain⟨cs,s2,l2,N',h2,ht2,hc2⟩:=qg7 (I1:=I1) (J1:=J1) (fl:=fl) (os:=os) (xs:=xs) (us:=us) (fs:=fun i=>fs (i+1)) (fun e i t ho ht=>hfl e (i+1) t (by simpa using ho) (by simpa using ht))
     ⟨by simpa using hx.1,⟨fun i hi=>hx.2.1.1 (i+1) (by simp;omega),fun i j hi hj hne=>hx.2.1.2 (i+1) (j+1) (by simp;omega) (by simp;omega) (by omega)⟩,
      fun i y u hy hu=>by simpa using hx.2.2 (i+1) y u (by simpa using hy) (by simpa using hu)⟩ (fun i k ho hk=>hG (i+1) k (by simpa using ho) (by simpa using hk)) (fun k hk=>ht1.gone k hk (hg k hk)) h1
    refine⟨c'::cs,s2,l2,N++N',h2,ht1.trans ht2 hg (fun x hx1 hx2=>?_) (fun x hx=>?_),fun fr s'' hf=>?_⟩
    ·obtain⟨i,hi,hx3⟩:=q23.1 hx2;exact hx.2.1.2 0 (i+1) (by simp) (by simp;omega) (by omega) x hx1 hx3
    ·rcases hx with hx|hx
     ·exact q23.2 ⟨0,by simp,hx⟩
     ·obtain⟨i,hi,hx⟩:=q23.1 hx;exact q23.2 ⟨i+1,by simp;omega,hx⟩
    ·have q1:=hc1 fr s'' ⟨hf.w,hf.I,hf.J,fun e he=>hf.ent e (gJ _ he)⟩;have q2:=hc2 fr s'' ⟨hf.w,hf.I,hf.J,fun e he=>hf.ent e (gN _ he)⟩;refine⟨by simpa using q2.1,fun i c' v' hc' hv'=>?_⟩;cases i with
     |zero=>simp at hc' hv';subst hc';subst hv';exact q1
     |succ i=>exact q2.2 i c' v' (by simpa using hc') (by simpa using hv')
  ·cases hr
 |[],[],_,_,_::_,_,_,_,_,_,_,_,_,_,hr=>by cases hr
 |[],_::_,_,_,_,_,_,_,_,_,_,_,_,_,hr=>by cases hr
 |_::_,[],_,_,_,_,_,_,_,_,_,_,_,_,hr=>by cases hr
 |_::_,_::_,_,_,[],_,_,_,_,_,_,_,_,_,hr=>by cases hr
structure Past(f f':Ev.Fr):Prop where
 I:∀b,f.I b->f'.I b/\f'.w.heap[b]?=f.w.heap[b]?
 J:∀b,f.J b->f'.J b/\f'.w.heap[b]?=f.w.heap[b]?
 kept:f'.kept=f.kept
structure Backed(w1:World)(I1 J1:Nat->Prop)(fl:Bool)(fr0:Ev.Fr)(val:Key->Value)(s s':St)(G:List Key)(N:List EntG)(F:List Nat):Prop where
 tm:∀i,s'.getT i=s.getT i
 same:∀k,k∉G->(∀e,e∈N->e.key≠k)->s'.getO k=s.getO k
 gone:∀k,k∈G->(∀e,e∈N->e.key≠k)->(s'.getO k=.gone\/∃j,s'.getO k=.moved j)
 ent:∀e,e∈N->s'.getO e.key=e.ob/\qal e.ob/\(s.getO e.key=.free\/(e.key∈G/\e.v=val e.key))/\∀x,x∈e.F->x∈F
 dis:N.Pairwise fun a b=>a.key≠b.key/\∀x,x∈a.F->x∉b.F
 ob:∀(fr:Ev.Fr) s'',fr.w=w1->Past fr0 fr->(fl=false->∀b,I1 b->fr.I b)->(fl=false->∀b,J1 b->fr.J b)->(∀e,e∈N->s''.getO e.key=e.ob/\fr.val e.key=e.v)->∀e,e∈N->ObR fr s'' e.ob e.v e.F
theorem qda(hv:∀k,k∈G->qal (s.getO k)):∀{ts:List TypeId}{xs:List T}{olds:List C}{us:List Value}{fs:Nat->List Nat}{s1:St}{l:Log}{p:Prog}{I1 J1:Nat->Prop}{fl:Bool},
 qhg w1 (fun _=>False) (fun _=>False) (qe1 xs) xs us fs->CRs (mkFr c w val fp) s olds us->(∀(i:Nat)(k:Key),olds[i]?=some (C.obj k)->k∈G)->runP E (qko P ts xs olds p) s1 l K=some r->
 ∃s' l',∃N:List EntG,runP E p s' l' K=some r/\(∀i,s'.getT i=s1.getT i)/\(∀k,(∀e,e∈N->e.key≠k)->s'.getO k=s1.getO k)/\
  (∀e,e∈N->s1.getO e.key=.gone/\s'.getO e.key=e.ob/\qal e.ob/\e.key∈G/\e.v=val e.key/\∀x,x∈e.F->x∈flat xs.length fs)/\(N.Pairwise fun a b=>a.key≠b.key/\∀x,x∈a.F->x∉b.F)/\
  ∀(fr:Ev.Fr) s'',fr.w=w1->∀e,e∈N->ObR fr s'' e.ob e.v e.F
 |[],xs,[],us,fs,s1,l,p,I1,J1,fl,hx,ho,hG,hr=>by
  rw[qko,q7v]at hr;split at hr
  ·exact⟨s1,l,[],hr,fun _=>rfl,fun _ _=>rfl,by simp,List.Pairwise.nil,by simp⟩
  ·cases hr
 |t::ts,xs,old::olds,us,fs,s1,l,p,I1,J1,fl,hx,ho,hG,hr=>by
  rw[qko,q96]at hr;split at hr
  ·rename_i x xs;cases us with
   |nil=>have:=hx.1;simp at this
   |cons u us=>
    have hx':qhg w1 (fun _=>False) (fun _=>False) (qe1 xs) xs us (fun i=>fs (i+1)):=⟨by simpa using hx.1,⟨fun i hi=>hx.2.1.1 (i+1) (by simp;omega),fun i j hi hj hne=>hx.2.1.2 (i+1) (j+1) (by simp;omega) (by simp;omega) (by omega)⟩,
     fun i y u hy hu=>by simpa[qe1]using hx.2.2 (i+1) y u (by simpa using hy) (by simpa using hu)⟩
    have ho':CRs (mkFr c w val fp) s olds us:=⟨by simpa using ho.1,fun i c v hc hv=>ho.2 (i+1) c v (by simpa using hc) (by simpa using hv)⟩;have hG':∀(i:Nat)(k:Key),olds[i]?=some (C.obj k)->k∈G:=fun i k hk=>hG (i+1) k (by simpa using hk)
    have up:∀b,b∈flat xs.length (fun i=>fs (i+1))->b∈flat (x::xs).length fs/\(∃i,i<xs.length/\b∈fs (i+1)):=fun b hb=>by
     obtain⟨i,hi,hx⟩:=q23.1 hb;exact⟨q23.2 ⟨i+1,by simp;omega,hx⟩,i,hi,hx⟩
    split at hr
    ·rename_i k;rw[q3s]at hr;split at hr
     ·rename_i hgone;rw[q6f]at hr;split at hr
      ·rename_i sz cs;replace hr:=q1c hr;obtain⟨hsz,hr⟩:=hr;have hsz:sz=q5e P t:=gE hsz;subst hsz;rw[q51]at hr;have hk:=hG 0 k rfl;have hu:u=val k:=qcc (ho.2 0 _ u rfl rfl) (hv k hk)
       have hro:RO w1 (.sl (q5e P t) cs) u (fs 0):=by
        have:=hx.2.2 0 _ u rfl rfl;simpa[qe1,El]using this
       obtain⟨s',l',N,h1,h2,h3,h4,h5,h6⟩:=qda hv (I1:=I1) (J1:=J1) (fl:=fl) hx' ho' hG' hr
       have hkn:∀e,e∈N->e.key≠k:=fun e he hek=>by
        have:=(h4 e he).1;rw[hek,q2y,if_pos rfl]at this;cases this
       refine⟨s',l',⟨k,.arr true true (q5e P t) cs,val k,fs 0⟩::N,h1,h2,fun j hj=>?_,fun e he=>?_,?_,fun fr s'' hw e he=>?_⟩
       ·rw[h3 j fun e he=>hj e (gF _ he),q2y,if_neg (show ¬ k=j from hj _ List.mem_cons_self)]
       ·rcases gK.1 he with rfl|he
        ·refine⟨hgone,?_,rfl,hk,rfl,fun x hx=>q23.2 ⟨0,by simp,hx⟩⟩;rw[h3 k hkn,q2y,if_pos rfl]
        ·obtain⟨q1,q2,q3,q4,q5,q6⟩:=h4 e he;refine⟨?_,q2,q3,q4,q5,fun x hx=>(up x (q6 x hx)).1⟩;rw[q2y,if_neg (fun e'=>hkn e he e'.symm)]at q1;exact q1
       ·rw[List.pairwise_cons];refine⟨fun e he=>⟨fun e'=>hkn e he e'.symm,fun b hb hb'=>?_⟩,h5⟩;obtain⟨_,i,hi,hx2⟩:=up b ((h4 e he).2.2.2.2.2 b hb');exact hx.2.1.2 0 (i+1) (by simp) (by simp;omega) (by omega) b hb hx2
       ·rcases gK.1 he with rfl|he
        ·show RO fr.w _ _ _;rw[hw,<- hu];exact hro
        ·exact h6 fr s'' hw e he
      ·cases hr
     ·cases hr
    ·obtain⟨s',l',N,h1,h2,h3,h4,h5,h6⟩:=qda hv (I1:=I1) (J1:=J1) (fl:=fl) hx' ho' hG' hr;refine⟨s',l',N,h1,h2,h3,fun e he=>?_,h5,h6⟩;obtain⟨q1,q2,q3,q4,q5,q6⟩:=h4 e he;exact⟨q1,q2,q3,q4,q5,fun x hx=>(up x (q6 x hx)).1⟩
  ·cases hr
 |[],_,_::_,_,_,_,_,_,_,_,_,_,_,_,hr=>by cases hr
 |_::_,_,[],_,_,_,_,_,_,_,_,_,_,_,hr=>by cases hr
theorem qg4:∀{os:List Bool}{ts:List TypeId},qk8 P os ts=true->∀(i:Nat)(t:TypeId),os.getD i false=false->ts[i]?=some t->qdi P t=true
 |_,[],_,i,t,_,ht=>by simp at ht
 |[],t::ts,h,i,t',ho,ht=>by
  rw[qk8,gC]at h;cases i with
  |zero=>simp at ht;subst ht;exact h.1
  |succ i=>exact qg4 h.2 i t' (by simp) (by simpa using ht)
 |o::os,t::ts,h,i,t',ho,ht=>by
  rw[qk8,gC,Bool.or_eq_true]at h;cases i with
  |zero=>
   simp at ht ho;subst ht;rcases h.1 with h1|h1
   ·rw[ho]at h1;cases h1
   ·exact h1
  |succ i=>exact qg4 h.2 i t' (by simpa using ho) (by simpa using ht)
theorem qgo:∀{ts:List TypeId}{xs:List T}{old:List C}{f:List C->Prog}{l:Log},runP E (qig P ts xs old f) s l K=some r->
 ∃cs l',runP E (f cs) s l' K=some r/\cs.length=xs.length/\∀(i:Nat)(c:C)(x:T),cs[i]?=some c->xs[i]?=some x->(x.scalar=true/\c=.t x)\/(x.scalar=false/\old[i]?=some c)
 |[],xs,[],f,l,hr=>by
  rw[qig,q7v]at hr;split at hr
  ·exact⟨[],l,hr,rfl,by simp⟩
  ·cases hr
 |t::ts,xs,o::old,f,l,hr=>by
  rw[qig,q96]at hr;split at hr
  ·rename_i x xs
   have go:∀{c:C}{l:Log},((x.scalar=true/\c=.t x)\/(x.scalar=false/\c=o))->runP E (qig P ts xs old fun l=>f (c::l)) s l K=some r->∃cs l',runP E (f cs) s l' K=some r/\cs.length=(x::xs).length/\
    ∀(i:Nat)(c:C)(y:T),cs[i]?=some c->(x::xs)[i]?=some y->(y.scalar=true/\c=.t y)\/(y.scalar=false/\(o::old)[i]?=some c):=fun {c l} hc hr=>by
    obtain⟨cs,l1,h1,h2,h3⟩:=qgo hr;refine⟨c::cs,l1,h1,by simp[h2],fun i c' y hc' hy=>?_⟩;cases i with
    |zero=>
     simp at hc' hy;subst hc';subst hy;rcases hc with hc|⟨hc,rfl⟩
     ·exact .inl hc
     ·exact .inr ⟨hc,rfl⟩
    |succ i=>exact h3 i c' y (by simpa using hc') (by simpa using hy)
   cases hf:qdi P t with
   |true=>
    rw[hf,cond_true]at hr;obtain⟨l1,h1,hsc,_⟩:=q9p hr;exact go (.inl ⟨hsc hf,rfl⟩) h1
   |false=>
    rw[hf,cond_false]at hr;split at hr
    ·rw[q6f]at hr;split at hr
     ·exact go (.inr ⟨rfl,rfl⟩) (q1c hr).2
     ·cases hr
    ·cases hr
  ·cases hr
 |[],_,_::_,_,_,hr=>by cases hr
 |_::_,_,[],_,_,hr=>by cases hr
theorem qk4(h:Inv c s a w val fp){I1 J1:Nat->Prop}{fl:Bool}{md:Mode}{d:Nat}{t:TypeId}(hfl:fl=true->qr3 P md t=true)(hgn:Gone s s1 G){bk:Bk}{u:Value}(hbk:BkOk c s w val fp md G u bk){y:T}{F:List Nat}(hy:OutT w1 I1 J1 (qe2 w u) md y u F){p:Prog}
 (hr:runP E (back P md d t bk [y] p) s1 l K=some r):∃s' l' N,runP E p s' l' K=some r/\Backed w1 I1 J1 fl (mkFr c w val fp) val s1 s' G N F:=by
 unfold back at hr;rw[q96]at hr;simp only[q7v]at hr;split at hr
 ·rename_i k sz;obtain⟨rfl,hk,hu⟩:=hbk;obtain⟨⟨sz',cs',rfl⟩,hro⟩:=hy;rw[q6f]at hr;simp only at hr;replace hr:=q1c hr;obtain⟨hsz,hr⟩:=hr;have hsz:sz'=sz:=gE hsz;subst hsz;rw[q51]at hr;refine⟨_,_,[⟨k,.arr true true sz' cs',val k,F⟩],hr,⟨fun _=>rfl,fun j _ hj=>?_,fun j hj hn=>?_,fun e he=>?_,by simp,fun fr s'' hw _ _ _ _ e he=>?_⟩⟩
  ·rw[q2y,if_neg (show ¬ k=j from hj _ List.mem_cons_self)]
  ·rw[q2y,if_neg (show ¬ k=j from hn _ List.mem_cons_self)];exact(hgn.gone j hj).2.2
  ·rw[gD.1 he];exact⟨by rw[q2y,if_pos rfl],rfl,.inr ⟨hk,rfl⟩,fun _ h=>h⟩
  ·rw[gD.1 he];show RO fr.w _ _ _;rw[hw,<- hu];exact hro
 ·rename_i k old os;obtain⟨hk,hu,⟨b,hb⟩,⟨os',hmd,hG⟩|⟨hmd,_⟩⟩:=hbk
  rotate_left
  ·cases hmd
  cases hmd;obtain⟨ys,rfl,b',cur,e,fs,hv',hF,hbn,hh,hcr⟩:=hy;rw[hb]at hv';cases hv';rw[qat]at hr;simp only at hr;obtain⟨cs,s',l',N,h1,h2,h3⟩:=qg7 (G:=G) (I1:=I1) (J1:=J1) (fl:=fl) (fun e i t' ho ht=>qg4 (hfl e) i t' ho ht) hcr hG (fun k hk=>(hgn.gone k hk).2.2) hr;rw[q51]at h1
  have hng:∀e,e∈N->e.key∉G:=fun e he hk=>by
   have:=(h2.ent e he).1;rcases(hgn.gone _ hk).2.2 with hg|⟨i,hg⟩ <;> rw[hg]at this <;> cases this
  have hNk:∀e,e∈N->k≠e.key:=fun e he e'=>hng e he (e'▸hk);refine⟨_,_,⟨k,.box cs,val k,[b]⟩::N.map Ent.g,h1,⟨h2.tm,fun j hj hn=>?_,fun j hj hn=>?_,fun e he=>?_,?_,fun fr s'' hw _ hI hJ hN e he=>?_⟩⟩
  ·rw[q2y,if_neg (show ¬ k=j from hn _ List.mem_cons_self),h2.same j hj fun e he=>hn e.g (gF _ (List.mem_map_of_mem he))]
  ·rw[q2y,if_neg (show ¬ k=j from hn _ List.mem_cons_self)];exact h2.gone j hj (hgn.gone j hj).2.2
  ·rcases gK.1 he with rfl|he
   ·exact⟨by rw[q2y,if_pos rfl],rfl,.inr ⟨hk,rfl⟩,fun x hx=>by rw[hF];rw[gD.1 hx];simp⟩
   ·obtain⟨e0,he0,rfl⟩:=List.mem_map.1 he;obtain⟨q1,q2,q3,q4⟩:=h2.ent e0 he0;exact⟨by rw[q2y,if_neg (show ¬ k=e0.g.key from hNk e0 he0)];exact q2,q3.alive,.inl q1,fun x hx=>by rw[hF];exact gF _ (q4 x hx)⟩
  ·rw[List.pairwise_cons];refine⟨fun e he=>?_,List.pairwise_map.2 h2.dis⟩;obtain⟨e0,he0,rfl⟩:=List.mem_map.1 he;refine⟨hNk e0 he0,fun x hx hx'=>hbn ?_⟩;rw[gD.1 hx]at hx';exact(h2.ent e0 he0).2.2.2 b hx'
  ·rcases gK.1 he with rfl|he
   ·have hc:=h3 fr s'' ⟨hw,hI,hJ,fun e0 he0=>hN e0.g (gF _ (List.mem_map_of_mem he0))⟩;exact⟨b,cur,e,by rw[<- hu,hb],rfl,by rw[hw];exact hh,hc⟩
   ·obtain⟨e0,he0,rfl⟩:=List.mem_map.1 he;exact(h2.ent e0 he0).2.2.1.obr hw hI hJ
 ·rename_i k old;obtain⟨hk,hu,⟨b,hb⟩,⟨os',hmd,_⟩|⟨_,hold,hcl⟩⟩:=hbk
  ·cases hmd
  obtain⟨ys,rfl,b',cur,e,hv',hF,hh,hyl,hys⟩:=hy;rw[hb]at hv';cases hv';rw[qat]at hr;simp only at hr;have hob:=h.obs k;rw[hold]at hob;obtain⟨b0,cur0,e0,hvk,hF0,hh0,hcs0⟩:=hob;have hh0:w.heap[b0]?=some (.cells cur0 e0 (0,0)):=hh0;rw[<- hu,hb]at hvk;cases hvk
  have hkept:∀i,qe2 w u i=cur0.getD i undef:=fun i=>by
   rw[hb];unfold qe2;simp only[hh0]
  obtain⟨cells,l1,h1,hcl1,hcells⟩:=qgo hr;rw[q51]at h1;refine⟨_,_,[⟨k,.box cells,val k,[b]⟩],h1,⟨fun _=>rfl,fun j _ hj=>?_,fun j hj hn=>?_,fun e he=>?_,by simp,fun fr s'' hw hP _ _ _ e he=>?_⟩⟩
  ·rw[q2y,if_neg (show ¬ k=j from hj _ List.mem_cons_self)]
  ·rw[q2y,if_neg (show ¬ k=j from hn _ List.mem_cons_self)];exact(hgn.gone j hj).2.2
  ·rw[gD.1 he];exact⟨by rw[q2y,if_pos rfl],rfl,.inr ⟨hk,rfl⟩,fun x hx=>by rw[hF];exact hx⟩
  ·rw[gD.1 he];refine⟨b,cur,_,by rw[<- hu,hb],rfl,by rw[hw];exact hh,by rw[hcl1,hyl];simp,fun i cc v hci hvi=>?_⟩;have hi:i<ys.length:=by rw[<- hcl1];exact(gB.1 hci).1
   obtain⟨q1,q2⟩:=hys i _ v (gA hi) (by simpa using hvi);rcases hcells i cc _ hci (gA hi)with⟨hsc,rfl⟩|⟨hns,hoc⟩
   ·show RB fr.w fr.I fr.J _ v;exact qbo (q1 hsc) hsc
   ·have hv0:=q2 hns;rw[hkept]at hv0;have hio:=(gB.1 hoc).1;have hic:i<cur0.size:=by have:=hcs0.1;simp at this;omega
    have hcr:=hcs0.2 i cc v hoc (by rw[hv0];simp[hic]);obtain⟨x,hx|⟨j,hx⟩⟩:=hcl i cc hoc <;> subst hx
    ·exact RB.move hcr hP.I hP.J
    ·exact⟨RB.move hcr.1 hP.I hP.J,by rw[hP.kept];exact hcr.2⟩
 ·rename_i old _;obtain⟨rfl,vs,hu,hcs,hG⟩:=hbk;obtain⟨ys,rfl,vs',fs,hu',hF,hcr⟩:=hy;rw[hu]at hu';cases hu';rw[qat]at hr;simp only at hr;obtain⟨s',l',N,h1,h2,h3,h4,h5,h6⟩:=qda (I1:=I1) (J1:=J1) (fl:=fl) (fun k hk=>(hgn.gone k hk).1) hcr hcs hG hr;refine⟨s',l',N,h1,⟨h2,fun k _ hk=>h3 k hk,fun k hk hn=>by rw[h3 k hn];exact(hgn.gone k hk).2.2,fun e he=>?_,h5,fun fr s'' hw _ _ _ _ e he=>h6 fr s'' hw e he⟩⟩;obtain⟨q1,q2,q3,q4,q5,q6⟩:=h4 e he;exact⟨q2,q3,.inr ⟨q4,q5⟩,fun x hx=>by rw[hF];exact q6 x hx⟩
 ·cases hr
end
end Ev
namespace Ev
open Go
section
variable {P:Program}{A:q7t}{E:Env}{c:Ctx}{s s1 s2 s3:St}{a:Act}{w w1:World}{val:Key->Value}{fp:Key->List Nat}{Ft Fr Fo:List Nat}{G:List Key}
variable {l:Log}{K:St->Log->R}{r:T×List T}
theorem ql4{t:TypeId}{own b:Bool}(h:b=true->okR P own t=true):(b=true->own=false->qgk P t=true)/\(qob P t=true->b=false):=by
 have flat_ptr:qgk P t=true->qob P t=false:=fun hf=>by
  have one:∀t,qe9 P t=true->q9s P t=false:=fun t ht=>by
   cases hp:q9s P t with
   |false=>rfl
   |true=>
    unfold q9s at hp;split at hp
    ·rename_i e he;have:q26 P 8 t=[t]:=by rw[q26,he]
     unfold qe9 at ht;rw[this]at ht;simp[he]at ht
    ·cases hp
  unfold qgk at hf;unfold qob;split
  ·rename_i ts hts;rw[hts]at hf;rw[List.any_eq_false];intro t' ht';rw[one t' (gAL.1 hf t' ht')];simp
  ·rename_i hts;split at hf
   ·rename_i ts h;exact absurd h (hts ts)
   ·exact one t hf
 refine⟨fun hb ho=>?_,fun hp=>?_⟩
 ·have:=h hb;unfold okR at this;rw[ho]at this;simpa using this
 ·cases b with
  |false=>rfl
  |true=>
   have:=h rfl;unfold okR at this;rw[hp]at this;simp only[Bool.not_true,Bool.and_false,Bool.or_false]at this;rw[flat_ptr this]at hp;cases hp
theorem qex(h:Inv c s a w val fp){d:Nat}(hd:d<a.tmps.size){N1:List EntG}{N2:List Ent}{own b:Bool}{v:Value}{y:V}{I1 J1:Nat->Prop}
 (hgn:Gone s s1 G) (hFt:∀x,x∈Ft->∃k,k∈G/\x∈fp k) (hI1:I1=aftI (SI c w fp Ft b) w w1 Ft Fr Fo) (hJ1:J1=aftI (SJ c w fp Ft b) w w1 Ft Fr Fo)
 (hbk:Backed w1 I1 J1 b (mkFr c w val fp) val s1 s2 G N1 Fo) (ht:Taken w1 I1 J1 (b=false) s2 s3 N2 Fr)
 (hkp:Kp (· ∈ Ft) w w1) (hfr:∀x,x∈Fr\/x∈Fo->x∈Ft\/w.heap.size<=x) (hap:∀x,x∈Fr->x∉Fo)
 (hv:∀fr s'',Fits w1 I1 J1 own (b && !own) fr s'' N2->VR fr s'' y v) {l3:Log} (hK:K (s3.setT d y) l3=some r):Post c w K r (a.put (some d) v) w1:=by
 subst hI1;subst hJ1
 have hN1:∀e,e∈N1->∀e',e'∈N2->e.key≠e'.key:=fun e he e' he' hk=>by
  have h1:=(hbk.ent e he).1;have h2:=(ht.ent e' he').1;have h3:=(hbk.ent e he).2.1;rw[hk,h2]at h1;rw[<- h1]at h3;cases h3
 have hG2:∀e',e'∈N2->e'.key∉G:=fun e' he' hk=>by
  have h2:=(ht.ent e' he').1;by_cases hn:∀e,e∈N1->e.key≠e'.key
  ·rcases hbk.gone _ hk hn with hg|⟨i,hg⟩ <;> rw[hg]at h2 <;> cases h2
  ·exact hn fun e he=>hN1 e he e' he'
 have free:∀k,k∉G->s1.getO k=.free->s.getO k=.free:=fun k hk hf=>by rw[<- hgn.same k hk];exact hf
 have mem:∀e,e∈N1++N2.map Ent.g->e∈N1\/∃e',e'∈N2/\e'.g=e:=fun e he=>(gO.1 he).imp id fun h=>List.mem_map.1 h
 have ka:∀{k:Key},(∀e,e∈N1++N2.map Ent.g->e.key≠k)->(∀e,e∈N1->e.key≠k)/\∀e,e∈N2->e.key≠k:=fun hn=>
  ⟨fun e he=>hn e (gJ _ he),fun e he=>hn e.g (gN _ (List.mem_map_of_mem he))⟩
 have fin:∀(fr:Ev.Fr),fr.w=w1->(∀x,aftG (inI c w fp) w w1 Ft (N1++N2.map Ent.g) x->fr.I x)->(∀x,aftG (inJ c w fp) w w1 Ft (N1++N2.map Ent.g) x->fr.J x)->
  (b=false->∀x,aftI (SI c w fp Ft b) w w1 Ft Fr Fo x->fr.I x)/\(b=false->∀x,aftI (SJ c w fp Ft b) w w1 Ft Fr Fo x->fr.J x):=fun fr _ hI hJ=>by
  have out:∀x,x∉Fr->x∉Fo->∀e,e∈N1++N2.map Ent.g->x∉e.F:=fun x h1 h2 e he hx=>by
   rcases mem e he with he|⟨e',he',rfl⟩
   ·exact h2 ((hbk.ent e he).2.2.2 x hx)
   ·exact h1 ((ht.ent e' he').2.2.2 x hx)
  refine⟨fun hb x hx=>hI x ⟨?_,hx.2.1,out x hx.2.2.1 hx.2.2.2⟩,fun hb x hx=>hJ x ⟨?_,hx.2.1,out x hx.2.2.1 hx.2.2.2⟩⟩
  ·rcases hx.1 with h4|h4
   ·exact .inl ⟨h4.1,h4.2.1,h4.2.2.2 hb⟩
   ·exact .inr h4
  ·rcases hx.1 with h4|h4
   ·exact .inl ⟨h4.1,h4.2.1,h4.2.2.2 hb⟩
   ·exact .inr h4
 have g3:∀e,e∈N1++N2.map Ent.g->s3.getO e.key=e.ob:=fun e he=>by
  rcases mem e he with he|⟨e',he',rfl⟩
  ·rw[ht.same e.key fun e' he' hk=>hN1 e he e' he' hk.symm];exact(hbk.ent e he).1
  ·exact(ht.ent e' he').2.1
 obtain⟨val',fp',q1,q2,q3,q4,q5⟩:=qry (N:=N1++N2.map Ent.g) (s3:=s3) (G:=G) (Ft:=Ft) h (fun i=>(ht.tm i).trans ((hbk.tm i).trans (hgn.tm i)))
  (fun k hk hn=>by rw[ht.same k (ka hn).2,hbk.same k hk (ka hn).1,hgn.same k hk])
  (fun k hk=>⟨(hgn.gone k hk).1,(hgn.gone k hk).2.1,fun hn=>by rw[ht.same k (ka hn).2];exact hbk.gone k hk (ka hn).1⟩)
  (fun e he=>⟨g3 e he,by
   rcases mem e he with he|⟨e',he',rfl⟩
   ·exact(hbk.ent e he).2.1
   ·exact(ht.ent e' he').2.2.1.alive,by
   rcases mem e he with he|⟨e',he',rfl⟩
   ·rcases(hbk.ent e he).2.2.1 with h1|h1
    ·by_cases hk:e.key∈G
     ·rcases(hgn.gone _ hk).2.2 with hg|⟨i,hg⟩ <;> rw[hg]at h1 <;> cases h1
     ·exact .inl (free _ hk h1)
    ·exact .inr h1
   ·have h2:=(ht.ent e' he').1;refine .inl (free _ (hG2 e' he') ?_);show s1.getO e'.key=.free;rw[<- hbk.same e'.key (hG2 e' he') fun e he hk=>hN1 e he e' he' hk];exact h2,fun x hx=>by
   rcases mem e he with he|⟨e',he',rfl⟩
   ·exact hfr x (.inr ((hbk.ent e he).2.2.2 x hx))
   ·exact hfr x (.inl ((ht.ent e' he').2.2.2 x hx))⟩)
  (by
   rw[List.pairwise_append];refine⟨hbk.dis,List.pairwise_map.2 ht.dis,fun e he e'' he''=>?_⟩;obtain⟨e',he',rfl⟩:=List.mem_map.1 he'';exact⟨hN1 e he e' he',fun x hx hx'=>hap x ((ht.ent e' he').2.2.2 x hx') ((hbk.ent e he).2.2.2 x hx)⟩)
  hFt hkp
  (fun fr hw hkept hI hJ hval e he=>by
   obtain⟨f1,f2⟩:=fin fr hw hI hJ
   have hP:Past (mkFr c w val fp) fr:=by
    have old:∀x,x<w.heap.size->(∀k,x∉fp k)->(x<w1.heap.size/\∀e,e∈N1++N2.map Ent.g->x∉e.F)/\fr.w.heap[x]?=w.heap[x]?:=fun x hx hn=>by
     have hnt:x∉Ft:=fun hxt=>by obtain⟨k,_,hk⟩:=hFt x hxt;exact hn k hk
     refine⟨⟨Nat.lt_of_lt_of_le hx hkp.size,fun e he hxe=>?_⟩,by rw[hw];exact hkp.block x hx hnt⟩
     have:x∈Fr\/x∈Fo:=by
      rcases mem e he with he|⟨e',he',rfl⟩
      ·exact .inr ((hbk.ent e he).2.2.2 x hxe)
      ·exact .inl ((ht.ent e' he').2.2.2 x hxe)
     rcases hfr x this with h1|h1
     ·exact hnt h1
     ·omega
    exact⟨fun x hx=>⟨hI x ⟨.inl hx,(old x hx.2.1 hx.2.2).1⟩,(old x hx.2.1 hx.2.2).2⟩,fun x hx=>⟨hJ x ⟨.inl hx,(old x hx.2.1 hx.2.2).1⟩,(old x hx.2.1 hx.2.2).2⟩,hkept⟩
   rcases mem e he with he|⟨e',he',rfl⟩
   ·exact hbk.ob fr s3 hw hP f1 f2 (fun e he=>⟨g3 e (gJ _ he),hval e (gJ _ he)⟩) e he
   ·exact(ht.ent e' he').2.2.1.obr hw f1 f2)
 obtain⟨f1,f2⟩:=fin (mkFr c w1 val' fp') rfl q3 q4;refine⟨_,_,val',fp',hK,q1.setT hd (hv _ _ ⟨rfl,fun ho hf=>f1 ?_,fun ho hf=>f2 ?_,fun e he=>⟨(ht.ent e he).2.1,q5 e.g (gN _ (List.mem_map_of_mem he))⟩⟩),rfl,q2⟩
 ·subst ho;simpa using hf
 ·subst ho;simpa using hf
theorem qf4(h:Inv c s a w val fp){G:List Key}{s1:St}{Ft:List Nat}(hgn:Gone s s1 G)(hFt:∀x,x∈Ft->∃k,k∈G/\x∈fp k):Snap c s s1 a w val fp Ft:=by
 refine⟨h,fun k hk=>?_,fun x hx=>(hFt x hx).imp fun _ h=>h.2,?_⟩
 ·have hkG:k∉G:=fun hkG=>by
   rcases(hgn.gone k hkG).2.2 with e|⟨j,e⟩ <;> rw[e]at hk <;> cases hk
  refine⟨(hgn.same k hkG).symm,fun x hx hx'=>?_⟩;obtain⟨k',hk',hx2⟩:=hFt x hx';exact h.disj k k' (fun e=>hkG (e▸hk')) x hx hx2
 ·rintro x ⟨k,hk,hx⟩ hx';obtain⟨k',hk',hx2⟩:=hFt x hx'
  have hne:k≠k':=fun e=>by
   subst e;have:=(hgn.gone k hk').2.1;rw[hk]at this;cases this
  exact h.disj k k' hne x hx hx2
theorem qlz(h:Inv c s a w val fp)(hE:∀g args r,E g args=some r->Meets P (A g) g args r){o:Oper}{d:Nat}(hd':o.dst=some d)(hd:d<a.tmps.size){g:FuncId}{tys:List TypeId}
 {vs:List V} {us:Array Value} (hl:vs.length=us.size) (hvs:∀(i:Nat)(v:V)(u:Value),vs[i]?=some v->us[i]?=some u->VR (mkFr c w val fp) s v u) {i m:Nat} (hturn:(A g).turn=some i) (hmore:(A g).more=some m) (hnb:∀m',(A g).md ≠ .both m')
 (hr:runP E (qom P A o g tys vs d i m) s l K=some r):Does P g us w fun v w'=>Post c w K r (a.put o.dst v) w':=by
 have hmd:(A g).md=.two m:=by
  unfold Attr.more at hmore;split at hmore
  ·rename_i hm;rw[hm];cases hmore;rfl
  ·rename_i hm;exact absurd hm (hnb _)
  ·cases hmore
 unfold qom at hr;split at hr
 case h_2=>cases hr
 rename_i v v' hvi hvm;rw[q1s]at hr;replace hr:=q1c hr;obtain⟨hc,hr⟩:=hr;simp only[gC,Bool.not_eq_true']at hc;obtain⟨him,htake⟩:=hc;have him:i≠m:=fun e=>by subst e;simp at him
 unfold qst at hr;split at hr
 case h_2=>cases hr
 rename_i k k';rw[q3s,q3s]at hr;split at hr
 case h_2=>cases hr
 rename_i sz cs sz' cs' hk hk';rw[q8q,q92]at hr;rcases q99 hr with⟨_,hr⟩|⟨hne,hr⟩
 ·cases hr
 have hne:k≠k':=fun e=>by subst e;simp at hne
 rw[q51,q51]at hr;have hi:i<us.size:=by rw[<- hl];exact(gB.1 hvi).1
 have hm:m<us.size:=by rw[<- hl];exact(gB.1 hvm).1
 have hu:us[i]?=some us[i]:=by simp[hi]
 have hu':us[m]?=some us[m]:=by simp[hm]
 have hob:=h.obs k;rw[hk]at hob;have hob:RO w (.sl sz cs) (val k) (fp k):=hob;have hob':=h.obs k';rw[hk']at hob';have hob':RO w (.sl sz' cs') (val k') (fp k'):=hob';have e1:us[i]=val k:=q6a (hvs i _ _ hvi hu) hk;have e2:us[m]=val k':=q6a (hvs m _ _ hvm hu') hk';have g0:Gone s s []:=⟨fun _=>rfl,by simp,fun _ _=>rfl⟩;have hgn:Gone s ((s.setO k .gone).setO k' .gone) [k',k]:=(g0.add (by rw[hk];rfl) (by rw[hk];rfl)).add (by rw[hk'];rfl) (by rw[hk'];rfl)
 have hFt:∀x,x∈fp k++fp k'->∃j,j∈[k',k]/\x∈fp j:=fun x hx=>by
  rcases gO.1 hx with hx|hx
  ·exact⟨k,by simp,hx⟩
  ·exact⟨k',by simp,hx⟩
 have hsn:=qf4 h hgn hFt;obtain⟨xs,b,l2,h1,hxl,hxs⟩:=q8n hsn (us:=us.toList) (by simpa using hl) (fun j v u h1 h2=>hvs j v u h1 (by simpa using h2)) hr;rw[q8q,q92]at h1;rcases q99 h1 with⟨_,h1⟩|⟨hchk,h1⟩
 ·cases h1
 rw[qet,gAE]at h1;obtain⟨⟨y,outs⟩,hcall,h1⟩:=h1;have hmeets:=hE _ _ _ hcall;have hii:Nat.beq i i=true:=by simp
 have hmm:Nat.beq m m=true:=by simp
 have hat:∀j z,xs[j]?=some z->(j=i->z=.sl sz cs)/\(j=m->z=.sl sz' cs'):=fun j z hz=>by
  refine⟨fun e=>?_,fun e=>?_⟩ <;> subst e
  ·rcases hxs j z hz with h2|⟨h2,_⟩ <;> simp only[gAJ]at h2 <;> rw[hii,cond_true]at h2 <;> cases h2;rfl
  ·rcases hxs j z hz with h2|⟨h2,_⟩ <;> simp only[gAJ]at h2 <;> rw[nbeq him,cond_false,hmm,cond_true]at h2 <;> cases h2;rfl
 have hix:i<xs.length:=by omega
 have hmx:m<xs.length:=by omega
 have hpre:Pre (A g) xs w (SI c w fp (fp k++fp k') b) (SJ c w fp (fp k++fp k') b) us (fp k++fp k'):=by
  refine⟨fun x hx=>⟨hx.1.imp (h.ij x) id,hx.2⟩,by omega,fun j y u hj hj' hy hu=>?_,fun j hj=>?_,fun hn=>(by rw[hturn]at hn;cases hn),fun x hx hJ=>hJ.2.2.1 hx,fun b hb=>hb.2.1⟩
  ·have hne1:i≠j:=fun e=>hj (by rw[hturn,e]);have hne2:m≠j:=fun e=>hj' (by rw[hmore,e]);rcases hxs j y hy with h2|⟨_,h2⟩
   ·simp only[gAJ]at h2;rw[nbeq hne1,nbeq hne2]at h2;cases h2
   ·exact h2 u (by simpa using hu)
  ·rw[hturn]at hj;cases hj;refine⟨xs[i],us[i],fp k,by simp[hix],hu,?_,?_⟩
   ·rw[hmd];have:=(hat i xs[i] (by simp[hix])).1 rfl;exact⟨⟨_,_,this⟩,by rw[this,e1];exact hob⟩
   ·unfold qs5;rw[hmore];have:=(hat m xs[m] (by simp[hmx])).2 rfl;exact⟨xs[m],us[m],fp k',by simp[hmx],hu',⟨_,_,this⟩,by rw[this,e2];exact hob',rfl,fun x hx hx'=>h.disj k k' hne x hx hx'⟩
 refine(hmeets w _ _ _ _ hpre).mono fun v w1 ⟨Fr,Fo,hdone⟩=>?_
 have hout:outs=[]/\Fo=[]:=by
  rcases hdone.out with⟨hn,_⟩|⟨_,_,_,_,htk,_⟩|⟨_,ho1,ho2⟩
  ·rw[hturn]at hn;cases hn
  ·rw[htake]at htk;cases htk
  ·exact⟨ho1,ho2⟩
 obtain⟨ho1,ho2⟩:=hout;subst ho2;subst ho1;rw[q7v]at h1;simp only at h1;obtain⟨hflat,hptr⟩:=ql4 (P:=P) (t:=o.type) (own:=(A g).own) (b:=b) (fun hb=>by rw[hb]at hchk;simpa using hchk)
 obtain⟨y',s3,l4,N,h4,ht,hv⟩:=qc7 (p:=b=false) (fl:=b && !(A g).own) (fun e=>by
  simp only[gC,Bool.not_eq_true']at e;exact hflat e.1 e.2) hptr hdone.res h1
 rw[q4r,q49]at h4;rw[hd'];exact qex h hd (N1:=[]) hgn hFt rfl rfl ⟨fun _=>rfl,fun _ _ _=>rfl,fun k hk _=>(hgn.gone k hk).2.2,by simp,List.Pairwise.nil,by simp⟩ ht hdone.kp hdone.fr hdone.ap hv h4
theorem BkOk.more{md:Mode}{u:Value}{bk:Bk}{k':Key}(hm:md=.src)(h:BkOk c s w val fp md G u bk):BkOk c s w val fp md (k'::G) u bk:=by
 subst hm;unfold BkOk at *;cases bk with
 |sl k sz=>exact⟨h.1,gF _ h.2.1,h.2.2⟩
 |ptr k old=>
  obtain⟨h1,h2,h3,h4⟩:=h;refine⟨gF _ h1,h2,h3,?_⟩;rcases h4 with⟨os,e,_⟩|h4
  ·cases e
  ·exact .inr h4
 |val old=>cases h.1
theorem qjl(h:Inv c s a w val fp)(hE:∀g args r,E g args=some r->Meets P (A g) g args r){o:Oper}{d:Nat}(hd':o.dst=some d)(hd:d<a.tmps.size){g:FuncId}{tys:List TypeId}
 {vs:List V} {us:Array Value} (hl:vs.length=us.size) (hvs:∀(i:Nat)(v:V)(u:Value),vs[i]?=some v->us[i]?=some u->VR (mkFr c w val fp) s v u) {i m:Nat} (hturn:(A g).turn=some i) (hmd:(A g).md=.both m)
 (hr:runP E (qkv P A o g tys vs d i m) s l K=some r):Does P g us w fun v w'=>Post c w K r (a.put o.dst v) w':=by
 have hmore:(A g).more=some m:=by unfold Attr.more;rw[hturn,hmd]
 unfold qkv at hr;split at hr
 case h_2=>cases hr
 rename_i v t v' hvi hti hvm;rw[q1s]at hr;replace hr:=q1c hr;obtain⟨hc,hr⟩:=hr;simp only[gC,Bool.not_eq_true']at hc;obtain⟨him,htake⟩:=hc;have him:i≠m:=fun e=>by subst e;simp at him
 have hi:i<us.size:=by rw[<- hl];exact(gB.1 hvi).1
 have hm:m<us.size:=by rw[<- hl];exact(gB.1 hvm).1
 have hu:us[i]?=some us[i]:=by simp[hi]
 have hu':us[m]?=some us[m]:=by simp[hm]
 obtain⟨x,bk,s1,l1,G,F1,hr,hgn1,harg,hF1,hbk1⟩:=qki h (hvs i _ _ hvi hu) hr;split at hr
 case h_2=>cases hr
 rename_i k' _;rw[q3s]at hr;split at hr
 case h_2=>cases hr
 rename_i sz cs hk1;rw[q51]at hr
 have hkG:k'∉G:=fun hkG=>by
  rcases(hgn1.gone k' hkG).2.2 with e|⟨j,e⟩ <;> rw[e]at hk1 <;> cases hk1
 have hk':s.getO k'=.arr true true sz cs:=by rw[<- hgn1.same k' hkG];exact hk1
 have hob':=h.obs k';rw[hk']at hob';have hob':RO w (.sl sz cs) (val k') (fp k'):=hob';have e2:us[m]=val k':=q6a (hvs m _ _ hvm hu') hk';have hgn:Gone s (s1.setO k' .gone) (k'::G):=hgn1.add (by rw[hk'];rfl) (by rw[hk'];rfl)
 have hFt:∀x,x∈F1++fp k'->∃j,j∈k'::G/\x∈fp j:=fun x hx=>by
  rcases gO.1 hx with hx|hx
  ·obtain⟨j,hj,hxj⟩:=hF1 x hx;exact⟨j,gF _ hj,hxj⟩
  ·exact⟨k',by simp,hx⟩
 have hsn:=qf4 h hgn hFt;obtain⟨xs,b,l2,h1,hxl,hxs⟩:=q8n hsn (us:=us.toList) (by simpa using hl) (fun j v u h1 h2=>hvs j v u h1 (by simpa using h2)) hr;rw[q8q,q92]at h1;rcases q99 h1 with⟨_,h1⟩|⟨hchk,h1⟩
 ·cases h1
 rw[qet,gAE]at h1;obtain⟨⟨y,outs⟩,hcall,h1⟩:=h1;have hmeets:=hE _ _ _ hcall;have hii:Nat.beq i i=true:=by simp
 have hmm:Nat.beq m m=true:=by simp
 have hat:∀j z,xs[j]?=some z->(j=i->z=x)/\(j=m->z=.sl sz cs):=fun j z hz=>by
  refine⟨fun e=>?_,fun e=>?_⟩ <;> subst e
  ·rcases hxs j z hz with h2|⟨h2,_⟩ <;> simp only[gAJ]at h2 <;> rw[hii,cond_true]at h2 <;> cases h2;rfl
  ·rcases hxs j z hz with h2|⟨h2,_⟩ <;> simp only[gAJ]at h2 <;> rw[nbeq him,cond_false,hmm,cond_true]at h2 <;> cases h2;rfl
 have hix:i<xs.length:=by omega
 have hmx:m<xs.length:=by omega
 have hargS:ArgT w (SI c w fp (F1++fp k') b) (SJ c w fp (F1++fp k') b) (A g).md x us[i] F1:=by
  rw[hmd];obtain⟨ys,rfl,b',cur,e,fs,r1,r2,r3,r4,r5,r6,r7⟩:=harg;refine⟨ys,rfl,b',cur,e,fs,r1,r2,r3,r4,r5,r6,fun j y u hy hu=>?_⟩;have:=r7 j y u hy hu;unfold El at *;split
  ·rename_i ho;rw[if_pos ho]at this;exact this
  ·rename_i ho;rw[if_neg ho]at this;exact⟨RB.move this.1 (fun x hx=>⟨hsn.I_le b hx,rfl⟩) (fun x hx=>⟨hsn.J_le b hx,rfl⟩),this.2⟩
 have hpre:Pre (A g) xs w (SI c w fp (F1++fp k') b) (SJ c w fp (F1++fp k') b) us (F1++fp k'):=by
  refine⟨fun x hx=>⟨hx.1.imp (h.ij x) id,hx.2⟩,by omega,fun j y u hj hj' hy hu=>?_,fun j hj=>?_,fun hn=>(by rw[hturn]at hn;cases hn),fun x hx hJ=>hJ.2.2.1 hx,fun b hb=>hb.2.1⟩
  ·have hne1:i≠j:=fun e=>hj (by rw[hturn,e]);have hne2:m≠j:=fun e=>hj' (by rw[hmore,e]);rcases hxs j y hy with h2|⟨_,h2⟩
   ·simp only[gAJ]at h2;rw[nbeq hne1,nbeq hne2]at h2;cases h2
   ·exact h2 u (by simpa using hu)
  ·rw[hturn]at hj;cases hj;refine⟨xs[i],us[i],F1,by simp[hix],hu,?_,?_⟩
   ·have:=(hat i xs[i] (by simp[hix])).1 rfl;rw[this];exact hargS
   ·unfold qs5;rw[hmore];have:=(hat m xs[m] (by simp[hmx])).2 rfl;refine⟨xs[m],us[m],fp k',by simp[hmx],hu',⟨_,_,this⟩,by rw[this,e2];exact hob',rfl,fun x hx hx'=>?_⟩;obtain⟨j,hj,hxj⟩:=hF1 x hx;exact h.disj j k' (fun e=>hkG (e▸hj)) x hxj hx'
 refine(hmeets w _ _ _ _ hpre).mono fun v w1 ⟨Fr,Fo,hdone⟩=>?_
 have fin:∃sx l3 N1,runP E (qln P (A g).own (q81 d 0) o.type y fun v=>.setT d v .done) sx l3 K=some r/\Backed w1 (aftI (SI c w fp (F1++fp k') b) w w1 (F1++fp k') Fr Fo) (aftI (SJ c w fp (F1++fp k') b) w w1 (F1++fp k') Fr Fo) b (mkFr c w val fp) val (s1.setO k' .gone) sx (k'::G) N1 Fo:=by
  rcases hdone.out with⟨hn,_⟩|⟨j,z,u,hj,htk,hz,hu2,hout⟩|⟨htk,hz,hfo⟩
  ·rw[hturn]at hn;cases hn
  ·rw[hturn]at hj;cases hj;rw[hu]at hu2;cases hu2;simp only at hz;subst hz;rw[hmd]at hout;have hout:OutT w1 (aftI (SI c w fp (F1++fp k') b) w w1 (F1++fp k') Fr Fo) (aftI (SJ c w fp (F1++fp k') b) w w1 (F1++fp k') Fr Fo) (qe2 w us[i]) .src z us[i] Fo:=hout;exact qk4 h (fl:=b) (fun _=>rfl) hgn (BkOk.more rfl hbk1) hout h1
  ·rw[htk]at htake;cases htake
 obtain⟨sx,l3,N1,h3,hbd⟩:=fin;obtain⟨hflat,hptr⟩:=ql4 (P:=P) (t:=o.type) (own:=(A g).own) (b:=b) (fun hb=>by rw[hb]at hchk;simpa using hchk)
 obtain⟨y',s3,l4,N,h4,ht,hv⟩:=qc7 (p:=b=false) (fl:=b && !(A g).own) (fun e=>by
  simp only[gC,Bool.not_eq_true']at e;exact hflat e.1 e.2) hptr hdone.res h3
 rw[q4r,q49]at h4;rw[hd'];exact qex h hd hgn hFt rfl rfl hbd ht hdone.kp hdone.fr hdone.ap hv h4
theorem qq3(h:Inv c s a w val fp)(hE:∀g args r,E g args=some r->Meets P (A g) g args r){o:Oper}{d:Nat}(hd':o.dst=some d)(hd:d<a.tmps.size){g:FuncId}{tys:List TypeId}
 {vs:List V} {us:Array Value} (hl:vs.length=us.size) (hvs:∀(i:Nat)(v:V)(u:Value),vs[i]?=some v->us[i]?=some u->VR (mkFr c w val fp) s v u)
 {caps:List T} {cvs:Array Value} {sn:Bool} (hcl:caps.length=cvs.size) (hcaps:∀(i:Nat)(y:T)(u:Value),caps[i]?=some y->cvs[i]?=some u->SR c w fp [] sn y u)
 (hr:runP E (qvz P A o g tys vs caps sn) s l K=some r):Does P g (us++cvs) w fun v w'=>Post c w K r (a.put o.dst v) w':=by
 unfold qvz at hr;rw[hd']at hr;simp only at hr;split at hr
 ·-- nothing is turned
  rename_i hturn;have hg0:Gone s s []:=⟨fun _=>rfl,by simp,fun _ _=>rfl⟩;have hsn:Snap c s s a w val fp []:=qf4 h hg0 (by simp);obtain⟨xs,b,l1,h1,hxl,hxs⟩:=q8n hsn (us:=us.toList) (by simpa using hl) (fun j v u h1 h2=>hvs j v u h1 (by simpa using h2)) hr;rw[q8q,q92]at h1;rcases q99 h1 with⟨_,h1⟩|⟨hchk,h1⟩
  ·cases h1
  rw[qet,gAE]at h1;obtain⟨⟨x,outs⟩,hcall,h1⟩:=h1;have hmeets:=hE _ _ _ hcall;let b':=b||sn
  have hpre:Pre (A g) (xs++caps) w (SI c w fp [] b') (SJ c w fp [] b') (us++cvs) []:=by
   refine⟨fun x hx=>⟨hx.1.imp (h.ij x) id,hx.2⟩,by simp[hxl,hl,hcl],fun i y u _ _ hy hu=>?_,fun i hi=>(by rw[hturn]at hi;cases hi),fun _=>rfl,by simp,fun b hb=>hb.2.1⟩;rw[List.getElem?_append]at hy;split at hy
   ·rename_i hi;have hiu:i<us.size:=by omega
    rw[Array.getElem?_append_left hiu]at hu;rcases hxs i y hy with h2|⟨_,h2⟩
    ·cases h2
    ·exact(h2 u (by simpa using hu)).or (by simp[b'];intro h;exact .inl h)
   ·rename_i hi;have hiu:us.size<=i:=by omega
    rw[Array.getElem?_append_right hiu]at hu;exact RB.resV (SR.or (hcaps _ y u hy (by rw[hxl,hl];exact hu)) (by simp[b'];intro h;exact .inr h))
  refine(hmeets w _ _ _ _ hpre).mono fun v w1 ⟨Fr,Fo,hdone⟩=>?_
  have hout:outs=[]/\Fo=[]:=by
   rcases hdone.out with⟨_,ho1,ho2⟩|⟨i,y,u,hi,_⟩|⟨_,ho1,ho2⟩
   ·exact⟨ho1,ho2⟩
   ·rw[hturn]at hi;cases hi
   ·exact⟨ho1,ho2⟩
  obtain⟨ho1,ho2⟩:=hout;subst ho2;subst ho1;rw[q7v]at h1;simp only at h1;obtain⟨hflat,hptr⟩:=ql4 (P:=P) (t:=o.type) (own:=(A g).own) (b:=b') (fun hb=>by simp only[b']at hb;rw[hb]at hchk;simpa using hchk)
  obtain⟨y,s3,l3,N,h3,ht,hv⟩:=qc7 (p:=b'=false) (fl:=b' && !(A g).own) (fun e=>by
   simp only[gC,Bool.not_eq_true']at e;exact hflat e.1 e.2) hptr hdone.res h1
  rw[q4r,q49]at h3;rw[hd'];exact qex h hd (N1:=[]) hg0 (by simp) rfl rfl ⟨fun _=>rfl,fun _ _ _=>rfl,by simp,by simp,List.Pairwise.nil,by simp⟩ ht hdone.kp hdone.fr hdone.ap hv h3
 ·-- one parameter is turned
  rename_i i hturn;split at hr
  ·rename_i m hmore;have hcv:cvs = #[]:=Array.eq_empty_of_size_eq_zero (by simpa using hcl.symm);subst hcv;rw[Array.append_empty];split at hr
   ·rename_i m' hmd
    have hm:m=m':=by
     unfold Attr.more at hmore;rw[hturn,hmd]at hmore;exact(Option.some.inj hmore).symm
    subst hm;exact qjl h hE hd' hd hl hvs hturn hmd hr
   ·rename_i hnb;exact qlz h hE hd' hd hl hvs hturn hmore hnb hr
  ·cases hr
  rename_i hmore;split at hr
  ·rename_i v t hvi hti;have hcv:cvs = #[]:=Array.eq_empty_of_size_eq_zero (by simpa using hcl.symm);subst hcv;rw[Array.append_empty];have hiv:i<us.size:=by rw[<- hl];exact(gB.1 hvi).1
   have hu:us[i]?=some us[i]:=by simp[hiv]
   have hvr:=hvs i v _ hvi hu;obtain⟨x,bk,s1,l1,G,Ft,hr,hgn,harg,hFt,hbk⟩:=qki h hvr hr;have hsn:Snap c s s1 a w val fp Ft:=qf4 h hgn hFt;obtain⟨xs,b,l2,h1,hxl,hxs⟩:=q8n hsn (us:=us.toList) (by simpa using hl) (fun j v u h1 h2=>hvs j v u h1 (by simpa using h2)) hr;rw[q8q,q92]at h1;rcases q99 h1 with⟨_,h1⟩|⟨hchk,h1⟩
   ·cases h1
   rw[qet,gAE]at h1;obtain⟨⟨y,outs⟩,hcall,h1⟩:=h1;have hmeets:=hE _ _ _ hcall;have hii:Nat.beq i i=true:=by simp
   have hargS:ArgT w (SI c w fp Ft b) (SJ c w fp Ft b) (A g).md x us[i] Ft:=by
    revert harg;cases (A g).md with
    |ptr os=>
     rintro⟨ys,rfl,b',cur,e,fs,r1,r2,r3,r4,r5,r6,r7⟩;refine⟨ys,rfl,b',cur,e,fs,r1,r2,r3,r4,r5,r6,fun j y u hy hu=>?_⟩;have:=r7 j y u hy hu;unfold El at *;split
     ·rename_i ho;rw[if_pos ho]at this;exact this
     ·rename_i ho;rw[if_neg ho]at this;exact⟨RB.move this.1 (fun x hx=>⟨hsn.I_le b hx,rfl⟩) (fun x hx=>⟨hsn.J_le b hx,rfl⟩),this.2⟩
    |src=>
     rintro⟨ys,rfl,b',cur,e,fs,r1,r2,r3,r4,r5,r6,r7⟩;refine⟨ys,rfl,b',cur,e,fs,r1,r2,r3,r4,r5,r6,fun j y u hy hu=>?_⟩;have:=r7 j y u hy hu;unfold El at *;split
     ·rename_i ho;rw[if_pos ho]at this;exact this
     ·rename_i ho;rw[if_neg ho]at this;exact⟨RB.move this.1 (fun x hx=>⟨hsn.I_le b hx,rfl⟩) (fun x hx=>⟨hsn.J_le b hx,rfl⟩),this.2⟩
    |sl=>exact id
    |val=>exact id
    |two _=>exact id
    |both _=>
     rintro⟨ys,rfl,b',cur,e,fs,r1,r2,r3,r4,r5,r6,r7⟩;refine⟨ys,rfl,b',cur,e,fs,r1,r2,r3,r4,r5,r6,fun j y u hy hu=>?_⟩;have:=r7 j y u hy hu;unfold El at *;split
     ·rename_i ho;rw[if_pos ho]at this;exact this
     ·rename_i ho;rw[if_neg ho]at this;exact⟨RB.move this.1 (fun x hx=>⟨hsn.I_le b hx,rfl⟩) (fun x hx=>⟨hsn.J_le b hx,rfl⟩),this.2⟩
   have hpre:Pre (A g) xs w (SI c w fp Ft b) (SJ c w fp Ft b) us Ft:=by
    refine⟨fun x hx=>⟨hx.1.imp (h.ij x) id,hx.2⟩,by omega,fun j y u hj _ hy hu=>?_,fun j hj=>?_,fun hn=>(by rw[hturn]at hn;cases hn),fun x hx hJ=>hJ.2.2.1 hx,fun b hb=>hb.2.1⟩
    ·have hne:i≠j:=fun e=>hj (by rw[hturn,e]);rcases hxs j y hy with h2|⟨_,h2⟩
     ·simp only[gAJ]at h2;rw[nbeq hne]at h2;cases h2
     ·exact h2 u (by simpa using hu)
    ·rw[hturn]at hj;cases hj;have hix:i<xs.length:=by omega
     refine⟨xs[i],us[i],Ft,by simp[hix],hu,?_,by unfold qs5;rw[hmore]⟩;rcases hxs i xs[i] (by simp[hix])with h2|⟨h2,_⟩
     ·simp only[gAJ]at h2;rw[hii,cond_true]at h2;cases h2;exact hargS
     ·simp only[gAJ]at h2;rw[hii,cond_true]at h2;cases h2
   refine(hmeets w _ _ _ _ hpre).mono fun v w1 ⟨Fr,Fo,hdone⟩=>?_
   have hfl:b=true->qr3 P (A g).md t=true:=fun hb=>by
    cases hf:qr3 P (A g).md t with
    |true=>rfl
    |false=>rw[hb,hf,Bool.and_false]at hchk;cases hchk
   have fin:∃sx l3 N1,runP E (qln P (A g).own (q81 d 0) o.type y fun v=>.setT d v .done) sx l3 K=some r/\Backed w1 (aftI (SI c w fp Ft b) w w1 Ft Fr Fo) (aftI (SJ c w fp Ft b) w w1 Ft Fr Fo) b (mkFr c w val fp) val s1 sx G N1 Fo:=by
    rcases hdone.out with⟨hn,_⟩|⟨j,z,u,hj,htk,hz,hu',hout⟩|⟨htk,hz,hfo⟩
    ·rw[hturn]at hn;cases hn
    ·rw[hturn]at hj;cases hj;rw[hu]at hu';cases hu';simp only at hz;subst hz;rw[htk,cond_false]at h1;exact qk4 h (fl:=b) hfl hgn hbk hout h1
    ·simp only at hz;subst hz;subst hfo;rw[htk,cond_true,q7v]at h1;exact⟨_,_,[],h1,⟨fun _=>rfl,fun _ _ _=>rfl,fun k hk _=>(hgn.gone k hk).2.2,by simp,List.Pairwise.nil,by simp⟩⟩
   obtain⟨sx,l3,N1,h3,hbd⟩:=fin;obtain⟨hflat,hptr⟩:=ql4 (P:=P) (t:=o.type) (own:=(A g).own) (b:=b) (fun hb=>by rw[hb]at hchk;simp at hchk;exact hchk.1)
   obtain⟨y',s3,l4,N,h4,ht,hv⟩:=qc7 (p:=b=false) (fl:=b && !(A g).own) (fun e=>by
    simp only[gC,Bool.not_eq_true']at e;exact hflat e.1 e.2) hptr hdone.res h3
   rw[q4r,q49]at h4;rw[hd'];exact qex h hd hgn hFt rfl rfl hbd ht hdone.kp hdone.fr hdone.ap hv h4
  ·cases hr
end
end Ev
end
section
namespace Ev
open Go
section
variable {P:Program}{A:q7t}{E:Env}{c:Ctx}{s s1 s2:St}{a:Act}{w:World}{val:Key->Value}{fp:Key->List Nat}
variable {l:Log}{K:St->Log->R}{r:T×List T}
theorem qdv{q:Nat}{x:C}{ws:List (Nat×C)}{i:Nat}(h:q≠i):q5s ((q,x)::ws) i=q5s ws i:=by rw[q5s,if_neg h]
theorem qjp(h:Inv c s a w val fp){k:Key}{sz:Nat}{cells:List T}(hk:s.getO k=.arr true true sz cells)(hne:cells≠[]) :
 ∃val' fp',Inv c (s.setO k (.opn sz cells [])) a w val' fp'/\Goes (mkFr c w val fp) (mkFr c w val' fp') s (s.setO k (.opn sz cells []))/\val' k=val k:=by
 have hob:=h.obs k;rw[hk]at hob
 obtain⟨r1,r2,_⟩:=h.change1 (w':=w) k (.opn sz cells []) (val k) (fp k) (by rw[hk];rfl) (by rw[hk];rfl) (fun b hb=>.inl hb) (fun _ _ _=>rfl) (gAI _) rfl rfl rfl (fun _=>by
  have hob:RO w (.sl sz cells) (val k) (fp k):=hob;generalize val k=u at hob;generalize fp k=F at hob;cases hob with
  |nil hsz=>exact absurd rfl hne
  |sl vs fs hsz hg hlen hcap hmax hcur hv hc hnd=>exact⟨_,_,_,_,_,vs,fs,rfl,rfl,⟨hsz,by simp[q5s]⟩,hg,hlen,hcap,hmax,hcur,hv,fun i x hx=>hc i x hx,hnd⟩)
 exact⟨_,_,r1,r2,q78 _ _ _⟩
theorem qc5(h:Inv c s a w val fp){k key:Key}{t:TypeId}{q sz:Nat}{cells:List T}{ws:List (Nat×C)}{x:T}(hk:s.getO k=.opn sz cells ws)(hx:cells[q]?=some x)(hq:q5s ws q=none)
 {f:C->Prog} (hr:runP E (qfo P k key t q sz cells ws x f) s l K=some r) :
 ∃y s' l' val' fp' ws',runP E (f y) s' l' K=some r/\Inv c s' a w val' fp'/\Goes (mkFr c w val fp) (mkFr c w val' fp') s s'/\(∀i,s'.getT i=s.getT i)/\s'.getO k=.opn sz cells ws'/\(∀i,q≠i->q5s ws' i=q5s ws i)/\val' k=val k/\
  ∃g len cap v,val k=.slice (some ⟨g,0,none⟩) len cap/\w.cell? ⟨g,q,none⟩=some v/\CR (mkFr c w val' fp') s' y v:=by
 have hob:=h.obs k;rw[hk]at hob;obtain⟨g,len,cap,cur,e,vs,fs,hu,hF,hsz,hg,hlen,hcap,hmax,hcur,hv,hel,hnd⟩:=hob;have hg:w.heap[g]?=some (.cells cur e (0,0)):=hg;have hql:q<cells.length:=(gB.1 hx).1;have hcell:w.cell? ⟨g,q,none⟩=some (vs q):=by rw[q48 hg];exact hv q hql
 have hro:RO w x (vs q) (fs q):=by
  have:=hel q x hx;unfold WR at this;rw[hq]at this;exact this
 unfold qfo at hr;split at hr
 ·rename_i e' he';rw[q6f]at hr;split at hr
  ·rename_i sz' cs;replace hr:=q1c hr;obtain⟨hsz',hr⟩:=hr;have hsz':sz'=q38 P e':=gE hsz';subst hsz';obtain⟨hfree,l1,h1⟩:=q6h hr;rw[q51]at h1;have hkk:k≠key:=fun e=>by rw[e,hfree]at hk;cases hk
   rw[List.nodup_cons]at hnd;have hnd2:=(q6u cells.length fs).1 hnd.2;let fs':Nat->List Nat:=fun i=>if q=i then[]else fs i
   have fs_sub:∀i b,b∈fs' i->b∈fs i/\q≠i:=fun i b hb=>by
    simp only[fs']at hb;split at hb
    ·simp at hb
    ·exact⟨hb,by assumption⟩
   have hnd':(g::(List.range cells.length).flatMap fs').Nodup:=by
    rw[List.nodup_cons];refine⟨fun hb=>?_,(q6u cells.length fs').2 ⟨fun i hi=>?_,fun i j hi hj hne b hb hb'=>?_⟩⟩
    ·obtain⟨i,hi,hbi⟩:=q23.1 hb;exact hnd.1 (q23.2 ⟨i,hi,(fs_sub i g hbi).1⟩)
    ·simp only[fs'];split
     ·exact List.nodup_nil
     ·exact hnd2.1 i hi
    ·exact hnd2.2 i j hi hj hne b (fs_sub i b hb).1 (fs_sub j b hb').1
   have hfk:∀b,b∈fs q->b∈fp k:=fun b hb=>by rw[hF];exact gF _ (q23.2 ⟨q,hql,hb⟩)
   have e1:((s.setO key (.arr true true (q38 P e') cs)).setO k (.opn sz cells ((q,.obj key)::ws))).getO k=.opn sz cells ((q,.obj key)::ws):=by rw[q2y,if_pos rfl]
   have e2:((s.setO key (.arr true true (q38 P e') cs)).setO k (.opn sz cells ((q,.obj key)::ws))).getO key=.arr true true (q38 P e') cs:=by rw[q2y,if_neg hkk,q2y,if_pos rfl]
   let val':Key->Value:=upd val key (vs q);let fp':Key->List Nat:=upd (upd fp key (fs q)) k (g::(List.range cells.length).flatMap fs');have v1:val' key=vs q:=q78 _ _ _;have v2:∀j,key≠j->val' j=val j:=fun j hj=>qab _ _ hj;have f1:fp' k=g::(List.range cells.length).flatMap fs':=q78 _ _ _;have f2:fp' key=fs q:=by show upd (upd fp key (fs q)) k _ key=_;rw[qab _ _ hkk,q78]
   have f3:∀j,k≠j->key≠j->fp' j=fp j:=fun j h1 h2=>by show upd (upd fp key (fs q)) k _ j=_;rw[qab _ _ h1,qab _ _ h2]
   have hf0:fp key=[]:=h.fp_free hfree
   have inF':∀b,b∈fp' k->b∈fp k:=fun b hb=>by
    rw[f1]at hb;rw[hF];rcases gK.1 hb with rfl|hb
    ·simp
    ·obtain⟨i,hi,hbi⟩:=q23.1 hb;exact gF _ (q23.2 ⟨i,hi,(fs_sub i b hbi).1⟩)
   have ap:∀b,b∈fp' k->b∉fs q:=fun b hb hbq=>by
    rw[f1]at hb;rcases gK.1 hb with rfl|hb
    ·exact hnd.1 (q23.2 ⟨q,hql,hbq⟩)
    ·obtain⟨i,hi,hbi⟩:=q23.1 hb;obtain⟨h1,h2⟩:=fs_sub i b hbi;exact hnd2.2 q i hql hi h2 b hbq h1
   have hcr:∀{fr:Ev.Fr},fr.val key=vs q->CR fr ((s.setO key (.arr true true (q38 P e') cs)).setO k (.opn sz cells ((q,.obj key)::ws))) (.obj key) (vs q):=fun {fr} hfr=>by
    refine⟨?_,hro.one⟩;rw[e2];exact hfr.symm
   obtain⟨r1,r2,_⟩:=h.changes (s':=(s.setO key (.arr true true (q38 P e') cs)).setO k (.opn sz cells ((q,.obj key)::ws))) (w':=w) (val':=val') (fp':=fp') (fun j=>j=k\/j=key) (fun _=>rfl)
    (fun j hj=>by
     rw[not_or]at hj;have h1:k≠j:=fun e=>hj.1 e.symm;have h2:key≠j:=fun e=>hj.2 e.symm;exact⟨by rw[q2y,if_neg h1,q2y,if_neg h2],v2 j h2,f3 j h1 h2⟩)
    (by
     rintro j (rfl|rfl)
     ·rw[e1,hk,v2 _ hkk.symm];rfl
     ·rw[hfree];trivial)
    (by
     rintro j (rfl|rfl)
     ·rw[hk];rfl
     ·rw[hfree];rfl)
    (by
     rintro j b (rfl|rfl) hb
     ·exact .inl ⟨j,.inl rfl,inF' b hb⟩
     ·rw[f2]at hb;exact .inl ⟨k,.inl rfl,hfk b hb⟩)
    (by
     rintro j j' (rfl|rfl) (rfl|rfl) hne b hb hb'
     ·exact hne rfl
     ·rw[f2]at hb';exact ap b hb hb'
     ·rw[f2]at hb;exact ap b hb' hb
     ·exact hne rfl)
    (fun _ _ _=>rfl) (gAI _) rfl rfl rfl
    (by
     rintro gg j (rfl|rfl)
     ·rw[e1,f1,v2 _ hkk.symm]
      refine⟨g,len,cap,cur,e,vs,fs',hu,rfl,⟨hsz.1,fun i hi=>by
       by_cases hqi:q=i
       ·subst hqi;exact hql
       ·rw[qdv hqi]at hi;exact hsz.2 i hi⟩,hg,hlen,hcap,hmax,hcur,hv,fun i y hy=>?_,hnd'⟩
      unfold WR;by_cases hqi:q=i
      ·subst hqi;have:q5s ((q,C.obj key)::ws) q=some (.obj key):=by rw[q5s,if_pos rfl]
       rw[this];exact⟨hcr v1,by simp[fs']⟩
      ·rw[qdv hqi];have:=hel i y hy;unfold WR at this;cases hc:q5s ws i with
       |none=>rw[hc]at this;simp only[fs',if_neg hqi];exact this
       |some cc=>rw[hc]at this;simp only[fs',if_neg hqi];exact⟨CR.goes gg this.1,this.2⟩
     ·rw[e2,f2,v1];exact hro)
   refine⟨.obj key,_,_,val',fp',(q,.obj key)::ws,h1,r1,r2,fun _=>rfl,e1,fun i hi=>qdv hi,v2 _ hkk.symm,g,len,cap,vs q,hu,hcell,hcr v1⟩
  ·cases hr
 ·obtain⟨l1,h1,_,_⟩:=q9p hr;rw[q1s]at h1;replace h1:=q1c h1;obtain⟨hs,h1⟩:=h1;exact⟨.t x,s,l1,val,fp,ws,h1,h,⟨rfl,fun b hb=>⟨hb,rfl⟩,fun b hb=>⟨hb,rfl⟩,fun k=>Turns.refl _ _,fun b hb=>⟨.inl hb,rfl⟩⟩,fun _=>rfl,hk,fun _ _=>rfl,rfl,g,len,cap,vs q,hu,hcell,hro.scalar hs⟩
theorem qik:∀{ws:List (Nat×C)}{q:Nat}{f:C->Prog}{p:Prog}{l:Log},runP E (qvh ws q f p) s l K=some r->(∃x,q5s ws q=some x/\runP E (f x) s l K=some r)\/(q5s ws q=none/\runP E p s l K=some r)
 |[],q,f,p,l,hr=>.inr ⟨rfl,hr⟩
 |(q',x)::ws,q,f,p,l,hr=>by
  rw[qvh,q8q]at hr;rcases q99 hr with⟨hb,hr⟩|⟨hb,hr⟩
  ·have:q'=q:=gE hb;exact .inl ⟨x,by rw[q5s,if_pos this],hr⟩
  ·have:q'≠q:=fun e=>by subst e;simp at hb
   rw[qdv this];exact qik hr
theorem Goes.refl(fr:Ev.Fr)(s:St):Goes fr fr s s:=⟨rfl,fun b hb=>⟨hb,rfl⟩,fun b hb=>⟨hb,rfl⟩,fun k=>Turns.refl _ _,fun b hb=>⟨.inl hb,rfl⟩⟩
theorem Turns.trans{o1 o2 o3:Ob}{u1 u2 u3:Value}(h:Turns o1 o2 u1 u2)(h':Turns o2 o3 u2 u3):Turns o1 o3 u1 u3:=by
 cases o1 <;> cases o2 <;> cases o3 <;> simp_all[Turns]
theorem Goes.trans{f1 f2 f3:Ev.Fr}{s1 s2 s3:St}(h:Goes f1 f2 s1 s2)(h':Goes f2 f3 s2 s3):Goes f1 f3 s1 s3:=by
 refine⟨h'.hK.trans h.hK,fun b hb=>?_,fun b hb=>?_,fun k=>(h.hk k).trans (h'.hk k),fun b hb=>?_⟩
 ·obtain⟨h1,h2⟩:=h.hI b hb;obtain⟨h3,h4⟩:=h'.hI b h1;exact⟨h3,h4.trans h2⟩
 ·obtain⟨h1,h2⟩:=h.hJ b hb;obtain⟨h3,h4⟩:=h'.hJ b h1;exact⟨h3,h4.trans h2⟩
 ·obtain⟨h1,h2⟩:=h.hL b hb;rcases h1 with h1|h1
  ·obtain⟨h3,h4⟩:=h'.hL b h1;exact⟨h3,h4.trans h2⟩
  ·exact⟨.inr ⟨(h'.hI b h1.1).1,(h'.hJ b h1.2).1⟩,(h'.hI b h1.1).2.trans h2⟩
structure Reads(c:Ctx)(a:Act)(w:World)(s:St)(val:Key->Value)(fp:Key->List Nat)(k:Key)(g q:Nat)(n:Nat)(s':St)(val':Key->Value)(fp':Key->List Nat)(cs:List C):Prop where
 inv:Inv c s' a w val' fp'
 goes:Goes (mkFr c w val fp) (mkFr c w val' fp') s s'
 len:cs.length=n
 cell:∀(j:Nat)(y:C),cs[j]?=some y->∃v,w.cell? ⟨g,q+j,none⟩=some v/\CR (mkFr c w val' fp') s' y v
theorem qqd{es:List Nat}{q:Nat}(h:quj es q=true)(e:Nat)(he:e∈es):e≠q:=fun hq=>by
 have:=gAL.1 h e he;rw[hq]at this;simp at this
theorem qql:∀{ws:List (Nat×C)}{key:Key}{es0 es:List Nat}{q:Nat}{c:C},hitP ws key es0=some (es,q,c)->∀e∈es0,e∈es
 |[],key,es0,es,q,c,h=>by cases h
 |(q1,x)::ws,key,es0,es,q,c,h=>fun e he=>by
  have go:hitP ws key (q1::es0)=some (es,q,c)->e∈es:=fun h=>qql h e (gF _ he);cases x with
  |obj k=>
   simp only[hitP]at h;cases hb:Nat.beq k key with
   |true=>rw[hb]at h;cases h;exact he
   |false=>rw[hb]at h;exact go h
  |_=>exact go h
theorem qnx:∀{ws:List (Nat×C)}{key:Key}{es0 es:List Nat}{q' q:Nat}{c:C},hitP ws key es0=some (es,q',c)->(∀e∈es,e≠q)->q'=q->q5s ws q=some c
 |[],key,es0,es,q',q,c,h,_,_=>by cases h
 |(q1,x)::ws,key,es0,es,q',q,c,h,hne,hq=>by
  have go:hitP ws key (q1::es0)=some (es,q',c)->q5s ((q1,x)::ws) q=some c:=fun h=>by
   rw[q5s,if_neg (hne q1 (qql h q1 (by simp)))];exact qnx h hne hq
  cases x with
  |obj k=>
   simp only[hitP]at h;cases hb:Nat.beq k key with
   |true=>rw[hb]at h;cases h;rw[q5s,if_pos hq]
   |false=>rw[hb]at h;exact go h
  |_=>exact go h
theorem qkm:∀{ws:List (Nat×C)}{q:Nat},quj (ws.map (·.1)) q=true->q5s ws q=none
 |[],q,_=>rfl
 |(q1,x)::ws,q,h=>by
  have h1:q1≠q:=qqd h q1 (by simp);rw[q5s,if_neg h1];refine qkm ?_;unfold quj at h ⊢;rw[List.map_cons,List.all_cons,gC]at h;exact h.2
theorem qbl{k:Key}{ws0:List (Nat×C)}{g len cap sz:Nat}{cells:List T}:∀{ts:List TypeId}{key:Key}{q:Nat}{f:List C->Prog}{s:St}{l:Log}{val:Key->Value}{fp:Key->List Nat}{ws:List (Nat×C)},
 Inv c s a w val fp->s.getO k=.opn sz cells ws->val k=.slice (some ⟨g,0,none⟩) len cap->(∀i,q<=i->q5s ws i=q5s ws0 i)->runP E (qbd P k ws0 key q ts f) s l K=some r->
 ∃cs s' l' val' fp',runP E (f cs) s' l' K=some r/\Reads c a w s val fp k g q ts.length s' val' fp' cs
 |[],key,q,f,s,l,val,fp,ws,h,hk,hu,hw,hr=>⟨[],s,l,val,fp,hr,h,Goes.refl _ _,rfl,by simp⟩
 |t::ts,key,q,f,s,l,val,fp,ws,h,hk,hu,hw,hr=>by
  rw[qbd,qti,q3s,hk]at hr;simp only at hr
  have step:∃y s1 l1 val1 fp1 ws1 v,runP E (qbd P k ws0 (key+1) (q+1) ts fun r=>f (y::r)) s1 l1 K=some r/\Inv c s1 a w val1 fp1/\Goes (mkFr c w val fp) (mkFr c w val1 fp1) s s1/\s1.getO k=.opn sz cells ws1/\
   (∀i,q+1<=i->q5s ws1 i=q5s ws0 i)/\val1 k=val k/\w.cell? ⟨g,q,none⟩=some v/\CR (mkFr c w val1 fp1) s1 y v:=by
   have hr:(∃y,q5s ws0 q=some y/\∃l',runP E (qbd P k ws0 (key+1) (q+1) ts fun r=>f (y::r)) s l' K=some r)\/(q5s ws0 q=none/\∃l',runP E (.onSome cells[q]? fun x=>qfo P k key t q sz cells ws x fun c=>qbd P k ws0 (key+1) (q+1) ts fun r=>f (c::r)) s l' K=some r):=by
    split at hr
    ·rename_i es q' y hh;rw[q1s]at hr;obtain⟨hb,hr⟩:=q1c hr;rw[gC]at hb;exact .inl ⟨y,qnx hh (fun e he=>qqd hb.1 e he) (gE hb.2),_,hr⟩
    ·rcases qik hr with⟨y,hy,h1⟩|⟨hn,h1⟩
     ·exact .inl ⟨y,hy,_,h1⟩
     ·exact .inr ⟨hn,_,h1⟩
   rcases hr with⟨y,hy,l',h1⟩|⟨hn,l',h1⟩
   ·have hob:=h.obs k;rw[hk]at hob;obtain⟨g',len',cap',cur,e,vs,fs,hu',hF,hsz,hg,hlen,hcap,hmax,hcur,hv,hel,hnd⟩:=hob;have hu':val k=.slice (some ⟨g',0,none⟩) len' cap':=hu';rw[hu]at hu';cases hu';have hg:w.heap[g]?=some (.cells cur e (0,0)):=hg;have hql:q<cells.length:=hsz.2 q (by rw[hw q (gAI _),hy];rfl);have:=hel q _ (gA hql);unfold WR at this;rw[hw q (gAI _),hy]at this;exact⟨y,s,_,val,fp,ws,vs q,h1,h,Goes.refl _ _,hk,fun i hi=>hw i (by omega),rfl,by rw[q48 hg];exact hv q hql,this.1⟩
   ·rw[qar]at h1;split at h1
    ·rename_i x hx;obtain⟨y,s1,l1,val1,fp1,ws1,g1,g2,g3,g4,g5,g6,g7,g',len',cap',v,g8,g9,g10⟩:=qc5 h hk hx (by rw[hw q (gAI _)];exact hn) h1;rw[hu]at g8;cases g8;exact⟨y,s1,l1,val1,fp1,ws1,v,g1,g2,g3,g5,fun i hi=>by rw[g6 i (by omega)];exact hw i (by omega),g7,g9,g10⟩
    ·cases h1
  obtain⟨y,s1,l1,val1,fp1,ws1,v,h1,h2,h3,h4,h5,h6,h7,h8⟩:=step;obtain⟨cs,s',l',val',fp',g1,g2⟩:=qbl h2 h4 (h6.trans hu) h5 h1;refine⟨y::cs,s',l',val',fp',g1,g2.inv,h3.trans g2.goes,by simp[g2.len],fun j z hz=>?_⟩;cases j with
  |zero=>simp at hz;subst hz;exact⟨v,h7,CR.goes g2.goes h8⟩
  |succ j=>
   have:=g2.cell j z (by simpa using hz);rw[show q+(j+1)=q+1+j by omega];exact this
theorem qcx{k:Key}:∀{ts:List TypeId}{key:Key}{q:Nat}{s:St}{l:Log}{val:Key->Value}{fp:Key->List Nat},Inv c s a w val fp->runP E (qmd P k key q ts) s l K=some r->∃s' l' val' fp',Inv c s' a w val' fp'/\K s' l'=some r
 |[],key,q,s,l,val,fp,h,hr=>⟨s,l,val,fp,h,hr⟩
 |t::ts,key,q,s,l,val,fp,h,hr=>by
  rw[qmd,q3s]at hr;split at hr
  ·rename_i sz cells ws hk;rw[q1s]at hr;replace hr:=q1c hr;obtain⟨hb,hr⟩:=hr;rw[qar]at hr;split at hr
   ·rename_i y hy;obtain⟨z,s2,l2,val2,fp2,ws2,u1,u2,u3,u4,u5,u6,u7,g,len,cap,v0,u8,u9,u10⟩:=qc5 h hk hy (qkm hb) hr;exact qcx u2 u1
   ·cases hr
  ·cases hr
theorem qon(h:Inv c s a w val fp){o:Opn}(hr:runP E (qy0 P o) s l K=some r):∃s' l' val' fp',Inv c s' a w val' fp'/\K s' l'=some r:=by
 unfold qy0 at hr;rw[qev]at hr;split at hr
 ·rw[q3s]at hr;split at hr
  ·rename_i sz cells hk;rw[qar]at hr;split at hr
   ·rename_i y hy;rw[q51]at hr;obtain⟨val1,fp1,g1,g2,g3⟩:=qjp h hk (by intro e;rw[e]at hy;simp at hy);exact qcx g1 hr
   ·cases hr
  ·exact qcx h hr
  ·cases hr
 ·cases hr
theorem qie:∀(os:List Opn){s:St}{val:Key->Value}{fp:Key->List Nat},Inv c s a w val fp->∀{K:St->R},qrp P os s K=some r->∃s' val' fp',Inv c s' a w val' fp'/\K s'=some r
 |[],s,val,fp,h,K,hr=>⟨s,val,fp,h,hr⟩
 |o::os,s,val,fp,h,K,hr=>by
  rw[qrp]at hr;obtain⟨s1,l1,val1,fp1,h1,h2⟩:=qon h hr;exact qie os h1 h2
theorem qxc(h:Inv c s a w val fp){o:Oper}{t:TypeId}{x:Operand}(ho:o.op=.load t x)(hd:∀d,o.dst=some d->d<a.tmps.size)
 {Q:Exit->Act->World->Prop} (hr:runP E (opP P A o) s l K=some r):o.wp P a w (Post c w K r) Q:=by
 unfold opP at hr;simp only[ho]at hr;split at hr
 ·rename_i d hd';obtain⟨v,l1,h1,hv⟩:=q2x h hr
  have fin:∀{k:Key}{q g len cap:Nat}{s':St}{l':Log}{val':Key->Value}{fp':Key->List Nat}{cs:List C},tyOk P t=true->val k=.slice (some ⟨g,0,none⟩) len cap->q8j (val k) q (a.eval x)->
   Reads c a w s val fp k g q (q26 P 8 t).length s' val' fp' cs->K (s'.setT d (mkV P t cs)) l'=some r->o.wp P a w (Post c w K r) Q:=by
   intro k q g len cap s' l' val' fp' cs ht hu hp hrd hK;rw[hu]at hp;have hp:a.eval x=.pointer (some ⟨g,0+q,none⟩):=hp;rw[gAJ]at hp
   have each:∀j,j<(q26 P 8 t).length->∃v,w.cell? ⟨g,q+j,none⟩=some v/\∀y,cs[j]?=some y->CR (mkFr c w val' fp') s' y v:=fun j hj=>by
    have hj':j<cs.length:=by rw[hrd.len];exact hj
    obtain⟨v,h1,h2⟩:=hrd.cell j _ (gA hj');refine⟨v,h1,fun y hy=>?_⟩;rw[gA hj']at hy;cases hy;exact h2
   have hg:∀j,j<(q26 P 8 t).length->w.cell? ⟨g,q+j,none⟩=some ((w.cell? ⟨g,q+j,none⟩).getD undef):=fun j hj=>by
    obtain⟨v,h1,_⟩:=each j hj;rw[h1];rfl
   refine q3h (qav (f:=fun j=>(w.cell? ⟨g,q+j,none⟩).getD undef) ho ht hp hg) ?_;rw[hd'];refine⟨_,_,val',fp',hK,hrd.inv.setT (hd d hd') (qhd ht hrd.len fun j y hy=>?_),rfl,Kp.refl _ _⟩;have hj:j<(q26 P 8 t).length:=by rw[<- hrd.len];exact(gB.1 hy).1
   obtain⟨v,h1,h2⟩:=each j hj;have:=h2 y hy;show CR _ _ y ((w.cell? ⟨g,q+j,none⟩).getD undef);rw[h1];exact this
  split at h1
  ·rename_i k q;have hv0:=hv;rw[q3s]at h1;split at h1
   ·rename_i sz cells hk;cases hsl:qv5 P t with
    |false=>rw[hsl,cond_false]at h1;exact qel h ho hd hd' hv0 h1
    |true=>
     rw[hsl,cond_true]at h1;unfold qyk at h1;rw[q1s]at h1;replace h1:=q1c h1;obtain⟨ht,h1⟩:=h1;have hp:q8j (val k) q (a.eval x):=qc0 hv0 (by rw[hk];rfl);split at h1
     ·cases h1
     ·rename_i t0 ts hts;rw[qar]at h1;split at h1
      ·rename_i y hy;rw[q51]at h1;obtain⟨val1,fp1,g1,g2,g3⟩:=qjp h hk (by intro e;rw[e]at hy;simp at hy);obtain⟨z,s2,l2,val2,fp2,ws2,u1,u2,u3,u4,u5,u6,u7,g,len,cap,v0,u8,u9,u10⟩:=qc5 g1 (by rw[q2y,if_pos rfl]) hy rfl h1;rw[g3]at u8;obtain⟨cs,s3,l3,val3,fp3,p1,p2⟩:=qbl u2 u5 (by rw[u7,g3];exact u8) (fun i hi=>by rw[u6 i (by omega)]) u1;rw[q4r,q49]at p1;refine fin ht u8 hp ⟨p2.inv,(g2.trans u3).trans p2.goes,by rw[hts];simp[p2.len],fun j yy hyy=>?_⟩ p1;cases j with
       |zero=>simp at hyy;subst hyy;exact⟨v0,u9,CR.goes p2.goes u10⟩
       |succ j=>
        have:=p2.cell j yy (by simpa using hyy);rw[show q+(j+1)=q+1+j by omega];exact this
      ·cases h1
   ·rename_i sz cells ws hk;unfold qyv at h1;rw[q1s]at h1;replace h1:=q1c h1;obtain⟨ht,h1⟩:=h1;have hp:q8j (val k) q (a.eval x):=qc0 hv0 (by rw[hk];rfl);have hob:=h.obs k;rw[hk]at hob;obtain⟨g,len,cap,cur,e,vs,fs,hu,_⟩:=hob;have hu:val k=.slice (some ⟨g,0,none⟩) len cap:=hu;obtain⟨cs,s3,l3,val3,fp3,p1,p2⟩:=qbl h hk hu (fun i hi=>rfl) h1;rw[q4r,q49]at p1;exact fin ht hu hp p2 p1
   ·exact qel h ho hd hd' hv0 h1
  ·rename_i cells q;rw[q1s]at h1;replace h1:=q1c h1;obtain⟨ht,h1⟩:=h1;have hv':RB w (fun b=>inI c w fp b\/Lent (mkFr c w val fp) s b) (fun b=>inJ c w fp b\/Lent (mkFr c w val fp) s b) (.rref cells q) (a.eval x):=hv;obtain⟨cs,l2,h2,hl,hcs⟩:=qbi h1;rw[q4r,q49]at h2;generalize hu:a.eval x=u at hv';cases hv' with
   |rref vs hJ hcell hc=>
    rename_i b o';refine q3h (qav (f:=fun j=>vs (q+j)) ho ht hu fun j hj=>?_) ?_
    ·obtain⟨y,hy1,_⟩:=hcs j _ (gA hj);rw[Nat.add_assoc];exact hcell _ (gB.1 hy1).1
    ·rw[hd'];refine q36 (o:=o) h (hd d hd') (qhd ht (by simpa using hl) fun j y hy=>?_) h2;have hj:j<(q26 P 8 t).length:=by rw[<- hl];simpa using(gB.1 hy).1
     obtain⟨z,hz1,hz2,_⟩:=hcs j _ (gA hj);rw[gAC,hz2]at hy;cases hy;have hz:=hc _ _ hz1;show CR (mkFr c w val fp) s (bif z.scalar then C.t z else C.view z) (vs (q+j));cases hsc:z.scalar with
     |true=>exact hz.scalar hsc
     |false=>exact hz
  ·exact qel h ho hd hd' hv h1
 ·cases hr
theorem qn3(h:Inv c s a w val fp){k:Key}{sz:Nat}{cells:List T}{ws:List (Nat×C)}(hk:s.getO k=.opn sz cells ws) :
 ∃g len cap,val k=.slice (some ⟨g,0,none⟩) len cap/\0<sz/\cells.length=len*sz:=by
 have hob:=h.obs k;rw[hk]at hob;obtain⟨g,len,cap,cur,e,vs,fs,hu,hF,hsz,hg,hlen,_⟩:=hob;exact⟨g,len,cap,hu,hsz.1,hlen⟩
theorem qnn(h:Inv c s a w val fp){o:Oper}{t:TypeId}{x i:Operand}(ho:o.op=.indexAddr t x i)(hd:∀d,o.dst=some d->d<a.tmps.size)
 {Q:Exit->Act->World->Prop} (hr:runP E (opP P A o) s l K=some r):o.wp P a w (Post c w K r) Q:=by
 unfold opP at hr;simp only[ho]at hr;split at hr
 ·rename_i d hd';obtain⟨v,l1,h1,hv⟩:=q2x h hr;obtain⟨u,l2,h2,hu⟩:=q2x h h1;split at h2
  ·rename_i k;rw[q3s]at h2;split at h2
   ·rename_i sz cells ws hk;split at h2
    ·rename_i e kk m hue;have hui:=RB.int_inv hu;rw[q1s]at h2;replace h2:=q1c h2;obtain⟨hb,h2⟩:=h2;rw[gC,gC]at hb;obtain⟨⟨he,hsz⟩,hb⟩:=hb;have hsz:sz=q38 P e:=gE hsz;subst hsz;obtain⟨g,len,cap,e1,e2,e3⟩:=qn3 h hk;rw[e3,Nat.mul_div_cancel _ e2]at hb;obtain⟨h0,h1'⟩:=qh0 hb;have hvx:a.eval x=.slice (some ⟨g,0,none⟩) len cap:=by rw[<- e1];exact qcc hv (by rw[hk];rfl)
     rw[q4r,q49]at h2;refine q3h (q89 ho hue he hvx hui h0 h1') ?_;rw[hd']
     have hcr:CR (mkFr c w val fp) s (.ptr k (m.toNat*q38 P e)) (.pointer (some ⟨g,0+m.toNat*q38 P e,none⟩)):=by
      refine⟨?_,rfl⟩;rw[hk];show q8j (val k) _ _;rw[e1];rfl
     exact q36 (o:=o) h (hd d hd') (VR_c hcr) h2
    ·cases h2
   ·rename_i deep sz cells hk;split at h2
    ·rename_i e kk m hue;have hui:=RB.int_inv hu;rw[q1s]at h2;replace h2:=q1c h2;obtain⟨hb,h2⟩:=h2;rw[gC,gC]at hb;obtain⟨⟨he,hsz⟩,hb⟩:=hb;have hsz:sz=q38 P e:=gE hsz;subst hsz
     have hvk:a.eval x=val k:=by
      have h1:=hv.1;rw[hk]at h1;exact h1
     have hob:=h.obs k;rw[hk]at hob;have hob:ObR (mkFr c w val fp) s (.arr true deep (q38 P e) cells) (val k) (fp k):=by cases deep <;> exact hob
     obtain⟨xs,Fg,fs,hown,hF⟩:=q9i.1 hob
     have hrb:RB w (fun b=>inI c w fp b\/Lent (mkFr c w val fp) s b) (fun b=>inJ c w fp b\/Lent (mkFr c w val fp) s b) (.sl (q38 P e) cells) (val k):=
      hown.rb (fun b hb=>.inr ⟨k,by rw[hk];rfl,by show b∈fp k;rw[hF];exact hb⟩) (fun b hb=>.inl hb) (fun b hb=>.inl hb)
     obtain⟨Ad,len,cap,e1,e2,e3,e4,vs,hc,hcells⟩:=RB.sl_inv hrb;rw[e3,Nat.mul_div_cancel _ e2]at hb;obtain⟨h0,h1'⟩:=qh0 hb;have hpos:0<cells.length:=by rw[e3];exact Nat.mul_pos (by omega) e2
     obtain⟨b,q,rfl,hI,hcell⟩:=hcells (fun e=>by rw[e]at hpos;simp at hpos);rw[q4r,q49]at h2;refine q3h (q89 ho hue he (hvk.trans e1) hui h0 h1') ?_;rw[hd'];refine q36 (o:=o) h (hd d hd') ?_ h2;exact RB.rref vs (fun _=>hI.imp (fun hx=>⟨hx.1.imp (h.ij b) id,hx.2⟩) id) hcell hc
    ·cases h2
   ·exact qcs h ho hd hd' hv hu h2
  ·exact qcs h ho hd hd' hv hu h2
 ·cases hr
theorem qy4(h:Inv c s a w val fp){o:Oper}{cl:Call}(ho:o.op=.call cl)(hcl:cl.callee=.builtin .len)(hd:∀d,o.dst=some d->d<a.tmps.size)
 {Q:Exit->Act->World->Prop} (hr:runP E (opP P A o) s l K=some r):o.wp P a w (Post c w K r) Q:=by
 unfold opP at hr;simp only[ho,hcl]at hr;split at hr
 ·rename_i x t hx ht;have hargs:cl.args = #[x]:=by rw[<- Array.toArray_toList (xs:=cl.args),hx]
  have htys:cl.argTypes = #[t]:=by rw[<- Array.toArray_toList (xs:=cl.argTypes),ht]
  obtain⟨v,l1,h1,hv⟩:=q2x h hr
  have slice:∀{Ad:Option Addr}{len cap n:Nat}{l2:Log},qm8 P t=true->a.eval x=.slice Ad len cap->n=len->runP E (setD o.dst (.one (.t (.int .i64 (n:Int))))) s l2 K=some r->o.wp P a w (Post c w K r) Q:=by
   intro Ad len cap n l2 ht' e1 e4 h2;obtain⟨d,l3,hd',h3⟩:=q4p h2;refine q3h (v:=.int .i64 (len:Int)) (w':=w) ?_ ?_
   ·obtain⟨e,hu⟩:=qr5 ht';simp[execOp,ho,resolve,hcl,hargs,htys,invoke,builtin,Builtin.len_,run_underlying hu,e1,goInt]
   ·rw[hd'];refine q36 (o:=o) h (hd d hd') (VR_t ?_) h3;rw[e4];exact RB.int _ _
  split at h1
  ·rename_i sb;have hv:=RB.str_inv hv;rw[q1s]at h1;replace h1:=q1c h1;obtain⟨ht',h1⟩:=h1;obtain⟨d,l3,hd',h3⟩:=q4p h1;refine q3h (v:=.int .i64 (sb.size:Int)) (w':=w) ?_ ?_
   ·have hu:P.underlying t=some .string:=by
     unfold qi4 at ht';split at ht'
     ·assumption
     ·cases ht'
    simp[execOp,ho,resolve,hcl,hargs,htys,invoke,builtin,Builtin.len_,run_underlying hu,hv,goInt]
   ·rw[hd'];exact q36 (o:=o) h (hd d hd') (VR_t (RB.int _ _)) h3
  ·rename_i k;rw[q1s]at h1;replace h1:=q1c h1;obtain⟨ht',h1⟩:=h1;rw[q3s]at h1;split at h1
   ·rename_i sz cells ws hk;rw[q1s]at h1;replace h1:=q1c h1;obtain⟨hsz,h1⟩:=h1;have hsz:sz=q5e P t:=gE hsz;subst hsz;obtain⟨g,len,cap,e1,e2,e3⟩:=qn3 h hk;exact slice ht' (by rw[<- e1];exact qcc hv (by rw[hk];rfl)) (by rw[e3];exact Nat.mul_div_cancel _ e2) h1
   ·obtain⟨cells,l2,h2,Ad,len,cap,e1,e2,e3,e4⟩:=qfy h hv h1;exact slice ht' e1 e4 h2
  ·rw[q1s]at h1;replace h1:=q1c h1;obtain⟨ht',h1⟩:=h1;obtain⟨cells,l2,h2,Ad,len,cap,e1,e2,e3,e4⟩:=qfy h hv h1;exact slice ht' e1 e4 h2
 ·cases hr
end
end Ev
end
section
namespace Ev
open Go
section
variable {P:Program}{A:q7t}{E:Env}{c:Ctx}{s s1 s2:St}{a:Act}{w:World}{val:Key->Value}{fp:Key->List Nat}
variable {l:Log}{K:St->Log->R}{r:T×List T}
theorem qnf(h:Inv c s a w val fp):Snap c s s a w val fp []:=⟨h,fun k _=>⟨rfl,fun _ _=>by simp⟩,by simp,by simp⟩
theorem que:∀{cs:List T}{ns:List Int},u8s cs=some ns->cs.length=ns.length/\∀(i:Nat)(x:T),cs[i]?=some x->∃n,ns[i]?=some n/\x=T.int .u8 n
 |[],ns,h=>by simp[u8s]at h;subst h;simp
 |x::cs,ns,h=>by
  unfold u8s at h;split at h
  ·rename_i e;cases e
  ·rename_i n r' e;cases e;rw[gP]at h;obtain⟨ms,h1,rfl⟩:=h;obtain⟨g1,g2⟩:=que h1;refine⟨by simp[g1],fun i y hy=>?_⟩;cases i with
   |zero=>simp at hy;subst hy;exact⟨n,rfl,rfl⟩
   |succ i=>exact g2 i y (by simpa using hy)
  ·cases h
theorem qrx(h:Inv c s a w val fp){o:Oper}{t t':TypeId}{x:Operand}(ho:o.op=.convert t t' x)(hd:∀d,o.dst=some d->d<a.tmps.size)
 {Q:Exit->Act->World->Prop} (hr:runP E (opP P A o) s l K=some r):o.wp P a w (Post c w K r) Q:=by
 unfold opP at hr;simp only[ho]at hr;split at hr
 ·rename_i d hd';obtain⟨v,l1,h1,hv⟩:=q2x h hr;cases hc:qkt P t&&qi4 P t' with
  |false=>rw[hc,cond_false]at h1;exact qpo h ho hd hd' hv h1
  |true=>
   rw[hc,cond_true]at h1;rw[gC]at hc;obtain⟨hb,hs⟩:=hc
   have hut':P.underlying t'=some .string:=by
    unfold qi4 at hs;split at hs
    ·assumption
    ·cases hs
   have hsl:∃e,P.underlying t=some (.slice e)/\P.underlying e=some (.int .u8):=by
    unfold qkt at hb;split at hb
    ·rename_i e hu;rw[gC]at hb;have:=hb.1;unfold qyf at this;split at this
     ·exact⟨e,hu,by assumption⟩
     ·cases this
    ·cases hb
   obtain⟨e,hu,hel⟩:=hsl;unfold qy8 at h1;split at h1
   ·rename_i cc;obtain⟨y,b,l2,h2,hy⟩:=qa9 (qnf h) hv h1;rw[q6f]at h2;split at h2
    ·rename_i sz cs;replace h2:=q1c h2;obtain⟨hsz,h2⟩:=h2;have hsz:sz=1:=gE hsz;subst hsz;rw[qar]at h2;split at h2
     ·rename_i z hz;unfold bytesOf at hz;rw[gP]at hz;obtain⟨ns,hns,rfl⟩:=hz;rw[qn0]at h2;simp only at h2;rw[q4r,q49]at h2;obtain⟨g1,g2⟩:=que hns;obtain⟨Ad,len,cap,e1,e2,e3,e4,vs,hcc,hcells⟩:=RB.sl_inv hy;rw[Nat.mul_one]at e3;refine q3h (v:=.string (ns.foldl (fun r n=>r.push (UInt8.ofNat n.toNat)) ByteArray.empty)) (w':=w) ?_ ?_
      ·have hrun:=run_convert_bytes_string (P:=P) w t t' e Ad len cap hu hel hut'
       have hex:(Conv.bytesToString (.slice Ad len cap)).run P w=.ok (.string (ns.foldl (fun r n=>r.push (UInt8.ofNat n.toNat)) ByteArray.empty)) w:=by
        cases Ad with
        |none=>
         have hnil:cs=[]:=by
          by_cases hne:cs=[]
          ·exact hne
          ·obtain⟨b',o',e5,_⟩:=hcells hne;cases e5
         subst hnil;have:ns=[]:=gL (by simpa using g1.symm);subst this;simp[Conv.bytesToString,Sem.run_pure]
        |some ad=>
         refine run_bytesToString w ad len cap ns ?_
         have:=run_loadCells_list (P:=P) w ad (ns.map (Value.int .u8)) (fun j v hj=>by
          rw[gAC,gP]at hj;obtain⟨n,hn,rfl⟩:=hj;have hj':j<cs.length:=by rw[g1];exact(gB.1 hn).1
          obtain⟨b',o',e5,_,hcell⟩:=hcells (fun e=>by rw[e]at hj';simp at hj');cases e5;obtain⟨n',hn',hx'⟩:=g2 j _ (gA hj');rw[hn]at hn';cases hn';have h3:=hcc j _ (gA hj');rw[hx']at h3;rw[qbp,hcell j hj',RB.int_inv h3])
         rw[gAG,<- g1,e3]at this;exact this
       simp[execOp,ho,e1,hrun,hex]
      ·rw[hd'];exact q36 (o:=o) h (hd d hd') (VR_t (RB.str _)) h2
     ·cases h2
    ·cases h2
   ·cases h1
 ·cases hr
theorem qxu(h:Inv c s a w val fp){o:Oper}{cl:Call}(ho:o.op=.call cl)(hcl:cl.callee=.builtin .copy)(hd:∀d,o.dst=some d->d<a.tmps.size)
 {Q:Exit->Act->World->Prop} (hr:runP E (opP P A o) s l K=some r):o.wp P a w (Post c w K r) Q:=by
 unfold opP at hr;simp only[ho,hcl]at hr;split at hr
 ·rename_i x y t t' hargs htys;have hargs:cl.args = #[x,y]:=by rw[<- Array.toArray_toList (xs:=cl.args),hargs]
  have htys:cl.argTypes = #[t,t']:=by rw[<- Array.toArray_toList (xs:=cl.argTypes),htys]
  obtain⟨v,l1,h1,hv⟩:=q2x h hr;obtain⟨sv,l2,h2,hsv⟩:=q2x h h1;unfold qyc at h2;rw[q1s]at h2;replace h2:=q1c h2;obtain⟨hok,h2⟩:=h2;simp only[gC]at hok;obtain⟨⟨⟨hok1,hok2⟩,hok3⟩,hok4⟩:=hok;obtain⟨e,i,z,st⟩:=qcz hok1;have hs1:i.size=1:=by have:=gE hok3;rw[st.stride]at this;exact this
  split at h2
  ·rename_i k cc;obtain⟨ty,b,l3,h3,hy⟩:=qa9 (qnf h) hsv h2;rw[q6f]at h3;split at h3
   ·rename_i sz ys;replace h3:=q1c h3;obtain⟨hsz,h3⟩:=h3;have hsz:sz=1:=gE hsz;subst hsz;rw[q3s]at h3;split at h3
    ·rename_i deep sz2 cs hk;rw[q1s]at h3;replace h3:=q1c h3;obtain⟨hb,h3⟩:=h3;rw[gC]at hb;have hsz2:sz2=1:=gE hb.1;subst hsz2;rw[q51]at h3;obtain⟨d,l4,hd',h4⟩:=q4p h3;have hux:a.eval x=val k:=q6a hv hk;have hob:=h.obs k;rw[hk]at hob;obtain⟨xs,Fg,fs,hw,hF⟩:=q9i.1 hob;obtain⟨Ad,len,cap,e1,e2,e3,e4,vs,hcc,hcells⟩:=RB.sl_inv hy;rw[Nat.mul_one]at e3;let news:=(List.range (ys.take cs.length).length).map vs;have hnl:news.length=(ys.take cs.length).length:=by simp[news]
     have hnle:news.length<=cs.length:=by rw[hnl,gAF];omega
     have hel:∀(j:Nat)(y:T)(u:Value),(ys.take cs.length)[j]?=some y->news[j]?=some u->RO w y u []:=fun j y u hy' hu=>by
      rw[gT]at hy';split at hy'
      ·have hj:j<(ys.take cs.length).length:=by rw[<- hnl];exact(gB.1 hu).1
       have:news[j]?=some (vs j):=by simp only[news];rw[gAC,List.getElem?_range hj,Option.map_some]
       rw[this]at hu;cases hu;exact qeu (hcc j y hy') (gAL.1 hb.2 y (List.mem_of_getElem? hy'))
      ·cases hy'
     have hone:∀u∈news,u.oneCell'=true:=fun u hu=>by
      obtain⟨j,hj⟩:=List.mem_iff_getElem?.1 hu;have hjl:j<(ys.take cs.length).length:=by rw[<- hnl];exact(gB.1 hj).1
      exact(hel j _ u (gA hjl) hj).one
     have hlen2:∀{A2:Option Addr}{l2 c2:Nat},val k=.slice A2 l2 c2->l2=cs.length:=fun {A2 l2 c2} hval=>by
      obtain⟨A3,l3,c3,q1,q2,_⟩:=hw.row.slice;rw[hval]at q1;cases q1;rw[Nat.mul_one,hw.len]at q2;exact q2.symm
     have hrun:∃w',(Builtin.copy_ #[t,t'] o.type #[a.eval x,a.eval y]).run P w=.ok (goInt news.length) w'/\RowAt w' 1 (val k) (news++xs.drop news.length) Fg/\(∀b,b∉Fg->w'.heap[b]?=w.heap[b]?)/\w.heap.size<=w'.heap.size/\w'.os=w.os/\w'.tape=w.tape/\w'.output=w.output:=by
      have hinfo:(P.info? e).map (·.size)=some 1:=by rw[st.hi];simp[hs1]
      rw[hux];rcases hw.row with⟨hxs,hFg,ad,hval⟩|⟨g,len2,cap2,cur,e',hval,hFg,hg,hxl,hc2,hmax,hcur,htk⟩
      ·have hcs:cs.length=0:=by rw[<- hw.len,hxs];rfl
       have hn0:news.length=0:=by omega
       have hn0':news=[]:=gL hn0;refine⟨w,?_,?_,fun _ _=>rfl,gAI _,rfl,rfl,rfl⟩
       ·rw[hn0,hval];have hvy:a.eval y=.slice Ad len cap:=e1;rw[hvy];exact run_copy_none w t t' o.type e _ _ 0 0 len cap st.hu hinfo (by simp)
       ·rw[hn0',hval];exact .inl ⟨by simpa using hxs,hFg,ad,rfl⟩
      ·have hl2:len2=cs.length:=hlen2 hval;rw[Nat.mul_one]at hxl hcur htk;have hvy:a.eval y=.slice Ad len cap:=e1
       have hmin:news.length=Nat.min len len2:=by
        rw[hnl,gAF,hl2,e3];exact Nat.min_comm _ _
       by_cases hn0:news.length=0
       ·have hn0':news=[]:=gL hn0;refine⟨w,?_,?_,fun _ _=>rfl,gAI _,rfl,rfl,rfl⟩
        ·rw[hn0,hval,hvy];exact run_copy_none w t t' o.type e _ _ len2 cap2 len cap st.hu hinfo (by omega)
        ·rw[hn0'];simp only[List.length_nil,List.drop_zero,List.nil_append];exact hw.row
       ·obtain⟨b',q',rfl,_,hcell⟩:=hcells (fun e=>by
         have:news.length<=ys.length:=by rw[hnl,gAF];omega
         rw[e]at this;simp at this;exact hn0 (by simp[this]))
        have hfit:0+news.length<=cur.size:=by rw[hcur];omega
        have hr:=run_copy_row (P:=P) w t t' o.type e g 0 len2 cap2 ⟨b',q',none⟩ len cap cur e' news st.hu hinfo hg hmin (fun j u hu=>by
         have hj:j<(ys.take cs.length).length:=by rw[<- hnl];exact(gB.1 hu).1
         have hj':j<ys.length:=by rw[gAF]at hj;omega
         have:news[j]?=some (vs j):=by simp only[news];rw[gAC,List.getElem?_range hj,Option.map_some]
         rw[this]at hu;cases hu;rw[qbp];exact hcell j hj') hfit hone
        refine⟨_,by rw[hval,hvy];exact hr,.inr ⟨g,len2,cap2,_,e',hval,hFg,setRow_heap w g cur _ e' _ hg,?_,hc2,hmax,?_,?_⟩,fun b hb=>setRow_other w g b _ (fun e=>hb (by rw[hFg,e];simp)),by simp,rfl,rfl,rfl⟩
        ·rw[gM,gAA,Nat.mul_one,hxl];have:=hw.len;omega
        ·simp only[List.take_zero,List.nil_append,gAJ,List.size_toArray,gM,gAA,Array.length_toList,Nat.mul_one];omega
        ·simp only[List.take_zero,List.nil_append,gAJ,Nat.mul_one];rw[<- htk,List.take_append,List.take_of_length_le (by have:=hw.len;omega),List.drop_take]
     obtain⟨w',r1,r2,r3,r4,r5,r6,r7⟩:=hrun
     have hxn:∀j,news.length<=j->(news++xs.drop news.length)[j]?=xs[j]?:=fun j hj=>by
      rw[List.getElem?_append_right hj,gV];congr 1;omega
     have hcn:∀j,news.length<=j->(setCells cs 0 (ys.take cs.length))[j]?=cs[j]?:=fun j hj=>by
      rw[q3y _ _ _ _ (by rw[<- hnl];omega),if_neg (by rw[<- hnl];omega)]
     have hcl2:(setCells cs 0 (ys.take cs.length)).length=cs.length:=q41 _ _ _;let fs':Nat->List Nat:=fun j=>if j<news.length then[]else fs j
     have fs_sub:∀j b,b∈fs' j->b∈fs j:=fun j b hb=>by
      simp only[fs']at hb;split at hb
      ·simp at hb
      ·exact hb
     have hfg:∀b,b∈Fg->b∈fp k:=fun b hb=>by rw[hF];exact gJ _ hb
     obtain⟨q1,q2,q3⟩:=h.change1 (w':=w') k (.arr true deep 1 (setCells cs 0 (ys.take cs.length))) (val k) (Fg++flat cs.length fs') (by rw[hk];rfl) (by rw[hk];rfl)
      (fun b hb=>.inl (by
       rw[hF];rcases gO.1 hb with hb|hb
       ·exact gJ _ hb
       ·obtain⟨j,hj,hb⟩:=q23.1 hb;exact gN _ (q23.2 ⟨j,hj,fs_sub j b hb⟩)))
      (fun b _ hb=>r3 b fun hbg=>hb (hfg b hbg)) r4 r5 r6 r7 (fun g=>by
       have hnd':ND cs.length fs':=⟨fun j hj=>by
        simp only[fs'];split
        ·exact List.nodup_nil
        ·exact hw.nd.1 j hj,fun j j' hj hj' hne b hb hb'=>hw.nd.2 j j' hj hj' hne b (fs_sub j b hb) (fs_sub j' b hb')⟩
       refine q9i.2 ⟨news++xs.drop news.length,Fg,fs',⟨hw.pos,r2,?_,by rw[hcl2];exact hnd',fun b hb j hj hbj=>hw.apart b hb j (by rwa[hcl2]at hj) (fs_sub j b hbj),fun j y u hy hu=>?_⟩,by rw[hcl2]⟩
       ·rw[hcl2,gM,gAA];have:=hw.len;omega
       ·by_cases hj:j<news.length
        ·rw[List.getElem?_append_left hj]at hu;rw[q3y _ _ _ _ (by rw[<- hnl];omega),if_pos (by rw[<- hnl];omega),Nat.sub_zero]at hy;have hro:=hel j y u hy hu;simp only[fs',if_pos hj];have hro':RO w' y u []:=RO.move hro (by simp);unfold El;split
         ·exact hro'
         ·exact⟨hro'.rb (by simp),rfl⟩
        ·rw[hxn j (by omega)]at hu;rw[hcn j (by omega)]at hy;have h5:=hw.el j y u hy hu;have hjl:=(gB.1 hy).1;simp only[fs',if_neg hj];unfold El at *;split
         ·rename_i hdp;rw[if_pos hdp]at h5;exact RO.move h5 fun b hb=>r3 b fun hbg=>hw.apart b hbg j hjl hb
         ·rename_i hdp;rw[if_neg hdp]at h5;exact⟨RB.move h5.1 g.hI g.hJ,h5.2⟩)
     refine q3h (v:=goInt news.length) (w':=w') ?_ ?_
     ·simp[execOp,ho,resolve,hcl,hargs,htys,invoke,builtin,r1]
     ·rw[hd'];refine⟨_,_,_,_,h4,q1.setT (hd d hd') (VR_t ?_),rfl,q3⟩;rw[hnl];exact RB.int _ _
    ·cases h3
   ·cases h3
  ·cases h2
 ·cases hr
theorem qyy(h:Inv c s a w val fp){o:Oper}{cl:Call}(ho:o.op=.call cl)(hcl:cl.callee=.builtin .max)(hd:∀d,o.dst=some d->d<a.tmps.size)
 {Q:Exit->Act->World->Prop} (hr:runP E (opP P A o) s l K=some r):o.wp P a w (Post c w K r) Q:=by
 unfold opP at hr;simp only[ho,hcl]at hr;split at hr
 ·rename_i x y hx;have hargs:cl.args = #[x,y]:=by rw[<- Array.toArray_toList (xs:=cl.args),hx]
  obtain⟨v,l1,h1,hv⟩:=q2x h hr;obtain⟨u,l2,h2,hu⟩:=q2x h h1;split at h2
  ·rename_i k m k' n;have hv:=RB.int_inv hv;have hu:=RB.int_inv hu;rw[q1s]at h2;replace h2:=q1c h2;obtain⟨hk,h2⟩:=h2;obtain⟨d,l3,hd',h3⟩:=q4p h2;refine q3h (v:=.int k (max m n)) (w':=w) ?_ ?_
   ·have:(if n>m then n else m)=max m n:=by omega
    simp[execOp,ho,resolve,hcl,hargs,invoke,builtin,Builtin.max_,Builtin.max2,hv,hu,this]
   ·rw[hd'];exact q36 (o:=o) h (hd d hd') (VR_t (RB.int _ _)) h3
  ·cases h2
 ·cases hr
theorem qg9(h:Inv c s a w val fp){o:Oper}{t:TypeId}{x:Operand}{lo hi:Option Operand}(ho:o.op=.slice t x lo hi none)(hd:∀d,o.dst=some d->d<a.tmps.size){d:Nat}(hd':o.dst=some d){e:TypeId}(hu:P.underlying t=some (.slice e)){cells:List T}
 (hv:RB w (fun b=>inI c w fp b\/Lent (mkFr c w val fp) s b) (fun b=>inJ c w fp b\/Lent (mkFr c w val fp) s b) (.sl (q38 P e) cells) (a.eval x))
 {Q:Exit->Act->World->Prop} (h1:runP E (qq5 P d e cells lo hi) s l K=some r):o.wp P a w (Post c w K r) Q:=by
 unfold qq5 at h1;rw[q1s]at h1;replace h1:=q1c h1;obtain⟨he,h1⟩:=h1;obtain⟨ie,hie⟩:=gAM.1 he;have hs:q38 P e=ie.size:=by simp[q38,hie]
 obtain⟨A',len,cap,e0,e1,e2,e3,_⟩:=RB.sl_inv hv;have hdiv:cells.length/q38 P e=len:=by rw[e2];exact Nat.mul_div_cancel _ e1
 rw[hdiv]at h1;obtain⟨m,l2,h2,hm⟩:=q7c h h1;obtain⟨n,l3,h3,hn⟩:=q7c h h2;rw[q1s]at h3;replace h3:=q1c h3;obtain⟨hb,h3⟩:=h3;simp only[gC,gS]at hb;rw[q4r,q49]at h3;rw[e0]at hv;refine q3h (v:=.slice (if cap=m.toNat then A' else A'.map (·.add (m.toNat*q38 P e))) (n.toNat-m.toNat) (cap-m.toNat)) (w':=w) ?_ ?_
 ·have:=qdt (P:=P) (w:=w) (isSlice:=true) hm hn hb.1.1 hb.1.2 hb.2 e3;simp[execOp,ho,Instr.sliceAt,run_underlying hu,Instr.slice,e0,this,Go.sizeOf,typeInfo,hie,hs]
 ·rw[hd']
  have hcr:CR (mkFr c w val fp) s (.view (.sl (q38 P e) ((cells.take (n.toNat*q38 P e)).drop (m.toNat*q38 P e)))) (.slice (if cap=m.toNat then A' else A'.map (·.add (m.toNat*q38 P e))) (n.toNat-m.toNat) (cap-m.toNat)):=
   qwb hv (by omega) (by omega)
  exact q36 (o:=o) h (hd d hd') (VR_c hcr) h3
theorem OwnR.pre{I J:Nat->Prop}{deep:Bool}{sz:Nat}{cells:List T}{A:Option Addr}{len cap:Nat}{xs:List Value}{Fg:List Nat}{fs:Nat->List Nat}(h:OwnR w I J deep sz cells (.slice A len cap) xs Fg fs){n:Nat}(hn:n<=len) :
 cells.length=len*sz/\len<=cap/\OwnR w I J deep sz (cells.take (n*sz)) (.slice A n cap) (xs.take (n*sz)) Fg fs:=by
 have hcl:xs.length=len*sz/\len<=cap/\RowAt w sz (.slice A n cap) (xs.take (n*sz)) Fg:=by
  rcases h.row with⟨h1,h2,a,h3⟩|⟨g,len',cap',cur,e,h3,h4,h5,h6,h7,h8,h9,h10⟩
  ·cases h3;subst h1;have:n=0:=by omega
   subst this;exact⟨by simp,gAI _,.inl ⟨by simp,h2,_,rfl⟩⟩
  ·cases h3;have hle:n*sz<=len*sz:=gAO _ hn;refine⟨h6,h7,.inr ⟨g,n,cap,cur,e,rfl,h4,h5,by rw[gAF];omega,by omega,h8,h9,?_⟩⟩;rw[<- h10,List.take_take,Nat.min_eq_left hle]
 obtain⟨g1,g2,g3⟩:=hcl;have hl:=h.len;have sub:∀i,i<(cells.take (n*sz)).length->i<cells.length:=fun i hi=>by rw[gAF]at hi;omega
 refine⟨by omega,g2,h.pos,g3,by simp[hl],⟨fun i hi=>h.nd.1 i (sub i hi),fun i j hi hj=>h.nd.2 i j (sub i hi) (sub j hj)⟩,fun b hb i hi=>h.apart b hb i (sub i hi),fun i x y hx hy=>?_⟩;rw[gT]at hx hy;split at hx
 ·rename_i hi;rw[if_pos hi]at hy;exact h.el i x y hx hy
 ·cases hx
theorem qmb(h:Inv c s a w val fp){o:Oper}{t:TypeId}{x:Operand}{lo hi:Option Operand}(ho:o.op=.slice t x lo hi none)(hd:∀d,o.dst=some d->d<a.tmps.size){d:Nat}(hd':o.dst=some d){e:TypeId}(hu:P.underlying t=some (.slice e))
 {k:Key} {deep:Bool} {sz:Nat} {cells:List T} (hk:s.getO k=.arr true deep sz cells) (hv:CR (mkFr c w val fp) s (.obj k) (a.eval x))
 {Q:Exit->Act->World->Prop} (h1:runP E (qsy P d e k deep sz cells lo hi) s l K=some r):o.wp P a w (Post c w K r) Q:=by
 unfold qsy at h1;split at h1
 case h_2=>cases h1
 rw[q1s]at h1;replace h1:=q1c h1;obtain⟨he,h1⟩:=h1;rw[gC]at he;obtain⟨he,hsz⟩:=he;have hsz:sz=q38 P e:=gE hsz;subst hsz;obtain⟨ie,hie⟩:=gAM.1 he;have hs:q38 P e=ie.size:=by simp[q38,hie]
 have hval:a.eval x=val k:=qcc hv (by rw[hk];rfl);have hob:=h.obs k;rw[hk]at hob;obtain⟨xs,Fg,fs,hown,hF⟩:=q9i.1 hob
 obtain⟨A,len,cap,hA⟩:∃A len cap,val k=.slice A len cap:=by
  rcases hown.row with⟨_,_,a',h3⟩|⟨g,len',cap',cur,e',h3,_⟩
  ·exact⟨_,_,_,h3⟩
  ·exact⟨_,_,_,h3⟩
 rw[hA]at hown;have hdiv0:=(hown.pre (gAI len)).1;have hdiv:cells.length/q38 P e=len:=by rw[hdiv0];exact Nat.mul_div_cancel _ hown.pos
 rw[hdiv]at h1;obtain⟨n,l3,h3,hn⟩:=q7c h h1;rw[q1s]at h3;replace h3:=q1c h3;obtain⟨hb,h3⟩:=h3;simp only[gC,gS]at hb;obtain⟨_,hcap,hpre⟩:=hown.pre (n:=n.toNat) (by omega);rw[q51]at h3;obtain⟨hnk,_,hm⟩:=(Moved.refl s).add (o:=.moved (q81 d 0)) (.inr ⟨_,rfl⟩) hk;obtain⟨hfree,l4,h4⟩:=q6h h3;rw[q4r,q49]at h4
 have hFl:∀y,y∈Fg++flat (cells.take (n.toNat*q38 P e)).length fs->y∈fp k:=fun y hy=>by
  rw[hF];rcases gO.1 hy with hy|hy
  ·exact gJ _ hy
  ·obtain⟨i,hi,hy⟩:=q23.1 hy;exact gN _ (q23.2 ⟨i,by rw[gAF]at hi;omega,hy⟩)
 obtain⟨F'',q1,q2,q3⟩:=qoa (ys:=[]) (news:=[]) (b:=true) (M:=[]) (gs:=fun _=>[]) (w':=w) (u':=.slice A n.toNat cap) (F':=Fg) h hm (by simp) hpre (fun y hy=>⟨k,by simp,by simp,hFl y hy⟩)
  ⟨rfl,by simp,fun _=>⟨by simp,ND.nil _,by simp⟩⟩ hfree (by rw[gAD];exact hpre.row) (fun y hy=>.inl hy) (fun _ _ _=>rfl) (gAI _) rfl rfl rfl
 rw[Bool.and_true,gAD]at q1 q3;refine q3h (v:=.slice A n.toNat cap) (w':=w) ?_ ?_
 ·have hbd:=qdt (P:=P) (w:=w) (isSlice:=true) (lo:=none) (m:=0) (.inl ⟨rfl,rfl⟩) hn (Int.le_refl _) hb.1 hb.2 hcap;have hz:∀B:Option Addr,B.map (·.add 0)=B:=fun B=>by cases B <;> rfl
  have hev:a.eval x=.slice A len cap:=hval.trans hA;simp only[Option.map_none]at hbd;simp[execOp,ho,Instr.sliceAt,run_underlying hu,Instr.slice,hev,hbd,Go.sizeOf,typeInfo,hie,hz]
 ·rw[hd'];exact⟨_,_,_,_,h4,q1.setT (hd d hd') (VR_c q3),rfl,q2⟩
theorem qvk(h:Inv c s a w val fp){o:Oper}{t:TypeId}{x:Operand}{lo hi:Option Operand}(ho:o.op=.slice t x lo hi none)(hd:∀d,o.dst=some d->d<a.tmps.size)
 {Q:Exit->Act->World->Prop} (hr:runP E (opP P A o) s l K=some r):o.wp P a w (Post c w K r) Q:=by
 unfold opP at hr;simp only[ho]at hr;split at hr
 ·rename_i d hd';obtain⟨v,l1,h1,hv⟩:=q2x h hr;split at h1
  ·rename_i y e hu;rw[q6f]at h1;split at h1
   ·rename_i sz cs;replace h1:=q1c h1;obtain⟨hsz,h1⟩:=h1;have hsz:sz=q38 P e:=gE hsz;subst hsz;exact qg9 h ho hd hd' hu hv h1
   ·cases h1
  ·rename_i k e hu;rw[q3s]at h1;split at h1
   ·rename_i deep sz cs hk;rw[q1s]at h1;replace h1:=q1c h1;obtain⟨hsz,h1⟩:=h1;have hsz:sz=q38 P e:=gE hsz;subst hsz;have hob:=h.obs k;rw[hk]at hob;have hl:∀b,b∈fp k->Lent (mkFr c w val fp) s b:=fun b hb=>⟨k,by rw[hk];rfl,hb⟩;refine qg9 h ho hd hd' hu ?_ h1;rw[qcc hv (by rw[hk];rfl)];cases deep with
    |true=>exact RO.rb hob fun b hb=>.inr (hl b hb)
    |false=>exact ShR.rb hob (fun b hb=>.inr (hl b hb)) (fun b hb=>.inl hb) (fun b hb=>.inl hb)
   ·rename_i deep sz cs hk;exact qmb h ho hd hd' hu hk hv h1
   ·exact qgd h ho hd hd' hv h1
  ·exact qgd h ho hd hd' hv h1
 ·cases hr
end
end Ev
end
section
namespace Ev
open Go
section
variable {P:Program}{A:q7t}{E:Env}{c:Ctx}{s:St}{a:Act}{w w1:World}{val:Key->Value}{fp:Key->List Nat}
variable {l:Log}{K:St->Log->R}{r:T×List T}
def VI(c:Ctx)(w:World)(val:Key->Value)(fp:Key->List Nat)(s:St)(b:Bool)(x:Nat):Prop:=inI c w fp x\/(b=true/\Lent (mkFr c w val fp) s x)
def VJ(c:Ctx)(w:World)(fp:Key->List Nat)(x:Nat):Prop:=inJ c w fp x\/∃k,x∈fp k
abbrev VB(c:Ctx)(w:World)(val:Key->Value)(fp:Key->List Nat)(s:St)(b:Bool)(x:T)(v:Value):Prop:=RB w (VI c w val fp s b) (VJ c w fp) x v
theorem VB.or{b b':Bool}{x:T}{v:Value}(h:VB c w val fp s b x v)(hb:b=true->b'=true):VB c w val fp s b' x v:=
 RB.move h (fun x hx=>⟨hx.imp id fun h=>⟨hb h.1,h.2⟩,rfl⟩) (fun x hx=>⟨hx,rfl⟩)
theorem VB.of{b:Bool}{x:T}{v:Value}(h:RB w (inI c w fp) (inJ c w fp) x v):VB c w val fp s b x v:=
 RB.move h (fun x hx=>⟨.inl hx,rfl⟩) (fun x hx=>⟨.inl hx,rfl⟩)
theorem qvo{f:Fr}{k:Key}{v:Value}(h:CR f s (.obj k) v){o:Ob}(ho:s.getO k=o)(hl:o.ref (v=f.val k)=(v=f.val k)):v=f.val k:=by
 have h1:=h.1;rw[ho,hl]at h1;exact h1
theorem qhi(h:Inv c s a w val fp){t:TypeId}{x:C}{v:Value}(hx:CR (mkFr c w val fp) s x v){f:T->Bool->Prog}(hr:runP E (qut P t x f) s l K=some r) :
 ∃y b l',runP E (f y b) s l' K=some r/\VB c w val fp s b y v:=by
 unfold qut at hr;split at hr
 ·rename_i y;exact⟨y,false,l,hr,VB.of hx⟩
 ·have hv:v=.slice none 0 0:=hx;subst hv;split at hr
  ·rename_i e he;rw[q1s]at hr;replace hr:=q1c hr;obtain⟨hs,hr⟩:=hr;exact⟨_,false,l,hr,RB.sl (fun _=>undef) (qag hs) (by simp) (gAI _) (fun h=>absurd rfl h) (by simp)⟩
  ·cases hr
 ·rename_i k;rw[q3s]at hr;split at hr
  ·rename_i deep sz cs hk;have hv:=q6a hx hk;have hob:=h.obs k;rw[hk]at hob;exact⟨_,false,_,hr,by rw[hv];exact VB.of hob.1⟩
  ·rename_i deep sz cs hk;have hv:v=val k:=qvo hx hk rfl;have hob:=h.obs k;rw[hk]at hob;have hob:ObR (mkFr c w val fp) s (.arr true deep sz cs) (val k) (fp k):=by cases deep <;> exact hob
   obtain⟨xs,Fg,fs,ho,hF⟩:=q9i.1 hob;refine⟨_,true,_,hr,?_⟩;rw[hv];exact ho.rb (fun b hb=>.inr ⟨rfl,k,by rw[hk];rfl,by show b∈fp k;rw[hF];exact hb⟩) (fun b hb=>.inl hb) (fun b hb=>.inl hb)
  ·cases hr
 ·rename_i y;have hx:RB w (fun b=>inI c w fp b\/Lent (mkFr c w val fp) s b) (fun b=>inJ c w fp b\/Lent (mkFr c w val fp) s b) y v:=hx;refine⟨y,true,l,hr,RB.move hx (fun b hb=>⟨hb.imp id fun h=>⟨rfl,h⟩,rfl⟩) (fun b hb=>⟨hb.imp id ?_,rfl⟩)⟩;rintro⟨k,_,hb⟩;exact⟨k,hb⟩
 ·cases hr
theorem qd2(h:Inv c s a w val fp):∀{ts:List TypeId}{cs:List C}{vs:List Value}{f:List T->Bool->Prog}{l:Log},CRs (mkFr c w val fp) s cs vs->runP E (qnk P ts cs f) s l K=some r->
 ∃ys b l',runP E (f ys b) s l' K=some r/\ys.length=vs.length/\∀(i:Nat)(y:T)(v:Value),ys[i]?=some y->vs[i]?=some v->VB c w val fp s b y v
 |[],[],vs,f,l,hx,hr=>by
  have:vs=[]:=gL (by simpa using hx.1.symm);subst this;exact⟨[],false,l,hr,rfl,by simp⟩
 |t::ts,x::cs,[],f,l,hx,hr=>by have:=hx.1;simp at this
 |t::ts,x::cs,v::vs,f,l,hx,hr=>by
  rw[qnk]at hr;obtain⟨y,b,l1,h1,hy⟩:=qhi h (hx.2 0 x v rfl rfl) hr;obtain⟨ys,b',l2,h2,hl,hys⟩:=qd2 h (vs:=vs) ⟨by simpa using hx.1,fun i c v hc hv=>hx.2 (i+1) c v (by simpa using hc) (by simpa using hv)⟩ h1;refine⟨y::ys,b||b',l2,h2,by simp[hl],fun i z u hz hu=>?_⟩;cases i with
  |zero=>simp at hz hu;subst hz;subst hu;exact hy.or (by simp;intro h;exact .inl h)
  |succ i=>exact(hys i z u (by simpa using hz) (by simpa using hu)).or (by simp;intro h;exact .inr h)
 |[],_::_,_,_,_,_,hr=>by cases hr
 |_::_,[],_,_,_,_,hr=>by cases hr
theorem qv4{I J:Nat->Prop}{cells:List T}{q n:Nat}{v:Value}(h:RB w I J (.rref cells q) v):RB w I J (.rref ((cells.drop q).take n) 0) v:=by
 generalize hx:T.rref cells q=x at h;cases h with
 |rref vs hJ hcell hc=>
  rename_i cells' q' b o;injection hx with e1 e2;subst e1;subst e2;refine RB.rref (q:=0) (o:=o+q) (fun i=>vs (q+i)) (fun hne=>hJ (fun e=>hne (by rw[e];simp))) (fun i hi=>?_) (fun i y hy=>?_)
  ·simp at hi;rw[Nat.add_assoc];exact hcell _ (by omega)
  ·rw[gT]at hy;split at hy
   ·rw[gV]at hy;exact hc _ _ hy
   ·cases hy
 |_=>cases hx
theorem qop(h:Inv c s a w val fp){t:TypeId}{x:V}{v:Value}(hx:VR (mkFr c w val fp) s x v){f:T->Bool->Prog}(hr:runP E (qx5 P t x f) s l K=some r) :
 ∃y b l',runP E (f y b) s l' K=some r/\ResV w (VI c w val fp s b) (VJ c w fp) false y v []:=by
 unfold qx5 at hr;split at hr
 ·rename_i k q;rw[q3s]at hr;split at hr
  ·rename_i cells hk;have hob:=h.obs k;rw[hk]at hob;obtain⟨b,cur,e,hu,hF,hh,hcs⟩:=hob;have hp:q8j (val k) q v:=q6y hx hk (.inl ⟨_,rfl⟩);rw[hu]at hp;have hv:v=.pointer (some ⟨b,0+q,none⟩):=hp;rw[gAJ]at hv;obtain⟨ys,b',l1,h1,hl,hys⟩:=qd2 h (hcs.cut q (q38 P (qbj P t))) hr;refine⟨_,b',l1,h1,?_⟩;rw[hv]
   have hget:∀i,i<ys.length->((cur.toList.drop q).take (q38 P (qbj P t)))[i]?=some (cur.getD (q+i) undef):=fun i hi=>by
    rw[hl]at hi;have h4:=hi;rw[gAF,gAA,Array.length_toList]at h4;rw[gT,if_pos (by omega),gV,Array.getElem?_toList];have:q+i<cur.size:=by omega
    simp[this]
   refine RB.notAgg (RB.rref (q:=0) (fun i=>cur.getD (q+i) undef) (fun _=>.inr ⟨k,by rw[hF];simp⟩) (fun i hi=>?_) (fun i y hy=>hys i y _ hy (hget i (gB.1 hy).1)));rw[q48 (w:=w) hh];have h4:=hi;rw[hl,gAF,gAA,Array.length_toList]at h4;have:q+i<cur.size:=by omega
   simp[this]
  ·cases hr
 ·rename_i cells q;refine⟨_,false,l,hr,?_⟩;have hx:RB w (inI c w fp) (inJ c w fp) (.rref cells q) v:=hx;exact RB.notAgg (VB.of (qv4 hx))
 ·rename_i x _ _;obtain⟨y,b,l1,h1,hy⟩:=qhi h hx hr;exact⟨y,b,l1,h1,RB.notAgg hy⟩
 ·obtain⟨vs,rfl,hcs⟩:=hx;obtain⟨ys,b,l1,h1,hl,hys⟩:=qd2 h hcs hr;refine⟨_,b,l1,h1,vs,fun _=>[],rfl,by simpa using hl,ND.nil _,by simp[flat],fun i y u hy hu=>⟨hys i y u hy (by simpa using hu),rfl⟩⟩
 ·cases hr
theorem ResV.vor{b b':Bool}{x:T}{v:Value}(h:ResV w (VI c w val fp s b) (VJ c w fp) false x v [])(hb:b=true->b'=true):ResV w (VI c w val fp s b') (VJ c w fp) false x v []:=by
 unfold ResV at *;cases x with
 |agg xs=>
  obtain⟨vs,fs,h1,h2,h3,h4,h5⟩:=h;exact⟨vs,fs,h1,h2,h3,h4,fun i y u hy hu=>⟨VB.or (h5 i y u hy hu).1 hb,(h5 i y u hy hu).2⟩⟩
 |tup _=>exact h
 |int _ _=>exact⟨VB.or h.1 hb,rfl⟩
 |bool _=>exact⟨VB.or h.1 hb,rfl⟩
 |str _=>exact⟨VB.or h.1 hb,rfl⟩
 |sl _ _=>exact⟨VB.or h.1 hb,rfl⟩
 |rref _ _=>exact⟨VB.or h.1 hb,rfl⟩
 |clo _ _=>exact⟨VB.or h.1 hb,rfl⟩
 |hole=>exact⟨VB.or h.1 hb,rfl⟩
 |mp _=>exact⟨VB.or h.1 hb,rfl⟩
 |bx _=>obtain⟨_,_,_,_,hF,_⟩:=h;cases hF
theorem qe5(h:Inv c s a w val fp):∀{ts:List TypeId}{vs:List V}{us:List Value}{f:List T->Bool->Prog}{l:Log},vs.length=us.length->
 (∀(j:Nat)(v:V)(u:Value),vs[j]?=some v->us[j]?=some u->VR (mkFr c w val fp) s v u)->runP E (qgz P ts vs f) s l K=some r->
 ∃ys b l',runP E (f ys b) s l' K=some r/\ys.length=vs.length/\∀(j:Nat)(y:T)(u:Value),ys[j]?=some y->us[j]?=some u->ResV w (VI c w val fp s b) (VJ c w fp) false y u []
 |[],[],us,f,l,hl,hv,hr=>⟨[],false,l,hr,rfl,by simp⟩
 |t::ts,v::vs,[],f,l,hl,hv,hr=>by simp at hl
 |t::ts,v::vs,u::us,f,l,hl,hv,hr=>by
  have hv':∀(j:Nat)(v:V)(u:Value),vs[j]?=some v->us[j]?=some u->VR (mkFr c w val fp) s v u:=fun j v' u' h1 h2=>hv (j+1) v' u' (by simpa using h1) (by simpa using h2);rw[qgz]at hr;obtain⟨y0,b0,l0,h0,hy0⟩:=qop h (hv 0 v u rfl rfl) hr;obtain⟨ys,b,l1,h1,hl1,hys⟩:=qe5 h (us:=us) (by simpa using hl) hv' h0;refine⟨y0::ys,b0||b,l1,h1,by simp[hl1],fun j y u' hy hu=>?_⟩;cases j with
  |zero=>simp at hy hu;subst hy;subst hu;exact hy0.vor (by simp;intro h;exact .inl h)
  |succ j=>exact(hys j y u' (by simpa using hy) (by simpa using hu)).vor (by simp;intro h;exact .inr h)
 |[],_::_,_,_,_,_,_,hr=>by cases hr
 |_::_,[],_,_,_,_,_,hr=>by cases hr
theorem qrm{b:Bool}{t:TypeId}{x:T}{f:C->Prog}(hr:runP E (qrd P b t x f) s l K=some r):x.cell=true:=by
 unfold qrd at hr;split at hr
 ·rw[q6f]at hr;split at hr
  ·rfl
  ·cases hr
 ·obtain⟨_,_,_,h⟩:=q9p hr;exact h
theorem qkb{I J I' J':Nat->Prop}{sz:Nat}{cs:List T}{v:Value}(h:RB w I J (.sl sz cs) v)(hs:cs.all T.scalar=true)(hI:∀b,I b->I' b):RB w I' J' (.sl sz cs) v:=by
 cases h with
 |sl vs hsz hlen hcap ha hc=>
  refine .sl vs hsz hlen hcap (fun hne=>?_) fun i x hx=>qbo (hc i x hx) (gAL.1 hs x (List.mem_of_getElem? hx));obtain⟨b,o,e,hb,hcell⟩:=ha hne;exact⟨b,o,e,hI b hb,hcell⟩
structure Behind(w1:World)(I1:Nat->Prop)(b:Bool)(fr:Fr)(s:St):Prop where
 w:fr.w=w1
 plain:b=false->∀x,I1 x->fr.I x
 lent:∀x,I1 x->fr.I x\/Lent fr s x
variable {I1 J1:Nat->Prop}{b:Bool}
theorem qio{t:TypeId}{x:T}{v:Value}(hx:x.cell=true->RB w1 I1 J1 x v){f:C->Prog}(hr:runP E (qrd P b t x f) s l K=some r) :
 ∃y l',runP E (f y) s l' K=some r/\∀fr,Behind w1 I1 b fr s->CR fr s y v:=by
 unfold qrd at hr;split at hr
 ·rename_i e he;rw[q6f]at hr;split at hr
  ·rename_i sz cs;replace hr:=q1c hr;obtain⟨hsz,hr⟩:=hr;rw[q1s]at hr;replace hr:=q1c hr;obtain⟨hs,hr⟩:=hr;have hsz:sz=q38 P e:=gE hsz;subst hsz;refine⟨_,_,hr,fun fr hf=>?_⟩;have hx:=hx rfl;cases hb:b with
   |true=>
    show RB fr.w _ _ _ v;rw[hf.w];exact qkb hx hs hf.lent
   |false=>
    show RB fr.w _ _ _ v;rw[hf.w];exact qkb hx hs (hf.plain hb)
  ·cases hr
 ·obtain⟨l1,h1,_,hc⟩:=q9p hr;rw[q1s]at h1;replace h1:=q1c h1;obtain⟨hs,h1⟩:=h1;refine⟨_,_,h1,fun fr hf=>?_⟩;show RB fr.w _ _ x v;rw[hf.w];exact qbo (hx hc) hs
theorem qg8:∀{ts:List TypeId}{xs:List T}{vs:List Value}{l:Log}{f:List C->Prog},xs.length=vs.length->(∀(i:Nat)(y:T)(u:Value),xs[i]?=some y->vs[i]?=some u->RB w1 I1 J1 y u)->
 runP E (qnu P b ts xs f) s l K=some r->∃ys l',runP E (f ys) s l' K=some r/\∀fr,Behind w1 I1 b fr s->CRs fr s ys vs
 |[],xs,vs,l,f,hl,hx,hr=>by
  rw[qnu,q7v]at hr;split at hr
  ·have:vs=[]:=gL (by simpa using hl.symm);subst this;exact⟨[],l,hr,fun _ _=>⟨rfl,by simp⟩⟩
  ·cases hr
 |t::ts,xs,vs,l,f,hl,hx,hr=>by
  rw[qnu,q96]at hr;split at hr
  ·rename_i x xs;cases vs with
   |nil=>simp at hl
   |cons v vs=>
    obtain⟨y,l1,h1,hc1⟩:=qio (fun _=>hx 0 x v rfl rfl) hr;obtain⟨ys,l2,h2,hc2⟩:=qg8 (xs:=xs) (vs:=vs) (by simpa using hl) (fun i y u hy hu=>hx (i+1) y u (by simpa using hy) (by simpa using hu)) h1;refine⟨_::ys,l2,h2,fun fr hf=>⟨by have:=(hc2 fr hf).1;simp[this],fun i c u hc hu=>?_⟩⟩;cases i with
    |zero=>simp at hc hu;subst hc;subst hu;exact hc1 fr hf
    |succ i=>exact(hc2 fr hf).2 i c u (by simpa using hc) (by simpa using hu)
  ·cases hr
theorem qj4{t:TypeId}{x:T}{v:Value}{F:List Nat}(hx:ResV w1 I1 J1 false x v F){f:V->Prog}(hr:runP E (qsl P b t x f) s l K=some r) :
 ∃y l',runP E (f y) s l' K=some r/\((q86 P t=true/\∃cs,y=.agg cs/\∃vs:Array Value,v=.agg vs/\∀fr,Behind w1 I1 b fr s->CRs fr s cs vs.toList)\/
  (q86 P t=false/\∃c,y=.one c/\∀fr,Behind w1 I1 b fr s->CR fr s c v)):=by
 unfold qsl at hr;cases ha:q86 P t with
 |true=>
  rw[ha,cond_true,qat]at hr;split at hr
  ·rename_i xs;obtain⟨vs,fs,rfl,hl,hnd,rfl,hel⟩:=hx;obtain⟨cs,l',h1,h2⟩:=qg8 (vs:=vs.toList) (by simpa using hl) (fun i y u hy hu=>(hel i y u hy (by simpa using hu)).1) hr;exact⟨_,l',h1,.inl ⟨rfl,cs,rfl,vs,rfl,h2⟩⟩
  ·cases hr
 |false=>
  rw[ha,cond_false]at hr;obtain⟨c,l',h1,h2⟩:=qio (fun hc=>(hx.cell hc).1) hr;exact⟨_,l',h1,.inr ⟨rfl,c,rfl,h2⟩⟩
theorem qgg:∀{ts:List TypeId}{xs:List T}{vs:List Value}{fs:Nat->List Nat}{l:Log}{f:List (Bool×List C)->Prog},xs.length=vs.length->
 (∀(i:Nat)(y:T)(u:Value),xs[i]?=some y->vs[i]?=some u->ResV w1 I1 J1 false y u (fs i))->runP E (qmo P b ts xs f) s l K=some r->
 ∃ps l',runP E (f ps) s l' K=some r/\ps.length=vs.length/\∀fr,Behind w1 I1 b fr s->
  ∀(i:Nat)(p:Bool×List C)(u:Value),ps[i]?=some p->vs[i]?=some u->(p.1=true/\(∃vs:Array Value,u=.agg vs/\CRs fr s p.2 vs.toList))\/(p.1=false/\∃c,p.2=[c]/\CR fr s c u)
 |[],xs,vs,fs,l,f,hl,hx,hr=>by
  rw[qmo,q7v]at hr;split at hr
  ·have:vs=[]:=gL (by simpa using hl.symm);subst this;exact⟨[],l,hr,rfl,fun _ _=>by simp⟩
  ·cases hr
 |t::ts,xs,vs,fs,l,f,hl,hx,hr=>by
  rw[qmo,q96]at hr;split at hr
  ·rename_i x xs;cases vs with
   |nil=>simp at hl
   |cons v vs=>
    obtain⟨y,l1,h1,hc1⟩:=qj4 (hx 0 x v rfl rfl) hr;obtain⟨ps,l2,h2,hpl,hc2⟩:=qgg (xs:=xs) (vs:=vs) (fs:=fun i=>fs (i+1)) (by simpa using hl) (fun i y u hy hu=>hx (i+1) y u (by simpa using hy) (by simpa using hu)) h1;refine⟨_::ps,l2,h2,by simp[hpl],fun fr hf i p u hp hu=>?_⟩;cases i with
    |zero=>
     simp at hp hu;subst hp;subst hu;rcases hc1 with⟨ha,cs,rfl,us,rfl,hc1⟩|⟨ha,c,rfl,hc1⟩
     ·exact .inl ⟨ha,us,rfl,hc1 fr hf⟩
     ·exact .inr ⟨ha,c,rfl,hc1 fr hf⟩
    |succ i=>exact hc2 fr hf i p u (by simpa using hp) (by simpa using hu)
  ·cases hr
theorem qpm{t:TypeId}{x:T}{v:Value}{F:List Nat}(hx:ResT w1 I1 J1 false x v F){f:V->Prog}(hr:runP E (qww P b t x f) s l K=some r) :
 ∃y l',runP E (f y) s l' K=some r/\∀fr,Behind w1 I1 b fr s->VR fr s y v:=by
 unfold qww at hr;split at hr
 ·rename_i ts hts;rw[qnv]at hr;split at hr
  ·rename_i ps;obtain⟨us,fs,rfl,hl,hnd,rfl,hel⟩:=hx;obtain⟨qs,l',h1,h3,h4⟩:=qgg (vs:=us.toList) (by simpa using hl) (fun i y u hy hu=>hel i y u hy (by simpa using hu)) hr;exact⟨_,l',h1,fun fr hf=>⟨us,rfl,by simpa using h3,fun i p u hp hu=>h4 fr hf i p u hp (by simpa using hu)⟩⟩
  ·cases hr
 ·have hx':ResV w1 I1 J1 false x v F:=by
   cases x with
   |tup ps=>
    exfalso;unfold qsl at hr;cases ha:q86 P t with
    |true=>rw[ha,cond_true,qat]at hr;cases hr
    |false=>rw[ha,cond_false]at hr;have:=qrm hr;simp[T.cell]at this
   |_=>exact hx
  obtain⟨y,l1,h1,h2⟩:=qj4 hx' hr;refine⟨y,l1,h1,fun fr hf=>?_⟩;rcases h2 with⟨_,cs,rfl,vs,rfl,h2⟩|⟨_,c,rfl,h2⟩
  ·exact⟨vs,rfl,h2 fr hf⟩
  ·exact h2 fr hf
theorem qoi(h:Inv c s a w val fp)(hE:∀g args r,E g args=some r->Meets P (A g) g args r){o:Oper}{d:Nat}(hd':o.dst=some d)(hd:d<a.tmps.size){g:FuncId}{tys:List TypeId}
 {vs:List V} {us:Array Value} (hl:vs.length=us.size) (hvs:∀(i:Nat)(v:V)(u:Value),vs[i]?=some v->us[i]?=some u->VR (mkFr c w val fp) s v u)
 (hr:runP E (qv0 P A o g tys vs) s l K=some r):Does P g us w fun v w'=>Post c w K r (a.put o.dst v) w':=by
 unfold qv0 at hr;rw[hd']at hr;simp only at hr;rw[q1s]at hr;replace hr:=q1c hr;obtain⟨hat,hr⟩:=hr;rw[gC,Option.isNone_iff_eq_none]at hat
 obtain⟨hturn,hown⟩:=hat
 have hown:(A g).own=false:=by simpa using hown
 obtain⟨xs,b,l1,h1,hxl,hxs⟩:=qe5 h (us:=us.toList) (by simpa using hl) (fun j v u h1 h2=>hvs j v u h1 (by simpa using h2)) hr;rw[qet,gAE]at h1;obtain⟨⟨x,outs⟩,hcall,h1⟩:=h1;have hmeets:=hE _ _ _ hcall;have hlentlt:∀x,Lent (mkFr c w val fp) s x->x<w.heap.size:=by rintro x ⟨k,_,hx⟩;exact h.lt hx
 have hpre:Pre (A g) xs w (VI c w val fp s b) (VJ c w fp) us []:=by
  refine⟨fun x hx=>?_,by rw[hxl,hl],fun i y u _ _ hy hu=>hxs i y u hy (by simpa using hu),fun i hi=>(by rw[hturn]at hi;cases hi),fun _=>rfl,by simp,fun x hx=>?_⟩
  ·rcases hx with hx|⟨_,k,_,hx⟩
   ·exact .inl ⟨hx.1.imp (h.ij x) id,hx.2⟩
   ·exact .inr ⟨k,hx⟩
  ·rcases hx with hx|⟨k,hx⟩
   ·exact hx.2.1
   ·exact h.lt hx
 refine(hmeets w _ _ _ _ hpre).mono fun v w1 ⟨Fr,Fo,hdone⟩=>?_
 have hout:outs=[]/\Fo=[]:=by
  rcases hdone.out with⟨_,ho1,ho2⟩|⟨i,y,u,hi,_⟩|⟨_,ho1,ho2⟩
  ·exact⟨ho1,ho2⟩
  ·rw[hturn]at hi;cases hi
  ·exact⟨ho1,ho2⟩
 obtain⟨ho1,ho2⟩:=hout;subst ho1;rw[q7v]at h1;simp only at h1;have hres:=hdone.res;rw[hown]at hres;obtain⟨y,l2,h2,hv⟩:=qpm hres h1;rw[q4r,q49]at h2;have hkp:=hdone.kp
 obtain⟨q1,q2,q3⟩:=h.changes (s':=s) (w':=w1) (val':=val) (fp':=fp) (fun _=>False) (fun _=>rfl) (fun _ _=>⟨rfl,rfl,rfl⟩) (fun _ h=>h.elim) (fun _ h=>h.elim) (fun _ _ h=>h.elim) (fun _ _ h=>h.elim)
  (fun b hb _=>hkp.block b hb (by simp)) hkp.size hkp.os hkp.tape hkp.output (fun _ _ h=>h.elim)
 rw[hd'];refine⟨_,_,val,fp,h2,q1.setT hd (hv _ ⟨rfl,fun hb x hx=>?_,fun x hx=>?_⟩),rfl,q3⟩
 ·obtain⟨hx,hlt,_,_⟩:=hx;rcases hx with hx|hx|hx
  ·rcases hx with hx|⟨hb',_⟩
   ·exact(q2.hI x hx).1
   ·rw[hb]at hb';cases hb'
  ·simp at hx
  ·exact⟨.inr (.inl (Nat.le_trans h.size hx)),hlt,fun k hk=>absurd (h.lt hk) (by omega)⟩
 ·obtain⟨hx,hlt,_,_⟩:=hx;rcases hx with hx|hx|hx
  ·rcases hx with hx|⟨_,hx⟩
   ·exact .inl (q2.hI x hx).1
   ·exact .inr hx
  ·simp at hx
  ·exact .inl ⟨.inr (.inl (Nat.le_trans h.size hx)),hlt,fun k hk=>absurd (h.lt hk) (by omega)⟩
end
end Ev
end
section
namespace Ev
open Go Go.RowKit Go.Lib
structure Pair2(P:Program)(k:TypeId):Prop where
 ie:∃e,P.underlying k=some (.array 2 e)/\P.underlying e=some (.int .i64)/\(∀w,(Go.isAgg e).run P w=.ok false w)/\∀w,(Go.sizeOf e).run P w=.ok 1 w
abbrev qcb(a b:Int):Value:=.agg #[.int .i64 a,.int .i64 b]
section
variable {P:Program}{k:TypeId}(K:Pair2 P k)
include K
theorem qxi(a b c d:Int)(w:World):(Op.equal k (qcb a b) (qcb c d)).run P w=.ok (a==c&&b==d) w:=by
 obtain⟨e,hk,u3,a3,z3⟩:=K.ie;have u3:=run_underlying u3;show(Op.equalIn 10000 k (qcb a b) (qcb c d)).run P w=_;rw[show(10000:Nat)=9999+1 from rfl,Op.equalIn];simp only[Sem.run_bind,run_underlying hk,Result.andThen_ok];simp only[Std.Legacy.Range.forIn_eq_forIn_range',Std.Legacy.Range.size,Nat.sub_zero,Nat.add_sub_cancel,Nat.div_one,List.range'_succ,List.range'_zero,List.forIn_cons,List.forIn_nil];have q:∀x y:Int,∀w,(Op.equalIn 9999 e (.int .i64 x) (.int .i64 y)).run P w=.ok (x==y) w:=fun x y w=>run_equalIn_int w 9998 e .i64 .i64 x y (by obtain⟨e',hk',u',_,_⟩:=K.ie;rw[hk]at hk';cases hk';exact u')
 go_simp
 by_cases h1:a=c <;> by_cases h2:b=d <;> simp[h1,h2]
theorem qdn(em:Bool)(a b:Int)(w:World):(Instr.checkKey em 10000 k (qcb a b)).run P w=.ok () w:=by
 obtain⟨e,hk,u3,a3,z3⟩:=K.ie;have u3':=run_underlying u3;rw[show(10000:Nat)=9999+1 from rfl,Instr.checkKey];simp only[Sem.run_bind,run_underlying hk,Result.andThen_ok];simp only[Std.Legacy.Range.forIn_eq_forIn_range',Std.Legacy.Range.size,Nat.sub_zero,Nat.add_sub_cancel,Nat.div_one,List.range'_succ,List.range'_zero,List.forIn_cons,List.forIn_nil]
 have q:∀x:Int,∀w,(Instr.checkKey em 9999 e (.int .i64 x)).run P w=.ok () w:=fun x w=>by
  rw[show(9999:Nat)=9998+1 from rfl,Instr.checkKey];simp only[Sem.run_bind,u3',Result.andThen_ok];rfl
 go_simp
end
theorem qrh{P:Program}(a b:Int)(w:World):(Instr.keyThatStays (qcb a b) (qcb a b)).run P w=.ok (qcb a b) w:=by
 unfold Instr.keyThatStays;have:Instr.sameBits 10000 (qcb a b) (qcb a b)=true:=by simp[Instr.sameBits]
 rw[if_pos this];rfl
def MpL(es:List MapEntry)(l:List (Int×Int×Bool)):Prop:=es.map (fun e=>(e.key,e.val))=l.map fun q=>(qcb q.1 q.2.1,Value.bool q.2.2)
section
variable {P:Program}{k:TypeId}(K:Pair2 P k)
include K
theorem qhl(a b:Int)(w:World):∀(es:List MapEntry)(l:List (Int×Int×Bool))(i:Nat),MpL es l->
 (Instr.findAsking k (qcb a b) es i).run P w=.ok ((mpAt l a b i).map fun q=>(q.1,Value.bool q.2)) w
 |[],l,i,h=>by
  cases l with
  |nil=>rfl
  |cons q r=>simp[MpL]at h
 |e::es,l,i,h=>by
  cases l with
  |nil=>simp[MpL]at h
  |cons q r=>
   obtain⟨x,y,v⟩:=q;simp only[MpL,List.map_cons,List.cons.injEq,Prod.mk.injEq]at h;obtain⟨⟨h1,h2⟩,h3⟩:=h;rw[Instr.findAsking,h1];simp only[Sem.run_bind,qxi K,Result.andThen_ok,mpAt];cases hc:(a==x&&b==y)with
   |true=>simp only[cond_true,h2];rfl
   |false=>simp only[cond_false];exact qhl a b w es r (i+1) h3
theorem qfg(a b:Int)(w:World)(es:List MapEntry)(l:List (Int×Int×Bool))(h:MpL es l) :
 (Instr.findKey k (qcb a b) es).run P w=.ok ((mpAt l a b 0).map fun q=>(q.1,Value.bool q.2)) w:=by
 obtain⟨e,hk,_⟩:=K.ie;unfold Instr.findKey;simp only[Sem.run_bind,run_underlying hk,Result.andThen_ok];cases es with
 |nil=>
  cases l with
  |nil=>rfl
  |cons q r=>simp[MpL]at h
 |cons e0 es=>exact qhl K a b w (e0::es) l 0 h
theorem qpa{t el:TypeId}{g clock:Nat}{es:Array MapEntry}{l:List (Int×Int×Bool)}{w:World}(ht:P.underlying t=some (.map k el))(hz:(zeroValue el).run P w=.ok (.bool false) w)(hg:w.heap[g]?=some (.map es clock))(h:MpL es.toList l)(a b:Int) :
 (Instr.lookup t (.map (some g)) (qcb a b) true).run P w=.ok (.tuple #[.bool ((qa7 l a b).getD false),.bool (qa7 l a b).isSome]) w:=by
 unfold qa7;cases hf:mpAt l a b 0 with
 |none=>simp[Instr.lookup,run_underlying ht,MapKept.run_getObj_map hg,qdn K,qfg K a b w es.toList l h,hf,hz,Result.andThen]
 |some q=>simp[Instr.lookup,run_underlying ht,MapKept.run_getObj_map hg,qdn K,qfg K a b w es.toList l h,hf,Result.andThen]
end
theorem qnr:∀{l:List (Int×Int×Bool)}{a b:Int}{i j:Nat}{v:Bool},mpAt l a b i=some (j,v)->∃n,j=i+n/\l[n]?=some (a,b,v)/\∀u,qez l a b u=l.set n (a,b,u)
 |[],a,b,i,j,v,h=>by cases h
 |(x,y,u)::r,a,b,i,j,v,h=>by
  rw[mpAt]at h;cases hc:(a==x&&b==y)with
  |true=>
   rw[hc,cond_true]at h;cases h;simp only[gC,beq_iff_eq]at hc;obtain⟨rfl,rfl⟩:=hc;exact⟨0,rfl,rfl,fun u=>by simp[qez]⟩
  |false=>
   rw[hc,cond_false]at h;obtain⟨n,e,h1,h2⟩:=qnr h;exact⟨n+1,by omega,by simpa using h1,fun u=>by rw[qez,hc,cond_false,h2];rfl⟩
theorem qo4:∀{l:List (Int×Int×Bool)}{a b:Int}{i:Nat},mpAt l a b i=none->∀u,qez l a b u=l++[(a,b,u)]
 |[],a,b,i,h,u=>rfl
 |(x,y,v)::r,a,b,i,h,u=>by
  rw[mpAt]at h;cases hc:(a==x&&b==y)with
  |true=>rw[hc,cond_true]at h;cases h
  |false=>
   rw[hc,cond_false]at h;rw[qez,hc,cond_false,qo4 h];rfl
section
variable {P:Program}{k:TypeId}(K:Pair2 P k)
include K
theorem qq2{t el:TypeId}{g clock:Nat}{es:Array MapEntry}{l:List (Int×Int×Bool)}{w:World}(ht:P.underlying t=some (.map k el))(hg:w.heap[g]?=some (.map es clock))(h:MpL es.toList l)(a b:Int)(v:Bool) :
 ∃es' clock',(Instr.mapUpdate t (.map (some g)) (qcb a b) (.bool v)).run P w=.ok () { w with heap:=w.heap.setIfInBounds g (.map es' clock') }/\MpL es'.toList (qez l a b v):=by
 cases hf:mpAt l a b 0 with
 |none=>
  refine⟨es.push ⟨qcb a b,.bool v,clock⟩,clock+1,?_,?_⟩
  ·simp[Instr.mapUpdate,run_underlying ht,MapKept.run_getObj_map hg,qdn K,qfg K a b w es.toList l h,hf,MapKept.run_setObj_map _ hg,Result.andThen]
  ·rw[qo4 hf];unfold MpL at *;rw[Array.toList_push,List.map_append,h,List.map_append];rfl
 |some q=>
  obtain⟨j,u⟩:=q;obtain⟨n,e,h1,h2⟩:=qnr hf;have e:j=n:=by omega
  subst e;have hn:j<l.length:=(gB.1 h1).1;have hlen:es.toList.length=l.length:=by simpa using congrArg List.length h
  have hj:j<es.size:=by simp at hlen;omega
  have hkey:es[j].key=qcb a b:=by
   have:=congrArg (fun l=>l[j]?) h;simp only[gAC,h1,Option.map_some]at this;rw[Array.getElem?_toList,gAQ hj]at this;simp only[Option.map_some,Option.some.injEq,Prod.mk.injEq]at this;exact this.1
  have hej:es[j]?=some es[j]:=gAQ hj;refine⟨es.modify j (fun e'=>{ e' with key:=qcb a b,val:=.bool v }),clock,?_,?_⟩
  ·simp[Instr.mapUpdate,run_underlying ht,MapKept.run_getObj_map hg,qdn K,qfg K a b w es.toList l h,hf,hej,hkey,qrh,MapKept.run_setObj_map _ hg,Result.andThen]
  ·rw[h2];unfold MpL at *;refine List.ext_getElem? fun i=>?_;have hi:=congrArg (fun l=>l[i]?) h;simp only[gAC,Array.getElem?_toList]at hi ⊢;rw[Array.getElem?_modify,List.getElem?_set];by_cases hij:j=i
   ·subst hij;simp only[hej,hn,if_true,Option.map_some]
   ·simp only[hij,if_false];exact hi
end
section
variable {P:Program}{A:q7t}{E:Env}{c:Ctx}{s:St}{a:Act}{w:World}{val:Key->Value}{fp:Key->List Nat}
variable {l:Log}{K:St->Log->R}{r:T×List T}
theorem qo0{t:TypeId}(h:mapT P t=true):∃k e,P.underlying t=some (.map k e)/\Pair2 P k/\∀w,(zeroValue e).run P w=.ok (.bool false) w:=by
 unfold mapT at h;split at h
 ·rename_i k e ht;rw[gC]at h;obtain⟨h1,h2⟩:=h;refine⟨k,e,ht,?_,fun w=>?_⟩
  ·unfold qyl at h1;split at h1
   ·rename_i n ie hk;rw[gC,gC]at h1;obtain⟨⟨q1,q2⟩,q3⟩:=h1;obtain rfl:n=2:=gE q1;split at q2
    ·rename_i hie;split at q3
     ·rename_i i hi;have hs:i.size=1:=gE q3;refine⟨ie,hk,hie,fun w=>?_,fun w=>?_⟩
      ·have:=qjd hie w;unfold q86 at this;rw[hie]at this;exact this
      ·simp[Go.sizeOf,typeInfo,run_program,hi,hs]
     ·cases q3
    ·cases q2
   ·cases h1
  ·split at h2
   ·rename_i i hi;split at h2
    ·rename_i hz;simp[zeroValue,typeInfo,run_program,hi,hz]
    ·cases h2
   ·cases h2
 ·cases h
theorem qhm(h:Inv c s a w val fp){m:V}{v:Value}(hm:VR (mkFr c w val fp) s m v){f:Key->List (Int×Int×Bool)->Prog}(hr:runP E (qvc m f) s l K=some r) :
 ∃k l0 l' g es clock,runP E (f k l0) s l' K=some r/\s.getO k=.mp l0/\v=.map (some g)/\val k=v/\fp k=[g]/\w.heap[g]?=some (.map es clock)/\MpR es l0:=by
 unfold qvc at hr;split at hr
 ·rename_i k;rw[q3s]at hr;split at hr
  ·rename_i l0 hk
   have hv:v=val k:=by
    have h1:=(show CR _ _ (.obj k) v from hm).1;rw[hk]at h1;exact h1
   have hob:=h.obs k;rw[hk]at hob;have hob:RO w (.mp l0) (val k) (fp k):=hob;generalize hx:T.mp l0=x at hob;generalize hv2:val k=u at hob;generalize hF:fp k=F at hob;cases hob with
   |mp hg hl=>
    cases hx;exact⟨k,_,_,_,_,_,hr,hk,hv.trans hv2,hv.symm▸hv2▸rfl,hF,hg,hl⟩
   |_=>cases hx
  ·cases hr
 ·cases hr
theorem qmm{k:IntKind}{x:T}{f:Int->Prog}(hr:runP E (.asInt k x f) s l K=some r):∃n,x=.int k n/\runP E (f n) s l K=some r:=by
 rw[qdc]at hr;split at hr
 ·rename_i k' n;replace hr:=q1c hr;obtain⟨h1,hr⟩:=hr;have h1:k'=k:=gAH h1;subst h1;exact⟨n,rfl,hr⟩
 ·cases hr
theorem qrq{x:T}{f:Bool->Prog}(hr:runP E (.asBool x f) s l K=some r):∃b,x=.bool b/\runP E (f b) s l K=some r:=by
 rw[qkk]at hr;split at hr
 ·exact⟨_,rfl,hr⟩
 ·cases hr
theorem qgj{m:V}{v:Value}(hm:VR (mkFr c w val fp) s m v){f:Int->Int->Prog}(hr:runP E (qq6 m f) s l K=some r) :
 ∃x y,runP E (f x y) s l K=some r/\v=qcb x y:=by
 unfold qq6 at hr;split at hr
 ·rename_i x y;obtain⟨n,rfl,hr1⟩:=qmm hr;obtain⟨n',rfl,hr2⟩:=qmm hr1;refine⟨n,n',hr2,?_⟩;obtain⟨vs,rfl,hl,hc⟩:=hm;have hl:vs.size=2:=by simpa using hl.symm
  have h0:vs[0]?=some (Value.int .i64 n):=by
   have hi:0<vs.size:=by omega
   have:=hc 0 _ vs[0] rfl (by simp[hi]);rw[gAQ hi,RB.int_inv this]
  have h1:vs[1]?=some (Value.int .i64 n'):=by
   have hi:1<vs.size:=by omega
   have:=hc 1 _ vs[1] rfl (by simp[hi]);rw[gAQ hi,RB.int_inv this]
  show Value.agg vs=.agg _;congr 1;apply Array.ext
  ·simpa using hl
  ·intro i hi hi';have:i=0\/i=1:=by omega
   rcases this with rfl|rfl
   ·have:=(Array.getElem?_eq_some_iff.1 h0).2;simpa using this
   ·have:=(Array.getElem?_eq_some_iff.1 h1).2;simpa using this
 ·cases hr
theorem qs3(h:Inv c s a w val fp){o:Oper}{t:TypeId}(ho:o.op=.makeMap t none)(hd:∀d,o.dst=some d->d<a.tmps.size)
 {Q:Exit->Act->World->Prop} (hr:runP E (opP P A o) s l K=some r):o.wp P a w (Post c w K r) Q:=by
 unfold opP at hr;simp only[ho]at hr;split at hr
 ·rename_i d hd';rw[q1s]at hr;replace hr:=q1c hr;obtain⟨hok,hr⟩:=hr;obtain⟨hfree,l1,h1⟩:=q6h hr;rw[q4r,q49]at h1
  obtain⟨r1,r2,r3⟩:=h.change1 (w':=w.alloc (.map #[] 0)) (q81 d 0) (.mp []) (.map (some w.heap.size)) [w.heap.size] (by rw[hfree];trivial) (by rw[hfree];rfl) (fun b hb=>by rw[gD.1 hb];exact .inr (gAI _))
   (fun b hb _=>heap_alloc_old w _ hb) (by simp) rfl rfl rfl (fun _=>RO.mp (es := #[]) (clock:=0) (heap_alloc_new w _) rfl)
  refine q3h (v:=.map (some w.heap.size)) (w':=w.alloc (.map #[] 0)) (by simp[execOp,ho,run_makeMap]) ?_;rw[hd'];refine⟨_,_,_,_,h1,r1.setT (hd d hd') (VR_c ?_),rfl,r3⟩;refine⟨?_,rfl⟩;rw[q2y,if_pos rfl];show _=upd _ _ _ _;simp
 ·cases hr
theorem qt5(h:Inv c s a w val fp){o:Oper}{t:TypeId}{x i:Operand}(ho:o.op=.lookup t x i true)(hd:∀d,o.dst=some d->d<a.tmps.size)
 {Q:Exit->Act->World->Prop} (hr:runP E (opP P A o) s l K=some r):o.wp P a w (Post c w K r) Q:=by
 unfold opP at hr;simp only[ho]at hr;split at hr
 ·rename_i d hd';rw[q1s]at hr;replace hr:=q1c hr;obtain⟨hok,hr⟩:=hr;obtain⟨kt,e,ht,hK,hz⟩:=qo0 hok;obtain⟨vm,l1,h1,hm⟩:=q2x h hr;obtain⟨vk,l2,h2,hk⟩:=q2x h h1;unfold qsn at h2;obtain⟨k,l0,l3,g,es,clock,h3,hk0,hv,_,_,hg,hl⟩:=qhm h hm h2;obtain⟨p,q,h4,hkey⟩:=qgj hk h3;rw[q4r,q49]at h4;have hrun:=qpa hK ht (hz w) hg hl p q;refine q3h (v:=.tuple #[.bool ((qa7 l0 p q).getD false),.bool (qa7 l0 p q).isSome]) (w':=w) (by simp only[execOp,ho,hv,hkey,Sem.run_bind,hrun,Result.andThen_ok,Sem.run_pure]) ?_;rw[hd'];refine q36 (o:={ o with dst:=some d }) h (hd d hd') ?_ h4;refine⟨_,rfl,rfl,fun i p u hp hu=>?_⟩
  match i with
  |0=>simp at hp hu;subst hp;subst hu;exact .inr ⟨rfl,_,rfl,RB.bool _⟩
  |1=>simp at hp hu;subst hp;subst hu;exact .inr ⟨rfl,_,rfl,RB.bool _⟩
  |n+2=>simp at hp
 ·cases hr
theorem qms(h:Inv c s a w val fp){o:Oper}{t:TypeId}{x i y:Operand}(ho:o.op=.mapUpdate t x i y)
 {Q:Exit->Act->World->Prop} (hr:runP E (opP P A o) s l K=some r):o.wp P a w (Post c w K r) Q:=by
 unfold opP at hr;simp only[ho]at hr;split at hr
 ·rename_i hn;rw[q1s]at hr;replace hr:=q1c hr;obtain⟨hok,hr⟩:=hr;obtain⟨kt,e,ht,hK,_⟩:=qo0 hok;obtain⟨vm,l1,h1,hm⟩:=q2x h hr;obtain⟨vk,l2,h2,hk⟩:=q2x h h1;obtain⟨vy,l3,h3,hy⟩:=q2x h h2;unfold qt3 at h3;obtain⟨k,l0,l4,g,es,clock,h4,hk0,hv,hval,hfp,hg,hl⟩:=qhm h hm h3;obtain⟨p,q,h5,hkey⟩:=qgj hk h4;split at h5
  ·rename_i z;obtain⟨bz,rfl,h6⟩:=qrq h5;rw[q51,q49]at h6;have hyv:a.eval y=.bool bz:=RB.bool_inv hy;obtain⟨es',clock',hrun,hl'⟩:=qq2 hK ht hg hl p q bz;have hgs:g<w.heap.size:=qd3 hg
   obtain⟨r1,r2,r3⟩:=h.change1 (w':={ w with heap:=w.heap.setIfInBounds g (.map es' clock') }) k (.mp (qez l0 p q bz)) (val k) (fp k) (by rw[hk0];rfl) (by rw[hk0];rfl) (fun b hb=>.inl hb)
    (fun b _ hb=>by
     have:g≠b:=fun e=>hb (by rw[hfp,e];simp);show(w.heap.setIfInBounds g _)[b]?=_;rw[Array.getElem?_setIfInBounds,if_neg this]) (by simp) rfl rfl rfl
    (fun _=>by
     show RO _ _ _ _;rw[hval,hv,hfp];refine RO.mp (es:=es') (clock:=clock') ?_ hl';show(w.heap.setIfInBounds g _)[g]?=_;rw[Array.getElem?_setIfInBounds,if_pos rfl,if_pos hgs])
   have e1:upd val k (val k)=val:=by funext j;by_cases hj:k=j <;> simp[upd,hj]
   have e2:upd fp k (fp k)=fp:=by funext j;by_cases hj:k=j <;> simp[upd,hj]
   rw[e1,e2]at r1;exact qdb (by simp[hn]) hn (by simp only[execOp,ho,hv,hkey,hyv,hrun,Sem.run_bind,Result.andThen_ok,Sem.run_pure]) h6 r1 r3
  ·cases h5
 ·cases hr
end
end Ev
end
