/- Steps on the way to RowRulesOf: EvStep, EvOrder, EvState, EvCode, EvBody, EvMeets, EvLim, EvOpen, EvRow, EvCompare, EvInsert. -/
import Derived.Test.YtialhhdmckfodaaGreatDoorM1
import Derived.Orders
import Derived.ChangeArms
import Derived.OpenShut
import Derived.WalkKit
import Derived.ProofKit
import Derived.ShutString
import Derived.ChangeOld
import Derived.SizedLaws
import Derived.Below
import Derived.Lib.Bytealg
import Derived.Lib.BytesEntry
import Derived.Laws.Externs
import Derived.Sort.Row
import Derived.Shelf.Lays2
import Derived.Shelf.SlGeneric
import Derived.Shelf.Spec.SlicesInsertGrow
set_option linter.unusedSectionVars false
set_option linter.unusedVariables false
set_option linter.unusedSimpArgs false
section
namespace Ev
open Go
section
variable {P:Program}{A:q7t}{E:Env}{c:Ctx}{s:St}{a:Act}{w:World}{val:Key->Value}{fp:Key->List Nat}
variable {l:Log}{K:St->Log->R}{r:T×List T}
theorem qsf{o:Oper}{g:FuncId}{vs:Array Value}(hrun:(execOp a.eval o).run P w=(callFunc g vs).run P w){next:Act->World->Prop}{Q:Exit->Act->World->Prop}
 (h:Does P g vs w fun v w'=>next (a.put o.dst v) w'):o.wp P a w next Q:=by
 unfold Oper.wp;rw[hrun];unfold Does at h;split at h
 ·rename_i heq;rw[heq];exact h
 ·rename_i heq;rw[heq];exact Calls.mono h fun e w' ⟨v,he,hr⟩=>by subst he;exact hr
 ·exact h.elim
theorem qjk(h:Inv c s a w val fp){v:V}{u:Value}(hv:VR (mkFr c w val fp) s v u){f:FuncId->List T->Bool->Prog}(hr:runP E (qm2 v f) s l K=some r) :
 ∃g caps sn l' cvs,runP E (f g caps sn) s l' K=some r/\u=.func (.func g) #[] cvs/\caps.length=cvs.size/\∀(i:Nat)(y:T)(u:Value),caps[i]?=some y->cvs[i]?=some u->SR c w fp [] sn y u:=by
 have hsn:Snap c s s a w val fp []:=⟨h,fun k _=>⟨rfl,fun _ _=>by simp⟩,by simp,by simp⟩;unfold qm2 at hr;split at hr
 ·rename_i g caps;have hv':RB w (inI c w fp) (inJ c w fp) (.clo g caps) u:=hv;cases hv' with
  |clo vs hl hc=>
   refine⟨g,caps,false,l,_,hr,rfl,by simp[hl],fun i y u hy hu=>?_⟩;have hi:=(gB.1 hy).1;rw[hl]at hu;simp[hi]at hu;subst hu;exact hsn.rb false (hc i y hy)
 ·rename_i g cs;obtain⟨vs,rfl,hcs⟩:=hv;obtain⟨ys,b,l1,h1,hl,hys⟩:=qbk hsn hcs hr;exact⟨g,ys,b,l1,vs,h1,rfl,by simpa using hl,fun i y u hy hu=>hys i y u hy (by simpa using hu)⟩
 ·cases hr
theorem Inv.release(h:Inv c s a w val fp){k:Key}{own deep own' deep':Bool}{sz:Nat}{cells:List T}(hk:s.getO k=.arr own deep sz cells){F':List Nat}(hF:∀b,b∈F'->b∈fp k)
 (hob:(∀x v,RB w (inI c w fp) (inJ c w fp) x v->RB w (inI c w (upd fp k F')) (inJ c w (upd fp k F')) x v)->ObR (mkFr c w val (upd fp k F')) (s.setO k (.arr own' deep' sz cells)) (.arr own' deep' sz cells) (val k) F') :
 Inv c (s.setO k (.arr own' deep' sz cells)) a w val (upd fp k F'):=by
 have e1:upd val k (val k)=val:=by funext j;by_cases hj:k=j <;> simp[upd,hj]
 have:=(h.change1 (w':=w) k (.arr own' deep' sz cells) (val k) F' (by rw[hk];rfl) (by rw[hk];rfl) (fun b hb=>.inl (hF b hb)) (fun _ _ _=>rfl) (gAI _) rfl rfl rfl (fun g=>by
  rw[e1];exact hob fun x v hx=>RB.move hx (fun b hb=>g.hI b hb) (fun b hb=>g.hJ b hb))).1
 rwa[e1]at this
theorem Inv.freezeO(h:Inv c s a w val fp)(k:Key):∃val' fp',Inv c (freezeO s k) a w val' fp':=by
 unfold Ev.freezeO;split
 ·rename_i deep sz cs hk;have hob:=h.obs k;rw[hk]at hob;obtain⟨xs,Fg,fs,ho,hF⟩:=q9i.1 hob;refine⟨val,upd fp k [],h.release hk (by simp) fun hrb=>⟨ho.rb (fun b hb=>?_) (fun b hb=>?_) (fun b hb=>?_),rfl⟩⟩
  ·rw[<- hF]at hb;refine⟨.inr (h.mine k b hb),h.lt hb,fun j hj=>?_⟩;by_cases hkj:k=j
   ·subst hkj;rw[q78]at hj;simp at hj
   ·rw[qab _ _ hkj]at hj;exact h.disj k j hkj b hb hj
  ·refine⟨hb.1,hb.2.1,fun j hj=>?_⟩;by_cases hkj:k=j
   ·subst hkj;rw[q78]at hj;simp at hj
   ·rw[qab _ _ hkj]at hj;exact hb.2.2 j hj
  ·refine⟨hb.1,hb.2.1,fun j hj=>?_⟩;by_cases hkj:k=j
   ·subst hkj;rw[q78]at hj;simp at hj
   ·rw[qab _ _ hkj]at hj;exact hb.2.2 j hj
 ·exact⟨val,fp,h⟩
theorem q62:∀(cs:List C){s:St}{l:Log}{val:Key->Value}{fp:Key->List Nat}{p:Prog},Inv c s a w val fp->runP E (qdm cs p) s l K=some r->∃s' l' val' fp',Inv c s' a w val' fp'/\runP E p s' l' K=some r
 |[],s,l,val,fp,p,h,hr=>⟨s,l,val,fp,h,hr⟩
 |.obj k::cs,s,l,val,fp,p,h,hr=>by
  simp only[qdm]at hr;rw[q3s]at hr;split at hr
  ·rename_i deep sz cells hk;rw[q51]at hr;obtain⟨val1,fp1,h1⟩:=h.freezeO k;have e:freezeO s k=s.setO k (.arr false deep sz cells):=by unfold freezeO;rw[hk]
   rw[e]at h1;exact q62 cs h1 hr
  ·exact q62 cs h hr
 |.t _::cs,s,l,val,fp,p,h,hr=>q62 cs h hr
 |.nil::cs,s,l,val,fp,p,h,hr=>q62 cs h hr
 |.ptr _ _::cs,s,l,val,fp,p,h,hr=>q62 cs h hr
 |.undef::cs,s,l,val,fp,p,h,hr=>q62 cs h hr
 |.view _::cs,s,l,val,fp,p,h,hr=>q62 cs h hr
 |.kept _ _::cs,s,l,val,fp,p,h,hr=>q62 cs h hr
theorem qci:∀(xs:List Operand){s:St}{l:Log}{val:Key->Value}{fp:Key->List Nat}{p:Prog},Inv c s a w val fp->runP E (qhh xs p) s l K=some r->∃s' l' val' fp',Inv c s' a w val' fp'/\runP E p s' l' K=some r
 |[],s,l,val,fp,p,h,hr=>⟨s,l,val,fp,h,hr⟩
 |x::xs,s,l,val,fp,p,h,hr=>by
  cases x with
  |tmp i=>
   simp only[qhh]at hr;rw[qev]at hr;obtain⟨s1,l1,val1,fp1,h1,hr1⟩:=q62 _ h hr;exact qci xs h1 hr1
  |_=>exact qci xs h hr
theorem qws(h:Inv c s a w val fp)(hE:∀g args r,E g args=some r->Meets P (A g) g args r){o:Oper}{cl:Call}{x:Operand}(ho:o.op=.call cl)(hcl:cl.callee=.value x)(hd:∀d,o.dst=some d->d<a.tmps.size)
 {Q:Exit->Act->World->Prop} (hr:runP E (opP P A o) s l K=some r):o.wp P a w (Post c w K r) Q:=by
 unfold opP at hr;simp only[ho,hcl]at hr;obtain⟨s0,l0,val0,fp0,h0,hr⟩:=qci _ h hr;clear h;have h:=h0;obtain⟨vf,l1,h1,hvf⟩:=q2x h hr;obtain⟨vs,l2,h2,hl,hvs⟩:=qeb h h1;obtain⟨g,caps,sn,l3,cvs,h3,hu,hc1,hc2⟩:=qjk h hvf h2;cases hvw:((A g).view&&caps.isEmpty)with
 |true=>
  rw[hvw,cond_true]at h3
  have hce:caps=[]:=by
   rw[gC]at hvw;simpa using hvw.2
  subst hce;have hcv:cvs = #[]:=Array.eq_empty_of_size_eq_zero (by simpa using hc1.symm);subst hcv;cases hdst:o.dst with
  |none=>
   unfold qv0 at h3;rw[hdst]at h3;cases h3
  |some d=>
   have:=qoi h hE hdst (hd d hdst) (us:=cl.args.map a.eval) (by simpa using hl) (fun i v u hv hu=>by
    rw[Array.getElem?_map,gP]at hu;obtain⟨y,hy,rfl⟩:=hu;exact hvs i y v (by simpa using hy) hv) h3
   refine qsf ?_ this;simp[execOp,ho,resolve,hcl,hu,Deferred.ofValue,invoke]
 |false=>
 rw[hvw,cond_false]at h3;cases hdst:o.dst with
 |none=>
  unfold qvz at h3;rw[hdst]at h3;cases h3
 |some d=>
  have:=qq3 h hE hdst (hd d hdst) (us:=cl.args.map a.eval) (by simpa using hl) (fun i v u hv hu=>by
   rw[Array.getElem?_map,gP]at hu;obtain⟨y,hy,rfl⟩:=hu;exact hvs i y v (by simpa using hy) hv) hc1 hc2 h3
  refine qsf ?_ this;simp[execOp,ho,resolve,hcl,hu,Deferred.ofValue,invoke]
theorem qpn(h:Inv c s a w val fp){o:Oper}{t:TypeId}{x:Operand}{k1 k2:IntKind}(ho:o.op=.slice t x none (some (.const (.int k1 0))) (some (.const (.int k2 0))))(hd:∀d,o.dst=some d->d<a.tmps.size)
 {Q:Exit->Act->World->Prop} (hr:runP E (opP P A o) s l K=some r):o.wp P a w (Post c w K r) Q:=by
 unfold opP at hr;simp only[ho]at hr;split at hr
 ·rename_i d hd';rw[q1s]at hr;replace hr:=q1c hr;obtain⟨hok,hr⟩:=hr;obtain⟨e,i,z,st⟩:=qcz hok;obtain⟨v,l1,h1,hv⟩:=q2x h hr;obtain⟨cells,l2,h2,A',len,cap,hu,e1,e2,e3⟩:=qfy h hv h1;obtain⟨hfree,l3,h3⟩:=q6h h2;rw[q4r,q49]at h3;obtain⟨F'',r1,r2⟩:=qod h hfree (sz:=q5e P t) (by rw[st.stride];exact st.pos) A';have t0:=run_sliceBound (P:=P) w k2 0 cap .slice3Acap (by omega) (by omega);have t1:=run_sliceBound (P:=P) w k1 0 0 .slice3B (by omega) (by omega);refine q3h (v:=.slice A' 0 0) (w':=w) ?_ ?_
  ·have hb:(Instr.sliceBounds true len cap none (some (.int k1 0)) (some (.int k2 0))).run P w=.ok (0,0,0) w:=by
    simp at t0 t1;simp[Instr.sliceBounds,t0,t1]
   have q1:a.eval (.const (.int k1 0))=.int k1 0:=rfl;have q2:a.eval (.const (.int k2 0))=.int k2 0:=rfl;simp[execOp,ho,Instr.sliceAt,run_underlying st.hu,Instr.slice,hu,q1,q2,hb,Go.sizeOf,typeInfo,st.hi]
  ·rw[hd'];exact⟨_,_,_,_,h3,r1.setT (hd d hd') (VR_c r2),rfl,Kp.refl _ _⟩
 ·cases hr
theorem qv2(h:Inv c s a w val fp)(hE:∀g args r,E g args=some r->Meets P (A g) g args r){o:Oper}(hd:∀d,o.dst=some d->d<a.tmps.size)
 {Q:Exit->Act->World->Prop} (hr:runP E (opP P A o) s l K=some r):o.wp P a w (Post c w K r) Q:=by
 have hr0:=hr;unfold opP at hr;split at hr
 case h_1 x ho=>exact qsu h (.inl ho) hd hr
 case h_2 x ho=>exact qsu h (.inr ho) hd hr
 case h_3 ho=>exact qwu h ho hd hr0
 case h_4 ho=>exact qvf h ho hd hr0
 case h_5 ho=>exact qyj h ho hd hr0
 case h_6 ho=>exact qv7 h ho hd hr0
 case h_7 ho=>exact ql6 h ho hd hr0
 case h_8 ho=>exact qxc h ho hd hr0
 case h_9 ho=>
  split at hr
  ·rename_i hn;exact quw h ho hn hr0
  ·cases hr
 case h_10 ho=>exact qof h ho hd hr0
 case h_11 ho=>exact qvd h ho hd hr0
 case h_12 ho=>exact qxl h ho hd hr0
 case h_13 ho=>exact qrx h ho hd hr0
 case h_14 ho=>exact qov h ho hd hr0
 case h_15 ho=>exact qs3 h ho hd hr0
 case h_16 ho=>exact qt5 h ho hd hr0
 case h_17 ho=>exact qms h ho hr0
 case h_18 ho=>exact qmx h ho hd hr0
 case h_19 ho=>exact qvk h ho hd hr0
 case h_20 ho=>exact qpn h ho hd hr0
 case h_21 ho=>exact qmc h ho hd hr0
 case h_22 ho=>exact qv9 h ho hd hr0
 case h_23 ho=>exact qnn h ho hd hr0
 case h_24 ho=>exact qvw h ho hd hr0
 case h_25 ho=>exact qs4 h ho hd hr0
 case h_26 cl ho=>
  split at hr
  ·rename_i hcl;exact qy4 h ho hcl hd hr0
  ·rename_i hcl;split at hr
   ·rename_i x y t t' d h1 h2 h3;exact qsr h ho hcl (by apply Array.ext';simpa using h1) (by apply Array.ext';simpa using h2) h3 (hd d h3) hr
   ·cases hr
  ·rename_i hcl;exact qyx h ho hcl hd hr0
  ·rename_i hcl;exact qxu h ho hcl hd hr0
  ·rename_i hcl;exact qyy h ho hcl hd hr0
  ·cases hr
  ·cases hr
  ·rename_i x hcl;exact qws h hE ho hcl hd hr0
 case h_27=>cases hr
end
end Ev
namespace Ev
open Go
def q60(E:Env):Prog->St->Log->Option (St×Log)
 |.done,s,l=>some (s,l)
 |.fail,_,_=>none
 |.getT i f,s,l=>q60 E (f (s.getT i)) s { l with rdT:=i::l.rdT }
 |.getO k f,s,l=>q60 E (f (s.getO k)) s { l with rdO:=k::l.rdO }
 |.setT i v p,s,l=>q60 E p (s.setT i v) { l with wrT:=i::l.wrT }
 |.setO k o p,s,l=>q60 E p (s.setO k o) { l with wrO:=k::l.wrO }
 |.ite b p q,s,l=>bif b then q60 E p s l else q60 E q s l
 |.asInt k x f,s,l=>match x with
  |.int k' n=>bif decide (k'=k)then q60 E (f n) s l else none
  |_=>none
 |.asBool x f,s,l=>match x with|.bool b=>q60 E (f b) s l|_=>none
 |.asStr x f,s,l=>match x with|.str b=>q60 E (f b) s l|_=>none
 |.asSl sz x f,s,l=>match x with
  |.sl sz' c=>bif Nat.beq sz' sz then q60 E (f c) s l else none
  |_=>none
 |.asAgg x f,s,l=>match x with|.agg c=>q60 E (f c) s l|_=>none
 |.asTup x f,s,l=>match x with|.tup c=>q60 E (f c) s l|_=>none
 |.asBx x f,s,l=>match x with|.bx c=>q60 E (f c) s l|_=>none
 |.uncons l' f,s,l=>match l' with|a::r=>q60 E (f a r) s l|[]=>none
 |.unnil l' p,s,l=>match l' with|[]=>q60 E p s l|_::_=>none
 |.onSome x f,s,l=>match x with|some a=>q60 E (f a) s l|none=>none
 |.onRef x p,s,l=>match x with|.rref _ _=>q60 E p s l|_=>none
 |.onClo x p,s,l=>match x with|.clo _ _=>q60 E p s l|_=>none
 |.call g args k,s,l=>(E g args).bind fun r=>q60 E (k r.1 r.2) s l
theorem qht(E:Env)(K:St->Log->R)(p:Prog):∀(s:St)(l:Log),runP E p s l K=(q60 E p s l).bind fun q=>K q.1 q.2:=by
 induction p with
 |done=>intro s l;rfl
 |fail=>intro s l;rfl
 |getT i f ih=>intro s l;exact ih _ s _
 |getO k f ih=>intro s l;exact ih _ s _
 |setT i v p ih=>intro s l;exact ih _ _
 |setO k o p ih=>intro s l;exact ih _ _
 |ite b p q ihp ihq=>intro s l;cases b <;> first|exact ihq s l|exact ihp s l
 |asInt k x f ih=>
  intro s l;cases x with
  |int k' n=>
   rw[qdc];simp only[q60];cases decide (k'=k)
   ·rfl
   ·exact ih _ s l
  |_=>rfl
 |asBool x f ih=>intro s l;cases x <;> first|exact ih _ s l|rfl
 |asStr x f ih=>intro s l;cases x <;> first|exact ih _ s l|rfl
 |asSl sz x f ih=>
  intro s l;cases x with
  |sl sz' cs=>
   rw[q6f];simp only[q60];cases Nat.beq sz' sz
   ·rfl
   ·exact ih _ s l
  |_=>rfl
 |asAgg x f ih=>intro s l;cases x <;> first|exact ih _ s l|rfl
 |asTup x f ih=>intro s l;cases x <;> first|exact ih _ s l|rfl
 |asBx x f ih=>intro s l;cases x <;> first|exact ih _ s l|rfl
 |uncons l' f ih=>intro s l;cases l' <;> first|rfl|exact ih _ _ s l
 |unnil l' p ih=>intro s l;cases l' <;> first|exact ih s l|rfl
 |onSome x f ih=>intro s l;cases x <;> first|rfl|exact ih _ s l
 |onRef x p ih=>intro s l;cases x <;> first|exact ih s l|rfl
 |onClo x p ih=>intro s l;cases x <;> first|exact ih s l|rfl
 |call g args k ih=>
  intro s l;simp only[runP,q60];cases E g args with
  |none=>rfl
  |some r=>exact ih _ _ s l
structure Agrees(L:Log)(s t:St):Prop where
 ft:∀i,i∈L.rdT->t.getT i=s.getT i
 fo:∀k,k∈L.rdO->t.getO k=s.getO k
theorem qdw(E:Env)(p:Prog):∀{s s':St}{l L:Log},q60 E p s l=some (s',L)->
 (∀i,i∈l.rdT->i∈L.rdT)/\(∀i,i∈l.rdO->i∈L.rdO)/\(∀i,i∈l.wrT->i∈L.wrT)/\(∀i,i∈l.wrO->i∈L.wrO)/\
 (∀i,i∉L.wrT->s'.getT i=s.getT i)/\(∀k,k∉L.wrO->s'.getO k=s.getO k):=by
 have bifc:∀{b:Bool}{α:Type}{x y:Option α}{z:α},(bif b then x else y)=some z->x=some z\/y=some z:=by
  intro b α x y z h;cases b <;> first|exact .inr h|exact .inl h
 induction p with
 |done=>intro s s' l L h;cases h;simp
 |fail=>intro s s' l L h;cases h
 |getT i f ih=>
  intro s s' l L h;obtain⟨h1,h2,h3,h4,h5,h6⟩:=ih _ h;exact⟨fun j hj=>h1 j (gF _ hj),h2,h3,h4,h5,h6⟩
 |getO k f ih=>
  intro s s' l L h;obtain⟨h1,h2,h3,h4,h5,h6⟩:=ih _ h;exact⟨h1,fun j hj=>h2 j (gF _ hj),h3,h4,h5,h6⟩
 |setT i v p ih=>
  intro s s' l L h;obtain⟨h1,h2,h3,h4,h5,h6⟩:=ih h;refine⟨h1,h2,fun j hj=>h3 j (gF _ hj),h4,fun j hj=>?_,h6⟩;rw[h5 j hj,q9a];have:i≠j:=fun e=>hj (e▸h3 i (by simp));rw[if_neg this]
 |setO k o p ih=>
  intro s s' l L h;obtain⟨h1,h2,h3,h4,h5,h6⟩:=ih h;refine⟨h1,h2,h3,fun j hj=>h4 j (gF _ hj),h5,fun j hj=>?_⟩;rw[h6 j hj,q2y];have:k≠j:=fun e=>hj (e▸h4 k (by simp));rw[if_neg this]
 |ite b p q ihp ihq=>intro s s' l L h;rcases bifc h with h|h <;> first|exact ihp h|exact ihq h
 |asInt k x f ih=>
  intro s s' l L h;cases x <;> first|exact ih _ (q1c h).2|cases h
 |asBool x f ih=>intro s s' l L h;cases x <;> first|exact ih _ h|cases h
 |asStr x f ih=>intro s s' l L h;cases x <;> first|exact ih _ h|cases h
 |asSl sz x f ih=>
  intro s s' l L h;cases x <;> first|exact ih _ (q1c h).2|cases h
 |asAgg x f ih=>intro s s' l L h;cases x <;> first|exact ih _ h|cases h
 |asTup x f ih=>intro s s' l L h;cases x <;> first|exact ih _ h|cases h
 |asBx x f ih=>intro s s' l L h;cases x <;> first|exact ih _ h|cases h
 |uncons l' f ih=>intro s s' l L h;cases l' <;> first|cases h|exact ih _ _ h
 |unnil l' p ih=>intro s s' l L h;cases l' <;> first|exact ih h|cases h
 |onSome x f ih=>intro s s' l L h;cases x <;> first|cases h|exact ih _ h
 |onRef x p ih=>intro s s' l L h;cases x <;> first|exact ih h|cases h
 |onClo x p ih=>intro s s' l L h;cases x <;> first|exact ih h|cases h
 |call g args k ih=>
  intro s s' l L h;simp only[q60]at h;cases hE:E g args with
  |none=>rw[hE]at h;cases h
  |some r=>rw[hE]at h;exact ih _ _ h
theorem qri(E:Env)(p:Prog):∀{s s' t:St}{l L:Log},q60 E p s l=some (s',L)->Agrees L s t->
 ∃t',q60 E p t l=some (t',L)/\(∀i,t.getT i=s.getT i->t'.getT i=s'.getT i)/\(∀k,t.getO k=s.getO k->t'.getO k=s'.getO k)/\
  (∀i,i∈L.wrT->i∉l.wrT->t'.getT i=s'.getT i)/\(∀k,k∈L.wrO->k∉l.wrO->t'.getO k=s'.getO k):=by
 induction p with
 |done=>intro s s' t l L h ha;cases h;exact⟨t,rfl,fun _ h=>h,fun _ h=>h,fun _ h h'=>absurd h h',fun _ h h'=>absurd h h'⟩
 |fail=>intro s s' t l L h;cases h
 |getT i f ih=>
  intro s s' t l L h ha;have hi:t.getT i=s.getT i:=ha.ft i ((qdw E (f (s.getT i)) (show q60 E (f (s.getT i)) s { l with rdT:=i::l.rdT }=_ from h)).1 i List.mem_cons_self);obtain⟨t',h1,h2⟩:=ih _ h ha;refine⟨t',?_,h2⟩;rw[q60,hi];exact h1
 |getO k f ih=>
  intro s s' t l L h ha;have hi:t.getO k=s.getO k:=ha.fo k ((qdw E (f (s.getO k)) (show q60 E (f (s.getO k)) s { l with rdO:=k::l.rdO }=_ from h)).2.1 k List.mem_cons_self);obtain⟨t',h1,h2⟩:=ih _ h ha;refine⟨t',?_,h2⟩;rw[q60,hi];exact h1
 |setT i v p ih=>
  intro s s' t l L h ha;have ha':Agrees L (s.setT i v) (t.setT i v):=⟨fun j hj=>by rw[q9a,q9a,ha.ft j hj],fun k hk=>ha.fo k hk⟩;obtain⟨t',h1,h2,h3,h4,h5⟩:=ih h ha';refine⟨t',h1,fun j hj=>h2 j (by rw[q9a,q9a,hj]),fun k hk=>h3 k hk,fun j hj hn=>?_,h5⟩;by_cases hij:i=j
  ·subst hij;exact h2 i (by simp)
  ·exact h4 j hj (fun hm=>(gK.1 hm).elim (fun e=>hij e.symm) hn)
 |setO k o p ih=>
  intro s s' t l L h ha;have ha':Agrees L (s.setO k o) (t.setO k o):=⟨fun j hj=>ha.ft j hj,fun j hj=>by rw[q2y,q2y,ha.fo j hj]⟩;obtain⟨t',h1,h2,h3,h4,h5⟩:=ih h ha';refine⟨t',h1,fun j hj=>h2 j hj,fun j hj=>h3 j (by rw[q2y,q2y,hj]),h4,fun j hj hn=>?_⟩;by_cases hij:k=j
  ·subst hij;exact h3 k (by simp)
  ·exact h5 j hj (fun hm=>(gK.1 hm).elim (fun e=>hij e.symm) hn)
 |ite b p q ihp ihq=>
  intro s s' t l L h ha;cases b with
  |true=>exact ihp h ha
  |false=>exact ihq h ha
 |asInt k x f ih=>
  intro s s' t l L h ha;cases x with
  |int k' n=>
   obtain⟨h1,h2⟩:=q1c h;obtain⟨t',h3,h4⟩:=ih _ h2 ha;refine⟨t',?_,h4⟩;simp only[q60];rw[h1];exact h3
  |_=>cases h
 |asBool x f ih=>intro s s' t l L h ha;cases x <;> first|exact ih _ h ha|cases h
 |asStr x f ih=>intro s s' t l L h ha;cases x <;> first|exact ih _ h ha|cases h
 |asSl sz x f ih=>
  intro s s' t l L h ha;cases x with
  |sl sz' cs=>
   obtain⟨h1,h2⟩:=q1c h;obtain⟨t',h3,h4⟩:=ih _ h2 ha;refine⟨t',?_,h4⟩;simp only[q60];rw[h1];exact h3
  |_=>cases h
 |asAgg x f ih=>intro s s' t l L h ha;cases x <;> first|exact ih _ h ha|cases h
 |asTup x f ih=>intro s s' t l L h ha;cases x <;> first|exact ih _ h ha|cases h
 |asBx x f ih=>intro s s' t l L h ha;cases x <;> first|exact ih _ h ha|cases h
 |uncons l' f ih=>intro s s' t l L h ha;cases l' <;> first|cases h|exact ih _ _ h ha
 |unnil l' p ih=>intro s s' t l L h ha;cases l' <;> first|exact ih h ha|cases h
 |onSome x f ih=>intro s s' t l L h ha;cases x <;> first|cases h|exact ih _ h ha
 |onRef x p ih=>intro s s' t l L h ha;cases x <;> first|exact ih h ha|cases h
 |onClo x p ih=>intro s s' t l L h ha;cases x <;> first|exact ih h ha|cases h
 |call g args k ih=>
  intro s s' t l L h ha;simp only[q60]at h;cases hE:E g args with
  |none=>rw[hE]at h;cases h
  |some r=>
   rw[hE]at h;obtain⟨t',h1,h2⟩:=ih _ _ h ha;refine⟨t',?_,h2⟩;simp only[q60];rw[hE];exact h1
def KT(a0:Array Value)(tp:Option Nat)(n:Nat)(a:Act):Prop:=a.tmps.size=n/\∀i,tp=some i->a.tmps[i]?=a0[i]?
def Eqv(s t:St):Prop:=(∀i,t.getT i=s.getT i)/\∀k,t.getO k=s.getO k
section
variable {P:Program}{A:q7t}{E:Env}{c:Ctx}{s s' t:St}{a:Act}{w w':World}{val:Key->Value}{fp:Key->List Nat}
theorem Inv.eqv(h:Inv c s a w val fp)(he:Eqv s t):Inv c t a w val fp:=by
 have g:Goes (mkFr c w val fp) (mkFr c w val fp) s t:=⟨rfl,fun b hb=>⟨hb,rfl⟩,fun b hb=>⟨hb,rfl⟩,fun k=>by rw[he.2 k];exact Turns.refl _ _,fun b ⟨k,hk,hb⟩=>⟨.inl ⟨k,by rw[he.2 k];exact hk,hb⟩,rfl⟩⟩;refine⟨fun k=>?_,fun i=>?_,h.disj,h.mine,h.size,h.defers,h.ij⟩
 ·rw[he.2 k];exact(h.obs k).goes g fun _ _=>rfl
 ·rw[he.1 i];exact(h.tms i).goes g
def qmj(d:Option Nat)(a a':Act):Prop:=a'.tmps.size=a.tmps.size/\∀i,d≠some i->a'.tmps[i]?=a.tmps[i]?
theorem qi2(a:Act)(d:Option Nat)(v:Value):qmj d a (a.put d v):=by
 unfold Act.put;cases d with
 |none=>exact⟨rfl,fun _ _=>rfl⟩
 |some d=>
  refine⟨by simp,fun i hi=>?_⟩;have:d≠i:=fun e=>hi (by rw[e]);exact Array.getElem?_setIfInBounds_ne this
theorem qxv{o:Oper}{K:Act->World->Prop}{Q:Exit->Act->World->Prop}(h:o.wp P a w K Q):o.wp P a w (fun a' w'=>qmj o.dst a a'/\K a' w') Q:=by
 have hs:∀(a:Act)(v:Value),qmj o.dst a (a.put o.dst v):=fun a v=>qi2 a o.dst v;unfold Oper.wp at *;generalize (execOp a.eval o).run P w=r at *;cases r with
 |ok n w'=>
  cases n with
  |value v=>exact⟨hs _ _,h⟩
  |skip=>exact⟨hs _ _,h⟩
  |defer d=>exact⟨qi2 { a with defers:=d::a.defers } o.dst undef,h⟩
  |enter f args=>exact Calls.mono h fun e w'' he=>by cases e <;> first|exact⟨hs _ _,he⟩|exact he
  |row row args=>exact Rows.mono h fun _ _ he=>⟨hs _ _,he⟩
  |_=>exact h
 |halt x w'=>cases x <;> exact h
theorem qd9(h:Inv c s a w val fp)(hE:∀g args r,E g args=some r->Meets P (A g) g args r){ops:Array Oper}{i:Nat}{o:Oper}(hi:ops[i]?=some o)(hd:∀d,o.dst=some d->d<a.tmps.size)
 {Q:Exit->Act->World->Prop} {l0 L:Log} (hr:q60 E (qi0 ops.toList o (opP P A o)) s l0=some (s',L)) :
 wpOp P ops Q i (fun a' w'=>qmj o.dst a a'/\∃val fp,Inv c s' a' w' val fp/\Kp c.own w w') a w:=by
 have conv:∀{p:Prog}{l:Log},q60 E p s l=some (s',L)->runP E p s l (fun s'' l''=>(open Classical in if s''=s'/\l''=L then some (default,[])else none))=some (default,[]):=fun hp=>by
  rw[qht,hp];simp
 have back:∀{s'':St}{l'':Log},(open Classical in if s''=s'/\l''=L then some ((default:T),([]:List T))else none)=some (default,[])->s''=s':=fun hq=>by
  split at hq
  ·rename_i h;exact h.1
  ·cases hq
 have wanted:Region.wanted o (yielded ops a.tmps)=true->∀{l:Log},q60 E (opP P A o) s l=some (s',L)->wpOp P ops Q i (fun a' w'=>qmj o.dst a a'/\∃val fp,Inv c s' a' w' val fp/\Kp c.own w w') a w:=fun hw l hp=>by
  unfold wpOp;rw[hi];simp only[hw,if_true];refine .inl (Oper.wp_mono (fun a' w' ⟨h1,h2⟩=>⟨h1,?_⟩) (qxv (qv2 h hE hd (conv hp))));obtain⟨s'',l'',val',fp',hK,hinv,_,hkp⟩:=h2;rw[back hK]at hinv;exact⟨val',fp',hinv,hkp⟩
 have skipped:Region.wanted o (yielded ops a.tmps)=false->∀{l:Log},q60 E (qx9 o.dst) s l=some (s',L)->wpOp P ops Q i (fun a' w'=>qmj o.dst a a'/\∃val fp,Inv c s' a' w' val fp/\Kp c.own w w') a w:=fun hw l hp=>by
  unfold wpOp;rw[hi];simp only[hw,Bool.false_eq_true,if_false];cases hdst:o.dst with
  |none=>
   rw[hdst]at hp;cases hp;exact⟨⟨rfl,fun _ _=>rfl⟩,val,fp,h,Kp.refl _ _⟩
  |some d=>
   rw[hdst]at hp;cases hp;exact⟨qi2 a (some d) undef,val,fp,h.setT (hd d hdst) rfl,Kp.refl _ _⟩
 unfold qi0 at hr;split at hr
 ·rename_i hg;exact wanted (by unfold Region.wanted;rw[hg]) hr
 ·rename_i g want hg;split at hr
  ·rename_i d hgd;have hgd':(ops[g]?).bind (·.dst)=some d:=by simpa using hgd
   rw[q60]at hr;have hv:=h.tms d
   have hget:∀b,a.tmps.getD d undef=.bool b->a.tmps[d]?=some (.bool b):=fun b hb=>by
    rw[gQ]at hb;cases hx:a.tmps[d]? with
    |none=>rw[hx]at hb;simp[undef]at hb
    |some x=>rw[hx]at hb;simp at hb;rw[hb]
   split at hr
   ·rename_i b hvb;rw[hvb]at hv;have hb:=hget b (RB.bool_inv hv);have hy:yielded ops a.tmps g=some b:=by unfold yielded;rw[hgd'];simp[hb]
    rw[q60]at hr;cases hbw:(b==want)with
    |true=>
     rw[hbw]at hr;exact wanted (by unfold Region.wanted;rw[hg];simp only[hy];simpa using hbw) hr
    |false=>
     rw[hbw]at hr;exact skipped (by unfold Region.wanted;rw[hg];simp only[hy];simpa using hbw) hr
   ·rename_i hvb;rw[hvb]at hv;have hv:a.tmps.getD d undef=undef:=hv
    have hy:yielded ops a.tmps g=none:=by
     unfold yielded;rw[hgd'];simp only[Option.bind_some];rw[gQ]at hv;cases hx:a.tmps[d]? with
     |none=>rfl
     |some x=>
      rw[hx]at hv;simp at hv;rw[hv];rfl
    exact skipped (by unfold Region.wanted;rw[hg];simp only[hy];rfl) hr
   ·cases hr
  ·cases hr
theorem qng(E:Env)(q:Prog)(p:Prog):∀(s:St)(l:Log),q60 E (p.andThen q) s l=(q60 E p s l).bind fun x=>q60 E q x.1 x.2:=by
 induction p with
 |done=>intro s l;rfl
 |fail=>intro s l;rfl
 |getT i f ih=>intro s l;exact ih _ s _
 |getO k f ih=>intro s l;exact ih _ s _
 |setT i v p ih=>intro s l;exact ih _ _
 |setO k o p ih=>intro s l;exact ih _ _
 |ite b p p' ihp ihq=>intro s l;cases b <;> first|exact ihq s l|exact ihp s l
 |asInt k x f ih=>
  intro s l;cases x with
  |int k' n=>
   simp only[Prog.andThen,q60];cases decide (k'=k)
   ·rfl
   ·exact ih _ s l
  |_=>rfl
 |asBool x f ih=>intro s l;cases x <;> first|exact ih _ s l|rfl
 |asStr x f ih=>intro s l;cases x <;> first|exact ih _ s l|rfl
 |asSl sz x f ih=>
  intro s l;cases x with
  |sl sz' c=>
   simp only[Prog.andThen,q60];cases Nat.beq sz' sz
   ·rfl
   ·exact ih _ s l
  |_=>rfl
 |asAgg x f ih=>intro s l;cases x <;> first|exact ih _ s l|rfl
 |asTup x f ih=>intro s l;cases x <;> first|exact ih _ s l|rfl
 |asBx x f ih=>intro s l;cases x <;> first|exact ih _ s l|rfl
 |uncons l' f ih=>intro s l;cases l' <;> first|exact ih _ _ s l|rfl
 |unnil l' p ih=>intro s l;cases l' <;> first|exact ih s l|rfl
 |onSome x f ih=>intro s l;cases x <;> first|exact ih _ s l|rfl
 |onRef x p ih=>intro s l;cases x <;> first|exact ih s l|rfl
 |onClo x p ih=>intro s l;cases x <;> first|exact ih s l|rfl
 |call g args k ih=>
  intro s l;simp only[Prog.andThen,q60];cases E g args with
  |none=>rfl
  |some r=>exact ih _ _ s l
theorem qs1(h:Inv c s a w val fp){d:Nat}{l L:Log}(hr:q60 E (qy1 d) s l=some (s',L)):Inv c s' a w val fp:=by
 have known:∀b,s.getT d=.one (.t (.bool b))->Inv c (s.setT d (.one (.t (.bool b)))) a w val fp:=fun b hb=>h.eqv ⟨fun i=>by
  rw[q9a];by_cases hi:d=i
  ·subst hi;rw[if_pos rfl,hb]
  ·rw[if_neg hi],fun _=>rfl⟩
 unfold qy1 at hr;rw[q60]at hr;split at hr
 ·rename_i b hb;cases b with
  |true=>cases hr;exact known true hb
  |false=>cases hr;exact known false hb
 ·cases hr;exact h
theorem qi3(h:Inv c s a w val fp)(hE:∀g args r,E g args=some r->Meets P (A g) g args r){ops:Array Oper}{i:Nat}{o:Oper}(hi:ops[i]?=some o)(hd:∀d,o.dst=some d->d<a.tmps.size)
 {Q:Exit->Act->World->Prop} {L:Log} (hr:q60 E (qil ops.toList o (opP P A o)) s q6l=some (s',L)) :
 wpOp P ops Q i (fun a' w'=>qmj o.dst a a'/\∃val fp,Inv c s' a' w' val fp/\Kp c.own w w') a w:=by
 unfold qil at hr;split at hr
 ·rename_i d hdd;cases hg:qwk ops.toList d with
  |false=>rw[hg,cond_false]at hr;exact qd9 h hE hi hd hr
  |true=>
   rw[hg,cond_true,qng,gAE]at hr;obtain⟨⟨s1,l1⟩,h1,h2⟩:=hr;refine wpOp_mono (fun a' w' ⟨q1,val',fp',q2,q3⟩=>⟨q1,val',fp',qs1 q2 h2,q3⟩) (qd9 h hE hi hd h1)
 ·exact qd9 h hE hi hd hr
theorem KT.next{a0:Array Value}{tp:Option Nat}{n:Nat}{a a':Act}{d:Option Nat}(h:KT a0 tp n a)(hs:qmj d a a')(hd:∀i,d=some i->tp≠some i):KT a0 tp n a':=
 ⟨hs.1.trans h.1,fun i hi=>(hs.2 i fun e=>hd i e hi).trans (h.2 i hi)⟩
end
end Ev
end
section
namespace Ev
open Go
section
variable {P:Program}{A:q7t}{E:Env}{c:Ctx}{s:St}{a:Act}{w w0:World}{val:Key->Value}{fp:Key->List Nat}{r:T×List T}
theorem qk9(hE:∀g args r,E g args=some r->Meets P (A g) g args r){ops:Array Oper}{n:Nat}{tp:Option Nat}{a0:Array Value}(hdst:∀(i:Nat)(o:Oper),ops[i]?=some o->∀d,o.dst=some d->d<n/\tp≠some d){K:St->R}{Q:Exit->Act->World->Prop}
 (hQ:∀s' a' w' val' fp',K s'=some r->Inv c s' a' w' val' fp'->KT a0 tp n a'->Kp c.own w0 w'->Q .normal a' w') :
 ∀(rest:List Oper)(j:Nat)(s:St)(a:Act)(w:World)(val:Key->Value)(fp:Key->List Nat),(∀i,rest[i]?=ops[j+i]?)->Inv c s a w val fp->KT a0 tp n a->Kp c.own w0 w->
  opsK P A E ops.toList rest s K=some r->wpOps P ops Q (List.range' j rest.length) a w
 |[],j,s,a,w,val,fp,_,h,hn,hk,hr=>hQ s a w val fp hr h hn hk
 |o::rest,j,s,a,w,val,fp,hrest,h,hn,hk,hr=>by
  have hj:ops[j]?=some o:=by have:=hrest 0;simp at this;exact this.symm
  rw[gAB,List.range'_succ,wpOps_cons];rw[opsK,qht,gAE]at hr;obtain⟨⟨s',L⟩,hstep,hr⟩:=hr;refine wpOp_mono (fun a' w' ⟨h1,val',fp',h2,h3⟩=>?_) (qi3 h hE hj (fun d hd=>by rw[hn.1];exact(hdst j o hj d hd).1) hstep);exact qk9 hE hdst hQ rest (j+1) s' a' w' val' fp' (fun i=>by have:=hrest (i+1);simp at this;rw[this];congr 1;omega) h2 (hn.next h1 fun d hd=>(hdst j o hj d hd).2) (hk.trans h3) hr
structure Run(P:Program)(A:q7t)(E:Env)(ops:Array Oper)(n:Nat)(st:Nat->St)(lg:Nat->Log):Prop where
 step:∀i o,i<n->ops[i]?=some o->q60 E (qil ops.toList o (opP P A o)) (st i) q6l=some (st (i+1),lg i)
theorem qqr{ops:Array Oper}{K:St->List Log->R}:∀(rest:List Oper)(j:Nat)(s:St)(ls:List Log),(∀i,rest[i]?=ops[j+i]?)->opsL P A E ops.toList rest s ls K=some r->
 ∃(st:Nat->St)(lg:Nat->Log),st j=s/\(∀i o,j<=i->i<j+rest.length->ops[i]?=some o->q60 E (qil ops.toList o (opP P A o)) (st i) q6l=some (st (i+1),lg i))/\
  K (st (j+rest.length)) (((List.range' j rest.length).map lg).reverse++ls)=some r
 |[],j,s,ls,_,hr=>⟨fun _=>s,fun _=>q6l,rfl,fun i o h1 h2=>by simp at h2;omega,by simpa[opsL]using hr⟩
 |o::rest,j,s,ls,hrest,hr=>by
  have hj:ops[j]?=some o:=by have:=hrest 0;simp at this;exact this.symm
  rw[opsL,qht,gAE]at hr;obtain⟨⟨s',L⟩,hstep,hr⟩:=hr;obtain⟨st,lg,e1,e2,e3⟩:=qqr rest (j+1) s' (L::ls) (fun i=>by have:=hrest (i+1);simp at this;rw[this];congr 1;omega) hr;refine⟨fun i=>if i=j then s else st i,fun i=>if i=j then L else lg i,by simp,fun i o' h1 h2 ho=>?_,?_⟩
  ·by_cases hij:i=j
   ·subst hij;rw[hj]at ho;cases ho;show q60 E _ (if i=i then s else st i) q6l=some (if i+1=i then s else st (i+1),if i=i then L else lg i);rw[if_pos rfl,if_pos rfl,if_neg (by omega),e1];exact hstep
   ·show q60 E _ (if i=j then s else st i) q6l=some (if i+1=j then s else st (i+1),if i=j then L else lg i);rw[if_neg hij,if_neg (by omega),if_neg hij];exact e2 i o' (by omega) (by simp at h2;omega) ho
  ·show K (if j+(rest.length+1)=j then s else st (j+(rest.length+1))) (((List.range' j (rest.length+1)).map fun i=>if i=j then L else lg i).reverse++ls)=some r;rw[if_neg (by omega),List.range'_succ,List.map_cons,if_pos rfl,List.reverse_cons,gZ,List.singleton_append]
   have:(List.range' (j+1) rest.length).map (fun i=>if i=j then L else lg i)=(List.range' (j+1) rest.length).map lg:=by
    apply List.map_congr_left;intro i hi;have:=List.mem_range'_1.1 hi;rw[if_neg (by omega)]
   rw[this,show j+(rest.length+1)=j+1+rest.length by omega];exact e3
section
variable {ops:Array Oper}{st:Nat->St}{lg:Nat->Log}
def MgT(n:Nat)(st:Nat->St)(lg:Nat->Log)(D:Nat->Prop)(t:St)(x:Nat):Prop:=
 (∃j,j<n/\D j/\x∈(lg j).wrT/\(∀j',j<j'->j'<n->D j'->x∉(lg j').wrT)/\t.getT x=(st (j+1)).getT x)\/((∀j,j<n->D j->x∉(lg j).wrT)/\t.getT x=(st 0).getT x)
def MgO(n:Nat)(st:Nat->St)(lg:Nat->Log)(D:Nat->Prop)(t:St)(x:Key):Prop:=
 (∃j,j<n/\D j/\x∈(lg j).wrO/\(∀j',j<j'->j'<n->D j'->x∉(lg j').wrO)/\t.getO x=(st (j+1)).getO x)\/((∀j,j<n->D j->x∉(lg j).wrO)/\t.getO x=(st 0).getO x)
theorem Run.mgT(h:Run P A E ops ops.size st lg)(x:Nat):∀i,i<=ops.size->MgT ops.size st lg (· < i) (st i) x:=by
 intro i;induction i with
 |zero=>intro _;exact .inr ⟨fun _ _ h=>absurd h (Nat.not_lt_zero _),rfl⟩
 |succ i ih=>
  intro hi;have ho:ops[i]?=some ops[i]:=by simp[show i<ops.size by omega]
  have hs:=qdw E _ (h.step i _ (by omega) ho);by_cases hx:x∈(lg i).wrT
  ·exact .inl ⟨i,by omega,gAR i,hx,fun j' h1 _ h3=>by omega,rfl⟩
  ·have hsame:(st (i+1)).getT x=(st i).getT x:=hs.2.2.2.2.1 x hx;rcases ih (by omega)with⟨j,h1,h2,h3,h4,h5⟩|⟨h1,h2⟩
   ·refine .inl ⟨j,h1,by omega,h3,fun j' q1 q2 q3=>?_,hsame.trans h5⟩;by_cases hj:j'=i
    ·rw[hj];exact hx
    ·exact h4 j' q1 q2 (by omega)
   ·refine .inr ⟨fun j q1 q2=>?_,hsame.trans h2⟩;by_cases hj:j=i
    ·rw[hj];exact hx
    ·exact h1 j q1 (by omega)
theorem Run.mgO(h:Run P A E ops ops.size st lg)(x:Key):∀i,i<=ops.size->MgO ops.size st lg (· < i) (st i) x:=by
 intro i;induction i with
 |zero=>intro _;exact .inr ⟨fun _ _ h=>absurd h (Nat.not_lt_zero _),rfl⟩
 |succ i ih=>
  intro hi;have ho:ops[i]?=some ops[i]:=by simp[show i<ops.size by omega]
  have hs:=qdw E _ (h.step i _ (by omega) ho);by_cases hx:x∈(lg i).wrO
  ·exact .inl ⟨i,by omega,gAR i,hx,fun j' h1 _ h3=>by omega,rfl⟩
  ·have hsame:(st (i+1)).getO x=(st i).getO x:=hs.2.2.2.2.2 x hx;rcases ih (by omega)with⟨j,h1,h2,h3,h4,h5⟩|⟨h1,h2⟩
   ·refine .inl ⟨j,h1,by omega,h3,fun j' q1 q2 q3=>?_,hsame.trans h5⟩;by_cases hj:j'=i
    ·rw[hj];exact hx
    ·exact h4 j' q1 q2 (by omega)
   ·refine .inr ⟨fun j q1 q2=>?_,hsame.trans h2⟩;by_cases hj:j=i
    ·rw[hj];exact hx
    ·exact h1 j q1 (by omega)
theorem MgT.same{n:Nat}{D D':Nat->Prop}{t t':St}{x:Nat}(h:MgT n st lg D t x)(h':MgT n st lg D' t' x)(hw:∀j,j<n->x∈(lg j).wrT->(D j<->D' j)):t'.getT x=t.getT x:=by
 rcases h with⟨j,a1,a2,a3,a4,a5⟩|⟨a1,a2⟩ <;> rcases h' with⟨j',b1,b2,b3,b4,b5⟩|⟨b1,b2⟩
 ·have:j=j':=by
   rcases Nat.lt_trichotomy j j' with h|h|h
   ·exact absurd b3 (a4 j' h b1 ((hw j' b1 b3).2 b2))
   ·exact h
   ·exact absurd a3 (b4 j h a1 ((hw j a1 a3).1 a2))
  subst this;rw[a5,b5]
 ·exact absurd a3 (b1 j a1 ((hw j a1 a3).1 a2))
 ·exact absurd b3 (a1 j' b1 ((hw j' b1 b3).2 b2))
 ·rw[a2,b2]
theorem MgO.same{n:Nat}{D D':Nat->Prop}{t t':St}{x:Key}(h:MgO n st lg D t x)(h':MgO n st lg D' t' x)(hw:∀j,j<n->x∈(lg j).wrO->(D j<->D' j)):t'.getO x=t.getO x:=by
 rcases h with⟨j,a1,a2,a3,a4,a5⟩|⟨a1,a2⟩ <;> rcases h' with⟨j',b1,b2,b3,b4,b5⟩|⟨b1,b2⟩
 ·have:j=j':=by
   rcases Nat.lt_trichotomy j j' with h|h|h
   ·exact absurd b3 (a4 j' h b1 ((hw j' b1 b3).2 b2))
   ·exact h
   ·exact absurd a3 (b4 j h a1 ((hw j a1 a3).1 a2))
  subst this;rw[a5,b5]
 ·exact absurd a3 (b1 j a1 ((hw j a1 a3).1 a2))
 ·exact absurd b3 (a1 j' b1 ((hw j' b1 b3).2 b2))
 ·rw[a2,b2]
theorem qvt{l:List Nat}{i:Nat}:memN l i=true<->i∈l:=by
 unfold memN;rw[List.any_eq_true];constructor
 ·rintro⟨x,hx,he⟩;rw[gE he];exact hx
 ·intro h;exact⟨i,h,by simp⟩
theorem qbt{a b:List Nat}(h:disj a b=true):∀x,x∈a->x∉b:=by
 intro x hx hb;have:=gAL.1 h x hx;rw[qvt.2 hb]at this;cases this
theorem qgf:∀{rest:List Oper}{j:Nat},qck j rest=true->∀(i:Nat)(o:Oper),rest[i]?=some o->∀e∈o.after.toList,Region.binds .any e=true->e.on<j+i
 |[],j,_,i,o,ho=>by simp at ho
 |x::rest,j,h,i,o,ho=>by
  rw[qck,gC]at h;intro e he hb;cases i with
  |zero=>
   simp at ho;subst ho;have:=gAL.1 h.1 e he;rw[hb]at this;simp only[Bool.not_true,Bool.false_or]at this;exact Nat.le_of_ble_eq_true this
  |succ i=>
   have:=qgf h.2 i o (by simpa using ho) e he hb;omega
theorem qep:∀{l:List Nat}{j:Nat},(qpk l).testBit j=true<->∃x,x∈l/\x.testBit j=true
 |[],j=>by simp[qpk]
 |x::r,j=>by
  rw[qpk,Nat.testBit_or,Bool.or_eq_true,qep];constructor
  ·rintro(h|⟨y,hy,h⟩)
   ·exact⟨x,by simp,h⟩
   ·exact⟨y,by simp[hy],h⟩
  ·rintro⟨y,hy,h⟩;rcases gK.1 hy with rfl|hy
   ·exact .inl h
   ·exact .inr ⟨y,hy,h⟩
theorem qo1:∀{rest:List Oper}{acc:List Nat},qck acc.length rest=true->∃l,ancs rest acc=acc++l/\l.length=rest.length/\
 ∀(i:Nat)(o:Oper),rest[i]?=some o->∀j,((ancs rest acc).getD (acc.length+i) 0).testBit j=true <->
  ∃e,e∈o.after.toList/\Region.binds .any e=true/\(j=e.on\/((ancs rest acc).getD e.on 0).testBit j=true)
 |[],acc,_=>⟨[],by simp[ancs],rfl,by simp⟩
 |x::rest,acc,h=>by
  rw[qck,gC]at h;let y:=qpk ((x.after.toList.filter (Region.binds .any)).map fun e=>2 ^ e.on ||| acc.getD e.on 0);have hlen:(acc++[y]).length=acc.length+1:=by simp
  obtain⟨l,e1,e2,e3⟩:=qo1 (rest:=rest) (acc:=acc++[y]) (by rw[hlen];exact h.2);have e0:ancs (x::rest) acc=ancs rest (acc++[y]):=rfl;have e1':ancs (x::rest) acc=acc++(y::l):=by rw[e0,e1];simp
  refine⟨y::l,e1',by simp[e2],fun i o ho j=>?_⟩;cases i with
  |zero=>
   simp at ho;subst ho;have hy:(ancs (x::rest) acc).getD (acc.length+0) 0=y:=by rw[e1'];simp
   rw[hy]
   have hlt:∀e,e∈x.after.toList->Region.binds .any e=true->((ancs (x::rest) acc).getD e.on 0)=acc.getD e.on 0:=fun e he hb=>by
    have:e.on<acc.length:=by
     have:=gAL.1 h.1 e he;rw[hb]at this;simp only[Bool.not_true,Bool.false_or]at this;exact Nat.le_of_ble_eq_true this
    rw[e1'];simp only[gI];rw[List.getElem?_append_left this]
   show y.testBit j=true<->_;rw[show y=qpk _ from rfl,qep];constructor
   ·rintro⟨m,hm,hj⟩;obtain⟨e,he,rfl⟩:=List.mem_map.1 hm;rw[List.mem_filter]at he;refine⟨e,he.1,he.2,?_⟩;rw[hlt e he.1 he.2];rw[Nat.testBit_or,Bool.or_eq_true,Nat.testBit_two_pow,gS]at hj;exact hj.imp Eq.symm id
   ·rintro⟨e,he,hb,hj⟩;rw[hlt e he hb]at hj;refine⟨_,List.mem_map.2 ⟨e,List.mem_filter.2 ⟨he,hb⟩,rfl⟩,?_⟩;rw[Nat.testBit_or,Bool.or_eq_true,Nat.testBit_two_pow,gS];exact hj.imp Eq.symm id
  |succ i=>
   have:=e3 i o (by simpa using ho) j;rw[hlen]at this;rw[e0,show acc.length+(i+1)=acc.length+1+i by omega];exact this
structure Ordered(ops:Array Oper)(lg:Nat->Log)(anc:Nat->Nat->Prop):Prop where
 edge:∀(i:Nat)(o:Oper),ops[i]?=some o->∀j,anc i j<->∃e,e∈o.after.toList/\Region.binds .any e=true/\(j=e.on\/anc e.on j)
 less:∀(i:Nat)(o:Oper),ops[i]?=some o->∀e,e∈o.after.toList->Region.binds .any e=true->e.on<i
 apart:∀i j,i<j->j<ops.size->anc j i\/qk3 (lg i) (lg j)=true
theorem qrb(h1:qck 0 ops.toList=true)(h2:qes (ancs ops.toList []) ((List.range ops.size).map lg)=true) :
 Ordered ops lg fun i j=>((ancs ops.toList []).getD i 0).testBit j=true:=by
 obtain⟨l,e1,e2,e3⟩:=qo1 (acc:=[]) h1;refine⟨fun i o ho j=>?_,fun i o ho e he hb=>?_,fun i j hij hj=>?_⟩
 ·have:=e3 i o (by simpa using ho) j;rw[List.length_nil,gAJ]at this;exact this
 ·have:=qgf h1 i o (by simpa using ho) e he hb;omega
 ·unfold qes at h2;have h3:=gAL.1 h2 j (by simp[hj]);have h4:=gAL.1 h3 i (List.mem_range.2 hij);rw[Bool.or_eq_true]at h4;rcases h4 with h4|h4
  ·exact .inl h4
  ·right;have g:∀k,k<ops.size->((List.range ops.size).map lg).getD k q6l=lg k:=fun k hk=>by simp[gI,hk]
   rw[g i (by omega),g j hj]at h4;exact h4
theorem qa0{a b:Log}(h:qk3 a b=true):(∀x,x∈a.wrT->x∉b.rdT/\x∉b.wrT)/\(∀x,x∈b.wrT->x∉a.rdT)/\(∀x,x∈a.wrO->x∉b.rdO/\x∉b.wrO)/\(∀x,x∈b.wrO->x∉a.rdO):=by
 unfold qk3 at h;simp only[gC]at h;obtain⟨⟨⟨⟨⟨h1,h2⟩,h3⟩,h4⟩,h5⟩,h6⟩:=h;exact⟨fun x hx=>⟨qbt h1 x hx,qbt h2 x hx⟩,fun x hx=>qbt h3 x hx,fun x hx=>⟨qbt h4 x hx,qbt h5 x hx⟩,fun x hx=>qbt h6 x hx⟩
def Closed(n:Nat)(anc:Nat->Nat->Prop)(D:Nat->Prop):Prop:=∀j,j<n->D j->∀k,anc j k->D k
theorem qxd{anc:Nat->Nat->Prop}(ho:Ordered ops lg anc)(hr:Run P A E ops ops.size st lg){D:Nat->Prop}(hD:Closed ops.size anc D){t:St}(hT:∀x,MgT ops.size st lg D t x)(hO:∀x,MgO ops.size st lg D t x)
 {i:Nat} (hi:i<ops.size) (hn:¬ D i) (hanc:∀k,anc i k->D k) :
 ∃t',q60 E (qil ops.toList ops[i] (opP P A ops[i])) t q6l=some (t',lg i)/\(∀x,MgT ops.size st lg (fun j=>D j\/j=i) t' x)/\(∀x,MgO ops.size st lg (fun j=>D j\/j=i) t' x):=by
 have hoi:ops[i]?=some ops[i]:=by simp[hi]
 have hstep:=hr.step i _ hi hoi;have hs:=qdw E _ hstep
 have cmp:∀j,j<ops.size->j≠i->(qk3 (lg j) (lg i)=true->False)->(qk3 (lg i) (lg j)=true->False)->(j<i<->D j):=fun j hj hne h1 h2=>by
  constructor
  ·intro hlt;rcases ho.apart j i hlt hi with h|h
   ·exact hanc j h
   ·exact(h1 h).elim
  ·intro hDj;rcases Nat.lt_or_gt_of_ne hne with h|h
   ·exact h
   ·rcases ho.apart i j h hj with h'|h'
    ·exact absurd (hD j hj hDj i h') hn
    ·exact(h2 h').elim
 have agree:Agrees (lg i) (st i) t:=by
  refine⟨fun x hx=>?_,fun x hx=>?_⟩
  ·refine(hr.mgT x i (by omega)).same (hT x) fun j hj hw=>?_;by_cases hji:j=i
   ·subst hji;simp[hn]
   ·exact cmp j hj hji (fun h=>(qa0 h).1 x hw |>.1 hx) (fun h=>(qa0 h).2.1 x hw hx)
  ·refine(hr.mgO x i (by omega)).same (hO x) fun j hj hw=>?_;by_cases hji:j=i
   ·subst hji;simp[hn]
   ·exact cmp j hj hji (fun h=>(qa0 h).2.2.1 x hw |>.1 hx) (fun h=>(qa0 h).2.2.2 x hw hx)
 obtain⟨t',h1,h2,h3,h4,h5⟩:=qri E _ hstep agree;have hs':=qdw E _ h1;refine⟨t',h1,fun x=>?_,fun x=>?_⟩
 ·by_cases hx:x∈(lg i).wrT
  ·refine .inl ⟨i,hi,.inr rfl,hx,fun j' q1 q2 q3 hw=>?_,h4 x hx (by simp[q6l])⟩;rcases q3 with q3|q3
   ·rcases ho.apart i j' q1 q2 with h|h
    ·exact hn (hD j' q2 q3 i h)
    ·exact((qa0 h).1 x hx).2 hw
   ·omega
  ·have e:t'.getT x=t.getT x:=hs'.2.2.2.2.1 x hx;rcases hT x with⟨j,a1,a2,a3,a4,a5⟩|⟨a1,a2⟩
   ·refine .inl ⟨j,a1,.inl a2,a3,fun j' q1 q2 q3=>?_,e.trans a5⟩;rcases q3 with q3|q3
    ·exact a4 j' q1 q2 q3
    ·rw[q3];exact hx
   ·refine .inr ⟨fun j q1 q2=>?_,e.trans a2⟩;rcases q2 with q2|q2
    ·exact a1 j q1 q2
    ·rw[q2];exact hx
 ·by_cases hx:x∈(lg i).wrO
  ·refine .inl ⟨i,hi,.inr rfl,hx,fun j' q1 q2 q3 hw=>?_,h5 x hx (by simp[q6l])⟩;rcases q3 with q3|q3
   ·rcases ho.apart i j' q1 q2 with h|h
    ·exact hn (hD j' q2 q3 i h)
    ·exact((qa0 h).2.2.1 x hx).2 hw
   ·omega
  ·have e:t'.getO x=t.getO x:=hs'.2.2.2.2.2 x hx;rcases hO x with⟨j,a1,a2,a3,a4,a5⟩|⟨a1,a2⟩
   ·refine .inl ⟨j,a1,.inl a2,a3,fun j' q1 q2 q3=>?_,e.trans a5⟩;rcases q3 with q3|q3
    ·exact a4 j' q1 q2 q3
    ·rw[q3];exact hx
   ·refine .inr ⟨fun j q1 q2=>?_,e.trans a2⟩;rcases q2 with q2|q2
    ·exact a1 j q1 q2
    ·rw[q2];exact hx
def left(n:Nat)(listed:Array Bool):List Nat:=(List.range n).filter fun i=>!listed.getD i true
theorem qje{listed:Array Bool}{i:Nat}:i∈Region.ready .any ops listed<->i<ops.size/\listed.getD i true=false/\∀o,ops[i]?=some o->∀e,e∈o.after.toList->Region.binds .any e=true->listed.getD e.on false=true:=by
 unfold Region.ready;rw[List.mem_filter,List.mem_range];constructor
 ·rintro⟨h1,h2⟩;rw[gC,Bool.not_eq_true']at h2;refine⟨h1,h2.1,fun o ho e he hb=>?_⟩;rw[ho]at h2;simp only[Option.map_some,Option.getD_some]at h2;have:=Array.all_eq_true_iff_forall_mem.1 h2.2 e (by simpa using he);rw[hb]at this;simpa using this
 ·rintro⟨h1,h2,h3⟩;refine⟨h1,?_⟩;have ho:ops[i]?=some ops[i]:=by simp[h1]
  rw[gC,Bool.not_eq_true',ho];refine⟨h2,?_⟩;simp only[Option.map_some,Option.getD_some];refine Array.all_eq_true_iff_forall_mem.2 fun e he=>?_;cases hb:Region.binds .any e with
  |false=>rfl
  |true=>simpa using h3 _ ho e (by simpa using he) hb
theorem qvx(hE:∀g args r,E g args=some r->Meets P (A g) g args r){n:Nat}{tp:Option Nat}{a0:Array Value}(hdst:∀(i:Nat)(o:Oper),ops[i]?=some o->∀d,o.dst=some d->d<n/\tp≠some d){anc:Nat->Nat->Prop}(ho:Ordered ops lg anc)(hr:Run P A E ops ops.size st lg)
 {Q:Exit->Act->World->Prop} (hQ:∀a' w' val' fp',Inv c (st ops.size) a' w' val' fp'->KT a0 tp n a'->Kp c.own w0 w'->Q .normal a' w') :
 ∀(fuel:Nat)(listed:Array Bool)(t:St)(a:Act)(w:World)(val:Key->Value)(fp:Key->List Nat),listed.size=ops.size->(left ops.size listed).length=fuel->
  Closed ops.size anc (fun i=>listed.getD i false=true)->(∀x,MgT ops.size st lg (fun i=>listed.getD i false=true) t x)->(∀x,MgO ops.size st lg (fun i=>listed.getD i false=true) t x)->
  Inv c t a w val fp->KT a0 tp n a->Kp c.own w0 w->wpAny P .any ops Q fuel listed a w:=by
 have fin:∀(listed:Array Bool)(t:St)(a:Act)(w:World)(val:Key->Value)(fp:Key->List Nat),(∀i,i<ops.size->listed.getD i false=true)->(∀x,MgT ops.size st lg (fun i=>listed.getD i false=true) t x)->
  (∀x,MgO ops.size st lg (fun i=>listed.getD i false=true) t x)->Inv c t a w val fp->KT a0 tp n a->Kp c.own w0 w->Q .normal a w:=by
  intro listed t a w val fp hall hT hO hinv hn hk;refine hQ a w val fp (hinv.eqv ⟨fun x=>?_,fun x=>?_⟩) hn hk
  ·exact(hT x).same (hr.mgT x ops.size (gAI _)) fun j hj _=>by simp[hall j hj,hj]
  ·exact(hO x).same (hr.mgO x ops.size (gAI _)) fun j hj _=>by simp[hall j hj,hj]
 have none_ready:∀(listed:Array Bool),listed.size=ops.size->Region.ready .any ops listed=[]->∀i,i<ops.size->listed.getD i false=true:=by
  intro listed hsz hnil i;induction i using Nat.strongRecOn with
  |_ i ih=>
   intro hi;have hoi:ops[i]?=some ops[i]:=by simp[hi]
   cases hl:listed.getD i true with
   |true=>
    have:i<listed.size:=by omega
    simp only[gQ,this,getElem?_pos,Option.getD_some]at hl ⊢;exact hl
   |false=>
    exfalso;have hm:i∈Region.ready .any ops listed:=qje.2 ⟨hi,hl,fun o hoo e he hb=>ih e.on (ho.less i o hoo e he hb) (Nat.lt_trans (ho.less i o hoo e he hb) hi)⟩;rw[hnil]at hm;simp at hm
 intro fuel;induction fuel with
 |zero=>
  intro listed t a w val fp hsz hfuel hcl hT hO hinv hn hk;have hnil:left ops.size listed=[]:=gL hfuel
  have hready:Region.ready .any ops listed=[]:=by
   cases hq:Region.ready .any ops listed with
   |nil=>rfl
   |cons i l=>
    have hm:i∈Region.ready .any ops listed:=by rw[hq];simp
    obtain⟨h1,h2,_⟩:=qje.1 hm;have:i∈left ops.size listed:=by unfold left;rw[List.mem_filter,List.mem_range];exact⟨h1,by rw[h2];rfl⟩
    rw[hnil]at this;simp at this
  exact⟨hready,fin listed t a w val fp (none_ready listed hsz hready) hT hO hinv hn hk⟩
 |succ fuel ih=>
  intro listed t a w val fp hsz hfuel hcl hT hO hinv hn hk;refine⟨fun hready=>fin listed t a w val fp (none_ready listed hsz hready) hT hO hinv hn hk,fun i hi=>?_⟩;obtain⟨h1,h2,h3⟩:=qje.1 hi;have hoi:ops[i]?=some ops[i]:=by simp[h1]
  have hnD:¬ listed.getD i false=true:=by
   have:i<listed.size:=by omega
   simp only[gQ,this,getElem?_pos,Option.getD_some]at h2 ⊢;rw[h2];simp
  have hlt:∀k,anc i k->listed.getD k false=true:=fun k hk=>by
   obtain⟨e,he,hb,hj⟩:=(ho.edge i _ hoi k).1 hk;have hl:=h3 _ hoi e he hb;rcases hj with rfl|hj
   ·exact hl
   ·exact hcl e.on (Nat.lt_trans (ho.less i _ hoi e he hb) h1) hl k hj
  obtain⟨t',hstep,hT',hO'⟩:=qxd ho hr hcl hT hO h1 hnD hlt
  have hD:∀j,(listed.setIfInBounds i true).getD j false=true<->(listed.getD j false=true\/j=i):=fun j=>by
   simp only[gQ];by_cases hji:j=i
   ·subst hji;have:j<listed.size:=by omega
    simp[this]
   ·rw[Array.getElem?_setIfInBounds_ne (fun e=>hji e.symm)];simp[hji]
  refine wpOp_mono (fun a' w' ⟨q1,val',fp',q2,q3⟩=>?_) (qi3 hinv hE hoi (fun d hd=>by rw[hn.1];exact(hdst i _ hoi d hd).1) hstep);refine ih (listed.setIfInBounds i true) t' a' w' val' fp' (by simpa using hsz) ?_ ?_ (fun x=>?_) (fun x=>?_) q2 (hn.next q1 fun d hd=>(hdst i _ hoi d hd).2) (hk.trans q3)
  ·have e:left ops.size (listed.setIfInBounds i true)=(left ops.size listed).filter fun j=>!Nat.beq j i:=by
    unfold left;rw[List.filter_filter];apply List.filter_congr;intro j hj;have hj':=List.mem_range.1 hj;simp only[gQ];by_cases hji:j=i
    ·subst hji;have:j<listed.size:=by omega
     simp[this]
    ·rw[Array.getElem?_setIfInBounds_ne (fun e=>hji e.symm),nbeq hji];simp
   have hcount:∀(l:List Nat),l.Nodup->i∈l->(l.filter fun j=>!Nat.beq j i).length+1=l.length:=by
    intro l;induction l with
    |nil=>intro _ h;simp at h
    |cons y l ih=>
     intro hnd hm;rw[List.nodup_cons]at hnd;by_cases hy:y=i
     ·subst hy;have:(l.filter fun j=>!Nat.beq j y)=l:=List.filter_eq_self.2 fun j hj=>by rw[nbeq (fun e=>hnd.1 (by rw[<- e];exact hj))];rfl
      simp[this]
     ·have hm':i∈l:=(gK.1 hm).resolve_left fun e=>hy e.symm;rw[List.filter_cons,nbeq hy];simp only[Bool.not_false,if_true,gAB];have:=ih hnd.2 hm';omega
   have hmem:i∈left ops.size listed:=by unfold left;rw[List.mem_filter,List.mem_range];exact⟨h1,by rw[h2];rfl⟩
   have:=hcount (left ops.size listed) (List.Nodup.sublist List.filter_sublist List.nodup_range) hmem;rw[e];omega
  ·intro j hj hDj k hk;rw[hD]at hDj ⊢;rcases hDj with hDj|rfl
   ·exact .inl (hcl j hj hDj k hk)
   ·exact .inl (hlt k hk)
  ·have:=hT' x;unfold MgT at this ⊢;simp only[hD];exact this
  ·have:=hO' x;unfold MgO at this ⊢;simp only[hD];exact this
end
end
end Ev
end
section
namespace Ev
open Go
theorem qh5{α β:Type}(d:α)(g:α->β):∀(l:List (Nat×α))(i:Nat),look (g d) (l.map fun q=>(q.1,g q.2)) i=g (look d l i)
 |[],_=>rfl
 |(j,v)::r,i=>by
  simp only[List.map_cons,look];cases Nat.beq j i
  ·exact qh5 d g r i
  ·rfl
theorem qee{α:Type}(d:α)(p:Nat->Bool):∀(l:List (Nat×α))(i:Nat),look d (l.filter fun q=>p q.1) i=if p i=true then look d l i else d
 |[],i=>by simp[look]
 |(j,v)::r,i=>by
  have ih:=qee d p r i;have e:((j,v)::r).filter (fun q=>p q.1)=if p j=true then(j,v)::r.filter (fun q=>p q.1)else r.filter (fun q=>p q.1):=List.filter_cons
  rw[e];cases hp:p j with
  |true=>
   simp only[if_true,look];cases hj:Nat.beq j i with
   |true=>
    have:j=i:=gE hj;subst this;rw[if_pos hp];rfl
   |false=>simp only[cond_false];exact ih
  |false=>
   simp only[Bool.false_eq_true,if_false,look];rw[ih];cases hj:Nat.beq j i with
   |true=>
    have:j=i:=gE hj;subst this;rw[if_neg (by simp[hp]),if_neg (by simp[hp])]
   |false=>rfl
theorem qh6(f:C->C)(s:St)(i:Nat):(s.map f).getT i=mapV f (s.getT i):=qh5 V.any (mapV f) s.tm i
theorem qh4(f:C->C)(s:St)(k:Key):(s.map f).getO k=mapO f (s.getO k):=qh5 Ob.free (mapO f) s.ob k
theorem qs2(p:Key->Bool)(s:St)(i:Nat):(s.clear p).getT i=mapV (qpf p) (s.getT i):=qh6 _ _ _
theorem qan(p:Key->Bool)(s:St)(k:Key):(s.clear p).getO k=if p k=true then .free else mapO (qpf p) (s.getO k):=by
 have h:(s.clear p).getO k=look Ob.free ((s.map (qpf p)).ob.filter fun(j,_)=>!p j) k:=rfl;rw[h,qee Ob.free (fun j=>!p j)];have h2:=qh4 (qpf p) s k;unfold St.getO at h2 ⊢;rw[h2];cases p k <;> simp
section
variable {c:Ctx}{s s':St}{a:Act}{w:World}{val val':Key->Value}{fp fp':Key->List Nat}
structure Leads(fr fr':Fr)(s s':St)(f:C->C):Prop where
 cr:∀x v,CR fr s x v->CR fr' s' (f x) v
theorem Leads.crs{fr fr':Fr}{f:C->C}(h:Leads fr fr' s s' f){cs:List C}{vs:List Value}(hc:CRs fr s cs vs):CRs fr' s' (cs.map f) vs:=by
 refine⟨by simpa using hc.1,fun i x v hx hv=>?_⟩;rw[gAC,gP]at hx;obtain⟨y,hy,rfl⟩:=hx;exact h.cr y v (hc.2 i y v hy hv)
theorem Leads.vr{fr fr':Fr}{f:C->C}(h:Leads fr fr' s s' f){x:V}{v:Value}(hv:VR fr s x v):VR fr' s' (mapV f x) v:=by
 cases x with
 |one y=>exact h.cr y v hv
 |agg cs=>obtain⟨vs,e,hc⟩:=hv;exact⟨vs,e,h.crs hc⟩
 |tup ps=>
  obtain⟨us,e,hl,hp⟩:=hv;refine⟨us,e,by simpa using hl,fun i p u hpi hu=>?_⟩;rw[gAC,gP]at hpi;obtain⟨⟨b,cs⟩,hq,rfl⟩:=hpi;rcases hp i _ u hq hu with⟨h1,vs,h2,h3⟩|⟨h1,y,h2,h3⟩
  ·exact .inl ⟨h1,vs,h2,h.crs h3⟩
  ·simp only at h1 h2;subst h2;exact .inr ⟨h1,f y,rfl,h.cr y u h3⟩
 |clo fn cs=>obtain⟨vs,e,hc⟩:=hv;exact⟨vs,e,h.crs hc⟩
 |skip=>exact hv
 |any=>trivial
theorem Inv.recast(h:Inv c s a w val fp){f:C->C}(uo:Ob->Ob)(huo:(∀o,uo o=o)\/∀o,uo o=qk1 o)(g:Key->Option Key)(hl:Leads (mkFr c w val fp) (mkFr c w val' fp') s s' f)
 (ht:∀i,s'.getT i=mapV f (s.getT i)\/s'.getT i=.any)
 (hg:∀k,(g k=none/\s'.getO k=.free/\fp' k=[])\/∃j,g k=some j/\s'.getO k=uo (mapO f (s.getO j))/\val' k=val j/\fp' k=fp j) (hinj:∀k k' j,g k=some j->g k'=some j->k=k')
 (hrb:∀x v,RB w (inI c w fp) (inJ c w fp) x v->RB w (inI c w fp') (inJ c w fp') x v):Inv c s' a w val' fp':=by
 have shr:∀{sz:Nat}{cells:List T}{u:Value}{F:List Nat},ShR (mkFr c w val fp) sz cells u F->ShR (mkFr c w val' fp') sz cells u F:=fun hob=>by
  rcases hob with h1|⟨g',len,cap,cur,e,vs,r0,r1,r2,r3,r4,r5,r6,r7,r8,r9⟩
  ·exact .inl h1
  ·exact .inr ⟨g',len,cap,cur,e,vs,r0,r1,r2,r3,r4,r5,r6,r7,r8,fun i x hx=>hrb x _ (r9 i x hx)⟩
 refine⟨fun k=>?_,fun i=>?_,fun k k' hne b hb hb'=>?_,fun k b hb=>?_,h.size,h.defers,h.ij⟩
 ·rcases hg k with⟨_,e1,e2⟩|⟨j,_,e1,e2,e3⟩
  ·rw[e1,e2];rfl
  ·rw[e1,e2,e3];have hob:=h.obs j
   have un:∀{o:Ob},ObR (mkFr c w val' fp') s' o (val j) (fp j)->ObR (mkFr c w val' fp') s' (uo o) (val j) (fp j):=fun {o} ho=>by
    rcases huo with e|e
    ·rw[e];exact ho
    ·rw[e];cases o with
     |lent deep sz cells=>cases deep <;> exact ho
     |_=>exact ho
   refine un ?_;cases ho:s.getO j with
   |box cs=>
    rw[ho]at hob;obtain⟨b,cur,e,hu,hF,hh,hc⟩:=hob;exact⟨b,cur,e,hu,hF,hh,hl.crs hc⟩
   |arr own deep sz cells=>
    rw[ho]at hob;cases own with
    |true=>
     cases deep with
     |true=>exact hob
     |false=>exact shr hob
    |false=>exact⟨hrb _ _ hob.1,hob.2⟩
   |free=>rw[ho]at hob;exact hob
   |gone=>rw[ho]at hob;exact hob
   |moved k'=>rw[ho]at hob;exact hob
   |lent deep sz cells=>
    rw[ho]at hob;cases deep with
    |true=>exact hob
    |false=>exact shr hob
   |opn sz cells ws=>
    rw[ho]at hob;obtain⟨g',len,cap,cur,e,vs,fs,r0,r1,r2,r3,r4,r5,r6,r7,r8,r9,r10⟩:=hob;refine⟨g',len,cap,cur,e,vs,fs,r0,r1,⟨r2.1,fun i hi=>r2.2 i (by rw[qhv]at hi;simpa using hi)⟩,r3,r4,r5,r6,r7,r8,fun i x hx=>?_,r10⟩;have:=r9 i x hx;unfold WR at *;rw[qhv];cases hc:q5s ws i with
    |none=>rw[hc]at this;exact this
    |some c=>rw[hc]at this;exact⟨hl.cr _ _ this.1,this.2⟩
   |mp l=>rw[ho]at hob;exact hob
 ·rcases ht i with e|e
  ·rw[e];exact hl.vr (h.tms i)
  ·rw[e];trivial
 ·rcases hg k with⟨_,_,e2⟩|⟨j,e0,_,_,e3⟩
  ·rw[e2]at hb;simp at hb
  ·rcases hg k' with⟨_,_,e2'⟩|⟨j',e0',_,_,e3'⟩
   ·rw[e2']at hb';simp at hb'
   ·rw[e3]at hb;rw[e3']at hb';exact h.disj j j' (fun e=>hne (hinj k k' j e0 (e▸e0'))) b hb hb'
 ·rcases hg k with⟨_,_,e2⟩|⟨j,_,_,_,e3⟩
  ·rw[e2]at hb;simp at hb
  ·rw[e3]at hb;exact h.mine j b hb
theorem qlo{o:Ob}{f:C->C}{p:Prop}:(mapO f o).ref p<->o.ref p:=by cases o <;> exact Iff.rfl
theorem Inv.clear(h:Inv c s a w val fp)(p:Key->Bool):∃fp',Inv c (s.clear p) a w val fp':=by
 let fp':Key->List Nat:=fun k=>if p k=true then[]else fp k
 have hsub:∀k b,b∈fp' k->b∈fp k:=fun k b hb=>by
  simp only[fp']at hb;split at hb
  ·simp at hb
  ·exact hb
 have hrb:∀x v,RB w (inI c w fp) (inJ c w fp) x v->RB w (inI c w fp') (inJ c w fp') x v:=fun x v hx=>
  RB.move hx (fun b hb=>⟨⟨hb.1,hb.2.1,fun k hk=>hb.2.2 k (hsub k b hk)⟩,rfl⟩) (fun b hb=>⟨⟨hb.1,hb.2.1,fun k hk=>hb.2.2 k (hsub k b hk)⟩,rfl⟩)
 refine⟨fp',h.recast (f:=qpf p) (val':=val) id (.inl fun _=>rfl) (fun k=>if p k=true then none else some k) ⟨fun x v hx=>?_⟩ (fun i=>.inl (qs2 p s i)) (fun k=>?_) (fun k k' j h1 h2=>?_) hrb⟩
 ·cases x with
  |t y=>exact hrb y v hx
  |kept j y=>exact⟨hrb y v hx.1,hx.2⟩
  |nil=>exact hx
  |undef=>exact hx
  |ptr k q=>
   show CR _ _ (bif p k then C.undef else C.ptr k q) v;cases hp:p k with
   |true=>exact CR.one hx
   |false=>
    refine⟨?_,hx.2⟩;rw[qan,hp];exact qlo.2 hx.1
  |view y=>
   have key:∀b,Lent (mkFr c w val fp) s b->Lent (mkFr c w val fp') (s.clear p) b\/(inI c w fp' b/\inJ c w fp' b):=by
    rintro b ⟨k,hk,hb⟩;have hb:b∈fp k:=hb;cases hp:p k with
    |true=>
     have hn:∀j,b∉fp' j:=fun j hj=>by
      have hj':=hsub j b hj;by_cases hjk:j=k
      ·subst hjk;simp[fp',hp]at hj
      ·exact h.disj j k hjk b hj' hb
     exact .inr ⟨⟨.inr (h.mine k b hb),h.lt hb,hn⟩,⟨.inr (h.mine k b hb),h.lt hb,hn⟩⟩
    |false=>
     refine .inl ⟨k,?_,by show b∈fp' k;simp[fp',hp];exact hb⟩;rw[qan,hp];simp only[Bool.false_eq_true,if_false];revert hk;cases s.getO k <;> simp[mapO,Ob.isLent]
   have hx:RB w (fun b=>inI c w fp b\/Lent (mkFr c w val fp) s b) (fun b=>inJ c w fp b\/Lent (mkFr c w val fp) s b) y v:=hx;refine RB.move hx (fun b hb=>⟨?_,rfl⟩) (fun b hb=>⟨?_,rfl⟩)
   ·rcases hb with hb|hb
    ·exact .inl ⟨hb.1,hb.2.1,fun k hk=>hb.2.2 k (hsub k b hk)⟩
    ·exact(key b hb).symm.imp (fun h=>h.1) id
   ·rcases hb with hb|hb
    ·exact .inl ⟨hb.1,hb.2.1,fun k hk=>hb.2.2 k (hsub k b hk)⟩
    ·exact(key b hb).symm.imp (fun h=>h.2) id
  |obj k=>
   show CR _ _ (bif p k then C.undef else C.obj k) v;cases hp:p k with
   |true=>exact CR.one hx
   |false=>
    refine⟨?_,hx.2⟩;rw[qan,hp];exact qlo.2 hx.1
 ·cases hp:p k with
  |true=>exact .inl ⟨by simp,by rw[qan,hp];simp,by simp[fp',hp]⟩
  |false=>exact .inr ⟨k,by simp,by rw[qan,hp];simp,rfl,by simp[fp',hp]⟩
 ·split at h1
  ·cases h1
  ·split at h2
   ·cases h2
   ·cases h1;cases h2;rfl
theorem qqq{α:Type}(d:α)(k k':Key)(hne:k≠k'):∀(l:List (Nat×α)),(∀q,q∈l->q.1≠k)->∀j,look d (l.map fun q=>(renK k k' q.1,q.2)) j=if j=k then look d l k' else if j=k' then d else look d l j
 |[],_,j=>by simp[look]
 |(i,v)::r,h,j=>by
  have ih:=qqq d k k' hne r (fun q hq=>h q (by simp[hq])) j;have hik:i≠k:=h (i,v) (by simp);rw[List.map_cons];show(bif Nat.beq (renK k k' i) j then v else look d (r.map fun q=>(renK k k' q.1,q.2)) j)=if j=k then(bif Nat.beq i k' then v else look d r k')else if j=k' then d else(bif Nat.beq i j then v else look d r j)
  by_cases hi:i=k'
  ·subst hi;have eK:renK k i i=k:=by unfold renK;simp
   have e1:Nat.beq i i=true:=by simp
   rw[eK,e1];simp only[cond_true];by_cases hj:j=k
   ·subst hj;have e2:Nat.beq j j=true:=by simp
    rw[e2,if_pos rfl];rfl
   ·rw[nbeq (fun e=>hj e.symm),if_neg hj];simp only[cond_false];rw[ih,if_neg hj];by_cases hj':j=i
    ·rw[if_pos hj',if_pos hj']
    ·rw[if_neg hj',if_neg hj',nbeq (fun e=>hj' e.symm)];rfl
  ·have eK:renK k k' i=i:=by unfold renK;rw[nbeq hi];rfl
   rw[eK,nbeq hi];simp only[cond_false];by_cases hj:j=k
   ·subst hj;rw[nbeq hik,if_pos rfl];simp only[cond_false];rw[ih,if_pos rfl]
   ·rw[if_neg hj];by_cases hj':j=k'
    ·subst hj';rw[nbeq hi,if_pos rfl];simp only[cond_false];rw[ih,if_neg hj,if_pos rfl]
    ·rw[if_neg hj'];cases hij:Nat.beq i j with
     |true=>rfl
     |false=>simp only[cond_false];rw[ih,if_neg hj,if_neg hj']
theorem qr7(p:Key->Bool)(s:St):∀q,q∈(s.clear p).ob->p q.1=false:=by
 intro q hq;have:q∈(s.map (qpf p)).ob.filter fun(k,_)=>!p k:=hq;rw[List.mem_filter]at this;simpa using this.2
theorem Inv.rename(h:Inv c s a w val fp)(k k':Key):∃val' fp',Inv c (s.rename k k') a w val' fp':=by
 obtain⟨fp0,h0⟩:=h.clear (Nat.beq k);by_cases hne:k=k'
 ·subst hne
  have hren:∀x,renC k k x=x:=fun x=>by
   cases x with
   |ptr j q=>
    show(bif Nat.beq j k then C.ptr k q else C.ptr j q)=C.ptr j q;cases hj:Nat.beq j k with
    |true=>rw[gE hj];rfl
    |false=>rfl
   |obj j=>
    show(bif Nat.beq j k then C.obj k else C.obj j)=C.obj j;cases hj:Nat.beq j k with
    |true=>rw[gE hj];rfl
    |false=>rfl
   |_=>rfl
  have hid:renC k k=id:=funext hren
  have hK:∀j,renK k k j=j:=fun j=>by
   unfold renK;cases hj:Nat.beq j k with
   |true=>rw[gE hj];rfl
   |false=>rfl
  refine⟨val,fp0,h0.eqv ⟨fun i=>?_,fun j=>?_⟩⟩
  ·show(((s.clear (Nat.beq k)).map (renC k k)).getT i)=_;rw[qh6,hid];cases (s.clear (Nat.beq k)).getT i <;> simp[mapV]
  ·have e:(s.rename k k).getO j=look Ob.free (((s.clear (Nat.beq k)).map (renC k k)).ob.map fun(j,o)=>(renK k k j,o)) j:=rfl;rw[e];simp only[hK];have e2:(((s.clear (Nat.beq k)).map (renC k k)).ob.map fun x:Key×Ob=>(x.1,x.2))=((s.clear (Nat.beq k)).map (renC k k)).ob:=by simp
   rw[e2];have e3:=qh4 (renC k k) (s.clear (Nat.beq k)) j;unfold St.getO at e3 ⊢;rw[e3,hid];cases look Ob.free (s.clear (Nat.beq k)).ob j <;> simp[mapO]
 ·have hO:∀j,(s.rename k k').getO j=if j=k then mapO (renC k k') ((s.clear (Nat.beq k)).getO k')else if j=k' then .free else mapO (renC k k') ((s.clear (Nat.beq k)).getO j):=fun j=>by
   have e:(s.rename k k').getO j=look Ob.free (((s.clear (Nat.beq k)).map (renC k k')).ob.map fun(j,o)=>(renK k k' j,o)) j:=rfl
   have hkeys:∀q,q∈((s.clear (Nat.beq k)).map (renC k k')).ob->q.1≠k:=by
    intro q hq;have:q∈(s.clear (Nat.beq k)).ob.map fun(k_1,o)=>(k_1,mapO (renC k k') o):=hq;rw[List.mem_map]at this;obtain⟨q',hq',rfl⟩:=this;have:=qr7 (Nat.beq k) s q' hq';intro e;simp only at e;rw[e]at this;simp at this
   rw[e,qqq Ob.free k k' hne _ hkeys];have e3:∀j,look Ob.free ((s.clear (Nat.beq k)).map (renC k k')).ob j=mapO (renC k k') ((s.clear (Nat.beq k)).getO j):=fun j=>qh4 (renC k k') (s.clear (Nat.beq k)) j;rw[e3,e3]
  have hkfree:(s.clear (Nat.beq k)).getO k=.free:=by rw[qan];simp
  let val':Key->Value:=fun j=>if j=k then val k' else val j
  let fp':Key->List Nat:=fun j=>if j=k then fp0 k' else if j=k' then[]else fp0 j
  have hrb:∀x v,RB w (inI c w fp0) (inJ c w fp0) x v->RB w (inI c w fp') (inJ c w fp') x v:=fun x v hx=>by
   have key:∀b,(∀j,b∉fp0 j)->∀j,b∉fp' j:=fun b hb j hj=>by
    simp only[fp']at hj;split at hj
    ·exact hb k' hj
    ·split at hj
     ·simp at hj
     ·exact hb j hj
   exact RB.move hx (fun b hb=>⟨⟨hb.1,hb.2.1,key b hb.2.2⟩,rfl⟩) (fun b hb=>⟨⟨hb.1,hb.2.1,key b hb.2.2⟩,rfl⟩)
  refine⟨val',fp',h0.recast (f:=renC k k') id (.inl fun _=>rfl) (fun j=>if j=k then some k' else if j=k' then none else some j) ⟨fun x v hx=>?_⟩ (fun i=>.inl ?_) (fun j=>?_) (fun j j' i h1 h2=>?_) hrb⟩
  ·have refs:∀(j:Key)(q:Value->Prop),((s.clear (Nat.beq k)).getO j).ref (q (val j))->((s.rename k k').getO (renK k k' j)).ref (q (val' (renK k k' j))):=by
    intro j q hq;unfold renK;cases hj:Nat.beq j k' with
    |true=>
     have:j=k':=gE hj;subst this;simp only[cond_true,val',if_true];rw[hO,if_pos rfl];exact qlo.2 hq
    |false=>
     have hj':j≠k':=fun e=>by rw[e]at hj;simp at hj
     have hjk:j≠k:=fun e=>by
      rw[e,hkfree]at hq;exact hq.elim
     simp only[cond_false,val',if_neg hjk];rw[hO,if_neg hjk,if_neg hj'];exact qlo.2 hq
   cases x with
   |t y=>exact hrb y v hx
   |kept j y=>exact⟨hrb y v hx.1,hx.2⟩
   |nil=>exact hx
   |undef=>exact hx
   |ptr j q=>
    have:=refs j (fun u=>q8j u q v) hx.1;show CR _ _ (bif Nat.beq j k' then C.ptr k q else C.ptr j q) v;unfold renK at this;cases hj:Nat.beq j k' with
    |true=>rw[hj]at this;exact⟨this,hx.2⟩
    |false=>rw[hj]at this;exact⟨this,hx.2⟩
   |view y=>
    have key:∀b,Lent (mkFr c w val fp0) (s.clear (Nat.beq k)) b->Lent (mkFr c w val' fp') (s.rename k k') b:=by
     rintro b ⟨j,hj,hb⟩;have hb:b∈fp0 j:=hb;have lm:∀o:Ob,o.isLent=true->(mapO (renC k k') o).isLent=true:=fun o ho=>by cases o <;> first|exact ho|cases ho
     have hjk:j≠k:=fun e=>by rw[e,hkfree]at hj;cases hj
     by_cases hj':j=k'
     ·refine⟨k,by rw[hO,if_pos rfl];exact lm _ (hj'▸hj),?_⟩;show b∈fp' k;simp only[fp',if_true];exact hj'▸hb
     ·refine⟨j,by rw[hO,if_neg hjk,if_neg hj'];exact lm _ hj,?_⟩;show b∈fp' j;simp only[fp',if_neg hjk,if_neg hj'];exact hb
    have keyN:∀b,(∀j,b∉fp0 j)->∀j,b∉fp' j:=fun b hb j hj=>by
     simp only[fp']at hj;split at hj
     ·exact hb k' hj
     ·split at hj
      ·simp at hj
      ·exact hb j hj
    have hx:RB w (fun b=>inI c w fp0 b\/Lent (mkFr c w val fp0) (s.clear (Nat.beq k)) b) (fun b=>inJ c w fp0 b\/Lent (mkFr c w val fp0) (s.clear (Nat.beq k)) b) y v:=hx;exact RB.move hx (fun b hb=>⟨hb.imp (fun hb=>⟨hb.1,hb.2.1,keyN b hb.2.2⟩) (key b),rfl⟩) (fun b hb=>⟨hb.imp (fun hb=>⟨hb.1,hb.2.1,keyN b hb.2.2⟩) (key b),rfl⟩)
   |obj j=>
    have:=refs j (fun u=>v=u) hx.1;show CR _ _ (bif Nat.beq j k' then C.obj k else C.obj j) v;unfold renK at this;cases hj:Nat.beq j k' with
    |true=>rw[hj]at this;exact⟨this,hx.2⟩
    |false=>rw[hj]at this;exact⟨this,hx.2⟩
  ·show((s.clear (Nat.beq k)).map (renC k k')).getT i=_;rw[qh6]
  ·by_cases h1:j=k
   ·subst h1;exact .inr ⟨k',by simp,by rw[hO,if_pos rfl];rfl,by simp[val'],by simp[fp']⟩
   ·by_cases h2:j=k'
    ·subst h2;exact .inl ⟨by simp[h1],by rw[hO,if_neg h1,if_pos rfl],by simp[fp',h1]⟩
    ·exact .inr ⟨j,by simp[h1,h2],by rw[hO,if_neg h1,if_neg h2];rfl,by simp[val',h1],by simp[fp',h1,h2]⟩
  ·by_cases a1:j=k <;> by_cases a2:j'=k
   ·rw[a1,a2]
   ·exfalso;rw[if_pos a1]at h1;rw[if_neg a2]at h2;cases h1;split at h2
    ·cases h2
    ·rename_i a3;cases h2;exact a3 rfl
   ·exfalso;rw[if_neg a1]at h1;rw[if_pos a2]at h2;cases h2;split at h1
    ·cases h1
    ·rename_i a3;cases h1;exact a3 rfl
   ·rw[if_neg a1]at h1;rw[if_neg a2]at h2;split at h1
    ·cases h1
    ·split at h2
     ·cases h2
     ·cases h1;cases h2;rfl
theorem Inv.settle:∀(n:Nat){s:St}{val:Key->Value}{fp:Key->List Nat},Inv c s a w val fp->∃val' fp',Inv c (settle n s) a w val' fp'
 |0,s,val,fp,h=>⟨val,fp,h⟩
 |n+1,s,val,fp,h=>by
  unfold Ev.settle;split
  ·obtain⟨val',fp',h'⟩:=h.rename _ _;exact h'.settle n
  ·exact⟨val,fp,h⟩
theorem Inv.prepare(h:Inv c s a w val fp)(ops:List Oper):∃fp',Inv c (prepare ops s) a w val fp':=h.clear _
theorem qp5(h:Inv c s a w val fp){L:List Key}{s1:St}(hm:Moved s s1 L)(x:C):∃M F,Moved s (qpi s1 x).2 (M++L)/\(∀v,CR (mkFr c w val fp) s x v->RO w (qpi s1 x).1 v F)/\F.Nodup/\∀b,b∈F->∃k,k∈M/\b∈fp k:=by
 cases x with
 |t y=>
  refine⟨[],[],hm,fun v hv=>?_,List.nodup_nil,by simp⟩;show RO w (bif y.scalar then y else T.hole) v [];cases hs:y.scalar with
  |true=>exact qeu (CR_t hv) hs
  |false=>exact .hole (CR.one hv)
 |obj j=>
  show ∃M F,Moved s (match s1.getO j with
   |.arr true true sz cs=>(T.sl sz cs,s1.setO j .gone)
   |_=>(.hole,s1)).2 (M++L)/\(∀v,CR (mkFr c w val fp) s (.obj j) v->RO w (match s1.getO j with
   |.arr true true sz cs=>(T.sl sz cs,s1.setO j .gone)
   |_=>(.hole,s1)).1 v F)/\F.Nodup/\∀b,b∈F->∃k,k∈M/\b∈fp k
  split
  ·rename_i sz cs hj;obtain⟨hn,hj0,hm'⟩:=hm.add (o:=.gone) (.inl rfl) hj;have hob:=h.obs j;rw[hj0]at hob;refine⟨[j],fp j,hm',fun v hv=>?_,RO.nodup hob,fun b hb=>⟨j,by simp,hb⟩⟩;rw[qcc hv (by rw[hj0];rfl)];exact hob
  ·exact⟨[],[],hm,fun v hv=>.hole (CR.one hv),List.nodup_nil,by simp⟩
 |nil=>exact⟨[],[],hm,fun v hv=>.hole (CR.one hv),List.nodup_nil,by simp⟩
 |kept _ _=>exact⟨[],[],hm,fun v hv=>.hole (CR.one hv),List.nodup_nil,by simp⟩
 |ptr k q=>exact⟨[],[],hm,fun v hv=>.hole (CR.one hv),List.nodup_nil,by simp⟩
 |undef=>exact⟨[],[],hm,fun v hv=>.hole (CR.one hv),List.nodup_nil,by simp⟩
 |view y=>exact⟨[],[],hm,fun v hv=>.hole (CR.one hv),List.nodup_nil,by simp⟩
theorem qj2(h:Inv c s a w val fp):∀(ws:List (Nat×C)){L:List Key}{s1:St},Moved s s1 L->∃M,∃fs:Nat->List Nat,Moved s (qfs s1 ws).2 (M++L)/\
 (∀i,(q5s ws i=none/\qf8 (qfs s1 ws).1 i=none)\/∃x y,q5s ws i=some x/\qf8 (qfs s1 ws).1 i=some y/\∀v,CR (mkFr c w val fp) s x v->RO w y v (fs i))/\
 (∀i,(fs i).Nodup)/\(∀i j,i≠j->∀b,b∈fs i->b∉fs j)/\∀i b,b∈fs i->∃k,k∈M/\b∈fp k
 |[],L,s1,hm=>⟨[],fun _=>[],hm,fun _=>.inl ⟨rfl,rfl⟩,fun _=>List.nodup_nil,by simp,by simp⟩
 |(q,x)::r,L,s1,hm=>by
  obtain⟨M,F,hm1,h1,h2,h3⟩:=qp5 h hm x;obtain⟨M',fs,hm2,g1,g2,g3,g4⟩:=qj2 h r hm1
  have hap:∀k,k∈M->k∉M':=fun k hk hk'=>by
   have:=hm2.nd;rw[List.nodup_append]at this;exact this.2.2 k hk' k (gJ _ hk) rfl
  have cross:∀b,b∈F->∀i,b∉fs i:=fun b hb i hbi=>by
   obtain⟨k,hk,hbk⟩:=h3 b hb;obtain⟨k',hk',hbk'⟩:=g4 i b hbi;exact h.disj k k' (fun e=>hap k hk (e▸hk')) b hbk hbk'
  refine⟨M'++M,fun i=>if q=i then F else fs i,by rw[gZ];exact hm2,fun i=>?_,fun i=>?_,fun i j hne b hb hb'=>?_,fun i b hb=>?_⟩
  ·by_cases hq:q=i
   ·refine .inr ⟨x,(qpi s1 x).1,by rw[q5s,if_pos hq],by show qf8 ((q,_)::_) i=_;rw[qf8,if_pos hq],?_⟩;simp only[if_pos hq];exact h1
   ·have e1:q5s ((q,x)::r) i=q5s r i:=by rw[q5s,if_neg hq]
    have e2:qf8 (qfs s1 ((q,x)::r)).1 i=qf8 (qfs (qpi s1 x).2 r).1 i:=by
     show qf8 ((q,_)::_) i=_;rw[qf8,if_neg hq]
    rw[e1,e2];simp only[if_neg hq];exact g1 i
  ·by_cases hq:q=i
   ·simp only[hq,if_true];exact h2
   ·simp only[if_neg hq];exact g2 i
  ·by_cases hq:q=i
   ·simp only[if_pos hq,if_neg (fun e=>hne (hq.symm.trans e))]at hb hb';exact cross b hb j hb'
   ·by_cases hq':q=j
    ·simp only[if_neg hq,if_pos hq']at hb hb';exact cross b hb' i hb
    ·simp only[if_neg hq,if_neg hq']at hb hb';exact g3 i j hne b hb hb'
  ·by_cases hq:q=i
   ·simp only[if_pos hq]at hb;obtain⟨k,hk,hb⟩:=h3 b hb;exact⟨k,gN _ hk,hb⟩
   ·simp only[if_neg hq]at hb;obtain⟨k,hk,hb⟩:=g4 i b hb;exact⟨k,gJ _ hk,hb⟩
theorem Inv.pack(h:Inv c s a w val fp){k:Key}{sz:Nat}{cells:List T}{ws:List (Nat×C)}(hk:s.getO k=.opn sz cells ws) :
 ∃val' fp',Inv c ((qfs s ws).2.setO k (.arr true true sz (qjm cells (qfs s ws).1))) a w val' fp':=by
 obtain⟨M,fs,hm,g1,g2,g3,g4⟩:=qj2 h ws (Moved.refl s);rw[gAD]at hm
 have hkM:k∉M:=fun hkM=>by
  obtain⟨_,⟨d,sz',cells',e⟩|⟨m,e⟩⟩:=hm.gone k hkM <;> rw[hk]at e <;> cases e
 have hob:=h.obs k;rw[hk]at hob;obtain⟨g,len,cap,cur,e,vs,fs0,hu,hF,hsz,hg,hlen,hcap,hmax,hcur,hv,hel,hnd⟩:=hob;have hg:w.heap[g]?=some (.cells cur e (0,0)):=hg;let fs':Nat->List Nat:=fun i=>match q5s ws i with|some _=>fs i|none=>fs0 i
 rw[List.nodup_cons]at hnd;have hnd2:=(q6u cells.length fs0).1 hnd.2
 have old:∀i b,i<cells.length->b∈fs0 i->b∈fp k:=fun i b hi hb=>by
  rw[hF];exact gF _ (q23.2 ⟨i,hi,hb⟩)
 have hgk:g∈fp k:=by rw[hF];simp
 have cross:∀b,b∈fp k->∀i,b∉fs i:=fun b hb i hbi=>by
  obtain⟨k',hk',hbk'⟩:=g4 i b hbi;exact h.disj k k' (fun e=>hkM (e▸hk')) b hb hbk'
 have cs:∀i b,i<cells.length->b∈fs' i->(b∈fs i/\(q5s ws i).isSome)\/(b∈fs0 i/\q5s ws i=none):=fun i b hi hb=>by
  simp only[fs']at hb;cases hw:q5s ws i with
  |some x=>rw[hw]at hb;exact .inl ⟨hb,rfl⟩
  |none=>rw[hw]at hb;exact .inr ⟨hb,rfl⟩
 have hnd':(g::(List.range cells.length).flatMap fs').Nodup:=by
  rw[List.nodup_cons];refine⟨fun hb=>?_,(q6u cells.length fs').2 ⟨fun i hi=>?_,fun i j hi hj hne b hb hb'=>?_⟩⟩
  ·obtain⟨i,hi,hbi⟩:=q23.1 hb;rcases cs i g hi hbi with⟨h1,_⟩|⟨h1,_⟩
   ·exact cross g hgk i h1
   ·exact hnd.1 (q23.2 ⟨i,hi,h1⟩)
  ·simp only[fs'];split
   ·exact g2 i
   ·exact hnd2.1 i hi
  ·rcases cs i b hi hb with⟨h1,_⟩|⟨h1,_⟩
   ·rcases cs j b hj hb' with⟨h2,_⟩|⟨h2,_⟩
    ·exact g3 i j hne b h1 h2
    ·exact cross b (old j b hj h2) i h1
   ·rcases cs j b hj hb' with⟨h2,_⟩|⟨h2,_⟩
    ·exact cross b (old i b hi h1) j h2
    ·exact hnd2.2 i j hi hj hne b h1 h2
 refine⟨_,_,(h.finish (w':=w) hm hkM (o':=.arr true true sz (qjm cells (qfs s ws).1)) (u':=val k) (F':=g::(List.range cells.length).flatMap fs') (by rw[hk];rfl) (by rw[hk];rfl) (fun b hb=>.inl ?_)
  (fun _ _ _=>rfl) (gAI _) rfl rfl rfl (fun _=>?_)).1⟩
 ·rcases gK.1 hb with rfl|hb
  ·exact⟨k,.inr rfl,hgk⟩
  ·obtain⟨i,hi,hbi⟩:=q23.1 hb;rcases cs i b hi hbi with⟨h1,_⟩|⟨h1,_⟩
   ·obtain⟨k',hk',hbk'⟩:=g4 i b h1;exact⟨k',.inl hk',hbk'⟩
   ·exact⟨k,.inr rfl,old i b hi h1⟩
 ·have hl:=qbv (qfs s ws).1 cells;show RO w _ (val k) _;rw[hu,<- hl];rw[<- hl]at hnd';refine RO.sl vs fs' hsz.1 hg (by rw[hl];exact hlen) hcap hmax hcur (fun i hi=>hv i (by rwa[hl]at hi)) (fun i x hx=>?_) hnd';have hi:i<cells.length:=by have:=(gB.1 hx).1;rwa[hl]at this
  rw[qhw _ _ _ hi]at hx;have hw:=hel i _ (gA hi);unfold WR at hw;rcases g1 i with⟨h1,h2⟩|⟨x',y,h1,h2,h3⟩
  ·rw[h1]at hw;rw[h2]at hx;have hx:cells[i]?=some x:=hx;rw[gA hi]at hx;cases hx;simp only[fs',h1];exact hw
  ·rw[h1]at hw;rw[h2]at hx;have hx:some y=some x:=hx;cases hx;simp only[fs',h1];exact h3 _ hw.1
theorem qi6{α:Type}(d:α)(p:Nat->Bool)(j:Nat)(hj:p j=true):∀m:List (Nat×α),look d (m.filter fun q=>p q.1) j=look d m j
 |[]=>rfl
 |(k,v)::m=>by
  rw[List.filter_cons];by_cases hk:k=j
  ·subst hk;simp[hj,look]
  ·have hb:Nat.beq k j=false:=by
    cases h:Nat.beq k j with
    |false=>rfl
    |true=>exact absurd (gE h) hk
   split
   ·rw[look,look,hb,cond_false,cond_false];exact qi6 d p j hj m
   ·rw[look,hb,cond_false];exact qi6 d p j hj m
theorem qjv{α:Type}(d:α)(f:Nat->α)(j:Nat)(m:List (Nat×α))(hm:look d m j=f j):∀l:List Nat,look d ((l.map fun k=>(k,f k))++m) j=f j
 |[]=>hm
 |k::l=>by
  rw[List.map_cons,List.cons_append,look];by_cases hk:k=j
  ·subst hk;simp
  ·have hb:Nat.beq k j=false:=by
    cases h:Nat.beq k j with
    |false=>rfl
    |true=>exact absurd (gE h) hk
   rw[hb,cond_false];exact qjv d f j m hm l
theorem qrz(ob:List (Key×Ob))(l:List Key)(j:Key):look Ob.free ((l.map fun k=>(k,look Ob.free ob k))++ob.filter fun q=>!memN l q.1) j=look Ob.free ob j:=by
 cases hj:memN l j with
 |false=>exact qjv _ (fun k=>look Ob.free ob k) j _ (qi6 Ob.free (fun k=>!memN l k) j (by simp[hj]) ob) l
 |true=>
  have hmem:j∈l:=by
   unfold memN at hj;obtain⟨x,hx,e⟩:=List.any_eq_true.1 hj;rwa[gE e]
  revert hmem;generalize (ob.filter fun q=>!memN l q.1)=m;clear hj;induction l with
  |nil=>intro h;cases h
  |cons k l ih=>
   intro hmem;rw[List.map_cons,List.cons_append,look];by_cases hk:k=j
   ·subst hk;simp
   ·have hb:Nat.beq k j=false:=by
     cases h:Nat.beq k j with
     |false=>rfl
     |true=>exact absurd (gE h) hk
    rw[hb,cond_false];exact ih ((gK.1 hmem).resolve_left fun e=>hk e.symm)
theorem qi8:∀{cs:List C}{xs:List T},qns cs=some xs->cs.length=xs.length/\∀(i:Nat)(x:T),xs[i]?=some x->cs[i]?=some (C.t x)
 |[],xs,h=>by cases h;simp
 |c::r,xs,h=>by
  cases c with
  |t x=>
   simp only[qns]at h;cases hr:qns r with
   |none=>rw[hr]at h;cases h
   |some l=>
    rw[hr]at h;cases h;have ih:=qi8 hr;refine⟨by simp[ih.1],fun i y hy=>?_⟩;cases i with
    |zero=>simp at hy ⊢;exact hy
    |succ i=>simp at hy ⊢;exact ih.2 i y hy
  |_=>cases h
theorem Inv.lendO(h:Inv c s a w val fp)(k:Key):∃val' fp',Inv c (lendO s k) a w val' fp':=by
 unfold Ev.lendO;split
 ·rename_i deep sz cs hk;have hob:=h.obs k;rw[hk]at hob;refine⟨_,_,(h.change1 (w':=w) k (.lent deep sz cs) (val k) (fp k) (by rw[hk];rfl) (by rw[hk];rfl) (fun b hb=>.inl hb) (fun _ _ _=>rfl) (gAI _) rfl rfl rfl (fun g=>?_)).1⟩;cases deep with
  |true=>exact hob
  |false=>exact ShR.goes g hob fun _ _=>rfl
 ·exact⟨val,fp,h⟩
theorem Inv.eachO{f:St->Key->St}:∀{l:List Key}{s:St}{val:Key->Value}{fp:Key->List Nat},Inv c s a w val fp->(∀{s:St}{val:Key->Value}{fp:Key->List Nat},Inv c s a w val fp->∀k,∃val' fp',Inv c (f s k) a w val' fp')->∃val' fp',Inv c (eachO f s l) a w val' fp'
 |[],s,val,fp,h,_=>⟨val,fp,h⟩
 |k::l,s,val,fp,h,hf=>by
  obtain⟨val',fp',h'⟩:=hf h k;exact h'.eachO hf
theorem qgi(s:St)(k:Key):(Ev.ghost s .reclaim).getO k=qk1 (mapO qn4 (s.getO k)):=by
 have h1:=qh4 qn4 s k;have h2:=qh5 Ob.free qk1 (s.map qn4).ob k;show look Ob.free ((s.map qn4).ob.map fun q=>(q.1,qk1 q.2)) k=_;rw[<- h1];exact h2
theorem Inv.ghost(h:Inv c s a w val fp)(g:Gh):∃val' fp',Inv c (ghost s g) a w val' fp':=by
 cases g with
 |keepT l=>
  have g:Goes (mkFr c w val fp) (mkFr c w val fp) s (Ev.ghost s (.keepT l)):=⟨rfl,fun b hb=>⟨hb,rfl⟩,fun b hb=>⟨hb,rfl⟩,fun k=>Turns.refl _ _,fun b hb=>⟨.inl hb,rfl⟩⟩;refine⟨val,fp,fun k=>(h.obs k).goes g fun _ _=>rfl,fun i=>?_,h.disj,h.mine,h.size,h.defers,h.ij⟩;have e:(Ev.ghost s (.keepT l)).getT i=if memN l i=true then s.getT i else .any:=qee V.any (memN l) s.tm i
  rw[e];split
  ·exact(h.tms i).goes g
  ·trivial
 |keepO l=>obtain⟨fp',h'⟩:=h.clear fun k=>!memN l k;exact⟨val,fp',h'⟩
 |adoptT i k sz=>
  simp only[Ev.ghost];split
  ·rename_i hi hk;cases hsz:Nat.blt 0 sz with
   |false=>exact⟨val,fp,h⟩
   |true=>
    simp only[cond_true];obtain⟨F'',r1,r2⟩:=qod h hk (qag hsz) none;refine⟨upd val k (.slice none 0 0),upd fp k F'',⟨fun k'=>?_,fun j=>?_,r1.disj,r1.mine,r1.size,r1.defers,r1.ij⟩⟩
    ·have:=(r1.obs k').setT i (.one (.obj k));exact this
    ·have e:((s.setT i (.one (.obj k))).setO k (.arr true true sz [])).getT j=if i=j then .one (.obj k)else s.getT j:=by rw[qu1,q9a]
     rw[e];by_cases hij:i=j
     ·subst hij;rw[if_pos rfl];have hv:=h.tms i;rw[hi]at hv;have hv:a.tmps.getD i undef=.slice none 0 0:=hv;rw[hv];exact CR.setT (x:=.obj k) r2 i _
     ·rw[if_neg hij];exact(r1.tms j).setT i _
  ·exact⟨val,fp,h⟩
 |adoptO o j k sz=>
  simp only[Ev.ghost];split
  ·rename_i cells ho hk;split
   ·rename_i hj;cases hsz:(Nat.blt 0 sz && !Nat.beq o k)with
    |false=>exact⟨val,fp,h⟩
    |true=>
     simp only[cond_true];rw[gC,Bool.not_eq_true']at hsz;have hok:o≠k:=fun e=>by rw[e]at hsz;simp at hsz
     obtain⟨F'',r1,r2⟩:=qod h hk (qag hsz.1) none;have ho1:(s.setO k (.arr true true sz [])).getO o=.box cells:=by rw[q2y,if_neg (fun e=>hok e.symm)];exact ho
     have hob:=r1.obs o;rw[ho1]at hob;obtain⟨b,cur,e,hu,hF,hh,hcs⟩:=hob
     obtain⟨q1,q2,q3⟩:=r1.change1 (w':=w) o (.box (cells.set j (.obj k))) _ _ (by rw[ho1];rfl) (by rw[ho1];rfl) (fun b hb=>.inl hb) (fun _ _ _=>rfl) (gAI _) rfl rfl rfl (fun g=>by
      refine⟨b,cur,e,hu,hF,hh,by simpa using(hcs.goes g).1,fun i x v hx hv=>?_⟩;rw[List.getElem?_set]at hx;split at hx
      ·rename_i hji;subst hji;split at hx
       ·cases hx;have hnil:=hcs.2 j .nil v hj hv;have hnil:v=.slice none 0 0:=hnil;rw[hnil];exact CR.goes g r2
       ·cases hx
      ·exact(hcs.goes g).2 i x v hx hv)
     have hsw:Eqv ((s.setO k (.arr true true sz [])).setO o (.box (cells.set j (.obj k)))) ((s.setO o (.box (cells.set j (.obj k)))).setO k (.arr true true sz [])):=by
      refine⟨fun i=>rfl,fun i=>?_⟩;simp only[q2y];by_cases h1:k=i <;> by_cases h2:o=i
      ·exact absurd (h2.trans h1.symm) hok
      ·simp[h1,h2]
      ·simp[h1,h2]
      ·simp[h1,h2]
     exact⟨_,_,q1.eqv hsw⟩
   ·exact⟨val,fp,h⟩
  ·exact⟨val,fp,h⟩
 |freeze k=>exact h.freezeO k
 |shallow k=>
  simp only[Ev.ghost];split
  ·rename_i deep sz cs hk;have hob:=h.obs k;rw[hk]at hob;obtain⟨xs,Fg,fs,ho,hF⟩:=q9i.1 hob;refine⟨val,upd fp k Fg,h.release hk (fun b hb=>by rw[hF];exact gJ _ hb) fun hrb=>q9i.2 ⟨xs,Fg,fun _=>[],⟨ho.pos,ho.row,ho.len,ND.nil _,by simp,fun i x y hx hy=>?_⟩,by simp[flat]⟩⟩;have hi:=(gB.1 hx).1;have hel:=ho.el i x y hx hy;refine⟨?_,rfl⟩;unfold El at hel;split at hel
   ·refine RO.rb hel fun b hb=>?_;have hbf:b∈fp k:=by rw[hF];exact gN _ (q23.2 ⟨i,hi,hb⟩)
    refine⟨.inr (h.mine k b hbf),h.lt hbf,fun j hj=>?_⟩;by_cases hkj:k=j
    ·subst hkj;rw[q78]at hj;exact ho.apart b hj i hi hb
    ·rw[qab _ _ hkj]at hj;exact h.disj k j hkj b hbf hj
   ·exact hrb _ _ hel.1
  ·exact⟨val,fp,h⟩
 |rename k k'=>exact h.rename k k'
 |pack k=>
  simp only[Ev.ghost];split
  ·rename_i hk;exact h.pack hk
  ·exact⟨val,fp,h⟩
 |melt i=>
  simp only[Ev.ghost];split
  ·rename_i k hi;split
   ·rename_i deep sz cs hk;refine⟨val,fp,fun k'=>(h.obs k').setT i _,fun j=>?_,h.disj,h.mine,h.size,h.defers,h.ij⟩;rw[q9a];by_cases hij:i=j
    ·subst hij;rw[if_pos rfl];have hv:=h.tms i;rw[hi]at hv;rw[q6a hv hk];have hob:=h.obs k;rw[hk]at hob;exact hob.1
    ·rw[if_neg hij];exact(h.tms j).setT i _
   ·exact⟨val,fp,h⟩
  ·exact⟨val,fp,h⟩
 |meltO o j sz=>
  simp only[Ev.ghost];split
  ·rename_i cells ho;have hob:=h.obs o;rw[ho]at hob;obtain⟨b,cur,e,hu,hF,hh,hcs⟩:=hob
   have put:∀x,(∀v,cur.toList[j]?=some v->RB w (inI c w fp) (inJ c w fp) x v)->∃val' fp',Inv c (s.setO o (.box (cells.set j (.t x)))) a w val' fp':=fun x hx=>by
    refine⟨_,_,(h.change1 (w':=w) o (.box (cells.set j (.t x))) _ _ (by rw[ho];rfl) (by rw[ho];rfl) (fun b hb=>.inl hb) (fun _ _ _=>rfl) (gAI _) rfl rfl rfl (fun g=>?_)).1⟩;refine⟨b,cur,e,hu,hF,hh,by simpa using(hcs.goes g).1,fun i y v hy hv=>?_⟩;rw[List.getElem?_set]at hy;split at hy
    ·rename_i hji;subst hji;split at hy
     ·cases hy;exact RB.move (hx v hv) g.hI g.hJ
     ·cases hy
    ·exact(hcs.goes g).2 i y v hy hv
   split
   ·rename_i k hj;split
    ·rename_i deep sz' cs hk;refine put _ fun v hv=>?_;rw[q6a (hcs.2 j _ v hj hv) hk];have hob:=h.obs k;rw[hk]at hob;exact hob.1
    ·exact⟨val,fp,h⟩
   ·rename_i hj;cases hsz:Nat.blt 0 sz with
    |false=>exact⟨val,fp,h⟩
    |true=>
     simp only[cond_true];refine put _ fun v hv=>?_;have:v=.slice none 0 0:=hcs.2 j .nil v hj hv;rw[this];exact .sl (fun _=>undef) (qag hsz) (by simp) (gAI _) (fun h=>absurd rfl h) (by simp)
   ·exact⟨val,fp,h⟩
  ·exact⟨val,fp,h⟩
 |lend k=>exact h.lendO k
 |freezeT i=>exact h.eachO fun h k=>h.freezeO k
 |lendT i=>exact h.eachO fun h k=>h.lendO k
 |freezeB k=>exact h.eachO fun h k=>h.freezeO k
 |lendB k=>exact h.eachO fun h k=>h.lendO k
 |orderO l=>
  refine⟨val,fp,h.eqv ⟨fun i=>rfl,fun j=>?_⟩⟩;exact qrz s.ob l j
 |nameT i k=>
  simp only[Ev.ghost];split
  ·rename_i x _;cases Nat.beq x k with
   |true=>exact⟨val,fp,h⟩
   |false=>exact h.rename k x
  ·exact⟨val,fp,h⟩
 |nameB o j k=>
  simp only[Ev.ghost];split
  ·split
   ·rename_i x _;cases Nat.beq x k with
    |true=>exact⟨val,fp,h⟩
    |false=>exact h.rename k x
   ·exact⟨val,fp,h⟩
  ·exact⟨val,fp,h⟩
 |meltP i=>
  simp only[Ev.ghost];split
  ·rename_i k q hi;split
   ·rename_i cs hk;split
    ·rename_i xs hx;have hob:=h.obs k;rw[hk]at hob;obtain⟨b,cur,e,hu,hF,hh,hcs⟩:=hob;have hb:b∈fp k:=by rw[hF];simp
     obtain⟨q1,g,_⟩:=h.change1 (w':=w) k .gone (val k) [] (by rw[hk];trivial) (by rw[hk];rfl) (by simp) (fun _ _ _=>rfl) (gAI _) rfl rfl rfl (fun _=>rfl);refine⟨_,_,fun k'=>(q1.obs k').setT i _,fun j=>?_,q1.disj,q1.mine,q1.size,q1.defers,q1.ij⟩;rw[q9a];by_cases hij:i=j
     ·subst hij;rw[if_pos rfl];have hv:=h.tms i;rw[hi]at hv;have hp:q8j (val k) q (a.tmps.getD i undef):=q6y hv hk (.inl ⟨_,rfl⟩);rw[hu]at hp;have hp:a.tmps.getD i undef=.pointer (some ⟨b,0+q,none⟩):=hp;rw[hp];have hl:=qi8 hx
      have hcur:∀i,i<xs.length->cur[i]?=some (cur.getD i undef):=fun i hi=>by
       have h0:=hcs.1;have:xs.length=cur.size:=by rw[<- hl.1,h0];exact Array.length_toList
       rw[gAQ (by omega),gQ,gAQ (by omega)];rfl
      refine RB.rref (fun i=>cur.getD i undef) (fun _=>⟨.inr (h.mine k b hb),h.lt hb,fun j hj=>?_⟩) (fun i hi=>?_) (fun i x hxi=>?_)
      ·by_cases hkj:k=j
       ·subst hkj;rw[q78]at hj;simp at hj
       ·rw[qab _ _ hkj]at hj;exact h.disj k j hkj b hb hj
      ·rw[gAJ];show w.cell? _=_;rw[q48 (w:=w) hh];exact hcur i hi
      ·have hi:=(gB.1 hxi).1;exact RB.move (hcs.2 i (.t x) _ (hl.2 i x hxi) (by rw[Array.getElem?_toList];exact hcur i hi)) g.hI g.hJ
     ·rw[if_neg hij];exact(q1.tms j).setT i _
    ·exact⟨val,fp,h⟩
   ·exact⟨val,fp,h⟩
  ·exact⟨val,fp,h⟩
 |reclaim=>
  refine⟨val,fp,h.recast (f:=qn4) (val':=val) (fp':=fp) qk1 (.inr fun _=>rfl) some ⟨fun x v hx=>?_⟩ (fun i=>.inl (qh6 qn4 s i)) (fun k=>.inr ⟨k,rfl,?_,rfl,rfl⟩) (fun k k' j h1 h2=>by cases h1;cases h2;rfl) (fun _ _ h=>h)⟩
  ·have refs:∀(j:Key)(p:Prop),(s.getO j).ref p->((Ev.ghost s .reclaim).getO j).ref p:=fun j p hp=>by
    rw[qgi];revert hp;cases s.getO j <;> exact id
   cases x with
   |t y=>exact hx
   |kept j y=>exact hx
   |nil=>exact hx
   |undef=>exact hx
   |ptr j q=>exact⟨refs j _ hx.1,hx.2⟩
   |obj j=>exact⟨refs j _ hx.1,hx.2⟩
   |view y=>exact CR.one hx
  ·exact qgi s k
theorem Inv.ghosts:∀(l:List Gh){s:St}{val:Key->Value}{fp:Key->List Nat},Inv c s a w val fp->∃val' fp',Inv c (ghosts s l) a w val' fp'
 |[],s,val,fp,h=>⟨val,fp,h⟩
 |g::l,s,val,fp,h=>by
  obtain⟨val',fp',h'⟩:=h.ghost g;exact h'.ghosts l
end
end Ev
end
section
namespace Ev
open Go
section
variable {P:Program}{A:q7t}{E:Env}{H:Hints}{c:Ctx}{s:St}{a:Act}{w w0:World}{val:Key->Value}{fp:Key->List Nat}{r:T×List T}{n:Nat}{tp:Option Nat}{a0:Array Value}
def Ok(a0:Array Value)(tp:Option Nat)(c:Ctx)(w0:World)(n:Nat)(K:St->R)(r:T×List T)(a:Act)(w:World):Prop:=
 ∃s val fp,K s=some r/\Inv c s a w val fp/\KT a0 tp n a/\Kp c.own w0 w
def OkE(a0:Array Value)(tp:Option Nat)(c:Ctx)(w0:World)(n:Nat)(K:Ex->St->R)(r:T×List T):Exit->Act->World->Prop
 |.normal,a,w=>Ok a0 tp c w0 n (K .normal) r a w
 |.exit i,a,w=>Ok a0 tp c w0 n (K (.exit i)) r a w
 |.ret,a,w=>Ok a0 tp c w0 n (K .ret) r a w
 |_,_,_=>False
theorem qm1(hm:P.follows .mixedOrders=true)(hE:∀g args r,E g args=some r->Meets P (A g) g args r){id:Nat}{ops:Array Oper}{draw:Bool}(hdst:∀(i:Nat)(o:Oper),ops[i]?=some o->∀d,o.dst=some d->d<n/\tp≠some d)
 (h:Inv c s a w val fp) (hn:KT a0 tp n a) (hk:Kp c.own w0 w) {K:St->R} {Q:Exit->Act->World->Prop} (hQ:∀a w,Ok a0 tp c w0 n K r a w->Q .normal a w) (hr:qhb P A E ops.toList draw s K=some r) :
 (Code.region id ops draw).wp P Q a w:=by
 obtain⟨fp1,h1⟩:=h.prepare ops.toList;unfold qhb at hr;cases draw with
 |false=>
  rw[cond_false]at hr;refine wp_region ?_
  have:=qk9 (w0:=w0) hE hdst (K:=fun s=>K (settle 8 s)) (Q:=Q) (fun s' a' w' val' fp' hK hi hsz hkp=>by
   obtain⟨val2,fp2,h2⟩:=hi.settle 8;exact hQ a' w' ⟨_,val2,fp2,hK,h2,hsz,hkp⟩) ops.toList 0 _ a w val fp1 (fun i=>by simp) h1 hn hk hr
  rw[Array.length_toList]at this;rw[List.range_eq_range'];exact this
 |true=>
  rw[cond_true]at hr;obtain⟨st,lg,e1,e2,e3⟩:=qqr ops.toList 0 _ [] (fun i=>by simp) hr;rw[gAJ,Array.length_toList,gAD,List.reverse_reverse,<- List.range_eq_range']at e3;replace e3:=q1c e3;obtain⟨hok,hK⟩:=e3;rw[gC]at hok;have ho:=qrb hok.1 hok.2;have hrun:Run P A E ops ops.size st lg:=⟨fun i o hi hoi=>e2 i o (Nat.zero_le i) (by rw[gAJ,Array.length_toList];exact hi) hoi⟩;refine wp_region_any hm ?_;obtain⟨h2,hk2⟩:=h1.world (w':={ w with drawn:=w.drawn+1 }) rfl rfl rfl rfl;refine qvx (w0:=w0) hE hdst ho hrun (fun a' w' val' fp' hi hsz hkp=>?_) ops.size (Array.replicate ops.size false) (st 0) a _ val fp1 (by simp) ?_ ?_ (fun x=>?_) (fun x=>?_) (by rw[e1];exact h2) hn (hk.trans hk2)
  ·obtain⟨val2,fp2,h3⟩:=hi.settle 8;exact hQ a' w' ⟨_,val2,fp2,hK,h3,hsz,hkp⟩
  ·have:left ops.size (Array.replicate ops.size false)=List.range ops.size:=by
    unfold left;refine List.filter_eq_self.2 fun i hi=>?_;have:=List.mem_range.1 hi;simp[gQ,this]
   rw[this,List.length_range]
  ·intro j hj hD;simp[gQ,hj]at hD
  ·exact .inr ⟨fun j hj hD=>by simp[gQ,hj]at hD,rfl⟩
  ·exact .inr ⟨fun j hj hD=>by simp[gQ,hj]at hD,rfl⟩
theorem qml{cd:Code}{Q:Exit->Act->World->Prop}(I:Nat->Act->World->Prop){m:Nat}(h0:I m a w)
 (round:∀m a w,I m a w->cd.wp P (Exit.then (fun a' w'=>∃m',m'<m/\I m' a' w') Q) a w):(Code.loop cd).wp P Q a w:=by
 intro b k cs
 have key:∀m a w,I m a w->∃e a' w',Q e a' w'/\Arrives P (lone (b.at a (.code cd :: .inLoop cd::k)) cs w) b k cs e a' w':=by
  intro m;induction m using Nat.strongRecOn with
  |_ m ih=>
   intro a w hI;obtain⟨e,a₁,w₁,hq,harr⟩:=round m a w hI b (.inLoop cd::k) cs;cases e with
   |normal=>
    obtain⟨m',hlt,hI₁⟩:=hq;obtain⟨e₂,a₂,w₂,hq₂,harr₂⟩:=ih m' hlt a₁ w₁ hI₁;exact⟨e₂,a₂,w₂,hq₂,.of_steps (Steps.trans harr (.one step_inLoop)) harr₂⟩
   |exit id=>exact⟨_,a₁,w₁,hq,.pass (x:=.inLoop cd) rfl (fun _ _=>.inl (by simp)) harr⟩
   |goto l=>exact⟨_,a₁,w₁,hq,.pass (x:=.inLoop cd) rfl (fun _ _=>.inl (by simp)) harr⟩
   |ret=>exact⟨_,a₁,w₁,hq,.pass (x:=.inLoop cd) rfl (fun _ _=>.inl (by simp)) harr⟩
   |panic ch=>exact⟨_,a₁,w₁,hq,.pass (x:=.inLoop cd) rfl (fun _ _=>.inl (by simp)) harr⟩
   |outgrown=>exact⟨_,a₁,w₁,hq,.pass (x:=.inLoop cd) rfl (fun _ _=>.inl (by simp)) harr⟩
 obtain⟨e,a',w',hq,harr⟩:=key _ a w h0;exact⟨e,a',w',hq,.of_steps (.one step_loop) harr⟩
theorem qo8(hm:P.follows .mixedOrders=true)(hE:∀g args r,E g args=some r->Meets P (A g) g args r)(fuel:Nat):∀(cd:Code),qe0 tp n cd=true->∀(blk:Nat)(K:Ex->St->R)(s:St)(a:Act)(w:World)(val:Key->Value)(fp:Key->List Nat),
 Inv c s a w val fp->KT a0 tp n a->Kp c.own w0 w->qad P A H E fuel blk cd s K=some r->cd.wp P (OkE a0 tp c w0 n K r) a w:=by
 intro cd;induction cd with
 |skip=>intro _ blk K s a w val fp h hn hk hr;exact wp_skip ⟨s,val,fp,hr,h,hn,hk⟩
 |region id ops draw=>
  intro hd blk K s a w val fp h hn hk hr;obtain⟨val0,fp0,h0⟩:=h.ghosts (H.regions id);obtain⟨s1,val1,fp1,h1,hr⟩:=qie (H.opens id) h0 hr;refine qm1 hm hE (fun i o ho d hod=>?_) h1 hn hk (fun a w hok=>hok) hr;have:=gAL.1 hd o (List.mem_of_getElem? (by simpa using ho));rw[hod]at this;simp only[gC]at this;refine⟨Nat.le_of_ble_eq_true this.1,fun e=>?_⟩;rw[e]at this;simp at this
 |seq x y ihx ihy=>
  intro hd blk K s a w val fp h hn hk hr;rw[qe0,gC]at hd;refine wp_seq (wp_mono (ihx hd.1 blk _ s a w val fp h hn hk hr) fun e a' w' hq=>?_);cases e with
  |normal=>
   obtain⟨s',val',fp',hr',h',hn',hk'⟩:=hq;exact ihy hd.2 blk K s' a' w' val' fp' h' hn' hk' hr'
  |exit i=>exact hq
  |ret=>exact hq
  |goto l=>exact hq
  |panic ch=>exact hq
  |outgrown=>exact hq
 |cond x y z ihy ihz=>
  intro hd blk K s a w val fp h hn hk hr;rw[qe0,gC]at hd
  have hv:VR (mkFr c w val fp) s (qpq P s x) (a.eval x):=by
   unfold qpq;split
   ·exact h.tms _
   ·exact qqj _
   ·trivial
  rw[qad]at hr;split at hr
  ·rename_i b hb;rw[hb]at hv;have hv:a.eval x=.bool b:=RB.bool_inv hv;refine wp_cond hv ?_;cases b with
   |true=>exact ihy hd.1 blk K s a w val fp h hn hk hr
   |false=>exact ihz hd.2 blk K s a w val fp h hn hk hr
  ·cases hr
 |block i x ih=>
  intro hd blk K s a w val fp h hn hk hr;refine wp_block (wp_mono (ih hd i _ s a w val fp h hn hk hr) fun e a' w' hq=>?_);cases e with
  |normal=>exact hq
  |exit j=>
   obtain⟨s',val',fp',hr',h'⟩:=hq;simp only at hr';show if j=i then OkE a0 tp c w0 n K r Exit.normal a' w' else OkE a0 tp c w0 n K r (Exit.exit j) a' w'
   by_cases hij:j=i
   ·subst hij;have:Nat.beq j j=true:=by simp
    rw[this,cond_true]at hr';rw[if_pos rfl];exact⟨s',val',fp',hr',h'⟩
   ·rw[nbeq (fun e=>hij e.symm),cond_false]at hr';rw[if_neg hij];exact⟨s',val',fp',hr',h'⟩
  |ret=>exact hq
  |goto l=>exact hq
  |panic ch=>exact hq
  |outgrown=>exact hq
 |loop x ih=>
  intro hd blk K s a w val fp h hn hk hr;obtain⟨val0,fp0,h0⟩:=h.ghosts (H.loops blk)
  refine qml (fun m a w=>∃s val fp,qoz (fun s K=>qad P A H E fuel blk x s fun e s=>match e with
   |.normal=>K .normal (ghosts s (H.loops blk))
   |e=>K e s) m s K=some r/\Inv c s a w val fp/\KT a0 tp n a/\Kp c.own w0 w) ⟨_,val0,fp0,hr,h0,hn,hk⟩ ?_
  rintro m a w ⟨s,val,fp,hr,h,hn,hk⟩;cases m with
  |zero=>cases hr
  |succ m=>
   refine wp_mono (ih hd blk _ _ a w val fp h hn hk hr) fun e a' w' hq=>?_;cases e with
   |normal=>
    obtain⟨s',val',fp',hr',h',hn',hk'⟩:=hq;obtain⟨val1,fp1,h1⟩:=h'.ghosts (H.loops blk);exact⟨m,gAR m,_,val1,fp1,hr',h1,hn',hk'⟩
   |exit i=>exact hq
   |ret=>exact hq
   |goto l=>exact hq
   |panic ch=>exact hq
   |outgrown=>exact hq
 |exit i=>intro _ blk K s a w val fp h hn hk hr;exact wp_exit ⟨s,val,fp,hr,h,hn,hk⟩
 |ret=>intro _ blk K s a w val fp h hn hk hr;exact wp_ret ⟨s,val,fp,hr,h,hn,hk⟩
 |_=>intro _ blk K s a w val fp h hn hk hr;cases hr
end
end Ev
end
section
namespace Ev
open Go
theorem qg3(at_:Attr):∀{args:List T}{i:Nat}{l:List (Nat×V)}{os:List (Key×Ob)},qoc at_ i args=some (l,os)->
 (∀j,j<i->look V.any l j=.any)/\(∀j x,args[j]?=some x->(at_.turn=some (i+j)/\qto at_.md x=some (look V.any l (i+j),os))\/(at_.turn≠some (i+j)/\argV x=some (look V.any l (i+j))))/\
  (∀j,i+args.length<=j->look V.any l j=.any)/\((∀j,j<args.length->at_.turn≠some (i+j))->os=[])
 |[],i,l,os,h=>by simp[qoc]at h;obtain⟨rfl,rfl⟩:=h;simp[look]
 |x::xs,i,l,os,h=>by
  rw[qoc,gAE]at h;obtain⟨⟨v,os1⟩,hv,h⟩:=h;rw[gP]at h;obtain⟨⟨l2,os2⟩,h2,h⟩:=h;simp only[Prod.mk.injEq]at h;obtain⟨rfl,rfl⟩:=h;obtain⟨r1,r2,r3,r4⟩:=qg3 at_ h2;have hii:Nat.beq i i=true:=by simp
  have first:(at_.turn=some i/\qto at_.md x=some (v,os1))\/(at_.turn≠some i/\argV x=some v/\os1=[]):=by
   split at hv
   ·rename_i j hj;cases hji:Nat.beq j i with
    |true=>
     rw[hji]at hv;have:j=i:=gE hji;exact .inl ⟨by rw[hj,this],hv⟩
    |false=>
     rw[hji]at hv;simp only[cond_false,gP,Prod.mk.injEq]at hv;obtain⟨v',hv',rfl,rfl⟩:=hv;refine .inr ⟨fun e=>?_,hv',rfl⟩;rw[hj]at e;cases e;simp at hji
   ·rename_i hj;simp only[gP,Prod.mk.injEq]at hv;obtain⟨v',hv',rfl,rfl⟩:=hv;exact .inr ⟨by rw[hj];simp,hv',rfl⟩
  refine⟨fun j hj=>?_,fun j y hy=>?_,fun j hj=>?_,fun hn=>?_⟩
  ·rw[look,nbeq (by omega:i≠j),cond_false];exact r1 j (by omega)
  ·cases j with
   |zero=>
    simp at hy;subst hy;simp only[Nat.add_zero,look,hii,cond_true];rcases first with⟨f1,f2⟩|⟨f1,f2,f3⟩
    ·refine .inl ⟨f1,?_⟩;have:os2=[]:=r4 fun j hj e=>by rw[f1]at e;have:=Option.some.inj e;omega
     rw[this,gAD];exact f2
    ·exact .inr ⟨f1,f2⟩
   |succ j=>
    have hy':xs[j]?=some y:=by simpa using hy
    have:=r2 j y hy';rw[look,nbeq (by omega:i≠i+(j+1)),cond_false,show i+(j+1)=i+1+j by omega];rcases this with⟨f1,f2⟩|h
    ·refine .inl ⟨f1,?_⟩;rcases first with⟨g1,_⟩|⟨_,_,g3⟩
     ·rw[f1]at g1;have:=Option.some.inj g1;omega
     ·rw[g3];exact f2
    ·exact .inr h
  ·simp only[gAB]at hj;rw[look,nbeq (by omega:i≠j),cond_false];exact r3 j (by omega)
  ·have e1:os1=[]:=by
    rcases first with⟨f1,_⟩|⟨_,_,f3⟩
    ·exact absurd f1 (by have:=hn 0 (by simp);simpa using this)
    ·exact f3
   have e2:os2=[]:=r4 fun j hj=>by have:=hn (j+1) (by simp;omega);rwa[show i+(j+1)=i+1+j by omega]at this
   rw[e1,e2];rfl
section
variable {P:Program}{A:q7t}{E:Env}{c:Ctx}{s:St}{a:Act}{w:World}{val:Key->Value}{fp:Key->List Nat}
variable {l:Log}{r:T×List T}
theorem qnw{vs:Array Value}{n i:Nat}(h:i<vs.size):(vs++Array.replicate n undef).getD i undef=vs.getD i undef:=by
 simp only[gQ];rw[Array.getElem?_append_left h]
theorem q69{α:Type}(d:α)(k:Nat)(v:α)(l:List (Nat×α))(i:Nat):look d ((k,v)::l) i=if k=i then v else look d l i:=by
 rw[look];by_cases h:k=i
 ·subst h;simp
 ·rw[nbeq h,if_neg h];rfl
theorem qc1:∀{os:List Bool}{key:Nat}{xs:List T}{cs:List C}{obs:List (Key×Ob)},qfb os key xs=some (cs,obs)->cs.length=xs.length/\os.length=xs.length/\
 (∀k:Nat,k<key\/key+xs.length<=k->look Ob.free obs k=.free)/\
 ∀(i:Nat)(x:T),xs[i]?=some x->(cs[i]?=some (.t x)/\look Ob.free obs (key+i)=.free/\(os.getD i false=true->(∀sz c,x ≠ .sl sz c)/\∀l,x ≠ .mp l))\/
  (os.getD i false=true/\cs[i]?=some (.obj (key+i))/\((∃sz c,x=.sl sz c/\look Ob.free obs (key+i)=.arr true true sz c)\/∃l,x=.mp l/\look Ob.free obs (key+i)=.mp l))
 |[],key,[],cs,obs,h=>by simp[qfb]at h;obtain⟨rfl,rfl⟩:=h;simp[look]
 |o::os,key,x::xs,cs,obs,h=>by
  rw[qfb,gP]at h;obtain⟨⟨cs',obs'⟩,h1,h2⟩:=h;obtain⟨r1,r2,r3,r4⟩:=qc1 h1;simp only[Prod.mk.injEq]at h2;obtain⟨rfl,rfl⟩:=h2
  have up:∀j:Nat,key<j->look Ob.free ((qrn o key x).2++obs') j=look Ob.free obs' j:=fun j hj=>by
   unfold qrn;split
   ·show look Ob.free ((key,_)::obs') j=_;rw[q69,if_neg (by omega)]
   ·show look Ob.free ((key,_)::obs') j=_;rw[q69,if_neg (by omega)]
   ·rfl
  refine⟨by simp[r1],by simp[r2],fun k hk=>?_,fun i y hy=>?_⟩
  ·rcases hk with hk|hk
   ·unfold qrn;split
    ·show look Ob.free ((key,_)::obs') k=_;rw[q69,if_neg (by omega)];exact r3 k (.inl (by omega))
    ·show look Ob.free ((key,_)::obs') k=_;rw[q69,if_neg (by omega)];exact r3 k (.inl (by omega))
    ·exact r3 k (.inl (by omega))
   ·simp only[gAB]at hk;rw[up k (by omega)];exact r3 k (.inr (by omega))
  ·cases i with
   |zero=>
    simp only[List.getElem?_cons_zero,Option.some.injEq]at hy;subst hy;unfold qrn;split
    ·refine .inr ⟨rfl,rfl,.inl ⟨_,_,rfl,?_⟩⟩;show look Ob.free ((key,_)::obs') (key+0)=_;rw[q69,if_pos (by omega)]
    ·refine .inr ⟨rfl,rfl,.inr ⟨_,rfl,?_⟩⟩;show look Ob.free ((key,_)::obs') (key+0)=_;rw[q69,if_pos (by omega)]
    ·rename_i hn1 hn2;refine .inl ⟨rfl,r3 _ (.inl (by omega)),fun ho=>?_⟩;have ho:o=true:=by simpa using ho
     subst ho;exact⟨fun sz c e=>hn1 sz c rfl e,fun l e=>hn2 l rfl e⟩
   |succ i=>
    have:=r4 i y (by simpa using hy);rw[up _ (by omega),show key+(i+1)=key+1+i by omega];simpa using this
 |[],_,_::_,_,_,h=>by simp[qfb]at h
 |_::_,_,[],_,_,h=>by simp[qfb]at h
def fpo(o:Ob)(F:List Nat):List Nat:=match o with|.free=>[]|_=>F
theorem qg6{I J:Nat->Prop}{os:List Bool}{key:Nat}{xs:List T}{us:List Value}{fs:Nat->List Nat}{cs:List C}{obs:List (Key×Ob)}(hx:qhg w I J os xs us fs)(ht:qfb os key xs=some (cs,obs))
 (fr:Ev.Fr) (s':St) (hw:fr.w=w) (hI:∀b,I b->fr.I b) (hJ:∀b,J b->fr.J b) (hs:∀i,i<us.length->s'.getO (key+i)=look Ob.free obs (key+i)) (hv:∀i,i<us.length->fr.val (key+i)=us.getD i undef) :
 CRs fr s' cs us/\∀i,i<us.length->ObR fr s' (look Ob.free obs (key+i)) (us.getD i undef) (fpo (look Ob.free obs (key+i)) (fs i)):=by
 obtain⟨r1,r2,r3,r4⟩:=qc1 ht;refine⟨⟨r1.trans hx.1,fun i cc v hc hv'=>?_⟩,fun i hi=>?_⟩
 ·have hiu:=(gB.1 hv').1;have hix:i<xs.length:=by rw[hx.1];exact hiu
  have hel:=hx.2.2 i _ v (gA hix) hv';rcases r4 i _ (gA hix)with⟨h1,h2,h3⟩|⟨ho,h1,h2⟩
  ·rw[h1]at hc;cases hc;show RB fr.w fr.I fr.J _ v;rw[hw];unfold El at hel;split at hel
   ·rename_i ho;obtain⟨n1,n2⟩:=h3 ho;revert n1 n2 hel;generalize xs[i]=x;generalize fs i=F;intro hel n1 n2;cases hel with
    |int k n=>exact .int k n
    |bool b=>exact .bool b
    |str s=>exact .str s
    |nil hsz=>exact absurd rfl (n1 _ _)
    |sl _ _ _ _ _ _ _ _ _ _ _=>exact absurd rfl (n1 _ _)
    |hole h=>exact .hole h
    |mp _ _=>exact absurd rfl (n2 _)
   ·exact RB.move hel.1 (fun b hb=>⟨hI b hb,rfl⟩) (fun b hb=>⟨hJ b hb,rfl⟩)
  ·rw[h1]at hc;cases hc
   have hval:fr.val (key+i)=v:=by
    rw[hv i hiu];exact qt2 hv'
   unfold El at hel;rw[if_pos ho]at hel;refine⟨?_,RO.one hel⟩;rw[hs i hiu,<- hval];rcases h2 with⟨sz,c',_,h3⟩|⟨l,_,h3⟩ <;> rw[h3] <;> rfl
 ·have hix:i<xs.length:=by rw[hx.1];exact hi
  have hu:us[i]?=some (us.getD i undef):=by simp[gI,hi]
  have hel:=hx.2.2 i _ _ (gA hix) hu;rcases r4 i _ (gA hix)with⟨h1,h2,h3⟩|⟨ho,h1,h2⟩
  ·rw[h2];rfl
  ·unfold El at hel;rw[if_pos ho]at hel;rcases h2 with⟨sz,c',h4,h3⟩|⟨l,h4,h3⟩
   ·rw[h3];show RO fr.w _ _ _;rw[hw,<- h4];exact hel
   ·rw[h3];show RO fr.w _ _ _;rw[hw,<- h4];exact hel
def q79(at_:Attr)(vs:Array Value)(w:World):Nat->Value:=match at_.turn with
 |some i=>qe2 w (vs.getD i undef)
 |none=>fun _=>undef
theorem qg1:∀{xs:List T}{j i:Nat},(qbr j xs)[i]?=(xs[i]?).map fun x=>quz (j+i) x
 |[],j,i=>rfl
 |x::xs,j,i=>by
  cases i with
  |zero=>rfl
  |succ i=>rw[qbr,List.getElem?_cons_succ,List.getElem?_cons_succ,qg1,show j+1+i=j+(i+1) by omega]
theorem qft:∀{xs:List T}{j:Nat},(qbr j xs).length=xs.length
 |[],_=>rfl
 |_::xs,j=>by rw[qbr,gAB,gAB,qft]
theorem qub{at_:Attr}{args:List T}{I J:Nat->Prop}{vs:Array Value}{F:List Nat}(hp:Pre at_ args w I J vs F){l:List (Nat×V)}{os:List (Key×Ob)}
 (r2:∀j x,args[j]?=some x->(at_.turn=some j/\qto at_.md x=some (look V.any l j,os))\/(at_.turn≠some j/\argV x=some (look V.any l j))) (i:Nat):at_.more≠some i:=by
 unfold Attr.more;cases ht:at_.turn with
 |none=>simp
 |some j=>
  obtain⟨x,v,F1,hx,_⟩:=hp.turned j ht;cases hmd:at_.md with
  |two m=>
   exfalso;rcases r2 j x hx with⟨_,hturn⟩|⟨hn,_⟩
   ·rw[hmd]at hturn;cases hturn
   ·exact hn ht
  |both m=>
   exfalso;rcases r2 j x hx with⟨_,hturn⟩|⟨hn,_⟩
   ·rw[hmd]at hturn;cases hturn
   ·exact hn ht
  |_=>simp
theorem entry{at_:Attr}{args:List T}{I J:Nat->Prop}{vs:Array Value}{F:List Nat}(hp:Pre at_ args w I J vs F){l:List (Nat×V)}{os:List (Key×Ob)}(ha:qoc at_ 0 args=some (l,os))(n:Nat) :
 ∃val fp,Inv ⟨w.heap.size,I,J,(· ∈ F),q79 at_ vs w⟩ ⟨l,os⟩ { tmps:=vs++Array.replicate n undef,defers:=[] } w val fp:=by
 obtain⟨r1,r2,r3,r4⟩:=qg3 at_ ha;simp only[gAJ]at r1 r2 r3 r4
 have key:∃(u0:Value)(F0:List Nat)(us:List Value)(fs:Nat->List Nat),(∀b,b∈F0->b∈F)/\(∀i b,i<us.length->b∈fs i->b∈F/\b∉F0)/\ND us.length fs/\
  (∀k:Nat,k≠q13->(k<q13\/q13+1+us.length<=k)->look Ob.free os k=.free)/\
  ∀(fr:Ev.Fr),fr.w=w->fr.kept=q79 at_ vs w->(∀b,I b->fr.I b)->(∀b,J b->fr.J b)->fr.val q13=u0->(∀i,i<us.length->fr.val (q13+1+i)=us.getD i undef)->
   ObR fr ⟨l,os⟩ (look Ob.free os q13) u0 F0/\(∀i,i<us.length->ObR fr ⟨l,os⟩ (look Ob.free os (q13+1+i)) (us.getD i undef) (fpo (look Ob.free os (q13+1+i)) (fs i)))/\
   ∀i x v,at_.turn=some i->args[i]?=some x->vs[i]?=some v->VR fr ⟨l,os⟩ (look V.any l i) v:=by
  cases ht:at_.turn with
  |none=>
   have hos:os=[]:=r4 fun j _ e=>by rw[ht]at e;cases e
   subst hos;exact⟨undef,[],[],fun _=>[],by simp,by simp,ND.nil _,fun _ _ _=>rfl,fun fr _ _ _ _ _ _=>⟨rfl,by simp,fun i x v e=>by cases e⟩⟩
  |some i=>
   obtain⟨x,v,F1,hx,hv,harg,hmore⟩:=hp.turned i ht
   have hFF:F=F1:=by
    unfold qs5 Attr.more at hmore;rw[ht]at hmore;cases hmd:at_.md with
    |two m=>
     exfalso;rcases r2 i x hx with⟨_,hturn⟩|⟨hn,_⟩
     ·rw[hmd]at hturn;cases hturn
     ·exact hn ht
    |both m=>
     exfalso;rcases r2 i x hx with⟨_,hturn⟩|⟨hn,_⟩
     ·rw[hmd]at hturn;cases hturn
     ·exact hn ht
    |_=>rw[hmd]at hmore;exact hmore.symm
   subst hFF
   have same:∀{fr:Ev.Fr}{y:V},look V.any l i=y->VR fr ⟨l,os⟩ y v->∀i' x' v',some i=some i'->args[i']?=some x'->vs[i']?=some v'->VR fr ⟨l,os⟩ (look V.any l i') v':=fun {fr y} hy hvr i' x' v' hi _ hv''=>by
    cases hi;rw[hv]at hv'';cases hv'';rw[hy];exact hvr
   rcases r2 i x hx with⟨_,hturn⟩|⟨hn,_⟩
   ·unfold qto at hturn;split at hturn
    ·rename_i bs cells0 hmd;rw[hmd]at harg;obtain⟨ys,e,b,cur,ty,fs,hv',hF,hbn,hh,hcr⟩:=harg;cases e;rw[gP]at hturn;obtain⟨⟨cs,obs⟩,htc,e1⟩:=hturn;simp only[Prod.mk.injEq]at e1;obtain⟨e1,rfl⟩:=e1;obtain⟨q1,q2,q3,q4⟩:=qc1 htc;have hl1:∀k:Nat,k≠q13->look Ob.free ((q13,Ob.box cs)::obs) k=look Ob.free obs k:=fun k hk=>by rw[q69,if_neg (fun e=>hk e.symm)]
     have hl0:look Ob.free ((q13,Ob.box cs)::obs) q13=.box cs:=by rw[q69,if_pos rfl]
     have hlen:cur.toList.length=cells0.length:=hcr.1.symm;refine⟨v,[b],cur.toList,fs,fun b' hb'=>by rw[gD.1 hb',hF];simp,fun j b' hj hb'=>⟨by rw[hF];exact gF _ (q23.2 ⟨j,by omega,hb'⟩),fun hbb=>?_⟩,by rw[hlen];exact hcr.2.1,fun k hk hk2=>?_,fun fr hw _ hI hJ hv0 hvs=>?_⟩
     ·rw[gD.1 hbb]at hb';exact hbn (q23.2 ⟨j,by omega,hb'⟩)
     ·rw[hl1 k hk];exact q3 k (by rw[hlen]at hk2;omega)
     ·have hob:∀j,j<cur.toList.length->(⟨l,(q13,Ob.box cs)::obs⟩:St).getO (q13+1+j)=look Ob.free obs (q13+1+j):=fun j _=>hl1 _ (by omega);obtain⟨c1,c2⟩:=qg6 hcr htc fr ⟨l,(q13,Ob.box cs)::obs⟩ hw hI hJ hob hvs;refine⟨?_,fun j hj=>by rw[hl1 _ (by omega)];exact c2 j hj,same e1.symm ?_⟩
      ·rw[hl0];exact⟨b,cur,ty,hv',rfl,by rw[hw];exact hh,c1⟩
      ·refine⟨?_,by rw[hv'];rfl⟩;show(look Ob.free ((q13,Ob.box cs)::obs) q13).ref _;rw[hl0];show q8j (fr.val q13) 0 v;rw[hv0,hv'];rfl
    ·rename_i cells0 hmd;rw[hmd]at harg;obtain⟨ys,e,b,cur,ty,fs,hv',hF,hbn,hh,hcr⟩:=harg;cases e;simp only[Option.some.injEq,Prod.mk.injEq]at hturn;obtain⟨e1,rfl⟩:=hturn;have hl0:look Ob.free [(q13,Ob.box (qbr 0 cells0))] q13=.box (qbr 0 cells0):=by rw[q69,if_pos rfl]
     have hiv:i<vs.size:=(Array.getElem?_eq_some_iff.1 hv).1
     have hkept:∀j,q79 at_ vs w j=cur.getD j undef:=fun j=>by
      unfold q79;rw[ht];simp only[gQ,hv,Option.getD_some];rw[hv'];unfold qe2;simp only[hh,gQ]
     refine⟨v,[b],[],fun _=>[],fun b' hb'=>by rw[gD.1 hb',hF];simp,by simp,ND.nil _,fun k hk _=>by rw[q69,if_neg (fun e=>hk e.symm)];rfl,fun fr hw hkk hI hJ hv0 _=>⟨?_,by simp,same e1.symm ?_⟩⟩
     ·rw[hl0];refine⟨b,cur,ty,hv',rfl,by rw[hw];exact hh,by rw[qft];exact hcr.1,fun j cc u hcj hu=>?_⟩;rw[qg1,gP]at hcj;obtain⟨y,hy,rfl⟩:=hcj;have hel:=hcr.2.2 j y u hy hu;unfold El at hel;rw[if_neg (by simp)]at hel;have h9:RB fr.w fr.I fr.J y u:=by rw[hw];exact RB.move hel.1 (fun b hb=>⟨hI b hb,rfl⟩) (fun b hb=>⟨hJ b hb,rfl⟩)
      unfold quz;cases y.scalar with
      |true=>exact h9
      |false=>
       refine⟨h9,?_⟩;rw[hkk,gAJ,hkept];have hu':cur[j]?=some u:=by simpa using hu
       rw[gQ,hu'];rfl
     ·refine⟨?_,by rw[hv'];rfl⟩;show(look Ob.free [(q13,Ob.box (qbr 0 cells0))] q13).ref _;rw[hl0];show q8j (fr.val q13) 0 v;rw[hv0,hv'];rfl
    ·rename_i sz0 cs0 hmd;rw[hmd]at harg;obtain⟨⟨sz,cs,e⟩,hro⟩:=harg;cases e;simp only[Option.some.injEq,Prod.mk.injEq]at hturn;obtain⟨e1,rfl⟩:=hturn;have hl0:look Ob.free [(q13,Ob.arr true true sz0 cs0)] q13=.arr true true sz0 cs0:=by rw[q69,if_pos rfl]
     refine⟨v,F,[],fun _=>[],fun _ h=>h,by simp,ND.nil _,fun k hk _=>by rw[q69,if_neg (fun e=>hk e.symm)];rfl,fun fr hw _ hI hJ hv0 _=>⟨?_,by simp,same e1.symm ?_⟩⟩
     ·rw[hl0];show RO fr.w _ _ _;rw[hw];exact hro
     ·refine⟨?_,hro.one⟩;show(look Ob.free [(q13,Ob.arr true true sz0 cs0)] q13).ref _;rw[hl0];exact hv0.symm
    ·rename_i cs0 hmd;rw[hmd]at harg;obtain⟨ys,e,us,fs,hv',hF,hcr⟩:=harg;cases e;rw[gP]at hturn;obtain⟨⟨cs,obs⟩,htc,e1⟩:=hturn;simp only[Prod.mk.injEq]at e1;obtain⟨e1,rfl⟩:=e1;obtain⟨q1,q2,q3,q4⟩:=qc1 htc;have hlen:us.toList.length=cs0.length:=hcr.1.symm;have hl0:look Ob.free obs q13=.free:=q3 _ (.inl (by omega));refine⟨undef,[],us.toList,fs,by simp,fun j b' hj hb'=>⟨by rw[hF];exact q23.2 ⟨j,by omega,hb'⟩,by simp⟩,by rw[hlen];exact hcr.2.1,fun k hk hk2=>q3 k (by rw[hlen]at hk2;omega),fun fr hw _ hI hJ hv0 hvs=>?_⟩;obtain⟨c1,c2⟩:=qg6 hcr htc fr ⟨l,obs⟩ hw (fun _ h=>h.elim) (fun _ h=>h.elim) (fun j _=>rfl) hvs;refine⟨by rw[hl0];rfl,c2,same e1.symm ⟨us,hv',c1⟩⟩
    ·cases hturn
   ·exact absurd ht hn
 obtain⟨u0,F0,us,fs,k1,k2,k3,k4,k5⟩:=key;let val:Nat->Value:=fun k=>if k=q13 then u0 else us.getD (k-q13-1) undef
 let fp:Nat->List Nat:=fun k=>if k=q13 then F0 else if q13<k/\k-q13-1<us.length then fpo (look Ob.free os k) (fs (k-q13-1))else[]
 have fpo_sub:∀(o:Ob)(G:List Nat) b,b∈fpo o G->b∈G:=fun o G b hb=>by unfold fpo at hb;split at hb <;> first|exact hb|simp at hb
 have fpF:∀(k:Nat) b,b∈fp k->b∈F:=fun k b hb=>by
  simp only[fp]at hb;split at hb
  ·exact k1 b hb
  ·split at hb
   ·rename_i h2;exact(k2 _ b h2.2 (fpo_sub _ _ b hb)).1
   ·simp at hb
 have hI:∀b,I b->inI ⟨w.heap.size,I,J,(· ∈ F),q79 at_ vs w⟩ w fp b:=fun b hb=>⟨.inl hb,hp.lt b (hp.ij b hb),fun k hk=>hp.ap b (fpF k b hk) (hp.ij b hb)⟩;have hJ:∀b,J b->inJ ⟨w.heap.size,I,J,(· ∈ F),q79 at_ vs w⟩ w fp b:=fun b hb=>⟨.inl hb,hp.lt b hb,fun k hk=>hp.ap b (fpF k b hk) hb⟩;have hrb:∀{x:T}{v:Value},RB w I J x v->RB w (inI ⟨w.heap.size,I,J,(· ∈ F),q79 at_ vs w⟩ w fp) (inJ ⟨w.heap.size,I,J,(· ∈ F),q79 at_ vs w⟩ w fp) x v:=fun h=>RB.move h (fun b hb=>⟨hI b hb,rfl⟩) (fun b hb=>⟨hJ b hb,rfl⟩)
 have hval:∀i,i<us.length->val (q13+1+i)=us.getD i undef:=fun i _=>by
  have e1:¬ q13+1+i=q13:=by omega
  have e2:q13+1+i-q13-1=i:=by omega
  simp only[val,if_neg e1,e2]
 obtain⟨c1,c2,c3⟩:=k5 (mkFr ⟨w.heap.size,I,J,(· ∈ F),q79 at_ vs w⟩ w val fp) rfl rfl hI hJ (by simp[mkFr,val]) (fun i hi=>hval i hi);refine⟨val,fp,fun(k:Nat)=>?_,fun i=>?_,fun(k k':Nat) hne b hb hb'=>?_,fun k b hb=>.inr (fpF k b hb),gAI _,rfl,hp.ij⟩
 ·by_cases hk:k=q13
  ·subst hk;have e1:val q13=u0:=by simp[val]
   have e2:fp q13=F0:=by simp[fp]
   rw[e1,e2];exact c1
  ·by_cases hk2:q13<k/\k-q13-1<us.length
   ·have h3:=c2 (k-q13-1) hk2.2;have e:q13+1+(k-q13-1)=k:=by omega
    rw[e]at h3;have e1:val k=us.getD (k-q13-1) undef:=by simp only[val,if_neg hk]
    have e2:fp k=fpo (look Ob.free os k) (fs (k-q13-1)):=by simp only[fp,if_neg hk,if_pos hk2]
    rw[e1,e2];exact h3
   ·have e:(⟨l,os⟩:St).getO k=.free:=k4 k hk (by omega);rw[e];show fp k=[];simp only[fp,if_neg hk,if_neg hk2]
 ·have hg:(⟨l,os⟩:St).getT i=look V.any l i:=rfl;rw[hg];by_cases hi:i<args.length
  ·have hiv:i<vs.size:=by rw[hp.len];exact hi
   have hv:vs[i]?=some vs[i]:=by simp[hiv]
   have hx:args[i]?=some args[i]:=by simp[hi]
   have hval:(vs++Array.replicate n undef).getD i undef=vs[i]:=by
    rw[qnw hiv];simp[gQ,hiv]
   show VR _ _ _ ((vs++Array.replicate n undef).getD i undef);rw[hval];rcases r2 i _ hx with⟨ht,_⟩|⟨ht,hargV⟩
   ·exact c3 i _ _ ht hx hv
   ·have hres:=hp.vals i _ _ ht (qub hp r2 i) hx hv;unfold argV at hargV;split at hargV
    ·rename_i cs hcs;rw[hcs]at hres;cases hargV':look V.any l i with
     |agg ds=>
      rw[hargV']at hargV;cases hargV;obtain⟨us,fs,e1,e2,_,_,hel⟩:=hres;refine⟨us,e1,by simpa using e2,fun j cj u hcj hu=>?_⟩;rw[gAC,gP]at hcj;obtain⟨y,hy,rfl⟩:=hcj;exact hrb (hel j y u hy (by simpa using hu)).1
     |_=>rw[hargV']at hargV;cases hargV
    ·cases hargV
    ·rename_i h1 h2;cases hargV':look V.any l i with
     |one d=>
      rw[hargV']at hargV;cases hargV
      have hrb':RB w I J args[i] vs[i]:=by
       revert hres;cases hc:args[i]with
       |agg cs=>exact absurd hc (h1 cs)
       |tup ps=>exact absurd hc (h2 ps)
       |bx ys=>exact fun⟨_,_,_,_,hF,_⟩=>by cases hF
       |_=>exact fun hres=>hres.1
      exact hrb hrb'
     |_=>rw[hargV']at hargV;cases hargV
  ·rw[r3 i (by omega)];trivial
 ·have big:∀(k:Nat) b,k≠q13->b∈fp k->(q13<k/\k-q13-1<us.length)/\b∈fs (k-q13-1):=fun k b hk hb=>by
   simp only[fp,if_neg hk]at hb;split at hb
   ·exact⟨by assumption,fpo_sub _ _ b hb⟩
   ·simp at hb
  by_cases e1:k=q13
  ·by_cases e2:k'=q13
   ·exact hne (e1.trans e2.symm)
   ·obtain⟨g1,g2⟩:=big k' b e2 hb';subst e1;simp only[fp,if_true]at hb;exact(k2 _ b g1.2 g2).2 hb
  ·obtain⟨g1,g2⟩:=big k b e1 hb;by_cases e2:k'=q13
   ·subst e2;simp only[fp,if_true]at hb';exact(k2 _ b g1.2 g2).2 hb'
   ·obtain⟨g3,g4⟩:=big k' b e2 hb';have hne':¬(k:Nat)=k':=hne;exact k3.2 _ _ g1.2 g3.2 (by omega) b g2 g4
theorem qyi{at_:Attr}{args:List T}{I J:Nat->Prop}{vs:Array Value}{F:List Nat}(hp:Pre at_ args w I J vs F){l:List (Nat×V)}{os:List (Key×Ob)}(ha:qxe at_ args=some (l,os))(n:Nat) :
 ∃val fp,Inv ⟨w.heap.size,I,J,(· ∈ F),q79 at_ vs w⟩ ⟨l,os⟩ { tmps:=vs++Array.replicate n undef,defers:=[] } w val fp:=by
 unfold qxe at ha;split at ha
 case h_2=>exact entry hp ha n
 rename_i i m ht hmd;cases him:Nat.beq i m with
 |true=>rw[him]at ha;cases ha
 |false=>
 rw[him,cond_false]at ha;have him:i≠m:=fun e=>by subst e;simp at him
 split at ha
 case h_2=>cases ha
 rename_i sz cs hxm;rw[gP]at ha;obtain⟨⟨l0,os0⟩,ha,e⟩:=ha;simp only[Prod.mk.injEq]at e;obtain⟨rfl,rfl⟩:=e;obtain⟨r1,r2,r3,r4⟩:=qg3 _ ha;simp only[gAJ]at r1 r2 r3 r4;obtain⟨x,v,F1,hx,hv,harg,hmore⟩:=hp.turned i ht;rw[hmd]at harg;unfold qs5 at hmore;have hmr:at_.more=some m:=by unfold Attr.more;rw[ht,hmd]
 rw[hmr]at hmore;obtain⟨y,u,F2,hy,hum,⟨sz',cs',e⟩,hro,hFF,hdis⟩:=hmore;rw[hxm]at hy;cases hy;obtain⟨ys,e,b,cur,ty,fs,hv',hF,hbn,hh,hcr⟩:=harg;cases e
 obtain⟨e1,e2⟩:look V.any l0 i=.one (.ptr q13 0)/\os0=[(q13,.box (qbr 0 ys))]:=by
  rcases r2 i _ hx with⟨_,h2⟩|⟨h2,_⟩
  ·have h2:some (V.one (.ptr q13 0),[(q13,Ob.box (qbr 0 ys))])=some (look V.any l0 i,os0):=h2;have h3:=Option.some.inj h2;exact⟨(congrArg Prod.fst h3).symm,(congrArg Prod.snd h3).symm⟩
  ·exact absurd rfl h2
 subst e2
 have hF1:F1=[b]:=by
  rw[hF]
  have:flat ys.length fs=[]:=by
   rw[List.eq_nil_iff_forall_not_mem];intro z hz;obtain⟨j,hj,hz⟩:=q23.1 hz;have hjc:j<cur.toList.length:=by rw[<- hcr.1];exact hj
   have hel:=hcr.2.2 j _ _ (gA hj) (gA hjc);unfold El at hel;rw[if_neg (by simp)]at hel;rw[hel.2]at hz;cases hz
  rw[this]
 let os:List (Key×Ob):=[(q13,.box (qbr 0 ys))]++[(q13+1,.arr true true sz cs)];let val:Nat->Value:=fun k=>if k=q13 then v else if k=q13+1 then u else undef
 let fp:Nat->List Nat:=fun k=>if k=q13 then F1 else if k=q13+1 then F2 else[]
 have o0:look Ob.free os q13=.box (qbr 0 ys):=by show look Ob.free ((q13,_)::_) q13=_;rw[q69,if_pos rfl]
 have o1:look Ob.free os (q13+1)=.arr true true sz cs:=by
  show look Ob.free ((q13,_)::(q13+1,_)::[]) (q13+1)=_;rw[q69,if_neg (by omega),q69,if_pos rfl]
 have o2:∀k:Nat,k≠q13->k≠q13+1->look Ob.free os k=.free:=fun k h1 h2=>by
  show look Ob.free ((q13,_)::(q13+1,_)::[]) k=_;rw[q69,if_neg (fun e=>h1 e.symm),q69,if_neg (fun e=>h2 e.symm)];rfl
 have v0:val q13=v:=by simp[val]
 have v1:val (q13+1)=u:=by simp[val]
 have f0:fp q13=F1:=by simp[fp]
 have f1:fp (q13+1)=F2:=by simp[fp]
 have f2:∀k:Nat,k≠q13->k≠q13+1->fp k=[]:=fun k h1 h2=>by simp[fp,h1,h2]
 have fpF:∀(k:Nat) b,b∈fp k->b∈F:=fun k b hb=>by
  rw[hFF];by_cases h1:k=q13
  ·subst h1;rw[f0]at hb;exact gJ _ hb
  ·by_cases h2:k=q13+1
   ·subst h2;rw[f1]at hb;exact gN _ hb
   ·rw[f2 k h1 h2]at hb;cases hb
 have hI:∀b,I b->inI ⟨w.heap.size,I,J,(· ∈ F),q79 at_ vs w⟩ w fp b:=fun b hb=>⟨.inl hb,hp.lt b (hp.ij b hb),fun k hk=>hp.ap b (fpF k b hk) (hp.ij b hb)⟩;have hJ:∀b,J b->inJ ⟨w.heap.size,I,J,(· ∈ F),q79 at_ vs w⟩ w fp b:=fun b hb=>⟨.inl hb,hp.lt b hb,fun k hk=>hp.ap b (fpF k b hk) hb⟩;have hrb:∀{x:T}{v:Value},RB w I J x v->RB w (inI ⟨w.heap.size,I,J,(· ∈ F),q79 at_ vs w⟩ w fp) (inJ ⟨w.heap.size,I,J,(· ∈ F),q79 at_ vs w⟩ w fp) x v:=fun h=>RB.move h (fun b hb=>⟨hI b hb,rfl⟩) (fun b hb=>⟨hJ b hb,rfl⟩)
 have hkept:∀j,q79 at_ vs w j=cur.getD j undef:=fun j=>by
  unfold q79;rw[ht];simp only[gQ,hv,Option.getD_some];rw[hv'];unfold qe2;simp only[hh,gQ]
 have hg:∀k,(⟨put l0 m (.one (.obj (q13+1))),os⟩:St).getO k=look Ob.free os k:=fun _=>rfl;refine⟨val,fp,fun(k:Nat)=>?_,fun j=>?_,fun(k k':Nat) hne b hb hb'=>?_,fun k b hb=>.inr (fpF k b hb),gAI _,rfl,hp.ij⟩
 ·show ObR _ _ (look Ob.free os k) (val k) (fp k);by_cases h1:k=q13
  ·subst h1;rw[o0,v0,f0,hF1];refine⟨b,cur,ty,hv',rfl,hh,by rw[qft];exact hcr.1,fun j cc u hcj hu=>?_⟩;rw[qg1,gP]at hcj;obtain⟨y,hy,rfl⟩:=hcj;have hel:=hcr.2.2 j y u hy hu;unfold El at hel;rw[if_neg (by simp)]at hel;have h9:=hrb hel.1;unfold quz;cases y.scalar with
   |true=>exact h9
   |false=>
    refine⟨h9,?_⟩;show u=q79 at_ vs w (0+j);rw[gAJ,hkept];have hu':cur[j]?=some u:=by simpa using hu
    rw[gQ,hu'];rfl
  ·by_cases h2:k=q13+1
   ·subst h2;rw[o1,v1,f1];exact hro
   ·rw[o2 k h1 h2,f2 k h1 h2];rfl
 ·show VR _ _ (look V.any (put l0 m (.one (.obj (q13+1)))) j) ((vs++Array.replicate n undef).getD j undef);rw[qha];by_cases hi:j<args.length
  ·have hiv:j<vs.size:=by rw[hp.len];exact hi
   have hvj:vs[j]?=some vs[j]:=by simp[hiv]
   have hxj:args[j]?=some args[j]:=by simp[hi]
   have hval:(vs++Array.replicate n undef).getD j undef=vs[j]:=by
    rw[qnw hiv];simp[gQ,hiv]
   rw[hval];by_cases hm:m=j
   ·subst hm;rw[if_pos rfl];rw[hvj]at hum;cases hum;refine⟨?_,hro.one⟩;show(look Ob.free os (q13+1)).ref _;rw[o1];exact v1.symm
   ·rw[if_neg hm];by_cases hij:i=j
    ·subst hij;rw[e1];rw[hvj]at hv;cases hv;refine⟨?_,by rw[hv'];rfl⟩;show(look Ob.free os q13).ref _;rw[o0];show q8j (val q13) 0 _;rw[v0,hv'];rfl
    ·rcases r2 j _ hxj with⟨h2,_⟩|⟨_,hargV⟩
     ·exact absurd (Option.some.inj h2) hij
     have hres:=hp.vals j _ _ (by rw[ht];exact fun e=>hij (Option.some.inj e)) (by rw[hmr];exact fun e=>hm (Option.some.inj e)) hxj hvj;unfold argV at hargV;split at hargV
     ·rename_i cs hcs;rw[hcs]at hres;cases hargV':look V.any l0 j with
      |agg ds=>
       rw[hargV']at hargV;cases hargV;obtain⟨us,fs,e1,e2,_,_,hel⟩:=hres;refine⟨us,e1,by simpa using e2,fun j cj u hcj hu=>?_⟩;rw[gAC,gP]at hcj;obtain⟨y,hy,rfl⟩:=hcj;exact hrb (hel j y u hy (by simpa using hu)).1
      |_=>rw[hargV']at hargV;cases hargV
     ·cases hargV
     ·rename_i h1 h2;cases hargV':look V.any l0 j with
      |one d=>
       rw[hargV']at hargV;cases hargV
       have hrb':RB w I J args[j] vs[j]:=by
        revert hres;cases hc:args[j]with
        |agg cs=>exact absurd hc (h1 cs)
        |tup ps=>exact absurd hc (h2 ps)
        |bx ys=>exact fun⟨_,_,_,_,hF,_⟩=>by cases hF
        |_=>exact fun hres=>hres.1
       exact hrb hrb'
      |_=>rw[hargV']at hargV;cases hargV
  ·have hmi:m<args.length:=(gB.1 hxm).1;rw[if_neg (by omega),r3 j (by omega)];trivial
 ·by_cases h1:k=q13
  ·subst h1;rw[f0]at hb;by_cases h2:k'=q13+1
   ·subst h2;rw[f1]at hb';exact hdis b hb hb'
   ·rw[f2 k' (fun e=>hne e.symm) h2]at hb';cases hb'
  ·by_cases h3:k=q13+1
   ·subst h3;rw[f1]at hb;by_cases h2:k'=q13
    ·subst h2;rw[f0]at hb';exact hdis b hb' hb
    ·rw[f2 k' h2 (fun e=>hne e.symm)]at hb';cases hb'
   ·rw[f2 k h1 h3]at hb;cases hb
end
end Ev
end
section
namespace Ev
open Go
section
variable {P:Program}{A:q7t}{E:Env}{c:Ctx}{s s1:St}{a:Act}{w:World}{val:Key->Value}{fp:Key->List Nat}
variable {l:Log}{K:St->Log->R}{r:T×List T}
def qoy(tmps:Array Value):ResultVar->Sem Value
 |.tmp t=>pure (tmps.getD t undef)
 |.cell a t=>do loadVar t (<- asAddr (tmps.getD a undef))
theorem qe7(h:Inv c s a w val fp):∀{rs:List ResultVar}{ts:List TypeId}{f:List V->Prog}{l:Log},runP E (qrk P rs ts f) s l K=some r->
 ∃vs us l',runP E (f vs) s l' K=some r/\(rs.mapM (qoy a.tmps)).run P w=.ok us w/\vs.length=us.length/\∀(i:Nat)(v:V)(u:Value),vs[i]?=some v->us[i]?=some u->VR (mkFr c w val fp) s v u
 |[],[],f,l,hr=>⟨[],[],l,hr,rfl,rfl,by simp⟩
 |.tmp t::rs,_::ts,f,l,hr=>by
  rw[qrk,qev]at hr;obtain⟨vs,us,l1,h1,h2,h3,h4⟩:=qe7 h hr;refine⟨_::vs,a.tmps.getD t undef::us,l1,h1,?_,by simp[h3],fun i v u hv hu=>?_⟩
  ·simp[List.mapM_cons,qoy,h2]
  ·cases i with
   |zero=>simp at hv hu;subst hv;subst hu;simpa using h.tms t
   |succ i=>exact h4 i v u (by simpa using hv) (by simpa using hu)
 |.cell b t::rs,_::ts,f,l,hr=>by
  rw[qrk,qev]at hr;have hv:=h.tms b;split at hr
  ·rename_i k q hb;rw[hb]at hv;rw[q3s]at hr;split at hr
   ·rename_i cells hk;rw[q1s]at hr;replace hr:=q1c hr;obtain⟨hok,hr⟩:=hr;rw[gC]at hok;have hle:=gAH hok.2;have hob:=h.obs k;rw[hk]at hob;obtain⟨g,cur,e,hu,hF,hh,hcs⟩:=hob;have hh:w.heap[g]?=some (.cells cur e (0,0)):=hh;have hp:q8j (val k) q (a.tmps.getD b undef):=q6y hv hk (.inl ⟨_,rfl⟩);rw[hu]at hp;have hp:a.tmps.getD b undef=.pointer (some ⟨g,0+q,none⟩):=hp;rw[gAJ]at hp
    have hget:∀j,j<(q26 P 8 t).length->cur[q+j]?=some (cur.getD (q+j) undef):=fun j hj=>by
     have:q+j<cur.size:=by have:=hcs.1;simp at this;omega
     simp[this]
    have hload:=qia (P:=P) hok.1 (b:=g) (o:=q) (f:=fun j=>cur.getD (q+j) undef) (w:=w) (fun j hj=>by rw[q48 hh];exact hget j hj);obtain⟨vs,us,l1,h1,h2,h3,h4⟩:=qe7 h hr;refine⟨_::vs,qnq P t (fun j=>cur.getD (q+j) undef)::us,l1,h1,?_,by simp[h3],fun i v u hv hu=>?_⟩
    ·simp only[List.mapM_cons,qoy,hp];simp[asAddr,hload,h2]
    ·cases i with
     |zero=>
      simp only[List.getElem?_cons_zero,Option.some.injEq]at hv hu;subst hv;subst hu;refine qhd hok.1 (by simp;omega) fun j y hy=>?_;rw[gT]at hy;split at hy
      ·rename_i hj;rw[gV]at hy;exact hcs.2 (q+j) y _ hy (by simpa using hget j hj)
      ·cases hy
     |succ i=>exact h4 i v u (by simpa using hv) (by simpa using hu)
   ·cases hr
  ·cases hr
 |[],_::_,_,_,hr=>by cases hr
 |.tmp _::_,[],_,_,hr=>by cases hr
 |.cell _ _::_,[],_,_,hr=>by cases hr
structure Given(c:Ctx)(s:St)(w:World)(fp:Key->List Nat)(own:Bool)(L M B:List Key)(xs:List T)(us:List Value)(fs:Nat->List Nat):Prop where
 len:xs.length=us.length
 nd:ND xs.length fs
 sub:∀i b,i<xs.length->b∈fs i->∃k,(k∈M\/k∈B)/\b∈fp k
 bx:∀k,k∈B->k≠q13/\∃cs,s.getO k=.box cs
 nf:own=false->∀i b,i<xs.length->b∈fs i->∃k,k∈B/\b∈fp k
 el:∀(i:Nat)(x:T)(u:Value),xs[i]?=some x->us[i]?=some u->(∀ys,x ≠ .bx ys)->ResV w (inI c w (clr fp (M++L))) (inJ c w (clr fp (M++L))) own x u (fs i)
 eb:∀(i:Nat)(ys:List T)(u:Value),xs[i]?=some (.bx ys)->us[i]?=some u->BoxR w (inI c w fp) (inJ c w fp) ys u (fs i)
theorem ResV.clr_more{own:Bool}{L M:List Key}{x:T}{v:Value}{F:List Nat}(h:ResV w (inI c w (clr fp L)) (inJ c w (clr fp L)) own x v F):ResV w (inI c w (clr fp (M++L))) (inJ c w (clr fp (M++L))) own x v F:=by
 have el:∀{y:T}{u:Value}{F:List Nat},El w (inI c w (clr fp L)) (inJ c w (clr fp L)) own y u F->El w (inI c w (clr fp (M++L))) (inJ c w (clr fp (M++L))) own y u F:=fun h=>by
  unfold El at *;split
  ·rename_i ho;rw[if_pos ho]at h;exact h
  ·rename_i ho;rw[if_neg ho]at h;exact⟨RB.clr_more h.1,h.2⟩
 unfold ResV at *;cases x with
 |agg xs=>
  obtain⟨vs,fs,h1,h2,h3,h4,h5⟩:=h;exact⟨vs,fs,h1,h2,h3,h4,fun i y u hy hu=>el (h5 i y u hy hu)⟩
 |tup _=>exact h
 |int _ _=>exact el h
 |bool _=>exact el h
 |str _=>exact el h
 |sl _ _=>exact el h
 |rref _ _=>exact el h
 |clo _ _=>exact el h
 |hole=>exact el h
 |mp _=>exact el h
 |bx _=>
  obtain⟨b,cur,e,h1,h2,h3,h4,h5⟩:=h;exact⟨b,cur,e,h1,h2,h3,h4,fun i y u hy hu=>RB.clr_more (h5 i y u hy hu)⟩
theorem qw8{I J:Nat->Prop}{own:Bool}{x:T}{v:Value}{F:List Nat}(h:El w I J own x v F):ResV w I J own x v F:=by
 unfold El at h;split at h
 ·rename_i ho;subst ho;cases x with
  |agg _=>cases h
  |tup _=>cases h
  |bx _=>cases h
  |_=>exact h
 ·rename_i ho;have:own=false:=by simpa using ho
  subst this;cases x with
  |agg _=>obtain⟨h,_⟩:=h;cases h
  |tup _=>obtain⟨h,_⟩:=h;cases h
  |bx _=>obtain⟨h,_⟩:=h;cases h
  |_=>exact h
theorem qoo(h:Inv c s a w val fp){L:List Key}(hm:Moved s s1 L){t:TypeId}{x:C}{v:Value}(hx:CR (mkFr c w val fp) s x v){f:T->Prog}(hr:runP E (qxr P t x f) s1 l K=some r) :
 ∃ys s' l' M k F,runP E (f (.bx ys)) s' l' K=some r/\Moved s s' (M++L)/\k≠q13/\(∃cs,s.getO k=.box cs)/\F.Nodup/\(∀b,b∈F->b∈fp k)/\BoxR w (inI c w fp) (inJ c w fp) ys v F:=by
 unfold qxr at hr;split at hr
 ·rename_i k;rw[q8q,q92]at hr;rcases q99 hr with⟨_,hr⟩|⟨hkt,hr⟩
  ·cases hr
  have hkt:k≠q13:=fun e=>by subst e;simp at hkt
  rw[q3s]at hr;split at hr
  ·rename_i cells hk
   have hnL:k∉L:=fun hl=>by
    rcases(hm.gone k hl).1 with e|⟨j,e⟩ <;> rw[hk]at e <;> cases e
   have hs:s.getO k=.box cells:=by rw[<- hm.same k hnL];exact hk
   have hob:=h.obs k;rw[hs]at hob;obtain⟨b,cur,e,hvk,hF,hh,hcs⟩:=hob;have hh:w.heap[b]?=some (.cells cur e (0,0)):=hh;have hp:q8j (val k) 0 v:=qc0 hx (by rw[hs];rfl);rw[hvk]at hp;have hp:v=.pointer (some ⟨b,0,none⟩):=hp;obtain⟨ys,s',l',M,fs,h1,hm2,hg⟩:=q9q h hm hcs hr;refine⟨ys,s',l',M,k,[b],h1,hm2,hkt,⟨_,hs⟩,by simp,fun x hx=>by rw[gD.1 hx,hF];simp,b,cur,e,hp,rfl,hh,by have:=hg.r.1;simpa using this,fun i y u hy hu=>?_⟩;have:=hg.r.2.2 i y u hy (by simpa using hu);unfold El at this;rw[if_neg]at this
   ·exact this.1
   ·have hf:∀(l:List TypeId)(i:Nat),(l.map fun _=>false).getD i false=false:=fun l i=>by
     rw[gI,gAC];cases l[i]? <;> rfl
    rw[hf];simp
  ·cases hr
 ·cases hr
theorem qgc(h:Inv c s a w val fp){own:Bool}:∀{ts:List TypeId}{vs:List V}{us:List Value}{L:List Key}{s1:St}{l:Log}{f:List T->Prog},Moved s s1 L->vs.length=us.length->
 (∀(i:Nat)(v:V)(u:Value),vs[i]?=some v->us[i]?=some u->VR (mkFr c w val fp) s v u)->runP E (qf0 P own ts vs f) s1 l K=some r->
 ∃xs s2 l2 M B fs,runP E (f xs) s2 l2 K=some r/\Moved s s2 (M++L)/\Given c s w fp own L M B xs us fs/\(ts.any (q9s P)=false->B=[])
 |[],[],us,L,s1,l,f,hm,hl,hv,hr=>by
  have:us=[]:=gL (by simpa using hl.symm);subst this;exact⟨[],s1,l,[],[],fun _=>[],hr,hm,⟨rfl,ND.nil _,by simp,by simp,by simp,by simp,by simp⟩,fun _=>rfl⟩
 |t::ts,v::vs,[],L,s1,l,f,hm,hl,hv,hr=>by simp at hl
 |t::ts,v::vs,u::us,L,s1,l,f,hm,hl,hv,hr=>by
  have hv':∀(i:Nat)(v:V)(u:Value),vs[i]?=some v->us[i]?=some u->VR (mkFr c w val fp) s v u:=fun i v' u' h1 h2=>hv (i+1) v' u' (by simpa using h1) (by simpa using h2);have hv0:=hv 0 v u rfl rfl;have hl':vs.length=us.length:=by simpa using hl
  have join:∀{x:T}{F:List Nat}{M1 B1:List Key}{s2:St}{l2:Log},((∀ys,x ≠ .bx ys)->ResV w (inI c w (clr fp (M1++L))) (inJ c w (clr fp (M1++L))) own x u F)->(∀ys,x=.bx ys->BoxR w (inI c w fp) (inJ c w fp) ys u F)->F.Nodup->
   (∀b,b∈F->∃k,(k∈M1\/k∈B1)/\b∈fp k)->(∀k,k∈B1->k≠q13/\∃cs,s.getO k=.box cs)->(own=false->∀b,b∈F->∃k,k∈B1/\b∈fp k)->(B1≠[]->ts.any (q9s P)=false)->(q9s P t=false->B1=[])->Moved s s2 (M1++L)->
   runP E (qf0 P own ts vs fun r=>f (x::r)) s2 l2 K=some r->∃xs s2 l2 M B fs,runP E (f xs) s2 l2 K=some r/\Moved s s2 (M++L)/\Given c s w fp own L M B xs (u::us) fs/\((t::ts).any (q9s P)=false->B=[]):=by
   intro x F M1 B1 s2 l2 hx hxb hnd hsub hbx hnf hone hnp hm2 h2;obtain⟨xs,s3,l3,M,B,fs,h3,hm3,hg,hgB⟩:=qgc h hm2 hl' hv' h2
   have hap:∀k,k∈M1->k∉M:=fun k hk hk'=>by
    have:=hm3.nd;rw[List.nodup_append]at this;exact this.2.2 k hk' k (gJ _ hk) rfl
   have notbox:∀k,k∈M\/k∈M1->∀cs,s.getO k ≠ .box cs:=fun k hk cs hb=>by
    obtain⟨_,⟨d,sz,cells',e⟩|⟨m,e⟩⟩:=hm3.gone k (by rcases hk with hk|hk <;> simp[hk]) <;> rw[hb]at e <;> cases e
   have cross:∀b,b∈F->∀i,i<xs.length->b∉fs i:=fun b hb i hi hbi=>by
    obtain⟨k,hk,hbk⟩:=hsub b hb;obtain⟨k',hk',hbk'⟩:=hg.sub i b hi hbi;refine h.disj k k' (fun e=>?_) b hbk hbk';subst e;rcases hk with hk|hk
    ·rcases hk' with hk'|hk'
     ·exact hap k hk hk'
     ·obtain⟨_,cs,hc⟩:=hg.bx k hk';exact notbox k (.inr hk) cs hc
    ·rcases hk' with hk'|hk'
     ·obtain⟨_,cs,hc⟩:=hbx k hk;exact notbox k (.inl hk') cs hc
     ·rw[hgB (hone (fun e=>by rw[e]at hk;simp at hk))]at hk';simp at hk'
   refine⟨x::xs,s3,l3,M++M1,B++B1,fun i=>match i with|0=>F|i+1=>fs i,h3,by rw[gZ];exact hm3,⟨by simp[hg.len],⟨fun i hi=>?_,fun i j hi hj hne b hb hb'=>?_⟩,fun i b hi hb=>?_,fun k hk=>?_,fun ho i b hi hb=>?_,fun i y u' hy hu hyb=>?_,fun i ys u' hy hu=>?_⟩,fun hn=>?_⟩
   ·cases i with
    |zero=>exact hnd
    |succ i=>exact hg.nd.1 i (by simpa using hi)
   ·cases i with
    |zero=>
     cases j with
     |zero=>exact hne rfl
     |succ j=>exact cross b hb j (by simpa using hj) hb'
    |succ i=>
     cases j with
     |zero=>exact cross b hb' i (by simpa using hi) hb
     |succ j=>exact hg.nd.2 i j (by simpa using hi) (by simpa using hj) (by omega) b hb hb'
   ·cases i with
    |zero=>
     obtain⟨k,hk,hbk⟩:=hsub b hb;exact⟨k,by rcases hk with hk|hk <;> simp[hk],hbk⟩
    |succ i=>
     obtain⟨k,hk,hbk⟩:=hg.sub i b (by simpa using hi) hb;exact⟨k,by rcases hk with hk|hk <;> simp[hk],hbk⟩
   ·rcases gO.1 hk with hk|hk
    ·exact hg.bx k hk
    ·exact hbx k hk
   ·cases i with
    |zero=>obtain⟨k,hk,hbk⟩:=hnf ho b hb;exact⟨k,by simp[hk],hbk⟩
    |succ i=>obtain⟨k,hk,hbk⟩:=hg.nf ho i b (by simpa using hi) hb;exact⟨k,by simp[hk],hbk⟩
   ·rw[gZ];cases i with
    |zero=>simp at hy hu;subst hy;subst hu;exact(hx hyb).clr_more
    |succ i=>exact hg.el i y u' (by simpa using hy) (by simpa using hu) hyb
   ·cases i with
    |zero=>simp at hy hu;subst hu;exact hxb ys hy
    |succ i=>exact hg.eb i ys u' (by simpa using hy) (by simpa using hu)
   ·rw[List.any_cons,Bool.or_eq_false_iff]at hn;rw[hgB hn.2,hnp hn.1];rfl
  have plain:∀{x:T}{F:List Nat}{M1:List Key}{s2:St}{l2:Log},(∀ys,x ≠ .bx ys)->ResV w (inI c w (clr fp (M1++L))) (inJ c w (clr fp (M1++L))) own x u F->F.Nodup->(∀b,b∈F->∃k,k∈M1/\b∈fp k)->(own=false->F=[])->Moved s s2 (M1++L)->
   runP E (qf0 P own ts vs fun r=>f (x::r)) s2 l2 K=some r->∃xs s2 l2 M B fs,runP E (f xs) s2 l2 K=some r/\Moved s s2 (M++L)/\Given c s w fp own L M B xs (u::us) fs/\((t::ts).any (q9s P)=false->B=[]):=by
   intro x F M1 s2 l2 hnb hx hnd hsub ho hm2 h2;exact join (B1:=[]) (fun _=>hx) (fun ys e=>absurd e (hnb ys)) hnd (fun b hb=>by obtain⟨k,hk,hbk⟩:=hsub b hb;exact⟨k,.inl hk,hbk⟩) (by simp) (fun e b hb=>by rw[ho e]at hb;simp at hb) (by simp) (fun _=>rfl) hm2 h2
  cases v with
  |agg cs=>
   rw[qf0]at hr;obtain⟨vs',rfl,hcs⟩:=hv0;obtain⟨ys,b,s2,l2,M1,fs,h2,hm2,hmv⟩:=qb6 h hm hcs hr;rw[q8q,q92]at h2;rcases q99 h2 with⟨_,h2⟩|⟨hchk,h2⟩
   ·cases h2
   cases own with
   |true=>
    have hb:b=true:=by cases b; · cases hchk
                       ·rfl
    obtain⟨q1,q2,q3⟩:=hmv.ro hb;refine plain (x:=.agg ys) (M1:=M1) (F:=flat ys.length fs) (fun _ e=>by cases e) ⟨vs',fs,rfl,by simpa using hmv.len,q2,rfl,fun i y u hy hu=>q1 i y u hy (by simpa using hu)⟩ ((q6u _ _).2 q2) (fun x hx=>?_) (fun e=>by cases e) hm2 h2;obtain⟨i,hi,hx⟩:=q23.1 hx;exact q3 i x hi hx
   |false=>
    exact plain (x:=.agg ys) (M1:=M1) (F:=[]) (fun _ e=>by cases e) ⟨vs',fun _=>[],rfl,by simpa using hmv.len,ND.nil _,by simp[flat],fun i y u hy hu=>⟨hmv.rb i y u hy (by simpa using hu),rfl⟩⟩ List.nodup_nil (by simp) (fun _=>rfl) hm2 h2
  |one x=>
   rw[qf0]at hr;cases hpt:q9s P t with
   |true=>
    rw[hpt,cond_true,q8q,q92]at hr;rcases q99 hr with⟨_,hr⟩|⟨hnp,hr⟩
    ·cases hr
    obtain⟨ys,s2,l2,M1,k,F,h2,hm2,q1,q2,q3,q4,q5⟩:=qoo h hm hv0 hr;exact join (M1:=M1) (B1:=[k]) (fun hn=>absurd rfl (hn ys)) (fun ys' e=>by cases e;exact q5) q3 (fun b hb=>⟨k,by simp,q4 b hb⟩) (fun k' hk'=>by rw[gD.1 hk'];exact⟨q1,q2⟩) (fun _ b hb=>⟨k,by simp,q4 b hb⟩) (fun _=>hnp) (fun e=>by rw[hpt]at e;cases e) hm2 h2
   |false=>
   rw[hpt,cond_false]at hr;obtain⟨y,b,s2,l2,M1,F,h2,hm2,hmv⟩:=qej h hm hv0 hr;rw[q8q,q92]at h2;rcases q99 h2 with⟨_,h2⟩|⟨hchk,h2⟩
   ·cases h2
   cases own with
   |true=>
    have hb:b=true:=by cases b; · cases hchk
                       ·rfl
    obtain⟨q1,q2⟩:=hmv.ro hb;exact plain (F:=F) (fun ys e=>by subst e;cases q1) (qw8 (show El w _ _ true y u F from q1)) q1.nodup q2 (fun e=>by cases e) hm2 h2
   |false=>exact plain (F:=[]) (fun ys e=>by subst e;have:=hmv.rb;cases this) (qw8 (show El w _ _ false y u []from⟨hmv.rb,rfl⟩)) List.nodup_nil (by simp) (fun _=>rfl) hm2 h2
  |tup _=>cases hr
  |clo _ _=>cases hr
  |skip=>cases hr
  |any=>cases hr
 |[],_::_,_,_,_,_,_,_,_,_,hr=>by cases hr
 |_::_,[],_,_,_,_,_,_,_,_,hr=>by cases hr
theorem qhs:∀{cs:List C}{n:Nat}{f:List T->Prog}{l:Log},runP E (qpd n cs f) s l K=some r->
 ∃xs l',runP E (f xs) s l' K=some r/\xs.length=cs.length/\∀(i:Nat)(x:T)(c:C),xs[i]?=some x->cs[i]?=some c->(x.scalar=true/\c=.t x)\/c=.kept (n+i) x
 |[],n,f,l,hr=>⟨[],l,hr,rfl,by simp⟩
 |c::cs,n,f,l,hr=>by
  have go:∀{x:T}{l:Log},((x.scalar=true/\c=.t x)\/c=.kept n x)->runP E (qpd (n+1) cs fun l=>f (x::l)) s l K=some r->
   ∃xs l',runP E (f xs) s l' K=some r/\xs.length=(c::cs).length/\∀(i:Nat)(x:T)(c':C),xs[i]?=some x->(c::cs)[i]?=some c'->(x.scalar=true/\c'=.t x)\/c'=.kept (n+i) x:=fun {x l} hc hr=>by
   obtain⟨xs,l',h1,h2,h3⟩:=qhs hr;refine⟨x::xs,l',h1,by simp[h2],fun i y c' hy hc'=>?_⟩;cases i with
   |zero=>simp at hy hc';subst hy;subst hc';exact hc
   |succ i=>
    have:=h3 i y c' (by simpa using hy) (by simpa using hc');rwa[show n+1+i=n+(i+1) by omega]at this
  cases c with
  |t x=>
   rw[qpd]at hr;simp only[q1s]at hr;exact go (.inl ⟨(q1c hr).1,rfl⟩) (q1c hr).2
  |kept j x=>
   rw[qpd]at hr;simp only[q1s]at hr;obtain⟨h1,h2⟩:=q1c hr;exact go (.inr (by rw[gE h1])) h2
  |_=>cases hr
theorem qlq(h:Inv c s a w val fp){L:List Key}(hm:Moved s s1 L){at_:Attr}{pts:List TypeId}{f:List T->Prog}(hr:runP E (qpv P at_ pts f) s1 l K=some r) :
 ∃outs s2 l2 Fo,runP E (f outs) s2 l2 K=some r/\(∀b,b∈Fo->∃k,k∉L/\(k=q13\/∀cs,s.getO k ≠ .box cs)/\b∈fp k)/\((at_.turn=none/\outs=[]/\Fo=[])\/
  (∃i y,at_.turn=some i/\at_.take=false/\outs=[y]/\OutT w (inI c w fp) (inJ c w fp) c.kept at_.md.bare y (a.tmps.getD i undef) Fo)\/(at_.take=true/\outs=[]/\Fo=[])):=by
 have same:∀{k:Key},qal (s1.getO k)->k∉L/\s.getO k=s1.getO k:=fun {k} hal=>by
  have:k∉L:=fun hl=>by
   rcases(hm.gone _ hl).1 with e|⟨j,e⟩ <;> rw[e]at hal <;> cases hal
  exact⟨this,(hm.same _ this).symm⟩
 have apart:∀{M:List Key},∀{s2:St},Moved s s2 (M++L)->∀k,k∈M->k∉L:=fun {M s2} hm2 k hk hl=>by
  have:=hm2.nd;rw[List.nodup_append]at this;exact this.2.2 k hk k hl rfl
 have nobox:∀{M:List Key},∀{s2:St},Moved s s2 (M++L)->∀k,k∈M->∀cs,s.getO k ≠ .box cs:=fun {M s2} hm2 k hk cs hb=>by
  obtain⟨_,⟨d,sz,cells',e⟩|⟨m,e⟩⟩:=hm2.gone k (gJ _ hk) <;> rw[hb]at e <;> cases e
 unfold qpv at hr;split at hr
 ·rename_i ht;exact⟨[],s1,l,[],hr,by simp,.inl ⟨ht,rfl,rfl⟩⟩
 ·rename_i i ht;cases htk:at_.take with
  |true=>rw[htk,cond_true]at hr;exact⟨[],s1,l,[],hr,by simp,.inr (.inr ⟨rfl,rfl,rfl⟩)⟩
  |false=>
  rw[htk,cond_false]at hr;rw[qev,hm.tm]at hr;have hv:=h.tms i;split at hr
  ·rename_i os k hmd hvk;rw[hvk]at hv;rw[q1s]at hr;replace hr:=q1c hr;obtain⟨hb,hr⟩:=hr;have hk:k=q13:=gE hb;subst hk;rw[q3s]at hr;split at hr
   ·rename_i cells hok;obtain⟨hnL,hs⟩:=same (k:=q13) (by rw[hok];rfl);rw[hok]at hs;have hob:=h.obs q13;rw[hs]at hob;obtain⟨b,cur,e,hu,hF,hh,hcs⟩:=hob;have hh:w.heap[b]?=some (.cells cur e (0,0)):=hh;have hp:q8j (val q13) 0 (a.tmps.getD i undef):=qc0 hv (by rw[hs];rfl);rw[hu]at hp;have hp:a.tmps.getD i undef=.pointer (some ⟨b,0,none⟩):=hp;obtain⟨ys,s2,l2,M,fs,h1,hm2,hg⟩:=q9q h hm hcs hr;rw[q3s]at h1;split at h1
    ·have hbn:b∉flat ys.length fs:=fun hb=>by
      obtain⟨i,hi,hbi⟩:=q23.1 hb;obtain⟨k',hk',hbk'⟩:=hg.sub i b hi hbi
      have hne:q13≠k':=fun e=>by
       subst e;obtain⟨_,⟨d,sz,cells',h2⟩|⟨m,h2⟩⟩:=hm2.gone q13 (gJ _ hk') <;> rw[hs]at h2 <;> cases h2
      exact h.disj q13 k' hne b (by rw[hF];simp) hbk'
     refine⟨_,s2,_,b::flat ys.length fs,h1,fun x hx=>?_,.inr (.inl ⟨i,_,ht,rfl,rfl,?_⟩)⟩
     ·rcases gK.1 hx with rfl|hx
      ·exact⟨q13,hnL,.inl rfl,by rw[hF];simp⟩
      ·obtain⟨j,hj,hxj⟩:=q23.1 hx;obtain⟨k',hk',hbk'⟩:=hg.sub j x hj hxj;exact⟨k',apart hm2 k' hk',.inr (nobox hm2 k' hk'),hbk'⟩
     ·rw[hmd];exact⟨ys,rfl,b,cur,e,fs,hp,rfl,hbn,hh,hg.r⟩
    ·cases h1
   ·cases hr
  ·rename_i k hmd hvk;rw[hvk]at hv;rw[q1s]at hr;replace hr:=q1c hr;obtain⟨hb,hr⟩:=hr;have hk:k=q13:=gE hb;subst hk;rw[q3s]at hr;split at hr
   ·rename_i cells hok;obtain⟨hnL,hs⟩:=same (k:=q13) (by rw[hok];rfl);rw[hok]at hs;have hob:=h.obs q13;rw[hs]at hob;obtain⟨b,cur,e,hu,hF,hh,hcs⟩:=hob;have hh:w.heap[b]?=some (.cells cur e (0,0)):=hh;have hp:q8j (val q13) 0 (a.tmps.getD i undef):=qc0 hv (by rw[hs];rfl);rw[hu]at hp;have hp:a.tmps.getD i undef=.pointer (some ⟨b,0,none⟩):=hp;obtain⟨ys,l2,h1,hyl,hys⟩:=qhs hr;refine⟨_,s1,l2,[b],h1,fun x hx=>⟨q13,hnL,.inl rfl,by rw[hF];exact hx⟩,.inr (.inl ⟨i,_,ht,rfl,rfl,?_⟩)⟩;rw[hmd];refine⟨ys,rfl,b,cur,e,hp,rfl,hh,by rw[hyl];have:=hcs.1;simpa using this,fun j y u hy hu=>?_⟩;have hj:j<cells.length:=by rw[<- hyl];exact(gB.1 hy).1
    have hcr:=hcs.2 j _ u (gA hj) (by simpa using hu);rcases hys j y _ hy (gA hj)with⟨hsc,hc⟩|hc <;> rw[hc]at hcr
    ·exact⟨fun _=>hcr,fun e=>by rw[hsc]at e;cases e⟩
    ·rw[gAJ]at hcr;exact⟨fun _=>hcr.1,fun _=>hcr.2⟩
   ·cases hr
  ·rename_i k hmd hvk;rw[hvk]at hv;rw[q1s]at hr;replace hr:=q1c hr;obtain⟨hb,hr⟩:=hr;have hk:k=q13:=gE hb;subst hk;rw[q3s]at hr;split at hr
   ·rename_i sz cs hok;rw[q51]at hr;obtain⟨hnL,hs⟩:=same (k:=q13) (by rw[hok];rfl);rw[hok]at hs;have hob:=h.obs q13;rw[hs]at hob;have hp:a.tmps.getD i undef=val q13:=q6a hv hs;refine⟨_,_,_,fp q13,hr,fun x hx=>⟨q13,hnL,.inl rfl,hx⟩,.inr (.inl ⟨i,_,ht,rfl,rfl,?_⟩)⟩;rw[hmd,hp];exact⟨⟨_,_,rfl⟩,hob⟩
   ·cases hr
  ·rename_i cells hmd hvk;rw[hvk]at hv;obtain⟨vs,hu,hcs⟩:=hv;obtain⟨ys,s2,l2,M,fs,h1,hm2,hg⟩:=q9q h hm hcs hr
   have tr:∀j,j<ys.length->(qmn (q26 P 8 (pts.getD i 0))).getD j false=true:=fun j hj=>by
    have h1:j<(qmn (q26 P 8 (pts.getD i 0))).length:=by rw[hg.ol];exact hj
    unfold qmn at *;simp at h1;simp[gI,h1]
   refine⟨_,s2,_,flat ys.length fs,h1,fun x hx=>?_,.inr (.inl ⟨i,_,ht,rfl,rfl,?_⟩)⟩
   ·obtain⟨j,hj,hxj⟩:=q23.1 hx;obtain⟨k',hk',hbk'⟩:=hg.sub j x hj hxj;exact⟨k',apart hm2 k' hk',.inr (nobox hm2 k' hk'),hbk'⟩
   ·rw[hmd,hu];refine⟨ys,rfl,vs,fs,rfl,rfl,hg.r.1,hg.r.2.1,fun j y u hy hu=>?_⟩;have hi:=(gB.1 hy).1;have h2:=hg.r.2.2 j y u hy hu;rw[tr j hi]at h2;have h3:(qe1 ys).getD j false=true:=by simp[qe1,gI,hi]
    rw[h3];exact h2
  ·cases hr
end
end Ev
namespace Ev
open Go
theorem qpp{P:Program}{fn:Func}{tmps:Array Value}{w:World}{us:List Value}(h:(fn.results.toList.mapM (qoy tmps)).run P w=.ok us w) :
 (results fn tmps).run P w=.ok (if h:us.toArray.size=1 then us.toArray[0]else .tuple us.toArray) w:=by
 have e2:results fn tmps=(do
  let vs <- fn.results.mapM (qoy tmps)
  pure (if h:vs.size=1 then vs[0]else .tuple vs)):=rfl
 have e:fn.results.mapM (qoy tmps)=List.toArray <$> fn.results.toList.mapM (qoy tmps):=by
  rcases fn.results with⟨rl⟩;simp
 rw[e2,e];simp[h]
theorem qp2{P:Program}{A:q7t}{H:FuncId->Hints}{E:Env}(hm:P.follows .mixedOrders=true)(hE:∀g args r,E g args=some r->Meets P (A g) g args r){n:Nat}{f:FuncId}{args:List T}{r:T×List T}
 (hr:q1b P A H E n f args=some r):Meets P (A f) f args r:=by
 unfold q1b at hr;split at hr
 case h_2=>cases hr
 rename_i fn hf;split at hr
 case h_2=>cases hr
 rename_i body hb;split at hr
 case h_2=>cases hr
 rename_i vs0 os hargs;replace hr:=q1c hr;obtain⟨hok,hr⟩:=hr;rw[gC,gC]at hok;have hname:(fn.name=="runtime.NumGoroutine")=false:=by simpa using hok.2
 have hle:args.length<=fn.ntmps:=Nat.le_of_ble_eq_true hok.1.2;intro w I J vs F hp
 have hcall:(callFunc f vs).run P w=.ok (.enter f vs) w:=by
  have hne:¬ fn.name="runtime.NumGoroutine":=by simpa using hname
  simp[callFunc,hf,hne,hb]
 unfold Does;rw[hcall];refine calls_of_wp hf hb ?_;obtain⟨val,fp,hinv⟩:=qyi hp hargs (fn.ntmps-vs.size)
 have hsz:(vs++Array.replicate (fn.ntmps-vs.size) undef).size=fn.ntmps:=by
  have:=hp.len;simp;omega
 refine wp_mono (qo8 (a0:=vs) (tp:=(A f).turn) (w0:=w) hm hE n body hok.1.1 0 _ _ _ w val fp hinv ⟨hsz,fun i hi=>?_⟩ (Kp.refl _ _) hr) fun e a' w' hq=>?_
 ·obtain⟨x,v,_,hx,hv,_⟩:=hp.turned i hi;exact Array.getElem?_append_left (by have:=hp.len;have:=(gB.1 hx).1;omega)
 have fin:∀{K:St->R},Ok vs (A f).turn ⟨w.heap.size,I,J,(· ∈ F),q79 (A f) vs w⟩ w fn.ntmps K r a' w'->(∀s,K s=endK P A f fn s)->
  a'.defers=[]/\∃v,(results fn a'.tmps).run P w'=.ok v w'/\∃v',Ending.returned v=.returned v'/\∃Fr Fo,Done (A f) w I J vs F r v' w' Fr Fo:=by
  rintro K ⟨s,val,fp,hK,hi,hkt,hkp⟩ hKe;rw[hKe]at hK;unfold endK at hK;unfold endP at hK;obtain⟨rs,us,l1,h1,h2,h3,h4⟩:=qe7 hi hK;obtain⟨xs,s2,l2,M,B,fs,h5,hm2,hg,_⟩:=qgc hi (Moved.refl s) h3 h4 h1;rw[gAD]at hm2;obtain⟨outs,s3,l3,Fo,h6,hFo,hout⟩:=qlq hi hm2 h5;rw[q51,q49]at h6;have hget:((s3.setO qqk (.arr true true 0 (qwy xs::outs))).getO qqk)=.arr true true 0 (qwy xs::outs):=by rw[q2y,if_pos rfl]
  rw[hget]at h6;simp only[Option.some.injEq]at h6;subst h6;refine⟨hi.defers,_,qpp h2,_,rfl,flat xs.length fs,Fo,?_⟩
  have hFrsub:∀b,b∈flat xs.length fs->∃k,(k∈M\/k∈B)/\b∈fp k:=fun b hb=>by
   obtain⟨i,hib,hb⟩:=q23.1 hb;exact hg.sub i b hib hb
  have mine:∀k b,b∈fp k->b∈F\/w.heap.size<=b:=fun k b hb=>(hi.mine k b hb).symm
  have hBM:∀k,k∈B->k∉M:=fun k hk hk'=>by
   obtain⟨_,cs,hc⟩:=hg.bx k hk;obtain⟨_,⟨d,sz,cells',e⟩|⟨m,e⟩⟩:=hm2.gone k hk' <;> rw[hc]at e <;> cases e
  have hBo:∀k,k∈B->∀b,b∈fp k->b∉Fo:=fun k hk b hb hbo=>by
   obtain⟨k',_,q2,q3⟩:=hFo b hbo;obtain⟨g1,cs,g2⟩:=hg.bx k hk;refine hi.disj k k' (fun e=>?_) b hb q3;subst e;rcases q2 with q2|q2
   ·exact g1 q2
   ·exact q2 cs g2
  have hFr0:(A f).own=false->∀b,b∈flat xs.length fs->∃k,k∈B/\b∈fp k:=fun ho b hb=>by
   obtain⟨i,hib,hb⟩:=q23.1 hb;exact hg.nf ho i b hib hb
  have after:∀b,inI ⟨w.heap.size,I,J,(· ∈ F),q79 (A f) vs w⟩ w' (clr fp (M++[])) b->(A f).own=false->aftI I w w' F (flat xs.length fs) Fo b:=fun b hb ho=>by
   refine⟨?_,hb.2.1,fun hbr=>?_,fun hbo=>?_⟩
   ·rcases hb.1 with h|h|h
    ·exact .inl h
    ·exact .inr (.inr h)
    ·exact .inr (.inl h)
   ·obtain⟨k,q1,q2⟩:=hFr0 ho b hbr;exact hb.2.2 k (by simp[clr,hBM k q1,q2])
   ·obtain⟨k,q1,_,q2⟩:=hFo b hbo;exact hb.2.2 k (by simp[clr,q1,q2])
  have afterJ:∀b,inJ ⟨w.heap.size,I,J,(· ∈ F),q79 (A f) vs w⟩ w' (clr fp (M++[])) b->(A f).own=false->aftI J w w' F (flat xs.length fs) Fo b:=fun b hb ho=>by
   refine⟨?_,hb.2.1,fun hbr=>?_,fun hbo=>?_⟩
   ·rcases hb.1 with h|h|h
    ·exact .inl h
    ·exact .inr (.inr h)
    ·exact .inr (.inl h)
   ·obtain⟨k,q1,q2⟩:=hFr0 ho b hbr;exact hb.2.2 k (by simp[clr,hBM k q1,q2])
   ·obtain⟨k,q1,_,q2⟩:=hFo b hbo;exact hb.2.2 k (by simp[clr,q1,q2])
  have toI:∀b,inI ⟨w.heap.size,I,J,(· ∈ F),q79 (A f) vs w⟩ w' fp b->aftI I w w' F (flat xs.length fs) Fo b:=fun b hb=>by
   refine⟨?_,hb.2.1,fun hbr=>?_,fun hbo=>?_⟩
   ·rcases hb.1 with h|h|h
    ·exact .inl h
    ·exact .inr (.inr h)
    ·exact .inr (.inl h)
   ·obtain⟨k,_,hbk⟩:=hFrsub b hbr;exact hb.2.2 k hbk
   ·obtain⟨k,_,_,hbk⟩:=hFo b hbo;exact hb.2.2 k hbk
  have toJ:∀b,inJ ⟨w.heap.size,I,J,(· ∈ F),q79 (A f) vs w⟩ w' fp b->aftI J w w' F (flat xs.length fs) Fo b:=fun b hb=>by
   refine⟨?_,hb.2.1,fun hbr=>?_,fun hbo=>?_⟩
   ·rcases hb.1 with h|h|h
    ·exact .inl h
    ·exact .inr (.inr h)
    ·exact .inr (.inl h)
   ·obtain⟨k,_,hbk⟩:=hFrsub b hbr;exact hb.2.2 k hbk
   ·obtain⟨k,_,_,hbk⟩:=hFo b hbo;exact hb.2.2 k hbk
  have el:∀{x:T}{v:Value}{G:List Nat},ResV w' (inI ⟨w.heap.size,I,J,(· ∈ F),q79 (A f) vs w⟩ w' (clr fp (M++[]))) (inJ ⟨w.heap.size,I,J,(· ∈ F),q79 (A f) vs w⟩ w' (clr fp (M++[]))) (A f).own x v G->(∀ys,x ≠ .bx ys)->
   ResV w' (aftI I w w' F (flat xs.length fs) Fo) (aftI J w w' F (flat xs.length fs) Fo) (A f).own x v G:=fun {x v G} h hnb=>by
   have cell:∀{y:T}{u:Value}{G:List Nat},El w' (inI ⟨w.heap.size,I,J,(· ∈ F),q79 (A f) vs w⟩ w' (clr fp (M++[]))) (inJ ⟨w.heap.size,I,J,(· ∈ F),q79 (A f) vs w⟩ w' (clr fp (M++[]))) (A f).own y u G->
    El w' (aftI I w w' F (flat xs.length fs) Fo) (aftI J w w' F (flat xs.length fs) Fo) (A f).own y u G:=fun h=>by
    unfold El at *;split
    ·rename_i ho;rw[if_pos ho]at h;exact h
    ·rename_i ho;rw[if_neg ho]at h;have ho:(A f).own=false:=by simpa using ho
     exact⟨RB.move h.1 (fun b hb=>⟨after b hb ho,rfl⟩) (fun b hb=>⟨afterJ b hb ho,rfl⟩),h.2⟩
   cases x with
   |agg ys=>
    obtain⟨vs',gs,e1,e2,e3,e4,e5⟩:=h;exact⟨vs',gs,e1,e2,e3,e4,fun i y u hy hu=>cell (e5 i y u hy hu)⟩
   |tup _=>exact h
   |bx ys=>exact absurd rfl (hnb ys)
   |_=>exact cell h
  have elx:∀(i:Nat)(x:T)(u:Value),xs[i]?=some x->us[i]?=some u->ResV w' (aftI I w w' F (flat xs.length fs) Fo) (aftI J w w' F (flat xs.length fs) Fo) (A f).own x u (fs i):=fun i x u hx hu=>by
   cases x with
   |bx ys=>
    obtain⟨b,cur,ty,e1,e2,e3,e4,e5⟩:=hg.eb i ys u hx hu;exact⟨b,cur,ty,e1,e2,e3,e4,fun j y u' hy hu'=>RB.move (e5 j y u' hy hu') (fun b hb=>⟨toI b hb,rfl⟩) (fun b hb=>⟨toJ b hb,rfl⟩)⟩
   |_=>exact el (hg.el i _ u hx hu (fun ys e=>by cases e)) (fun ys e=>by cases e)
  refine⟨⟨hkp.os,hkp.tape,hkp.output,hkp.size,fun b hb hn=>hkp.block b hb ?_⟩,fun b hb=>?_,fun b hb hbo=>?_,?_,?_⟩
  ·rintro(h|h)
   ·exact absurd hb (by show ¬ b<w.heap.size;have:w.heap.size<=b:=h;omega)
   ·exact hn h
  ·rcases hb with hb|hb
   ·obtain⟨k,_,hbk⟩:=hFrsub b hb;exact mine k b hbk
   ·obtain⟨k,_,_,q2⟩:=hFo b hb;exact mine k b q2
  ·obtain⟨k,hk,hbk⟩:=hFrsub b hb;rcases hk with hk|hk
   ·obtain⟨k',q1,_,q2⟩:=hFo b hbo;exact hi.disj k k' (fun e=>q1 (e▸hk)) b hbk q2
   ·exact hBo k hk b hbk hbo
  ·clear el hFrsub hBM hBo hFr0 after afterJ toI toJ
   match xs,us,hg,elx with
   |[],[],hg,_=>exact⟨#[],fs,rfl,rfl,hg.nd,rfl,by simp⟩
   |[x],[u],hg,elx=>
    have h7:=elx 0 x u rfl rfl;have hfl:flat [x].length fs=fs 0:=by simp[flat]
    have h8:ResV w' (aftI I w w' F (flat [x].length fs) Fo) (aftI J w w' F (flat [x].length fs) Fo) (A f).own x u (flat [x].length fs):=by
     rw[hfl]at h7 ⊢;exact h7
    show ResT w' _ _ _ x u _;cases x with
    |tup _=>exact h8.elim
    |_=>exact h8
   |x::y::xs,u::v::us,hg,elx=>
    refine⟨(u::v::us).toArray,fs,?_,by simpa using hg.len,hg.nd,rfl,fun i z u' hz hu=>elx i z u' hz (by simpa using hu)⟩;rw[dif_neg (by simp)]
   |[],_::_,hg,_=>have:=hg.len;simp at this
   |_::_,[],hg,_=>have:=hg.len;simp at this
   |[_],_::_::_,hg,_=>have:=hg.len;simp at this
   |_::_::_,[_],hg,_=>have:=hg.len;simp at this
  ·rcases hout with⟨q1,q2,q3⟩|⟨i,y,q1,q0,q2,q3⟩|q4
   ·exact .inl ⟨q1,q2,q3⟩
   ·obtain⟨x,v,_,hx,hv,_⟩:=hp.turned i q1;have hil:i<args.length:=(gB.1 hx).1;refine .inr (.inl ⟨i,y,v,q1,q0,q2,hv,?_⟩)
    have:a'.tmps.getD i undef=v:=by
     rw[gQ,hkt.2 i q1,hv];rfl
    rw[this]at q3
    have hkk:q79 (A f) vs w=qe2 w v:=by
     unfold q79;rw[q1];simp only[gQ,hv,Option.getD_some]
    rw[qu3]at q3;have q3:OutT w' (inI ⟨w.heap.size,I,J,(· ∈ F),q79 (A f) vs w⟩ w' fp) (inJ ⟨w.heap.size,I,J,(· ∈ F),q79 (A f) vs w⟩ w' fp) (qe2 w v) (A f).md y v Fo:=hkk▸q3;revert q3;cases (A f).md with
    |src=>
     rintro⟨ys,e1,b',cur,e,p1,p2,p3,p4,p5⟩;exact⟨ys,e1,b',cur,e,p1,p2,p3,p4,fun j y u hy hu=>⟨fun hs=>RB.move ((p5 j y u hy hu).1 hs) (fun x hx=>⟨toI x hx,rfl⟩) (fun x hx=>⟨toJ x hx,rfl⟩),(p5 j y u hy hu).2⟩⟩
    |ptr os=>
     rintro⟨ys,e1,b',cur,e,fs',p1,p2,p3,p4,p5,p6,p7⟩;refine⟨ys,e1,b',cur,e,fs',p1,p2,p3,p4,p5,p6,fun j y u hy hu=>?_⟩;have:=p7 j y u hy hu;unfold El at *;split
     ·rename_i ho;rw[if_pos ho]at this;exact this
     ·rename_i ho;rw[if_neg ho]at this;exact⟨RB.move this.1 (fun x hx=>⟨toI x hx,rfl⟩) (fun x hx=>⟨toJ x hx,rfl⟩),this.2⟩
    |both _=>
     rintro⟨ys,e1,b',cur,e,p1,p2,p3,p4,p5⟩;exact⟨ys,e1,b',cur,e,p1,p2,p3,p4,fun j y u hy hu=>⟨fun hs=>RB.move ((p5 j y u hy hu).1 hs) (fun x hx=>⟨toI x hx,rfl⟩) (fun x hx=>⟨toJ x hx,rfl⟩),(p5 j y u hy hu).2⟩⟩
    |sl=>exact id
    |val=>exact id
    |two _=>exact id
   ·exact .inr (.inr q4)
 cases e with
 |normal=>exact fin hq fun s=>rfl
 |ret=>exact fin hq fun s=>rfl
 |exit i=>obtain⟨s,_,_,hK,_⟩:=hq;cases hK
 |goto l=>exact hq.elim
 |panic ch=>exact hq.elim
 |outgrown=>exact hq.elim
end Ev
end
section
namespace Ev
open Go
abbrev Ext:=FuncId->Option (Env->List T->R)
def qhz(P:Program)(A:q7t)(H:FuncId->Hints)(X:Ext):Nat->Env
 |0=>fun _ _=>none
 |n+1=>fun f args=>match X f with
  |some e=>e (qhz P A H X n) args
  |none=>q1b P A H (qhz P A H X n) n f args
theorem qos{P:Program}{A:q7t}{H:FuncId->Hints}{X:Ext}(hm:P.follows .mixedOrders=true)
 (hX:∀f e,X f=some e->∀E,(∀g args r,E g args=some r->Meets P (A g) g args r)->∀args r,e E args=some r->Meets P (A f) f args r) :
 ∀n g args r,qhz P A H X n g args=some r->Meets P (A g) g args r:=by
 intro n;induction n with
 |zero=>intro g args r h;cases h
 |succ n ih=>
  intro g args r h;simp only[qhz]at h;split at h
  ·rename_i e he;exact hX g e he _ ih args r h
  ·exact qp2 hm ih h
def Ev(p:Nat->Prop):Prop:=∃m0,∀m,m0<=m->p m
theorem Ev.and{p q:Nat->Prop}(h:Ev p)(h':Ev q):Ev fun m=>p m/\q m:=by
 obtain⟨a,h⟩:=h;obtain⟨b,h'⟩:=h';exact⟨max a b,fun m hm=>⟨h m (by omega),h' m (by omega)⟩⟩
theorem Ev.mono{p q:Nat->Prop}(h:Ev p)(hpq:∀m,p m->q m):Ev q:=by
 obtain⟨a,h⟩:=h;exact⟨a,fun m hm=>hpq m (h m hm)⟩
theorem Ev.of{p:Nat->Prop}(h:∀m,p m):Ev p:=⟨0,fun m _=>h m⟩
theorem Ev.ge(n:Nat):Ev fun m=>n<=m:=⟨n,fun _ h=>h⟩
def qpt(L:Env)(Em:Nat->Env):Prop:=∀g args r,L g args=some r->Ev fun m=>Em m g args=some r
section
variable {L:Env}{Em:Nat->Env}{r:T×List T}
theorem qiz(hE:qpt L Em){K:St->Log->R}{Km:Nat->St->Log->R}(hK:∀s l,K s l=some r->Ev fun m=>Km m s l=some r)(p:Prog) :
 ∀s l,runP L p s l K=some r->Ev fun m=>runP (Em m) p s l (Km m)=some r:=by
 induction p with
 |done=>intro s l h;exact hK s l h
 |fail=>intro s l h;cases h
 |getT i f ih=>intro s l h;exact ih _ s _ h
 |getO k f ih=>intro s l h;exact ih _ s _ h
 |setT i v p ih=>intro s l h;exact ih _ _ h
 |setO k o p ih=>intro s l h;exact ih _ _ h
 |ite b p q ihp ihq=>intro s l h;cases b <;> first|exact ihq s l h|exact ihp s l h
 |asInt k x f ih=>
  intro s l h;cases x with
  |int k' n=>
   rw[qdc]at h;obtain⟨h1,h2⟩:=q1c h;refine(ih _ s l h2).mono fun m hm=>?_;rw[qdc];simp only[h1];exact hm
  |_=>cases h
 |asBool x f ih=>intro s l h;cases x <;> first|exact ih _ s l h|cases h
 |asStr x f ih=>intro s l h;cases x <;> first|exact ih _ s l h|cases h
 |asSl sz x f ih=>
  intro s l h;cases x with
  |sl sz' cs=>
   rw[q6f]at h;obtain⟨h1,h2⟩:=q1c h;refine(ih _ s l h2).mono fun m hm=>?_;rw[q6f];simp only[h1];exact hm
  |_=>cases h
 |asAgg x f ih=>intro s l h;cases x <;> first|exact ih _ s l h|cases h
 |asTup x f ih=>intro s l h;cases x <;> first|exact ih _ s l h|cases h
 |asBx x f ih=>intro s l h;cases x <;> first|exact ih _ s l h|cases h
 |uncons l' f ih=>intro s l h;cases l' <;> first|exact ih _ _ s l h|cases h
 |unnil l' p ih=>intro s l h;cases l' <;> first|exact ih s l h|cases h
 |onSome x f ih=>intro s l h;cases x <;> first|exact ih _ s l h|cases h
 |onRef x p ih=>intro s l h;cases x <;> first|exact ih s l h|cases h
 |onClo x p ih=>intro s l h;cases x <;> first|exact ih s l h|cases h
 |call g args k ih=>
  intro s l h;simp only[runP,gAE]at h;obtain⟨q,hq,h⟩:=h;refine((hE g args q hq).and (ih _ _ s l h)).mono fun m ⟨h1,h2⟩=>?_;simp only[runP,h1];exact h2
variable {P:Program}{A:q7t}{H:Hints}
theorem qni(hE:qpt L Em){K:St->R}{Km:Nat->St->R}(hK:∀s,K s=some r->Ev fun m=>Km m s=some r)(all:List Oper):∀(ops:List Oper)(s:St),
 opsK P A L all ops s K=some r->Ev fun m=>opsK P A (Em m) all ops s (Km m)=some r
 |[],s,h=>hK s h
 |o::ops,s,h=>qiz hE (fun s _ h=>qni hE hK all ops s h) _ s q6l h
theorem qm4(hE:qpt L Em){K:St->List Log->R}{Km:Nat->St->List Log->R}(hK:∀s ls,K s ls=some r->Ev fun m=>Km m s ls=some r)(all:List Oper):∀(ops:List Oper)(s:St)(ls:List Log),
 opsL P A L all ops s ls K=some r->Ev fun m=>opsL P A (Em m) all ops s ls (Km m)=some r
 |[],s,ls,h=>hK s ls h
 |o::ops,s,ls,h=>qiz hE (fun s l h=>qm4 hE hK all ops s (l::ls) h) _ s q6l h
theorem qnc(hE:qpt L Em){K:St->R}{Km:Nat->St->R}(hK:∀s,K s=some r->Ev fun m=>Km m s=some r){ops:List Oper}{draw:Bool}{s:St}(h:qhb P A L ops draw s K=some r) :
 Ev fun m=>qhb P A (Em m) ops draw s (Km m)=some r:=by
 cases draw with
 |false=>exact qni hE (fun s h=>hK _ h) ops ops _ h
 |true=>
  refine qm4 hE (K:=fun s ls=>bif qck 0 ops&&qes (ancs ops []) ls.reverse then K (settle 8 s)else none) (fun s ls h=>?_) ops ops _ [] h;obtain⟨h1,h2⟩:=q1c h;refine(hK _ h2).mono fun m hm=>?_;show(bif qck 0 ops&&qes (ancs ops []) ls.reverse then Km m (settle 8 s)else none)=some r;rw[h1];exact hm
theorem qk5{K:St->R}{Km:Nat->St->R}(hK:∀s,K s=some r->Ev fun m=>Km m s=some r):∀(os:List Opn)(s:St),qrp P os s K=some r->Ev fun m=>qrp P os s (Km m)=some r
 |[],s,h=>hK s h
 |o::os,s,h=>qiz (L:=fun _ _=>none) (Em:=fun _ _ _=>none) (fun g args q hq=>by cases hq) (fun s _ h=>qk5 hK os s h) _ s q6l h
theorem qkf{body:St->(Ex->St->R)->R}{bm:Nat->St->(Ex->St->R)->R}
 (hb:∀(s:St)(K:Ex->St->R)(Km:Nat->Ex->St->R),(∀e s,K e s=some r->Ev fun m=>Km m e s=some r)->body s K=some r->Ev fun m=>bm m s (Km m)=some r)
 {K:Ex->St->R} {Km:Nat->Ex->St->R} (hK:∀e s,K e s=some r->Ev fun m=>Km m e s=some r) :
 ∀(n d:Nat)(s:St),qoz body n s K=some r->Ev fun m=>qoz (bm m) (m-d) s (Km m)=some r
 |0,d,s,h=>by cases h
 |n+1,d,s,h=>by
  have h1:=hb s _ (fun m e s=>match e with
   |.normal=>qoz (bm m) (m-(d+1)) s (Km m)
   |e=>Km m e s) (fun e s h=>by
    cases e with
    |normal=>exact qkf hb hK n (d+1) s h
    |exit i=>exact hK _ s h
    |ret=>exact hK _ s h) h
  refine(h1.and (Ev.ge (d+1))).mono fun m ⟨h2,h3⟩=>?_;rw[show m-d=(m-(d+1))+1 by omega];exact h2
theorem qs8(hE:qpt L Em)(n:Nat):∀(cd:Code)(blk:Nat)(s:St)(K:Ex->St->R)(Km:Nat->Ex->St->R),(∀e s,K e s=some r->Ev fun m=>Km m e s=some r)->
 qad P A H L n blk cd s K=some r->Ev fun m=>qad P A H (Em m) m blk cd s (Km m)=some r:=by
 intro cd;induction cd with
 |skip=>intro blk s K Km hK h;exact hK _ s h
 |region id ops draw=>intro blk s K Km hK h;exact qk5 (fun s h=>qnc hE (fun s h=>hK _ s h) h) _ _ h
 |seq x y ihx ihy=>
  intro blk s K Km hK h
  refine ihx blk s _ (fun m e s=>match e with
   |.normal=>qad P A H (Em m) m blk y s (Km m)
   |e=>Km m e s) (fun e s h=>?_) h
  cases e with
  |normal=>exact ihy blk s K Km hK h
  |exit i=>exact hK _ s h
  |ret=>exact hK _ s h
 |cond x y z ihy ihz=>
  intro blk s K Km hK h;simp only[qad]at h ⊢;split at h
  ·rename_i b hb;cases b with
   |true=>exact ihy blk s K Km hK h
   |false=>exact ihz blk s K Km hK h
  ·cases h
 |block i x ih=>
  intro blk s K Km hK h
  refine ih i s _ (fun m e s=>match e with
   |.exit j=>bif Nat.beq i j then Km m .normal s else Km m (.exit j) s
   |e=>Km m e s) (fun e s h=>?_) h
  cases e with
  |normal=>exact hK _ s h
  |exit j=>
   simp only at h ⊢;cases hij:Nat.beq i j with
   |true=>rw[hij]at h;exact hK _ s h
   |false=>rw[hij]at h;exact hK _ s h
  |ret=>exact hK _ s h
 |loop x ih=>
  intro blk s K Km hK h
  have:=qkf (r:=r) (body:=fun s K=>qad P A H L n blk x s fun e s=>match e with
   |.normal=>K .normal (ghosts s (H.loops blk))
   |e=>K e s) (bm:=fun m s K=>qad P A H (Em m) m blk x s fun e s=>match e with
   |.normal=>K .normal (ghosts s (H.loops blk))
   |e=>K e s)
   (fun s K Km hK h=>ih blk _ _ (fun m e s=>match e with
    |.normal=>Km m .normal (ghosts s (H.loops blk))
    |e=>Km m e s) (fun e s h=>by cases e <;> exact hK _ _ h) h) hK n 0 (ghosts s (H.loops blk)) h
  exact this
 |exit i=>intro blk s K Km hK h;exact hK _ s h
 |ret=>intro blk s K Km hK h;exact hK _ s h
 |_=>intro blk s K Km hK h;cases h
end
section
variable {P:Program}{A:q7t}{H:FuncId->Hints}{X:Ext}
theorem qrg{L:Env}{Em:Nat->Env}(hE:qpt L Em){n:Nat}{f:FuncId}{args:List T}{r:T×List T}(h:q1b P A H L n f args=some r):Ev fun m=>q1b P A H (Em m) m f args=some r:=by
 unfold q1b at h;split at h
 case h_2=>cases h
 rename_i fn hf;split at h
 case h_2=>cases h
 rename_i body hb;split at h
 case h_2=>cases h
 rename_i vs os ha;obtain⟨h1,h2⟩:=q1c h
 refine(qs8 hE n body 0 _ _ (fun m e s=>match e with
  |.exit _=>none
  |_=>endK P A f fn s) (fun e s h=>Ev.of fun _=>h) h2).mono fun m hm=>?_
 unfold q1b;simp only[hf,hb,ha];rw[h1];exact hm
noncomputable def lim(P:Program)(A:q7t)(H:FuncId->Hints)(X:Ext):Env:=fun f args=>
 open Classical in if h:∃r,Ev fun m=>qhz P A H X m f args=some r then some h.choose else none
theorem qkr{f:FuncId}{args:List T}{r:T×List T}:lim P A H X f args=some r<->Ev fun m=>qhz P A H X m f args=some r:=by
 unfold lim;constructor
 ·intro h;split at h
  ·rename_i hex;cases h;exact hex.choose_spec
  ·cases h
 ·intro h;have hex:∃r,Ev fun m=>qhz P A H X m f args=some r:=⟨r,h⟩;rw[dif_pos hex];obtain⟨m0,hm⟩:=hex.choose_spec.and h;obtain⟨e1,e2⟩:=hm m0 (gAI _);rw[e1]at e2;exact e2
theorem qu0:qpt (lim P A H X) (qhz P A H X):=fun _ _ _ h=>qkr.1 h
theorem qb9{f:FuncId}{args:List T}{r:T×List T}(hx:X f=none)(n:Nat)(h:q1b P A H (lim P A H X) n f args=some r):lim P A H X f args=some r:=by
 refine qkr.2 ?_;obtain⟨m0,hm⟩:=qrg qu0 h;refine⟨m0+1,fun m hle=>?_⟩;obtain⟨k,rfl⟩:∃k,m=k+1:=⟨m-1,by omega⟩;rw[qhz];simp only[hx];exact hm k (by omega)
theorem qed{f:FuncId}{e:Env->List T->R}{args:List T}{r:T×List T}(hx:X f=some e)(h:Ev fun m=>e (qhz P A H X m) args=some r):lim P A H X f args=some r:=by
 refine qkr.2 ?_;obtain⟨m0,hm⟩:=h;refine⟨m0+1,fun m hle=>?_⟩;obtain⟨k,rfl⟩:∃k,m=k+1:=⟨m-1,by omega⟩;rw[qhz];simp only[hx];exact hm k (by omega)
theorem lim_sound(hm:P.follows .mixedOrders=true)
 (hX:∀f e,X f=some e->∀E,(∀g args r,E g args=some r->Meets P (A g) g args r)->∀args r,e E args=some r->Meets P (A f) f args r) {f:FuncId} {args:List T} {r:T×List T} (h:lim P A H X f args=some r):Meets P (A f) f args r:=by
 obtain⟨m0,hm0⟩:=qkr.1 h;exact qos hm hX m0 f args r (hm0 m0 (gAI _))
end
end Ev
end
section
namespace Ev
open Go
inductive Sh where
 |int (k:IntKind)
 |bool
 |str
 |sl (e:Sh)
 |pair (a b:Sh)
 |unit
def Sh.size:Sh->Nat
 |.int _|.bool|.str|.sl _=>1
 |.pair a b=>a.size+b.size
 |.unit=>0
@[reducible] def Sh.Val:Sh->Type
 |.int _=>Int
 |.bool=>Bool
 |.str=>ByteArray
 |.sl e=>List e.Val
 |.pair a b=>a.Val×b.Val
 |.unit=>Unit
def Sh.enc:(s:Sh)->s.Val->List T
 |.int k,n=>[.int k n]
 |.bool,b=>[.bool b]
 |.str,s=>[.str s]
 |.sl e,l=>[.sl e.size (l.flatMap e.enc)]
 |.pair a b,x=>a.enc x.1++b.enc x.2
 |.unit,_=>[]
def Sh.wf:(s:Sh)->s.Val->Prop
 |.int k,n=>(Lit.int k n).wf=true
 |.bool,_=>True
 |.str,s=>s.size<=maxLen
 |.sl e,l=>l.length<=maxLen/\∀x,x∈l->e.wf x
 |.pair a b,x=>a.wf x.1/\b.wf x.2
 |.unit,_=>True
theorem Sh.enc_length:∀(s:Sh)(x:s.Val),(s.enc x).length=s.size
 |.int _,_=>rfl
 |.bool,_=>rfl
 |.str,_=>rfl
 |.sl _,_=>rfl
 |.pair a b,x=>by rw[Sh.enc,gM,a.enc_length,b.enc_length];rfl
 |.unit,_=>rfl
mutual
def okT(P:Program):Sh->TypeId->Bool
 |.int k,t=>match P.underlying t with|some (.int k')=>decide (k'=k)|_=>false
 |.bool,t=>match P.underlying t with|some .bool=>true|_=>false
 |.str,t=>match P.underlying t with|some .string=>true|_=>false
 |.sl e,t=>match P.underlying t with|some (.slice te)=>okT P e te&&Nat.beq (P.cellsOf te) e.size&&Nat.blt 0 e.size|_=>false
 |.pair a b,t=>match P.underlying t with
  |some (.struct fs)=>(match fs.toList with
   |f::r=>Nat.beq f.offset 0&&Nat.beq (P.cellsOf f.type) a.size&&okT P a f.type&&okF P b r a.size
   |[]=>false)&&Nat.beq (P.cellsOf t) (a.size+b.size)
  |_=>false
 |.unit,t=>match P.underlying t with
  |some (.struct fs)=>Nat.beq fs.toList.length 0&&Nat.beq (P.cellsOf t) 0
  |_=>false
def okF(P:Program):Sh->List Field->Nat->Bool
 |.pair a b,f::r,off=>Nat.beq f.offset off&&Nat.beq (P.cellsOf f.type) a.size&&okT P a f.type&&okF P b r (off+a.size)
 |.unit,[],_=>true
 |_,_,_=>false
end
theorem qef{α:Type}{f:α->List T}{n:Nat}(hn:0<n)(hf:∀x,(f x).length=n):∀(l:List α)(i:Nat),(l.flatMap f)[i]?=(l[i/n]?).bind fun x=>(f x)[i % n]?
 |[],i=>by simp
 |x::l,i=>by
  rw[gAN,List.getElem?_append,hf x];split
  ·rename_i h;rw[Nat.div_eq_of_lt h,Nat.mod_eq_of_lt h];rfl
  ·rename_i h;rw[qef hn hf l (i-n)]
   have h1:i/n=(i-n)/n+1:=by
    have:=Nat.div_eq_sub_div hn (show n<=i by omega);omega
   have h2:i % n=(i-n) % n:=Nat.mod_eq_sub_mod (by omega);rw[h1,h2];rfl
theorem qis{α:Type}{f:α->List T}{n:Nat}(hf:∀x,(f x).length=n):∀(l:List α),(l.flatMap f).length=l.length*n
 |[]=>by simp
 |x::l=>by rw[gAN,gM,hf x,qis hf l,gAB,Nat.add_mul];omega
theorem qhr{α:Type}{p:Nat->α->Prop}:∀(n:Nat),(∀i,i<n->∃x,p i x)->∃l:List α,l.length=n/\∀i x,l[i]?=some x->p i x
 |0,_=>⟨[],rfl,by simp⟩
 |n+1,h=>by
  obtain⟨l,h1,h2⟩:=qhr n fun i hi=>h i (by omega);obtain⟨x,hx⟩:=h n (by omega);refine⟨l++[x],by simp[h1],fun i y hy=>?_⟩;rw[List.getElem?_append]at hy;split at hy
  ·exact h2 i y hy
  ·rename_i hi
   have hi':i=n:=by
    have:=(gB.1 hy).1;simp at this;omega
   subst hi';have:i-l.length=0:=by omega
   rw[this]at hy;simp at hy;subst hy;exact hx
section
variable {H:Type}{enc:TypeId×Value->H}{P:Program}{w:World}{spare:Nat->Bool}{held:Bool}
def Here(w:World)(b:Nat):Prop:=b<w.heap.size
theorem q6z{base:Nat}{a:Addr}{n:Nat}{cs:List Value}(h:w.cells? base a n=some cs):cs.length=n/\∀j,j<n->w.cell? (a.add j)=cs[j]?:=by
 unfold World.cells? at h;split at h
 ·refine⟨by simpa using mapM_some_length h,fun j hj=>mapM_some_get h j j (by simp[hj])⟩
 ·cases h
def qwv(P:Program)(w:World)(s:Sh)(cs:List Value):Prop:=∃x:s.Val,s.wf x/\(s.enc x).length=cs.length/\∀(i:Nat)(y:T)(v:Value),(s.enc x)[i]?=some y->cs[i]?=some v->RB w (Here w) (Here w) y v
theorem qt7:∀(s:Sh),(∀(t:TypeId)(fuel:Nat)(cs:List Value)(x:DataW H×List MemPlace),okT P s t=true->DataW.trod enc P w 0 spare held fuel t cs=some x->qwv P w s cs)/\
 (∀(fs:List Field)(off fuel:Nat)(cs:List Value),okF P s fs off=true->cs.length=off+s.size->(∀f,f∈fs->∃x,DataW.trod enc P w 0 spare held fuel f.type ((cs.drop f.offset).take (P.cellsOf f.type))=some x)->qwv P w s (cs.drop off)):=by
 intro s;induction s with
 |int k=>
  refine⟨fun t fuel cs x hok h=>?_,fun fs off fuel cs hok _ _=>by cases fs <;> cases hok⟩;rw[okT]at hok;split at hok
  ·rename_i k' hu;have hk:k'=k:=gAH hok;subst hk;cases fuel with
   |zero=>simp[DataW.trod]at h
   |succ n=>
    unfold DataW.trod at h;rw[hu]at h
    have hex:∃n:Int,(Lit.int k' n).wf=true/\cs=[.int k' n]:=by
     split at h <;> simp_all
    obtain⟨n',hwf',hcs⟩:=hex;subst hcs;refine⟨n',hwf',rfl,fun i y v hy hv=>?_⟩;cases i with
    |zero=>simp[Sh.enc]at hy hv;subst hy;subst hv;exact .int _ _
    |succ i=>simp[Sh.enc]at hy
  ·cases hok
 |bool=>
  refine⟨fun t fuel cs x hok h=>?_,fun fs off fuel cs hok _ _=>by cases fs <;> cases hok⟩;rw[okT]at hok;split at hok
  ·rename_i hu;cases fuel with
   |zero=>simp[DataW.trod]at h
   |succ n=>
    unfold DataW.trod at h;rw[hu]at h;split at h <;> simp_all;refine⟨(by assumption:Bool),trivial,rfl,fun i y v hy hv=>?_⟩;cases i with
    |zero=>simp[Sh.enc]at hy hv;subst hy;subst hv;exact .bool _
    |succ i=>simp[Sh.enc]at hy
  ·cases hok
 |str=>
  refine⟨fun t fuel cs x hok h=>?_,fun fs off fuel cs hok _ _=>by cases fs <;> cases hok⟩;rw[okT]at hok;split at hok
  ·rename_i hu;cases fuel with
   |zero=>simp[DataW.trod]at h
   |succ n=>
    unfold DataW.trod at h;rw[hu]at h
    have hex:∃b:ByteArray,b.size<=maxLen/\cs=[.string b]:=by
     split at h <;> simp_all
    obtain⟨b,hb,hcs⟩:=hex;subst hcs;refine⟨b,hb,rfl,fun i y v hy hv=>?_⟩;cases i with
    |zero=>simp[Sh.enc]at hy hv;subst hy;subst hv;exact .str _
    |succ i=>simp[Sh.enc]at hy
  ·cases hok
 |sl e ih=>
  refine⟨fun t fuel cs x hok h=>?_,fun fs off fuel cs hok _ _=>by cases fs <;> cases hok⟩;rw[okT]at hok;split at hok
  ·rename_i te hu;simp only[gC]at hok;obtain⟨⟨h1,h2⟩,h3⟩:=hok;have h2:P.cellsOf te=e.size:=gE h2;have h3:=qag h3;rcases DataW.trod_slice hu h with⟨rfl,_⟩|⟨a,len,cap,elems,rest,n,_,rfl,_,_,hle,hmax,_,hel,_⟩
   ·refine⟨[],⟨Nat.zero_le _,by simp⟩,rfl,fun i y v hy hv=>?_⟩;cases i with
    |zero=>
     simp[Sh.enc]at hy hv;subst hy;subst hv;exact .sl (fun _=>undef) h3 (by simp) (gAI _) (fun h=>absurd rfl h) (by simp)
    |succ i=>simp[Sh.enc]at hy
   ·have each:∀i,i<len->∃x:e.Val,e.wf x/\∀(j:Nat)(y:T),(e.enc x)[j]?=some y->∃v,w.cell? ((a.add (i*e.size)).add j)=some v/\RB w (Here w) (Here w) y v:=by
     intro i hi;have hi':=hel i hi
     have hex:elems[i]?=some elems[i]:=by
      rw[gA]
     rw[hex,gAE]at hi';obtain⟨ci,hci,htr⟩:=hi';obtain⟨c1,c2⟩:=q6z hci;obtain⟨x,w1,w2,w3⟩:=ih.1 te _ ci _ h1 htr;refine⟨x,w1,fun j y hy=>?_⟩;have hj:j<e.size:=by rw[<- e.enc_length x];exact(gB.1 hy).1
     have hj':j<ci.length:=by omega
     have:=c2 j (by omega);rw[gA hj',h2]at this;exact⟨_,this,w3 j y _ hy (gA hj')⟩
    obtain⟨l,l1,l2⟩:=qhr len each;have hml:len<=maxLen:=Nat.le_trans hle hmax;refine⟨l,⟨by rw[l1];exact hml,fun x hx=>by obtain⟨i,hi⟩:=List.mem_iff_getElem?.1 hx;exact(l2 i x hi).1⟩,rfl,fun i y v hy hv=>?_⟩;cases i with
    |succ i=>simp[Sh.enc]at hy
    |zero=>
     simp[Sh.enc]at hy hv;subst hy;subst hv;have hlen:=qis (e.enc_length) l
     have cell:∀q y,(l.flatMap e.enc)[q]?=some y->∃v,w.cell? ((a.add (q/e.size*e.size)).add (q % e.size))=some v/\RB w (Here w) (Here w) y v:=by
      intro q y hy;rw[qef h3 e.enc_length,gAE]at hy;obtain⟨x,hx,hy⟩:=hy;exact(l2 _ x hx).2 _ y hy
     have plain:l.flatMap e.enc≠[]->∃b o,a=⟨b,o,none⟩:=fun hne=>by
      obtain⟨v,hv,_⟩:=cell 0 _ (gA (List.length_pos_iff.2 hne));obtain⟨b,off,spot⟩:=a;have hspot:spot=none:=by simpa[Addr.add]using World.cell?_spot hv
      exact⟨b,off,by rw[hspot]⟩
     have addr:∀{b o:Nat}(q:Nat),((⟨b,o,none⟩:Addr).add (q/e.size*e.size)).add (q % e.size)=⟨b,o+q,none⟩:=fun {b o} q=>by
      rw[qbp,qbp,Nat.add_assoc,Nat.mul_comm,Nat.div_add_mod]
     have cell':∀(b o:Nat),a=⟨b,o,none⟩->∀q y,(l.flatMap e.enc)[q]?=some y->∃v,w.cell? ⟨b,o+q,none⟩=some v/\RB w (Here w) (Here w) y v:=fun b o hab q y hy=>by
      obtain⟨v,hv,hr⟩:=cell q y hy;rw[hab,addr]at hv;exact⟨v,hv,hr⟩
     by_cases hne:l.flatMap e.enc=[]
     ·refine .sl (fun _=>undef) h3 (by rw[hlen,l1]) hle (fun h=>absurd hne h) (fun i x hx=>by rw[hne]at hx;simp at hx)
     ·obtain⟨b,o,hab⟩:=plain hne;refine .sl (fun q=>(w.cell? ⟨b,o+q,none⟩).getD undef) h3 (by rw[hlen,l1]) hle (fun _=>⟨b,o,by rw[hab],?_,fun q hq=>?_⟩) (fun q y hy=>?_)
      ·obtain⟨v,hv,_⟩:=cell' b o hab 0 _ (gA (List.length_pos_iff.2 hne));exact World.block_lt_of_cell? w _ hv
      ·obtain⟨v,hv,_⟩:=cell' b o hab q _ (gA hq);rw[hv];rfl
      ·obtain⟨v,hv,hr⟩:=cell' b o hab q y hy;rw[hv];exact hr
  ·cases hok
 |pair a b iha ihb=>
  have fields:∀(f:Field)(r:List Field)(off fuel:Nat)(cs:List Value),f.offset=off->P.cellsOf f.type=a.size->okT P a f.type=true->okF P b r (off+a.size)=true->cs.length=off+(a.size+b.size)->
   (∀g,g∈f::r->∃x,DataW.trod enc P w 0 spare held fuel g.type ((cs.drop g.offset).take (P.cellsOf g.type))=some x)->qwv P w (.pair a b) (cs.drop off):=by
   intro f r off fuel cs h1 h2 h3 h4 hlen hf;obtain⟨x,hx⟩:=hf f (by simp);obtain⟨u,u1,u2,u3⟩:=iha.1 f.type fuel _ x h3 hx;obtain⟨v,v1,v2,v3⟩:=ihb.2 r (off+a.size) fuel cs h4 (by omega) (fun g hg=>hf g (by simp[hg]));refine⟨(u,v),⟨u1,v1⟩,?_,fun i y z hy hz=>?_⟩
   ·rw[Sh.enc_length];show a.size+b.size=_;rw[gAA];omega
   ·have he:(Sh.pair a b).enc (u,v)=a.enc u++b.enc v:=rfl;rw[he,List.getElem?_append,a.enc_length]at hy;split at hy
    ·rename_i hi;refine u3 i y z hy ?_;rw[h1,h2,gT,if_pos hi];exact hz
    ·rename_i hi;refine v3 (i-a.size) y z hy ?_;rw[gV]at hz ⊢;rw[show off+a.size+(i-a.size)=off+i by omega];exact hz
  refine⟨fun t fuel cs x hok h=>?_,fun fs off fuel cs hok hlen hf=>?_⟩
  ·rw[okT]at hok;split at hok
   ·rename_i fs hu;rw[gC]at hok;obtain⟨hok,hsz⟩:=hok;have hsz:P.cellsOf t=a.size+b.size:=gE hsz;obtain⟨xs,n,_,_,hl,hxl,hx⟩:=DataW.trod_struct hu h
    have hall:∀g,g∈fs.toList->∃x,DataW.trod enc P w 0 spare held n g.type ((cs.drop g.offset).take (P.cellsOf g.type))=some x:=fun g hg=>by
     obtain⟨i,hi⟩:=List.mem_iff_getElem?.1 hg;have hi':fs[i]?=some g:=by simpa using hi
     have hix:i<xs.length:=by rw[hxl];exact(Array.getElem?_eq_some_iff.1 hi').1
     exact⟨xs[i],by rw[hx i g hi'];simp[hix]⟩
    split at hok
    ·rename_i f r hfs;simp only[gC]at hok;obtain⟨⟨⟨q1,q2⟩,q3⟩,q4⟩:=hok;have:=fields f r 0 n cs (gE q1) (gE q2) q3 (by rw[gAJ];exact q4) (by rw[hl,hsz];omega) (fun g hg=>hall g (by rw[hfs];exact hg));simpa using this
    ·cases hok
   ·cases hok
  ·cases fs with
   |nil=>cases hok
   |cons f r=>
    rw[okF]at hok;simp only[gC]at hok;obtain⟨⟨⟨q1,q2⟩,q3⟩,q4⟩:=hok;exact fields f r off fuel cs (gE q1) (gE q2) q3 q4 hlen hf
 |unit=>
  refine⟨fun t fuel cs x hok h=>?_,fun fs off fuel cs hok hlen _=>?_⟩
  ·rw[okT]at hok;split at hok
   ·rename_i fs hu;rw[gC]at hok;obtain⟨xs,n,_,_,hl,_⟩:=DataW.trod_struct hu h;have hsz:P.cellsOf t=0:=gE hok.2;exact⟨(),trivial,by rw[hl,hsz];rfl,fun i y v hy=>by simp[Sh.enc]at hy⟩
   ·cases hok
  ·refine⟨(),trivial,?_,fun i y v hy=>by simp[Sh.enc]at hy⟩;rw[gAA,hlen];show 0=_;have:Sh.size .unit=0:=rfl;omega
end
end Ev
end
section
namespace Ev
open Go Go.WideShapes Go.RowKit
def argOf:(s:Sh)->s.Val->T
 |.pair a b,x=>.agg (a.enc x.1++b.enc x.2)
 |.unit,_=>.agg []
 |.int k,n=>.int k n
 |.bool,b=>.bool b
 |.str,x=>.str x
 |.sl e,l=>.sl e.size (l.flatMap e.enc)
section
variable {H:Type}{enc:TypeId×Value->H}{P:Program}{W:World}{sp:Nat->Bool}{held:Bool}
theorem open_arg{s:Sh}{t:TypeId}{v:Value}{d:DataW H}{ps:List MemPlace}{r:Reach}{b0:Nat}(hok:okT P s t=true)(hval:Value.okWide P W r b0 t v)(h:DataW.Trod enc P W 0 sp held t v d ps) :
 ∃x:s.Val,s.wf x/\ResV W (Here W) (Here W) false (argOf s x) v []:=by
 obtain⟨fuel,hf⟩:=h;obtain⟨x,h1,h2,h3⟩:=(qt7 (enc:=enc) (spare:=sp) (held:=held) s).1 t fuel _ _ hok hf;refine⟨x,h1,?_⟩;have one:∀{y:T},v.cells.toList=[v]->s.enc x=[y]->RB W (Here W) (Here W) y v:=fun {y} e1 e2=>h3 0 y v (by rw[e2];rfl) (by rw[e1];rfl);cases s with
 |int k=>
  rw[okT]at hok;split at hok
  ·rename_i k' hu;obtain⟨n,rfl⟩:=okWide_int hu hval;exact RB.notAgg (one rfl rfl)
  ·cases hok
 |bool=>
  rw[okT]at hok;split at hok
  ·rename_i hu;obtain⟨n,rfl⟩:=okWide_bool hu hval;exact RB.notAgg (one rfl rfl)
  ·cases hok
 |str=>
  rw[okT]at hok;split at hok
  ·rename_i hu;obtain⟨n,rfl⟩:=okWide_string hu hval;exact RB.notAgg (one rfl rfl)
  ·cases hok
 |sl e=>
  rw[okT]at hok;split at hok
  ·rename_i te hu;obtain⟨a,len,cap,rfl⟩:=okWide_slice hu hval;exact RB.notAgg (one rfl rfl)
  ·cases hok
 |pair a b=>
  rw[okT]at hok;split at hok
  ·rename_i fs hu;obtain⟨cs,rfl,_⟩:=okWide_struct hu hval;exact⟨cs,fun _=>[],rfl,by simpa[Value.cells,Sh.enc]using h2,ND.nil _,by simp[flat],fun i y u hy hu=>⟨h3 i y u hy (by simpa[Value.cells]using hu),rfl⟩⟩
  ·cases hok
 |unit=>
  rw[okT]at hok;split at hok
  ·rename_i fs hu;obtain⟨cs,rfl,_⟩:=okWide_struct hu hval;exact⟨cs,fun _=>[],rfl,by simpa[Value.cells,Sh.enc]using h2,ND.nil _,by simp[flat],fun i y u hy=>by simp at hy⟩
  ·cases hok
theorem ql2{f:FuncId}{fn:Func}{vs:Array Value}{R:Value->World->Prop}(hf:P.funcs[f]?=some fn)(hb:fn.body.isSome=true)(hname:(fn.name=="runtime.NumGoroutine")=false) (h:Does P f vs W R) :
 Calls P f vs W fun e w'=>∃v,e=.returned v/\R v w':=by
 obtain⟨body,hbody⟩:=gAM.1 hb
 have hcall:(callFunc f vs).run P W=.ok (.enter f vs) W:=by
  have hne:¬ fn.name="runtime.NumGoroutine":=by simpa using hname
  simp[callFunc,hf,hne,hbody]
 unfold Does at h;rw[hcall]at h;exact h
theorem law_calls{at_:Attr}{f:FuncId}{fn:Func}{args:List T}{vs:Array Value}(hat:at_.turn=none)(hf:P.funcs[f]?=some fn)(hb:fn.body.isSome=true)(hname:(fn.name=="runtime.NumGoroutine")=false)
 (hm:Meets P at_ f args (.bool true,[])) (hl:vs.size=args.length) (hv:∀(i:Nat)(x:T)(v:Value),args[i]?=some x->vs[i]?=some v->ResV W (Here W) (Here W) false x v []) :
 Calls P f vs W fun e w'=>e=.returned (.bool true)/\Below W.heap.size W w':=by
 have hp:Pre at_ args W (Here W) (Here W) vs []:=⟨fun _ h=>h,hl,fun i x v _ _=>hv i x v,fun i hi=>(by rw[hat]at hi;cases hi),fun _=>rfl,by simp,fun _ h=>h⟩;refine Calls.mono (ql2 hf hb hname (hm W _ _ vs [] hp)) ?_;rintro e w' ⟨v,rfl,Fr,Fo,hd⟩
 have hres:v=.bool true:=by
  have:El w' (aftI (Here W) W w' [] Fr Fo) (aftI (Here W) W w' [] Fr Fo) at_.own (.bool true) v Fr:=hd.res;unfold El at this;split at this
  ·cases this;rfl
  ·exact RB.bool_inv this.1
 exact⟨by rw[hres],hd.kp.os,hd.kp.tape,hd.kp.output,hd.kp.size,fun k hk=>hd.kp.block k hk (by simp)⟩
end
end Ev
namespace Ev
open Go
def qau(P:Program)(f:FuncId):Code:=match P.funcs[f]? with
 |some fn=>match fn.body with
  |some c=>c
  |none=>.skip
 |none=>.skip
def q7n:List Nat->Code->Code
 |[],c=>c
 |0::p,.seq a _=>q7n p a
 |_::p,.seq _ b=>q7n p b
 |0::p,.cond _ a _=>q7n p a
 |_::p,.cond _ _ b=>q7n p b
 |_::p,.block _ c=>q7n p c
 |_::p,.loop c=>q7n p c
 |_,c=>c
inductive Ct where
 |seq (blk:Nat) (b:Code)
 |block (i:Nat)
section
variable (P:Program)(A:q7t)(H:Hints)(E:Env)(n:Nat)
def ctxK:List Ct->(Ex->St->R)->Ex->St->R
 |[],K=>K
 |.seq blk b::r,K=>fun e s=>match e with
  |.normal=>qad P A H E n blk b s (ctxK r K)
  |e=>ctxK r K e s
 |.block i::r,K=>fun e s=>match e with
  |.exit j=>bif Nat.beq i j then ctxK r K .normal s else ctxK r K (.exit j) s
  |e=>ctxK r K e s
def qwx(blk:Nat)(K:Ex->St->R)(L:St->R):Ex->St->R:=fun e s=>match e with
 |.normal=>L (ghosts s (H.loops blk))
 |e=>K e s
def qsk(blk:Nat)(c:Code)(K:Ex->St->R)(L:St->R)(s:St):R:=qad P A H E n blk c s (qwx H blk K L)
def qtf(blk:Nat)(c:Code)(K:Ex->St->R)(m:Nat)(s:St):R:=
 qoz (fun s K=>qad P A H E n blk c s fun e s=>match e with
  |.normal=>K .normal (ghosts s (H.loops blk))
  |e=>K e s) m s K
theorem qpu(blk:Nat)(c:Code)(K:Ex->St->R)(m:Nat)(s:St):qtf P A H E n blk c K (m+1) s=qsk P A H E n blk c K (qtf P A H E n blk c K m) s:=by
 unfold qsk;show qad P A H E n blk c s _=qad P A H E n blk c s _;congr 1;funext e s;cases e <;> rfl
end
def q3v(P:Program)(A:q7t)(f:FuncId):Ex->St->R:=fun e s=>match P.funcs[f]? with
 |some fn=>match e with
  |.exit _=>none
  |_=>endK P A f fn s
 |none=>none
end Ev
namespace Ev
open Go Go.WideShapes Go.RowKit
theorem qi9{P:Program}{f:FuncId}{fn:Func}{args:List T}{x:T}{v:Value}(hf:P.funcs[f]?=some fn)(hb:fn.body.isSome=true)(hname:(fn.name=="runtime.NumGoroutine")=false)
 (hx:∀w,RO w x v []) (hnt:∀w I J,ResT w I J true x v []<->RO w x v [])
 (hc:∀(w:World)(vs:Array Value)(I J:Nat->Prop),vs.size=args.length->(∀b,J b->b<w.heap.size)->(∀(i:Nat)(y:T)(u:Value),args[i]?=some y->vs[i]?=some u->ResV w I J false y u [])->
  Calls P f vs w fun e w'=>e=.returned v/\Below w.heap.size w w'):Meets P ⟨none,.sl,true,false,false⟩ f args (x,[]):=by
 intro w I J vs F hp;obtain rfl:F=[]:=hp.none rfl;obtain⟨body,hbody⟩:=gAM.1 hb
 have hcall:(callFunc f vs).run P w=.ok (.enter f vs) w:=by
  have hne:¬ fn.name="runtime.NumGoroutine":=by simpa using hname
  simp[callFunc,hf,hne,hbody]
 unfold Does;rw[hcall];refine Calls.mono (hc w vs I J hp.len hp.lt fun i y u hy hu=>hp.vals i y u (fun h=>by cases h) (fun h=>by cases h) hy hu) ?_;rintro e w' ⟨rfl,hbel⟩;refine⟨v,rfl,[],[],⟨hbel.os,hbel.tape,hbel.output,hbel.size,fun b hb _=>hbel.block b hb⟩,by simp,by simp,?_,.inl ⟨rfl,rfl,rfl⟩⟩;exact(hnt _ _ _).2 (hx w')
theorem qqu{w:World}{I J:Nat->Prop}{s:ByteArray}{v:Value}(h:ResV w I J false (.str s) v []):v=.string s:=by
 have h:El w I J false (.str s) v []:=h;unfold El at h;rw[if_neg (by simp)]at h;cases h.1;rfl
theorem qdx{P:Program}{f:FuncId}{fn:Func}{vs:Array Value}{w:World}{R:Value->World->Prop}(hf:P.funcs[f]?=some fn)(hb:fn.body.isSome=true)(hname:(fn.name=="runtime.NumGoroutine")=false)
 (hc:Calls P f vs w fun e w'=>∃v,e=.returned v/\R v w'):Does P f vs w R:=by
 obtain⟨body,hbody⟩:=gAM.1 hb
 have hcall:(callFunc f vs).run P w=.ok (.enter f vs) w:=by
  have hne:¬ fn.name="runtime.NumGoroutine":=by simpa using hname
  simp[callFunc,hf,hne,hbody]
 unfold Does;rw[hcall];exact hc
abbrev bC(r:T×List T)(g:List T->List T->List T->List T->List T->Int->R):R:=(q0s r.2).bind fun p=>(oNil p.2).bind fun _=>(oAgg p.1).bind fun c=>(q0s c).bind fun p=>(oSl 1 p.1).bind fun c1=>(q0s p.2).bind fun p=>(oSl 2 p.1).bind fun c2=>(q0s p.2).bind fun p=>(oSl 7 p.1).bind fun c3=>(q0s p.2).bind fun p=>(oSl 1 p.1).bind fun c4=>(q0s p.2).bind fun p=>(oSl 1 p.1).bind fun c5=>(q0s p.2).bind fun p=>(oInt .i64 p.1).bind fun n=>(oNil p.2).bind fun _=>g c1 c2 c3 c4 c5 n
abbrev bT(r:T×List T)(g:Int->Int->R):R:=(oTup r.1).bind fun c=>(q0s c).bind fun p=>(oInt .i64 p.1).bind fun a=>(q0s p.2).bind fun p=>(oInt .i64 p.1).bind fun b=>(oNil p.2).bind fun _=>g a b
abbrev bQ(r:T×List T)(g:List T->List T->R):R:=(oNil r.2).bind fun _=>(oAgg r.1).bind fun c=>(q0s c).bind fun p=>(oSl 1 p.1).bind fun a=>(q0s p.2).bind fun p=>(oSl 1 p.1).bind fun b=>(oNil p.2).bind fun _=>g a b
abbrev bR(r:T×List T)(g:Int->Int->R):R:=(oNil r.2).bind fun _=>(oAgg r.1).bind fun c=>(q0s c).bind fun p=>(oInt .i64 p.1).bind fun a=>(q0s p.2).bind fun p=>(oInt .i64 p.1).bind fun b=>(oNil p.2).bind fun _=>g a b
abbrev bI(r:T×List T)(g:Int->R):R:=(oNil r.2).bind fun _=>(oInt .i64 r.1).bind g
abbrev bB(r:T×List T)(g:Bool->R):R:=(oNil r.2).bind fun _=>(q82 r.1).bind g
abbrev bL(r:T×List T)(g:List T->R):R:=(oNil r.2).bind fun _=>(oSl 1 r.1).bind g
abbrev bM(r:T×List T)(g:List T->R):R:=(oNil r.2).bind fun _=>(oSl 2 r.1).bind g
abbrev bS(r:T×List T)(g:List T->Int->R):R:=(q0s r.2).bind fun p=>(oNil p.2).bind fun _=>(oAgg p.1).bind fun c=>(q0s c).bind fun p=>(oSl 1 p.1).bind fun c=>(q0s p.2).bind fun p=>(oInt .i64 p.1).bind fun n=>(oNil p.2).bind fun _=>g c n
end Ev
end
section
namespace Ev
open Go Go.RowKit
def oU8s:List T->Option (List Int)
 |[]=>some []
 |.int .u8 n::r=>(oU8s r).map (n :: ·)
 |_=>none
def compareE:Env->List T->R:=fun _ args=>match args with
 |[.sl 1 a,.sl 1 b]=>(oU8s a).bind fun x=>(oU8s b).bind fun y=>some (.int .i64 (Lib.compareBytes (Lib.bytesOf x) (Lib.bytesOf y)),[])
 |_=>none
theorem qqi:∀{l:List T}{xs:List Int},oU8s l=some xs->xs.length=l.length/\∀(j:Nat)(x:Int),xs[j]?=some x->l[j]?=some (T.int .u8 x)
 |[],xs,h=>by cases h;exact⟨rfl,fun j x h=>by simp at h⟩
 |t::r,xs,h=>by
  unfold oU8s at h;split at h
  ·cases h;rename_i e;cases e
  ·rename_i n r' e;cases e;rw[gP]at h;obtain⟨ys,hy,rfl⟩:=h;obtain⟨h1,h2⟩:=qqi hy;refine⟨by simp[h1],fun j x hj=>?_⟩;cases j with
   |zero=>simp at hj;subst hj;rfl
   |succ j=>exact h2 j x (by simpa using hj)
  ·cases h
theorem qn7{P:Program}{w:World}{I J:Nat->Prop}{cells:List T}{v:Value}{xs:List Int}(h:RB w I J (.sl 1 cells) v)(hx:oU8s cells=some xs):(Extern.Bytes.bytesOf v).run P w=.ok ⟨(Lib.bytesOf xs).toArray⟩ w:=by
 obtain⟨hlx,hget⟩:=qqi hx;cases h with
 |sl us hs' hlen hcap ha hcs'=>
  rename_i a len cap;rw[Nat.mul_one]at hlen;cases a with
  |none=>
   have:xs=[]:=by
    cases cells with
    |nil=>exact gL (by simpa using hlx)
    |cons x r=>obtain⟨b,o,e,_⟩:=ha (by simp);cases e
   subst this;rfl
  |some a=>
   show(Extern.Bytes.loadBytes a len .empty).run P w=_;rw[<- hlen,<- hlx]
   have hc:∀j x,xs[j]?=some x->w.cell? (a.add j)=some (.int .u8 x):=fun j x hj=>by
    have hj':j<xs.length:=(gB.1 hj).1;have hne:cells≠[]:=fun e=>by rw[e,List.length_nil]at hlx;omega
    obtain⟨b',o',e,_,hcell⟩:=ha hne;cases e;have h1:=hcs' j _ (hget j x hj)
    have h2:us j=.int .u8 x:=by
     generalize us j=u at h1;cases h1;rfl
    have h3:(⟨b',o',none⟩:Addr).add j=⟨b',o'+j,none⟩:=by unfold Addr.add;split <;> simp_all
    rw[h3,hcell j (by omega),h2]
   rw[Lib.run_loadBytesX w xs a .empty hc];congr 1;apply ByteArray.ext;show(#[]:Array UInt8)++(Lib.bytesOf xs).toArray=(Lib.bytesOf xs).toArray;simp
theorem entry_run{P:Program}{w:World}{a b:Value}{x y:ByteArray}(ha:(Extern.Bytes.bytesOf a).run P w=.ok x w)(hb:(Extern.Bytes.bytesOf b).run P w=.ok y w) :
 (Extern.BytealgCompare.compare #[a,b]).run P w=.ok (.int .i64 (Lib.compareBytes x.data.toList y.data.toList)) w:=by
 change Sem.run P (do pure (goInt (Extern.BytealgCompare.cmp (<- Extern.Bytes.bytesOf a) (<- Extern.Bytes.bytesOf b)))) w=_;simp only[Sem.run_bind,Sem.run_pure,ha,hb,Result.andThen];rw[Lib.cmp_eq];rfl
theorem compare_sound{P:Program}{f:FuncId}{fn:Func}(hf:P.funcs[f]?=some fn)(hb:fn.body.isSome=true)(hname:(fn.name=="runtime.NumGoroutine")=false)
 (hcall:∀(a b:Value)(x y:ByteArray)(w:World),(Extern.Bytes.bytesOf a).run P w=.ok x w->(Extern.Bytes.bytesOf b).run P w=.ok y w->
  Calls P f #[a,b] w fun e w'=>e=.returned (.int .i64 (Lib.compareBytes x.data.toList y.data.toList))/\w'=w)
 {E:Env} {args:List T} {r:T×List T} (h:compareE E args=some r):Meets P ⟨none,.sl,true,false,false⟩ f args r:=by
 unfold compareE at h;split at h
 case h_2=>cases h
 rename_i a b;obtain⟨x,hx,h⟩:=gAE.1 h;obtain⟨y,hy,h⟩:=gAE.1 h;cases h;refine qi9 (v:=.int .i64 (Lib.compareBytes (Lib.bytesOf x) (Lib.bytesOf y))) hf hb hname (fun w=>.int _ _) (fun w I J=>Iff.rfl) fun w vs I J hl _ hv=>?_;have h0:0<vs.size:=by rw[hl];simp
 have h1:1<vs.size:=by rw[hl];simp
 have r0:=hv 0 (.sl 1 a) vs[0] rfl (by simp[h0]);have r1:=hv 1 (.sl 1 b) vs[1] rfl (by simp[h1])
 have hvs:vs = #[vs[0],vs[1]]:=by
  apply Array.ext
  ·rw[hl];rfl
  ·intro i h2 h3;have:i<2:=by rw[hl]at h2;exact h2
   match i,this with
   |0,_=>rfl
   |1,_=>rfl
 have q0:=qn7 (P:=P) r0.1 hx;have q1:=qn7 (P:=P) r1.1 hy;rw[hvs];refine Calls.mono (hcall vs[0] vs[1] _ _ w q0 q1) ?_;rintro _ _ ⟨rfl,rfl⟩;exact⟨rfl,Below.refl _ _⟩
end Ev
end
section
namespace Ev
open Go Go.Shelf Go.RowKit Go.Lib Go.Proofs
variable {P:Program}{ρ:Ren}
structure InsL.n22(P:Program)(ρ:Ren):Prop where
 mixed:P.follows .mixedOrders=true
 f22:Bears P (ρ.f 22) (Body2.n22 ρ)
 t0:P.underlying (ρ.t 0)=some (TypeDesc.tuple #[])
 a0:∀w,(isAgg (ρ.t 0)).run P w=.ok false w
 z0:∀w,(Go.sizeOf (ρ.t 0)).run P w=.ok 1 w
 v0:∀w,(zeroValue (ρ.t 0)).run P w=.ok (Value.tuple #[]) w
 t3:P.underlying (ρ.t 3)=some (TypeDesc.int IntKind.i64)
 a3:∀w,(isAgg (ρ.t 3)).run P w=.ok false w
 z3:∀w,(Go.sizeOf (ρ.t 3)).run P w=.ok 1 w
 v3:∀w,(zeroValue (ρ.t 3)).run P w=.ok (Value.int IntKind.i64 0) w
 t4:P.underlying (ρ.t 4)=some (TypeDesc.bool)
 a4:∀w,(isAgg (ρ.t 4)).run P w=.ok false w
 z4:∀w,(Go.sizeOf (ρ.t 4)).run P w=.ok 1 w
 v4:∀w,(zeroValue (ρ.t 4)).run P w=.ok (Value.bool false) w
 z9:∀w,(Go.sizeOf (ρ.t 9)).run P w=.ok 1 w
 t24:P.underlying (ρ.t 24)=some (TypeDesc.slice (ρ.t 9))
 a24:∀w,(isAgg (ρ.t 24)).run P w=.ok false w
 z24:∀w,(Go.sizeOf (ρ.t 24)).run P w=.ok 1 w
 v24:∀w,(zeroValue (ρ.t 24)).run P w=.ok (Value.slice none 0 0) w
def OvL(P:Program)(ρ:Ren):Prop:=∃fn:Func,P.funcs[ρ.f 29]?=some fn/\(fn.name=="runtime.NumGoroutine")=false/\fn.body.isNone=true/\Extern.findNext fn=none/\Extern.find fn=some (Extern.SlicesOverlaps.overlaps #[(ρ.t 24),(ρ.t 24)] #[(ρ.t 4)])
set_option maxHeartbeats 4000000 in
set_option maxRecDepth 100000 in
theorem qnl{z:Value}{B:Nat}(L:InsL.n22 P ρ)(h29:OvL P ρ)(hi9:(P.info? (ρ.t 9)).map (fun i=>(i.zero,i.size,i.bytes))=some (some z,1,B))(hz1c:z.cells = #[z])(hB:0<B)(b off n c i vb voff m vc:Nat)(cs vs:List Value)(w:World)(hi:i<n)(hm:0<m)(hroom:n+m<=c)(hc63:c<=9223372036854775807)(hvb:vb≠b)
 (hcl:cs.length=n) (hvl:vs.length=m)
 (hcs:∀j v,cs[j]?=some v->w.cell? ⟨b,off+j,none⟩=some v) (hsp:∀j,j<n+m->(w.cell? ⟨b,off+j,none⟩).isSome=true) (hfz:∀j,j<n+m->w.frozen? ⟨b,off+j,none⟩=false)
 (hvs:∀j v,vs[j]?=some v->w.cell? ⟨vb,voff+j,none⟩=some v) (h1c:∀v∈cs,v.oneCell'=true) (h1v:∀v∈vs,v.oneCell'=true)
 (tA tB:TypeId) (kA kB:Nat) (hsa:w.shape? vb=some (tA,kA)) (hsb:w.shape? b=some (tB,kB)) (hkB:kB≠0) (hfa:w.frozen? ⟨vb,voff,none⟩=false) (hfe:w.frozen? ⟨vb,kA,none⟩=false) :
 Calls P (ρ.f 22) #[.slice (some ⟨b,off,none⟩) n c,.int .i64 i,.slice (some ⟨vb,voff,none⟩) m vc] w fun e w'=>
  e=.returned (.slice (some ⟨b,off,none⟩) (n+m) c)/\w'=(w.drew.setCells b (off+(i+m)) (cs.drop i)).setCells b (off+i) vs:=by
 have t0:=L.t0;have a0:=L.a0;have z0:=L.z0;have v0:=L.v0;have t3:=L.t3;have a3:=L.a3;have z3:=L.z3;have v3:=L.v3;have t4:=L.t4;have a4:=L.a4;have z4:=L.z4;have v4:=L.v4;have z9:=L.z9;have t24:=L.t24;have a24:=L.a24;have z24:=L.z24;have v24:=L.v24;have u0:=run_underlying L.t0;have u3:=run_underlying L.t3;have u4:=run_underlying L.t4;have u24:=run_underlying L.t24;have hz1:¬((m:Int)=0):=by omega
 have hz2:¬((i:Int)=(n:Int)):=by omega
 have hsz:(P.info? (ρ.t 9)).map (·.size)=some 1:=by
  obtain⟨i0,hi0,h0,h1,h2⟩:=info_parts hi9;rw[hi0];simp[h1]
 have hov:∀lb cb,(callFunc (ρ.f 29) #[.slice (some ⟨vb,voff,none⟩) m vc,.slice (some ⟨b,off+(i+m),none⟩) lb cb]).run P w=.ok (.value (.bool false)) w:=fun lb cb=>by
  obtain⟨fn,g1,g2,g3,g4,g5⟩:=h29
  rw[run_callFunc_extern g1 g2 g3 g4 (e:=Extern.SlicesOverlaps.overlaps #[(ρ.t 24),(ρ.t 24)] #[(ρ.t 4)]) g5,
   Lib.run_overlaps_apart w (ρ.t 24) (ρ.t 4) (ρ.t 9) L.t24 1 L.z9 ⟨vb,voff,none⟩ ⟨b,off+(i+m),none⟩ m vc lb cb hvb tA tB kA kB hsa hsb hkB hfa hfe]
  rfl
 have hdl:(cs.drop i).length=n-i:=by rw[gAA,hcl]
 have mixed:=L.mixed;have hw1:IntKind.i64.wrap ((i:Int)+(m:Int))=(i:Int)+(m:Int):=by rw[IntKind.wrap_i64];omega
 have hb1:(0:Int)<=(i:Int)+(m:Int):=by omega
 have hin:i<=n:=by omega
 have htn:((i:Int)+(m:Int)).toNat=i+m:=by omega
 have hb2:¬(c=i+m):=by omega
 have hb3:(i:Int)<=(n:Int)+(m:Int):=by omega
 have hb4:¬(c=i):=by omega
 have hcp1:∀ty dc sc,(Builtin.copy_ #[(ρ.t 24),(ρ.t 24)] ty #[.slice (some ⟨b,off+(i+m),none⟩) (n+m-(i+m)) dc,.slice (some ⟨b,off+i,none⟩) (n+m-i) sc]).run P w.drew=.ok (goInt (cs.drop i).length) (w.drew.setCells b (off+(i+m)) (cs.drop i)):=fun ty dc sc=>
  run_copy_cells w.drew _ _ ty (ρ.t 9) b (off+(i+m)) (n+m-(i+m)) dc ⟨b,off+i,none⟩ (n+m-i) sc (cs.drop i) L.t24 hsz (by rw[hdl];simp only[Nat.min_def];split <;> omega)
   (fun j v hj=>by rw[Addr.add_lit,Nat.add_assoc];exact hcs (i+j) v (by rwa[gV]at hj))
   (fun j hj=>by rw[Nat.add_assoc];exact hsp _ (by omega)) (fun j hj=>by rw[Nat.add_assoc];exact hfz _ (by omega)) (fun v hv=>h1c v (List.mem_of_mem_drop hv))
 obtain⟨W1,hW1⟩:∃W1,W1=w.drew.setCells b (off+(i+m)) (cs.drop i):=⟨_,rfl⟩
 have hsp1:∀k,k<n+m->(W1.cell? ⟨b,off+k,none⟩).isSome=true:=fun k hk=>by
  rw[hW1];exact isSome_setCells b _ _ _ (fun j hj=>by rw[Nat.add_assoc];exact hsp _ (by omega)) _ (hsp k hk)
 have hcp2:∀(W:World),(∀x,W.cell? x=W1.cell? x)->(∀x,W.frozen? x=W1.frozen? x)->∀ty dc,(Builtin.copy_ #[(ρ.t 24),(ρ.t 24)] ty #[.slice (some ⟨b,off+i,none⟩) (n+m-i) dc,.slice (some ⟨vb,voff,none⟩) m vc]).run P W=.ok (goInt vs.length) (W.setCells b (off+i) vs):=fun W hWc hWf ty dc=>
  run_copy_cells W _ _ ty (ρ.t 9) b (off+i) (n+m-i) dc ⟨vb,voff,none⟩ m vc vs L.t24 hsz (by rw[hvl];simp only[Nat.min_def];split <;> omega)
   (fun j v hj=>by
    rw[Addr.add_lit,hWc,hW1,World.cell?_setCells_out b _ _ _ _ (fun h _=>absurd h hvb)];exact hvs j v hj)
   (fun j hj=>by rw[hWc,Nat.add_assoc];exact hsp1 _ (by omega)) (fun j hj=>by rw[hWf,hW1,World.frozen?_setCells,Nat.add_assoc];exact hfz _ (by omega)) h1v
 rw[<- hW1]at hcp1;clear hz1c;obtain⟨_,_,FG⟩:=L.f22
 go_enter FG,Body2.n22_ntmps ρ
 go_wp2_with (simp only[hov])
 go_region_law_o (refine step_copy_runI rfl _ _ (ρ.t 24) (ρ.t 24) rfl _ _ (by simp[Act.eval,Act.put]) (by simp[Act.eval,Act.put]) (hcp1 _ _ _) ?_)
 go_wp2_with (at_builtin;refine wpList_copy_runI _ rfl _ _ (ρ.t 24) (ρ.t 24) rfl _ _ rfl rfl (hcp2 _ (fun _=>rfl) (fun _=>rfl) _ _) ?_)
 go_ret
 first|exact⟨rfl,rfl⟩|exact⟨rfl,by rw[hW1]⟩
set_option maxHeartbeats 4000000 in
set_option maxRecDepth 100000 in
theorem qja{z:Value}{B:Nat}(L:InsL.n22 P ρ)(h29:OvL P ρ)(hi9:(P.info? (ρ.t 9)).map (fun i=>(i.zero,i.size,i.bytes))=some (some z,1,B))(hz1c:z.cells = #[z])(hB:0<B)(b off n c vb voff m vc:Nat)(vs:List Value)(w:World)(hm:0<m)(hroom:n+m<=c)(hc63:c<=9223372036854775807)
 (hvl:vs.length=m) (hsp:∀j,j<m->(w.cell? ⟨b,off+n+j,none⟩).isSome=true) (hfz:∀j,j<m->w.frozen? ⟨b,off+n+j,none⟩=false)
 (hvs:∀j v,vs[j]?=some v->w.cell? ⟨vb,voff+j,none⟩=some v) (h1v:∀v∈vs,v.oneCell'=true) :
 Calls P (ρ.f 22) #[.slice (some ⟨b,off,none⟩) n c,.int .i64 n,.slice (some ⟨vb,voff,none⟩) m vc] w fun e w'=>
  e=.returned (.slice (some ⟨b,off,none⟩) (n+m) c)/\w'=w.setCells b (off+n) vs:=by
 have t0:=L.t0;have a0:=L.a0;have z0:=L.z0;have v0:=L.v0;have t3:=L.t3;have a3:=L.a3;have z3:=L.z3;have v3:=L.v3;have t4:=L.t4;have a4:=L.a4;have z4:=L.z4;have v4:=L.v4;have z9:=L.z9;have t24:=L.t24;have a24:=L.a24;have z24:=L.z24;have v24:=L.v24;have u0:=run_underlying L.t0;have u3:=run_underlying L.t3;have u4:=run_underlying L.t4;have u24:=run_underlying L.t24;have mixed:=L.mixed;have hz1:¬((m:Int)=0):=by omega
 have hsrc:Src P 1 (ρ.t 24) (.slice (some ⟨vb,voff,none⟩) m vc) m vs w:=Src.ofSlice w L.t24 ⟨vb,voff,none⟩ m vc vs (by omega) (fun j u hj=>by rw[Addr.add_lit];exact hvs j u hj) h1v;clear hz1c;obtain⟨_,_,FG⟩:=L.f22
 go_enter FG,Body2.n22_ntmps ρ
 go_wp2_with (at_builtin;refine wpList_append_room1 _ rfl _ _ (ρ.t 24) (ρ.t 24) rfl (ρ.t 9) _ _ L.t24 hi9 b off n c rfl _ rfl m vs hsrc hroom (by rw[hvl];exact hsp) (by rw[hvl];exact hfz) ?_)
 go_ret
 exact⟨rfl,rfl⟩
set_option maxHeartbeats 4000000 in
set_option maxRecDepth 100000 in
theorem qdf{z:Value}{B:Nat}(L:InsL.n22 P ρ)(h29:OvL P ρ)(hi9:(P.info? (ρ.t 9)).map (fun i=>(i.zero,i.size,i.bytes))=some (some z,1,B))(hz1c:z.cells = #[z])(hB:0<B)(base:Option Addr)(n c vb voff m vc:Nat)(cs vs:List Value)(w:World)(hm:0<m)(hnc:n<=c)(hroom:c<n+m)(hbig:(n+m)*B<=140737488355328)
 (hcl:cs.length=n) (hvl:vs.length=m) (hnil:base=none->n=0)
 (hcs:∀a,base=some a->∀j v,cs[j]?=some v->w.cell? (a.add j)=some v)
 (hvs:∀j v,vs[j]?=some v->w.cell? ⟨vb,voff+j,none⟩=some v) (h1v:∀v∈vs,v.oneCell'=true) :
 Calls P (ρ.f 22) #[.slice base n c,.int .i64 n,.slice (some ⟨vb,voff,none⟩) m vc] w fun e w'=>
  e=.returned (.slice (some ⟨w.heap.size,0,none⟩) (n+m) (grownCap w (n+m) c (ρ.t 9)))/\
  w'=w.drew.alloc (.cells ((cs++vs).toArray++Builtin.zeroCells z.cells (grownCap w (n+m) c (ρ.t 9)-(n+m))) (ρ.t 9)):=by
 have t0:=L.t0;have a0:=L.a0;have z0:=L.z0;have v0:=L.v0;have t3:=L.t3;have a3:=L.a3;have z3:=L.z3;have v3:=L.v3;have t4:=L.t4;have a4:=L.a4;have z4:=L.z4;have v4:=L.v4;have z9:=L.z9;have t24:=L.t24;have a24:=L.a24;have z24:=L.z24;have v24:=L.v24;have u0:=run_underlying L.t0;have u3:=run_underlying L.t3;have u4:=run_underlying L.t4;have u24:=run_underlying L.t24;have mixed:=L.mixed;have hnm:n+m<=140737488355328:=Nat.le_trans (Nat.le_mul_of_pos_right _ hB) hbig;obtain⟨i0,hi0,hz0,hzs,hzb⟩:=info_parts hi9;have hz1:¬((m:Int)=0):=by omega
 have hsrc:Src P i0.size (ρ.t 24) (.slice (some ⟨vb,voff,none⟩) m vc) m vs w:=by
  rw[hzs];exact Src.ofSlice w L.t24 ⟨vb,voff,none⟩ m vc vs (by omega) (fun j u hj=>by rw[Addr.add_lit];exact hvs j u hj) h1v
 have hold:(Builtin.firstCells i0.size n (.slice base n c)).run P w.drew=.ok cs.toArray w.drew:=by
  rw[hzs];cases base with
  |none=>
   have h0:=hnil rfl;subst h0;rw[List.length_eq_zero_iff.1 hcl];exact run_firstCells_none w.drew 1 0 0 c
  |some a=>exact run_firstCells_some w.drew 1 n a n c cs (by omega) (fun j v hj=>hcs a rfl j v hj)
 have hrun:∀ty,(Builtin.append_ #[(ρ.t 24),(ρ.t 24)] ty #[.slice base n c,.slice (some ⟨vb,voff,none⟩) m vc]).run P w=_:=fun ty=>
  run_append_grow_src w (ρ.t 24) (ρ.t 24) ty (ρ.t 9) i0 _ L.t24 hi0 hz0 base n c cs hold _ m vs hsrc hroom (by omega) (by rw[hzb];exact growslice_fits hroom hbig)
 clear hz1c;obtain⟨_,_,FG⟩:=L.f22
 go_enter FG,Body2.n22_ntmps ρ
 cases base with
 |none=>
  have h0:=hnil rfl;subst h0
  go_wp2_with (at_builtin;refine Lib.wpList_append_run _ rfl _ _ _ _ rfl _ _ rfl rfl _ _ (hrun _) ?_)
  all_goals (go_ret;exact⟨rfl,rfl⟩)
 |some a=>
  obtain⟨ab,ao,asp⟩:=a
  go_wp2_with (at_builtin;refine Lib.wpList_append_run _ rfl _ _ _ _ rfl _ _ rfl rfl _ _ (hrun _) ?_)
  all_goals (go_ret;exact⟨rfl,rfl⟩)
set_option maxHeartbeats 4000000 in
set_option maxRecDepth 100000 in
theorem qoq{z:Value}{B:Nat}(L:InsL.n22 P ρ)(h29:OvL P ρ)(hi9:(P.info? (ρ.t 9)).map (fun i=>(i.zero,i.size,i.bytes))=some (some z,1,B))(hz1c:z.cells = #[z])(hB:0<B)(b off n c i vb voff m vc:Nat)(cs vs:List Value)(w:World)(hi:i<n)(hm:0<m)(hnc:n<=c)(hroom:c<n+m)(hbig:(n+m)*B<=140737488355328)
 (hcl:cs.length=n) (hvl:vs.length=m)
 (hcs:∀j v,cs[j]?=some v->w.cell? ⟨b,off+j,none⟩=some v)
 (hvs:∀j v,vs[j]?=some v->w.cell? ⟨vb,voff+j,none⟩=some v) (h1c:∀v∈cs,v.oneCell'=true) (h1v:∀v∈vs,v.oneCell'=true) :
 Calls P (ρ.f 22) #[.slice (some ⟨b,off,none⟩) n c,.int .i64 i,.slice (some ⟨vb,voff,none⟩) m vc] w fun e w'=>
  e=.returned (.slice (some ⟨w.heap.size,0,none⟩) (n+m) (grownCap w (n+m) c (ρ.t 9)))/\
  w'=(((w.alloc (.cells ((cs.take i).toArray++Builtin.zeroCells z.cells (n+m-i)++Builtin.zeroCells z.cells (grownCap w (n+m) c (ρ.t 9)-(n+m))) (ρ.t 9))).drew.setCells w.heap.size i vs).drew).setCells w.heap.size (i+m) (cs.drop i):=by
 have t0:=L.t0;have a0:=L.a0;have z0:=L.z0;have v0:=L.v0;have t3:=L.t3;have a3:=L.a3;have z3:=L.z3;have v3:=L.v3;have t4:=L.t4;have a4:=L.a4;have z4:=L.z4;have v4:=L.v4;have z9:=L.z9;have t24:=L.t24;have a24:=L.a24;have z24:=L.z24;have v24:=L.v24;have u0:=run_underlying L.t0;have u3:=run_underlying L.t3;have u4:=run_underlying L.t4;have u24:=run_underlying L.t24;have mixed:=L.mixed;have hnm:n+m<=140737488355328:=Nat.le_trans (Nat.le_mul_of_pos_right _ hB) hbig;obtain⟨i0,hi0,hz0,hzs,hzb⟩:=info_parts hi9;have hz1:¬((m:Int)=0):=by omega
 have hz2:¬((i:Int)=(n:Int)):=by omega
 have hz3:(c:Int)<(n:Int)+(m:Int):=by omega
 have hsz:(P.info? (ρ.t 9)).map (·.size)=some 1:=by rw[hi0];simp[hzs]
 have hbw:b<w.heap.size:=block_lt_of_cell (hcs 0 _ (gA (by omega)));have hvw:vb<w.heap.size:=block_lt_of_cell (hvs 0 _ (gA (by omega)));have hkk:(n:Int)+(m:Int)-(i:Int)=((n+m-i:Nat):Int):=by omega
 have hik:i+(n+m-i)=n+m:=by omega
 have hold:(Builtin.firstCells i0.size i (.slice (some ⟨b,off,none⟩) i c)).run P w.drew=.ok (cs.take i).toArray w.drew:=by
  rw[hzs]
  exact run_firstCells_some w.drew 1 i ⟨b,off,none⟩ i c (cs.take i) (by rw[gAF];omega) (fun j v hj=>by
   rw[Addr.add_lit];rw[gT]at hj;split at hj
   ·exact hcs j v hj
   ·cases hj)
 have hrz:∀ty,(Builtin.append_ #[(ρ.t 24),(ρ.t 3)] ty #[.slice (some ⟨b,off,none⟩) i c,.int .i64 ((n:Int)+(m:Int)-(i:Int))]).run P w=
  .ok (.slice (some ⟨w.heap.size,0,none⟩) (n+m) (grownCap w (n+m) c (ρ.t 9))) (w.drew.alloc (.cells ((cs.take i).toArray++Builtin.zeroCells z.cells (n+m-i)++Builtin.zeroCells z.cells (grownCap w (n+m) c (ρ.t 9)-(n+m))) (ρ.t 9))):=fun ty=>by
  have h:=Lib.run_append_grow_zeros w (ρ.t 24) (ρ.t 3) ty (ρ.t 9) i0 _ .i64 .i64 L.t24 L.t3 hi0 hz0 (some ⟨b,off,none⟩) i c (cs.take i) hold (n+m-i) (by omega) (by omega) (by omega) (by omega) (by rw[hzb];exact Nat.le_trans (gAO _ (by omega)) (Nat.le_trans hbig (by decide))) (by rw[hzb,hik];exact growslice_fits hroom hbig);rw[hik]at h;rw[hkk];exact h
 obtain⟨G,hG⟩:∃G,G=grownCap w (n+m) c (ρ.t 9):=⟨_,rfl⟩;obtain⟨ROW,hROW⟩:∃ROW:Array Value,ROW=(cs.take i).toArray++Builtin.zeroCells z.cells (n+m-i)++Builtin.zeroCells z.cells (G-(n+m)):=⟨_,rfl⟩;rw[<- hG]at hrz ⊢;rw[<- hROW]at hrz ⊢
 have hRl:n+m<=ROW.size:=by
  rw[hROW];simp[Builtin.zeroCells,hz1c];omega
 obtain⟨W1,hW1⟩:∃W1,W1=w.drew.alloc (.cells ROW (ρ.t 9)):=⟨_,rfl⟩;rw[<- hW1]at hrz
 have hN:∀j,j<n+m->(W1.cell? ⟨w.heap.size,j,none⟩).isSome=true:=fun j hj=>by
  rw[hW1,World.cell?_alloc_at (w:=w.drew) ROW _ w.heap.size j rfl,gAQ (by omega)];rfl
 have hNf:∀j,W1.frozen? ⟨w.heap.size,j,none⟩=false:=fun j=>by rw[hW1];exact World.frozen?_alloc_at (w:=w.drew) ROW _ w.heap.size j rfl
 have hOb:∀j v,w.cell? ⟨b,j,none⟩=some v->W1.cell? ⟨b,j,none⟩=some v:=fun j v h=>by rw[hW1,World.cell?_alloc_past (w:=w.drew) _ b j hbw];exact h
 have hOv:∀j v,w.cell? ⟨vb,j,none⟩=some v->W1.cell? ⟨vb,j,none⟩=some v:=fun j v h=>by rw[hW1,World.cell?_alloc_past (w:=w.drew) _ vb j hvw];exact h
 have hcpA:∀(W:World),(∀x,W.cell? x=W1.cell? x)->(∀x,W.frozen? x=W1.frozen? x)->∀ty dc,(Builtin.copy_ #[(ρ.t 24),(ρ.t 24)] ty #[.slice (some ⟨w.heap.size,i,none⟩) (n+m-i) dc,.slice (some ⟨vb,voff,none⟩) m vc]).run P W=.ok (goInt vs.length) (W.setCells w.heap.size i vs):=fun W hWc hWf ty dc=>
  run_copy_cells W _ _ ty (ρ.t 9) w.heap.size i (n+m-i) dc ⟨vb,voff,none⟩ m vc vs L.t24 hsz (by rw[hvl];simp only[Nat.min_def];split <;> omega)
   (fun j v hj=>by rw[Addr.add_lit,hWc];exact hOv _ v (hvs j v hj))
   (fun j hj=>by rw[hWc];exact hN _ (by omega)) (fun j hj=>by rw[hWf];exact hNf _) h1v
 have hGn:n+m<=G:=by rw[hG];exact grownCap_ge w _ _ _
 have hG63:G<=9223372036854775807:=by
  have:=grownCap_le_maxLen w (n+m) c (ρ.t 9) (by unfold maxLen;omega);rw[<- hG]at this;unfold maxLen at this;omega
 have hGi:¬(G=i):=by omega
 have hGim:¬(G=i+m):=by omega
 have hci:¬(c=i):=by omega
 have hbN:b≠w.heap.size:=by omega
 have hdl:(cs.drop i).length=n-i:=by rw[gAA,hcl]
 have hcpB:∀(W:World),(∀x,W.cell? x=(W1.setCells w.heap.size i vs).cell? x)->(∀x,W.frozen? x=(W1.setCells w.heap.size i vs).frozen? x)->∀ty dc sc,(Builtin.copy_ #[(ρ.t 24),(ρ.t 24)] ty #[.slice (some ⟨w.heap.size,i+m,none⟩) (n+m-(i+m)) dc,.slice (some ⟨b,off+i,none⟩) (n-i) sc]).run P W=.ok (goInt (cs.drop i).length) (W.setCells w.heap.size (i+m) (cs.drop i)):=fun W hWc hWf ty dc sc=>
  run_copy_cells W _ _ ty (ρ.t 9) w.heap.size (i+m) (n+m-(i+m)) dc ⟨b,off+i,none⟩ (n-i) sc (cs.drop i) L.t24 hsz (by rw[hdl];simp only[Nat.min_def];split <;> omega)
   (fun j v hj=>by
    rw[Addr.add_lit,hWc,World.cell?_setCells_out _ _ _ _ _ (fun h _=>absurd h hbN),Nat.add_assoc];exact hOb _ v (hcs (i+j) v (by rwa[gV]at hj)))
   (fun j hj=>by rw[hWc];exact isSome_setCells _ _ _ _ (fun t ht=>hN _ (by omega)) _ (hN _ (by omega)))
   (fun j hj=>by rw[hWf,World.frozen?_setCells];exact hNf _) (fun v hv=>h1c v (List.mem_of_mem_drop hv))
 subst hW1;have hE1:∀x,((w.alloc (.cells ROW (ρ.t 9))).drew).cell? x=(w.drew.alloc (.cells ROW (ρ.t 9))).cell? x:=fun x=>rfl;have hE2:∀x,((w.alloc (.cells ROW (ρ.t 9))).drew).frozen? x=(w.drew.alloc (.cells ROW (ρ.t 9))).frozen? x:=fun x=>rfl;have hF1:∀x,(((w.alloc (.cells ROW (ρ.t 9))).drew.setCells w.heap.size i vs).drew).cell? x=((w.drew.alloc (.cells ROW (ρ.t 9))).setCells w.heap.size i vs).cell? x:=fun x=>rfl;have hF2:∀x,(((w.alloc (.cells ROW (ρ.t 9))).drew.setCells w.heap.size i vs).drew).frozen? x=((w.drew.alloc (.cells ROW (ρ.t 9))).setCells w.heap.size i vs).frozen? x:=fun x=>rfl;have hw1:IntKind.i64.wrap ((i:Int)+(m:Int))=(i:Int)+(m:Int):=by rw[IntKind.wrap_i64];omega
 have hb1:(0:Int)<=(i:Int)+(m:Int):=by omega
 have hin:i<=n:=by omega
 have htn:((i:Int)+(m:Int)).toNat=i+m:=by omega
 have hb3:(i:Int)<=(n:Int):=by omega
 clear hkk hik hold hROW hG hRl hz1c;obtain⟨_,_,FG⟩:=L.f22
 go_enter FG,Body2.n22_ntmps ρ
 go_wp2_with (first
  |(at_builtin;refine Lib.wpList_append_run _ rfl _ _ _ _ rfl _ _ rfl rfl _ _ (hrz _) ?_)
  |(at_builtin;refine wpList_copy_runI _ rfl _ _ (ρ.t 24) (ρ.t 24) rfl _ _ rfl rfl (hcpA _ hE1 hE2 _ _) ?_)
  |(at_builtin;refine wpList_copy_runI _ rfl _ _ (ρ.t 24) (ρ.t 24) rfl _ _ rfl rfl (hcpB _ (fun _=>rfl) (fun _=>rfl) _ _ _) ?_))
 go_region_law_o (refine step_copy_runI rfl _ _ (ρ.t 24) (ρ.t 24) rfl (.slice (some ⟨w.heap.size,i+m,none⟩) (n+m-(i+m)) (G-(i+m))) (.slice (some ⟨b,off+i,none⟩) (n-i) (c-i)) (by simp[Act.eval,Act.put]) (by simp[Act.eval,Act.put]) (hcpB _ hF1 hF2 (ρ.t 3) (G-(i+m)) (c-i)) ?_)
 go_wp2
 go_ret
 exact⟨rfl,rfl⟩
def insE(B:Nat):Env->List T->R:=fun _ args=>match args with
 |[.sl 1 cs,.int .i64 i,.sl 1 [y]]=>bif decide (0<=i)&&Nat.ble i.toNat cs.length&&decide ((cs.length+1)*B<=140737488355328)&&decide (cs.length<4294967296)
  then some (.sl 1 (cs.take i.toNat++y::cs.drop i.toNat),[])else none
 |_=>none
theorem qts{α:Type}(l:List α)(y:α)(i:Nat)(hi:i<=l.length)(j:Nat):(l.take i++y::l.drop i)[j]?=if j<i then l[j]? else if j=i then some y else l[j-1]?:=by
 rw[List.getElem?_append,gAF,Nat.min_eq_left hi];by_cases h1:j<i
 ·rw[if_pos h1,if_pos h1,gT,if_pos h1]
 ·rw[if_neg h1,if_neg h1];by_cases h2:j=i
  ·subst h2;simp
  ·rw[if_neg h2];obtain⟨k,rfl⟩:∃k,j=i+(k+1):=⟨j-i-1,by omega⟩;rw[show i+(k+1)-i=k+1 by omega,List.getElem?_cons_succ,gV];congr 1
theorem qby(b:Nat):∀(vs:List Value)(o:Nat)(w:World)(cur:Array Value)(e:TypeId),w.heap[b]?=some (.cells cur e (0,0))->
 (w.setCells b o vs).heap[b]?=some (.cells (setCells cur.toList o vs).toArray e (0,0))/\(∀k,k≠b->(w.setCells b o vs).heap[k]?=w.heap[k]?)/\(w.setCells b o vs).heap.size=w.heap.size/\
  (w.setCells b o vs).os=w.os/\(w.setCells b o vs).tape=w.tape/\(w.setCells b o vs).output=w.output
 |[],o,w,cur,e,hg=>by simp[World.setCells,setCells,hg]
 |v::r,o,w,cur,e,hg=>by
  have h1:(w.setCell ⟨b,o,none⟩ v).heap[b]?=some (.cells (cur.setIfInBounds o v) e (0,0)):=by
   simp[World.setCell,Array.getElem?_modify,hg]
  obtain⟨q1,q2,q3,q4,q5,q6⟩:=qby b r (o+1) (w.setCell ⟨b,o,none⟩ v) _ e h1;rw[World.setCells];refine⟨by rw[q1];simp[setCells],fun k hk=>by rw[q2 k hk];simp[World.setCell,Array.getElem?_modify,Ne.symm hk],by rw[q3];simp[World.setCell],q4,q5,q6⟩
theorem qtv{w:World}{cells:List T}{v:Value}{F:List Nat}(h:RO w (.sl 1 cells) v F) :
 (cells=[]/\F=[]/\∃a,v=.slice a 0 0)\/∃g cap cur e,∃(us:Nat->Value)(fs:Nat->List Nat),v=.slice (some ⟨g,0,none⟩) cells.length cap/\F=g::flat cells.length fs/\w.heap[g]?=some (.cells cur e (0,0))/\cells.length<=cap/\cap<=maxLen/\cur.size=cap/\
  (∀i,i<cells.length->cur[i]?=some (us i))/\(∀i x,cells[i]?=some x->RO w x (us i) (fs i))/\g∉flat cells.length fs/\ND cells.length fs:=by
 generalize hx:T.sl 1 cells=x at h;cases h with
 |int=>cases hx
 |bool=>cases hx
 |str=>cases hx
 |hole=>cases hx
 |mp=>cases hx
 |nil hsz=>
  injection hx with h1 h2;exact .inl ⟨h2,rfl,_,rfl⟩
 |sl vs fs hsz hg hlen hcap hmax hcur hv hc hnd=>
  rename_i sz cells' g len cap cur e;injection hx with h1 h2;subst h1;subst h2;rw[Nat.mul_one]at hlen hcur;subst hlen;rw[List.nodup_cons]at hnd;exact .inr ⟨g,cap,cur,e,vs,fs,rfl,rfl,hg,hcap,hmax,hcur,hv,hc,hnd.1,(q6u _ _).1 hnd.2⟩
theorem qq8{w w':World}{I J:Nat->Prop}{vs:Array Value}{F1 F2:List Nat}{cs:List T}{y:T}{i g' cap' n:Nat}{cur':Array Value}{e':TypeId}{us:Nat->Value}{fs:Nat->List Nat}{u0:Value}{f0:List Nat}
 (hn:cs.length=n) (hi:i<=n) (hlt:∀b,b∈F1++F2->b<w.heap.size) (hsub:∀b,b∈flat n fs->b∈F1) (hsub2:∀b,b∈f0->b∈F2) (hap:∀b,b∈F1->b∉F2)
 (hnd:ND n fs) (hnd2:f0.Nodup) (hg0:g'∉flat n fs) (hg1:g'∉f0) (hg2:g'∈F1\/w.heap.size<=g')
 (hr:∀j x,cs[j]?=some x->RO w x (us j) (fs j)) (hr2:RO w y u0 f0)
 (hos:w'.os=w.os) (htape:w'.tape=w.tape) (hout:w'.output=w.output) (hsize:w.heap.size<=w'.heap.size) (hsame:∀b,b<w.heap.size->b≠g'->w'.heap[b]?=w.heap[b]?)
 (hg:w'.heap[g']?=some (.cells cur' e' (0,0))) (hcap:n+1<=cap') (hmax:cap'<=maxLen) (hcur:cur'.size=cap')
 (hv:∀j,j<n+1->cur'[j]?=some (if j<i then us j else if j=i then u0 else us (j-1))) :
 ∃Fr Fo,Done ⟨some 0,.two 2,true,true,false⟩ w I J vs (F1++F2) (.sl 1 (cs.take i++y::cs.drop i),[]) (.slice (some ⟨g',0,none⟩) (n+1) cap') w' Fr Fo:=by
 have hl:(cs.take i++y::cs.drop i).length=n+1:=by simp;omega
 let us':Nat->Value:=fun j=>if j<i then us j else if j=i then u0 else us (j-1)
 let fs':Nat->List Nat:=fun j=>if j<i then fs j else if j=i then f0 else fs (j-1)
 have cases3:∀j,j<n+1->(j<i/\fs' j=fs j)\/(j=i/\fs' j=f0)\/(i<j/\j-1<n/\fs' j=fs (j-1)):=fun j hj=>by
  by_cases h1:j<i
  ·exact .inl ⟨h1,if_pos h1⟩
  ·by_cases h2:j=i
   ·exact .inr (.inl ⟨h2,by show(if j<i then _ else if j=i then _ else _)=_;rw[if_neg h1,if_pos h2]⟩)
   ·exact .inr (.inr ⟨by omega,by omega,by show(if j<i then _ else if j=i then _ else _)=_;rw[if_neg h1,if_neg h2]⟩)
 have hold:∀j,j<n->∀b,b∈fs j->b∈flat n fs:=fun j hj b hb=>q23.2 ⟨j,hj,hb⟩
 have hin:∀b,b∈flat (n+1) fs'->b∈flat n fs\/b∈f0:=fun b hb=>by
  obtain⟨j,hj,hb⟩:=q23.1 hb;rcases cases3 j hj with⟨h1,e⟩|⟨_,e⟩|⟨_,h1,e⟩ <;> rw[e]at hb
  ·exact .inl (hold j (by omega) b hb)
  ·exact .inr hb
  ·exact .inl (hold _ h1 b hb)
 have cross:∀b,b∈flat n fs->b∉f0:=fun b hb hb2=>hap b (hsub b hb) (hsub2 b hb2)
 have hnd':ND (n+1) fs':=by
  refine⟨fun j hj=>?_,fun j k hj hk hne b hb hb'=>?_⟩
  ·rcases cases3 j hj with⟨h1,e⟩|⟨_,e⟩|⟨_,h1,e⟩ <;> rw[e]
   ·exact hnd.1 j (by omega)
   ·exact hnd2
   ·exact hnd.1 _ h1
  ·rcases cases3 j hj with⟨h1,e⟩|⟨h1,e⟩|⟨h1,h2,e⟩ <;> rw[e]at hb <;> rcases cases3 k hk with⟨k1,e'⟩|⟨k1,e'⟩|⟨k1,k2,e'⟩ <;> rw[e']at hb'
   ·exact hnd.2 j k (by omega) (by omega) hne b hb hb'
   ·exact cross b (hold j (by omega) b hb) hb'
   ·exact hnd.2 j (k-1) (by omega) k2 (by omega) b hb hb'
   ·exact cross b (hold k (by omega) b hb') hb
   ·exact hne (by omega)
   ·exact cross b (hold _ k2 b hb') hb
   ·exact hnd.2 (j-1) k h2 (by omega) (by omega) b hb hb'
   ·exact cross b (hold _ h2 b hb) hb'
   ·exact hnd.2 (j-1) (k-1) h2 k2 (by omega) b hb hb'
 have hgn:g'∉flat (n+1) fs':=fun h=>by
  rcases hin _ h with h|h
  ·exact hg0 h
  ·exact hg1 h
 have hmem:∀b,b∈flat (n+1) fs'->b∈F1++F2:=fun b hb=>by
  rcases hin b hb with h|h
  ·exact gJ _ (hsub b h)
  ·exact gN _ (hsub2 b h)
 have hkeep:∀b,b∈flat (n+1) fs'->w'.heap[b]?=w.heap[b]?:=fun b hb=>hsame b (hlt b (hmem b hb)) fun e=>hgn (e▸hb);refine⟨g'::flat (n+1) fs',[],⟨hos,htape,hout,hsize,fun b hb hn=>hsame b hb fun e=>?_⟩,fun b hb=>?_,by simp,?_,.inr (.inr ⟨rfl,rfl,rfl⟩)⟩
 ·subst e;rcases hg2 with h|h
  ·exact hn (gJ _ h)
  ·omega
 ·rcases hb with hb|hb
  ·rcases gK.1 hb with rfl|hb
   ·rcases hg2 with h|h
    ·exact .inl (gJ _ h)
    ·exact .inr h
   ·exact .inl (hmem b hb)
  ·cases hb
 ·have h:=RO.sl (w:=w') (sz:=1) (cells:=cs.take i++y::cs.drop i) (g:=g') (len:=n+1) (cap:=cap') (cur:=cur') (e:=e') us' fs' Nat.one_pos hg (by rw[hl,Nat.mul_one]) hcap hmax (by rw[hcur,Nat.mul_one]) (fun j hj=>hv j (by omega))
   (fun j x hx=>by
    have hj:j<n+1:=by rw[<- hl];exact(gB.1 hx).1
    rw[qts cs y i (by omega)]at hx;have mv:∀{x:T}{v:Value},RO w x v (fs' j)->RO w' x v (fs' j):=fun h=>RO.move h fun b hb=>hkeep b (q23.2 ⟨j,hj,hb⟩);by_cases h1:j<i
    ·rw[if_pos h1]at hx;have e1:us' j=us j:=if_pos h1;have e2:fs' j=fs j:=if_pos h1;rw[e1];apply mv;rw[e2];exact hr j x hx
    ·rw[if_neg h1]at hx;by_cases h2:j=i
     ·rw[if_pos h2]at hx;cases hx;have e1:us' j=u0:=by show(if j<i then _ else if j=i then _ else _)=_;rw[if_neg h1,if_pos h2]
      have e2:fs' j=f0:=by show(if j<i then _ else if j=i then _ else _)=_;rw[if_neg h1,if_pos h2]
      rw[e1];apply mv;rw[e2];exact hr2
     ·rw[if_neg h2]at hx;have e1:us' j=us (j-1):=by show(if j<i then _ else if j=i then _ else _)=_;rw[if_neg h1,if_neg h2]
      have e2:fs' j=fs (j-1):=by show(if j<i then _ else if j=i then _ else _)=_;rw[if_neg h1,if_neg h2]
      rw[e1];apply mv;rw[e2];exact hr _ x hx)
   (by rw[hl];exact List.nodup_cons.2 ⟨hgn,(q6u _ _).2 hnd'⟩)
  rw[hl]at h;exact h
theorem ql1(w:World)(o:Obj):(w.heap.push o)[w.heap.size]?=some o:=by simp
theorem qky{w:World}{o:Obj}{b:Nat}(h:b<w.heap.size):(w.heap.push o)[b]?=w.heap[b]?:=by
 rw[Array.getElem?_push,if_neg (by omega)]
theorem qlp{n:Nat}{us:Nat->Value}{j:Nat}(h:j<n):((List.range n).map us)[j]?=some (us j):=by
 rw[gAC,List.getElem?_range h];rfl
theorem insert_sound{z:Value}{B:Nat}(L:InsL.n22 P ρ)(h29:OvL P ρ)(hi9:(P.info? (ρ.t 9)).map (fun i=>(i.zero,i.size,i.bytes))=some (some z,1,B))(hz1c:z.cells = #[z])(hB:0<B){fn:Func}(hf:P.funcs[ρ.f 22]?=some fn)(hb:fn.body.isSome=true)(hname:(fn.name=="runtime.NumGoroutine")=false)
 {E:Env} {args:List T} {r:T×List T} (h:insE B E args=some r):Meets P ⟨some 0,.two 2,true,true,false⟩ (ρ.f 22) args r:=by
 unfold insE at h;split at h
 case h_2=>cases h
 rename_i cs i y;replace h:=q1c h;obtain⟨hok,h⟩:=h;cases h;simp only[gC,gS]at hok;obtain⟨⟨⟨hi0,hil⟩,hbig⟩,hsmall⟩:=hok;have hil:i.toNat<=cs.length:=Nat.le_of_ble_eq_true hil;obtain⟨k,rfl⟩:∃k:Nat,i=k:=⟨i.toNat,by omega⟩;rw[gR]at hil ⊢;intro w I J vs F hp;obtain⟨x,v,F1,hx,hv,ha,hmore⟩:=hp.turned 0 rfl;obtain⟨y',u,F2,hy,hu,_,hro2,rfl,hap⟩:=hmore;have hx:T.sl 1 cs=x:=by simpa using hx
 subst hx;have hy:T.sl 1 [y]=y':=by simpa using hy
 subst hy;have hro1:RO w (.sl 1 cs) v F1:=ha.2;have hl3:vs.size=3:=hp.len
 have h1:vs[1]?=some (.int .i64 k):=by
  have hlt:1<vs.size:=by omega
  have hres:=hp.vals 1 (.int .i64 k) vs[1] (fun h=>by cases h) (fun h=>by cases h) rfl (by simp[hlt]);have hrb:RB w I J (.int .i64 k) vs[1]:=hres.1
  have:vs[1]=.int .i64 k:=by
   generalize vs[1]=q at hrb;cases hrb;rfl
  simp[hlt,this]
 have hvs:vs = #[v,.int .i64 k,u]:=by
  apply Array.ext
  ·rw[hl3];rfl
  ·intro j h2 h3;have:j<3:=by omega
   match j,this with
   |0,_=>simpa[h2]using hv
   |1,_=>simpa[h2]using h1
   |2,_=>simpa[h2]using hu
 subst hvs;refine qdx hf hb hname ?_;rcases qtv hro2 with⟨h,_⟩|⟨vb,vc,cur2,e2,us2,fs2,rfl,rfl,hg2,hcap2,hmax2,hcur2,hv2,hc2,hn2,hd2⟩
 ·cases h
 have hy2:RO w y (us2 0) (fs2 0):=hc2 0 y rfl;have hu2:cur2[0]?=some (us2 0):=hv2 0 (by simp);have hf2:flat [y].length fs2=fs2 0:=by simp[flat]
 have hlt2:∀b,b∈vb::flat [y].length fs2->b<w.heap.size:=fun b hb=>RO.lt hro2 b hb
 have hvbcell:∀j q,[us2 0][j]?=some q->w.cell? ⟨vb,0+j,none⟩=some q:=fun j q hj=>by
  cases j with
  |zero=>cases hj;simp[World.cell?,hg2,hu2]
  |succ j=>simp at hj
 have hone2:∀q∈[us2 0],q.oneCell'=true:=fun q hq=>by rw[gD.1 hq];exact hy2.one
 have hsub2:∀b,b∈fs2 0->b∈vb::flat [y].length fs2:=fun b hb=>gF _ (by rw[hf2];exact hb);have hnd2:(fs2 0).Nodup:=hy2.nodup
 have row:∀(n c:Nat)(U:List Value)(R:Array Value),U.length=n->n+1<=4294967296->(U++[us2 0]).length<=grownCap w (n+1) c (ρ.t 9):=fun n c U R hU _=>by
  rw[gM,hU];exact grownCap_ge w _ _ _
 have capmax:∀c,grownCap w (cs.length+1) c (ρ.t 9)<=maxLen:=fun c=>grownCap_le_maxLen w _ c _ (by unfold maxLen;omega);have capge:∀c,cs.length+1<=grownCap w (cs.length+1) c (ρ.t 9):=fun c=>grownCap_ge w _ _ _
 have fresh:∀(us:Nat->Value)(fs:Nat->List Nat)(cur':Array Value)(w':World)(c:Nat),(∀b,b∈flat cs.length fs->b∈F1)->ND cs.length fs->(∀j x,cs[j]?=some x->RO w x (us j) (fs j))->
  w'.os=w.os->w'.tape=w.tape->w'.output=w.output->w'.heap.size=w.heap.size+1->(∀b,b<w.heap.size->w'.heap[b]?=w.heap[b]?)->w'.heap[w.heap.size]?=some (.cells cur' (ρ.t 9) (0,0))->
  cur'.size=grownCap w (cs.length+1) c (ρ.t 9)->(∀j,j<cs.length+1->cur'[j]?=some (if j<k then us j else if j=k then us2 0 else us (j-1)))->
  ∃Fr Fo,Done ⟨some 0,.two 2,true,true,false⟩ w I J #[v,.int .i64 k,.slice (some ⟨vb,0,none⟩) [y].length vc] (F1++vb::flat [y].length fs2) (.sl 1 (cs.take k++y::cs.drop k),[]) (.slice (some ⟨w.heap.size,0,none⟩) (cs.length+1) (grownCap w (cs.length+1) c (ρ.t 9))) w' Fr Fo:=
  fun us fs cur' w' c hsub hnd hr q1 q2 q3 q4 q5 q6 q7 q8=>by
   have hlt:∀b,b∈F1++vb::flat [y].length fs2->b<w.heap.size:=fun b hb=>by
    rcases gO.1 hb with hb|hb
    ·exact RO.lt hro1 b hb
    ·exact hlt2 b hb
   exact qq8 (F1:=F1) rfl hil hlt hsub hsub2 hap hnd hnd2 (fun h=>by have:=RO.lt hro1 _ (hsub _ h);omega) (fun h=>by have:=hlt2 _ (hsub2 _ h);omega) (.inr (gAI _)) hr hy2
    q1 q2 q3 (by omega) (fun b hb _=>q5 b hb) q6 (capge c) (capmax c) q7 q8
 have zlen:∀q,(Builtin.zeroCells z.cells q).size=q:=fun q=>by simp[Builtin.zeroCells,hz1c]
 rcases qtv hro1 with⟨hcs,rfl,a,rfl⟩|⟨g,cap,cur,e,us,fs,rfl,rfl,hg,hcap,hmax,hcur,hvv,hcc,hgn,hd⟩
 ·-- nothing was there
  subst hcs;have hk:k=0:=by simpa using hil
  subst hk;refine Calls.mono (qdf L h29 hi9 hz1c hB a 0 0 vb 0 1 vc [] [us2 0] w Nat.one_pos (gAI _) (by omega) (by simpa using hbig) rfl rfl (fun _=>rfl) (fun a' _ j q hj=>by simp at hj) hvbcell hone2) ?_;rintro _ _ ⟨rfl,rfl⟩;refine⟨_,rfl,fresh (fun _=>undef) (fun _=>[]) _ _ 0 (by simp[flat]) (ND.nil _) (fun j x hx=>by simp at hx) rfl rfl rfl (Array.size_push _) (fun b hb=>qky hb) (ql1 _ _) ?_ fun j hj=>?_⟩
  ·have h:0+1<=grownCap w (0+1) 0 (ρ.t 9):=capge 0;rw[Array.size_append,zlen];show 1+(grownCap w (0+1) 0 (ρ.t 9)-(0+1))=grownCap w (0+1) 0 (ρ.t 9);omega
  ·have:j=0:=by simpa using hj
   subst this;rw[Array.getElem?_append_left (by simp)];rfl
 ·have U:((List.range cs.length).map us).length=cs.length:=by simp
  have hcells:∀j q,((List.range cs.length).map us)[j]?=some q->w.cell? ⟨g,0+j,none⟩=some q:=fun j q hj=>by
   have hj':j<cs.length:=by have:=(gB.1 hj).1;simpa using this
   rw[qlp hj']at hj;cases hj;simp[World.cell?,hg,hvv j hj']
  have hone:∀q∈(List.range cs.length).map us,q.oneCell'=true:=fun q hq=>by
   obtain⟨j,hj,rfl⟩:=List.mem_map.1 hq;have hj:=List.mem_range.1 hj;exact(hcc j _ (gA hj)).one
  have hgl:g<w.heap.size:=(Array.getElem?_eq_some_iff.1 hg).1;have hvl:vb<w.heap.size:=(Array.getElem?_eq_some_iff.1 hg2).1;have hne:vb≠g:=fun e=>hap g (by simp) (by simp[e]);have hsub:∀b,b∈flat cs.length fs->b∈g::flat cs.length fs:=fun b hb=>gF _ hb
  have hsome:∀j,j<cap->(w.cell? ⟨g,0+j,none⟩).isSome=true:=fun j hj=>by
   simp[World.cell?,hg];omega
  have hfz:∀j,w.frozen? ⟨g,j,none⟩=false:=fun j=>by simp[World.frozen?,hg]
  have hfz2:∀j,w.frozen? ⟨vb,j,none⟩=false:=fun j=>by simp[World.frozen?,hg2]
  have hlt:∀b,b∈(g::flat cs.length fs)++vb::flat [y].length fs2->b<w.heap.size:=fun b hb=>by
   rcases gO.1 hb with hb|hb
   ·exact RO.lt hro1 b hb
   ·exact hlt2 b hb
  have hc63:cap<=9223372036854775807:=by unfold maxLen at hmax;omega
  have place:∀(cur':Array Value)(w':World),w'.os=w.os->w'.tape=w.tape->w'.output=w.output->w'.heap.size=w.heap.size->(∀b,b≠g->w'.heap[b]?=w.heap[b]?)->w'.heap[g]?=some (.cells cur' e (0,0))->cs.length+1<=cap->
   cur'.size=cap->(∀j,j<cs.length+1->cur'[j]?=some (if j<k then us j else if j=k then us2 0 else us (j-1)))->
   ∃Fr Fo,Done ⟨some 0,.two 2,true,true,false⟩ w I J #[.slice (some ⟨g,0,none⟩) cs.length cap,.int .i64 k,.slice (some ⟨vb,0,none⟩) [y].length vc] ((g::flat cs.length fs)++vb::flat [y].length fs2) (.sl 1 (cs.take k++y::cs.drop k),[]) (.slice (some ⟨g,0,none⟩) (cs.length+1) cap) w' Fr Fo:=
   fun cur' w' q1 q2 q3 q4 q5 q6 q7 q8 q9=>
    qq8 rfl hil hlt hsub hsub2 hap hd hnd2 hgn (fun h=>hap g (by simp) (hsub2 _ h)) (.inl (by simp)) hcc hy2 q1 q2 q3 (by omega) (fun b _ hb=>q5 b hb) q6 q7 hmax q8 q9
  by_cases hk:k=cs.length
  ·subst hk
   have hval:∀j,j<cs.length+1->(if j<cs.length then us j else if j=cs.length then us2 0 else us (j-1))=if j<cs.length then us j else us2 0:=fun j hj=>by
    split
    ·rfl
    ·rw[if_pos (by omega)]
   by_cases hroom:cs.length+1<=cap
   ·refine Calls.mono (qja L h29 hi9 hz1c hB g 0 cs.length cap vb 0 1 vc [us2 0] w Nat.one_pos hroom hc63 rfl (fun j hj=>by rw[Nat.add_assoc];exact hsome _ (by omega)) (fun j hj=>hfz _) hvbcell hone2) ?_;rintro _ _ ⟨rfl,rfl⟩;obtain⟨q1,q2,q3,q4,q5,q6⟩:=qby g [us2 0] (0+cs.length) w cur e hg;refine⟨_,rfl,place _ _ q4 q5 q6 q3 q2 q1 hroom (by simp[q41,hcur]) fun j hj=>?_⟩;rw[hval j hj,gAJ,List.getElem?_toArray,q3y _ _ _ _ (by simp;omega)];by_cases h1:j<cs.length
    ·rw[if_neg (by omega),if_pos h1];simpa using hvv j h1
    ·have:j=cs.length:=by omega
     subst this;simp
   ·refine Calls.mono (qdf L h29 hi9 hz1c hB (some ⟨g,0,none⟩) cs.length cap vb 0 1 vc ((List.range cs.length).map us) [us2 0] w Nat.one_pos hcap (by omega) hbig U rfl (fun h=>by cases h) (fun a' ha' j q hj=>by cases ha';rw[Addr.add_lit];exact hcells j q hj) hvbcell hone2) ?_;rintro _ _ ⟨rfl,rfl⟩;refine⟨_,rfl,fresh us fs _ _ cap hsub hd hcc rfl rfl rfl (Array.size_push _) (fun b hb=>qky hb) (ql1 _ _) ?_ fun j hj=>?_⟩
    ·have:=capge cap;simp[zlen];omega
    ·rw[hval j hj,Array.getElem?_append_left (by simp;omega),List.getElem?_toArray,List.getElem?_append,U];by_cases h1:j<cs.length
     ·rw[if_pos h1,if_pos h1,qlp h1]
     ·have:j=cs.length:=by omega
      subst this;simp
  ·have hk':k<cs.length:=by omega
   have hdl:(((List.range cs.length).map us).drop k).length=cs.length-k:=by simp
   have hdg:∀j,k+1<=j->j<cs.length+1->(((List.range cs.length).map us).drop k)[j-(k+1)]?=some (us (j-1)):=fun j h1 h2=>by
    rw[gV,show k+(j-(k+1))=j-1 by omega,qlp (by omega)]
   by_cases hroom:cs.length+1<=cap
   ·refine Calls.mono (qnl L h29 hi9 hz1c hB g 0 cs.length cap k vb 0 1 vc ((List.range cs.length).map us) [us2 0] w hk' Nat.one_pos hroom hc63 hne U rfl hcells (fun j hj=>hsome j (by omega)) (fun j hj=>hfz _) hvbcell hone hone2
     e2 e cur2.size cur.size (by simp[World.shape?,hg2]) (by simp[World.shape?,hg]) (by omega) (hfz2 _) (hfz2 _)) ?_
    rintro _ _ ⟨rfl,rfl⟩;obtain⟨q1,q2,q3,q4,q5,q6⟩:=qby g (((List.range cs.length).map us).drop k) (0+(k+1)) w.drew cur e hg;obtain⟨p1,p2,p3,p4,p5,p6⟩:=qby g [us2 0] (0+k) _ _ e q1;refine⟨_,rfl,place _ _ (p4.trans q4) (p5.trans q5) (p6.trans q6) (p3.trans q3) (fun b hb=>(p2 b hb).trans (q2 b hb)) p1 hroom (by simp[q41,hcur]) fun j hj=>?_⟩;rw[List.getElem?_toArray,List.toList_toArray,q3y _ _ _ _ (by simp[q41];omega),q3y _ _ _ _ (by rw[hdl];simp;omega),hdl];simp only[gAJ,List.length_singleton];by_cases h1:j<k
    ·rw[if_neg (by omega),if_neg (by omega),if_pos h1];simpa using hvv j (by omega)
    ·by_cases h2:j=k
     ·subst h2;rw[if_pos (by omega),if_neg h1,if_pos rfl];simp
     ·rw[if_neg (by omega),if_pos (by omega),if_neg h1,if_neg h2,hdg j (by omega) hj]
   ·refine Calls.mono (qoq L h29 hi9 hz1c hB g 0 cs.length cap k vb 0 1 vc ((List.range cs.length).map us) [us2 0] w hk' Nat.one_pos hcap (by omega) hbig U rfl hcells hvbcell hone hone2) ?_;rintro _ _ ⟨rfl,rfl⟩;have hnew:((w.alloc (.cells ((((List.range cs.length).map us).take k).toArray++Builtin.zeroCells z.cells (cs.length+1-k)++Builtin.zeroCells z.cells (grownCap w (cs.length+1) cap (ρ.t 9)-(cs.length+1))) (ρ.t 9))).drew).heap[w.heap.size]?=some (.cells ((((List.range cs.length).map us).take k).toArray++Builtin.zeroCells z.cells (cs.length+1-k)++Builtin.zeroCells z.cells (grownCap w (cs.length+1) cap (ρ.t 9)-(cs.length+1))) (ρ.t 9) (0,0)):=ql1 _ _;obtain⟨q1,q2,q3,q4,q5,q6⟩:=qby w.heap.size [us2 0] k _ _ _ hnew;obtain⟨p1,p2,p3,p4,p5,p6⟩:=qby w.heap.size (((List.range cs.length).map us).drop k) (k+1) ((w.alloc (.cells ((((List.range cs.length).map us).take k).toArray++Builtin.zeroCells z.cells (cs.length+1-k)++Builtin.zeroCells z.cells (grownCap w (cs.length+1) cap (ρ.t 9)-(cs.length+1))) (ρ.t 9))).drew.setCells w.heap.size k [us2 0]).drew _ _ q1;have hge:=capge cap
    have hsz:((((List.range cs.length).map us).take k).toArray++Builtin.zeroCells z.cells (cs.length+1-k)++Builtin.zeroCells z.cells (grownCap w (cs.length+1) cap (ρ.t 9)-(cs.length+1))).size=grownCap w (cs.length+1) cap (ρ.t 9):=by
     simp[zlen];omega
    have hszl:=(Array.length_toList (xs:=(((List.range cs.length).map us).take k).toArray++Builtin.zeroCells z.cells (cs.length+1-k)++Builtin.zeroCells z.cells (grownCap w (cs.length+1) cap (ρ.t 9)-(cs.length+1)))).trans hsz;refine⟨_,rfl,fresh us fs _ _ cap hsub hd hcc (p4.trans q4) (p5.trans q5) (p6.trans q6) (p3.trans (q3.trans (Array.size_push _))) (fun b hb=>(p2 b (by omega)).trans ((q2 b (by omega)).trans ?_)) p1 ?_ fun j hj=>?_⟩
    ·exact qky hb
    ·rw[List.size_toArray,q41,List.toList_toArray,q41];exact hszl
    ·rw[List.getElem?_toArray,List.toList_toArray,q3y _ _ _ _ (by rw[hdl,q41,hszl];omega),q3y _ _ _ _ (by rw[hszl];simp;omega),hdl];simp only[List.length_singleton];by_cases h1:j<k
     ·rw[if_neg (by omega),if_neg (by omega),if_pos h1,Array.getElem?_toList,Array.append_assoc,Array.getElem?_append_left (by simp;omega),List.getElem?_toArray,gT,if_pos h1,qlp (by omega)]
     ·by_cases h2:j=k
      ·subst h2;rw[if_neg (by omega),if_pos (by omega),if_neg h1,if_pos rfl];simp
      ·rw[if_pos (by omega),if_neg h1,if_neg h2,hdg j (by omega) hj]
end Ev
end
