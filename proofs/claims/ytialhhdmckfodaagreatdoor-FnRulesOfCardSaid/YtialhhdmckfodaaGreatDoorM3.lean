/- Steps on the way to RowRulesOf: EvInts, EvTrim, Lay, F, TyBase, TyData, TyOf, TyLoops, X0, X1. -/
import Derived.Test.YtialhhdmckfodaaGreatDoorM2
import Derived.Sort.Row
import Derived.Sort.Grow
import Derived.Lib.SlicesCompact
import Derived.Shelf.Strings.SlTrimAscii
import Derived.Test.YtialhhdmckfodaaGreatDoorProg
import Derived.KernelRfl
import Derived.WalkKit
import Derived.Shelf.SlicesG.Clone
import Derived.Shelf.SlicesG.CompactI
import Derived.Shelf.SortM.Plain
import Derived.Shelf.SortM.SortNone
import Derived.Lib.Strings
set_option linter.unusedSectionVars false
set_option linter.unusedVariables false
set_option linter.unusedSimpArgs false
section
namespace Ev
open Go Go.Sort Go.RowKit
def qdg:List T->Option (List Int)
 |[]=>some []
 |x::r=>match x with
  |.int .i64 n=>(qdg r).map (n :: ·)
  |_=>none
def q8r(zs:List Int):List T:=zs.map (T.int .i64)
theorem qb7:∀zs:List Int,qdg (q8r zs)=some zs
 |[]=>rfl
 |z::zs=>by
  show(qdg (q8r zs)).map (z :: ·)=some (z::zs);rw[qb7 zs];rfl
theorem qfh:∀{cs:List T}{zs:List Int},qdg cs=some zs->cs=q8r zs
 |[],zs,h=>by
  have:some []=some zs:=h;cases this;rfl
 |x::r,zs,h=>by
  unfold qdg at h;split at h
  ·rename_i n;rw[gP]at h;obtain⟨zs',h1,rfl⟩:=h;rw[qfh h1];rfl
  ·cases h
theorem qj8{zs:List Int}{i:Nat}{x:T}(h:(q8r zs)[i]?=some x):x=.int .i64 zs[i]! := by
 unfold q8r at h;rw[gAC,gP]at h;obtain⟨n,hn,rfl⟩:=h;have:=gB.1 hn;obtain⟨hi,hn⟩:=this;rw[getElem!_pos zs i hi,hn]
theorem qq0{w:World}{g cap:Nat}{cur:Array Value}{e:TypeId}{zs:List Int}(hg:w.heap[g]?=some (.cells cur e (0,0)))(hcap:zs.length<=cap)(hmax:cap<=maxLen)(hcur:cur.size=cap)
 (hv:∀i,i<zs.length->cur[i]?=some (.int .i64 zs[i]!)):RO w (.sl 1 (q8r zs)) (.slice (some ⟨g,0,none⟩) zs.length cap) [g]:=by
 have hF:(List.range (q8r zs).length).flatMap (fun _:Nat=>([]:List Nat))=[]:=by
  simp
 have h:=RO.sl (w:=w) (sz:=1) (cells:=q8r zs) (g:=g) (len:=zs.length) (cap:=cap) (cur:=cur) (e:=e) (fun i=>.int .i64 zs[i]!) (fun _=>[]) (Nat.one_pos) hg
  (by simp[q8r]) hcap hmax (by rw[hcur,Nat.mul_one]) (fun i hi=>hv i (by simpa[q8r]using hi)) (fun i x hi=>by rw[qj8 hi];exact .int _ _) (by rw[hF];simp)
 rw[hF]at h;exact h
theorem qiu{w:World}{zs:List Int}{v:Value}{F:List Nat}(h:RO w (.sl 1 (q8r zs)) v F) :
 (zs=[]/\F=[]/\∃a,v=.slice a 0 0)\/∃g cap cur e,v=.slice (some ⟨g,0,none⟩) zs.length cap/\F=[g]/\w.heap[g]?=some (.cells cur e (0,0))/\zs.length<=cap/\cap<=maxLen/\cur.size=cap/\
  ∀i,i<zs.length->cur[i]?=some (.int .i64 zs[i]!):=by
 generalize hx:T.sl 1 (q8r zs)=x at h;cases h with
 |int=>cases hx
 |bool=>cases hx
 |str=>cases hx
 |hole=>cases hx
 |mp=>cases hx
 |nil hsz=>
  rename_i sz a;injection hx with h1 h2
  have:zs=[]:=by
   cases zs with
   |nil=>rfl
   |cons=>simp[q8r]at h2
  exact .inl ⟨this,rfl,_,rfl⟩
 |sl vs fs hsz hg hlen hcap hmax hcur hv hc hnd=>
  rename_i sz cells g len cap cur e;injection hx with h1 h2;subst h1;subst h2;have hl:len=zs.length:=by simpa[q8r]using hlen.symm
  subst hl
  have each:∀i,i<zs.length->vs i=.int .i64 zs[i]! /\ fs i=[]:=fun i hi=>by
   have hi':i<(q8r zs).length:=by simpa[q8r]using hi
   have h3:=hc i _ (gA hi');rw[qj8 (gA hi')]at h3;generalize vs i=u at h3;generalize fs i=G at h3;cases h3;exact⟨rfl,rfl⟩
  have hF:(List.range (q8r zs).length).flatMap fs=[]:=by
   rw[List.flatMap_eq_nil_iff];intro i hi;exact(each i (by simpa[q8r]using hi)).2
  rw[hF];exact .inr ⟨g,cap,cur,e,rfl,rfl,hg,hcap,hmax,by simpa using hcur,fun i hi=>by rw[hv i (by simpa[q8r]using hi),(each i hi).1]⟩
theorem qkl{w:World}{g:Nat}{cur:Array Value}{e:TypeId}{zs:List Int}(hg:w.heap[g]?=some (.cells cur e (0,0)))(hv:∀i,i<zs.length->cur[i]?=some (.int .i64 zs[i]!)) :
 Holds (Value.int .i64) w g 0 zs.toArray:=fun j hj=>by
 have hj':j<zs.length:=by simpa using hj
 refine⟨?_,?_⟩
 ·rw[gAJ,q48 hg,hv j hj'];simp[hj']
 ·simp[World.frozen?,hg]
theorem qmq{w:World}{g n:Nat}{cur:Array Value}{e:TypeId}{d:Array Int}{os:Array Obj}(hg:w.heap[g]?=some (.cells cur e (0,0))) :
 Kp (· ∈ [g]) w (grow (putRow (Value.int .i64) (Sort.ahead w n) g 0 d) os)/\
 (grow (putRow (Value.int .i64) (Sort.ahead w n) g 0 d) os).heap[g]?=some (.cells (putCells (Value.int .i64) 0 d cur) e (0,0)):=by
 have hlt:=qd3 hg;have hs:(putRow (Value.int .i64) (Sort.ahead w n) g 0 d).heap.size=w.heap.size:=by rw[size_putRow];rfl
 refine⟨⟨rfl,rfl,rfl,?_,fun b hb hn=>?_⟩,?_⟩
 ·show w.heap.size<=((putRow (Value.int .i64) (Sort.ahead w n) g 0 d).heap++os).size;rw[Array.size_append,hs];omega
 ·show((putRow (Value.int .i64) (Sort.ahead w n) g 0 d).heap++os)[b]?=_;rw[Array.getElem?_append_left (by rw[hs];exact hb)];have hne:g≠b:=fun e=>hn (by simp[e]);simp[putRow,mapBlock,Array.getElem?_modify,hne,Sort.ahead]
 ·show((putRow (Value.int .i64) (Sort.ahead w n) g 0 d).heap++os)[g]?=_;rw[Array.getElem?_append_left (by rw[hs];exact hlt)];simp[putRow,mapBlock,Array.getElem?_modify,Sort.ahead,hg,onCells]
theorem quc{d:Array Int}{cur:Array Value}{i:Nat}(hd:d.size<=cur.size)(hi:i<d.size):(putCells (Value.int .i64) 0 d cur)[i]?=some (.int .i64 d[i]!):=by
 have:i<cur.size:=by omega
 simp[putCells,Array.getElem?_mapIdx,this,hi]
def sortE:Env->List T->R:=fun _ args=>match args with
 |[.sl 1 cs]=>(qdg cs).bind fun zs=>bif decide (zs.length<4611686018427387904)then some (.tup [],[.sl 1 (q8r (zs.mergeSort fun x y=>decide (x<=y)))])else none
 |_=>none
theorem sort_sound{P:Program}{f:FuncId}{fn:Func}(hf:P.funcs[f]?=some fn)(hb:fn.body.isSome=true)(hname:(fn.name=="runtime.NumGoroutine")=false)
 (h1:∀(blk off cap:Nat)(zs:List Int)(w:World),Holds (Value.int .i64) w blk off zs.toArray->blk<w.heap.size->zs.length<4611686018427387904->
  Calls P f #[.slice (some ⟨blk,off,none⟩) zs.length cap] w fun e w'=>e=.returned (.tuple #[])/\∃n os,w'=grow (putRow (Value.int .i64) (Sort.ahead w n) blk off (zs.mergeSort fun x y=>decide (x<=y)).toArray) os)
 (h0:∀(p:Option Addr)(cap:Nat)(w:World),Calls P f #[.slice p 0 cap] w fun e w'=>e=.returned (.tuple #[])/\w'=w)
 {E:Env} {args:List T} {r:T×List T} (h:sortE E args=some r):Meets P ⟨some 0,.sl,false,false,false⟩ f args r:=by
 unfold sortE at h;split at h
 case h_2=>cases h
 rename_i cs;rw[gAE]at h;obtain⟨zs,hcs,h⟩:=h;replace h:=q1c h;obtain⟨hlen,h⟩:=h;have hlen:zs.length<4611686018427387904:=by simpa using hlen
 cases h;have:=qfh hcs;subst this;intro w I J vs F hp;obtain⟨x,v,F1,hx,hv,ha,hmore⟩:=hp.turned 0 rfl;obtain rfl:F=F1:=hmore.symm;have hx:T.sl 1 (q8r zs)=x:=by simpa using hx
 subst hx
 have hvs:vs = #[v]:=by
  have hl:vs.size=1:=hp.len;apply Array.ext
  ·rw[hl];rfl
  ·intro i h2 h3;have:i=0:=by rw[hl]at h2;omega
   subst this;have:=Array.getElem?_eq_some_iff.1 hv;obtain⟨_,h4⟩:=this;simpa using h4
 subst hvs;have hro:RO w (.sl 1 (q8r zs)) v F:=ha.2;refine qdx hf hb hname ?_;have hres:∀(w':World)(I' J':Nat->Prop),ResT w' I' J' false (.tup []) (.tuple #[]) []:=fun w' I' J'=>⟨#[],fun _=>[],rfl,rfl,by simp[ND,flat],rfl,by simp⟩;rcases qiu hro with⟨rfl,rfl,a,rfl⟩|⟨g,cap,cur,e,rfl,rfl,hg,hcap,hmax,hcur,hcells⟩
 ·refine Calls.mono (h0 a 0 w) ?_;rintro _ _ ⟨rfl,rfl⟩;refine⟨_,rfl,[],[],Kp.refl _ _,by simp,by simp,hres _ _ _,.inr (.inl ⟨0,_,_,rfl,rfl,rfl,hv,⟨_,_,rfl⟩,?_⟩)⟩;have:(([]:List Int).mergeSort fun x y=>decide (x<=y))=[]:=List.mergeSort_nil;rw[this];exact .nil Nat.one_pos
 ·refine Calls.mono (h1 g 0 cap zs w (qkl hg hcells) (qd3 hg) hlen) ?_;rintro _ _ ⟨rfl,n,os,rfl⟩;obtain⟨q1,q2⟩:=qmq (n:=n) (d:=(zs.mergeSort fun x y=>decide (x<=y)).toArray) (os:=os) hg;refine⟨_,rfl,[],[g],q1,fun b hb=>.inl (by simpa using hb),by simp,hres _ _ _,.inr (.inl ⟨0,_,_,rfl,rfl,rfl,hv,⟨_,_,rfl⟩,?_⟩)⟩;have hl:(zs.mergeSort fun x y=>decide (x<=y)).length=zs.length:=List.length_mergeSort _
  have h5:=qq0 (zs:=zs.mergeSort fun x y=>decide (x<=y)) (cap:=cap) q2 (by rw[hl];exact hcap) hmax (by simpa[putCells]using hcur) (fun i hi=>by
   rw[quc (by simp;omega) (by simpa using hi)];simp[hi])
  rw[hl]at h5;exact h5
def compactE:Env->List T->R:=fun _ args=>match args with
 |[.sl 1 cs]=>(qdg cs).bind fun zs=>bif decide (zs.length<4611686018427387904)then some (.sl 1 (q8r (Lib.compact zs)),[])else none
 |_=>none
theorem qhq(zs:List Int):(Lib.compact zs).length<=zs.length:=by
 unfold Lib.compact Lib.compactUpTo;rw[gAG];exact Nat.le_trans (List.length_filter_le _ _) (by simp)
theorem compact_sound{P:Program}{f:FuncId}{fn:Func}(hf:P.funcs[f]?=some fn)(hb:fn.body.isSome=true)(hname:(fn.name=="runtime.NumGoroutine")=false)
 (h1:∀(blk off cap:Nat)(zs:List Int)(w:World),Holds (Value.int .i64) w blk off zs.toArray->zs.length<=9223372036854775807->zs.length<=cap->
  Calls P f #[.slice (some ⟨blk,off,none⟩) zs.length cap] w fun e w'=>e=.returned (.slice (some ⟨blk,off,none⟩) (Lib.compact zs).length cap)/\
   ∃q,w'=putRow (Value.int .i64) (Sort.ahead w q) blk off (Lib.compact zs++List.replicate (zs.length-(Lib.compact zs).length) 0).toArray)
 (h0:∀(p:Option Addr)(cap:Nat)(w:World),Calls P f #[.slice p 0 cap] w fun e w'=>e=.returned (.slice p 0 cap)/\w'=w)
 {E:Env} {args:List T} {r:T×List T} (h:compactE E args=some r):Meets P ⟨some 0,.sl,true,true,false⟩ f args r:=by
 unfold compactE at h;split at h
 case h_2=>cases h
 rename_i cs;rw[gAE]at h;obtain⟨zs,hcs,h⟩:=h;replace h:=q1c h;obtain⟨hlen,h⟩:=h;have hlen:zs.length<4611686018427387904:=by simpa using hlen
 cases h;have:=qfh hcs;subst this;intro w I J vs F hp;obtain⟨x,v,F1,hx,hv,ha,hmore⟩:=hp.turned 0 rfl;obtain rfl:F=F1:=hmore.symm;have hx:T.sl 1 (q8r zs)=x:=by simpa using hx
 subst hx
 have hvs:vs = #[v]:=by
  have hl:vs.size=1:=hp.len;apply Array.ext
  ·rw[hl];rfl
  ·intro i h2 h3;have:i=0:=by rw[hl]at h2;omega
   subst this;have:=Array.getElem?_eq_some_iff.1 hv;obtain⟨_,h4⟩:=this;simpa using h4
 subst hvs;have hro:RO w (.sl 1 (q8r zs)) v F:=ha.2;refine qdx hf hb hname ?_;rcases qiu hro with⟨rfl,rfl,a,rfl⟩|⟨g,cap,cur,e,rfl,rfl,hg,hcap,hmax,hcur,hcells⟩
 ·refine Calls.mono (h0 a 0 w) ?_;rintro _ _ ⟨rfl,rfl⟩;refine⟨_,rfl,[],[],Kp.refl _ _,by simp,by simp,?_,.inr (.inr ⟨rfl,rfl,rfl⟩)⟩;exact RO.nil Nat.one_pos
 ·refine Calls.mono (h1 g 0 cap zs w (qkl hg hcells) (by omega) hcap) ?_;rintro _ _ ⟨rfl,n,rfl⟩;obtain⟨q1,q2⟩:=qmq (n:=n) (d:=(Lib.compact zs++List.replicate (zs.length-(Lib.compact zs).length) 0).toArray) (os := #[]) hg;rw[grow_empty]at q1 q2;refine⟨_,rfl,[g],[],q1,fun b hb=>.inl (by simpa using hb),by simp,?_,.inr (.inr ⟨rfl,rfl,rfl⟩)⟩;have hl:=qhq zs;have hds:(Lib.compact zs++List.replicate (zs.length-(Lib.compact zs).length) 0).length=zs.length:=by simp;omega
  exact qq0 (zs:=Lib.compact zs) (cap:=cap) q2 (by omega) hmax (by simpa[putCells]using hcur) (fun i hi=>by
   rw[quc (by rw[List.size_toArray,hds];omega) (by rw[List.size_toArray,hds];omega)];rw[getElem!_pos _ i (by rw[List.size_toArray,hds];omega),List.getElem_toArray,List.getElem_append_left hi,getElem!_pos _ i hi])
def cloneE:Env->List T->R:=fun _ args=>match args with
 |[.sl 1 cs]=>(qdg cs).bind fun zs=>bif decide (zs.length*8<=140737488355328)then some (.sl 1 (q8r zs),[])else none
 |_=>none
theorem clone_sound{P:Program}{f:FuncId}{fn:Func}{el:TypeId}(hf:P.funcs[f]?=some fn)(hb:fn.body.isSome=true)(hname:(fn.name=="runtime.NumGoroutine")=false)
 (h1:∀(b off n c:Nat)(zs:List Int)(w:World),n<=zs.length->n*8<=140737488355328->(∀j,j<zs.length->w.cell? ⟨b,off+j,none⟩=some (.int .i64 (zs.getD j 0)))->
  Calls P f #[.slice (some ⟨b,off,none⟩) n c] w fun e w'=>∃v',e=.returned v'/\w'.ownsRow w.heap.size el 1 v' n ((zs.take n).map (Value.int .i64))/\v' ≠ .slice none 0 0/\Below w.heap.size w w')
 (h00:∀(a:Addr)(c:Nat)(w:World),Calls P f #[.slice (some a) 0 c] w fun e w'=>∃v',e=.returned v'/\w'.ownsRow w.heap.size el 1 v' 0 []/\v' ≠ .slice none 0 0/\Below w.heap.size w w')
 (h0:∀(n c:Nat)(w:World),Calls P f #[.slice none n c] w fun e w'=>e=.returned (.slice none 0 0)/\w'=w)
 {E:Env} {args:List T} {r:T×List T} (h:cloneE E args=some r):Meets P ⟨none,.sl,true,false,false⟩ f args r:=by
 unfold cloneE at h;split at h
 case h_2=>cases h
 rename_i cs;rw[gAE]at h;obtain⟨zs,hcs,h⟩:=h;replace h:=q1c h;obtain⟨hbig,h⟩:=h;have hbig:zs.length*8<=140737488355328:=by simpa using hbig
 cases h;have:=qfh hcs;subst this;intro w I J vs F hp;obtain rfl:F=[]:=hp.none rfl;have hl:vs.size=1:=hp.len
 obtain⟨v,rfl⟩:∃v,vs = #[v]:=⟨vs[0],by
  apply Array.ext
  ·simp[hl]
  ·intro i h2 h3;have:i=0:=by rw[hl]at h2;omega
   subst this;rfl⟩
 have hv:=hp.vals 0 (.sl 1 (q8r zs)) v (fun h=>by cases h) (fun h=>by cases h) rfl rfl;have hrb:RB w I J (.sl 1 (q8r zs)) v:=hv.1;refine qdx hf hb hname ?_;have hil:(q8r zs).length=zs.length:=by simp[q8r]
 have fin:∀(v':Value)(w':World),w'.ownsRow w.heap.size el 1 v' zs.length (zs.map (Value.int .i64))->Below w.heap.size w w'->
  ∃Fr Fo,Done ⟨none,.sl,true,false,false⟩ w I J #[v] [] (.sl 1 (q8r zs),[]) v' w' Fr Fo:=fun v' w' ho hbel=>by
  have hkp:Kp (· ∈ ([]:List Nat)) w w':=⟨hbel.os,hbel.tape,hbel.output,hbel.size,fun b hb _=>hbel.block b hb⟩;obtain⟨_,⟨rfl,hn⟩|⟨g,cap,cur,rfl,hbase,hg,hcap,hcm,hcur,htake⟩⟩:=ho
  ·have:zs=[]:=gL hn;subst this;exact⟨[],[],hkp,by simp,by simp,RO.nil Nat.one_pos,.inl ⟨rfl,rfl,rfl⟩⟩
  ·refine⟨[g],[],hkp,fun b hb=>.inr (by simp at hb;omega),by simp,qq0 hg hcap hcm (by simpa using hcur) fun i hi=>?_,.inl ⟨rfl,rfl,rfl⟩⟩
   have h3:(zs.map (Value.int .i64))[i]?=cur.toList[i]?:=by
    rw[<- htake,gT,if_pos (by omega)]
   rw[gAC,gA hi]at h3;rw[getElem!_pos zs i hi,<- Array.getElem?_toList,<- h3];rfl
 generalize hx:T.sl 1 (q8r zs)=x at hrb;cases hrb with
 |sl us hs' hlen hcap ha hcs'=>
  rename_i sz' cells a len cap;injection hx with e1 e2;subst e1;subst e2;have hlen:zs.length=len:=by rw[hil,Nat.mul_one]at hlen;exact hlen
  subst hlen;by_cases h0c:zs=[]
  ·subst h0c;cases a with
   |none=>
    refine Calls.mono (h0 0 cap w) ?_;rintro _ _ ⟨rfl,rfl⟩;exact⟨_,rfl,[],[],Kp.refl _ _,by simp,by simp,RO.nil Nat.one_pos,.inl ⟨rfl,rfl,rfl⟩⟩
   |some a=>
    refine Calls.mono (h00 a cap w) ?_;rintro _ w' ⟨v',rfl,ho,_,hbel⟩;exact⟨v',rfl,fin v' w' ho hbel⟩
  ·obtain⟨b,o,rfl,_,hcell⟩:=ha (by intro h;apply h0c;cases zs with|nil=>rfl|cons=>simp[q8r]at h);refine Calls.mono (h1 b o zs.length cap zs w (gAI _) hbig fun j hj=>?_) ?_
   ·rw[hcell j (by rw[hil];exact hj)];have hj':j<(q8r zs).length:=by rw[hil];exact hj
    have h5:=hcs' j _ (gA hj');rw[qj8 (gA hj')]at h5;generalize us j=u at h5;cases h5;rw[getElem!_pos zs j hj,gI,gA hj];rfl
   ·rintro _ w' ⟨v',rfl,ho,_,hbel⟩;rw[List.take_length]at ho;exact⟨v',rfl,fin v' w' ho hbel⟩
 |_=>cases hx
end Ev
end
section
namespace Ev
open Go Go.WideShapes Go.RowKit Go.Proofs Go.Shelf
def trimE:Env->List T->R:=fun _ args=>match args with
 |[.str s,.str c]=>bif decide (s.size<=9223372036854775807)&&decide (c.size<4294967281)&&c.data.toList.all (fun b=>decide (b.toNat<128))
  then some (.str ⟨(Lib.trimS s.data.toList c.data.toList).toArray⟩,[])else none
 |_=>none
theorem trim_sound{P:Program}{ρ:Ren}(L:Lays.n160 P ρ)(h116:(P.info? (ρ.t 116)).map (fun i=>(i.zero,i.size))=some (some (.agg (Array.replicate 256 (.bool false))),256))
 {fn:Func} (hf:P.funcs[ρ.f 160]?=some fn) (hb:fn.body.isSome=true) (hname:(fn.name=="runtime.NumGoroutine")=false) {E:Env} {args:List T} {r:T×List T} (h:trimE E args=some r) :
 Meets P ⟨none,.sl,true,false,false⟩ (ρ.f 160) args r:=by
 unfold trimE at h;split at h
 case h_2=>cases h
 rename_i s c;cases hd:decide (s.size<=9223372036854775807)&&decide (c.size<4294967281)&&c.data.toList.all (fun b=>decide (b.toNat<128))with
 |false=>rw[hd]at h;cases h
 |true=>
  rw[hd]at h;cases h;simp only[gC,gS]at hd;refine qi9 (v:=.string ⟨(Lib.trimS s.data.toList c.data.toList).toArray⟩) hf hb hname (fun w=>.str _) (fun w I J=>Iff.rfl) fun w vs I J hl _ hv=>?_
  have h0:vs[0]?=some (.string s):=by
   have hlt:0<vs.size:=by rw[hl];simp
   have:=qqu (hv 0 (.str s) vs[0] rfl (by simp[hlt]));simp[hlt,this]
  have h1:vs[1]?=some (.string c):=by
   have hlt:1<vs.size:=by rw[hl];simp
   have:=qqu (hv 1 (.str c) vs[1] rfl (by simp[hlt]));simp[hlt,this]
  have hvs:vs = #[.string s,.string c]:=by
   apply Array.ext
   ·rw[hl];rfl
   ·intro i h2 h3;have:i<2:=by rw[hl]at h2;exact h2
    match i,this with
    |0,_=>simpa[h2]using h0
    |1,_=>simpa[h2]using h1
  rw[hvs];exact Any.strings_Trim_laid L h116 s c w hd.1.1 hd.1.2 (ascii_of_all hd.2)
end Ev
end
section
namespace Go.Proofs
open Go Go.Shelf
set_option maxRecDepth 1000000
def Tryz.laysLaysn160_ren:Go.Shelf.Ren:=⟨fun|160=>202|232=>238|231=>237|227=>239|234=>241|233=>240|236=>243|235=>242|228=>260|271=>263|151=>262|197=>261|120=>282|152=>281|260=>280|137=>291|119=>292|224=>293|225=>294|217=>301|266=>304|n=>n,fun|9=>9|4=>4|3=>3|5=>5|117=>273|116=>272|0=>0|124=>276|21=>21|105=>294|46=>182|119=>320|139=>323|138=>322|n=>n,fun|3=>1|4=>2|n=>n⟩
theorem Tryz.laysLaysn160:Go.Proofs.Lays.n160 Tryz.prog Tryz.laysLaysn160_ren where
 mixed:=by kernel_rfl
 f119:=Tryz.func292.trans (congrArg some (by kernel_rfl))
 f120:=Tryz.func282.trans (congrArg some (by kernel_rfl))
 f137:=Tryz.func291.trans (congrArg some (by kernel_rfl))
 f151:=Tryz.func262.trans (congrArg some (by kernel_rfl))
 f152:=Tryz.func281.trans (congrArg some (by kernel_rfl))
 f160:=Tryz.func202.trans (congrArg some (by kernel_rfl))
 f197:=Tryz.func261.trans (congrArg some (by kernel_rfl))
 f217:=Tryz.func301.trans (congrArg some (by kernel_rfl))
 f224:=Tryz.func293.trans (congrArg some (by kernel_rfl))
 f225:=Tryz.func294.trans (congrArg some (by kernel_rfl))
 f227:=Tryz.func239.trans (congrArg some (by kernel_rfl))
 f228:=Tryz.func260.trans (congrArg some (by kernel_rfl))
 f231:=Tryz.func237.trans (congrArg some (by kernel_rfl))
 f232:=Tryz.func238.trans (congrArg some (by kernel_rfl))
 f233:=Tryz.func240.trans (congrArg some (by kernel_rfl))
 f234:=Tryz.func241.trans (congrArg some (by kernel_rfl))
 f235:=Tryz.func242.trans (congrArg some (by kernel_rfl))
 f236:=Tryz.func243.trans (congrArg some (by kernel_rfl))
 f260:=Tryz.func280.trans (congrArg some (by kernel_rfl))
 f266:=Tryz.func304.trans (congrArg some (by kernel_rfl))
 f271:=Tryz.func263.trans (congrArg some (by kernel_rfl))
 t0:=Tryz.underlying0
 a0:=Tryz.isAgg0
 z0:=Tryz.sizeOf0
 v0:=Tryz.zeroValue0
 t3:=Tryz.underlying3
 a3:=Tryz.isAgg3
 z3:=Tryz.sizeOf3
 v3:=Tryz.zeroValue3
 t4:=Tryz.underlying4
 a4:=Tryz.isAgg4
 z4:=Tryz.sizeOf4
 v4:=Tryz.zeroValue4
 t5:=Tryz.underlying5
 a5:=Tryz.isAgg5
 z5:=Tryz.sizeOf5
 v5:=Tryz.zeroValue5
 t9:=Tryz.underlying9
 a9:=Tryz.isAgg9
 z9:=Tryz.sizeOf9
 v9:=Tryz.zeroValue9
 t21:=Tryz.underlying21
 a21:=Tryz.isAgg21
 z21:=Tryz.sizeOf21
 v21:=Tryz.zeroValue21
 t46:=Tryz.underlying182
 a46:=Tryz.isAgg182
 z46:=Tryz.sizeOf182
 v46:=Tryz.zeroValue182
 t105:=Tryz.underlying294
 a105:=Tryz.isAgg294
 z105:=Tryz.sizeOf294
 v105:=Tryz.zeroValue294
 t116:=Tryz.underlying272
 a116:=Tryz.isAgg272
 z116:=Tryz.sizeOf272
 t117:=Tryz.underlying273
 a117:=Tryz.isAgg273
 z117:=Tryz.sizeOf273
 v117:=Tryz.zeroValue273
 t119:=Tryz.underlying320
 a119:=Tryz.isAgg320
 z119:=Tryz.sizeOf320
 t124:=Tryz.underlying276
 a124:=Tryz.isAgg276
 z124:=Tryz.sizeOf276
 v124:=Tryz.zeroValue276
 t138:=Tryz.underlying322
 a138:=Tryz.isAgg322
 z138:=Tryz.sizeOf322
 v138:=Tryz.zeroValue322
 t139:=Tryz.underlying323
 a139:=Tryz.isAgg323
 z139:=Tryz.sizeOf323
 v139:=Tryz.zeroValue323
 g3:=by kernel_rfl
 g4:=by kernel_rfl
theorem qit:∀{E:Ev.Env}(args:List Ev.T)(r:Ev.T×List Ev.T),Ev.trimE E args=some r->Ev.Meets Tryz.prog ⟨none,.sl,true,false,false⟩ 202 args r:=
 fun _ _ h=>Ev.trim_sound Tryz.laysLaysn160 (by kernel_rfl) Tryz.func202 (by kernel_rfl) (by kernel_rfl) h
def Tryz.laysSlLaysMn5_ren:Go.Shelf.Ren:=⟨fun|5=>205|8=>143|7=>244|19=>195|20=>196|10=>264|11=>265|12=>266|13=>267|14=>268|15=>269|16=>270|17=>271|18=>272|30=>283|31=>228|32=>229|33=>284|34=>285|35=>286|40=>295|n=>n,fun|23=>27|25=>2|3=>3|32=>182|22=>27|0=>0|44=>236|46=>238|4=>4|36=>229|35=>228|41=>233|5=>5|9=>9|53=>261|57=>265|63=>290|64=>291|n=>n,fun|n=>n⟩
theorem Tryz.laysSlLaysMn5:Go.Proofs.SlLaysM.n5 Tryz.prog Tryz.laysSlLaysMn5_ren where
 mixed:=by kernel_rfl
 f5:=⟨Tryz.f205.name,by decide,Tryz.func205.trans (congrArg some (by kernel_rfl))⟩
 f7:=⟨Tryz.f244.name,by decide,Tryz.func244.trans (congrArg some (by kernel_rfl))⟩
 f8:=Tryz.func143.trans (congrArg some (by kernel_rfl))
 f10:=⟨Tryz.f264.name,by decide,Tryz.func264.trans (congrArg some (by kernel_rfl))⟩
 f11:=⟨Tryz.f265.name,by decide,Tryz.func265.trans (congrArg some (by kernel_rfl))⟩
 f12:=⟨Tryz.f266.name,by decide,Tryz.func266.trans (congrArg some (by kernel_rfl))⟩
 f13:=⟨Tryz.f267.name,by decide,Tryz.func267.trans (congrArg some (by kernel_rfl))⟩
 f14:=⟨Tryz.f268.name,by decide,Tryz.func268.trans (congrArg some (by kernel_rfl))⟩
 f15:=⟨Tryz.f269.name,by decide,Tryz.func269.trans (congrArg some (by kernel_rfl))⟩
 f16:=⟨Tryz.f270.name,by decide,Tryz.func270.trans (congrArg some (by kernel_rfl))⟩
 f17:=⟨Tryz.f271.name,by decide,Tryz.func271.trans (congrArg some (by kernel_rfl))⟩
 f18:=⟨Tryz.f272.name,by decide,Tryz.func272.trans (congrArg some (by kernel_rfl))⟩
 f19:=Tryz.func195.trans (congrArg some (by kernel_rfl))
 f20:=Tryz.func196.trans (congrArg some (by kernel_rfl))
 f30:=⟨Tryz.f283.name,by decide,Tryz.func283.trans (congrArg some (by kernel_rfl))⟩
 f31:=Tryz.func228.trans (congrArg some (by kernel_rfl))
 f32:=Tryz.func229.trans (congrArg some (by kernel_rfl))
 f33:=⟨Tryz.f284.name,by decide,Tryz.func284.trans (congrArg some (by kernel_rfl))⟩
 f34:=⟨Tryz.f285.name,by decide,Tryz.func285.trans (congrArg some (by kernel_rfl))⟩
 f35:=⟨Tryz.f286.name,by decide,Tryz.func286.trans (congrArg some (by kernel_rfl))⟩
 f40:=⟨Tryz.f295.name,by decide,Tryz.func295.trans (congrArg some (by kernel_rfl))⟩
 t0:=Tryz.underlying0
 a0:=Tryz.isAgg0
 z0:=Tryz.sizeOf0
 v0:=Tryz.zeroValue0
 t3:=Tryz.underlying3
 a3:=Tryz.isAgg3
 z3:=Tryz.sizeOf3
 v3:=Tryz.zeroValue3
 t4:=Tryz.underlying4
 a4:=Tryz.isAgg4
 z4:=Tryz.sizeOf4
 v4:=Tryz.zeroValue4
 t5:=Tryz.underlying5
 a5:=Tryz.isAgg5
 z5:=Tryz.sizeOf5
 v5:=Tryz.zeroValue5
 t9:=Tryz.underlying9
 a9:=Tryz.isAgg9
 z9:=Tryz.sizeOf9
 v9:=Tryz.zeroValue9
 t22:=Tryz.underlying27
 a22:=Tryz.isAgg27
 z22:=Tryz.sizeOf27
 v22:=Tryz.zeroValue27
 t23:=Tryz.underlying27
 a23:=Tryz.isAgg27
 z23:=Tryz.sizeOf27
 v23:=Tryz.zeroValue27
 t25:=Tryz.underlying2
 a25:=Tryz.isAgg2
 z25:=Tryz.sizeOf2
 v25:=Tryz.zeroValue2
 t32:=Tryz.underlying182
 a32:=Tryz.isAgg182
 z32:=Tryz.sizeOf182
 v32:=Tryz.zeroValue182
 t35:=Tryz.underlying228
 a35:=Tryz.isAgg228
 z35:=Tryz.sizeOf228
 v35:=Tryz.zeroValue228
 t36:=Tryz.underlying229
 a36:=Tryz.isAgg229
 z36:=Tryz.sizeOf229
 v36:=Tryz.zeroValue229
 t41:=Tryz.underlying233
 a41:=Tryz.isAgg233
 z41:=Tryz.sizeOf233
 v41:=Tryz.zeroValue233
 t44:=Tryz.underlying236
 a44:=Tryz.isAgg236
 z44:=Tryz.sizeOf236
 v44:=Tryz.zeroValue236
 t46:=Tryz.underlying238
 a46:=Tryz.isAgg238
 z46:=Tryz.sizeOf238
 v46:=Tryz.zeroValue238
 t53:=Tryz.underlying261
 a53:=Tryz.isAgg261
 z53:=Tryz.sizeOf261
 v53:=Tryz.zeroValue261
 t57:=Tryz.underlying265
 a57:=Tryz.isAgg265
 z57:=Tryz.sizeOf265
 v57:=Tryz.zeroValue265
 t63:=Tryz.underlying290
 a63:=Tryz.isAgg290
 z63:=Tryz.sizeOf290
 v63:=Tryz.zeroValue290
 t64:=Tryz.underlying291
 a64:=Tryz.isAgg291
 z64:=Tryz.sizeOf291
 v64:=Tryz.zeroValue291
theorem qiy:∀{E:Ev.Env}(args:List Ev.T)(r:Ev.T×List Ev.T),Ev.sortE E args=some r->Ev.Meets Tryz.prog ⟨some 0,.sl,false,false,false⟩ 205 args r:=
 fun _ _ h=>Ev.sort_sound Tryz.func205 (by kernel_rfl) (by kernel_rfl) (fun blk off cap zs w h1 h2 h3=>AnyM.slices_Sort_int Tryz.laysSlLaysMn5 blk off cap zs w h1 h2 h3) (fun p cap w=>AnyM.slices_Sort_int_none Tryz.laysSlLaysMn5 p cap w) h
def Tryz.laysSlLaysNn43_ren:Go.Shelf.Ren:=⟨fun|43=>206|n=>n,fun|22=>27|23=>2|3=>3|4=>4|0=>0|n=>n,fun|n=>n⟩
theorem Tryz.laysSlLaysNn43:Go.Proofs.SlLaysN.n43 Tryz.prog Tryz.laysSlLaysNn43_ren where
 mixed:=by kernel_rfl
 f43:=⟨Tryz.f206.name,by decide,Tryz.func206.trans (congrArg some (by kernel_rfl))⟩
 t0:=Tryz.underlying0
 a0:=Tryz.isAgg0
 z0:=Tryz.sizeOf0
 v0:=Tryz.zeroValue0
 t3:=Tryz.underlying3
 a3:=Tryz.isAgg3
 z3:=Tryz.sizeOf3
 v3:=Tryz.zeroValue3
 t4:=Tryz.underlying4
 a4:=Tryz.isAgg4
 z4:=Tryz.sizeOf4
 v4:=Tryz.zeroValue4
 t22:=Tryz.underlying27
 a22:=Tryz.isAgg27
 z22:=Tryz.sizeOf27
 v22:=Tryz.zeroValue27
 t23:=Tryz.underlying2
 a23:=Tryz.isAgg2
 z23:=Tryz.sizeOf2
 v23:=Tryz.zeroValue2
 i23:=by kernel_rfl
theorem qfa:∀{E:Ev.Env}(args:List Ev.T)(r:Ev.T×List Ev.T),Ev.compactE E args=some r->Ev.Meets Tryz.prog ⟨some 0,.sl,true,true,false⟩ 206 args r:=
 fun _ _ h=>Ev.compact_sound Tryz.func206 (by kernel_rfl) (by kernel_rfl) (fun blk off cap zs w h1 h2 h3=>AnyG.slices_Compact_int Tryz.laysSlLaysNn43 blk off cap zs w h1 h2 h3) (fun p cap w=>AnyG.slices_Compact_int_empty Tryz.laysSlLaysNn43 p cap w) h
def Tryz.laysSlLaysNn41_ren:Go.Shelf.Ren:=⟨fun|41=>38|n=>n,fun|22=>27|23=>2|4=>4|n=>n,fun|n=>n⟩
theorem Tryz.laysSlLaysNn41:Go.Proofs.SlLaysN.n41 Tryz.prog Tryz.laysSlLaysNn41_ren where
 mixed:=by kernel_rfl
 f41:=⟨Tryz.f38.name,by decide,Tryz.func38.trans (congrArg some (by kernel_rfl))⟩
 t4:=Tryz.underlying4
 a4:=Tryz.isAgg4
 z4:=Tryz.sizeOf4
 v4:=Tryz.zeroValue4
 t22:=Tryz.underlying27
 a22:=Tryz.isAgg27
 z22:=Tryz.sizeOf27
 v22:=Tryz.zeroValue27
 t23:=Tryz.underlying2
 a23:=Tryz.isAgg2
 z23:=Tryz.sizeOf2
 v23:=Tryz.zeroValue2
 i23:=by kernel_rfl
theorem qgs:∀{E:Ev.Env}(args:List Ev.T)(r:Ev.T×List Ev.T),Ev.cloneE E args=some r->Ev.Meets Tryz.prog ⟨none,.sl,true,false,false⟩ 38 args r:=
 fun _ _ h=>Ev.clone_sound Tryz.func38 (by kernel_rfl) (by kernel_rfl) (fun b off n c zs w h1 h2 h3=>AnyG.slices_Clone_int Tryz.laysSlLaysNn41 b off n c zs w h1 h2 h3) (fun a c w=>AnyG.slices_Clone_int_zero Tryz.laysSlLaysNn41 a c w) (fun n c w=>AnyG.slices_Clone_int_nil Tryz.laysSlLaysNn41 n c w) h
def Tryz.laysEvInsLn22_ren:Go.Shelf.Ren:=⟨fun|22=>287|29=>296|30=>297|36=>302|17=>305|n=>n,fun|24=>27|9=>2|3=>3|4=>4|0=>0|n=>n,fun|n=>n⟩
theorem Tryz.laysEvInsLn22:Ev.InsL.n22 Tryz.prog Tryz.laysEvInsLn22_ren where
 mixed:=by kernel_rfl
 f22:=⟨Tryz.f287.name,by decide,Tryz.func287.trans (congrArg some (by kernel_rfl))⟩
 t0:=Tryz.underlying0
 a0:=Tryz.isAgg0
 z0:=Tryz.sizeOf0
 v0:=Tryz.zeroValue0
 t3:=Tryz.underlying3
 a3:=Tryz.isAgg3
 z3:=Tryz.sizeOf3
 v3:=Tryz.zeroValue3
 t4:=Tryz.underlying4
 a4:=Tryz.isAgg4
 z4:=Tryz.sizeOf4
 v4:=Tryz.zeroValue4
 z9:=Tryz.sizeOf2
 t24:=Tryz.underlying27
 a24:=Tryz.isAgg27
 z24:=Tryz.sizeOf27
 v24:=Tryz.zeroValue27
theorem qfx:∀{E:Ev.Env}(args:List Ev.T)(r:Ev.T×List Ev.T),Ev.insE 8 E args=some r->Ev.Meets Tryz.prog ⟨some 0,.two 2,true,true,false⟩ 287 args r:=
 fun _ _ h=>Ev.insert_sound Tryz.laysEvInsLn22 ⟨_,Tryz.func296,by kernel_rfl,by kernel_rfl,by kernel_rfl,by kernel_rfl⟩ (z:=.int .i64 0) (by kernel_rfl) rfl (by decide) Tryz.func287 (by kernel_rfl) (by kernel_rfl) h
def Tryz.laysEvInsLn22l_ren:Go.Shelf.Ren:=⟨fun|22=>288|29=>298|30=>299|36=>303|17=>306|n=>n,fun|24=>62|9=>27|3=>3|4=>4|0=>0|n=>n,fun|n=>n⟩
theorem Tryz.laysEvInsLn22l:Ev.InsL.n22 Tryz.prog Tryz.laysEvInsLn22l_ren where
 mixed:=by kernel_rfl
 f22:=⟨Tryz.f288.name,by decide,Tryz.func288.trans (congrArg some (by kernel_rfl))⟩
 t0:=Tryz.underlying0
 a0:=Tryz.isAgg0
 z0:=Tryz.sizeOf0
 v0:=Tryz.zeroValue0
 t3:=Tryz.underlying3
 a3:=Tryz.isAgg3
 z3:=Tryz.sizeOf3
 v3:=Tryz.zeroValue3
 t4:=Tryz.underlying4
 a4:=Tryz.isAgg4
 z4:=Tryz.sizeOf4
 v4:=Tryz.zeroValue4
 z9:=Tryz.sizeOf27
 t24:=Tryz.underlying62
 a24:=Tryz.isAgg62
 z24:=Tryz.sizeOf62
 v24:=Tryz.zeroValue62
theorem qeq:∀{E:Ev.Env}(args:List Ev.T)(r:Ev.T×List Ev.T),Ev.insE 24 E args=some r->Ev.Meets Tryz.prog ⟨some 0,.two 2,true,true,false⟩ 288 args r:=
 fun _ _ h=>Ev.insert_sound Tryz.laysEvInsLn22l ⟨_,Tryz.func298,by kernel_rfl,by kernel_rfl,by kernel_rfl,by kernel_rfl⟩ (z:=.slice none 0 0) (by kernel_rfl) rfl (by decide) Tryz.func288 (by kernel_rfl) (by kernel_rfl) h
theorem qlu:∀(a b:Value)(x y:ByteArray)(w:World),(Extern.Bytes.bytesOf a).run Tryz.prog w=.ok x w->(Extern.Bytes.bytesOf b).run Tryz.prog w=.ok y w->
 Calls Tryz.prog 32 #[a,b] w fun e w'=>e=.returned (.int .i64 (Lib.compareBytes x.data.toList y.data.toList))/\w'=w:=by
 intro a b x y w ha hb
 go_enter Tryz.func32,Tryz.ntmps32
 go_wp2
 rw[run_callFunc_extern Tryz.func91 (by kernel_rfl) (by kernel_rfl) (by kernel_rfl) (e:=Extern.BytealgCompare.compare) (by kernel_rfl),Ev.entry_run ha hb];simp only[Result.andThen];rw[Oper.upon_value]
 go_wp2
 go_ret
 exact⟨rfl,rfl⟩
theorem qfi:∀{E:Ev.Env}(args:List Ev.T)(r:Ev.T×List Ev.T),Ev.compareE E args=some r->Ev.Meets Tryz.prog ⟨none,.sl,true,false,false⟩ 32 args r:=
 fun _ _ h=>Ev.compare_sound Tryz.func32 (by kernel_rfl) (by kernel_rfl) qlu h
end Go.Proofs
end
section
open Go Go.Proofs
set_option maxRecDepth 100000
namespace Ev
abbrev F.q0j:FuncId:=3
abbrev F.q97:FuncId:=5
abbrev F.q5u:FuncId:=6
abbrev F.q7h:FuncId:=7
abbrev F.q07:FuncId:=8
abbrev F.q2z:FuncId:=9
abbrev F.q7y:FuncId:=10
abbrev F.q93:FuncId:=11
abbrev F.q14:FuncId:=12
abbrev F.q5q:FuncId:=13
abbrev F.q4k:FuncId:=24
abbrev F.q3r:FuncId:=25
abbrev F.q54:FuncId:=26
abbrev F.q76:FuncId:=27
abbrev F.q59:FuncId:=28
abbrev F.q1q:FuncId:=29
abbrev F.q2r:FuncId:=30
abbrev F.q1x:FuncId:=31
abbrev F.q8a:FuncId:=32
abbrev F.q4v:FuncId:=33
abbrev F.q27:FuncId:=34
abbrev F.q67:FuncId:=35
abbrev F.q1g:FuncId:=36
abbrev F.q0x:FuncId:=37
abbrev F.q2c:FuncId:=38
abbrev F.q1a:FuncId:=39
abbrev F.q73:FuncId:=40
abbrev F.q7b:FuncId:=41
abbrev F.q7j:FuncId:=51
abbrev F.q19:FuncId:=54
abbrev F.q45:FuncId:=55
abbrev F.q3u:FuncId:=56
abbrev F.q1n:FuncId:=57
abbrev F.q3l:FuncId:=63
abbrev F.q0t:FuncId:=65
abbrev F.q0o:FuncId:=66
abbrev F.q3t:FuncId:=67
abbrev F.q8y:FuncId:=68
abbrev F.q6m:FuncId:=69
abbrev F.q5j:FuncId:=70
abbrev F.q7i:FuncId:=72
abbrev F.q1r:FuncId:=73
abbrev F.q1f:FuncId:=74
abbrev F.q6w:FuncId:=75
abbrev F.q68:FuncId:=76
abbrev F.q28:FuncId:=77
abbrev F.q17:FuncId:=78
abbrev F.q4q:FuncId:=79
abbrev F.q4d:FuncId:=80
abbrev F.q0w:FuncId:=81
abbrev F.q3k:FuncId:=82
abbrev F.q7l:FuncId:=83
abbrev F.q7q:FuncId:=84
abbrev F.q33:FuncId:=85
abbrev F.q02:FuncId:=86
abbrev F.q0m:FuncId:=87
abbrev F.q2g:FuncId:=88
abbrev F.q75:FuncId:=89
abbrev F.qa6:FuncId:=90
abbrev F.q08:FuncId:=92
abbrev F.q21:FuncId:=93
abbrev F.q4i:FuncId:=94
abbrev F.q9f:FuncId:=95
abbrev F.q3d:FuncId:=96
abbrev F.q2n:FuncId:=97
abbrev F.q4a:FuncId:=98
abbrev F.q65:FuncId:=99
abbrev F.q1p:FuncId:=100
abbrev F.q5r:FuncId:=101
abbrev F.q4e:FuncId:=102
abbrev F.q9j:FuncId:=103
abbrev F.q0u:FuncId:=104
abbrev F.q5d:FuncId:=105
abbrev F.q1w:FuncId:=113
abbrev F.q9o:FuncId:=115
abbrev F.q30:FuncId:=116
abbrev F.q5t:FuncId:=118
abbrev F.q52:FuncId:=119
abbrev F.q2b:FuncId:=120
abbrev F.q8w:FuncId:=121
abbrev F.q0h:FuncId:=122
abbrev F.q9e:FuncId:=123
abbrev F.q2q:FuncId:=124
abbrev F.q2u:FuncId:=125
abbrev F.q7s:FuncId:=126
abbrev F.q1o:FuncId:=128
abbrev F.q5p:FuncId:=130
abbrev F.q2e:FuncId:=131
abbrev F.q31:FuncId:=133
abbrev F.q2p:FuncId:=134
abbrev F.q83:FuncId:=135
abbrev F.q1h:FuncId:=136
abbrev F.q5x:FuncId:=137
abbrev F.q3f:FuncId:=138
abbrev F.q2l:FuncId:=139
abbrev F.q1u:FuncId:=140
abbrev F.q40:FuncId:=141
abbrev F.q1y:FuncId:=142
abbrev F.q9w:FuncId:=143
abbrev F.q3j:FuncId:=144
abbrev F.q3a:FuncId:=145
abbrev F.q63:FuncId:=146
abbrev F.q66:FuncId:=147
abbrev F.q10:FuncId:=148
abbrev F.q2m:FuncId:=149
abbrev F.q9h:FuncId:=150
abbrev F.q6j:FuncId:=151
abbrev F.q77:FuncId:=152
abbrev F.q3m:FuncId:=153
abbrev F.q0l:FuncId:=154
abbrev F.q7e:FuncId:=155
abbrev F.q0f:FuncId:=156
abbrev F.q11:FuncId:=157
abbrev F.q3q:FuncId:=158
abbrev F.q0e:FuncId:=159
abbrev F.q55:FuncId:=160
abbrev F.q8e:FuncId:=161
abbrev F.q4c:FuncId:=162
abbrev F.q9l:FuncId:=163
abbrev F.q5z:FuncId:=168
abbrev F.q0y:FuncId:=170
abbrev F.q32:FuncId:=173
abbrev F.q16:FuncId:=175
abbrev F.q1d:FuncId:=176
abbrev F.q6i:FuncId:=179
abbrev F.q24:FuncId:=180
abbrev F.q6s:FuncId:=182
abbrev F.q35:FuncId:=183
abbrev F.q8x:FuncId:=184
abbrev F.q84:FuncId:=185
abbrev F.q01:FuncId:=186
abbrev F.q1j:FuncId:=187
abbrev F.q1z:FuncId:=196
abbrev F.q70:FuncId:=197
abbrev F.q1m:FuncId:=198
abbrev F.q8f:FuncId:=199
abbrev F.q56:FuncId:=200
abbrev F.q0q:FuncId:=201
abbrev F.qbb:FuncId:=202
abbrev F.q25:FuncId:=203
abbrev F.q4x:FuncId:=204
abbrev F.q8u:FuncId:=205
abbrev F.q7d:FuncId:=206
abbrev F.q7o:FuncId:=207
abbrev F.q9k:FuncId:=208
abbrev F.q5h:FuncId:=209
abbrev F.q22:FuncId:=211
abbrev F.q1e:FuncId:=212
abbrev F.q7u:FuncId:=213
abbrev F.q39:FuncId:=214
abbrev F.q2v:FuncId:=217
abbrev F.q3e:FuncId:=218
abbrev F.q6r:FuncId:=219
abbrev F.q1v:FuncId:=220
abbrev F.q18:FuncId:=221
abbrev F.q85:FuncId:=222
abbrev F.q2d:FuncId:=223
abbrev F.q12:FuncId:=224
abbrev F.q0z:FuncId:=225
abbrev F.q4y:FuncId:=226
abbrev F.q2t:FuncId:=232
abbrev F.qbz:FuncId:=233
abbrev F.q9m:FuncId:=234
abbrev F.q20:FuncId:=235
abbrev F.q7g:FuncId:=236
abbrev F.q2h:FuncId:=245
abbrev F.q29:FuncId:=246
abbrev F.q0i:FuncId:=247
abbrev F.q2a:FuncId:=249
abbrev F.q1t:FuncId:=250
abbrev F.q6o:FuncId:=251
abbrev F.q5o:FuncId:=253
abbrev F.q4w:FuncId:=254
abbrev F.q88:FuncId:=255
abbrev F.q6n:FuncId:=256
abbrev F.q1i:FuncId:=257
abbrev F.q5f:FuncId:=259
abbrev F.q15:FuncId:=273
abbrev F.q2j:FuncId:=274
abbrev F.q3b:FuncId:=275
abbrev F.q34:FuncId:=278
abbrev F.q7p:FuncId:=279
abbrev F.q6k:FuncId:=287
abbrev F.q6b:FuncId:=288
abbrev F.q0r:FuncId:=289
abbrev F.q2w:FuncId:=290
abbrev F.q2k:FuncId:=300
noncomputable abbrev prog:Program:=Tryz.prog
def A:q7t:=fun f=>match f with
 |6=>⟨none,.sl,false,false,false⟩
 |24=>⟨none,.sl,false,false,false⟩
 |40=>⟨(some 0),.ptr [false,true,true,true,true,true,false,false],true,false,false⟩
 |41=>⟨(some 0),.ptr [false,true,true,true,true,true,false,false],true,false,false⟩
 |52=>⟨(some 0),.src,true,false,false⟩
 |53=>⟨(some 0),.src,true,false,false⟩
 |54=>⟨(some 0),.src,true,false,false⟩
 |55=>⟨(some 0),.src,true,false,false⟩
 |56=>⟨(some 0),.src,true,false,false⟩
 |62=>⟨(some 0),.src,true,false,false⟩
 |67=>⟨none,.sl,false,false,false⟩
 |68=>⟨(some 0),.sl,true,true,false⟩
 |77=>⟨none,.sl,false,false,false⟩
 |81=>⟨none,.sl,false,false,false⟩
 |84=>⟨(some 0),.sl,true,false,false⟩
 |103=>⟨(some 0),.ptr [false,true,true,true,true,true,false,false],true,false,false⟩
 |115=>⟨(some 0),.src,true,false,false⟩
 |116=>⟨(some 0),.src,true,false,false⟩
 |117=>⟨(some 0),.src,true,false,false⟩
 |118=>⟨(some 0),.src,false,false,false⟩
 |119=>⟨(some 0),.src,true,false,false⟩
 |122=>⟨(some 0),.src,true,false,false⟩
 |129=>⟨(some 0),.src,true,false,false⟩
 |130=>⟨none,.sl,false,false,true⟩
 |133=>⟨none,.sl,false,false,true⟩
 |134=>⟨(some 0),.src,true,false,false⟩
 |135=>⟨(some 0),.both 2,false,false,false⟩
 |136=>⟨(some 0),.src,true,false,false⟩
 |138=>⟨none,.sl,false,false,false⟩
 |141=>⟨(some 0),.ptr [false,false,false,false,true],true,false,false⟩
 |142=>⟨(some 0),.sl,true,false,false⟩
 |175=>⟨(some 0),.src,true,false,false⟩
 |176=>⟨(some 0),.src,true,false,false⟩
 |177=>⟨(some 0),.src,true,false,false⟩
 |179=>⟨(some 0),.src,true,false,false⟩
 |185=>⟨(some 1),.ptr [true,true,true,true,true,false],true,false,false⟩
 |186=>⟨(some 0),.ptr [false,false,false,false,true],true,false,false⟩
 |187=>⟨(some 0),.sl,true,false,false⟩
 |188=>⟨(some 0),.sl,true,false,false⟩
 |189=>⟨(some 0),.sl,true,false,false⟩
 |190=>⟨(some 0),.sl,true,false,false⟩
 |191=>⟨(some 0),.sl,true,false,false⟩
 |192=>⟨(some 0),.sl,true,false,false⟩
 |193=>⟨(some 0),.sl,true,false,false⟩
 |194=>⟨(some 0),.sl,true,false,false⟩
 |205=>⟨(some 0),.sl,false,false,false⟩
 |206=>⟨(some 0),.sl,true,true,false⟩
 |217=>⟨(some 0),.src,true,false,false⟩
 |221=>⟨(some 1),.ptr [true,true,true,true,true,false],true,false,false⟩
 |222=>⟨(some 1),.ptr [true,true,true,true,true,false],true,false,false⟩
 |223=>⟨(some 1),.ptr [true,true,true,true,true,false],true,false,false⟩
 |224=>⟨(some 1),.ptr [true,true,true,true,true,false],true,false,false⟩
 |226=>⟨(some 0),.ptr [false,false,false,false,true],true,false,false⟩
 |227=>⟨(some 0),.sl,true,false,false⟩
 |230=>⟨(some 0),.sl,true,false,false⟩
 |231=>⟨(some 0),.sl,true,false,false⟩
 |254=>⟨(some 1),.ptr [true,true,true,true,true,false],true,false,false⟩
 |256=>⟨(some 0),.ptr [true,true,true,true,true,false],true,false,false⟩
 |257=>⟨(some 1),.ptr [true,true,true,true,true,false],true,false,false⟩
 |258=>⟨(some 0),.sl,true,false,false⟩
 |273=>⟨(some 0),.ptr [true,true],true,false,false⟩
 |276=>⟨(some 1),.ptr [true,true,true,true,true,false],true,false,false⟩
 |277=>⟨none,.sl,false,false,false⟩
 |287=>⟨(some 0),.two 2,true,true,false⟩
 |288=>⟨(some 0),.two 2,true,true,false⟩
 |_=>⟨none,.sl,true,false,false⟩
def H:FuncId->Hints:=fun f=>match f with
 |3=>⟨fun b=>look [] [(0,[.keepT [3,4,5,6],.keepO [192,256,320,1281]]),(2,[.keepT [3,4,5,6,7,8],.keepO [192,256,320,1281]])] b,fun r=>look [] [(5,[.freezeB 320]),(24,[.freezeB 640])] r,fun r=>[]⟩
 |8=>⟨fun b=>look [] [(0,[.keepT [2,3,7,8],.keepO [128,192]]),(2,[.keepT [2,3,7,9],.keepO [128,192]])] b,fun r=>look [] [] r,fun r=>[]⟩
 |9=>⟨fun b=>look [] [(0,[.keepT [0,1,5],.keepO []])] b,fun r=>look [] [] r,fun r=>[]⟩
 |12=>⟨fun b=>look [] [(0,[.keepT [6,8,31,32],.orderO [384,1536,1664,1856,539699,539700,539701],.adoptO 1856 3 539699 7,.adoptO 1856 4 539700 1,.adoptO 1856 5 539701 1,.keepO [384,1536,1664,1856,539699,539700,539701]])] b,fun r=>look [] [] r,fun r=>[]⟩
 |30=>⟨fun b=>look [] [(0,[.keepT [0,1,2,7],.keepO []])] b,fun r=>look [] [] r,fun r=>[]⟩
 |31=>⟨fun b=>look [] [(0,[.keepT [0,3,4],.keepO [320]])] b,fun r=>look [] [] r,fun r=>[]⟩
 |34=>⟨fun b=>look [] [(0,[.keepT [3,7,8,9],.keepO [384]])] b,fun r=>look [] [] r,fun r=>[]⟩
 |36=>⟨fun b=>look [] [(0,[.keepT [1,22,23,24],.keepO []])] b,fun r=>look [] [] r,fun r=>[]⟩
 |37=>⟨fun b=>look [] [(0,[.keepT [2,17,18,19],.keepO [128]])] b,fun r=>look [] [] r,fun r=>[]⟩
 |39=>⟨fun b=>look [] [(0,[.keepT [3,7,8,9],.keepO [384]])] b,fun r=>look [] [] r,fun r=>[]⟩
 |54=>⟨fun b=>look [] [(1,[.keepT [0,10,11],.keepO [4224,1000000]])] b,fun r=>look [] [] r,fun r=>[]⟩
 |57=>⟨fun b=>look [] [(0,[.keepT [0,1,5],.keepO []])] b,fun r=>look [] [] r,fun r=>[]⟩
 |65=>⟨fun b=>look [] [(0,[.keepT [0,1,12,13],.keepO []])] b,fun r=>look [] [] r,fun r=>[]⟩
 |66=>⟨fun b=>look [] [(0,[.keepT [2,5,11,12,13],.keepO [128,640]])] b,fun r=>look [] [] r,fun r=>[]⟩
 |73=>⟨fun b=>look [] [(0,[.keepT [0,1,5],.keepO []])] b,fun r=>look [] [] r,fun r=>[]⟩
 |74=>⟨fun b=>look [] [(0,[.keepT [0,1,5,6],.keepO [512]])] b,fun r=>look [] [] r,fun r=>[]⟩
 |77=>⟨fun b=>look [] [(1,[.keepT [2,3,5,6,7,8],.orderO [128,192,640,832,833,834,835,836,837,384,448],.keepO [128,192,384,448,640,832,833,834,835,836,837]])] b,fun r=>look [] [(10,[.freezeB 384,.meltO 384 0 2,.meltP 6])] r,fun r=>[]⟩
 |78=>⟨fun b=>look [] [(0,[.keepT [1,2,3,21,22,23],.keepO [192]])] b,fun r=>look [] [(12,[.freezeB 640])] r,fun r=>[]⟩
 |81=>⟨fun b=>look [] [(0,[.keepT [1,3,8,9,10],.shallow 384,.keepO [64,384]])] b,fun r=>look [] [] r,fun r=>[]⟩
 |86=>⟨fun b=>look [] [(0,[.keepT [1,3,4],.keepO [64]]),(2,[.keepT [1,3,5],.keepO [64]]),(4,[.keepT [1,3,5,6],.keepO [64]]),(6,[.keepT [1,3,7],.keepO [64]])] b,fun r=>look [] [] r,fun r=>[]⟩
 |87=>⟨fun b=>look [] [(0,[.keepT [0,1,5],.keepO []]),(2,[.keepT [1,6],.keepO []]),(4,[.keepT [1,6,7],.keepO []])] b,fun r=>look [] [] r,fun r=>[]⟩
 |88=>⟨fun b=>look [] [(0,[.keepT [0,1,2,7],.keepO []])] b,fun r=>look [] [] r,fun r=>[]⟩
 |92=>⟨fun b=>look [] [(0,[.keepT [1,18,19,20],.keepO [64]]),(2,[.keepT [1,34,35,36],.keepO [64]])] b,fun r=>look [] [] r,fun r=>[]⟩
 |96=>⟨fun b=>look [] [(0,[.keepT [1,2,3,7],.keepO [192]])] b,fun r=>look [] [] r,fun r=>[]⟩
 |97=>⟨fun b=>look [] [(0,[.keepT [3,6,7,8],.keepO []])] b,fun r=>look [] [] r,fun r=>[]⟩
 |104=>⟨fun b=>look [] [] b,fun r=>look [] [(4,[.keepT [1,2,4,7,8,10]]),(5,[.keepT [1,2,4,7,8,10,11]]),(6,[.keepT [1,2,4,7,8,10,11,12]]),(7,[.keepT [1,2,4,7,8,10,11]]),(8,[.keepT [1,2,4,7,8,10,11,12]]),(10,[.keepT [1,2,4,7,8]]),(11,[.keepT [1,2,4,7,8,13]]),(12,[.keepT [1,2,4,7,8,13,88]]),(13,[.keepT [1,7,8,13]]),(14,[.keepT [2,4,7,8,13,88]]),(15,[.keepT [2,7,8,13]]),(16,[.keepT [2,4,7,8,13,88]]),(17,[.keepT [2,7,8,13]]),(18,[.keepT [2,4,7,8,13,88]]),(19,[.keepT [2,4,7,8,13]]),(20,[.keepT [2,4,7,8,13]]),(21,[.keepT [2,4,7,8,13,14]]),(22,[.keepT [2,4,7,8,13]]),(23,[.keepT [2,4,7,8,13,14]]),(27,[.keepT [2,4,7,8,13,88]]),(28,[.keepT [2,4,7,8,13]])] r,fun r=>[]⟩
 |113=>⟨fun b=>look [] [(0,[.keepT [0,1,2,8,9,10,11],.keepO []])] b,fun r=>look [] [] r,fun r=>[]⟩
 |118=>⟨fun b=>look [] [] b,fun r=>look [] [(7,[.freezeT 5])] r,fun r=>[]⟩
 |120=>⟨fun b=>look [] [(0,[.keepT [0,3,4],.keepO [320]])] b,fun r=>look [] [] r,fun r=>[]⟩
 |122=>⟨fun b=>look [] [(0,[.keepT [0,1,2,3,9,10,11],.keepO [1000000]]),(2,[.keepT [0,1,2,3,9,10,12],.keepO [1000000]])] b,fun r=>look [] [] r,fun r=>[]⟩
 |124=>⟨fun b=>look [] [(0,[.keepT [0,1,2,7,8],.keepO []])] b,fun r=>look [] [] r,fun r=>[]⟩
 |128=>⟨fun b=>look [] [(0,[.keepT [0,1,2,3,8,10,11],.nameB 640 0 520240,.nameB 640 1 520241,.adoptO 640 0 520240 1,.adoptO 640 1 520241 1,.keepO [512,640,520240,520241]])] b,fun r=>look [] [(12,[.lendB 640]),(14,[.reclaim]),(17,[.reclaim])] r,fun r=>[]⟩
 |131=>⟨fun b=>look [] [(0,[.keepT [0,1,5],.keepO []])] b,fun r=>look [] [] r,fun r=>[]⟩
 |133=>⟨fun b=>look [] [(0,[.keepT [0,1,5],.keepO []])] b,fun r=>look [] [] r,fun r=>[]⟩
 |134=>⟨fun b=>look [] [(0,[.keepT [0,2,3,4,6,7],.nameB 384 0 1088,.nameB 384 1 1089,.nameB 384 2 1090,.nameB 384 3 1091,.nameB 384 4 1092,.orderO [1000000,128,192,640,256,1088,1089,1090,1091,1092,384],.keepO [128,192,256,384,640,1088,1089,1090,1091,1092,1000000]])] b,fun r=>look [] [] r,fun r=>[]⟩
 |135=>⟨fun b=>look [] [] b,fun r=>look [] [(6,[.freezeT 2])] r,fun r=>[]⟩
 |136=>⟨fun b=>look [] [(0,[.keepT [0,1,5,6],.keepO [960,1000000]])] b,fun r=>look [] [] r,fun r=>[]⟩
 |140=>⟨fun b=>look [] [(0,[.keepT [0,1,7,8],.keepO []])] b,fun r=>look [] [] r,fun r=>[]⟩
 |142=>⟨fun b=>look [] [(0,[.keepT [0,1,2,3,4,10,11],.keepO [1000000]])] b,fun r=>look [] [] r,fun r=>[]⟩
 |144=>⟨fun b=>look [] [(0,[.keepT [3,6,7,8],.keepO []])] b,fun r=>look [] [] r,fun r=>[]⟩
 |145=>⟨fun b=>look [] [(0,[.keepT [0,3],.keepO []])] b,fun r=>look [] [] r,fun r=>[]⟩
 |148=>⟨fun b=>look [] [(0,[.keepT [0,1,2,3,9,10,11],.keepO [1216]]),(2,[.keepT [0,1,2,3,9,10,11,12],.keepO [1216]])] b,fun r=>look [] [] r,fun r=>[]⟩
 |154=>⟨fun b=>look [] [(0,[.keepT [0,1,7,8],.keepO []])] b,fun r=>look [] [] r,fun r=>[]⟩
 |156=>⟨fun b=>look [] [(0,[.keepT [0,1,7,8],.keepO []])] b,fun r=>look [] [] r,fun r=>[]⟩
 |157=>⟨fun b=>look [] [(0,[.keepT [3,9,10,11],.keepO [512]]),(2,[.keepT [3,9,10,11,15,16,17],.keepO [512]])] b,fun r=>look [] [] r,fun r=>[]⟩
 |159=>⟨fun b=>look [] [(0,[.keepT [2,4,5,17,18,19],.orderO [128,640,768,769,320,1088],.keepO [128,320,640,768,769,1088]]),(2,[.keepT [2,4,5,7,17,18,19,23,24,25],.orderO [128,640,768,769,320,1088],.keepO [128,320,640,768,769,1088]]),(1002,[]),(2002,[])] b,fun r=>look [] [] r,fun r=>[]⟩
 |170=>⟨fun b=>look [] [(0,[.keepT [1,6],.keepO []]),(2,[.keepT [1,6,7],.keepO []])] b,fun r=>look [] [] r,fun r=>[]⟩
 |173=>⟨fun b=>look [] [(0,[.keepT [0,1,2,3,9],.keepO []])] b,fun r=>look [] [] r,fun r=>[]⟩
 |175=>⟨fun b=>look [] [(0,[.keepT [0,5,6],.keepO [768,1000000]])] b,fun r=>look [] [] r,fun r=>[]⟩
 |176=>⟨fun b=>look [] [(0,[.keepT [0,1,7,8],.keepO [576,1000000]])] b,fun r=>look [] [] r,fun r=>[]⟩
 |180=>⟨fun b=>look [] [(0,[.keepT [0,1,2,6,7,8,9],.adoptO 448 0 517168 1,.adoptO 448 1 517169 1,.keepO [384,448,517168,517169]])] b,fun r=>look [] [] r,fun r=>[]⟩
 |183=>⟨fun b=>look [] [(0,[.keepT [0,2,6,7,8],.adoptO 448 2 517170 7,.adoptO 448 4 517172 1,.keepO [384,448,768,896,517170,517172]])] b,fun r=>look [] [] r,fun r=>[]⟩
 |185=>⟨fun b=>look [] [] b,fun r=>look [] [(7,[.freeze 1000005]),(14,[.lend 1000003]),(15,[.reclaim]),(16,[.reclaim])] r,fun r=>[]⟩
 |186=>⟨fun b=>look [] [(0,[.keepT [0,1,2,7,8,9,10,72,73,74],.orderO [1000000,1000005,3904,4544],.keepO [3904,4544,1000000,1000005]]),(2,[.keepT [0,1,9,10,13,104,105,106],.orderO [1000000,1000005,3904,4544],.keepO [3904,4544,1000000,1000005]]),(4,[.keepT [0,10,118,119,120],.orderO [1000000,1000005,3904,4544],.keepO [3904,4544,1000000,1000005]])] b,fun r=>look [] [] r,fun r=>[]⟩
 |187=>⟨fun b=>look [] [(0,[.keepT [0,1,2,3,8],.keepO [1000000]]),(2,[.keepT [0,1,2,3,8,9],.keepO [1000000]])] b,fun r=>look [] [(4,[.lendT 0]),(6,[.reclaim]),(2,[.reclaim]),(5,[.pack 1000000])] r,fun r=>look [] [(6,[⟨1000000,9,0,42,1000003200⟩,⟨1000000,9,1,42,1000002944⟩])] r⟩
 |198=>⟨fun b=>look [] [(0,[.keepT [0,2,4,5,6],.keepO [128,832,1216]])] b,fun r=>look [] [(15,[.freezeT 4])] r,fun r=>[]⟩
 |201=>⟨fun b=>look [] [(0,[.keepT [0,1,2,3,4,5,6,15,16,17],.keepO [3584]]),(2,[.keepT [0,2,3,4,5,6,15,16,18,19],.keepO [3584,6464]]),(4,[.keepT [0,2,3,6,15,16,18,20],.keepO [3584,6464]])] b,fun r=>look [] [] r,fun r=>[]⟩
 |203=>⟨fun b=>look [] [(0,[.keepT [0,1,7,8],.keepO []])] b,fun r=>look [] [] r,fun r=>[]⟩
 |211=>⟨fun b=>look [] [(0,[.keepT [0,1,5,6],.keepO []])] b,fun r=>look [] [] r,fun r=>[]⟩
 |212=>⟨fun b=>look [] [(0,[.keepT [0,1,2,3,10,11],.keepO [896]])] b,fun r=>look [] [] r,fun r=>[]⟩
 |214=>⟨fun b=>look [] [(0,[.keepT [0,3,4],.keepO [320]])] b,fun r=>look [] [] r,fun r=>[]⟩
 |217=>⟨fun b=>look [] [(0,[.keepT [0,1,4,5,6,7,8],.keepO [256,640,1000000]])] b,fun r=>look [] [] r,fun r=>[]⟩
 |218=>⟨fun b=>look [] [(0,[.keepT [0,3],.keepO []])] b,fun r=>look [] [] r,fun r=>[]⟩
 |220=>⟨fun b=>look [] [(0,[.keepT [0,3,4],.keepO [384]])] b,fun r=>look [] [] r,fun r=>[]⟩
 |221=>⟨fun b=>look [] [(0,[.keepT [0,1,2,3],.keepO [1000000,1000001,1000002,1000003,1000004,1000005]])] b,fun r=>look [] [(3,[.pack 1000003]),(5,[.pack 1000003])] r,fun r=>[]⟩
 |223=>⟨fun b=>look [] [(0,[.keepT [0,1,2,7,8,9],.orderO [1000000,1000001,1000002,1000003,1000004,1000005,1280,1344],.keepO [1280,1344,1000000,1000001,1000002,1000003,1000004,1000005]])] b,fun r=>look [] [(7,[.pack 1000003])] r,fun r=>[]⟩
 |224=>⟨fun b=>look [] [(0,[.keepT [0,1,5],.keepO [1000000,1000001,1000002,1000003,1000004,1000005]]),(2,[.keepT [0,1,8,9],.keepO [1000000,1000001,1000002,1000003,1000004,1000005]])] b,fun r=>look [] [] r,fun r=>[]⟩
 |225=>⟨fun b=>look [] [(0,[.keepT [1,3,7,8,17,18],.keepO [192,576]])] b,fun r=>look [] [] r,fun r=>[]⟩
 |232=>⟨fun b=>look [] [(0,[.keepT [0,1,5],.keepO []])] b,fun r=>look [] [] r,fun r=>[]⟩
 |235=>⟨fun b=>look [] [(0,[.keepT [0,1,2,7,8,9],.keepO [640]])] b,fun r=>look [] [] r,fun r=>[]⟩
 |245=>⟨fun b=>look [] [(0,[.keepT [2,3,6,8,9,16,17,18],.adoptO 512 0 518192 1,.adoptO 512 1 518193 1,.keepO [192,384,512,518192,518193]])] b,fun r=>look [] [(13,[.lendB 512]),(15,[.reclaim]),(18,[.reclaim])] r,fun r=>[]⟩
 |246=>⟨fun b=>look [] [(0,[.keepT [1,5,10,11,12],.keepO [576]])] b,fun r=>look [] [] r,fun r=>[]⟩
 |247=>⟨fun b=>look [] [(0,[.keepT [3,6,8,9],.freezeT 9,.melt 9,.adoptO 512 0 518192 1,.adoptO 512 1 518193 1,.keepO [192,384,512,518192,518193]]),(5,[.keepT [3,6,8,9,10,11,12,118,119,120],.keepO [192,384,512,768,7232,7360,518192,518193]]),(3,[.keepT [3,6,8,9,10,11,15,16,56,57,58],.shallow 3200,.orderO [192,384,512,518192,518193,3392,3584,3200],.keepO [192,384,512,3200,3392,3584,518192,518193]])] b,fun r=>look [] [(6,[.freezeT 10,.freezeT 11,.melt 10,.melt 11]),(27,[.pack 518193]),(28,[.pack 518193]),(29,[.pack 518193])] r,fun r=>[]⟩
 |249=>⟨fun b=>look [] [(0,[.keepT [0,1,5,6],.keepO [448]])] b,fun r=>look [] [] r,fun r=>[]⟩
 |250=>⟨fun b=>look [] [(0,[.keepT [0,6,8,9],.freezeT 9,.melt 9,.adoptO 512 0 518192 1,.adoptO 512 1 518193 1,.nameB 512 0 518192,.nameB 512 1 518193,.keepO [384,512,518192,518193]])] b,fun r=>look [] [(7,[.freezeT 10,.freezeT 11,.melt 10,.melt 11])] r,fun r=>[]⟩
 |257=>⟨fun b=>look [] [(0,[.keepT [0,1,2,3,13,14,15],.orderO [1000000,1000001,1000002,1000003,1000004,1000005,2240],.keepO [2240,1000000,1000001,1000002,1000003,1000004,1000005]])] b,fun r=>look [] [] r,fun r=>[]⟩
 |273=>⟨fun b=>look [] [(0,[.keepT [0,1,2,6],.keepO [1000000,1000001,1000002]])] b,fun r=>look [] [] r,fun r=>[]⟩
 |274=>⟨fun b=>look [] [(0,[.keepT [0,1,2,6,8,9,10],.adoptO 576 1 519217 1,.keepO [384,512,576,1216,1344,1728,519217]])] b,fun r=>look [] [] r,fun r=>[]⟩
 |275=>⟨fun b=>look [] [(0,[.keepT [0,1,2,7,8,9,10],.keepO [832]])] b,fun r=>look [] [] r,fun r=>[]⟩
 |278=>⟨fun b=>look [] [(0,[.keepT [0,1,5,6,7],.keepO [512]])] b,fun r=>look [] [] r,fun r=>[]⟩
 |289=>⟨fun b=>look [] [(0,[.keepT [0,1,6,7],.keepO [704]]),(3,[.keepT [0,1,6,7,9],.keepO [704]])] b,fun r=>look [] [] r,fun r=>[]⟩
 |290=>⟨fun b=>look [] [(0,[.keepT [0,1,7,8,9,10],.keepO [448]])] b,fun r=>look [] [] r,fun r=>[]⟩
 |300=>⟨fun b=>look [] [(0,[.keepT [0,1,5],.keepO []])] b,fun r=>look [] [] r,fun r=>[]⟩
 |_=>⟨fun _=>[],fun _=>[],fun _=>[]⟩
def X:Ext:=fun f=>match f with
 |32=>some compareE
 |38=>some cloneE
 |202=>some trimE
 |205=>some sortE
 |206=>some compactE
 |287=>some (insE 8)
 |288=>some (insE 24)
 |_=>none
theorem X_sound:∀f e,X f=some e->∀E,(∀g args r,E g args=some r->Meets prog (A g) g args r)->∀args r,e E args=some r->Meets prog (A f) f args r:=by
 intro f e h E hE args r hr;unfold X at h;split at h
 ·cases h;exact qfi args r hr
 ·cases h;exact qgs args r hr
 ·cases h;exact qit args r hr
 ·cases h;exact qiy args r hr
 ·cases h;exact qfa args r hr
 ·cases h;exact qfx args r hr
 ·cases h;exact qeq args r hr
 ·cases h
noncomputable def LIM:Env:=lim prog A H X
def oi(x:Int):V:=.one (.t (.int .i64 x))
def ol(k:Nat)(c:List T):V:=.one (.t (.sl k c))
noncomputable abbrev cx(f:FuncId)(p:List Nat):Code:=q7n p (qau prog f)
noncomputable abbrev kx(f:FuncId)(n:Nat)(fr:List Ct)(K:Ex->St->R):Ex->St->R:=ctxK prog A (H f) LIM n fr K
noncomputable abbrev bx(f:FuncId)(b:Nat)(K:Ex->St->R)(L:St->R):Ex->St->R:=qwx (H f) b K L
noncomputable abbrev lx(f:FuncId)(n b:Nat)(p:List Nat)(K:Ex->St->R)(m:Nat)(s:St):R:=qtf prog A (H f) LIM n b (q7n p (qau prog f)) K m s
noncomputable abbrev rx(f:FuncId)(n b:Nat)(p:List Nat)(K:Ex->St->R)(L:St->R)(s:St):R:=qsk prog A (H f) LIM n b (q7n p (qau prog f)) K L s
theorem nx(f:FuncId)(n b:Nat)(p:List Nat)(K:Ex->St->R)(m:Nat)(s:St):lx f n b p K (m+1) s=rx f n b p K (lx f n b p K m) s:=qpu _ _ _ _ _ _ _ _ _ _
end Ev
end
section
namespace Ev.Ty
open Go Ev
class Enc(α:Type) where
 sz:Nat
 pos:0<sz
 enc:α->List T
 len:∀x,(enc x).length=sz
open Enc (enc)
def cells{α:Type}[Enc α](l:List α):List T:=l.flatMap enc
def slc{α:Type}[Enc α](l:List α):T:=.sl (Enc.sz α) (cells l)
instance:Enc Int:=⟨1,by decide,fun n=>[.int .i64 n],fun _=>rfl⟩
@[simp] theorem q3n:Enc.sz Int=1:=rfl
instance:Enc UInt8:=⟨1,by decide,fun n=>[.int .u8 n.toNat],fun _=>rfl⟩
instance:Enc Bool:=⟨1,by decide,fun b=>[.bool b],fun _=>rfl⟩
instance:Enc ByteArray:=⟨1,by decide,fun b=>[.str b],fun _=>rfl⟩
@[simp] theorem qzj:Enc.sz UInt8=1:=rfl
instance {α:Type}[Enc α]:Enc (List α):=⟨1,by decide,fun l=>[.sl (Enc.sz α) (cells l)],fun _=>rfl⟩
@[simp] theorem qul{α:Type}[Enc α]:Enc.sz (List α)=1:=rfl
@[simp] theorem q1l(n:Int):enc n=[.int .i64 n]:=rfl
@[simp] theorem qm7(n:UInt8):enc n=[.int .u8 n.toNat]:=rfl
@[simp] theorem qc2{α:Type}[Enc α](l:List α):enc l=[slc l]:=rfl
@[simp] theorem qxn{α:Type}[Enc α]{k:Nat}(l:List α)(h:Enc.sz α=k):oSl k (slc l)=some (cells l):=by subst h;simp[slc,oSl]
section
variable {α:Type}[Enc α]
@[simp] theorem qdd:cells ([]:List α)=[]:=rfl
theorem q6v(x:α)(l:List α):cells (x::l)=enc x++cells l:=gAN
@[simp] theorem q3c(l r:List α):cells (l++r)=cells l++cells r:=List.flatMap_append
theorem q0p:∀l:List α,(cells l).length=l.length*Enc.sz α
 |[]=>by simp
 |x::l=>by rw[q6v,gM,Enc.len,q0p l,gAB,Nat.succ_mul,Nat.add_comm]
theorem q5m{l:List α}{k:Nat}(h:Enc.sz α=k):(cells l).length/k=l.length:=by
 subst h;rw[q0p,Nat.mul_div_cancel _ Enc.pos]
theorem q6z(l:List α)(k i j:Nat)(h:Enc.sz α=k)(hj:j<k):(cells l)[i*k+j]?=(l[i]?).bind fun x=>(enc x)[j]?:=by
 subst h;rw[cells,qef Enc.pos Enc.len]
 have e1:(i*Enc.sz α+j)/Enc.sz α=i:=by
  rw[Nat.mul_comm,Nat.mul_add_div Enc.pos,Nat.div_eq_of_lt hj,Nat.add_zero]
 have e2:(i*Enc.sz α+j) % Enc.sz α=j:=by
  rw[Nat.mul_comm,Nat.mul_add_mod,Nat.mod_eq_of_lt hj]
 rw[e1,e2]
theorem get0{l:List α}{k i:Nat}(h:Enc.sz α=k):(cells l)[i*k]?=(l[i]?).bind fun x=>(enc x)[0]?:=
 q6z l k i 0 h (h▸Enc.pos)
theorem get1{l:List α}{k i:Nat}(h:Enc.sz α=k)(hj:1<k):(cells l)[i*k+1]?=(l[i]?).bind fun x=>(enc x)[1]?:=
 q6z l k i 1 h hj
theorem get2{l:List α}{k i:Nat}(h:Enc.sz α=k)(hj:2<k):(cells l)[i*k+1+1]?=(l[i]?).bind fun x=>(enc x)[2]?:=
 q6z l k i 2 h hj
theorem get3{l:List α}{k i:Nat}(h:Enc.sz α=k)(hj:3<k):(cells l)[i*k+1+1+1]?=(l[i]?).bind fun x=>(enc x)[3]?:=
 q6z l k i 3 h hj
theorem get4{l:List α}{k i:Nat}(h:Enc.sz α=k)(hj:4<k):(cells l)[i*k+1+1+1+1]?=(l[i]?).bind fun x=>(enc x)[4]?:=
 q6z l k i 4 h hj
theorem get5{l:List α}{k i:Nat}(h:Enc.sz α=k)(hj:5<k):(cells l)[i*k+1+1+1+1+1]?=(l[i]?).bind fun x=>(enc x)[5]?:=
 q6z l k i 5 h hj
theorem get6{l:List α}{k i:Nat}(h:Enc.sz α=k)(hj:6<k):(cells l)[i*k+1+1+1+1+1+1]?=(l[i]?).bind fun x=>(enc x)[6]?:=
 q6z l k i 6 h hj
theorem get7{l:List α}{k i:Nat}(h:Enc.sz α=k)(hj:7<k):(cells l)[i*k+1+1+1+1+1+1+1]?=(l[i]?).bind fun x=>(enc x)[7]?:=
 q6z l k i 7 h hj
theorem get8{l:List α}{k i:Nat}(h:Enc.sz α=k)(hj:8<k):(cells l)[i*k+1+1+1+1+1+1+1+1]?=(l[i]?).bind fun x=>(enc x)[8]?:=
 q6z l k i 8 h hj
theorem q53{l:List α}{k i:Nat}(h:Enc.sz α=k){x:α}(hx:l[i]?=some x):((cells l).drop (i*k)).take k=enc x:=by
 subst h;refine List.ext_getElem? fun j=>?_;rw[gT];split
 ·rename_i hj;rw[gV,q6z l _ i j rfl hj,hx];rfl
 ·rename_i hj;rw[List.getElem?_eq_none (by rw[Enc.len];omega)]
theorem q8k(l:List α)(k i:Nat)(h:Enc.sz α=k):(cells l).take (i*k)=cells (l.take i):=by
 subst h;induction i generalizing l with
 |zero=>simp
 |succ i ih=>
  cases l with
  |nil=>simp
  |cons x l=>
   rw[List.take_succ_cons,q6v,q6v,Nat.succ_mul,Nat.add_comm,List.take_append,Enc.len];rw[List.take_of_length_le (by rw[Enc.len];omega),Nat.add_sub_cancel_left,ih]
theorem qa1(l:List α)(k i:Nat)(h:Enc.sz α=k):(cells l).drop (i*k)=cells (l.drop i):=by
 subst h;induction i generalizing l with
 |zero=>simp
 |succ i ih=>
  cases l with
  |nil=>simp
  |cons x l=>
   rw[List.drop_succ_cons,q6v,Nat.succ_mul,Nat.add_comm,List.drop_append,Enc.len];rw[gU (by rw[Enc.len];omega),Nat.add_sub_cancel_left,ih,List.nil_append]
theorem qdh(l:List α)(k i:Nat)(h:Enc.sz α=k)(x:α)(hi:i<l.length):setCells (cells l) (i*k) (enc x)=cells (l.set i x):=by
 subst h;refine List.ext_getElem? fun j=>?_
 have hle:i*Enc.sz α+Enc.sz α<=l.length*Enc.sz α:=by
  rw[<- Nat.succ_mul];exact gAO _ hi
 rw[q3y _ _ _ _ (by rw[Enc.len,q0p];exact hle),Enc.len];have hp:0<Enc.sz α:=Enc.pos;have hj:j=j/Enc.sz α*Enc.sz α+j % Enc.sz α:=by rw[Nat.mul_comm];exact(Nat.div_add_mod j _).symm
 have hm:j % Enc.sz α<Enc.sz α:=Nat.mod_lt _ hp
 have hset:(cells (l.set i x))[j]?=((l.set i x)[j/Enc.sz α]?).bind fun y=>(enc y)[j % Enc.sz α]?:=by
  conv=>lhs;rw[hj]
  exact q6z _ _ _ _ rfl hm
 have hl:(cells l)[j]?=(l[j/Enc.sz α]?).bind fun y=>(enc y)[j % Enc.sz α]?:=by
  conv=>lhs;rw[hj]
  exact q6z _ _ _ _ rfl hm
 rw[hset,hl];by_cases hij:i=j/Enc.sz α
 ·have h1:i*Enc.sz α<=j:=by rw[hij];exact Nat.div_mul_le_self _ _
  have h2:j<i*Enc.sz α+Enc.sz α:=by rw[hij];omega
  rw[if_pos ⟨h1,h2⟩,<- hij,List.getElem?_set_self hi];have:j-i*Enc.sz α=j % Enc.sz α:=by rw[hij];omega
  rw[this];rfl
 ·rw[if_neg,List.getElem?_set_ne hij];rintro⟨h1,h2⟩;apply hij;refine(Nat.div_eq_of_lt_le ?_ ?_).symm
  ·exact h1
  ·rw[Nat.succ_mul];exact h2
theorem qt1(n:Nat)(x:α):repT n (enc x)=cells (List.replicate n x):=by
 unfold repT cells;induction n with
 |zero=>rfl
 |succ n ih=>rw[List.replicate_succ,List.replicate_succ,List.flatten_cons,gAN,ih]
theorem qaj(x:α):cells [x]=enc x:=by simp[cells]
end
@[simp] theorem quu(k:IntKind)(n:Int):oInt k (.int k n)=some n:=by simp[oInt]
@[simp] theorem qrr(b:Bool):q82 (.bool b)=some b:=Eq.trans rfl rfl
@[simp] theorem qvp(b:ByteArray):oStr (.str b)=some b:=Eq.trans rfl rfl
@[simp] theorem qzg(k:Nat)(c:List T):oSl k (.sl k c)=some c:=by simp[oSl]
@[simp] theorem qus(c:List T):oAgg (.agg c)=some c:=Eq.trans rfl rfl
@[simp] theorem quv(c:List T):oTup (.tup c)=some c:=Eq.trans rfl rfl
@[simp] theorem qrt(x:T)(c:List T):q0s (x::c)=some (x,c):=Eq.trans rfl rfl
@[simp] theorem qvq:oNil []=some ():=Eq.trans rfl rfl
theorem qwo{α β:Type}{x:α}{f:α->Option β}:(Option.bind (some x) f)=f x:=Eq.trans rfl rfl
theorem q7a(i n:Nat):inB (i:Int) n=decide (i<n):=by
 unfold inB;rw[Bool.eq_iff_iff];simp
theorem q3g{x:Int}(h : -9223372036854775808<=x/\x<9223372036854775808):IntKind.wrap .i64 x=x:=by
 unfold IntKind.wrap;simp[IntKind.signed,IntKind.bits];omega
theorem qz5{x:Int}(h:0<=x/\x<256):IntKind.wrap .u8 x=x:=by
 unfold IntKind.wrap;simp[IntKind.signed,IntKind.bits];omega
theorem q0n{k:Nat}(h:k<9223372036854775807):IntKind.wrap .i64 ((k:Int)+1)=((k+1:Nat):Int):=by
 rw[q3g (by omega)];rfl
def Call(g:FuncId)(args:List T)(r:T):Prop:=LIM g args=some (r,[])
theorem Call.eq{g:FuncId}{args:List T}{r:T}(h:Call g args r):LIM g args=some (r,[]):=h
theorem q0v{g:FuncId}{args:List T}{r:T}(hx:X g=none)(n:Nat)(h:q1b prog A H LIM n g args=some (r,[])):Call g args r:=qb9 hx n h
class Sm(α:Type) where
 sm:Nat->α->Prop
 mono:∀{n m:Nat}{x:α},n<=m->sm n x->sm m x
open Sm (sm)
theorem q3o{α:Type}[Sm α]{n m:Nat}{x:α}(h:n<=m)(hx:sm n x):sm m x:=Sm.mono h hx
instance:Sm Int:=⟨fun _ _=>True,fun _ h=>h⟩
instance:Sm Bool:=⟨fun _ _=>True,fun _ h=>h⟩
instance:Sm UInt8:=⟨fun _ _=>True,fun _ h=>h⟩
instance:Sm ByteArray:=⟨fun n x=>x.size<=n,fun h hx=>Nat.le_trans hx h⟩
instance {α:Type}[Sm α]:Sm (List α):=⟨fun n l=>l.length<=n/\∀x,x∈l->sm n x,fun h hx=>⟨Nat.le_trans hx.1 h,fun x hm=>q3o h (hx.2 x hm)⟩⟩
theorem qcd{α:Type}[Enc α]{k:Nat}{l:List α}(h:Enc.sz α=k):T.sl k (cells l)=slc l:=by subst h;rfl
theorem qae{l:List Int}{i:Nat}(h:i<l.length)(v:Int):setCells (cells l) (i*1) [.int .i64 v]=cells (l.set i v):=qdh l 1 i rfl v h
theorem qux{α:Type}[Enc α]{l:List (List α)}{i:Nat}(h:i<l.length)(v:List α):setCells (cells l) (i*1) [slc v]=cells (l.set i v):=qdh l 1 i rfl v h
theorem q1k{α:Type}{c:Bool}{a b:α}(h:c=true):(bif c then a else b)=a:=by rw[h];rfl
theorem qcf{α:Type}{c:Bool}{a b:α}(h:c=false):(bif c then a else b)=b:=by rw[h];rfl
theorem qgx{β:Type}{p:Prop}[Decidable p]{x y:β}:(bif decide p then x else y)=if p then x else y:=by
 by_cases h:p <;> simp[h]
theorem qxb{α:Type}[BEq α][LawfulBEq α][DecidableEq α]{a b:α}:(a==b)=decide (a=b):=by
 by_cases h:a=b <;> simp[h]
theorem qx6{α:Type}[BEq α][LawfulBEq α][DecidableEq α]{a b:α}:(a != b) = !decide (a=b):=by
 by_cases h:a=b <;> simp[h]
theorem qxq{β:Type}{b:Bool}{x y:β}:(bif !b then x else y)=bif b then y else x:=by cases b <;> rfl
theorem qyp{a b:UInt8}:((a.toNat:Int)=(b.toNat:Int))=(a=b):=by
 rw[eq_iff_iff,Int.ofNat_inj,UInt8.toNat_inj]
theorem qx7{a b:ByteArray}:(a.toList=b.toList)=(a=b):=by
 rw[eq_iff_iff,Lib.toList_data,Lib.toList_data];constructor
 ·intro h;have:=Array.toList_inj.1 h;cases a;cases b;simp_all
 ·rintro rfl;rfl
theorem qsb{α:Type}[DecidableEq α]{a b:List α}(hl:a.length=b.length){S:Nat->Nat->R}
 (step:∀m k (h:k<a.length) (h':k<b.length),S (m+1) k=if a[k]=b[k]then S m (k+1)else some (.bool false,[]))
 (stop:∀m,S (m+1) a.length=some (.bool true,[])):S (a.length+1) 0=some (.bool (decide (a=b)),[]):=by
 have:∀m k,k<=a.length->a.length<m+k->S m k=some (.bool (decide (a.drop k=b.drop k)),[]):=by
  intro m;induction m with
  |zero=>intros;omega
  |succ m ih=>
   intro k hk hm;by_cases h:k<a.length
   ·have h':k<b.length:=hl▸h;rw[step m k h h',ih (k+1) (by omega) (by omega),gH h,gH h'];by_cases e:a[k]=b[k]
    ·rw[if_pos e];simp only[List.cons.injEq,e,true_and]
    ·rw[if_neg e];simp only[List.cons.injEq,e,false_and,decide_false]
   ·obtain rfl:k=a.length:=by omega
    rw[stop m,gU (gAI _),gU (by omega)];simp
 have:=this (a.length+1) 0 (by omega) (by omega);simpa using this
end Ev.Ty
end
section
namespace Ev.Ty
open Go Ev
open Enc (enc)
open Sm (sm)
structure Symbol where
 name:ByteArray
 arity:Int
 deriving DecidableEq
instance:Enc Symbol:=⟨2,by decide,fun x=>[.str x.name,.int .i64 x.arity],fun _=>rfl⟩
@[simp] theorem qso:Enc.sz Symbol=2:=rfl
theorem q4b(x:Symbol):enc x=[.str x.name,.int .i64 x.arity]:=rfl
instance:Sm Symbol:=⟨fun n x=>sm n x.name,fun h x=>q3o h x⟩
structure Signature where
 symbols:List Symbol
 deriving DecidableEq
instance:Enc Signature:=⟨1,by decide,fun x=>[slc x.symbols],fun _=>rfl⟩
@[simp] theorem qwa:Enc.sz Signature=1:=rfl
instance:Sm Signature:=⟨fun n x=>sm n x.symbols,fun h x=>q3o h x⟩
structure Equation where
 left:List Int
 right:List Int
 deriving DecidableEq
instance:Enc Equation:=⟨2,by decide,fun x=>[slc x.left,slc x.right],fun _=>rfl⟩
@[simp] theorem q46:Enc.sz Equation=2:=rfl
theorem q4f(x:Equation):enc x=[slc x.left,slc x.right]:=rfl
instance:Sm Equation:=⟨fun n x=>sm n x.left/\sm n x.right,fun h x=>⟨q3o h x.1,q3o h x.2⟩⟩
structure Binding where
 vars:List Int
 terms:List (List Int)
 deriving DecidableEq
instance:Enc Binding:=⟨2,by decide,fun x=>[slc x.vars,slc x.terms],fun _=>rfl⟩
@[simp] theorem qy3:Enc.sz Binding=2:=rfl
instance:Sm Binding:=⟨fun n x=>sm n x.vars/\sm n x.terms,fun h x=>⟨q3o h x.1,q3o h x.2⟩⟩
structure Algebra where
 size:Int
 tables:List (List Int)
 deriving DecidableEq
instance:Enc Algebra:=⟨2,by decide,fun x=>[.int .i64 x.size,slc x.tables],fun _=>rfl⟩
@[simp] theorem qy2:Enc.sz Algebra=2:=rfl
instance:Sm Algebra:=⟨fun n x=>sm n x.tables,fun h x=>q3o h x⟩
structure Entry where
 kind:Int
 a:Int
 b:Int
 place:Int
 side:Int
 left:List Int
 right:List Int
 deriving DecidableEq
instance:Enc Entry:=⟨7,by decide,fun x=>[.int .i64 x.kind,.int .i64 x.a,.int .i64 x.b,.int .i64 x.place,.int .i64 x.side,slc x.left,slc x.right],fun _=>rfl⟩
@[simp] theorem q8c:Enc.sz Entry=7:=rfl
theorem q42(x:Entry):enc x=[.int .i64 x.kind,.int .i64 x.a,.int .i64 x.b,.int .i64 x.place,.int .i64 x.side,slc x.left,slc x.right]:=rfl
instance:Sm Entry:=⟨fun n x=>sm n x.left/\sm n x.right,fun h x=>⟨q3o h x.1,q3o h x.2⟩⟩
structure Completion where
 order:List Int
 equations:List Equation
 entries:List Entry
 rules:List Int
 waiting:List Int
 rounds:Int
 deriving DecidableEq
instance:Enc Completion:=⟨6,by decide,fun x=>[slc x.order,slc x.equations,slc x.entries,slc x.rules,slc x.waiting,.int .i64 x.rounds],fun _=>rfl⟩
@[simp] theorem qw7:Enc.sz Completion=6:=rfl
theorem qji(x:Completion):enc x=[slc x.order,slc x.equations,slc x.entries,slc x.rules,slc x.waiting,.int .i64 x.rounds]:=rfl
instance:Sm Completion:=⟨fun n x=>sm n x.order/\sm n x.equations/\sm n x.entries/\sm n x.rules/\sm n x.waiting,fun h x=>⟨q3o h x.1,q3o h x.2.1,q3o h x.2.2.1,q3o h x.2.2.2.1,q3o h x.2.2.2.2⟩⟩
structure Theory where
 order:List Int
 equations:List Equation
 rules:List Equation
 deriving DecidableEq
instance:Enc Theory:=⟨3,by decide,fun x=>[slc x.order,slc x.equations,slc x.rules],fun _=>rfl⟩
@[simp] theorem qyn:Enc.sz Theory=3:=rfl
instance:Sm Theory:=⟨fun n x=>sm n x.order/\sm n x.equations/\sm n x.rules,fun h x=>⟨q3o h x.1,q3o h x.2.1,q3o h x.2.2⟩⟩
structure Put where
 sector:Int
 bytes:List UInt8
 deriving DecidableEq
instance:Enc Put:=⟨2,by decide,fun x=>[.int .i64 x.sector,slc x.bytes],fun _=>rfl⟩
@[simp] theorem qzi:Enc.sz Put=2:=rfl
instance:Sm Put:=⟨fun n x=>sm n x.bytes,fun h x=>q3o h x⟩
structure Disk where
 sectors:List (List UInt8)
 pending:List Put
 deriving DecidableEq
instance:Enc Disk:=⟨2,by decide,fun x=>[slc x.sectors,slc x.pending],fun _=>rfl⟩
@[simp] theorem qz7:Enc.sz Disk=2:=rfl
instance:Sm Disk:=⟨fun n x=>sm n x.sectors/\sm n x.pending,fun h x=>⟨q3o h x.1,q3o h x.2⟩⟩
structure Act where
 kind:Int
 put:Put
 deriving DecidableEq
instance:Enc Act:=⟨3,by decide,fun x=>[.int .i64 x.kind,.int .i64 x.put.sector,slc x.put.bytes],fun _=>rfl⟩
@[simp] theorem qzh:Enc.sz Act=3:=rfl
instance:Sm Act:=⟨fun n x=>sm n x.put,fun h x=>q3o h x⟩
structure IntResult where
 code:Int
 value:Int
 deriving DecidableEq
instance:Enc IntResult:=⟨2,by decide,fun x=>[.int .i64 x.code,.int .i64 x.value],fun _=>rfl⟩
@[simp] theorem qwm:Enc.sz IntResult=2:=rfl
instance:Sm IntResult:=⟨fun n x=>True,fun _ h=>h⟩
structure IntsResult where
 code:Int
 list:List Int
 deriving DecidableEq
instance:Enc IntsResult:=⟨2,by decide,fun x=>[.int .i64 x.code,slc x.list],fun _=>rfl⟩
@[simp] theorem qve:Enc.sz IntsResult=2:=rfl
instance:Sm IntsResult:=⟨fun n x=>sm n x.list,fun h x=>q3o h x⟩
structure BytesResult where
 code:Int
 bytes:List UInt8
 deriving DecidableEq
instance:Enc BytesResult:=⟨2,by decide,fun x=>[.int .i64 x.code,slc x.bytes],fun _=>rfl⟩
@[simp] theorem qun:Enc.sz BytesResult=2:=rfl
instance:Sm BytesResult:=⟨fun n x=>sm n x.bytes,fun h x=>q3o h x⟩
structure TextResult where
 code:Int
 text:ByteArray
 deriving DecidableEq
instance:Enc TextResult:=⟨2,by decide,fun x=>[.int .i64 x.code,.str x.text],fun _=>rfl⟩
@[simp] theorem qvb:Enc.sz TextResult=2:=rfl
instance:Sm TextResult:=⟨fun n x=>sm n x.text,fun h x=>q3o h x⟩
structure SignatureResult where
 code:Int
 signature:Signature
 deriving DecidableEq
instance:Enc SignatureResult:=⟨2,by decide,fun x=>[.int .i64 x.code,slc x.signature.symbols],fun _=>rfl⟩
@[simp] theorem qqv:Enc.sz SignatureResult=2:=rfl
instance:Sm SignatureResult:=⟨fun n x=>sm n x.signature,fun h x=>q3o h x⟩
structure TermResult where
 code:Int
 term:List Int
 deriving DecidableEq
instance:Enc TermResult:=⟨2,by decide,fun x=>[.int .i64 x.code,slc x.term],fun _=>rfl⟩
@[simp] theorem qw6:Enc.sz TermResult=2:=rfl
theorem q3z(x:TermResult):enc x=[.int .i64 x.code,slc x.term]:=rfl
instance:Sm TermResult:=⟨fun n x=>sm n x.term,fun h x=>q3o h x⟩
structure TermsResult where
 code:Int
 terms:List (List Int)
 deriving DecidableEq
instance:Enc TermsResult:=⟨2,by decide,fun x=>[.int .i64 x.code,slc x.terms],fun _=>rfl⟩
@[simp] theorem qur:Enc.sz TermsResult=2:=rfl
instance:Sm TermsResult:=⟨fun n x=>sm n x.terms,fun h x=>q3o h x⟩
structure EquationResult where
 code:Int
 equation:Equation
 deriving DecidableEq
instance:Enc EquationResult:=⟨3,by decide,fun x=>[.int .i64 x.code,slc x.equation.left,slc x.equation.right],fun _=>rfl⟩
@[simp] theorem qs0:Enc.sz EquationResult=3:=rfl
theorem q2s(x:EquationResult):enc x=[.int .i64 x.code,slc x.equation.left,slc x.equation.right]:=rfl
instance:Sm EquationResult:=⟨fun n x=>sm n x.equation,fun h x=>q3o h x⟩
structure EquationsResult where
 code:Int
 list:List Equation
 deriving DecidableEq
instance:Enc EquationsResult:=⟨2,by decide,fun x=>[.int .i64 x.code,slc x.list],fun _=>rfl⟩
@[simp] theorem qqz:Enc.sz EquationsResult=2:=rfl
theorem qb5(x:EquationsResult):enc x=[.int .i64 x.code,slc x.list]:=rfl
instance:Sm EquationsResult:=⟨fun n x=>sm n x.list,fun h x=>q3o h x⟩
structure KeyResult where
 code:Int
 normal:List Int
 term:List Int
 deriving DecidableEq
instance:Enc KeyResult:=⟨3,by decide,fun x=>[.int .i64 x.code,slc x.normal,slc x.term],fun _=>rfl⟩
@[simp] theorem qw9:Enc.sz KeyResult=3:=rfl
instance:Sm KeyResult:=⟨fun n x=>sm n x.normal/\sm n x.term,fun h x=>⟨q3o h x.1,q3o h x.2⟩⟩
structure BindingResult where
 code:Int
 binding:Binding
 deriving DecidableEq
instance:Enc BindingResult:=⟨3,by decide,fun x=>[.int .i64 x.code,slc x.binding.vars,slc x.binding.terms],fun _=>rfl⟩
@[simp] theorem qsa:Enc.sz BindingResult=3:=rfl
instance:Sm BindingResult:=⟨fun n x=>sm n x.binding,fun h x=>q3o h x⟩
structure RedexResult where
 code:Int
 place:Int
 rule:Int
 deriving DecidableEq
instance:Enc RedexResult:=⟨3,by decide,fun x=>[.int .i64 x.code,.int .i64 x.place,.int .i64 x.rule],fun _=>rfl⟩
@[simp] theorem qup:Enc.sz RedexResult=3:=rfl
instance:Sm RedexResult:=⟨fun n x=>True,fun _ h=>h⟩
structure NormalResult where
 code:Int
 term:List Int
 steps:Int
 deriving DecidableEq
instance:Enc NormalResult:=⟨3,by decide,fun x=>[.int .i64 x.code,slc x.term,.int .i64 x.steps],fun _=>rfl⟩
@[simp] theorem qte:Enc.sz NormalResult=3:=rfl
instance:Sm NormalResult:=⟨fun n x=>sm n x.term,fun h x=>q3o h x⟩
structure AlgebraResult where
 code:Int
 algebra:Algebra
 deriving DecidableEq
instance:Enc AlgebraResult:=⟨3,by decide,fun x=>[.int .i64 x.code,.int .i64 x.algebra.size,slc x.algebra.tables],fun _=>rfl⟩
@[simp] theorem qs9:Enc.sz AlgebraResult=3:=rfl
instance:Sm AlgebraResult:=⟨fun n x=>sm n x.algebra,fun h x=>q3o h x⟩
structure EntryResult where
 code:Int
 entry:Entry
 deriving DecidableEq
instance:Enc EntryResult:=⟨8,by decide,fun x=>[.int .i64 x.code,.int .i64 x.entry.kind,.int .i64 x.entry.a,.int .i64 x.entry.b,.int .i64 x.entry.place,.int .i64 x.entry.side,slc x.entry.left,slc x.entry.right],fun _=>rfl⟩
@[simp] theorem quq:Enc.sz EntryResult=8:=rfl
instance:Sm EntryResult:=⟨fun n x=>sm n x.entry,fun h x=>q3o h x⟩
structure CompletionResult where
 code:Int
 completion:Completion
 deriving DecidableEq
instance:Enc CompletionResult:=⟨7,by decide,fun x=>[.int .i64 x.code,slc x.completion.order,slc x.completion.equations,slc x.completion.entries,slc x.completion.rules,slc x.completion.waiting,.int .i64 x.completion.rounds],fun _=>rfl⟩
@[simp] theorem qoj:Enc.sz CompletionResult=7:=rfl
theorem q98(x:CompletionResult):enc x=[.int .i64 x.code,slc x.completion.order,slc x.completion.equations,slc x.completion.entries,slc x.completion.rules,slc x.completion.waiting,.int .i64 x.completion.rounds]:=rfl
instance:Sm CompletionResult:=⟨fun n x=>sm n x.completion,fun h x=>q3o h x⟩
structure TheoryResult where
 code:Int
 theory:Theory
 deriving DecidableEq
instance:Enc TheoryResult:=⟨4,by decide,fun x=>[.int .i64 x.code,slc x.theory.order,slc x.theory.equations,slc x.theory.rules],fun _=>rfl⟩
@[simp] theorem quf:Enc.sz TheoryResult=4:=rfl
instance:Sm TheoryResult:=⟨fun n x=>sm n x.theory,fun h x=>q3o h x⟩
structure DiskResult where
 code:Int
 disk:Disk
 deriving DecidableEq
instance:Enc DiskResult:=⟨3,by decide,fun x=>[.int .i64 x.code,slc x.disk.sectors,slc x.disk.pending],fun _=>rfl⟩
@[simp] theorem qvj:Enc.sz DiskResult=3:=rfl
instance:Sm DiskResult:=⟨fun n x=>sm n x.disk,fun h x=>q3o h x⟩
theorem szs:Enc.sz Int=1/\Enc.sz UInt8=1/\Enc.sz Symbol=2/\Enc.sz Signature=1/\Enc.sz Equation=2/\Enc.sz Binding=2/\Enc.sz Algebra=2/\Enc.sz Entry=7/\Enc.sz Completion=6/\Enc.sz Theory=3/\Enc.sz Put=2/\Enc.sz Disk=2/\Enc.sz Act=3/\Enc.sz IntResult=2/\Enc.sz IntsResult=2/\Enc.sz BytesResult=2/\Enc.sz TextResult=2/\Enc.sz SignatureResult=2/\Enc.sz TermResult=2/\Enc.sz TermsResult=2/\Enc.sz EquationResult=3/\Enc.sz EquationsResult=2/\Enc.sz KeyResult=3/\Enc.sz BindingResult=3/\Enc.sz RedexResult=3/\Enc.sz NormalResult=3/\Enc.sz AlgebraResult=3/\Enc.sz EntryResult=8/\Enc.sz CompletionResult=7/\Enc.sz TheoryResult=4/\Enc.sz DiskResult=3:=⟨rfl,rfl,rfl,rfl,rfl,rfl,rfl,rfl,rfl,rfl,rfl,rfl,rfl,rfl,rfl,rfl,rfl,rfl,rfl,rfl,rfl,rfl,rfl,rfl,rfl,rfl,rfl,rfl,rfl,rfl,rfl⟩
theorem evs:(∀{n m:Nat},((n:Int)<(m:Int))<->n<m)/\(∀{a b:ByteArray},(a.toList=b.toList)=(a=b))/\
 (∀{α:Type}[BEq α][LawfulBEq α][DecidableEq α]{a b:α},(a==b)=decide (a=b))/\(∀{α:Type}[BEq α][LawfulBEq α][DecidableEq α]{a b:α},(a != b) = !decide (a=b))/\
 (∀{β:Type}{p:Prop}[Decidable p]{x y:β},(bif decide p then x else y)=if p then x else y)/\(∀{β:Type}{b:Bool}{x y:β},(bif !b then x else y)=bif b then y else x)/\
 (∀{a b:UInt8},((a.toNat:Int)=(b.toNat:Int))=(a=b))/\(∀{α:Type}[Enc α]{l:List α}{k:Nat},Enc.sz α=k->(cells l).length/k=l.length)/\(∀{α:Type}[Enc α],Enc.sz (List α)=1)/\
 (∀i n:Nat,inB (i:Int) n=decide (i<n))/\(∀n:Nat,((n:Nat):Int).toNat=n)/\
 (∀{α:Type}[Enc α]{l:List α}{k i:Nat},Enc.sz α=k->(cells l)[i*k]?=(l[i]?).bind fun x=>(Enc.enc x)[0]?)/\
 (∀{α:Type}[Enc α]{l:List α}{k i:Nat},Enc.sz α=k->1<k->(cells l)[i*k+1]?=(l[i]?).bind fun x=>(Enc.enc x)[1]?)/\
 (∀{α:Type}[Enc α]{l:List α}{k i:Nat},Enc.sz α=k->2<k->(cells l)[i*k+1+1]?=(l[i]?).bind fun x=>(Enc.enc x)[2]?)/\
 (∀{α:Type}[Enc α]{l:List α}{k i:Nat},Enc.sz α=k->3<k->(cells l)[i*k+1+1+1]?=(l[i]?).bind fun x=>(Enc.enc x)[3]?)/\
 (∀{α:Type}[Enc α]{l:List α}{k i:Nat},Enc.sz α=k->4<k->(cells l)[i*k+1+1+1+1]?=(l[i]?).bind fun x=>(Enc.enc x)[4]?)/\
 (∀{α:Type}[Enc α]{l:List α}{k i:Nat},Enc.sz α=k->5<k->(cells l)[i*k+1+1+1+1+1]?=(l[i]?).bind fun x=>(Enc.enc x)[5]?)/\
 (∀{α:Type}[Enc α]{l:List α}{k i:Nat},Enc.sz α=k->6<k->(cells l)[i*k+1+1+1+1+1+1]?=(l[i]?).bind fun x=>(Enc.enc x)[6]?)/\
 (∀{α:Type}[Enc α]{l:List α}{k i:Nat},Enc.sz α=k->7<k->(cells l)[i*k+1+1+1+1+1+1+1]?=(l[i]?).bind fun x=>(Enc.enc x)[7]?)/\
 (∀{α:Type}[Enc α]{l:List α}{k i:Nat},Enc.sz α=k->8<k->(cells l)[i*k+1+1+1+1+1+1+1+1]?=(l[i]?).bind fun x=>(Enc.enc x)[8]?)/\
 (∀{α β:Type}{x:α}{f:α->Option β},Option.bind (some x) f=f x)/\(∀{α:Type}{a:α}{l:List α},(a::l)[0]?=some a)/\(∀{α:Type}{a:α}{i:Nat}{l:List α},(a::l)[i+1]?=l[i]?)/\
 (∀(k:IntKind)(n:Int),oInt k (.int k n)=some n)/\(∀b:Bool,q82 (.bool b)=some b)/\(∀b:ByteArray,oStr (.str b)=some b)/\(∀{α:Type}[Enc α]{k:Nat}(l:List α),Enc.sz α=k->oSl k (slc l)=some (cells l))/\
 (∀c:List T,oAgg (.agg c)=some c)/\(∀c:List T,oTup (.tup c)=some c)/\(∀(x:T)(c:List T),q0s (x::c)=some (x,c))/\oNil []=some ()/\
 (∀{α:Type}[Enc α]{k:Nat}{l:List α},Enc.sz α=k->T.sl k (cells l)=slc l):=
 ⟨Int.ofNat_lt,qx7,qxb,qx6,qgx,qxq,qyp,q5m,qul,q7a,gR,get0,get1,get2,get3,get4,get5,get6,get7,get8,qwo,List.getElem?_cons_zero,List.getElem?_cons_succ,quu,qrr,qvp,qxn,qus,quv,qrt,qvq,qcd⟩
theorem tfs:(∀{α:Type}{h:Decidable True}(a b:α),ite True a b=a)/\(∀{α:Type}{h:Decidable False}(a b:α),ite False a b=b)/\(∀(h:Decidable True),@decide True h=true)/\
 (∀(h:Decidable False),@decide False h=false)/\(∀{α:Type}{a b:α},cond true a b=a)/\(∀{α:Type}{a b:α},cond false a b=b):=
 ⟨if_true,if_false,decide_true,decide_false,rfl,rfl⟩
theorem bns:(∀{r:T×List T}{g:List T->List T->List T->List T->List T->Int->R},bC r g=(q0s r.2).bind fun p=>(oNil p.2).bind fun _=>(oAgg p.1).bind fun c=>(q0s c).bind fun p=>(oSl 1 p.1).bind fun c1=>(q0s p.2).bind fun p=>(oSl 2 p.1).bind fun c2=>(q0s p.2).bind fun p=>(oSl 7 p.1).bind fun c3=>(q0s p.2).bind fun p=>(oSl 1 p.1).bind fun c4=>(q0s p.2).bind fun p=>(oSl 1 p.1).bind fun c5=>(q0s p.2).bind fun p=>(oInt .i64 p.1).bind fun n=>(oNil p.2).bind fun _=>g c1 c2 c3 c4 c5 n)/\
 (∀{r:T×List T}{g:Int->Int->R},bT r g=(oTup r.1).bind fun c=>(q0s c).bind fun p=>(oInt .i64 p.1).bind fun a=>(q0s p.2).bind fun p=>(oInt .i64 p.1).bind fun b=>(oNil p.2).bind fun _=>g a b)/\
 (∀{r:T×List T}{g:List T->List T->R},bQ r g=(oNil r.2).bind fun _=>(oAgg r.1).bind fun c=>(q0s c).bind fun p=>(oSl 1 p.1).bind fun a=>(q0s p.2).bind fun p=>(oSl 1 p.1).bind fun b=>(oNil p.2).bind fun _=>g a b)/\
 (∀{r:T×List T}{g:Int->Int->R},bR r g=(oNil r.2).bind fun _=>(oAgg r.1).bind fun c=>(q0s c).bind fun p=>(oInt .i64 p.1).bind fun a=>(q0s p.2).bind fun p=>(oInt .i64 p.1).bind fun b=>(oNil p.2).bind fun _=>g a b)/\
 (∀{r:T×List T}{g:Int->R},bI r g=(oNil r.2).bind fun _=>(oInt .i64 r.1).bind g)/\
 (∀{r:T×List T}{g:Bool->R},bB r g=(oNil r.2).bind fun _=>(q82 r.1).bind g)/\
 (∀{r:T×List T}{g:List T->R},bL r g=(oNil r.2).bind fun _=>(oSl 1 r.1).bind g)/\
 (∀{r:T×List T}{g:List T->R},bM r g=(oNil r.2).bind fun _=>(oSl 2 r.1).bind g)/\
 (∀{r:T×List T}{g:List T->Int->R},bS r g=(q0s r.2).bind fun p=>(oNil p.2).bind fun _=>(oAgg p.1).bind fun c=>(q0s c).bind fun p=>(oSl 1 p.1).bind fun c=>(q0s p.2).bind fun p=>(oInt .i64 p.1).bind fun n=>(oNil p.2).bind fun _=>g c n):=
 ⟨rfl,rfl,rfl,rfl,rfl,rfl,rfl,rfl,rfl⟩
theorem evz:type_of% tfs/\type_of% evs/\type_of% szs/\type_of% bns:=⟨tfs,evs,szs,bns⟩
class OfSh(s:Sh)(α:Type)[Enc α][Sm α] where
 of:s.Val->α
 enc:∀x,s.wf x->s.enc x=Enc.enc (of x)
 sz:s.size=Enc.sz α
 sm:∀x,s.wf x->Sm.sm maxLen (of x)
theorem q4t{a b:Sh}{x:(Sh.pair a b).Val}{l r:List T}(h1:a.enc x.1=l)(h2:b.enc x.2=r):(Sh.pair a b).enc x=l++r:=by rw[Sh.enc,h1,h2]
instance:OfSh (.int .i64) Int:=⟨id,fun _ _=>rfl,rfl,fun _ _=>trivial⟩
instance:OfSh .bool Bool:=⟨id,fun _ _=>rfl,rfl,fun _ _=>trivial⟩
instance:OfSh .str ByteArray:=⟨id,fun _ _=>rfl,rfl,fun _ h=>h⟩
theorem qyd(x:Int)(h:(Lit.int .u8 x).wf=true):[T.int .u8 x]=[T.int .u8 ((UInt8.ofNat (Int.toNat x)).toNat:Int)]:=by
 simp[Lit.wf,IntKind.min,IntKind.max,IntKind.signed,IntKind.bits]at h;rw[UInt8.toNat_ofNat'];congr 2;omega
instance:OfSh (.int .u8) UInt8:=⟨fun n=>UInt8.ofNat (Int.toNat n),fun x h=>qyd x h,rfl,fun _ _=>trivial⟩
theorem qqn{s:Sh}{α:Type}[Enc α][Sm α][OfSh s α]:∀(l:List s.Val),(∀x,x∈l->s.wf x)->l.flatMap s.enc=cells (l.map (OfSh.of (s:=s) (α:=α)))
 |[],_=>rfl
 |x::l,h=>by
  rw[gAN,List.map_cons,q6v,OfSh.enc (α:=α) x (h x (by simp)),qqn (α:=α) l fun y hy=>h y (by simp[hy])]
instance {s:Sh}{α:Type}[Enc α][Sm α][OfSh s α]:OfSh (.sl s) (List α):=⟨fun l=>l.map (OfSh.of (s:=s) (α:=α)),fun l h=>by
 show[T.sl s.size (List.flatMap s.enc l)]=[slc _]
 rw[qqn (α:=α) l h.2,OfSh.sz (s:=s) (α:=α)];rfl,rfl,fun l h=>⟨by simpa using h.1,fun x hx=>by
  obtain⟨y,hy,rfl⟩:=List.mem_map.1 hx;exact OfSh.sm y (h.2 y hy)⟩⟩
theorem arg_list{s:Sh}{α:Type}[Enc α][Sm α][OfSh s α](l:List s.Val)(h:(Sh.sl s).wf l):argOf (.sl s) l=slc (OfSh.of (s:=.sl s) (α:=List α) l):=by
 have:=OfSh.enc (s:=.sl s) (α:=List α) l h;simpa[Sh.enc,argOf]using this
@[reducible] def qhf:Sh:=.pair .str (.pair (.int .i64) .unit)
instance:OfSh qhf Symbol:=⟨fun x=>⟨OfSh.of (s:=.str) (α:=ByteArray) x.1,OfSh.of (s:=(.int .i64)) (α:=Int) x.2.1⟩,fun x h=>q4t (OfSh.enc (α:=ByteArray) x.1 h.1) (q4t (OfSh.enc (α:=Int) x.2.1 h.2.1) (rfl)),rfl,fun x h=>OfSh.sm (α:=ByteArray) x.1 h.1⟩
@[reducible] def qm5:Sh:=.pair (.sl qhf) .unit
instance:OfSh qm5 Signature:=⟨fun x=>⟨OfSh.of (s:=(.sl qhf)) (α:=List Symbol) x.1⟩,fun x h=>q4t (OfSh.enc (α:=List Symbol) x.1 h.1) (rfl),rfl,fun x h=>OfSh.sm (α:=List Symbol) x.1 h.1⟩
@[reducible] def q9g:Sh:=.pair (.sl (.int .i64)) (.pair (.sl (.int .i64)) .unit)
instance:OfSh q9g Equation:=⟨fun x=>⟨OfSh.of (s:=(.sl (.int .i64))) (α:=List Int) x.1,OfSh.of (s:=(.sl (.int .i64))) (α:=List Int) x.2.1⟩,fun x h=>q4t (OfSh.enc (α:=List Int) x.1 h.1) (q4t (OfSh.enc (α:=List Int) x.2.1 h.2.1) (rfl)),rfl,fun x h=>⟨OfSh.sm (α:=List Int) x.1 h.1,OfSh.sm (α:=List Int) x.2.1 h.2.1⟩⟩
@[reducible] def qra:Sh:=.pair (.sl (.int .i64)) (.pair (.sl (.sl (.int .i64))) .unit)
instance:OfSh qra Binding:=⟨fun x=>⟨OfSh.of (s:=(.sl (.int .i64))) (α:=List Int) x.1,OfSh.of (s:=(.sl (.sl (.int .i64)))) (α:=List (List Int)) x.2.1⟩,fun x h=>q4t (OfSh.enc (α:=List Int) x.1 h.1) (q4t (OfSh.enc (α:=List (List Int)) x.2.1 h.2.1) (rfl)),rfl,fun x h=>⟨OfSh.sm (α:=List Int) x.1 h.1,OfSh.sm (α:=List (List Int)) x.2.1 h.2.1⟩⟩
@[reducible] def qrs:Sh:=.pair (.int .i64) (.pair (.sl (.sl (.int .i64))) .unit)
instance:OfSh qrs Algebra:=⟨fun x=>⟨OfSh.of (s:=(.int .i64)) (α:=Int) x.1,OfSh.of (s:=(.sl (.sl (.int .i64)))) (α:=List (List Int)) x.2.1⟩,fun x h=>q4t (OfSh.enc (α:=Int) x.1 h.1) (q4t (OfSh.enc (α:=List (List Int)) x.2.1 h.2.1) (rfl)),rfl,fun x h=>OfSh.sm (α:=List (List Int)) x.2.1 h.2.1⟩
@[reducible] def qkw:Sh:=.pair (.int .i64) (.pair (.int .i64) (.pair (.int .i64) (.pair (.int .i64) (.pair (.int .i64) (.pair (.sl (.int .i64)) (.pair (.sl (.int .i64)) .unit))))))
instance:OfSh qkw Entry:=⟨fun x=>⟨OfSh.of (s:=(.int .i64)) (α:=Int) x.1,OfSh.of (s:=(.int .i64)) (α:=Int) x.2.1,OfSh.of (s:=(.int .i64)) (α:=Int) x.2.2.1,OfSh.of (s:=(.int .i64)) (α:=Int) x.2.2.2.1,OfSh.of (s:=(.int .i64)) (α:=Int) x.2.2.2.2.1,OfSh.of (s:=(.sl (.int .i64))) (α:=List Int) x.2.2.2.2.2.1,OfSh.of (s:=(.sl (.int .i64))) (α:=List Int) x.2.2.2.2.2.2.1⟩,fun x h=>q4t (OfSh.enc (α:=Int) x.1 h.1) (q4t (OfSh.enc (α:=Int) x.2.1 h.2.1) (q4t (OfSh.enc (α:=Int) x.2.2.1 h.2.2.1) (q4t (OfSh.enc (α:=Int) x.2.2.2.1 h.2.2.2.1) (q4t (OfSh.enc (α:=Int) x.2.2.2.2.1 h.2.2.2.2.1) (q4t (OfSh.enc (α:=List Int) x.2.2.2.2.2.1 h.2.2.2.2.2.1) (q4t (OfSh.enc (α:=List Int) x.2.2.2.2.2.2.1 h.2.2.2.2.2.2.1) (rfl))))))),rfl,fun x h=>⟨OfSh.sm (α:=List Int) x.2.2.2.2.2.1 h.2.2.2.2.2.1,OfSh.sm (α:=List Int) x.2.2.2.2.2.2.1 h.2.2.2.2.2.2.1⟩⟩
@[reducible] def qm0:Sh:=.pair (.sl (.int .i64)) (.pair (.sl q9g) (.pair (.sl qkw) (.pair (.sl (.int .i64)) (.pair (.sl (.int .i64)) (.pair (.int .i64) .unit)))))
instance:OfSh qm0 Completion:=⟨fun x=>⟨OfSh.of (s:=(.sl (.int .i64))) (α:=List Int) x.1,OfSh.of (s:=(.sl q9g)) (α:=List Equation) x.2.1,OfSh.of (s:=(.sl qkw)) (α:=List Entry) x.2.2.1,OfSh.of (s:=(.sl (.int .i64))) (α:=List Int) x.2.2.2.1,OfSh.of (s:=(.sl (.int .i64))) (α:=List Int) x.2.2.2.2.1,OfSh.of (s:=(.int .i64)) (α:=Int) x.2.2.2.2.2.1⟩,fun x h=>q4t (OfSh.enc (α:=List Int) x.1 h.1) (q4t (OfSh.enc (α:=List Equation) x.2.1 h.2.1) (q4t (OfSh.enc (α:=List Entry) x.2.2.1 h.2.2.1) (q4t (OfSh.enc (α:=List Int) x.2.2.2.1 h.2.2.2.1) (q4t (OfSh.enc (α:=List Int) x.2.2.2.2.1 h.2.2.2.2.1) (q4t (OfSh.enc (α:=Int) x.2.2.2.2.2.1 h.2.2.2.2.2.1) (rfl)))))),rfl,fun x h=>⟨OfSh.sm (α:=List Int) x.1 h.1,OfSh.sm (α:=List Equation) x.2.1 h.2.1,OfSh.sm (α:=List Entry) x.2.2.1 h.2.2.1,OfSh.sm (α:=List Int) x.2.2.2.1 h.2.2.2.1,OfSh.sm (α:=List Int) x.2.2.2.2.1 h.2.2.2.2.1⟩⟩
@[reducible] def qsd:Sh:=.pair (.sl (.int .i64)) (.pair (.sl q9g) (.pair (.sl q9g) .unit))
instance:OfSh qsd Theory:=⟨fun x=>⟨OfSh.of (s:=(.sl (.int .i64))) (α:=List Int) x.1,OfSh.of (s:=(.sl q9g)) (α:=List Equation) x.2.1,OfSh.of (s:=(.sl q9g)) (α:=List Equation) x.2.2.1⟩,fun x h=>q4t (OfSh.enc (α:=List Int) x.1 h.1) (q4t (OfSh.enc (α:=List Equation) x.2.1 h.2.1) (q4t (OfSh.enc (α:=List Equation) x.2.2.1 h.2.2.1) (rfl))),rfl,fun x h=>⟨OfSh.sm (α:=List Int) x.1 h.1,OfSh.sm (α:=List Equation) x.2.1 h.2.1,OfSh.sm (α:=List Equation) x.2.2.1 h.2.2.1⟩⟩
@[reducible] def qmy:Sh:=.pair (.int .i64) (.pair (.sl (.int .u8)) .unit)
instance:OfSh qmy Put:=⟨fun x=>⟨OfSh.of (s:=(.int .i64)) (α:=Int) x.1,OfSh.of (s:=(.sl (.int .u8))) (α:=List UInt8) x.2.1⟩,fun x h=>q4t (OfSh.enc (α:=Int) x.1 h.1) (q4t (OfSh.enc (α:=List UInt8) x.2.1 h.2.1) (rfl)),rfl,fun x h=>OfSh.sm (α:=List UInt8) x.2.1 h.2.1⟩
@[reducible] def qx8:Sh:=.pair (.sl (.sl (.int .u8))) (.pair (.sl qmy) .unit)
instance:OfSh qx8 Disk:=⟨fun x=>⟨OfSh.of (s:=(.sl (.sl (.int .u8)))) (α:=List (List UInt8)) x.1,OfSh.of (s:=(.sl qmy)) (α:=List Put) x.2.1⟩,fun x h=>q4t (OfSh.enc (α:=List (List UInt8)) x.1 h.1) (q4t (OfSh.enc (α:=List Put) x.2.1 h.2.1) (rfl)),rfl,fun x h=>⟨OfSh.sm (α:=List (List UInt8)) x.1 h.1,OfSh.sm (α:=List Put) x.2.1 h.2.1⟩⟩
@[reducible] def qys:Sh:=.pair (.int .i64) (.pair qmy .unit)
instance:OfSh qys Act:=⟨fun x=>⟨OfSh.of (s:=(.int .i64)) (α:=Int) x.1,OfSh.of (s:=qmy) (α:=Put) x.2.1⟩,fun x h=>q4t (OfSh.enc (α:=Int) x.1 h.1) (q4t (OfSh.enc (α:=Put) x.2.1 h.2.1) (rfl)),rfl,fun x h=>OfSh.sm (α:=Put) x.2.1 h.2.1⟩
def idx{α:Type}(p:α->Bool)(l:List α):Int:=match l.findIdx? p with
 |some i=>(i:Nat)
 |none => -1
theorem qdq{n:Nat}{bad:Nat->Bool}{S:Nat->Nat->R}{r z:R}
 (step:∀m k,k<n->S (m+1) k=if bad k=true then r else S m (k+1)) (stop:∀m,S (m+1) n=z) {f:Nat} (hf:n<f) :
 S f 0=if(List.range n).any bad=true then r else z:=by
 have:∀m k,k<=n->n<m+k->S m k=if(List.range' k (n-k)).any bad=true then r else z:=by
  intro m;induction m with
  |zero=>intros;omega
  |succ m ih=>
   intro k hk hm;by_cases h:k<n
   ·rw[step m k h,ih (k+1) (by omega) (by omega),show n-k=(n-(k+1))+1 by omega,List.range'_succ,List.any_cons];by_cases hb:bad k=true
    ·rw[if_pos hb,hb,Bool.true_or,if_pos rfl]
    ·have hb':=Bool.eq_false_iff.2 hb;rw[if_neg hb,hb',Bool.false_or]
   ·obtain rfl:k=n:=by omega
    rw[stop m];simp
 have:=this f 0 (by omega) (by omega);rwa[Nat.sub_zero,<- List.range_eq_range']at this
theorem qas{α:Type}{l:List α}{g:α->Option R}{S:Nat->Nat->R}{z:R}
 (step:∀m k (h:k<l.length),S (m+1) k=match g l[k]with|some r=>r|none=>S m (k+1)) (stop:∀m,S (m+1) l.length=z) {f:Nat} (hf:l.length<f) :
 S f 0=match l.findSome? g with|some r=>r|none=>z:=by
 have:∀m k,k<=l.length->l.length<m+k->S m k=match (l.drop k).findSome? g with|some r=>r|none=>z:=by
  intro m;induction m with
  |zero=>intros;omega
  |succ m ih=>
   intro k hk hm;by_cases h:k<l.length
   ·rw[step m k h,gH h,List.findSome?_cons];cases g l[k]with
    |none=>exact ih (k+1) (by omega) (by omega)
    |some r=>rfl
   ·obtain rfl:k=l.length:=by omega
    rw[stop m];simp
 simpa using this f 0 (by omega) (by omega)
theorem q9c{α:Type}{l:List α}{p:α->Bool}{S:Nat->Nat->R}{r z:R}
 (step:∀m k (h:k<l.length),S (m+1) k=if p l[k]=true then r else S m (k+1)) (stop:∀m,S (m+1) l.length=z) {f:Nat} (hf:l.length<f) :
 S f 0=if l.any p=true then r else z:=by
 have:∀m k,k<=l.length->l.length<m+k->S m k=if(l.drop k).any p=true then r else z:=by
  intro m;induction m with
  |zero=>intros;omega
  |succ m ih=>
   intro k hk hm;by_cases h:k<l.length
   ·rw[step m k h,gH h,List.any_cons,ih (k+1) (by omega) (by omega)];by_cases hb:p l[k]=true
    ·rw[if_pos hb,hb,Bool.true_or,if_pos rfl]
    ·have hb':=Bool.eq_false_iff.2 hb;rw[if_neg hb,hb',Bool.false_or]
   ·obtain rfl:k=l.length:=by omega
    rw[stop m];simp
 simpa using this f 0 (by omega) (by omega)
theorem qvn{α:Type}{l:List α}{p:α->Bool}{S:Nat->Nat->R}{r:R}
 (step:∀m k (h:k<l.length),S (m+1) k=if p l[k]=true then r else S m (k+1)) (ha:l.any p=true) {f:Nat} (hf:l.length<f):S f 0=r:=by
 have:∀m k,l.length<m+k->k<=l.length->(l.drop k).any p=true->S m k=r:=by
  intro m;induction m with
  |zero=>intros;omega
  |succ m ih=>
   intro k hm hk ha;by_cases h:k<l.length
   ·rw[gH h,List.any_cons,Bool.or_eq_true]at ha;rw[step m k h];by_cases hb:p l[k]=true
    ·rw[if_pos hb]
    ·rw[if_neg hb];exact ih (k+1) (by omega) (by omega) (ha.resolve_left hb)
   ·rw[gU (by omega)]at ha;cases ha
 exact this f 0 (by omega) (by omega) (by simpa using ha)
theorem q94{α:Type}{l:List α}{p:α->Bool}{S:Nat->Nat->R}
 (step:∀m k (h:k<l.length),S (m+1) k=if p l[k]=true then some (.int .i64 (k:Nat),[])else S m (k+1)) (stop:∀m,S (m+1) l.length=some (.int .i64 (-1),[])) {f:Nat} (hf:l.length<f) :
 S f 0=some (.int .i64 (idx p l),[]):=by
 have:∀m k,k<=l.length->l.length<m+k->S m k=some (.int .i64 (match (l.drop k).findIdx? p with|some i=>((i+k:Nat):Int)|none => -1),[]):=by
  intro m;induction m with
  |zero=>intros;omega
  |succ m ih=>
   intro k hk hm;by_cases h:k<l.length
   ·rw[step m k h,gH h,List.findIdx?_cons,ih (k+1) (by omega) (by omega)];by_cases hb:p l[k]=true
    ·simp[hb]
    ·simp only[hb];cases (l.drop (k+1)).findIdx? p with
     |none=>simp
     |some i=>simp;omega
   ·obtain rfl:k=l.length:=by omega
    rw[stop m];simp
 simpa[idx]using this f 0 (by omega) (by omega)
theorem q95{α:Type}(p:α->Bool)(l:List α):decide (idx p l>=0)=l.any p:=by
 unfold idx;cases h:l.findIdx? p with
 |none=>
  rw[List.findIdx?_eq_none_iff]at h;rw[Bool.eq_iff_iff];simp;intro x hx;simpa using h x hx
 |some i=>
  rw[List.findIdx?_eq_some_iff_getElem]at h;obtain⟨h1,h2,_⟩:=h;rw[Bool.eq_iff_iff];simp;exact⟨l[i],gG h1,h2⟩
theorem q8s{α:Type}(p:α->Bool)(l:List α):(idx p l = -1/\∀x,x∈l->p x=false)\/∃i,∃h:i<l.length,idx p l=(i:Nat)/\p l[i]=true/\∀j (hj:j<i),p (l[j]'(Nat.lt_trans hj h))=false:=by
 unfold idx;cases hx:l.findIdx? p with
 |none=>rw[List.findIdx?_eq_none_iff]at hx;exact .inl ⟨rfl,hx⟩
 |some i=>
  rw[List.findIdx?_eq_some_iff_getElem]at hx;obtain⟨h1,h2,h3⟩:=hx;exact .inr ⟨i,h1,rfl,h2,fun j hj=>by simpa using h3 j hj⟩
theorem q9r{α β γ:Type}(f:α->Option β)(g:β->γ):∀l:List α,l.findSome? (fun x=>(f x).map g)=(l.findSome? f).map g
 |[]=>rfl
 |x::l=>by
  rw[List.findSome?_cons,List.findSome?_cons];cases f x with
  |none=>exact q9r f g l
  |some b=>rfl
theorem qmf{α σ:Type}{l:List α}{S:Nat->Nat->σ->R}{g:σ->α->σ}{z:σ->R}(I:Nat->σ->Prop)
 (step:∀m k s (h:k<l.length),I k s->S (m+1) k s=S m (k+1) (g s l[k]))
 (inv:∀k s (h:k<l.length),I k s->I (k+1) (g s l[k]))
 (stop:∀m s,I l.length s->S (m+1) l.length s=z s) (s:σ) (h0:I 0 s) {f:Nat} (hf:l.length<f):S f 0 s=z (l.foldl g s):=by
 have:∀m k s,k<=l.length->l.length<m+k->I k s->S m k s=z ((l.drop k).foldl g s):=by
  intro m;induction m with
  |zero=>intros;omega
  |succ m ih=>
   intro k s hk hm hi;by_cases h:k<l.length
   ·rw[step m k s h hi,gH h,List.foldl_cons];exact ih (k+1) _ (by omega) (by omega) (inv k s h hi)
   ·obtain rfl:k=l.length:=by omega
    rw[stop m s hi,gU (gAI _),List.foldl_nil]
 simpa using this f 0 s (by omega) (by omega) h0
theorem qvm{α σ:Type}{l:List α}{g:σ->α->σ}(I:Nat->σ->Prop)(inv:∀k s (h:k<l.length),I k s->I (k+1) (g s l[k]))(s:σ)(h0:I 0 s):I l.length (l.foldl g s):=by
 have:∀n k s,k+n=l.length->I k s->I l.length ((l.drop k).foldl g s):=by
  intro n;induction n with
  |zero=>intro k s hk hi;obtain rfl:k=l.length:=by omega
         rw[gU (gAI _)];exact hi
  |succ n ih=>
   intro k s hk hi;have h:k<l.length:=by omega
   rw[gH h,List.foldl_cons];exact ih (k+1) _ (by omega) (inv k s h hi)
 simpa using this l.length 0 s (by omega) h0
theorem q4s{α:Type}[Enc α]:slc ([]:List α)=T.sl (Enc.sz α) []:=rfl
theorem q2f(l:List Int)(x:Int):cells l++[.int .i64 x]=cells (l++[x]):=by rw[q3c,<- q1l,qaj]
theorem q9u{α:Type}[Enc α](l:List (List α))(x:List α):cells l++[slc x]=cells (l++[x]):=by rw[q3c,<- qc2,qaj]
theorem qen(l:List UInt8)(x:UInt8):cells l++[.int .u8 x.toNat]=cells (l++[x]):=by rw[q3c,<- qm7,qaj]
theorem q44{a b:Nat}(h:a<=b):Nat.ble a b=true:=Nat.ble_eq_true_of_le h
theorem q8d{σ:Type}{n:Nat}{S:Nat->Nat->σ->R}{st:Nat->σ}{z:R}(step:∀m k,k<n->S (m+1) k (st k)=S m (k+1) (st (k+1)))(stop:∀m,S (m+1) n (st n)=z){f:Nat}(hf:n<f) :
 S f 0 (st 0)=z:=by
 have:∀m k,k<=n->n<m+k->S m k (st k)=z:=by
  intro m;induction m with
  |zero=>intros;omega
  |succ m ih=>
   intro k hk hm;by_cases h:k<n
   ·rw[step m k h];exact ih (k+1) (by omega) (by omega)
   ·obtain rfl:k=n:=by omega
    exact stop m
 exact this f 0 (by omega) (by omega)
theorem q5a(l:List Int):(cells l).all T.scalar=true:=by
 rw[gAL];intro x hx;obtain⟨y,_,hy⟩:=List.mem_flatMap.1 hx;obtain rfl:=gD.1 hy;rfl
end Ev.Ty
end
section
open Go
set_option maxRecDepth 100000
namespace Ev
noncomputable section
variable (n:Nat)(L0 L1 L2 L3 L4 L5:St->R)(m:Nat)(s:St)
def q3j.st0(x0:Int)(x1:List T)(x2 x3:Int):St:=⟨[(3,oi x0),(6,ol 1 x1),(7,oi x2),(8,oi x3)],[]⟩
def q3j.K0:=kx F.q3j n [.block 0,.seq 0 (cx F.q3j [1,1,1])] (q3v prog A F.q3j)
def q3j.at0:=lx F.q3j n 0 [1,1,0,1,0,0] (q3j.K0 n) m s
def q3j.rd0:=rx F.q3j n 0 [1,1,0,1,0,0] (q3j.K0 n) L0 s
theorem q3j.next0:q3j.at0 n (m+1) s=q3j.rd0 n (q3j.at0 n m) s:=nx ..
theorem q3j.round0(x0:Int)(x1:List T)(x2 x3:Int):q3j.rd0 n L0 (q3j.st0 x0 x1 x2 x3)=bif (decide (x3<x2))then bif inB x3 (x1.length/1)then(x1[x3.toNat*1]?).bind fun e1=>(oInt .i64 e1).bind fun n2=>bif (n2 != x0)then some (.int .i64 n2,[])else L0 (q3j.st0 x0 x1 x2 (IntKind.wrap .i64 (x3+1)))else none else some (.int .i64 x0,[]):=by kernel_rfl
theorem q3j.ev(a0:List T):q1b prog A H LIM n F.q3j [.sl 1 a0]=q3j.at0 n n (q3j.st0 (0:Int) a0 (((a0.length/1):Nat):Int) (0:Int)):=by kernel_rfl
def q2n.st0(x0:Int)(x1:List T)(x2 x3:Int):St:=⟨[(3,oi x0),(6,ol 1 x1),(7,oi x2),(8,oi x3)],[]⟩
def q2n.K0:=kx F.q2n n [.block 0,.seq 0 (cx F.q2n [1,1,1])] (q3v prog A F.q2n)
def q2n.at0:=lx F.q2n n 0 [1,1,0,1,0,0] (q2n.K0 n) m s
def q2n.rd0:=rx F.q2n n 0 [1,1,0,1,0,0] (q2n.K0 n) L0 s
theorem q2n.next0:q2n.at0 n (m+1) s=q2n.rd0 n (q2n.at0 n m) s:=nx ..
theorem q2n.round0(x0:Int)(x1:List T)(x2 x3:Int):q2n.rd0 n L0 (q2n.st0 x0 x1 x2 x3)=bif (decide (x3<x2))then bif inB x3 (x1.length/1)then(x1[x3.toNat*1]?).bind fun e1=>(oInt .i64 e1).bind fun n2=>bif (n2 != x0)then some (.int .i64 n2,[])else L0 (q2n.st0 x0 x1 x2 (IntKind.wrap .i64 (x3+1)))else none else some (.int .i64 x0,[]):=by kernel_rfl
theorem q2n.ev(a0:List T):q1b prog A H LIM n F.q2n [.sl 1 a0]=q2n.at0 n n (q2n.st0 (0:Int) a0 (((a0.length/1):Nat):Int) (0:Int)):=by kernel_rfl
def q0o.st0(x0:List T)(x1 x2:Int)(x3 x4 x5:List T):St:=⟨[(2,(.one (.ptr 128 0))),(5,(.one (.obj 640))),(11,ol 1 x0),(12,oi x1),(13,oi x2)],[(128,(.box [(.t (.sl 1 x3)),(.t (.sl 1 x4))])),(640,(.arr true true 1 x5))]⟩
def q0o.K0:=kx F.q0o n [.block 0,.seq 0 (cx F.q0o [1,1,1])] (q3v prog A F.q0o)
def q0o.at0:=lx F.q0o n 0 [1,1,0,1,0,0] (q0o.K0 n) m s
def q0o.rd0:=rx F.q0o n 0 [1,1,0,1,0,0] (q0o.K0 n) L0 s
theorem q0o.next0:q0o.at0 n (m+1) s=q0o.rd0 n (q0o.at0 n m) s:=nx ..
theorem q0o.round0(x0:List T)(x1 x2:Int)(x3 x4 x5:List T):q0o.rd0 n L0 (q0o.st0 x0 x1 x2 x3 x4 x5)=bif (decide (x2<x1))then bif inB x2 (x0.length/1)then(x0[x2.toNat*1]?).bind fun e1=>(oInt .i64 e1).bind fun n2=>(LIM F.q5p [.agg [.sl 1 x3,.sl 1 x4],.int .i64 (IntKind.wrap .i64 ((-1:Int)-n2))]).bind fun r3=>(oNil r3.2).bind fun _=>(oTup r3.1).bind fun c4=>(q0s c4).bind fun p5=>(oSl 1 p5.1).bind fun c6=>bif c6.all T.scalar then(q0s p5.2).bind fun p7=>(q82 p7.1).bind fun b8=>(oNil p7.2).bind fun _=>bif b8 then bif c6.all T.scalar then bif Nat.ble ((x5.length+c6.length)*8) (140737488355328*1)then L0 (q0o.st0 x0 x1 (IntKind.wrap .i64 (x2+1)) x3 x4 (x5++c6:List T))else none else none else bif Nat.ble ((x5.length+1)*8) (140737488355328*1)then L0 (q0o.st0 x0 x1 (IntKind.wrap .i64 (x2+1)) x3 x4 (x5++[.int .i64 n2]:List T))else none else none else none else some (.sl 1 x5,[]):=by kernel_rfl
theorem q0o.ev(a0_0 a0_1 a1:List T):q1b prog A H LIM n F.q0o [.agg [.sl 1 a0_0,.sl 1 a0_1],.sl 1 a1]=q0o.at0 n n (q0o.st0 a1 (((a1.length/1):Nat):Int) (0:Int) a0_0 a0_1 []):=by kernel_rfl
def q15.st0(x0:Int)(x1:List T)(x2:Int)(x3 x4:List T):St:=⟨[(0,(.one (.ptr 1000000 0))),(1,oi x0),(2,ol 1 x1),(6,oi x2)],[(1000000,(.box [(.obj 1000001),(.obj 1000002)])),(1000001,(.arr true true 1 x3)),(1000002,(.arr true true 1 x4))]⟩
def q15.K0:=kx F.q15 n [.block 0,.seq 0 (cx F.q15 [1,1])] (q3v prog A F.q15)
def q15.at0:=lx F.q15 n 0 [1,0,0,0] (q15.K0 n) m s
def q15.rd0:=rx F.q15 n 0 [1,0,0,0] (q15.K0 n) L0 s
theorem q15.next0:q15.at0 n (m+1) s=q15.rd0 n (q15.at0 n m) s:=nx ..
theorem q15.round0(x0:Int)(x1:List T)(x2:Int)(x3 x4:List T):q15.rd0 n L0 (q15.st0 x0 x1 x2 x3 x4)=bif (decide (x2<(((x3.length/1):Nat):Int)))then bif inB x2 (x3.length/1)then(x3[x2.toNat*1]?).bind fun e1=>(oInt .i64 e1).bind fun n2=>bif (decide (n2<x0))then L0 (q15.st0 x0 x1 (IntKind.wrap .i64 (x2+1)) x3 x4)else(LIM F.q6k [.sl 1 x3,.int .i64 x2,.sl 1 [.int .i64 x0]]).bind fun r3=>bL r3 fun c4=>(LIM F.q2c [.sl 1 x1]).bind fun r5=>bL r5 fun c6=>(LIM F.q6b [.sl 1 x4,.int .i64 x2,.sl 1 [.sl 1 c6]]).bind fun r7=>bL r7 fun c8=>some (.tup [],[.agg [.sl 1 c4,.sl 1 c8]])else none else(LIM F.q6k [.sl 1 x3,.int .i64 x2,.sl 1 [.int .i64 x0]]).bind fun r9=>bL r9 fun c10=>(LIM F.q2c [.sl 1 x1]).bind fun r11=>bL r11 fun c12=>(LIM F.q6b [.sl 1 x4,.int .i64 x2,.sl 1 [.sl 1 c12]]).bind fun r13=>bL r13 fun c14=>some (.tup [],[.agg [.sl 1 c10,.sl 1 c14]]):=by kernel_rfl
theorem q15.ev(a0_0 a0_1:List T)(a1:Int)(a2:List T):q1b prog A H LIM n F.q15 [.rref [.sl 1 a0_0,.sl 1 a0_1] 0,.int .i64 a1,.sl 1 a2]=q15.at0 n n (q15.st0 a1 a2 (0:Int) a0_0 a0_1):=by kernel_rfl
theorem q5p.ev(a0_0 a0_1:List T)(a1:Int):q1b prog A H LIM n F.q5p [.agg [.sl 1 a0_0,.sl 1 a0_1],.int .i64 a1]=(LIM F.q0f [.sl 1 a0_0,.int .i64 a1]).bind fun r1=>bI r1 fun n2=>bif (decide (n2<0))then some (.tup [.sl 1 [],.bool false],[])else bif inB n2 (a0_1.length/1)then(a0_1[n2.toNat*1]?).bind fun e3=>(oSl 1 e3).bind fun c4=>some (.tup [.sl 1 c4,.bool true],[])else none:=by kernel_rfl
def q17.st0(x0 x1 x2:List T)(x3 x4:Int)(x5:List T):St:=⟨[(1,ol 2 x0),(2,ol 7 x1),(3,(.one (.ptr 192 0))),(21,ol 7 x2),(22,oi x3),(23,oi x4)],[(192,(.box [(.t (.sl 2 x5))]))]⟩
def q17.K0:=kx F.q17 n [.block 0,.seq 0 (cx F.q17 [1,1,1,1])] (q3v prog A F.q17)
def q17.at0:=lx F.q17 n 0 [1,1,1,0,1,0,0] (q17.K0 n) m s
def q17.rd0:=rx F.q17 n 0 [1,1,1,0,1,0,0] (q17.K0 n) L0 s
theorem q17.next0:q17.at0 n (m+1) s=q17.rd0 n (q17.at0 n m) s:=nx ..
theorem q17.round0(x0 x1 x2:List T)(x3 x4:Int)(x5:List T):q17.rd0 n L0 (q17.st0 x0 x1 x2 x3 x4 x5)=bif (decide (x4<x3))then bif inB x4 (x2.length/7)then(x2[x4.toNat*7]?).bind fun e3=>(oInt .i64 e3).bind fun n4=>(x2[(x4.toNat*7)+1]?).bind fun e5=>(oInt .i64 e5).bind fun n6=>(x2[((x4.toNat*7)+1)+1]?).bind fun e7=>(oInt .i64 e7).bind fun n8=>(x2[(((x4.toNat*7)+1)+1)+1]?).bind fun e9=>(oInt .i64 e9).bind fun n10=>(x2[((((x4.toNat*7)+1)+1)+1)+1]?).bind fun e11=>(oInt .i64 e11).bind fun n12=>(x2[(((((x4.toNat*7)+1)+1)+1)+1)+1]?).bind fun e13=>(oSl 1 e13).bind fun c14=>(x2[((((((x4.toNat*7)+1)+1)+1)+1)+1)+1]?).bind fun e15=>(oSl 1 e15).bind fun c16=>bif decide (0<=(0:Int))&&decide ((0:Int)<=x4)&&decide (x4<=(((x1.length/7):Nat):Int))then(LIM F.q0u [.agg [.sl 2 x5],.sl 2 x0,.sl 7 ((x1.take (x4.toNat*7)).drop (0*7)),.agg [.int .i64 n4,.int .i64 n6,.int .i64 n8,.int .i64 n10,.int .i64 n12,.sl 1 [],.sl 1 []]]).bind fun r17=>(oNil r17.2).bind fun _=>(oTup r17.1).bind fun c18=>(q0s c18).bind fun p19=>(oAgg p19.1).bind fun c20=>(q0s c20).bind fun p21=>(oInt .i64 p21.1).bind fun n22=>(q0s p21.2).bind fun p23=>(oInt .i64 p23.1).bind fun n24=>(q0s p23.2).bind fun p25=>(oInt .i64 p25.1).bind fun n26=>(q0s p25.2).bind fun p27=>(oInt .i64 p27.1).bind fun n28=>(q0s p27.2).bind fun p29=>(oInt .i64 p29.1).bind fun n30=>(q0s p29.2).bind fun p31=>(oSl 1 p31.1).bind fun c32=>(q0s p31.2).bind fun p33=>(oSl 1 p33.1).bind fun c34=>(oNil p33.2).bind fun _=>(q0s p19.2).bind fun p35=>(oInt .i64 p35.1).bind fun n36=>(oNil p35.2).bind fun _=>bif (n36 != 0)then some (.int .i64 n36,[])else(LIM F.q3f [.agg [.int .i64 n22,.int .i64 n24,.int .i64 n26,.int .i64 n28,.int .i64 n30,.sl 1 c32,.sl 1 c34]]).bind fun r37=>bQ r37 fun c40 c42=>(LIM F.q3f [.agg [.int .i64 n4,.int .i64 n6,.int .i64 n8,.int .i64 n10,.int .i64 n12,.sl 1 c14,.sl 1 c16]]).bind fun r43=>bQ r43 fun c46 c48=>(LIM F.q5x [.agg [.sl 1 c40,.sl 1 c42],.agg [.sl 1 c46,.sl 1 c48]]).bind fun r49=>bB r49 fun b50=>bif (!b50)then some (.int .i64 8,[])else L0 (q17.st0 x0 x1 x2 x3 (IntKind.wrap .i64 (x4+1)) x5)else none else none else some (.int .i64 0,[]):=by kernel_rfl
theorem q17.ev(a0_0 a1 a2:List T):q1b prog A H LIM n F.q17 [.agg [.sl 2 a0_0],.sl 2 a1,.sl 7 a2]=(LIM F.q0x [.agg [.sl 2 a0_0],.sl 2 a1]).bind fun r1=>bI r1 fun n2=>bif (n2 != 0)then some (.int .i64 n2,[])else bif (decide ((((a2.length/7):Nat):Int)>500))then some (.int .i64 2,[])else q17.at0 n n (q17.st0 a1 a2 a2 (((a2.length/7):Nat):Int) (0:Int) a0_0):=by kernel_rfl
theorem q7y.ev(a0 a1:List T):q1b prog A H LIM n F.q7y [.sl 1 a0,.sl 1 a1]=bif (decide ((((a0.length/1):Nat):Int)>2000))then some (.agg [.int .i64 2,.int .i64 0],[])else bif (decide ((((a1.length/1):Nat):Int)>2000))then some (.agg [.int .i64 2,.int .i64 0],[])else(LIM F.q8a [.sl 1 a0,.sl 1 a1]).bind fun r1=>bI r1 fun n2=>some (.agg [.int .i64 0,.int .i64 n2],[]):=by kernel_rfl
theorem q3r.ev(a0_0 a1_0 a1_1 a1_2 a1_3 a1_4:List T)(a1_5:Int):q1b prog A H LIM n F.q3r [.agg [.sl 2 a0_0],.agg [.sl 1 a1_0,.sl 2 a1_1,.sl 7 a1_2,.sl 1 a1_3,.sl 1 a1_4,.int .i64 a1_5]]=(LIM F.q1g [.agg [.sl 2 a0_0],.sl 1 a1_0]).bind fun r1=>bI r1 fun n2=>(LIM F.q17 [.agg [.sl 2 a0_0],.sl 2 a1_1,.sl 7 a1_2]).bind fun r3=>bI r3 fun n4=>(LIM F.q67 [.sl 1 [.int .i64 n2,.int .i64 n4]]).bind fun r5=>bI r5 fun n6=>bif (n6 != 0)then some (.int .i64 n6,[])else bif (decide ((((a1_3.length/1):Nat):Int)>12))then some (.int .i64 2,[])else bif (decide ((((a1_4.length/1):Nat):Int)>100))then some (.int .i64 2,[])else(LIM F.q4q [.agg [.sl 1 a1_0,.sl 2 a1_1,.sl 7 a1_2,.sl 1 a1_3,.sl 1 a1_4,.int .i64 a1_5],.sl 1 a1_3]).bind fun r7=>bB r7 fun b8=>bif (!b8)then some (.int .i64 3,[])else(LIM F.q4q [.agg [.sl 1 a1_0,.sl 2 a1_1,.sl 7 a1_2,.sl 1 a1_3,.sl 1 a1_4,.int .i64 a1_5],.sl 1 a1_4]).bind fun r9=>bB r9 fun b10=>bif (!b10)then some (.int .i64 3,[])else(LIM F.q3l [.int .i64 a1_5,.int .i64 0,.int .i64 150]).bind fun r11=>bB r11 fun b12=>bif (!b12)then some (.int .i64 3,[])else(LIM F.q0w [.agg [.sl 1 a1_0,.sl 2 a1_1,.sl 7 a1_2,.sl 1 a1_3,.sl 1 a1_4,.int .i64 a1_5]]).bind fun r13=>bM r13 fun c14=>(LIM F.q4d [.sl 2 c14,.clo F.q3k [.rref [.sl 2 a0_0] 0,.rref [.sl 1 a1_0,.sl 2 a1_1,.sl 7 a1_2,.sl 1 a1_3,.sl 1 a1_4,.int .i64 a1_5] 0]]).bind fun r15=>bB r15 fun b16=>bif b16 then some (.int .i64 10,[])else some (.int .i64 0,[]):=by kernel_rfl
theorem q3k.ev(a0_0 a0_1 a1_0 a2_0 a2_1 a2_2 a2_3 a2_4:List T)(a2_5:Int):q1b prog A H LIM n F.q3k [.agg [.sl 1 a0_0,.sl 1 a0_1],.rref [.sl 2 a1_0] 0,.rref [.sl 1 a2_0,.sl 2 a2_1,.sl 7 a2_2,.sl 1 a2_3,.sl 1 a2_4,.int .i64 a2_5] 0]=(LIM F.q7l [.agg [.sl 2 a1_0],.sl 1 a2_0,.sl 1 a0_0,.sl 1 a0_1]).bind fun r1=>bB r1 fun b2=>some (.bool (!b2),[]):=by kernel_rfl
theorem q4q.ev(a0_0 a0_1 a0_2 a0_3 a0_4:List T)(a0_5:Int)(a1:List T):q1b prog A H LIM n F.q4q [.agg [.sl 1 a0_0,.sl 2 a0_1,.sl 7 a0_2,.sl 1 a0_3,.sl 1 a0_4,.int .i64 a0_5],.sl 1 a1]=(LIM F.q21 [.sl 1 a1,.clo F.q2l [.rref [.sl 1 a0_0,.sl 2 a0_1,.sl 7 a0_2,.sl 1 a0_3,.sl 1 a0_4,.int .i64 a0_5] 0]]).bind fun r1=>bB r1 fun b2=>some (.bool (!b2),[]):=by kernel_rfl
theorem q2l.ev(a0:Int)(a1_0 a1_1 a1_2 a1_3 a1_4:List T)(a1_5:Int):q1b prog A H LIM n F.q2l [.int .i64 a0,.rref [.sl 1 a1_0,.sl 2 a1_1,.sl 7 a1_2,.sl 1 a1_3,.sl 1 a1_4,.int .i64 a1_5] 0]=(LIM F.q3l [.int .i64 a0,.int .i64 0,(.int .i64 (IntKind.wrap .i64 ((((a1_2.length/7):Nat):Int)-1)))]).bind fun r1=>bB r1 fun b2=>some (.bool (!b2),[]):=by kernel_rfl
def q0w.st0(x0:List T)(x1 x2:Int)(x3 x4 x5 x6 x7:List T)(x8:Int)(x9:List T):St:=⟨[(1,(.one (.ptr 64 0))),(3,(.one (.obj 384))),(8,ol 1 x0),(9,oi x1),(10,oi x2)],[(64,(.box [(.t (.sl 1 x3)),(.t (.sl 2 x4)),(.t (.sl 7 x5)),(.t (.sl 1 x6)),(.t (.sl 1 x7)),(.t (.int .i64 x8))])),(384,(.arr true false 2 x9))]⟩
def q0w.K0:=kx F.q0w n [.block 0,.seq 0 (cx F.q0w [1,1,1])] (q3v prog A F.q0w)
def q0w.at0:=lx F.q0w n 0 [1,1,0,1,0,0] (q0w.K0 n) m s
def q0w.rd0:=rx F.q0w n 0 [1,1,0,1,0,0] (q0w.K0 n) L0 s
theorem q0w.next0:q0w.at0 n (m+1) s=q0w.rd0 n (q0w.at0 n m) s:=nx ..
theorem q0w.round0(x0:List T)(x1 x2:Int)(x3 x4 x5 x6 x7:List T)(x8:Int)(x9:List T):q0w.rd0 n L0 (q0w.st0 x0 x1 x2 x3 x4 x5 x6 x7 x8 x9)=bif (decide (x2<x1))then bif inB x2 (x0.length/1)then(x0[x2.toNat*1]?).bind fun e1=>(oInt .i64 e1).bind fun n2=>bif inB n2 (x5.length/7)then(x5[n2.toNat*7]?).bind fun e3=>(oInt .i64 e3).bind fun n4=>(x5[(n2.toNat*7)+1]?).bind fun e5=>(oInt .i64 e5).bind fun n6=>(x5[((n2.toNat*7)+1)+1]?).bind fun e7=>(oInt .i64 e7).bind fun n8=>(x5[(((n2.toNat*7)+1)+1)+1]?).bind fun e9=>(oInt .i64 e9).bind fun n10=>(x5[((((n2.toNat*7)+1)+1)+1)+1]?).bind fun e11=>(oInt .i64 e11).bind fun n12=>(x5[(((((n2.toNat*7)+1)+1)+1)+1)+1]?).bind fun e13=>(oSl 1 e13).bind fun c14=>(x5[((((((n2.toNat*7)+1)+1)+1)+1)+1)+1]?).bind fun e15=>(oSl 1 e15).bind fun c16=>(LIM F.q3f [.agg [.int .i64 n4,.int .i64 n6,.int .i64 n8,.int .i64 n10,.int .i64 n12,.sl 1 c14,.sl 1 c16]]).bind fun r17=>bQ r17 fun c20 c22=>bif Nat.ble ((x9.length+2)*48) (140737488355328*2)then L0 (q0w.st0 x0 x1 (IntKind.wrap .i64 (x2+1)) x3 x4 x5 x6 x7 x8 (x9++[.sl 1 c20,.sl 1 c22]:List T))else none else none else none else some (.sl 2 x9,[]):=by kernel_rfl
theorem q0w.ev(a0_0 a0_1 a0_2 a0_3 a0_4:List T)(a0_5:Int):q1b prog A H LIM n F.q0w [.agg [.sl 1 a0_0,.sl 2 a0_1,.sl 7 a0_2,.sl 1 a0_3,.sl 1 a0_4,.int .i64 a0_5]]=q0w.at0 n n (q0w.st0 a0_3 (((a0_3.length/1):Nat):Int) (0:Int) a0_0 a0_1 a0_2 a0_3 a0_4 a0_5 []):=by kernel_rfl
theorem q54.ev(a0_0 a0_1 a0_2 a0_3 a0_4:List T)(a0_5:Int):q1b prog A H LIM n F.q54 [.agg [.sl 1 a0_0,.sl 2 a0_1,.sl 7 a0_2,.sl 1 a0_3,.sl 1 a0_4,.int .i64 a0_5]]=(LIM F.q0w [.agg [.sl 1 a0_0,.sl 2 a0_1,.sl 7 a0_2,.sl 1 a0_3,.sl 1 a0_4,.int .i64 a0_5]]).bind fun r1=>bM r1 fun c2=>(LIM F.q1a [.sl 2 c2]).bind fun r3=>bM r3 fun c4=>(LIM F.q7q [.sl 2 c4,.clo F.q33 []]).bind fun r5=>(q0s r5.2).bind fun p6=>(oNil p6.2).bind fun _=>(oSl 2 p6.1).bind fun c7=>(oTup r5.1).bind fun c8=>(oNil c8).bind fun _=>some (.sl 2 c7,[]):=by kernel_rfl
theorem q3f.ev(a0_0 a0_1 a0_2 a0_3 a0_4:Int)(a0_5 a0_6:List T):q1b prog A H LIM n F.q3f [.agg [.int .i64 a0_0,.int .i64 a0_1,.int .i64 a0_2,.int .i64 a0_3,.int .i64 a0_4,.sl 1 a0_5,.sl 1 a0_6]]=some (.agg [.sl 1 a0_5,.sl 1 a0_6],[]):=by kernel_rfl
theorem q5r.ev(a0_0 a1_0 a1_1:List T):q1b prog A H LIM n F.q5r [.agg [.sl 2 a0_0],.agg [.sl 1 a1_0,.sl 1 a1_1]]=(LIM F.q4v [.agg [.sl 2 a0_0],.sl 1 a1_0]).bind fun r1=>bI r1 fun n2=>(LIM F.q4v [.agg [.sl 2 a0_0],.sl 1 a1_1]).bind fun r3=>bI r3 fun n4=>(LIM F.q67 [.sl 1 [.int .i64 n2,.int .i64 n4]]).bind fun r5=>bI r5 fun n6=>bif (n6 != 0)then some (.int .i64 n6,[])else(LIM F.q11 [.sl 1 [.sl 1 a1_0,.sl 1 a1_1]]).bind fun r7=>bL r7 fun c8=>(LIM F.q21 [.sl 1 c8,.clo F.q3q []]).bind fun r9=>bB r9 fun b10=>bif b10 then some (.int .i64 3,[])else some (.int .i64 0,[]):=by kernel_rfl
theorem q3q.ev(a0:Int):q1b prog A H LIM n F.q3q [.int .i64 a0]=some (.bool (decide (a0>=6)),[]):=by kernel_rfl
def q0x.st0(x0:List T)(x1 x2:Int)(x3:List T):St:=⟨[(2,(.one (.ptr 128 0))),(17,ol 2 x0),(18,oi x1),(19,oi x2)],[(128,(.box [(.t (.sl 2 x3))]))]⟩
def q0x.K0:=kx F.q0x n [.block 0,.seq 0 (cx F.q0x [1,1,1,1])] (q3v prog A F.q0x)
def q0x.at0:=lx F.q0x n 0 [1,1,1,0,1,0,0] (q0x.K0 n) m s
def q0x.rd0:=rx F.q0x n 0 [1,1,1,0,1,0,0] (q0x.K0 n) L0 s
theorem q0x.next0:q0x.at0 n (m+1) s=q0x.rd0 n (q0x.at0 n m) s:=nx ..
theorem q0x.round0(x0:List T)(x1 x2:Int)(x3:List T):q0x.rd0 n L0 (q0x.st0 x0 x1 x2 x3)=bif (decide (x2<x1))then bif inB x2 (x0.length/2)then(x0[x2.toNat*2]?).bind fun e3=>(oSl 1 e3).bind fun c4=>(x0[(x2.toNat*2)+1]?).bind fun e5=>(oSl 1 e5).bind fun c6=>(LIM F.q5r [.agg [.sl 2 x3],.agg [.sl 1 c4,.sl 1 c6]]).bind fun r7=>bI r7 fun n8=>bif (n8 != 0)then some (.int .i64 n8,[])else L0 (q0x.st0 x0 x1 (IntKind.wrap .i64 (x2+1)) x3)else none else some (.int .i64 0,[]):=by kernel_rfl
theorem q0x.ev(a0_0 a1:List T):q1b prog A H LIM n F.q0x [.agg [.sl 2 a0_0],.sl 2 a1]=(LIM F.q08 [.agg [.sl 2 a0_0]]).bind fun r1=>bI r1 fun n2=>bif (n2 != 0)then some (.int .i64 n2,[])else bif (decide ((((a1.length/2):Nat):Int)>12))then some (.int .i64 2,[])else q0x.at0 n n (q0x.st0 a1 (((a1.length/2):Nat):Int) (0:Int) a0_0):=by kernel_rfl
theorem q5q.ev(a0_0 a1_0 a1_1 a1_2 a1_3 a1_4:List T)(a1_5:Int):q1b prog A H LIM n F.q5q [.agg [.sl 2 a0_0],.agg [.sl 1 a1_0,.sl 2 a1_1,.sl 7 a1_2,.sl 1 a1_3,.sl 1 a1_4,.int .i64 a1_5]]=(LIM F.q3r [.agg [.sl 2 a0_0],.agg [.sl 1 a1_0,.sl 2 a1_1,.sl 7 a1_2,.sl 1 a1_3,.sl 1 a1_4,.int .i64 a1_5]]).bind fun r1=>bI r1 fun n2=>bif (n2==0)then some ((.bool (((((a1_4.length/1):Nat):Int)==0))),[])else some (.bool false,[]):=by kernel_rfl
def q14.st0(x0 x1 x2 x3:Int)(x4 x5 x6:List T)(x7 x8:Int)(x9 x10 x11:List T):St:=⟨[(6,(.one (.ptr 384 0))),(8,(.one (.ptr 1856 0))),(31,oi x0),(32,oi x1)],[(384,(.box [(.t (.int .i64 x2)),.nil,.nil,.nil,.nil,.nil,(.t (.int .i64 x3))])),(1536,(.arr true true 1 x4)),(1664,(.arr true true 2 x5)),(1856,(.box [(.t (.sl 2 x6)),(.obj 1536),(.obj 1664),(.obj 539699),(.obj 539700),(.obj 539701),(.t (.int .i64 x7)),(.t (.int .i64 x8))])),(539699,(.arr true true 7 x9)),(539700,(.arr true true 1 x10)),(539701,(.arr true true 1 x11))]⟩
def q14.K0:=kx F.q14 n [.block 0,.seq 0 (cx F.q14 [1,1,1,1])] (q3v prog A F.q14)
def q14.at0:=lx F.q14 n 0 [1,1,1,0,1,0,0] (q14.K0 n) m s
def q14.rd0:=rx F.q14 n 0 [1,1,1,0,1,0,0] (q14.K0 n) L0 s
theorem q14.next0:q14.at0 n (m+1) s=q14.rd0 n (q14.at0 n m) s:=nx ..
theorem q14.round0(x0 x1 x2 x3:Int)(x4 x5 x6:List T)(x7 x8:Int)(x9 x10 x11:List T):q14.rd0 n L0 (q14.st0 x0 x1 x2 x3 x4 x5 x6 x7 x8 x9 x10 x11)=bif (decide (x1<x0))then(LIM F.q7b [.rref [.sl 2 x6,.sl 1 x4,.sl 2 x5,.sl 7 x9,.sl 1 x10,.sl 1 x11,.int .i64 x7,.int .i64 x8] 0,.agg [.int .i64 1,.int .i64 x1,.int .i64 0,.int .i64 0,.int .i64 0,.sl 1 [],.sl 1 []]]).bind fun r11=>(q0s r11.2).bind fun p12=>(oNil p12.2).bind fun _=>(oAgg p12.1).bind fun c13=>(q0s c13).bind fun p14=>(oSl 2 p14.1).bind fun c15=>(q0s p14.2).bind fun p16=>(oSl 1 p16.1).bind fun c17=>(q0s p16.2).bind fun p18=>(oSl 2 p18.1).bind fun c19=>(q0s p18.2).bind fun p20=>(oSl 7 p20.1).bind fun c21=>(q0s p20.2).bind fun p22=>(oSl 1 p22.1).bind fun c23=>(q0s p22.2).bind fun p24=>(oSl 1 p24.1).bind fun c25=>(q0s p24.2).bind fun p26=>(oInt .i64 p26.1).bind fun n27=>(q0s p26.2).bind fun p28=>(oInt .i64 p28.1).bind fun n29=>(oNil p28.2).bind fun _=>(oInt .i64 r11.1).bind fun n30=>(LIM F.q73 [.rref [.sl 2 c15,.sl 1 c17,.sl 2 c19,.sl 7 c21,.sl 1 c23,.sl 1 c25,.int .i64 n27,.int .i64 n29] 0,.int .i64 n30]).bind fun r31=>(q0s r31.2).bind fun p32=>(oNil p32.2).bind fun _=>(oAgg p32.1).bind fun c33=>(q0s c33).bind fun p34=>(oSl 2 p34.1).bind fun c35=>(q0s p34.2).bind fun p36=>(oSl 1 p36.1).bind fun c37=>(q0s p36.2).bind fun p38=>(oSl 2 p38.1).bind fun c39=>(q0s p38.2).bind fun p40=>(oSl 7 p40.1).bind fun c41=>(q0s p40.2).bind fun p42=>(oSl 1 p42.1).bind fun c43=>(q0s p42.2).bind fun p44=>(oSl 1 p44.1).bind fun c45=>(q0s p44.2).bind fun p46=>(oInt .i64 p46.1).bind fun n47=>(q0s p46.2).bind fun p48=>(oInt .i64 p48.1).bind fun n49=>(oNil p48.2).bind fun _=>(oTup r31.1).bind fun c50=>(oNil c50).bind fun _=>L0 (q14.st0 x0 (IntKind.wrap .i64 (x1+1)) x2 x3 c37 c39 c35 n47 n49 c41 c43 c45)else some (.agg [.int .i64 0,.sl 1 x4,.sl 2 x5,.sl 7 x9,.sl 1 x10,.sl 1 x11,.int .i64 x7],[]):=by kernel_rfl
theorem q14.ev(a0_0 a1 a2:List T):q1b prog A H LIM n F.q14 [.agg [.sl 2 a0_0],.sl 1 a1,.sl 2 a2]=(LIM F.q1g [.agg [.sl 2 a0_0],.sl 1 a1]).bind fun r1=>bI r1 fun n2=>(LIM F.q0x [.agg [.sl 2 a0_0],.sl 2 a2]).bind fun r3=>bI r3 fun n4=>(LIM F.q67 [.sl 1 [.int .i64 n2,.int .i64 n4]]).bind fun r5=>bI r5 fun n6=>bif (n6 != 0)then some (.agg [.int .i64 n6,.sl 1 [],.sl 2 [],.sl 7 [],.sl 1 [],.sl 1 [],.int .i64 0],[])else(LIM F.q2c [.sl 1 a1]).bind fun r7=>bL r7 fun c8=>(LIM F.q1a [.sl 2 a2]).bind fun r9=>bM r9 fun c10=>q14.at0 n n (q14.st0 (((a2.length/2):Nat):Int) (0:Int) (0:Int) (0:Int) c8 c10 a0_0 (0:Int) (0:Int) [] [] []):=by kernel_rfl
def q1g.st0(x0 x1:List T)(x2 x3:Int):St:=⟨[(1,ol 1 x0),(22,ol 1 x1),(23,oi x2),(24,oi x3)],[]⟩
def q1g.K0:=kx F.q1g n [.block 0,.seq 0 (cx F.q1g [1,1,1,1,1])] (q3v prog A F.q1g)
def q1g.at0:=lx F.q1g n 0 [1,1,1,1,0,1,0,0] (q1g.K0 n) m s
def q1g.rd0:=rx F.q1g n 0 [1,1,1,1,0,1,0,0] (q1g.K0 n) L0 s
theorem q1g.next0:q1g.at0 n (m+1) s=q1g.rd0 n (q1g.at0 n m) s:=nx ..
theorem q1g.round0(x0 x1:List T)(x2 x3:Int):q1g.rd0 n L0 (q1g.st0 x0 x1 x2 x3)=bif (decide (x3<x2))then bif inB x3 (x1.length/1)then(x1[x3.toNat*1]?).bind fun e5=>(oInt .i64 e5).bind fun n6=>bif decide (0<=(0:Int))&&decide ((0:Int)<=x3)&&decide (x3<=(((x0.length/1):Nat):Int))then(LIM F.q1p [.sl 1 ((x0.take (x3.toNat*1)).drop (0*1)),.int .i64 n6]).bind fun r7=>bB r7 fun b8=>bif b8 then some (.int .i64 6,[])else L0 (q1g.st0 x0 x1 x2 (IntKind.wrap .i64 (x3+1)))else none else none else some (.int .i64 0,[]):=by kernel_rfl
theorem q1g.ev(a0_0 a1:List T):q1b prog A H LIM n F.q1g [.agg [.sl 2 a0_0],.sl 1 a1]=(LIM F.q08 [.agg [.sl 2 a0_0]]).bind fun r1=>bI r1 fun n2=>bif (n2 != 0)then some (.int .i64 n2,[])else bif (((((a1.length/1):Nat):Int) != (((a0_0.length/2):Nat):Int)))then some (.int .i64 2,[])else(LIM F.q21 [.sl 1 a1,.clo F.q4a [.rref [.sl 2 a0_0] 0]]).bind fun r3=>bB r3 fun b4=>bif b4 then some (.int .i64 3,[])else q1g.at0 n n (q1g.st0 a1 a1 (((a1.length/1):Nat):Int) (0:Int)):=by kernel_rfl
theorem q4a.ev(a0:Int)(a1_0:List T):q1b prog A H LIM n F.q4a [.int .i64 a0,.rref [.sl 2 a1_0] 0]=(LIM F.q65 [.agg [.sl 2 a1_0],.int .i64 a0]).bind fun r1=>bB r1 fun b2=>some (.bool (!b2),[]):=by kernel_rfl
theorem q93.ev(a0_0 a1:List T):q1b prog A H LIM n F.q93 [.agg [.sl 2 a0_0],.sl 1 a1]=(LIM F.q4v [.agg [.sl 2 a0_0],.sl 1 a1]).bind fun r1=>bI r1 fun n2=>bif (n2 != 0)then some (.agg [.int .i64 n2,.sl 1 []],[])else(LIM F.q27 [.sl 1 a1]).bind fun r3=>bL r3 fun c4=>some (.agg [.int .i64 0,.sl 1 c4],[]):=by kernel_rfl
theorem q8e.ev(a0_0 a1_0 a1_1 a2_0 a2_1:List T)(a3:Int):q1b prog A H LIM n F.q8e [.agg [.sl 2 a0_0],.agg [.sl 1 a1_0,.sl 1 a1_1],.agg [.sl 1 a2_0,.sl 1 a2_1],.int .i64 a3]=(LIM F.q5d [.agg [.sl 2 a0_0],.sl 2 [.sl 1 a1_0,.sl 1 a1_1,.sl 1 a2_0,.sl 1 a2_1]]).bind fun r1=>bI r1 fun n2=>bif (n2 != 0)then some (.agg [.int .i64 n2,.sl 1 [],.sl 1 []],[])else(LIM F.q3l [.int .i64 a3,.int .i64 0,(.int .i64 (IntKind.wrap .i64 ((((a1_0.length/1):Nat):Int)-1)))]).bind fun r3=>bB r3 fun b4=>bif (!b4)then some (.agg [.int .i64 3,.sl 1 [],.sl 1 []],[])else bif inB a3 (a1_0.length/1)then(a1_0[a3.toNat*1]?).bind fun e5=>(oInt .i64 e5).bind fun n6=>bif (decide (n6<0))then some (.agg [.int .i64 1,.sl 1 [],.sl 1 []],[])else(LIM F.q9k [.agg [.sl 2 a0_0],.agg [.sl 1 a1_0,.sl 1 a1_1],.agg [.sl 1 a2_0,.sl 1 a2_1],.int .i64 a3]).bind fun r7=>(oNil r7.2).bind fun _=>(oAgg r7.1).bind fun c8=>(q0s c8).bind fun p9=>(oInt .i64 p9.1).bind fun n10=>(q0s p9.2).bind fun p11=>(oSl 1 p11.1).bind fun c12=>(q0s p11.2).bind fun p13=>(oSl 1 p13.1).bind fun c14=>(oNil p13.2).bind fun _=>some (.agg [.int .i64 n10,.sl 1 c12,.sl 1 c14],[])else none:=by kernel_rfl
theorem q55.ev(a0_0 a1:List T)(a2 a3:Int)(a4:List T):q1b prog A H LIM n F.q55 [.agg [.sl 2 a0_0],.sl 2 a1,.int .i64 a2,.int .i64 a3,.sl 1 a4]=(LIM F.q5z [.agg [.sl 2 a0_0],.sl 2 a1,.sl 1 a4]).bind fun r1=>bI r1 fun n2=>bif (n2 != 0)then some (.agg [.int .i64 n2,.sl 1 []],[])else(LIM F.q3l [.int .i64 a2,.int .i64 0,(.int .i64 (IntKind.wrap .i64 ((((a1.length/2):Nat):Int)-1)))]).bind fun r3=>bB r3 fun b4=>bif (!b4)then some (.agg [.int .i64 3,.sl 1 []],[])else(LIM F.q3l [.int .i64 a3,.int .i64 0,(.int .i64 (IntKind.wrap .i64 ((((a4.length/1):Nat):Int)-1)))]).bind fun r5=>bB r5 fun b6=>bif (!b6)then some (.agg [.int .i64 3,.sl 1 []],[])else bif inB a2 (a1.length/2)then(a1[a2.toNat*2]?).bind fun e7=>(oSl 1 e7).bind fun c8=>(a1[(a2.toNat*2)+1]?).bind fun e9=>(oSl 1 e9).bind fun c10=>(LIM F.q7o [.agg [.sl 2 a0_0],.agg [.sl 1 c8,.sl 1 c10],.sl 1 a4,.int .i64 a3]).bind fun r11=>(oNil r11.2).bind fun _=>(oAgg r11.1).bind fun c12=>(q0s c12).bind fun p13=>(oInt .i64 p13.1).bind fun n14=>(q0s p13.2).bind fun p15=>(oSl 1 p15.1).bind fun c16=>(oNil p15.2).bind fun _=>some (.agg [.int .i64 n14,.sl 1 c16],[])else none:=by kernel_rfl
theorem q5d.ev(a0_0 a1:List T):q1b prog A H LIM n F.q5d [.agg [.sl 2 a0_0],.sl 2 a1]=(LIM F.q0x [.agg [.sl 2 a0_0],.sl 2 a1]).bind fun r1=>bI r1 fun n2=>bif (n2 != 0)then some (.int .i64 n2,[])else(LIM F.q4d [.sl 2 a1,.clo F.q4c []]).bind fun r3=>bB r3 fun b4=>bif b4 then some (.int .i64 1,[])else some (.int .i64 0,[]):=by kernel_rfl
theorem q4c.ev(a0_0 a0_1:List T):q1b prog A H LIM n F.q4c [.agg [.sl 1 a0_0,.sl 1 a0_1]]=(LIM F.q9l [.agg [.sl 1 a0_0,.sl 1 a0_1]]).bind fun r1=>bB r1 fun b2=>some (.bool (!b2),[]):=by kernel_rfl
theorem q7h.ev(a0_0 a1_0 a1_1 a1_2 a1_3 a1_4:List T)(a1_5:Int):q1b prog A H LIM n F.q7h [.agg [.sl 2 a0_0],.agg [.sl 1 a1_0,.sl 2 a1_1,.sl 7 a1_2,.sl 1 a1_3,.sl 1 a1_4,.int .i64 a1_5]]=(LIM F.q3r [.agg [.sl 2 a0_0],.agg [.sl 1 a1_0,.sl 2 a1_1,.sl 7 a1_2,.sl 1 a1_3,.sl 1 a1_4,.int .i64 a1_5]]).bind fun r1=>bI r1 fun n2=>bif (n2 != 0)then some (.agg [.int .i64 n2,.sl 2 []],[])else(LIM F.q54 [.agg [.sl 1 a1_0,.sl 2 a1_1,.sl 7 a1_2,.sl 1 a1_3,.sl 1 a1_4,.int .i64 a1_5]]).bind fun r3=>bM r3 fun c4=>some (.agg [.int .i64 0,.sl 2 c4],[]):=by kernel_rfl
def q08.st2(x0:List T)(x1 x2:Int)(x3:List T):St:=⟨[(1,(.one (.ptr 64 0))),(34,ol 2 x0),(35,oi x1),(36,oi x2)],[(64,(.box [(.t (.sl 2 x3))]))]⟩
def q08.st0(x0:List T)(x1 x2:Int)(x3:List T):St:=⟨[(1,(.one (.ptr 64 0))),(18,ol 2 x0),(19,oi x1),(20,oi x2)],[(64,(.box [(.t (.sl 2 x3))]))]⟩
def q08.K0:=kx F.q08 n [.block 0,.seq 0 (cx F.q08 [1,1,1])] (q3v prog A F.q08)
def q08.at0:=lx F.q08 n 0 [1,1,0,1,0,0] (q08.K0 n) m s
def q08.rd0:=rx F.q08 n 0 [1,1,0,1,0,0] (q08.K0 n) L0 s
theorem q08.next0:q08.at0 n (m+1) s=q08.rd0 n (q08.at0 n m) s:=nx ..
def q08.K2:=kx F.q08 n [.block 2,.seq 0 (cx F.q08 [1,1,1,1])] (q3v prog A F.q08)
def q08.at2:=lx F.q08 n 2 [1,1,1,0,1,0,0] (q08.K2 n) m s
def q08.rd2:=rx F.q08 n 2 [1,1,1,0,1,0,0] (q08.K2 n) L2 s
theorem q08.next2:q08.at2 n (m+1) s=q08.rd2 n (q08.at2 n m) s:=nx ..
theorem q08.round0(x0:List T)(x1 x2:Int)(x3:List T):q08.rd0 n L0 (q08.st0 x0 x1 x2 x3)=bif (decide (x2<x1))then bif inB x2 (x0.length/2)then(x0[x2.toNat*2]?).bind fun e1=>(oStr e1).bind fun s2=>(x0[(x2.toNat*2)+1]?).bind fun e3=>(oInt .i64 e3).bind fun n4=>(LIM F.q9h [.str s2]).bind fun r5=>bB r5 fun b6=>bif (!b6)then some (.int .i64 5,[])else(LIM F.q3l [.int .i64 n4,.int .i64 0,.int .i64 2]).bind fun r7=>bB r7 fun b8=>bif (!b8)then some (.int .i64 3,[])else L0 (q08.st0 x0 x1 (IntKind.wrap .i64 (x2+1)) x3)else none else q08.at2 n n (q08.st2 x3 (((x3.length/2):Nat):Int) (0:Int) x3):=by kernel_rfl
theorem q08.round2(x0:List T)(x1 x2:Int)(x3:List T):q08.rd2 n L2 (q08.st2 x0 x1 x2 x3)=bif (decide (x2<x1))then bif inB x2 (x0.length/2)then(x0[x2.toNat*2]?).bind fun e9=>(oStr e9).bind fun s10=>(x0[(x2.toNat*2)+1]?).bind fun e11=>(oInt .i64 e11).bind fun n12=>(LIM F.q6j [.agg [.sl 2 x3],.str s10]).bind fun r13=>bI r13 fun n14=>bif (n14 != x2)then some (.int .i64 6,[])else L2 (q08.st2 x0 x1 (IntKind.wrap .i64 (x2+1)) x3)else none else(LIM F.q77 [.sl 2 x3,.clo F.q3m []]).bind fun r15=>bB r15 fun b16=>bif (!b16)then some (.int .i64 4,[])else some (.int .i64 0,[]):=by kernel_rfl
theorem q08.ev(a0_0:List T):q1b prog A H LIM n F.q08 [.agg [.sl 2 a0_0]]=bif (decide ((((a0_0.length/2):Nat):Int)<1))then some (.int .i64 2,[])else bif (decide ((((a0_0.length/2):Nat):Int)>6))then some (.int .i64 2,[])else q08.at0 n n (q08.st0 a0_0 (((a0_0.length/2):Nat):Int) (0:Int) a0_0):=by kernel_rfl
theorem q3m.ev(a0_0:ByteArray)(a0_1:Int):q1b prog A H LIM n F.q3m [.agg [.str a0_0,.int .i64 a0_1]]=some (.bool (a0_1==0),[]):=by kernel_rfl
theorem q4v.ev(a0_0 a1:List T):q1b prog A H LIM n F.q4v [.agg [.sl 2 a0_0],.sl 1 a1]=(LIM F.q08 [.agg [.sl 2 a0_0]]).bind fun r1=>bI r1 fun n2=>bif (n2 != 0)then some (.int .i64 n2,[])else bif (decide ((((a1.length/1):Nat):Int)<1))then some (.int .i64 2,[])else bif (decide ((((a1.length/1):Nat):Int)>24))then some (.int .i64 2,[])else(LIM F.q21 [.sl 1 a1,.clo F.q4i [.rref [.sl 2 a0_0] 0]]).bind fun r3=>bB r3 fun b4=>bif b4 then some (.int .i64 3,[])else(LIM F.q3d [.agg [.sl 2 a0_0],.sl 1 a1,.int .i64 0]).bind fun r5=>bI r5 fun n6=>bif ((n6 != (((a1.length/1):Nat):Int)))then some (.int .i64 1,[])else some (.int .i64 0,[]):=by kernel_rfl
theorem q4i.ev(a0:Int)(a1_0:List T):q1b prog A H LIM n F.q4i [.int .i64 a0,.rref [.sl 2 a1_0] 0]=(LIM F.q9f [.agg [.sl 2 a1_0],.int .i64 a0]).bind fun r1=>bB r1 fun b2=>some (.bool (!b2),[]):=by kernel_rfl
def q0z.st0(x0:List T)(x1 x2 x3:Int)(x4 x5:List T):St:=⟨[(1,ol 1 x0),(3,(.one (.ptr 192 0))),(7,(.one (.obj 576))),(8,oi x1),(17,oi x2),(18,oi x3)],[(192,(.box [(.t (.sl 2 x4))])),(576,(.arr true true 1 x5))]⟩
def q0z.K0:=kx F.q0z n [.block 0,.seq 0 (cx F.q0z [1,1,1,1])] (q3v prog A F.q0z)
def q0z.at0:=lx F.q0z n 0 [1,1,1,0,1,0,0] (q0z.K0 n) m s
def q0z.rd0:=rx F.q0z n 0 [1,1,1,0,1,0,0] (q0z.K0 n) L0 s
theorem q0z.next0:q0z.at0 n (m+1) s=q0z.rd0 n (q0z.at0 n m) s:=nx ..
theorem q0z.round0(x0:List T)(x1 x2 x3:Int)(x4 x5:List T):q0z.rd0 n L0 (q0z.st0 x0 x1 x2 x3 x4 x5)=bif (decide (x3<x2))then bif Nat.ble ((x5.length+1)*8) (140737488355328*1)then(LIM F.q3d [.agg [.sl 2 x4],.sl 1 x0,.int .i64 x1]).bind fun r5=>bI r5 fun n6=>L0 (q0z.st0 x0 n6 x2 (IntKind.wrap .i64 (x3+1)) x4 (x5++[.int .i64 x1]:List T))else none else some (.sl 1 x5,[]):=by kernel_rfl
theorem q0z.ev(a0_0 a1:List T)(a2:Int):q1b prog A H LIM n F.q0z [.agg [.sl 2 a0_0],.sl 1 a1,.int .i64 a2]=bif inB a2 (a1.length/1)then(a1[a2.toNat*1]?).bind fun e1=>(oInt .i64 e1).bind fun n2=>(LIM F.q7e [.agg [.sl 2 a0_0],.int .i64 n2]).bind fun r3=>bI r3 fun n4=>q0z.at0 n n (q0z.st0 a1 (IntKind.wrap .i64 (a2+1)) n4 (0:Int) a0_0 [])else none:=by kernel_rfl
theorem q7e.ev(a0_0:List T)(a1:Int):q1b prog A H LIM n F.q7e [.agg [.sl 2 a0_0],.int .i64 a1]=bif (decide (a1<0))then some (.int .i64 0,[])else bif inB a1 (a0_0.length/2)then(a0_0[(a1.toNat*2)+1]?).bind fun e1=>(oInt .i64 e1).bind fun n2=>some (.int .i64 n2,[])else none:=by kernel_rfl
theorem q33.ev(a0_0 a0_1 a1_0 a1_1:List T):q1b prog A H LIM n F.q33 [.agg [.sl 1 a0_0,.sl 1 a0_1],.agg [.sl 1 a1_0,.sl 1 a1_1]]=(LIM F.q27 [.sl 1 a0_0]).bind fun r1=>bL r1 fun c2=>(LIM F.q27 [.sl 1 a1_0]).bind fun r3=>bL r3 fun c4=>(LIM F.q8a [.sl 1 c2,.sl 1 c4]).bind fun r5=>bI r5 fun n6=>(LIM F.q27 [.sl 1 a0_1]).bind fun r7=>bL r7 fun c8=>(LIM F.q27 [.sl 1 a1_1]).bind fun r9=>bL r9 fun c10=>(LIM F.q8a [.sl 1 c8,.sl 1 c10]).bind fun r11=>bI r11 fun n12=>(LIM F.q3j [.sl 1 [.int .i64 n6,.int .i64 n12]]).bind fun r13=>bI r13 fun n14=>some (.int .i64 n14,[]):=by kernel_rfl
theorem q40.ev(a0_0 a0_1 a0_2 a0_3:List T)(a0_4:List (Int×Int×Bool))(a1 a2:Int):q1b prog A H LIM n F.q40 [.rref [.sl 2 a0_0,.sl 1 a0_1,.sl 1 a0_2,.sl 1 a0_3,.mp a0_4] 0,.int .i64 a1,.int .i64 a2]=bif (qa7 a0_4 a1 a2).isSome then some (.bool ((qa7 a0_4 a1 a2).getD false),[.agg [.sl 2 a0_0,.sl 1 a0_1,.sl 1 a0_2,.sl 1 a0_3,.mp a0_4]])else(LIM F.q01 [.rref [.sl 2 a0_0,.sl 1 a0_1,.sl 1 a0_2,.sl 1 a0_3,.mp a0_4] 0,.int .i64 a1,.int .i64 a2]).bind fun r1=>(q0s r1.2).bind fun p2=>(oNil p2.2).bind fun _=>(oAgg p2.1).bind fun c3=>(q0s c3).bind fun p4=>(oSl 2 p4.1).bind fun c5=>(q0s p4.2).bind fun p6=>(oSl 1 p6.1).bind fun c7=>(q0s p6.2).bind fun p8=>(oSl 1 p8.1).bind fun c9=>(q0s p8.2).bind fun p10=>(oSl 1 p10.1).bind fun c11=>(q0s p10.2).bind fun p12=>bif (p12.1).isMp then(oNil p12.2).bind fun _=>(q82 r1.1).bind fun b13=>some (.bool b13,[.agg [.sl 2 c5,.sl 1 c7,.sl 1 c9,.sl 1 c11,.mp (qez ((p12.1).mpL) a1 a2 b13)]])else none:=by kernel_rfl
def q01.st4(x0 x1:Int)(x2 x3 x4 x5:List T)(x6:List (Int×Int×Bool))(x7 x8:List T):St:=⟨[(0,(.one (.ptr 1000000 0))),(10,(.one (.obj 4544))),(118,(.one (.obj 3904))),(119,oi x0),(120,oi x1)],[(1000000,(.box [(.t (.sl 2 x2)),(.t (.sl 1 x3)),(.t (.sl 1 x4)),(.t (.sl 1 x5)),(.obj 1000005)])),(1000005,(.mp x6)),(3904,(.arr true true 1 x7)),(4544,(.arr true true 1 x8))]⟩
def q01.st2(x0 x1 x2 x3:Int)(x4 x5 x6 x7:List T)(x8:List (Int×Int×Bool))(x9 x10:List T):St:=⟨[(0,(.one (.ptr 1000000 0))),(1,oi x0),(9,(.one (.obj 3904))),(10,(.one (.obj 4544))),(13,oi x1),(104,(.one (.obj 4544))),(105,oi x2),(106,oi x3)],[(1000000,(.box [(.t (.sl 2 x4)),(.t (.sl 1 x5)),(.t (.sl 1 x6)),(.t (.sl 1 x7)),(.obj 1000005)])),(1000005,(.mp x8)),(3904,(.arr true true 1 x9)),(4544,(.arr true true 1 x10))]⟩
def q01.st0(x0 x1 x2 x3 x4 x5:Int)(x6 x7 x8 x9:List T)(x10:List (Int×Int×Bool))(x11 x12:List T):St:=⟨[(0,(.one (.ptr 1000000 0))),(1,oi x0),(2,oi x1),(7,oi x2),(8,oi x3),(9,(.one (.obj 3904))),(10,(.one (.obj 4544))),(72,(.one (.obj 3904))),(73,oi x4),(74,oi x5)],[(1000000,(.box [(.t (.sl 2 x6)),(.t (.sl 1 x7)),(.t (.sl 1 x8)),(.t (.sl 1 x9)),(.obj 1000005)])),(1000005,(.mp x10)),(3904,(.arr true true 1 x11)),(4544,(.arr true true 1 x12))]⟩
def q01.K0:=kx F.q01 n [.block 0,.seq 0 (cx F.q01 [1,1,1,1,1,1])] (q3v prog A F.q01)
def q01.at0:=lx F.q01 n 0 [1,1,1,1,1,0,1,0,0] (q01.K0 n) m s
def q01.rd0:=rx F.q01 n 0 [1,1,1,1,1,0,1,0,0] (q01.K0 n) L0 s
theorem q01.next0:q01.at0 n (m+1) s=q01.rd0 n (q01.at0 n m) s:=nx ..
def q01.K2:=kx F.q01 n [.block 2,.seq 0 (cx F.q01 [1,1,1,1,1,1,1,1,1])] (q3v prog A F.q01)
def q01.at2:=lx F.q01 n 2 [1,1,1,1,1,1,1,1,0,1,0,0] (q01.K2 n) m s
def q01.rd2:=rx F.q01 n 2 [1,1,1,1,1,1,1,1,0,1,0,0] (q01.K2 n) L2 s
theorem q01.next2:q01.at2 n (m+1) s=q01.rd2 n (q01.at2 n m) s:=nx ..
def q01.K4:=kx F.q01 n [.block 4,.seq 0 (cx F.q01 [1,1,1,1,1,1,1,1,1,1,1])] (q3v prog A F.q01)
def q01.at4:=lx F.q01 n 4 [1,1,1,1,1,1,1,1,1,1,0,1,0,0] (q01.K4 n) m s
def q01.rd4:=rx F.q01 n 4 [1,1,1,1,1,1,1,1,1,1,0,1,0,0] (q01.K4 n) L4 s
theorem q01.next4:q01.at4 n (m+1) s=q01.rd4 n (q01.at4 n m) s:=nx ..
theorem q01.round0(x0 x1 x2 x3 x4 x5:Int)(x6 x7 x8 x9:List T)(x10:List (Int×Int×Bool))(x11 x12:List T):q01.rd0 n L0 (q01.st0 x0 x1 x2 x3 x4 x5 x6 x7 x8 x9 x10 x11 x12)=bif (decide (x5<x4))then bif inB x5 (x11.length/1)then(x11[x5.toNat*1]?).bind fun e13=>(oInt .i64 e13).bind fun n14=>(LIM F.q4y [.rref [.sl 2 x6,.sl 1 x7,.sl 1 x8,.sl 1 x9,.mp x10] 0,.int .i64 n14,.int .i64 x1]).bind fun r15=>(q0s r15.2).bind fun p16=>(oNil p16.2).bind fun _=>(oAgg p16.1).bind fun c17=>(q0s c17).bind fun p18=>(oSl 2 p18.1).bind fun c19=>(q0s p18.2).bind fun p20=>(oSl 1 p20.1).bind fun c21=>(q0s p20.2).bind fun p22=>(oSl 1 p22.1).bind fun c23=>(q0s p22.2).bind fun p24=>(oSl 1 p24.1).bind fun c25=>(q0s p24.2).bind fun p26=>bif (p26.1).isMp then(oNil p26.2).bind fun _=>(q82 r15.1).bind fun b27=>bif b27 then some (.bool true,[.agg [.sl 2 c19,.sl 1 c21,.sl 1 c23,.sl 1 c25,.mp ((p26.1).mpL)]])else(LIM F.q40 [.rref [.sl 2 c19,.sl 1 c21,.sl 1 c23,.sl 1 c25,.mp ((p26.1).mpL)] 0,.int .i64 n14,.int .i64 x1]).bind fun r28=>(q0s r28.2).bind fun p29=>(oNil p29.2).bind fun _=>(oAgg p29.1).bind fun c30=>(q0s c30).bind fun p31=>(oSl 2 p31.1).bind fun c32=>(q0s p31.2).bind fun p33=>(oSl 1 p33.1).bind fun c34=>(q0s p33.2).bind fun p35=>(oSl 1 p35.1).bind fun c36=>(q0s p35.2).bind fun p37=>(oSl 1 p37.1).bind fun c38=>(q0s p37.2).bind fun p39=>bif (p39.1).isMp then(oNil p39.2).bind fun _=>(q82 r28.1).bind fun b40=>bif b40 then some (.bool true,[.agg [.sl 2 c32,.sl 1 c34,.sl 1 c36,.sl 1 c38,.mp ((p39.1).mpL)]])else L0 (q01.st0 x0 x1 x2 x3 x4 (IntKind.wrap .i64 (x5+1)) c32 c34 c36 c38 ((p39.1).mpL) x11 x12)else none else none else none else(LIM F.q0f [.sl 1 x7,.int .i64 x2]).bind fun r41=>bI r41 fun n42=>(LIM F.q0f [.sl 1 x7,.int .i64 x3]).bind fun r43=>bI r43 fun n44=>bif (decide ((IntKind.wrap .i64 (n42-n44))<0))then some (.bool false,[.agg [.sl 2 x6,.sl 1 x7,.sl 1 x8,.sl 1 x9,.mp x10]])else q01.at2 n n (q01.st2 x0 (IntKind.wrap .i64 (n42-n44)) (((x12.length/1):Nat):Int) (0:Int) x6 x7 x8 x9 x10 x11 x12):=by kernel_rfl
theorem q01.round2(x0 x1 x2 x3:Int)(x4 x5 x6 x7:List T)(x8:List (Int×Int×Bool))(x9 x10:List T):q01.rd2 n L2 (q01.st2 x0 x1 x2 x3 x4 x5 x6 x7 x8 x9 x10)=bif (decide (x3<x2))then bif inB x3 (x10.length/1)then(x10[x3.toNat*1]?).bind fun e45=>(oInt .i64 e45).bind fun n46=>(LIM F.q40 [.rref [.sl 2 x4,.sl 1 x5,.sl 1 x6,.sl 1 x7,.mp x8] 0,.int .i64 x0,.int .i64 n46]).bind fun r47=>(q0s r47.2).bind fun p48=>(oNil p48.2).bind fun _=>(oAgg p48.1).bind fun c49=>(q0s c49).bind fun p50=>(oSl 2 p50.1).bind fun c51=>(q0s p50.2).bind fun p52=>(oSl 1 p52.1).bind fun c53=>(q0s p52.2).bind fun p54=>(oSl 1 p54.1).bind fun c55=>(q0s p54.2).bind fun p56=>(oSl 1 p56.1).bind fun c57=>(q0s p56.2).bind fun p58=>bif (p58.1).isMp then(oNil p58.2).bind fun _=>(q82 r47.1).bind fun b59=>bif (!b59)then some (.bool false,[.agg [.sl 2 c51,.sl 1 c53,.sl 1 c55,.sl 1 c57,.mp ((p58.1).mpL)]])else L2 (q01.st2 x0 x1 x2 (IntKind.wrap .i64 (x3+1)) c51 c53 c55 c57 ((p58.1).mpL) x9 x10)else none else none else bif (decide (x1>0))then some (.bool true,[.agg [.sl 2 x4,.sl 1 x5,.sl 1 x6,.sl 1 x7,.mp x8]])else q01.at4 n n (q01.st4 (((x9.length/1):Nat):Int) (0:Int) x4 x5 x6 x7 x8 x9 x10):=by kernel_rfl
theorem q01.round4(x0 x1:Int)(x2 x3 x4 x5:List T)(x6:List (Int×Int×Bool))(x7 x8:List T):q01.rd4 n L4 (q01.st4 x0 x1 x2 x3 x4 x5 x6 x7 x8)=bif (decide (x1<x0))then bif inB x1 (x7.length/1)then(x7[x1.toNat*1]?).bind fun e60=>(oInt .i64 e60).bind fun n61=>bif inB x1 (x8.length/1)then(x8[x1.toNat*1]?).bind fun e62=>(oInt .i64 e62).bind fun n63=>(LIM F.q4y [.rref [.sl 2 x2,.sl 1 x3,.sl 1 x4,.sl 1 x5,.mp x6] 0,.int .i64 n61,.int .i64 n63]).bind fun r64=>(q0s r64.2).bind fun p65=>(oNil p65.2).bind fun _=>(oAgg p65.1).bind fun c66=>(q0s c66).bind fun p67=>(oSl 2 p67.1).bind fun c68=>(q0s p67.2).bind fun p69=>(oSl 1 p69.1).bind fun c70=>(q0s p69.2).bind fun p71=>(oSl 1 p71.1).bind fun c72=>(q0s p71.2).bind fun p73=>(oSl 1 p73.1).bind fun c74=>(q0s p73.2).bind fun p75=>bif (p75.1).isMp then(oNil p75.2).bind fun _=>(q82 r64.1).bind fun b76=>bif (!b76)then bif inB x1 (x8.length/1)then(x8[x1.toNat*1]?).bind fun e77=>(oInt .i64 e77).bind fun n78=>(LIM F.q40 [.rref [.sl 2 c68,.sl 1 c70,.sl 1 c72,.sl 1 c74,.mp ((p75.1).mpL)] 0,.int .i64 n61,.int .i64 n78]).bind fun r79=>(q0s r79.2).bind fun p80=>(oNil p80.2).bind fun _=>(oAgg p80.1).bind fun c81=>(q0s c81).bind fun p82=>(oSl 2 p82.1).bind fun c83=>(q0s p82.2).bind fun p84=>(oSl 1 p84.1).bind fun c85=>(q0s p84.2).bind fun p86=>(oSl 1 p86.1).bind fun c87=>(q0s p86.2).bind fun p88=>(oSl 1 p88.1).bind fun c89=>(q0s p88.2).bind fun p90=>bif (p90.1).isMp then(oNil p90.2).bind fun _=>(q82 r79.1).bind fun b91=>some (.bool b91,[.agg [.sl 2 c83,.sl 1 c85,.sl 1 c87,.sl 1 c89,.mp ((p90.1).mpL)]])else none else none else L4 (q01.st4 x0 (IntKind.wrap .i64 (x1+1)) c68 c70 c72 c74 ((p75.1).mpL) x7 x8)else none else none else none else some (.bool false,[.agg [.sl 2 x2,.sl 1 x3,.sl 1 x4,.sl 1 x5,.mp x6]]):=by kernel_rfl
theorem q01.ev(a0_0 a0_1 a0_2 a0_3:List T)(a0_4:List (Int×Int×Bool))(a1 a2:Int):q1b prog A H LIM n F.q01 [.rref [.sl 2 a0_0,.sl 1 a0_1,.sl 1 a0_2,.sl 1 a0_3,.mp a0_4] 0,.int .i64 a1,.int .i64 a2]=bif inB a1 (a0_2.length/1)then(a0_2[a1.toNat*1]?).bind fun e1=>(oInt .i64 e1).bind fun n2=>bif inB a2 (a0_3.length/1)then(a0_3[a2.toNat*1]?).bind fun e3=>(oInt .i64 e3).bind fun n4=>bif (decide (n4<0))then bif (decide (n2>=0))then(LIM F.q3t [.agg [.sl 2 a0_0],.sl 1 a0_2,.int .i64 a1]).bind fun r5=>bL r5 fun c6=>(LIM F.q1p [.sl 1 c6,.int .i64 n4]).bind fun r7=>bB r7 fun b8=>some (.bool b8,[.agg [.sl 2 a0_0,.sl 1 a0_1,.sl 1 a0_2,.sl 1 a0_3,.mp a0_4]])else some (.bool false,[.agg [.sl 2 a0_0,.sl 1 a0_1,.sl 1 a0_2,.sl 1 a0_3,.mp a0_4]])else bif (decide (n2<0))then some (.bool false,[.agg [.sl 2 a0_0,.sl 1 a0_1,.sl 1 a0_2,.sl 1 a0_3,.mp a0_4]])else(LIM F.q0z [.agg [.sl 2 a0_0],.sl 1 a0_2,.int .i64 a1]).bind fun r9=>bL r9 fun c10=>(LIM F.q0z [.agg [.sl 2 a0_0],.sl 1 a0_3,.int .i64 a2]).bind fun r11=>bL r11 fun c12=>q01.at0 n n (q01.st0 a1 a2 n2 n4 (((c10.length/1):Nat):Int) (0:Int) a0_0 a0_1 a0_2 a0_3 a0_4 c10 c12)else none else none:=by kernel_rfl
theorem q4y.ev(a0_0 a0_1 a0_2 a0_3:List T)(a0_4:List (Int×Int×Bool))(a1 a2:Int):q1b prog A H LIM n F.q4y [.rref [.sl 2 a0_0,.sl 1 a0_1,.sl 1 a0_2,.sl 1 a0_3,.mp a0_4] 0,.int .i64 a1,.int .i64 a2]=(LIM F.q3t [.agg [.sl 2 a0_0],.sl 1 a0_2,.int .i64 a1]).bind fun r1=>bL r1 fun c2=>(LIM F.q3t [.agg [.sl 2 a0_0],.sl 1 a0_3,.int .i64 a2]).bind fun r3=>bL r3 fun c4=>(LIM F.q0t [.sl 1 c2,.sl 1 c4]).bind fun r5=>bB r5 fun b6=>some (.bool b6,[.agg [.sl 2 a0_0,.sl 1 a0_1,.sl 1 a0_2,.sl 1 a0_3,.mp a0_4]]):=by kernel_rfl
theorem q7b.ev(a0_0 a0_1 a0_2 a0_3 a0_4 a0_5:List T)(a0_6 a0_7 a1_0 a1_1 a1_2 a1_3 a1_4:Int)(a1_5 a1_6:List T):q1b prog A H LIM n F.q7b [.rref [.sl 2 a0_0,.sl 1 a0_1,.sl 2 a0_2,.sl 7 a0_3,.sl 1 a0_4,.sl 1 a0_5,.int .i64 a0_6,.int .i64 a0_7] 0,.agg [.int .i64 a1_0,.int .i64 a1_1,.int .i64 a1_2,.int .i64 a1_3,.int .i64 a1_4,.sl 1 a1_5,.sl 1 a1_6]]=bif (a0_7 != 0)then some (.int .i64 0,[.agg [.sl 2 a0_0,.sl 1 a0_1,.sl 2 a0_2,.sl 7 a0_3,.sl 1 a0_4,.sl 1 a0_5,.int .i64 a0_6,.int .i64 a0_7]])else(LIM F.q0u [.agg [.sl 2 a0_0],.sl 2 a0_2,.sl 7 a0_3,.agg [.int .i64 a1_0,.int .i64 a1_1,.int .i64 a1_2,.int .i64 a1_3,.int .i64 a1_4,.sl 1 a1_5,.sl 1 a1_6]]).bind fun r1=>(oNil r1.2).bind fun _=>(oTup r1.1).bind fun c2=>(q0s c2).bind fun p3=>(oAgg p3.1).bind fun c4=>(q0s c4).bind fun p5=>(oInt .i64 p5.1).bind fun n6=>(q0s p5.2).bind fun p7=>(oInt .i64 p7.1).bind fun n8=>(q0s p7.2).bind fun p9=>(oInt .i64 p9.1).bind fun n10=>(q0s p9.2).bind fun p11=>(oInt .i64 p11.1).bind fun n12=>(q0s p11.2).bind fun p13=>(oInt .i64 p13.1).bind fun n14=>(q0s p13.2).bind fun p15=>(oSl 1 p15.1).bind fun c16=>(q0s p15.2).bind fun p17=>(oSl 1 p17.1).bind fun c18=>(oNil p17.2).bind fun _=>(q0s p3.2).bind fun p19=>(oInt .i64 p19.1).bind fun n20=>(oNil p19.2).bind fun _=>bif (n20 != 0)then(LIM F.q9j [.rref [.sl 2 a0_0,.sl 1 a0_1,.sl 2 a0_2,.sl 7 a0_3,.sl 1 a0_4,.sl 1 a0_5,.int .i64 a0_6,.int .i64 a0_7] 0,.int .i64 n20]).bind fun r21=>(q0s r21.2).bind fun p22=>(oNil p22.2).bind fun _=>(oAgg p22.1).bind fun c23=>(q0s c23).bind fun p24=>(oSl 2 p24.1).bind fun c25=>(q0s p24.2).bind fun p26=>(oSl 1 p26.1).bind fun c27=>(q0s p26.2).bind fun p28=>(oSl 2 p28.1).bind fun c29=>(q0s p28.2).bind fun p30=>(oSl 7 p30.1).bind fun c31=>(q0s p30.2).bind fun p32=>(oSl 1 p32.1).bind fun c33=>(q0s p32.2).bind fun p34=>(oSl 1 p34.1).bind fun c35=>(q0s p34.2).bind fun p36=>(oInt .i64 p36.1).bind fun n37=>(q0s p36.2).bind fun p38=>(oInt .i64 p38.1).bind fun n39=>(oNil p38.2).bind fun _=>(oTup r21.1).bind fun c40=>(oNil c40).bind fun _=>some ((.int .i64 (IntKind.wrap .i64 ((((c31.length/7):Nat):Int)-1))),[.agg [.sl 2 c25,.sl 1 c27,.sl 2 c29,.sl 7 c31,.sl 1 c33,.sl 1 c35,.int .i64 n37,.int .i64 n39]])else bif (((((a0_3.length/7):Nat):Int)==500))then(LIM F.q9j [.rref [.sl 2 a0_0,.sl 1 a0_1,.sl 2 a0_2,.sl 7 a0_3,.sl 1 a0_4,.sl 1 a0_5,.int .i64 a0_6,.int .i64 a0_7] 0,.int .i64 7]).bind fun r41=>(q0s r41.2).bind fun p42=>(oNil p42.2).bind fun _=>(oAgg p42.1).bind fun c43=>(q0s c43).bind fun p44=>(oSl 2 p44.1).bind fun c45=>(q0s p44.2).bind fun p46=>(oSl 1 p46.1).bind fun c47=>(q0s p46.2).bind fun p48=>(oSl 2 p48.1).bind fun c49=>(q0s p48.2).bind fun p50=>(oSl 7 p50.1).bind fun c51=>(q0s p50.2).bind fun p52=>(oSl 1 p52.1).bind fun c53=>(q0s p52.2).bind fun p54=>(oSl 1 p54.1).bind fun c55=>(q0s p54.2).bind fun p56=>(oInt .i64 p56.1).bind fun n57=>(q0s p56.2).bind fun p58=>(oInt .i64 p58.1).bind fun n59=>(oNil p58.2).bind fun _=>(oTup r41.1).bind fun c60=>(oNil c60).bind fun _=>some ((.int .i64 (IntKind.wrap .i64 ((((c51.length/7):Nat):Int)-1))),[.agg [.sl 2 c45,.sl 1 c47,.sl 2 c49,.sl 7 c51,.sl 1 c53,.sl 1 c55,.int .i64 n57,.int .i64 n59]])else bif Nat.ble ((a0_3.length+7)*88) (140737488355328*7)then some ((.int .i64 (IntKind.wrap .i64 ((((((a0_3++[.int .i64 n6,.int .i64 n8,.int .i64 n10,.int .i64 n12,.int .i64 n14,.sl 1 c16,.sl 1 c18]:List T)).length/7):Nat):Int)-1))),[.agg [.sl 2 a0_0,.sl 1 a0_1,.sl 2 a0_2,.sl 7 (a0_3++[.int .i64 n6,.int .i64 n8,.int .i64 n10,.int .i64 n12,.int .i64 n14,.sl 1 c16,.sl 1 c18]:List T),.sl 1 a0_4,.sl 1 a0_5,.int .i64 a0_6,.int .i64 a0_7]])else none:=by kernel_rfl
theorem q73.ev(a0_0 a0_1 a0_2 a0_3 a0_4 a0_5:List T)(a0_6 a0_7 a1:Int):q1b prog A H LIM n F.q73 [.rref [.sl 2 a0_0,.sl 1 a0_1,.sl 2 a0_2,.sl 7 a0_3,.sl 1 a0_4,.sl 1 a0_5,.int .i64 a0_6,.int .i64 a0_7] 0,.int .i64 a1]=bif (a0_7 != 0)then some (.tup [],[.agg [.sl 2 a0_0,.sl 1 a0_1,.sl 2 a0_2,.sl 7 a0_3,.sl 1 a0_4,.sl 1 a0_5,.int .i64 a0_6,.int .i64 a0_7]])else bif (((((a0_5.length/1):Nat):Int)==100))then(LIM F.q9j [.rref [.sl 2 a0_0,.sl 1 a0_1,.sl 2 a0_2,.sl 7 a0_3,.sl 1 a0_4,.sl 1 a0_5,.int .i64 a0_6,.int .i64 a0_7] 0,.int .i64 7]).bind fun r1=>(q0s r1.2).bind fun p2=>(oNil p2.2).bind fun _=>(oAgg p2.1).bind fun c3=>(q0s c3).bind fun p4=>(oSl 2 p4.1).bind fun c5=>(q0s p4.2).bind fun p6=>(oSl 1 p6.1).bind fun c7=>(q0s p6.2).bind fun p8=>(oSl 2 p8.1).bind fun c9=>(q0s p8.2).bind fun p10=>(oSl 7 p10.1).bind fun c11=>(q0s p10.2).bind fun p12=>(oSl 1 p12.1).bind fun c13=>(q0s p12.2).bind fun p14=>(oSl 1 p14.1).bind fun c15=>(q0s p14.2).bind fun p16=>(oInt .i64 p16.1).bind fun n17=>(q0s p16.2).bind fun p18=>(oInt .i64 p18.1).bind fun n19=>(oNil p18.2).bind fun _=>(oTup r1.1).bind fun c20=>(oNil c20).bind fun _=>some (.tup [],[.agg [.sl 2 c5,.sl 1 c7,.sl 2 c9,.sl 7 c11,.sl 1 c13,.sl 1 c15,.int .i64 n17,.int .i64 n19]])else bif Nat.ble ((a0_5.length+1)*8) (140737488355328*1)then some (.tup [],[.agg [.sl 2 a0_0,.sl 1 a0_1,.sl 2 a0_2,.sl 7 a0_3,.sl 1 a0_4,.sl 1 (a0_5++[.int .i64 a1]:List T),.int .i64 a0_6,.int .i64 a0_7]])else none:=by kernel_rfl
def q0u.j8(n:Nat)(x0 x1:List T)(x2 x3 x4 x5 x6:Int)(x7 x8:List T)(x9 x10 x11 x12 x13:Int):R:=(bif inB x3 (x0.length/2)then(x0[x3.toNat*2]?).bind fun e9=>(oSl 1 e9).bind fun c10=>(x0[(x3.toNat*2)+1]?).bind fun e11=>(oSl 1 e11).bind fun c12=>(LIM F.q4e [.agg [.sl 1 c10,.sl 1 c12]]).bind fun r13=>bQ r13 fun c16 c18=>some (.tup [.agg [.int .i64 x2,.int .i64 x3,.int .i64 x4,.int .i64 x5,.int .i64 x6,.sl 1 c16,.sl 1 c18],.int .i64 0],[])else none)
def q0u.j10(n:Nat)(x0 x1:List T)(x2 x3 x4 x5 x6:Int)(x7 x8:List T)(x9 x10 x11 x12 x13:Int):R:=(bif inB x3 (x0.length/7)then(x0[(x3.toNat*7)+6]?).bind fun e19=>(oSl 1 e19).bind fun c20=>bif inB x3 (x0.length/7)then(x0[(x3.toNat*7)+5]?).bind fun e21=>(oSl 1 e21).bind fun c22=>(LIM F.q4e [.agg [.sl 1 c20,.sl 1 c22]]).bind fun r23=>bQ r23 fun c26 c28=>some (.tup [.agg [.int .i64 x2,.int .i64 x3,.int .i64 x4,.int .i64 x5,.int .i64 x6,.sl 1 c26,.sl 1 c28],.int .i64 0],[])else none else none)
def q0u.j12(n:Nat)(x0 x1:List T)(x2 x3 x4 x5 x6:Int)(x7 x8:List T)(x9 x10 x11 x12 x13:Int):R:=(bif inB x3 (x0.length/7)then(x0[x3.toNat*7]?).bind fun e29=>(oInt .i64 e29).bind fun n30=>(x0[(x3.toNat*7)+1]?).bind fun e31=>(oInt .i64 e31).bind fun n32=>(x0[((x3.toNat*7)+1)+1]?).bind fun e33=>(oInt .i64 e33).bind fun n34=>(x0[(((x3.toNat*7)+1)+1)+1]?).bind fun e35=>(oInt .i64 e35).bind fun n36=>(x0[((((x3.toNat*7)+1)+1)+1)+1]?).bind fun e37=>(oInt .i64 e37).bind fun n38=>(x0[(((((x3.toNat*7)+1)+1)+1)+1)+1]?).bind fun e39=>(oSl 1 e39).bind fun c40=>(x0[((((((x3.toNat*7)+1)+1)+1)+1)+1)+1]?).bind fun e41=>(oSl 1 e41).bind fun c42=>(LIM F.q3f [.agg [.int .i64 n30,.int .i64 n32,.int .i64 n34,.int .i64 n36,.int .i64 n38,.sl 1 c40,.sl 1 c42]]).bind fun r43=>bQ r43 fun c46 c48=>(LIM F.q0e [.agg [.sl 1 c46,.sl 1 c48]]).bind fun r49=>(oNil r49.2).bind fun _=>(oTup r49.1).bind fun c50=>(q0s c50).bind fun p51=>(oAgg p51.1).bind fun c52=>(q0s c52).bind fun p53=>(oSl 1 p53.1).bind fun c54=>(q0s p53.2).bind fun p55=>(oSl 1 p55.1).bind fun c56=>(oNil p55.2).bind fun _=>(q0s p51.2).bind fun p57=>(q82 p57.1).bind fun b58=>(oNil p57.2).bind fun _=>some (.tup [.agg [.int .i64 x2,.int .i64 x3,.int .i64 x4,.int .i64 x5,.int .i64 x6,.sl 1 c54,.sl 1 c56],.int .i64 0],[])else none)
def q0u.j18(n:Nat)(x0 x1:List T)(x2 x3 x4 x5 x6:Int)(x7 x8:List T)(x9 x10 x11 x12 x13:Int)(x14 x15:List T):R:=(bif inB x4 (x0.length/7)then(x0[x4.toNat*7]?).bind fun e85=>(oInt .i64 e85).bind fun n86=>(x0[(x4.toNat*7)+1]?).bind fun e87=>(oInt .i64 e87).bind fun n88=>(x0[((x4.toNat*7)+1)+1]?).bind fun e89=>(oInt .i64 e89).bind fun n90=>(x0[(((x4.toNat*7)+1)+1)+1]?).bind fun e91=>(oInt .i64 e91).bind fun n92=>(x0[((((x4.toNat*7)+1)+1)+1)+1]?).bind fun e93=>(oInt .i64 e93).bind fun n94=>(x0[(((((x4.toNat*7)+1)+1)+1)+1)+1]?).bind fun e95=>(oSl 1 e95).bind fun c96=>(x0[((((((x4.toNat*7)+1)+1)+1)+1)+1)+1]?).bind fun e97=>(oSl 1 e97).bind fun c98=>(LIM F.q3f [.agg [.int .i64 n86,.int .i64 n88,.int .i64 n90,.int .i64 n92,.int .i64 n94,.sl 1 c96,.sl 1 c98]]).bind fun r99=>bQ r99 fun c102 c104=>(LIM F.q55 [.agg [.sl 2 x1],.sl 2 [.sl 1 c102,.sl 1 c104],.int .i64 0,.int .i64 x5,.sl 1 x15]).bind fun r105=>(oNil r105.2).bind fun _=>(oAgg r105.1).bind fun c106=>(q0s c106).bind fun p107=>(oInt .i64 p107.1).bind fun n108=>(q0s p107.2).bind fun p109=>(oSl 1 p109.1).bind fun c110=>(oNil p109.2).bind fun _=>bif (n108 != 0)then some (.tup [.agg [.int .i64 0,.int .i64 0,.int .i64 0,.int .i64 0,.int .i64 0,.sl 1 [],.sl 1 []],.int .i64 n108],[])else some (.tup [.agg [.int .i64 x2,.int .i64 x3,.int .i64 x4,.int .i64 x5,.int .i64 x6,.sl 1 x14,.sl 1 c110],.int .i64 0],[])else none)
def q0u.j17(n:Nat)(x0 x1:List T)(x2 x3 x4 x5 x6:Int)(x7 x8:List T)(x9 x10 x11 x12 x13:Int)(x14 x15:List T):R:=(q0u.j18 n x0 x1 x2 x3 x4 x5 x6 x7 x8 x9 x10 x11 x12 x13 x14 x15)
def q0u.j19(n:Nat)(x0 x1:List T)(x2 x3 x4 x5 x6:Int)(x7 x8:List T)(x9 x10 x11 x12 x13:Int)(x14 x15:List T):R:=(bif inB x4 (x0.length/7)then(x0[x4.toNat*7]?).bind fun e111=>(oInt .i64 e111).bind fun n112=>(x0[(x4.toNat*7)+1]?).bind fun e113=>(oInt .i64 e113).bind fun n114=>(x0[((x4.toNat*7)+1)+1]?).bind fun e115=>(oInt .i64 e115).bind fun n116=>(x0[(((x4.toNat*7)+1)+1)+1]?).bind fun e117=>(oInt .i64 e117).bind fun n118=>(x0[((((x4.toNat*7)+1)+1)+1)+1]?).bind fun e119=>(oInt .i64 e119).bind fun n120=>(x0[(((((x4.toNat*7)+1)+1)+1)+1)+1]?).bind fun e121=>(oSl 1 e121).bind fun c122=>(x0[((((((x4.toNat*7)+1)+1)+1)+1)+1)+1]?).bind fun e123=>(oSl 1 e123).bind fun c124=>(LIM F.q3f [.agg [.int .i64 n112,.int .i64 n114,.int .i64 n116,.int .i64 n118,.int .i64 n120,.sl 1 c122,.sl 1 c124]]).bind fun r125=>bQ r125 fun c128 c130=>(LIM F.q55 [.agg [.sl 2 x1],.sl 2 [.sl 1 c128,.sl 1 c130],.int .i64 0,.int .i64 x5,.sl 1 x14]).bind fun r131=>(oNil r131.2).bind fun _=>(oAgg r131.1).bind fun c132=>(q0s c132).bind fun p133=>(oInt .i64 p133.1).bind fun n134=>(q0s p133.2).bind fun p135=>(oSl 1 p135.1).bind fun c136=>(oNil p135.2).bind fun _=>bif (n134 != 0)then some (.tup [.agg [.int .i64 0,.int .i64 0,.int .i64 0,.int .i64 0,.int .i64 0,.sl 1 [],.sl 1 []],.int .i64 n134],[])else some (.tup [.agg [.int .i64 x2,.int .i64 x3,.int .i64 x4,.int .i64 x5,.int .i64 x6,.sl 1 c136,.sl 1 x15],.int .i64 0],[])else none)
def q0u.j16(n:Nat)(x0 x1:List T)(x2 x3 x4 x5 x6:Int)(x7 x8:List T)(x9 x10 x11 x12 x13:Int)(x14 x15:List T):R:=(bif (x6==1)then q0u.j17 n x0 x1 x2 x3 x4 x5 x6 x7 x8 x9 x10 x11 x12 x13 x14 x15 else q0u.j19 n x0 x1 x2 x3 x4 x5 x6 x7 x8 x9 x10 x11 x12 x13 x14 x15)
def q0u.j15(n:Nat)(x0 x1:List T)(x2 x3 x4 x5 x6:Int)(x7 x8:List T)(x9 x10 x11 x12 x13:Int)(x14 x15:List T):R:=(q0u.j16 n x0 x1 x2 x3 x4 x5 x6 x7 x8 x9 x10 x11 x12 x13 x14 x15)
def q0u.j14(n:Nat)(x0 x1:List T)(x2 x3 x4 x5 x6:Int)(x7 x8:List T)(x9 x10 x11 x12 x13:Int):R:=(bif inB x3 (x0.length/7)then(x0[x3.toNat*7]?).bind fun e59=>(oInt .i64 e59).bind fun n60=>(x0[(x3.toNat*7)+1]?).bind fun e61=>(oInt .i64 e61).bind fun n62=>(x0[((x3.toNat*7)+1)+1]?).bind fun e63=>(oInt .i64 e63).bind fun n64=>(x0[(((x3.toNat*7)+1)+1)+1]?).bind fun e65=>(oInt .i64 e65).bind fun n66=>(x0[((((x3.toNat*7)+1)+1)+1)+1]?).bind fun e67=>(oInt .i64 e67).bind fun n68=>(x0[(((((x3.toNat*7)+1)+1)+1)+1)+1]?).bind fun e69=>(oSl 1 e69).bind fun c70=>(x0[((((((x3.toNat*7)+1)+1)+1)+1)+1)+1]?).bind fun e71=>(oSl 1 e71).bind fun c72=>(LIM F.q3f [.agg [.int .i64 n60,.int .i64 n62,.int .i64 n64,.int .i64 n66,.int .i64 n68,.sl 1 c70,.sl 1 c72]]).bind fun r73=>bQ r73 fun c76 c78=>(LIM F.q4e [.agg [.sl 1 c76,.sl 1 c78]]).bind fun r79=>bQ r79 fun c82 c84=>q0u.j15 n x0 x1 x2 x3 x4 x5 x6 x7 x8 x9 x10 x11 x12 x13 c82 c84 else none)
def q0u.j21(n:Nat)(x0 x1:List T)(x2 x3 x4 x5 x6:Int)(x7 x8:List T)(x9 x10 x11 x12 x13:Int):R:=(bif inB x3 (x0.length/7)then(x0[x3.toNat*7]?).bind fun e137=>(oInt .i64 e137).bind fun n138=>(x0[(x3.toNat*7)+1]?).bind fun e139=>(oInt .i64 e139).bind fun n140=>(x0[((x3.toNat*7)+1)+1]?).bind fun e141=>(oInt .i64 e141).bind fun n142=>(x0[(((x3.toNat*7)+1)+1)+1]?).bind fun e143=>(oInt .i64 e143).bind fun n144=>(x0[((((x3.toNat*7)+1)+1)+1)+1]?).bind fun e145=>(oInt .i64 e145).bind fun n146=>(x0[(((((x3.toNat*7)+1)+1)+1)+1)+1]?).bind fun e147=>(oSl 1 e147).bind fun c148=>(x0[((((((x3.toNat*7)+1)+1)+1)+1)+1)+1]?).bind fun e149=>(oSl 1 e149).bind fun c150=>(LIM F.q3f [.agg [.int .i64 n138,.int .i64 n140,.int .i64 n142,.int .i64 n144,.int .i64 n146,.sl 1 c148,.sl 1 c150]]).bind fun r151=>bQ r151 fun c154 c156=>bif inB x4 (x0.length/7)then(x0[x4.toNat*7]?).bind fun e157=>(oInt .i64 e157).bind fun n158=>(x0[(x4.toNat*7)+1]?).bind fun e159=>(oInt .i64 e159).bind fun n160=>(x0[((x4.toNat*7)+1)+1]?).bind fun e161=>(oInt .i64 e161).bind fun n162=>(x0[(((x4.toNat*7)+1)+1)+1]?).bind fun e163=>(oInt .i64 e163).bind fun n164=>(x0[((((x4.toNat*7)+1)+1)+1)+1]?).bind fun e165=>(oInt .i64 e165).bind fun n166=>(x0[(((((x4.toNat*7)+1)+1)+1)+1)+1]?).bind fun e167=>(oSl 1 e167).bind fun c168=>(x0[((((((x4.toNat*7)+1)+1)+1)+1)+1)+1]?).bind fun e169=>(oSl 1 e169).bind fun c170=>(LIM F.q3f [.agg [.int .i64 n158,.int .i64 n160,.int .i64 n162,.int .i64 n164,.int .i64 n166,.sl 1 c168,.sl 1 c170]]).bind fun r171=>bQ r171 fun c174 c176=>(LIM F.q8e [.agg [.sl 2 x1],.agg [.sl 1 c154,.sl 1 c156],.agg [.sl 1 c174,.sl 1 c176],.int .i64 x5]).bind fun r177=>(oNil r177.2).bind fun _=>(oAgg r177.1).bind fun c178=>(q0s c178).bind fun p179=>(oInt .i64 p179.1).bind fun n180=>(q0s p179.2).bind fun p181=>(oSl 1 p181.1).bind fun c182=>(q0s p181.2).bind fun p183=>(oSl 1 p183.1).bind fun c184=>(oNil p183.2).bind fun _=>bif (n180 != 0)then some (.tup [.agg [.int .i64 0,.int .i64 0,.int .i64 0,.int .i64 0,.int .i64 0,.sl 1 [],.sl 1 []],.int .i64 n180],[])else some (.tup [.agg [.int .i64 x2,.int .i64 x3,.int .i64 x4,.int .i64 x5,.int .i64 x6,.sl 1 c182,.sl 1 c184],.int .i64 0],[])else none else none)
def q0u.j20(n:Nat)(x0:List T)(x1:Int)(x2:List T)(x3 x4 x5 x6 x7:Int)(x8 x9:List T)(x10 x11 x12 x13 x14:Int):R:=(bif (x1==5)then q0u.j21 n x0 x2 x3 x4 x5 x6 x7 x8 x9 x10 x11 x12 x13 x14 else some (.tup [.agg [.int .i64 x3,.int .i64 x4,.int .i64 x5,.int .i64 x6,.int .i64 x7,.sl 1 [],.sl 1 []],.int .i64 0],[]))
def q0u.j13(n:Nat)(x0:List T)(x1:Int)(x2:List T)(x3 x4 x5 x6 x7:Int)(x8 x9:List T)(x10 x11 x12 x13 x14:Int):R:=(bif (x1==4)then q0u.j14 n x0 x2 x3 x4 x5 x6 x7 x8 x9 x10 x11 x12 x13 x14 else q0u.j20 n x0 x1 x2 x3 x4 x5 x6 x7 x8 x9 x10 x11 x12 x13 x14)
def q0u.j11(n:Nat)(x0:List T)(x1:Int)(x2:List T)(x3 x4 x5 x6 x7:Int)(x8 x9:List T)(x10 x11 x12 x13 x14:Int):R:=(bif (x1==3)then q0u.j12 n x0 x2 x3 x4 x5 x6 x7 x8 x9 x10 x11 x12 x13 x14 else q0u.j13 n x0 x1 x2 x3 x4 x5 x6 x7 x8 x9 x10 x11 x12 x13 x14)
def q0u.j9(n:Nat)(x0:List T)(x1:Int)(x2:List T)(x3 x4 x5 x6 x7:Int)(x8 x9:List T)(x10 x11 x12 x13 x14:Int):R:=(bif (x1==2)then q0u.j10 n x0 x2 x3 x4 x5 x6 x7 x8 x9 x10 x11 x12 x13 x14 else q0u.j11 n x0 x1 x2 x3 x4 x5 x6 x7 x8 x9 x10 x11 x12 x13 x14)
def q0u.j7(n:Nat)(x0 x1:List T)(x2:Int)(x3:List T)(x4 x5 x6 x7 x8:Int)(x9 x10:List T)(x11 x12 x13 x14 x15:Int):R:=(bif (x2==1)then q0u.j8 n x0 x3 x4 x5 x6 x7 x8 x9 x10 x11 x12 x13 x14 x15 else q0u.j9 n x1 x2 x3 x4 x5 x6 x7 x8 x9 x10 x11 x12 x13 x14 x15)
def q0u.j6(n:Nat)(x0 x1 x2:List T)(x3 x4 x5 x6 x7:Int)(x8 x9:List T)(x10 x11 x12 x13 x14:Int):R:=(q0u.j7 n x0 x1 x3 x2 x3 x4 x5 x6 x7 x8 x9 x10 x11 x12 x13 x14)
def q0u.j5(n:Nat)(x0 x1 x2:List T)(x3 x4 x5 x6 x7:Int)(x8 x9:List T)(x10 x11 x12 x13 x14:Int):R:=(q0u.j6 n x0 x1 x2 x3 x4 x5 x6 x7 x8 x9 x10 x11 x12 x13 x14)
def q0u.j4(n:Nat)(x0 x1:List T)(x2:Bool)(x3 x4:Int)(x5:List T)(x6 x7 x8 x9 x10:Int)(x11 x12:List T)(x13 x14 x15 x16 x17:Int):R:=((LIM F.q3l [.int .i64 x7,.int .i64 0,.int .i64 x4]).bind fun r3=>bB r3 fun b4=>bif (!b4)then some (.tup [.agg [.int .i64 0,.int .i64 0,.int .i64 0,.int .i64 0,.int .i64 0,.sl 1 [],.sl 1 []],.int .i64 3],[])else bif x2 then(LIM F.q3l [.int .i64 x8,.int .i64 0,.int .i64 x3]).bind fun r5=>bB r5 fun b6=>bif (!b6)then some (.tup [.agg [.int .i64 0,.int .i64 0,.int .i64 0,.int .i64 0,.int .i64 0,.sl 1 [],.sl 1 []],.int .i64 3],[])else(LIM F.q3l [.int .i64 x10,.int .i64 0,.int .i64 1]).bind fun r7=>bB r7 fun b8=>bif (!b8)then some (.tup [.agg [.int .i64 0,.int .i64 0,.int .i64 0,.int .i64 0,.int .i64 0,.sl 1 [],.sl 1 []],.int .i64 3],[])else q0u.j5 n x0 x1 x5 x6 x7 x8 x9 x10 x11 x12 x13 x14 x15 x16 x17 else(LIM F.q3l [.int .i64 x10,.int .i64 0,.int .i64 1]).bind fun r185=>bB r185 fun b186=>bif (!b186)then some (.tup [.agg [.int .i64 0,.int .i64 0,.int .i64 0,.int .i64 0,.int .i64 0,.sl 1 [],.sl 1 []],.int .i64 3],[])else q0u.j5 n x0 x1 x5 x6 x7 x8 x9 x10 x11 x12 x13 x14 x15 x16 x17)
def q0u.j3(n:Nat)(x0 x1:List T)(x2:Bool)(x3:Int)(x4:List T)(x5 x6 x7 x8 x9:Int)(x10 x11:List T)(x12 x13 x14 x15 x16:Int):R:=(q0u.j4 n x0 x1 x2 x3 (IntKind.wrap .i64 ((((x0.length/2):Nat):Int)-1)) x4 x5 x6 x7 x8 x9 x10 x11 x12 x13 x14 x15 x16)
def q0u.j2(n:Nat)(x0 x1:List T)(x2:Bool)(x3 x4:Int)(x5:List T)(x6 x7 x8 x9 x10:Int)(x11 x12:List T)(x13 x14 x15 x16 x17:Int):R:=(bif (x6==1)then q0u.j3 n x0 x1 x2 x3 x5 x6 x7 x8 x9 x10 x11 x12 x13 x14 x15 x16 x17 else q0u.j4 n x0 x1 x2 x3 x4 x5 x6 x7 x8 x9 x10 x11 x12 x13 x14 x15 x16 x17)
def q0u.j1(n:Nat)(x0 x1:List T)(x2:Bool)(x3:Int)(x4:List T)(x5 x6 x7 x8 x9:Int)(x10 x11:List T)(x12 x13 x14 x15 x16:Int):R:=(q0u.j2 n x0 x1 x2 x3 x3 x4 x5 x6 x7 x8 x9 x10 x11 x12 x13 x14 x15 x16)
def q0u.j0(n:Nat)(x0 x1:List T)(x2:Bool)(x3:List T)(x4 x5 x6 x7 x8:Int)(x9 x10:List T)(x11 x12 x13 x14 x15:Int):R:=(q0u.j1 n x0 x1 x2 (IntKind.wrap .i64 ((((x1.length/7):Nat):Int)-1)) x3 x4 x5 x6 x7 x8 x9 x10 x11 x12 x13 x14 x15)
theorem q0u.ev(a0_0 a1 a2:List T)(a3_0 a3_1 a3_2 a3_3 a3_4:Int)(a3_5 a3_6:List T):q1b prog A H LIM n F.q0u [.agg [.sl 2 a0_0],.sl 2 a1,.sl 7 a2,.agg [.int .i64 a3_0,.int .i64 a3_1,.int .i64 a3_2,.int .i64 a3_3,.int .i64 a3_4,.sl 1 a3_5,.sl 1 a3_6]]=bif (a3_0==4)then(LIM F.q3l [.int .i64 a3_0,.int .i64 1,.int .i64 5]).bind fun r1=>bB r1 fun b2=>bif (!b2)then some (.tup [.agg [.int .i64 0,.int .i64 0,.int .i64 0,.int .i64 0,.int .i64 0,.sl 1 [],.sl 1 []],.int .i64 1],[])else bif (a3_0 != 4)then bif (a3_4 != 0)then some (.tup [.agg [.int .i64 0,.int .i64 0,.int .i64 0,.int .i64 0,.int .i64 0,.sl 1 [],.sl 1 []],.int .i64 1],[])else q0u.j0 n a1 a2 true a0_0 a3_0 a3_1 a3_2 a3_3 a3_4 a3_5 a3_6 (0:Int) (0:Int) (0:Int) (0:Int) (0:Int)else q0u.j0 n a1 a2 true a0_0 a3_0 a3_1 a3_2 a3_3 a3_4 a3_5 a3_6 (0:Int) (0:Int) (0:Int) (0:Int) (0:Int)else(LIM F.q3l [.int .i64 a3_0,.int .i64 1,.int .i64 5]).bind fun r187=>bB r187 fun b188=>bif (!b188)then some (.tup [.agg [.int .i64 0,.int .i64 0,.int .i64 0,.int .i64 0,.int .i64 0,.sl 1 [],.sl 1 []],.int .i64 1],[])else bif (!(a3_0==5))then bif (a3_2 != 0)then some (.tup [.agg [.int .i64 0,.int .i64 0,.int .i64 0,.int .i64 0,.int .i64 0,.sl 1 [],.sl 1 []],.int .i64 1],[])else bif (a3_3 != 0)then some (.tup [.agg [.int .i64 0,.int .i64 0,.int .i64 0,.int .i64 0,.int .i64 0,.sl 1 [],.sl 1 []],.int .i64 1],[])else bif (a3_0 != 4)then bif (a3_4 != 0)then some (.tup [.agg [.int .i64 0,.int .i64 0,.int .i64 0,.int .i64 0,.int .i64 0,.sl 1 [],.sl 1 []],.int .i64 1],[])else q0u.j0 n a1 a2 (a3_0==5) a0_0 a3_0 a3_1 a3_2 a3_3 a3_4 a3_5 a3_6 (0:Int) (0:Int) (0:Int) (0:Int) (0:Int)else q0u.j0 n a1 a2 (a3_0==5) a0_0 a3_0 a3_1 a3_2 a3_3 a3_4 a3_5 a3_6 (0:Int) (0:Int) (0:Int) (0:Int) (0:Int)else bif (a3_0 != 4)then bif (a3_4 != 0)then some (.tup [.agg [.int .i64 0,.int .i64 0,.int .i64 0,.int .i64 0,.int .i64 0,.sl 1 [],.sl 1 []],.int .i64 1],[])else q0u.j0 n a1 a2 (a3_0==5) a0_0 a3_0 a3_1 a3_2 a3_3 a3_4 a3_5 a3_6 (0:Int) (0:Int) (0:Int) (0:Int) (0:Int)else q0u.j0 n a1 a2 (a3_0==5) a0_0 a3_0 a3_1 a3_2 a3_3 a3_4 a3_5 a3_6 (0:Int) (0:Int) (0:Int) (0:Int) (0:Int):=by kernel_rfl
def q3d.st0(x0:List T)(x1 x2:Int)(x3:List T):St:=⟨[(1,ol 1 x0),(2,oi x1),(3,(.one (.ptr 192 0))),(7,oi x2)],[(192,(.box [(.t (.sl 2 x3))]))]⟩
def q3d.K0:=kx F.q3d n [.block 0,.seq 0 (cx F.q3d [1,1])] (q3v prog A F.q3d)
def q3d.at0:=lx F.q3d n 0 [1,0,1,0,0] (q3d.K0 n) m s
def q3d.rd0:=rx F.q3d n 0 [1,0,1,0,0] (q3d.K0 n) L0 s
theorem q3d.next0:q3d.at0 n (m+1) s=q3d.rd0 n (q3d.at0 n m) s:=nx ..
theorem q3d.round0(x0:List T)(x1 x2:Int)(x3:List T):q3d.rd0 n L0 (q3d.st0 x0 x1 x2 x3)=bif (decide (x2>0))then bif (decide (x1>=(((x0.length/1):Nat):Int)))then some ((.int .i64 (IntKind.wrap .i64 ((((x0.length/1):Nat):Int)+1))),[])else bif inB x1 (x0.length/1)then(x0[x1.toNat*1]?).bind fun e1=>(oInt .i64 e1).bind fun n2=>(LIM F.q7e [.agg [.sl 2 x3],.int .i64 n2]).bind fun r3=>bI r3 fun n4=>L0 (q3d.st0 x0 (IntKind.wrap .i64 (x1+1)) (IntKind.wrap .i64 (x2+(IntKind.wrap .i64 (n4-1)))) x3)else none else some (.int .i64 x1,[]):=by kernel_rfl
theorem q3d.ev(a0_0 a1:List T)(a2:Int):q1b prog A H LIM n F.q3d [.agg [.sl 2 a0_0],.sl 1 a1,.int .i64 a2]=q3d.at0 n n (q3d.st0 a1 a2 (1:Int) a0_0):=by kernel_rfl
theorem q67.ev(a0:List T):q1b prog A H LIM n F.q67 [.sl 1 a0]=(LIM F.q2n [.sl 1 a0]).bind fun r1=>bI r1 fun n2=>some (.int .i64 n2,[]):=by kernel_rfl
theorem q8y.ev(a0:List T):q1b prog A H LIM n F.q8y [.sl 1 a0]=bif (decide ((((a0.length/1):Nat):Int)>24))then some (.agg [.int .i64 2,.sl 1 []],[])else some (.agg [.int .i64 0,.sl 1 a0],[]):=by kernel_rfl
theorem q7l.ev(a0_0 a1 a2 a3:List T):q1b prog A H LIM n F.q7l [.agg [.sl 2 a0_0],.sl 1 a1,.sl 1 a2,.sl 1 a3]=(LIM F.q40 [.rref [.sl 2 a0_0,.sl 1 a1,.sl 1 a2,.sl 1 a3,.mp []] 0,.int .i64 0,.int .i64 0]).bind fun r1=>(q0s r1.2).bind fun p2=>(oNil p2.2).bind fun _=>(oAgg p2.1).bind fun c3=>(q0s c3).bind fun p4=>(oSl 2 p4.1).bind fun c5=>(q0s p4.2).bind fun p6=>(oSl 1 p6.1).bind fun c7=>(q0s p6.2).bind fun p8=>(oSl 1 p8.1).bind fun c9=>(q0s p8.2).bind fun p10=>(oSl 1 p10.1).bind fun c11=>(q0s p10.2).bind fun p12=>bif (p12.1).isMp then(oNil p12.2).bind fun _=>(q82 r1.1).bind fun b13=>some (.bool b13,[])else none:=by kernel_rfl
theorem q9h.ev(a0:ByteArray):q1b prog A H LIM n F.q9h [.str a0]=bif (decide ((a0.size:Int)>=1))then bif (decide ((a0.size:Int)<=3))then(LIM F.qbb [.str a0,.str (ByteArray.mk #[97,98,99,100,101,102,103,104,105,106,107,108,109,110,111,112,113,114,115,116,117,118,119,120,121,122])]).bind fun r1=>(oNil r1.2).bind fun _=>(oStr r1.1).bind fun s2=>some (.bool (s2.toList==(ByteArray.mk #[]).toList),[])else some (.bool false,[])else some (.bool false,[]):=by kernel_rfl
theorem q9f.ev(a0_0:List T)(a1:Int):q1b prog A H LIM n F.q9f [.agg [.sl 2 a0_0],.int .i64 a1]=(LIM F.q65 [.agg [.sl 2 a0_0],.int .i64 a1]).bind fun r1=>bB r1 fun b2=>bif b2 then some (.bool true,[])else(LIM F.q3l [.int .i64 a1,.int .i64 (-12),.int .i64 (-1)]).bind fun r3=>bB r3 fun b4=>some (.bool b4,[]):=by kernel_rfl
theorem q9l.ev(a0_0 a0_1:List T):q1b prog A H LIM n F.q9l [.agg [.sl 1 a0_0,.sl 1 a0_1]]=bif inB (0:Int) (a0_0.length/1)then(a0_0[0]?).bind fun e1=>(oInt .i64 e1).bind fun n2=>bif (decide (n2<0))then some (.bool false,[])else(LIM F.q11 [.sl 1 [.sl 1 a0_0]]).bind fun r3=>bL r3 fun c4=>(LIM F.q11 [.sl 1 [.sl 1 a0_1]]).bind fun r5=>bL r5 fun c6=>(LIM F.q21 [.sl 1 c6,.clo F.q5h [.rref [.sl 1 c4] 0]]).bind fun r7=>bB r7 fun b8=>some (.bool (!b8),[])else none:=by kernel_rfl
theorem q5h.ev(a0:Int)(a1_0:List T):q1b prog A H LIM n F.q5h [.int .i64 a0,.rref [.sl 1 a1_0] 0]=(LIM F.q1p [.sl 1 a1_0,.int .i64 a0]).bind fun r1=>bB r1 fun b2=>some (.bool (!b2),[]):=by kernel_rfl
end
end Ev
end
section
open Go
set_option maxRecDepth 100000
namespace Ev
noncomputable section
variable (n:Nat)(L0 L1 L2 L3 L4 L5:St->R)(m:Nat)(s:St)
theorem q65.ev(a0_0:List T)(a1:Int):q1b prog A H LIM n F.q65 [.agg [.sl 2 a0_0],.int .i64 a1]=(LIM F.q3l [.int .i64 a1,.int .i64 0,(.int .i64 (IntKind.wrap .i64 ((((a0_0.length/2):Nat):Int)-1)))]).bind fun r1=>bB r1 fun b2=>some (.bool b2,[]):=by kernel_rfl
def q2h.st0(x0:List T)(x1:Int)(x2:List T)(x3 x4:Int)(x5 x6 x7:List T):St:=⟨[(2,ol 1 x0),(3,(.one (.ptr 192 0))),(6,(.one (.ptr 384 0))),(8,(.one (.ptr 512 0))),(9,oi x1),(16,ol 1 x2),(17,oi x3),(18,oi x4)],[(192,(.box [(.t (.sl 2 x5))])),(384,(.box [.nil,.nil])),(512,(.box [(.obj 518192),(.obj 518193)])),(518192,(.arr true true 1 x6)),(518193,(.arr true true 1 x7))]⟩
def q2h.K0:=kx F.q2h n [.block 0,.seq 0 (cx F.q2h [1,1,1,1])] (q3v prog A F.q2h)
def q2h.at0:=lx F.q2h n 0 [1,1,1,0,1,0,0] (q2h.K0 n) m s
def q2h.rd0:=rx F.q2h n 0 [1,1,1,0,1,0,0] (q2h.K0 n) L0 s
theorem q2h.next0:q2h.at0 n (m+1) s=q2h.rd0 n (q2h.at0 n m) s:=nx ..
theorem q2h.round0(x0:List T)(x1:Int)(x2:List T)(x3 x4:Int)(x5 x6 x7:List T):q2h.rd0 n L0 (q2h.st0 x0 x1 x2 x3 x4 x5 x6 x7)=bif (decide (x4<x3))then bif inB x4 (x2.length/1)then(x2[x4.toNat*1]?).bind fun e1=>(oInt .i64 e1).bind fun n2=>bif (decide (x1>=(((x0.length/1):Nat):Int)))then some (.tup [.agg [.sl 1 [],.sl 1 []],.bool false],[])else bif (decide (n2>=0))then bif inB x1 (x0.length/1)then(x0[x1.toNat*1]?).bind fun e3=>(oInt .i64 e3).bind fun n4=>bif (n4 != n2)then some (.tup [.agg [.sl 1 [],.sl 1 []],.bool false],[])else L0 (q2h.st0 x0 (IntKind.wrap .i64 (x1+1)) x2 x3 (IntKind.wrap .i64 (x4+1)) x5 x6 x7)else none else(LIM F.q3t [.agg [.sl 2 x5],.sl 1 x0,.int .i64 x1]).bind fun r5=>bL r5 fun c6=>(LIM F.q5p [.agg [.sl 1 x6,.sl 1 x7],.int .i64 (IntKind.wrap .i64 ((-1:Int)-n2))]).bind fun r7=>(oNil r7.2).bind fun _=>(oTup r7.1).bind fun c8=>(q0s c8).bind fun p9=>(oSl 1 p9.1).bind fun c10=>bif c10.all T.scalar then(q0s p9.2).bind fun p11=>(q82 p11.1).bind fun b12=>(oNil p11.2).bind fun _=>bif (!b12)then(LIM F.q15 [.rref [.sl 1 x6,.sl 1 x7] 0,.int .i64 (IntKind.wrap .i64 ((-1:Int)-n2)),.sl 1 c6]).bind fun r13=>(q0s r13.2).bind fun p14=>bQ p14 fun c17 c19=>(oTup r13.1).bind fun c20=>(oNil c20).bind fun _=>L0 (q2h.st0 x0 (IntKind.wrap .i64 (x1+(((c6.length/1):Nat):Int))) x2 x3 (IntKind.wrap .i64 (x4+1)) x5 c17 c19)else(LIM F.q0t [.sl 1 c10,.sl 1 c6]).bind fun r21=>bB r21 fun b22=>bif (!b22)then some (.tup [.agg [.sl 1 [],.sl 1 []],.bool false],[])else L0 (q2h.st0 x0 (IntKind.wrap .i64 (x1+(((c6.length/1):Nat):Int))) x2 x3 (IntKind.wrap .i64 (x4+1)) x5 x6 x7)else none else none else some ((.tup [.agg [.sl 1 x6,.sl 1 x7],(.bool ((x1==(((x0.length/1):Nat):Int))))]),[]):=by kernel_rfl
theorem q2h.ev(a0_0 a1 a2:List T):q1b prog A H LIM n F.q2h [.agg [.sl 2 a0_0],.sl 1 a1,.sl 1 a2]=q2h.at0 n n (q2h.st0 a2 (0:Int) a1 (((a1.length/1):Nat):Int) (0:Int) a0_0 [] []):=by kernel_rfl
theorem q4e.ev(a0_0 a0_1:List T):q1b prog A H LIM n F.q4e [.agg [.sl 1 a0_0,.sl 1 a0_1]]=(LIM F.q2c [.sl 1 a0_0]).bind fun r1=>bL r1 fun c2=>(LIM F.q2c [.sl 1 a0_1]).bind fun r3=>bL r3 fun c4=>some (.agg [.sl 1 c2,.sl 1 c4],[]):=by kernel_rfl
def q1a.st0(x0:List T)(x1 x2:Int)(x3:List T):St:=⟨[(3,(.one (.obj 384))),(7,ol 2 x0),(8,oi x1),(9,oi x2)],[(384,(.arr true true 2 x3))]⟩
def q1a.K0:=kx F.q1a n [.block 0,.seq 0 (cx F.q1a [1,1,1])] (q3v prog A F.q1a)
def q1a.at0:=lx F.q1a n 0 [1,1,0,1,0,0] (q1a.K0 n) m s
def q1a.rd0:=rx F.q1a n 0 [1,1,0,1,0,0] (q1a.K0 n) L0 s
theorem q1a.next0:q1a.at0 n (m+1) s=q1a.rd0 n (q1a.at0 n m) s:=nx ..
theorem q1a.round0(x0:List T)(x1 x2:Int)(x3:List T):q1a.rd0 n L0 (q1a.st0 x0 x1 x2 x3)=bif (decide (x2<x1))then bif inB x2 (x0.length/2)then(x0[x2.toNat*2]?).bind fun e1=>(oSl 1 e1).bind fun c2=>(x0[(x2.toNat*2)+1]?).bind fun e3=>(oSl 1 e3).bind fun c4=>(LIM F.q4e [.agg [.sl 1 c2,.sl 1 c4]]).bind fun r5=>bQ r5 fun c8 c10=>bif Nat.ble ((x3.length+2)*48) (140737488355328*2)then L0 (q1a.st0 x0 x1 (IntKind.wrap .i64 (x2+1)) (x3++[.sl 1 c8,.sl 1 c10]:List T))else none else none else some (.sl 2 x3,[]):=by kernel_rfl
theorem q1a.ev(a0:List T):q1b prog A H LIM n F.q1a [.sl 2 a0]=q1a.at0 n n (q1a.st0 a0 (((a0.length/2):Nat):Int) (0:Int) []):=by kernel_rfl
def q27.st0(x0:List T)(x1 x2:Int)(x3:List T):St:=⟨[(3,(.one (.obj 384))),(7,ol 1 x0),(8,oi x1),(9,oi x2)],[(384,(.arr true true 1 x3))]⟩
def q27.K0:=kx F.q27 n [.block 0,.seq 0 (cx F.q27 [1,1,1])] (q3v prog A F.q27)
def q27.at0:=lx F.q27 n 0 [1,1,0,1,0,0] (q27.K0 n) m s
def q27.rd0:=rx F.q27 n 0 [1,1,0,1,0,0] (q27.K0 n) L0 s
theorem q27.next0:q27.at0 n (m+1) s=q27.rd0 n (q27.at0 n m) s:=nx ..
theorem q27.round0(x0:List T)(x1 x2:Int)(x3:List T):q27.rd0 n L0 (q27.st0 x0 x1 x2 x3)=bif (decide (x2<x1))then bif inB x2 (x0.length/1)then(x0[x2.toNat*1]?).bind fun e1=>(oInt .i64 e1).bind fun n2=>bif (decide (n2<0))then bif Nat.ble ((x3.length+1)*1) (140737488355328*1)then L0 (q27.st0 x0 x1 (IntKind.wrap .i64 (x2+1)) (x3++[.int .u8 (IntKind.wrap .u8 (IntKind.wrap .i64 ((31:Int)-n2)))]:List T))else none else bif Nat.ble ((x3.length+1)*1) (140737488355328*1)then L0 (q27.st0 x0 x1 (IntKind.wrap .i64 (x2+1)) (x3++[.int .u8 (IntKind.wrap .u8 (IntKind.wrap .i64 (n2+1)))]:List T))else none else none else some (.sl 1 x3,[]):=by kernel_rfl
theorem q27.ev(a0:List T):q1b prog A H LIM n F.q27 [.sl 1 a0]=q27.at0 n n (q27.st0 a0 (((a0.length/1):Nat):Int) (0:Int) []):=by kernel_rfl
theorem q9k.ev(a0_0 a1_0 a1_1 a2_0 a2_1:List T)(a3:Int):q1b prog A H LIM n F.q9k [.agg [.sl 2 a0_0],.agg [.sl 1 a1_0,.sl 1 a1_1],.agg [.sl 1 a2_0,.sl 1 a2_1],.int .i64 a3]=(LIM F.q29 [.sl 1 a2_0,.int .i64 6]).bind fun r1=>bL r1 fun c2=>(LIM F.q29 [.sl 1 a2_1,.int .i64 6]).bind fun r3=>bL r3 fun c4=>(LIM F.q3t [.agg [.sl 2 a0_0],.sl 1 a1_0,.int .i64 a3]).bind fun r5=>bL r5 fun c6=>(LIM F.q0i [.agg [.sl 2 a0_0],.sl 1 c6,.sl 1 c2]).bind fun r7=>(oNil r7.2).bind fun _=>(oTup r7.1).bind fun c8=>(q0s c8).bind fun p9=>(oAgg p9.1).bind fun c10=>(q0s c10).bind fun p11=>(oSl 1 p11.1).bind fun c12=>(q0s p11.2).bind fun p13=>(oSl 1 p13.1).bind fun c14=>(oNil p13.2).bind fun _=>(q0s p9.2).bind fun p15=>(oInt .i64 p15.1).bind fun n16=>(oNil p15.2).bind fun _=>bif (n16 != 0)then some (.agg [.int .i64 n16,.sl 1 [],.sl 1 []],[])else(LIM F.q6m [.agg [.sl 2 a0_0],.sl 1 a1_0,.int .i64 a3,.sl 1 c4]).bind fun r17=>bL r17 fun c18=>bif (decide ((((c18.length/1):Nat):Int)>24))then some (.agg [.int .i64 2,.sl 1 [],.sl 1 []],[])else(LIM F.q0o [.agg [.sl 1 c12,.sl 1 c14],.sl 1 a1_1]).bind fun r19=>bL r19 fun c20=>(LIM F.q0o [.agg [.sl 1 c12,.sl 1 c14],.sl 1 c18]).bind fun r21=>bL r21 fun c22=>bif (decide ((((c20.length/1):Nat):Int)>24))then some (.agg [.int .i64 2,.sl 1 [],.sl 1 []],[])else bif (decide ((((c22.length/1):Nat):Int)>24))then some (.agg [.int .i64 2,.sl 1 [],.sl 1 []],[])else(LIM F.q0e [.agg [.sl 1 c20,.sl 1 c22]]).bind fun r23=>(oNil r23.2).bind fun _=>(oTup r23.1).bind fun c24=>(q0s c24).bind fun p25=>(oAgg p25.1).bind fun c26=>(q0s c26).bind fun p27=>(oSl 1 p27.1).bind fun c28=>(q0s p27.2).bind fun p29=>(oSl 1 p29.1).bind fun c30=>(oNil p29.2).bind fun _=>(q0s p25.2).bind fun p31=>(q82 p31.1).bind fun b32=>(oNil p31.2).bind fun _=>bif (!b32)then some (.agg [.int .i64 2,.sl 1 [],.sl 1 []],[])else some (.agg [.int .i64 0,.sl 1 c28,.sl 1 c30],[]):=by kernel_rfl
def q0e.st2(x0 x1 x2 x3:Int)(x4 x5 x6:List T):St:=⟨[(2,(.one (.ptr 128 0))),(4,(.one (.obj 640))),(5,(.one (.ptr 320 0))),(17,(.one (.obj 1088))),(18,oi x0),(19,oi x1),(7,(.one (.obj 768))),(23,(.one (.obj 768))),(24,oi x2),(25,oi x3)],[(128,(.box [.nil,.nil])),(640,(.arr true true 1 x4)),(768,(.arr true true 1 x5)),(769,(.arr true true 1 x6)),(320,(.box [(.obj 768),(.obj 769)])),(1088,(.opn 1 [(.bool false),(.bool false)] [(0,(.obj 768)),(1,(.obj 769))]))]⟩
def q0e.st1002(x0 x1 x2 x3:Int)(x4 x5 x6:List T):St:=⟨[(2,(.one (.ptr 128 0))),(4,(.one (.obj 640))),(5,(.one (.ptr 320 0))),(17,(.one (.obj 1088))),(18,oi x0),(19,oi x1),(7,(.one (.obj 769))),(23,(.one (.obj 769))),(24,oi x2),(25,oi x3)],[(128,(.box [.nil,.nil])),(640,(.arr true true 1 x4)),(768,(.arr true true 1 x5)),(769,(.arr true true 1 x6)),(320,(.box [(.obj 768),(.obj 769)])),(1088,(.opn 1 [(.bool false),(.bool false)] [(0,(.obj 768)),(1,(.obj 769))]))]⟩
def q0e.st2002(x0 x1 x2 x3:Int)(x4 x5 x6 x7:List T)(x8:Nat):St:=⟨[(2,(.one (.ptr 128 0))),(4,(.one (.obj 640))),(5,(.one (.ptr 320 0))),(17,(.one (.obj 1088))),(18,oi x0),(19,oi x1),(7,(.one .undef)),(23,(.one .undef)),(24,oi x2),(25,oi x3)],[(128,(.box [.nil,.nil])),(640,(.arr true true 1 x4)),(768,(.arr true true 1 x5)),(769,(.arr true true 1 x6)),(320,(.box [(.obj 768),(.obj 769)])),(1088,(.opn 1 x7 [(x8,.undef),(0,(.obj 768)),(1,(.obj 769))]))]⟩
def q0e.st0(x0 x1:Int)(x2 x3 x4:List T):St:=⟨[(2,(.one (.ptr 128 0))),(4,(.one (.obj 640))),(5,(.one (.ptr 320 0))),(17,(.one (.obj 1088))),(18,oi x0),(19,oi x1)],[(128,(.box [.nil,.nil])),(640,(.arr true true 1 x2)),(768,(.arr true true 1 x3)),(769,(.arr true true 1 x4)),(320,(.box [(.obj 768),(.obj 769)])),(1088,(.opn 1 [(.bool false),(.bool false)] [(0,(.obj 768)),(1,(.obj 769))]))]⟩
def q0e.K0:=kx F.q0e n [.block 0,.seq 0 (cx F.q0e [1,1,1,1])] (q3v prog A F.q0e)
def q0e.at0:=lx F.q0e n 0 [1,1,1,0,1,0,0] (q0e.K0 n) m s
def q0e.rd0:=rx F.q0e n 0 [1,1,1,0,1,0,0] (q0e.K0 n) L0 s
theorem q0e.next0:q0e.at0 n (m+1) s=q0e.rd0 n (q0e.at0 n m) s:=nx ..
def q0e.K2002(n:Nat)(L0:St->R):=kx F.q0e n [.block 2,.block 1,.seq 0 (cx F.q0e [1,1,1,0,1,0,0,1,1,1])] (bx F.q0e 0 (q0e.K0 n) L0)
def q0e.at2002(n:Nat)(L0:St->R)(m:Nat)(s:St):=lx F.q0e n 2 [1,1,1,0,1,0,0,1,1,0,0,1,1,0,0] (q0e.K2002 n L0) m s
def q0e.K1002(n:Nat)(L0:St->R):=kx F.q0e n [.block 2,.block 1,.seq 0 (cx F.q0e [1,1,1,0,1,0,0,1,1,1])] (bx F.q0e 0 (q0e.K0 n) L0)
def q0e.at1002(n:Nat)(L0:St->R)(m:Nat)(s:St):=lx F.q0e n 2 [1,1,1,0,1,0,0,1,1,0,0,1,1,0,0] (q0e.K1002 n L0) m s
def q0e.rd1002(n:Nat)(L0:St->R)(L1002:St->R)(s:St):=rx F.q0e n 2 [1,1,1,0,1,0,0,1,1,0,0,1,1,0,0] (q0e.K1002 n L0) L1002 s
theorem q0e.next1002(n:Nat)(L0:St->R)(m:Nat)(s:St):q0e.at1002 n L0 (m+1) s=q0e.rd1002 n L0 (q0e.at1002 n L0 m) s:=nx ..
def q0e.K2:=kx F.q0e n [.block 2,.block 1,.seq 0 (cx F.q0e [1,1,1,0,1,0,0,1,1,1])] (bx F.q0e 0 (q0e.K0 n) L0)
def q0e.at2:=lx F.q0e n 2 [1,1,1,0,1,0,0,1,1,0,0,1,1,0,0] (q0e.K2 n L0) m s
def q0e.rd2:=rx F.q0e n 2 [1,1,1,0,1,0,0,1,1,0,0,1,1,0,0] (q0e.K2 n L0) L2 s
theorem q0e.next2:q0e.at2 n L0 (m+1) s=q0e.rd2 n L0 (q0e.at2 n L0 m) s:=nx ..
theorem q0e.round0(x0 x1:Int)(x2 x3 x4:List T):q0e.rd0 n L0 (q0e.st0 x0 x1 x2 x3 x4)=bif (decide (x1<x0))then bif inB x1 2 then bif Nat.beq 0 (x1.toNat*1)then q0e.at2 n L0 n (q0e.st2 x0 x1 (((x3.length/1):Nat):Int) (0:Int) x2 x3 x4)else bif Nat.beq 1 (x1.toNat*1)then q0e.at1002 n L0 n (q0e.st1002 x0 x1 (((x4.length/1):Nat):Int) (0:Int) x2 x3 x4)else(([.bool false,.bool false]:List T)[x1.toNat*1]?).bind fun e23=>(oSl 1 e23).bind fun c24=>q0e.at2002 n L0 n (q0e.st2002 x0 x1 (((c24.length/1):Nat):Int) (0:Int) x2 x3 x4 [.bool false,.bool false] (x1.toNat*1))else none else some ((.tup [.agg [.sl 1 x3,.sl 1 x4],(.bool (decide ((((x2.length/1):Nat):Int)<=6)))]),[]):=by kernel_rfl
theorem q0e.round1002(n:Nat)(L0:St->R)(L1002:St->R)(x0 x1 x2 x3:Int)(x4 x5 x6:List T):q0e.rd1002 n L0 L1002 (q0e.st1002 x0 x1 x2 x3 x4 x5 x6)=bif (decide (x3<x2))then bif inB x3 (x6.length/1)then(x6[x3.toNat*1]?).bind fun e15=>(oInt .i64 e15).bind fun n16=>bif (decide (n16>=0))then L1002 (q0e.st1002 x0 x1 x2 (IntKind.wrap .i64 (x3+1)) x4 x5 x6)else(LIM F.q1p [.sl 1 x4,.int .i64 n16]).bind fun r17=>bB r17 fun b18=>bif (!b18)then bif Nat.ble ((x4.length+1)*8) (140737488355328*1)then(LIM F.q0f [.sl 1 (x4++[.int .i64 n16]:List T),.int .i64 n16]).bind fun r19=>bI r19 fun n20=>bif inB x3 (x6.length/1)then bif decide ((x3.toNat*1)+1<=x6.length)then L1002 (q0e.st1002 x0 x1 x2 (IntKind.wrap .i64 (x3+1)) (x4++[.int .i64 n16]:List T) x5 (setCells x6 (x3.toNat*1) [.int .i64 (IntKind.wrap .i64 ((-1:Int)-n20))]))else none else none else none else(LIM F.q0f [.sl 1 x4,.int .i64 n16]).bind fun r21=>bI r21 fun n22=>bif inB x3 (x6.length/1)then bif decide ((x3.toNat*1)+1<=x6.length)then L1002 (q0e.st1002 x0 x1 x2 (IntKind.wrap .i64 (x3+1)) x4 x5 (setCells x6 (x3.toNat*1) [.int .i64 (IntKind.wrap .i64 ((-1:Int)-n22))]))else none else none else none else L0 (q0e.st0 x0 (IntKind.wrap .i64 (x1+1)) x4 x5 x6):=by kernel_rfl
theorem q0e.round2(x0 x1 x2 x3:Int)(x4 x5 x6:List T):q0e.rd2 n L0 L2 (q0e.st2 x0 x1 x2 x3 x4 x5 x6)=bif (decide (x3<x2))then bif inB x3 (x5.length/1)then(x5[x3.toNat*1]?).bind fun e7=>(oInt .i64 e7).bind fun n8=>bif (decide (n8>=0))then L2 (q0e.st2 x0 x1 x2 (IntKind.wrap .i64 (x3+1)) x4 x5 x6)else(LIM F.q1p [.sl 1 x4,.int .i64 n8]).bind fun r9=>bB r9 fun b10=>bif (!b10)then bif Nat.ble ((x4.length+1)*8) (140737488355328*1)then(LIM F.q0f [.sl 1 (x4++[.int .i64 n8]:List T),.int .i64 n8]).bind fun r11=>bI r11 fun n12=>bif inB x3 (x5.length/1)then bif decide ((x3.toNat*1)+1<=x5.length)then L2 (q0e.st2 x0 x1 x2 (IntKind.wrap .i64 (x3+1)) (x4++[.int .i64 n8]:List T) (setCells x5 (x3.toNat*1) [.int .i64 (IntKind.wrap .i64 ((-1:Int)-n12))]) x6)else none else none else none else(LIM F.q0f [.sl 1 x4,.int .i64 n8]).bind fun r13=>bI r13 fun n14=>bif inB x3 (x5.length/1)then bif decide ((x3.toNat*1)+1<=x5.length)then L2 (q0e.st2 x0 x1 x2 (IntKind.wrap .i64 (x3+1)) x4 (setCells x5 (x3.toNat*1) [.int .i64 (IntKind.wrap .i64 ((-1:Int)-n14))]) x6)else none else none else none else L0 (q0e.st0 x0 (IntKind.wrap .i64 (x1+1)) x4 x5 x6):=by kernel_rfl
theorem q0e.ev(a0_0 a0_1:List T):q1b prog A H LIM n F.q0e [.agg [.sl 1 a0_0,.sl 1 a0_1]]=(LIM F.q4e [.agg [.sl 1 a0_0,.sl 1 a0_1]]).bind fun r1=>bQ r1 fun c4 c6=>q0e.at0 n n (q0e.st0 (2:Int) (0:Int) [] c4 c6):=by kernel_rfl
theorem q6m.ev(a0_0 a1:List T)(a2:Int)(a3:List T):q1b prog A H LIM n F.q6m [.agg [.sl 2 a0_0],.sl 1 a1,.int .i64 a2,.sl 1 a3]=bif decide (0<=(0:Int))&&decide ((0:Int)<=a2)&&decide (a2<=(((a1.length/1):Nat):Int))then(LIM F.q2c [.sl 1 ((a1.take (a2.toNat*1)).drop (0*1))]).bind fun r1=>bL r1 fun c2=>bif a3.all T.scalar then bif Nat.ble ((c2.length+a3.length)*8) (140737488355328*1)then(LIM F.q3d [.agg [.sl 2 a0_0],.sl 1 a1,.int .i64 a2]).bind fun r3=>bI r3 fun n4=>bif decide (0<=n4)&&decide (n4<=(((a1.length/1):Nat):Int))&&decide ((((a1.length/1):Nat):Int)<=(((a1.length/1):Nat):Int))then bif (((a1.take ((Int.toNat (((a1.length/1):Nat):Int))*1)).drop (n4.toNat*1))).all T.scalar then bif Nat.ble ((((c2++a3:List T)).length+(((a1.take ((Int.toNat (((a1.length/1):Nat):Int))*1)).drop (n4.toNat*1))).length)*8) (140737488355328*1)then some ((.sl 1 ((c2++a3:List T)++((a1.take ((Int.toNat (((a1.length/1):Nat):Int))*1)).drop (n4.toNat*1)):List T)),[])else none else none else none else none else none else none:=by kernel_rfl
theorem q5z.ev(a0_0 a1 a2:List T):q1b prog A H LIM n F.q5z [.agg [.sl 2 a0_0],.sl 2 a1,.sl 1 a2]=(LIM F.q5d [.agg [.sl 2 a0_0],.sl 2 a1]).bind fun r1=>bI r1 fun n2=>(LIM F.q4v [.agg [.sl 2 a0_0],.sl 1 a2]).bind fun r3=>bI r3 fun n4=>(LIM F.q67 [.sl 1 [.int .i64 n2,.int .i64 n4]]).bind fun r5=>bI r5 fun n6=>some (.int .i64 n6,[]):=by kernel_rfl
theorem q7o.ev(a0_0 a1_0 a1_1 a2:List T)(a3:Int):q1b prog A H LIM n F.q7o [.agg [.sl 2 a0_0],.agg [.sl 1 a1_0,.sl 1 a1_1],.sl 1 a2,.int .i64 a3]=(LIM F.q3t [.agg [.sl 2 a0_0],.sl 1 a2,.int .i64 a3]).bind fun r1=>bL r1 fun c2=>(LIM F.q2h [.agg [.sl 2 a0_0],.sl 1 a1_0,.sl 1 c2]).bind fun r3=>(oNil r3.2).bind fun _=>(oTup r3.1).bind fun c4=>(q0s c4).bind fun p5=>(oAgg p5.1).bind fun c6=>(q0s c6).bind fun p7=>(oSl 1 p7.1).bind fun c8=>(q0s p7.2).bind fun p9=>(oSl 1 p9.1).bind fun c10=>(oNil p9.2).bind fun _=>(q0s p5.2).bind fun p11=>(q82 p11.1).bind fun b12=>(oNil p11.2).bind fun _=>bif (!b12)then some (.agg [.int .i64 4,.sl 1 []],[])else(LIM F.q0o [.agg [.sl 1 c8,.sl 1 c10],.sl 1 a1_1]).bind fun r13=>bL r13 fun c14=>(LIM F.q6m [.agg [.sl 2 a0_0],.sl 1 a2,.int .i64 a3,.sl 1 c14]).bind fun r15=>bL r15 fun c16=>(LIM F.q8y [.sl 1 c16]).bind fun r17=>(oNil r17.2).bind fun _=>(oAgg r17.1).bind fun c18=>(q0s c18).bind fun p19=>(oInt .i64 p19.1).bind fun n20=>(q0s p19.2).bind fun p21=>(oSl 1 p21.1).bind fun c22=>(oNil p21.2).bind fun _=>some (.agg [.int .i64 n20,.sl 1 c22],[]):=by kernel_rfl
theorem q5x.ev(a0_0 a0_1 a1_0 a1_1:List T):q1b prog A H LIM n F.q5x [.agg [.sl 1 a0_0,.sl 1 a0_1],.agg [.sl 1 a1_0,.sl 1 a1_1]]=(LIM F.q0t [.sl 1 a0_0,.sl 1 a1_0]).bind fun r1=>bB r1 fun b2=>bif b2 then(LIM F.q0t [.sl 1 a0_1,.sl 1 a1_1]).bind fun r3=>bB r3 fun b4=>some (.bool b4,[])else some (.bool false,[]):=by kernel_rfl
def q29.st0(x0 x1 x2:Int)(x3:List T):St:=⟨[(1,oi x0),(5,(.one (.obj 576))),(10,(.one (.obj 576))),(11,oi x1),(12,oi x2)],[(576,(.arr true true 1 x3))]⟩
def q29.K0:=kx F.q29 n [.block 0,.seq 0 (cx F.q29 [1,1,1])] (q3v prog A F.q29)
def q29.at0:=lx F.q29 n 0 [1,1,0,1,0,0] (q29.K0 n) m s
def q29.rd0:=rx F.q29 n 0 [1,1,0,1,0,0] (q29.K0 n) L0 s
theorem q29.next0:q29.at0 n (m+1) s=q29.rd0 n (q29.at0 n m) s:=nx ..
theorem q29.round0(x0 x1 x2:Int)(x3:List T):q29.rd0 n L0 (q29.st0 x0 x1 x2 x3)=bif (decide (x2<x1))then bif inB x2 (x3.length/1)then(x3[x2.toNat*1]?).bind fun e3=>(oInt .i64 e3).bind fun n4=>bif (decide (n4<0))then bif inB x2 (x3.length/1)then bif decide ((x2.toNat*1)+1<=x3.length)then L0 (q29.st0 x0 x1 (IntKind.wrap .i64 (x2+1)) (setCells x3 (x2.toNat*1) [.int .i64 (IntKind.wrap .i64 (n4-x0))]))else none else none else L0 (q29.st0 x0 x1 (IntKind.wrap .i64 (x2+1)) x3)else none else some (.sl 1 x3,[]):=by kernel_rfl
theorem q29.ev(a0:List T)(a1:Int):q1b prog A H LIM n F.q29 [.sl 1 a0,.int .i64 a1]=(LIM F.q2c [.sl 1 a0]).bind fun r1=>bL r1 fun c2=>q29.at0 n n (q29.st0 a1 (((c2.length/1):Nat):Int) (0:Int) c2):=by kernel_rfl
theorem q3t.ev(a0_0 a1:List T)(a2:Int):q1b prog A H LIM n F.q3t [.agg [.sl 2 a0_0],.sl 1 a1,.int .i64 a2]=(LIM F.q3d [.agg [.sl 2 a0_0],.sl 1 a1,.int .i64 a2]).bind fun r1=>bI r1 fun n2=>bif decide (0<=a2)&&decide (a2<=n2)&&decide (n2<=(((a1.length/1):Nat):Int))then some (.sl 1 ((a1.take (n2.toNat*1)).drop (a2.toNat*1)),[])else none:=by kernel_rfl
theorem q6j.ev(a0_0:List T)(a1:ByteArray):q1b prog A H LIM n F.q6j [.agg [.sl 2 a0_0],.str a1]=(LIM F.q25 [.sl 2 a0_0,.clo F.q4x [.rref [.str a1] 0]]).bind fun r1=>bI r1 fun n2=>some (.int .i64 n2,[]):=by kernel_rfl
theorem q4x.ev(a0_0:ByteArray)(a0_1:Int)(a1_0:ByteArray):q1b prog A H LIM n F.q4x [.agg [.str a0_0,.int .i64 a0_1],.rref [.str a1_0] 0]=some (.bool (a0_0.toList==a1_0.toList),[]):=by kernel_rfl
def q0i.st5(x0 x1 x2:List T)(x3 x4:Int)(x5 x6 x7 x8 x9:List T):St:=⟨[(3,(.one (.ptr 192 0))),(6,(.one (.ptr 384 0))),(8,(.one (.ptr 512 0))),(9,ol 2 x0),(10,ol 1 x1),(11,ol 1 x2),(12,(.one (.ptr 768 0))),(118,(.one (.obj 518193))),(119,oi x3),(120,oi x4)],[(192,(.box [(.t (.sl 2 x5))])),(384,(.box [.nil,.nil])),(512,(.box [(.obj 518192),(.obj 518193)])),(518192,(.arr true true 1 x6)),(518193,(.arr true true 1 x7)),(7232,(.arr true true 1 x8)),(7360,(.arr true false 1 x9)),(768,(.box [(.obj 7232),(.obj 7360)]))]⟩
def q0i.st3(x0 x1 x2:List T)(x3 x4:Int)(x5 x6 x7 x8 x9 x10:List T):St:=⟨[(3,(.one (.ptr 192 0))),(6,(.one (.ptr 384 0))),(8,(.one (.ptr 512 0))),(9,ol 2 x0),(10,ol 1 x1),(11,ol 1 x2),(15,(.one (.obj 3200))),(16,(.one (.obj 3392))),(56,(.one (.obj 3584))),(57,oi x3),(58,oi x4)],[(192,(.box [(.t (.sl 2 x5))])),(384,(.box [.nil,.nil])),(512,(.box [(.obj 518192),(.obj 518193)])),(518192,(.arr true true 1 x6)),(518193,(.arr true true 1 x7)),(3392,(.arr true true 1 x8)),(3584,(.arr true true 1 x9)),(3200,(.arr true false 2 x10))]⟩
def q0i.st0(x0 x1 x2 x3:List T):St:=⟨[(3,(.one (.ptr 192 0))),(6,(.one (.ptr 384 0))),(8,(.one (.ptr 512 0))),(9,ol 2 x0)],[(192,(.box [(.t (.sl 2 x1))])),(384,(.box [.nil,.nil])),(512,(.box [(.obj 518192),(.obj 518193)])),(518192,(.arr true true 1 x2)),(518193,(.arr true true 1 x3))]⟩
def q0i.K0:=kx F.q0i n [.block 0,.seq 0 (cx F.q0i [1,1,1,1])] (q3v prog A F.q0i)
def q0i.at0:=lx F.q0i n 0 [1,1,1,0,0,0] (q0i.K0 n) m s
def q0i.rd0:=rx F.q0i n 0 [1,1,1,0,0,0] (q0i.K0 n) L0 s
theorem q0i.next0:q0i.at0 n (m+1) s=q0i.rd0 n (q0i.at0 n m) s:=nx ..
def q0i.K3:=kx F.q0i n [.block 3,.seq 2 (cx F.q0i [1,1,1,0,0,0,1,0,1,1,1,0,1,1,1,1,1,1,1,1,1]),.block 2,.block 1] (bx F.q0i 0 (q0i.K0 n) L0)
def q0i.at3:=lx F.q0i n 3 [1,1,1,0,0,0,1,0,1,1,1,0,1,1,1,1,1,1,1,1,0,1,0,0] (q0i.K3 n L0) m s
def q0i.rd3:=rx F.q0i n 3 [1,1,1,0,0,0,1,0,1,1,1,0,1,1,1,1,1,1,1,1,0,1,0,0] (q0i.K3 n L0) L3 s
theorem q0i.next3:q0i.at3 n L0 (m+1) s=q0i.rd3 n L0 (q0i.at3 n L0 m) s:=nx ..
def q0i.K5:=kx F.q0i n [.block 5,.seq 2 (cx F.q0i [1,1,1,0,0,0,1,0,1,1,1,0,1,1,1,0,1,1,1,1]),.block 2,.block 1] (bx F.q0i 0 (q0i.K0 n) L0)
def q0i.at5:=lx F.q0i n 5 [1,1,1,0,0,0,1,0,1,1,1,0,1,1,1,0,1,1,1,0,1,0,0] (q0i.K5 n L0) m s
def q0i.rd5:=rx F.q0i n 5 [1,1,1,0,0,0,1,0,1,1,1,0,1,1,1,0,1,1,1,0,1,0,0] (q0i.K5 n L0) L5 s
theorem q0i.next5:q0i.at5 n L0 (m+1) s=q0i.rd5 n L0 (q0i.at5 n L0 m) s:=nx ..
theorem q0i.round0(x0 x1 x2 x3:List T):q0i.rd0 n L0 (q0i.st0 x0 x1 x2 x3)=bif (decide ((((x0.length/2):Nat):Int)>0))then bif inB (0:Int) (x0.length/2)then(x0[0]?).bind fun e1=>(oSl 1 e1).bind fun c2=>(LIM F.q0o [.agg [.sl 1 x2,.sl 1 x3],.sl 1 c2]).bind fun r3=>bL r3 fun c4=>bif inB (0:Int) (x0.length/2)then(x0[1]?).bind fun e5=>(oSl 1 e5).bind fun c6=>(LIM F.q0o [.agg [.sl 1 x2,.sl 1 x3],.sl 1 c6]).bind fun r7=>bL r7 fun c8=>bif decide (0<=(1:Int))&&decide ((1:Int)<=(((x0.length/2):Nat):Int))&&decide ((((x0.length/2):Nat):Int)<=(((x0.length/2):Nat):Int))then bif (decide ((((c4.length/1):Nat):Int)>24))then some (.tup [.agg [.sl 1 [],.sl 1 []],.int .i64 2],[])else bif (decide ((((c8.length/1):Nat):Int)>24))then some (.tup [.agg [.sl 1 [],.sl 1 []],.int .i64 2],[])else(LIM F.q0t [.sl 1 c4,.sl 1 c8]).bind fun r9=>bB r9 fun b10=>bif b10 then L0 (q0i.st0 ((x0.take ((Int.toNat (((x0.length/2):Nat):Int))*2)).drop (1*2)) x1 x2 x3)else bif inB (0:Int) (c4.length/1)then(c4[0]?).bind fun e11=>(oInt .i64 e11).bind fun n12=>bif (decide (n12<0))then bif inB (0:Int) (c4.length/1)then(c4[0]?).bind fun e13=>(oInt .i64 e13).bind fun n14=>bif (decide (n14>=0))then bif inB (0:Int) (c8.length/1)then(c8[0]?).bind fun e15=>(oInt .i64 e15).bind fun n16=>(LIM F.q1p [.sl 1 c4,.int .i64 n16]).bind fun r17=>bB r17 fun b18=>bif b18 then some (.tup [.agg [.sl 1 [],.sl 1 []],.int .i64 4],[])else bif inB (0:Int) (c8.length/1)then(c8[0]?).bind fun e19=>(oInt .i64 e19).bind fun n20=>q0i.at5 n L0 n (q0i.st5 ((x0.take ((Int.toNat (((x0.length/2):Nat):Int))*2)).drop (1*2)) c8 c4 (((x3.length/1):Nat):Int) (0:Int) x1 x2 x3 [.int .i64 (IntKind.wrap .i64 ((-1:Int)-n20))] [.sl 1 c4])else none else none else bif inB (0:Int) (c4.length/1)then(c4[0]?).bind fun e37=>(oInt .i64 e37).bind fun n38=>(LIM F.q1p [.sl 1 c8,.int .i64 n38]).bind fun r39=>bB r39 fun b40=>bif b40 then some (.tup [.agg [.sl 1 [],.sl 1 []],.int .i64 4],[])else bif inB (0:Int) (c4.length/1)then(c4[0]?).bind fun e41=>(oInt .i64 e41).bind fun n42=>q0i.at5 n L0 n (q0i.st5 ((x0.take ((Int.toNat (((x0.length/2):Nat):Int))*2)).drop (1*2)) c4 c8 (((x3.length/1):Nat):Int) (0:Int) x1 x2 x3 [.int .i64 (IntKind.wrap .i64 ((-1:Int)-n42))] [.sl 1 c8])else none else none else none else bif inB (0:Int) (c8.length/1)then(c8[0]?).bind fun e43=>(oInt .i64 e43).bind fun n44=>bif (decide (n44<0))then bif inB (0:Int) (c4.length/1)then(c4[0]?).bind fun e45=>(oInt .i64 e45).bind fun n46=>bif (decide (n46>=0))then bif inB (0:Int) (c8.length/1)then(c8[0]?).bind fun e47=>(oInt .i64 e47).bind fun n48=>(LIM F.q1p [.sl 1 c4,.int .i64 n48]).bind fun r49=>bB r49 fun b50=>bif b50 then some (.tup [.agg [.sl 1 [],.sl 1 []],.int .i64 4],[])else bif inB (0:Int) (c8.length/1)then(c8[0]?).bind fun e51=>(oInt .i64 e51).bind fun n52=>q0i.at5 n L0 n (q0i.st5 ((x0.take ((Int.toNat (((x0.length/2):Nat):Int))*2)).drop (1*2)) c8 c4 (((x3.length/1):Nat):Int) (0:Int) x1 x2 x3 [.int .i64 (IntKind.wrap .i64 ((-1:Int)-n52))] [.sl 1 c4])else none else none else bif inB (0:Int) (c4.length/1)then(c4[0]?).bind fun e53=>(oInt .i64 e53).bind fun n54=>(LIM F.q1p [.sl 1 c8,.int .i64 n54]).bind fun r55=>bB r55 fun b56=>bif b56 then some (.tup [.agg [.sl 1 [],.sl 1 []],.int .i64 4],[])else bif inB (0:Int) (c4.length/1)then(c4[0]?).bind fun e57=>(oInt .i64 e57).bind fun n58=>q0i.at5 n L0 n (q0i.st5 ((x0.take ((Int.toNat (((x0.length/2):Nat):Int))*2)).drop (1*2)) c4 c8 (((x3.length/1):Nat):Int) (0:Int) x1 x2 x3 [.int .i64 (IntKind.wrap .i64 ((-1:Int)-n58))] [.sl 1 c8])else none else none else none else bif inB (0:Int) (c4.length/1)then(c4[0]?).bind fun e59=>(oInt .i64 e59).bind fun n60=>bif inB (0:Int) (c8.length/1)then(c8[0]?).bind fun e61=>(oInt .i64 e61).bind fun n62=>bif (n60 != n62)then some (.tup [.agg [.sl 1 [],.sl 1 []],.int .i64 4],[])else(LIM F.q0z [.agg [.sl 2 x1],.sl 1 c8,.int .i64 0]).bind fun r63=>bL r63 fun c64=>(LIM F.q0z [.agg [.sl 2 x1],.sl 1 c4,.int .i64 0]).bind fun r65=>bL r65 fun c66=>q0i.at3 n L0 n (q0i.st3 ((x0.take ((Int.toNat (((x0.length/2):Nat):Int))*2)).drop (1*2)) c4 c8 (((c66.length/1):Nat):Int) (0:Int) x1 x2 x3 c64 c66 [])else none else none else none else none else none else none else none else some (.tup [.agg [.sl 1 x2,.sl 1 x3],.int .i64 0],[]):=by kernel_rfl
theorem q0i.round3(x0 x1 x2:List T)(x3 x4:Int)(x5 x6 x7 x8 x9 x10:List T):q0i.rd3 n L0 L3 (q0i.st3 x0 x1 x2 x3 x4 x5 x6 x7 x8 x9 x10)=bif (decide (x4<x3))then bif inB x4 (x9.length/1)then(x9[x4.toNat*1]?).bind fun e67=>(oInt .i64 e67).bind fun n68=>(LIM F.q3t [.agg [.sl 2 x5],.sl 1 x1,.int .i64 n68]).bind fun r69=>bL r69 fun c70=>bif inB x4 (x8.length/1)then(x8[x4.toNat*1]?).bind fun e71=>(oInt .i64 e71).bind fun n72=>(LIM F.q3t [.agg [.sl 2 x5],.sl 1 x2,.int .i64 n72]).bind fun r73=>bL r73 fun c74=>bif Nat.ble ((x10.length+2)*48) (140737488355328*2)then L3 (q0i.st3 x0 x1 x2 x3 (IntKind.wrap .i64 (x4+1)) x5 x6 x7 x8 x9 (x10++[.sl 1 c70,.sl 1 c74]:List T))else none else none else none else bif Nat.ble ((x10.length+x0.length)*48) (140737488355328*2)then L0 (q0i.st0 (x10++x0:List T) x5 x6 x7)else none:=by kernel_rfl
theorem q0i.round5(x0 x1 x2:List T)(x3 x4:Int)(x5 x6 x7 x8 x9:List T):q0i.rd5 n L0 L5 (q0i.st5 x0 x1 x2 x3 x4 x5 x6 x7 x8 x9)=bif (decide (x4<x3))then bif inB x4 (x7.length/1)then(x7[x4.toNat*1]?).bind fun e21=>(oSl 1 e21).bind fun c22=>(LIM F.q0o [.agg [.sl 1 x8,.sl 1 x9],.sl 1 c22]).bind fun r23=>bL r23 fun c24=>bif inB x4 (x7.length/1)then bif decide ((x4.toNat*1)<x7.length)then bif inB x4 ((List.set (List.set x7 (x4.toNat*1) (.sl 1 c22)) (x4.toNat*1) (.sl 1 c24)).length/1)then((List.set (List.set x7 (x4.toNat*1) (.sl 1 c22)) (x4.toNat*1) (.sl 1 c24))[x4.toNat*1]?).bind fun e25=>(oSl 1 e25).bind fun c26=>bif (decide ((((c26.length/1):Nat):Int)>24))then some (.tup [.agg [.sl 1 [],.sl 1 []],.int .i64 2],[])else L5 (q0i.st5 x0 x1 x2 x3 (IntKind.wrap .i64 (x4+1)) x5 x6 (List.set (List.set (List.set x7 (x4.toNat*1) (.sl 1 c22)) (x4.toNat*1) (.sl 1 c24)) (x4.toNat*1) (.sl 1 c26)) x8 x9)else none else none else none else none else bif inB (0:Int) (x1.length/1)then(x1[0]?).bind fun e27=>(oInt .i64 e27).bind fun n28=>(LIM F.q15 [.rref [.sl 1 x6,.sl 1 x7] 0,.int .i64 (IntKind.wrap .i64 ((-1:Int)-n28)),.sl 1 x2]).bind fun r29=>(q0s r29.2).bind fun p30=>bQ p30 fun c33 c35=>(oTup r29.1).bind fun c36=>(oNil c36).bind fun _=>L0 (q0i.st0 x0 x5 c33 c35)else none:=by kernel_rfl
theorem q0i.ev(a0_0 a1 a2:List T):q1b prog A H LIM n F.q0i [.agg [.sl 2 a0_0],.sl 1 a1,.sl 1 a2]=q0i.at0 n n (q0i.st0 [.sl 1 a1,.sl 1 a2] a0_0 [] []):=by kernel_rfl
def q11.st2(x0:List T)(x1 x2:Int)(x3:List T)(x4 x5:Int)(x6:List T):St:=⟨[(3,(.one (.obj 512))),(9,ol 1 x0),(10,oi x1),(11,oi x2),(15,ol 1 x3),(16,oi x4),(17,oi x5)],[(512,(.arr true true 1 x6))]⟩
def q11.st0(x0:List T)(x1 x2:Int)(x3:List T):St:=⟨[(3,(.one (.obj 512))),(9,ol 1 x0),(10,oi x1),(11,oi x2)],[(512,(.arr true true 1 x3))]⟩
def q11.K0:=kx F.q11 n [.block 0,.seq 0 (cx F.q11 [1,1,1])] (q3v prog A F.q11)
def q11.at0:=lx F.q11 n 0 [1,1,0,1,0,0] (q11.K0 n) m s
def q11.rd0:=rx F.q11 n 0 [1,1,0,1,0,0] (q11.K0 n) L0 s
theorem q11.next0:q11.at0 n (m+1) s=q11.rd0 n (q11.at0 n m) s:=nx ..
def q11.K2:=kx F.q11 n [.block 2,.block 1,.seq 0 (cx F.q11 [1,1,0,1,0,0,1,1,1])] (bx F.q11 0 (q11.K0 n) L0)
def q11.at2:=lx F.q11 n 2 [1,1,0,1,0,0,1,1,0,0,1,1,0,0] (q11.K2 n L0) m s
def q11.rd2:=rx F.q11 n 2 [1,1,0,1,0,0,1,1,0,0,1,1,0,0] (q11.K2 n L0) L2 s
theorem q11.next2:q11.at2 n L0 (m+1) s=q11.rd2 n L0 (q11.at2 n L0 m) s:=nx ..
theorem q11.round0(x0:List T)(x1 x2:Int)(x3:List T):q11.rd0 n L0 (q11.st0 x0 x1 x2 x3)=bif (decide (x2<x1))then bif inB x2 (x0.length/1)then(x0[x2.toNat*1]?).bind fun e1=>(oSl 1 e1).bind fun c2=>q11.at2 n L0 n (q11.st2 x0 x1 x2 c2 (((c2.length/1):Nat):Int) (0:Int) x3)else none else(LIM F.q8u [.sl 1 x3]).bind fun r5=>(q0s r5.2).bind fun p6=>(oNil p6.2).bind fun _=>(oSl 1 p6.1).bind fun c7=>(oTup r5.1).bind fun c8=>(oNil c8).bind fun _=>(LIM F.q7d [.sl 1 c7]).bind fun r9=>bL r9 fun c10=>some (.sl 1 c10,[]):=by kernel_rfl
theorem q11.round2(x0:List T)(x1 x2:Int)(x3:List T)(x4 x5:Int)(x6:List T):q11.rd2 n L0 L2 (q11.st2 x0 x1 x2 x3 x4 x5 x6)=bif (decide (x5<x4))then bif inB x5 (x3.length/1)then(x3[x5.toNat*1]?).bind fun e3=>(oInt .i64 e3).bind fun n4=>bif (decide (n4<0))then bif Nat.ble ((x6.length+1)*8) (140737488355328*1)then L2 (q11.st2 x0 x1 x2 x3 x4 (IntKind.wrap .i64 (x5+1)) (x6++[.int .i64 (IntKind.wrap .i64 ((-1:Int)-n4))]:List T))else none else L2 (q11.st2 x0 x1 x2 x3 x4 (IntKind.wrap .i64 (x5+1)) x6)else none else L0 (q11.st0 x0 x1 (IntKind.wrap .i64 (x2+1)) x6):=by kernel_rfl
theorem q11.ev(a0:List T):q1b prog A H LIM n F.q11 [.sl 1 a0]=q11.at0 n n (q11.st0 a0 (((a0.length/1):Nat):Int) (0:Int) []):=by kernel_rfl
theorem q3l.ev(a0 a1 a2:Int):q1b prog A H LIM n F.q3l [.int .i64 a0,.int .i64 a1,.int .i64 a2]=bif (decide (a0>=a1))then some (.bool (decide (a0<=a2)),[])else some (.bool false,[]):=by kernel_rfl
def q0j.st2(x0:Int)(x1:Bool)(x2:Int)(x3 x4 x5 x6 x7 x8:List T)(x9:Int)(x10:List T)(x11:Int):St:=⟨[(3,(.one (.ptr 192 0))),(4,(.one (.ptr 256 0))),(5,(.one (.ptr 320 0))),(6,oi x0),(7,(.one (.t (.bool x1)))),(8,oi x2)],[(192,(.box [(.t (.sl 2 x3))])),(256,(.box [(.t (.sl 1 x4)),(.t (.sl 2 x5)),(.t (.sl 7 x6)),(.t (.sl 1 x7)),(.t (.sl 1 x8)),(.t (.int .i64 x9))])),(1281,(.arr false true 2 x10)),(320,(.box [(.t (.int .i64 x11)),(.obj 1281)]))]⟩
def q0j.st0(x0:Int)(x1 x2 x3 x4 x5 x6:List T)(x7:Int)(x8:List T)(x9:Int):St:=⟨[(3,(.one (.ptr 192 0))),(4,(.one (.ptr 256 0))),(5,(.one (.ptr 320 0))),(6,oi x0)],[(192,(.box [(.t (.sl 2 x1))])),(256,(.box [(.t (.sl 1 x2)),(.t (.sl 2 x3)),(.t (.sl 7 x4)),(.t (.sl 1 x5)),(.t (.sl 1 x6)),(.t (.int .i64 x7))])),(1281,(.arr false true 2 x8)),(320,(.box [(.t (.int .i64 x9)),(.obj 1281)]))]⟩
def q0j.K0:=kx F.q0j n [.block 0,.seq 0 (cx F.q0j [1,1,1,1,1,1,1,1])] (q3v prog A F.q0j)
def q0j.at0:=lx F.q0j n 0 [1,1,1,1,1,1,1,0,1,0,0] (q0j.K0 n) m s
def q0j.rd0:=rx F.q0j n 0 [1,1,1,1,1,1,1,0,1,0,0] (q0j.K0 n) L0 s
theorem q0j.next0:q0j.at0 n (m+1) s=q0j.rd0 n (q0j.at0 n m) s:=nx ..
def q0j.K2:=kx F.q0j n [.block 2,.seq 1 (cx F.q0j [1,1,1,1,1,1,1,0,1,0,0,1,0,0,1,1]),.block 1,.seq 0 (cx F.q0j [1,1,1,1,1,1,1,0,1,0,0,1,1])] (bx F.q0j 0 (q0j.K0 n) L0)
def q0j.at2:=lx F.q0j n 2 [1,1,1,1,1,1,1,0,1,0,0,1,0,0,1,0,1,0,0] (q0j.K2 n L0) m s
def q0j.rd2:=rx F.q0j n 2 [1,1,1,1,1,1,1,0,1,0,0,1,0,0,1,0,1,0,0] (q0j.K2 n L0) L2 s
theorem q0j.next2:q0j.at2 n L0 (m+1) s=q0j.rd2 n L0 (q0j.at2 n L0 m) s:=nx ..
theorem q0j.round0(x0:Int)(x1 x2 x3 x4 x5 x6:List T)(x7:Int)(x8:List T)(x9:Int):q0j.rd0 n L0 (q0j.st0 x0 x1 x2 x3 x4 x5 x6 x7 x8 x9)=bif (decide (x0<(((x8.length/2):Nat):Int)))then q0j.at2 n L0 n (q0j.st2 x0 false (0:Int) x1 x2 x3 x4 x5 x6 x7 x8 x9)else(LIM F.q14 [.agg [.sl 2 x1],.sl 1 x2,.sl 2 x3]).bind fun r77=>(oNil r77.2).bind fun _=>(oAgg r77.1).bind fun c78=>(q0s c78).bind fun p79=>(oInt .i64 p79.1).bind fun n80=>(q0s p79.2).bind fun p81=>(oSl 1 p81.1).bind fun c82=>(q0s p81.2).bind fun p83=>(oSl 2 p83.1).bind fun c84=>(q0s p83.2).bind fun p85=>(oSl 7 p85.1).bind fun c86=>(q0s p85.2).bind fun p87=>(oSl 1 p87.1).bind fun c88=>(q0s p87.2).bind fun p89=>(oSl 1 p89.1).bind fun c90=>(q0s p89.2).bind fun p91=>(oInt .i64 p91.1).bind fun n92=>(oNil p91.2).bind fun _=>bif (n80==0)then bif (((((c90.length/1):Nat):Int)==(((x3.length/2):Nat):Int)))then(LIM F.q5q [.agg [.sl 2 x1],.agg [.sl 1 c82,.sl 2 c84,.sl 7 c86,.sl 1 c88,.sl 1 c90,.int .i64 n92]]).bind fun r93=>bB r93 fun b94=>some ((.bool (b94==(((((x3.length/2):Nat):Int)==0)))),[])else some (.bool false,[])else some (.bool false,[]):=by kernel_rfl
theorem q0j.round2(x0:Int)(x1:Bool)(x2:Int)(x3 x4 x5 x6 x7 x8:List T)(x9:Int)(x10:List T)(x11:Int):q0j.rd2 n L0 L2 (q0j.st2 x0 x1 x2 x3 x4 x5 x6 x7 x8 x9 x10 x11)=bif (decide (x2<(((x7.length/1):Nat):Int)))then bif inB x2 (x7.length/1)then(x7[x2.toNat*1]?).bind fun e31=>(oInt .i64 e31).bind fun n32=>bif inB n32 (x6.length/7)then(x6[n32.toNat*7]?).bind fun e33=>(oInt .i64 e33).bind fun n34=>(x6[(n32.toNat*7)+1]?).bind fun e35=>(oInt .i64 e35).bind fun n36=>(x6[((n32.toNat*7)+1)+1]?).bind fun e37=>(oInt .i64 e37).bind fun n38=>(x6[(((n32.toNat*7)+1)+1)+1]?).bind fun e39=>(oInt .i64 e39).bind fun n40=>(x6[((((n32.toNat*7)+1)+1)+1)+1]?).bind fun e41=>(oInt .i64 e41).bind fun n42=>(x6[(((((n32.toNat*7)+1)+1)+1)+1)+1]?).bind fun e43=>(oSl 1 e43).bind fun c44=>(x6[((((((n32.toNat*7)+1)+1)+1)+1)+1)+1]?).bind fun e45=>(oSl 1 e45).bind fun c46=>bif inB x0 (x10.length/2)then(x10[x0.toNat*2]?).bind fun e47=>(oSl 1 e47).bind fun c48=>(LIM F.q2z [.sl 1 c44,.sl 1 c48]).bind fun r49=>bB r49 fun b50=>bif b50 then bif inB x0 (x10.length/2)then(x10[(x0.toNat*2)+1]?).bind fun e51=>(oSl 1 e51).bind fun c52=>(LIM F.q2z [.sl 1 c46,.sl 1 c52]).bind fun r53=>bB r53 fun b54=>bif b54 then L2 (q0j.st2 x0 true (IntKind.wrap .i64 (x2+1)) x3 x4 x5 x6 x7 x8 x9 x10 x11)else L2 (q0j.st2 x0 x1 (IntKind.wrap .i64 (x2+1)) x3 x4 x5 x6 x7 x8 x9 x10 x11)else none else L2 (q0j.st2 x0 x1 (IntKind.wrap .i64 (x2+1)) x3 x4 x5 x6 x7 x8 x9 x10 x11)else none else none else none else bif (!x1)then some (.bool false,[])else bif (decide (x0>0))then bif inB (IntKind.wrap .i64 (x0-1)) (x10.length/2)then(x10[(Int.toNat (IntKind.wrap .i64 (x0-1)))*2]?).bind fun e55=>(oSl 1 e55).bind fun c56=>(LIM F.q93 [.agg [.sl 2 x3],.sl 1 c56]).bind fun r57=>(oNil r57.2).bind fun _=>(oAgg r57.1).bind fun c58=>(q0s c58).bind fun p59=>(oInt .i64 p59.1).bind fun n60=>(q0s p59.2).bind fun p61=>(oSl 1 p61.1).bind fun c62=>(oNil p61.2).bind fun _=>bif inB x0 (x10.length/2)then(x10[x0.toNat*2]?).bind fun e63=>(oSl 1 e63).bind fun c64=>(LIM F.q93 [.agg [.sl 2 x3],.sl 1 c64]).bind fun r65=>(oNil r65.2).bind fun _=>(oAgg r65.1).bind fun c66=>(q0s c66).bind fun p67=>(oInt .i64 p67.1).bind fun n68=>(q0s p67.2).bind fun p69=>(oSl 1 p69.1).bind fun c70=>(oNil p69.2).bind fun _=>(LIM F.q7y [.sl 1 c62,.sl 1 c70]).bind fun r71=>bR r71 fun n74 n76=>bif (decide (n76>0))then some (.bool false,[])else L0 (q0j.st0 (IntKind.wrap .i64 (x0+1)) x3 x4 x5 x6 x7 x8 x9 x10 x11)else none else none else L0 (q0j.st0 (IntKind.wrap .i64 (x0+1)) x3 x4 x5 x6 x7 x8 x9 x10 x11):=by kernel_rfl
theorem q0j.ev(a0:List T):q1b prog A H LIM n F.q0j [.sl 1 a0]=(LIM F.q97 [.sl 1 a0]).bind fun r1=>bB r1 fun b2=>bif b2 then some (.bool true,[])else(LIM F.q5u [.sl 1 a0]).bind fun r3=>(oNil r3.2).bind fun _=>(oTup r3.1).bind fun c4=>(q0s c4).bind fun p5=>(oAgg p5.1).bind fun c6=>(q0s c6).bind fun p7=>(oSl 2 p7.1).bind fun c8=>(oNil p7.2).bind fun _=>(q0s p5.2).bind fun p9=>(oAgg p9.1).bind fun c10=>(q0s c10).bind fun p11=>(oSl 1 p11.1).bind fun c12=>(q0s p11.2).bind fun p13=>(oSl 2 p13.1).bind fun c14=>(q0s p13.2).bind fun p15=>(oSl 7 p15.1).bind fun c16=>(q0s p15.2).bind fun p17=>(oSl 1 p17.1).bind fun c18=>(q0s p17.2).bind fun p19=>(oSl 1 p19.1).bind fun c20=>(q0s p19.2).bind fun p21=>(oInt .i64 p21.1).bind fun n22=>(oNil p21.2).bind fun _=>(oNil p9.2).bind fun _=>(LIM F.q7h [.agg [.sl 2 c8],.agg [.sl 1 c12,.sl 2 c14,.sl 7 c16,.sl 1 c18,.sl 1 c20,.int .i64 n22]]).bind fun r23=>(oNil r23.2).bind fun _=>(oAgg r23.1).bind fun c24=>(q0s c24).bind fun p25=>(oInt .i64 p25.1).bind fun n26=>(q0s p25.2).bind fun p27=>(oSl 2 p27.1).bind fun c28=>(oNil p27.2).bind fun _=>(LIM F.q07 [.agg [.sl 2 c8],.agg [.sl 1 c12,.sl 2 c14,.sl 7 c16,.sl 1 c18,.sl 1 c20,.int .i64 n22]]).bind fun r29=>bI r29 fun n30=>bif (n26 != n30)then some (.bool false,[])else bif (n26 != 0)then some (.bool true,[])else bif (((((c28.length/2):Nat):Int) != (((c18.length/1):Nat):Int)))then some (.bool false,[])else q0j.at0 n n (q0j.st0 (0:Int) c8 c12 c14 c16 c18 c20 n22 c28 n26):=by kernel_rfl
theorem q97.ev(a0:List T):q1b prog A H LIM n F.q97 [.sl 1 a0]=some ((.bool (decide ((((a0.length/1):Nat):Int)>1048576))),[]):=by kernel_rfl
def q2z.st0(x0 x1:List T)(x2:Int):St:=⟨[(0,ol 1 x0),(1,ol 1 x1),(5,oi x2)],[]⟩
def q2z.K0:=kx F.q2z n [.block 0,.seq 0 (cx F.q2z [1,1,1])] (q3v prog A F.q2z)
def q2z.at0:=lx F.q2z n 0 [1,1,0,1,0,0] (q2z.K0 n) m s
def q2z.rd0:=rx F.q2z n 0 [1,1,0,1,0,0] (q2z.K0 n) L0 s
theorem q2z.next0:q2z.at0 n (m+1) s=q2z.rd0 n (q2z.at0 n m) s:=nx ..
theorem q2z.round0(x0 x1:List T)(x2:Int):q2z.rd0 n L0 (q2z.st0 x0 x1 x2)=bif (decide (x2<(((x0.length/1):Nat):Int)))then bif inB x2 (x0.length/1)then(x0[x2.toNat*1]?).bind fun e1=>(oInt .i64 e1).bind fun n2=>bif inB x2 (x1.length/1)then(x1[x2.toNat*1]?).bind fun e3=>(oInt .i64 e3).bind fun n4=>bif (n2 != n4)then some (.bool false,[])else L0 (q2z.st0 x0 x1 (IntKind.wrap .i64 (x2+1)))else none else none else some (.bool true,[]):=by kernel_rfl
theorem q2z.ev(a0 a1:List T):q1b prog A H LIM n F.q2z [.sl 1 a0,.sl 1 a1]=bif (((((a0.length/1):Nat):Int) != (((a1.length/1):Nat):Int)))then some (.bool false,[])else q2z.at0 n n (q2z.st0 a0 a1 (0:Int)):=by kernel_rfl
theorem q9w.ev(a0:Int):q1b prog A H LIM n F.q9w [.int .u64 a0]=(LIM F.q1z [.int .u64 a0]).bind fun r1=>bI r1 fun n2=>some (.int .i64 n2,[]):=by kernel_rfl
def q1z.j0(n:Nat)(x0 x1 x2:Int)(x3:Bool):R:=qad prog A (H F.q1z) LIM n 0 (q7n [1,0,1,0,0] (qau prog F.q1z)) ⟨[(0,.one (.t (.int .u64 x0))),(2,.one (.t (.int .i64 x1))),(3,.one (.t (.int .u64 x2))),(4,.one (.t (.bool x3)))],[]⟩ (ctxK prog A (H F.q1z) LIM n [.seq 0 (q7n [1,0,1,0,1] (qau prog F.q1z)),.seq 0 (q7n [1,1] (qau prog F.q1z))] (q3v prog A F.q1z))
def q1z.j1(n:Nat)(x0 x1 x2:Int)(x3:Bool)(x4:Int)(x5:Bool):R:=qad prog A (H F.q1z) LIM n 0 (q7n [1,1,0,1,0,0] (qau prog F.q1z)) ⟨[(0,.one (.t (.int .u64 x0))),(2,.one (.t (.int .i64 x1))),(3,.one (.t (.int .u64 x2))),(4,.one (.t (.bool x3))),(7,.one (.t (.int .u64 x4))),(8,.one (.t (.bool x5)))],[]⟩ (ctxK prog A (H F.q1z) LIM n [.seq 0 (q7n [1,1,0,1,0,1] (qau prog F.q1z)),.seq 0 (q7n [1,1,1] (qau prog F.q1z))] (q3v prog A F.q1z))
def q1z.j2(n:Nat)(x0 x1 x2:Int)(x3:Bool)(x4:Int)(x5:Bool)(x6:Int)(x7:Bool):R:=qad prog A (H F.q1z) LIM n 0 (q7n [1,1,1,0,1,0,0] (qau prog F.q1z)) ⟨[(0,.one (.t (.int .u64 x0))),(2,.one (.t (.int .i64 x1))),(3,.one (.t (.int .u64 x2))),(4,.one (.t (.bool x3))),(7,.one (.t (.int .u64 x4))),(8,.one (.t (.bool x5))),(13,.one (.t (.int .u64 x6))),(14,.one (.t (.bool x7)))],[]⟩ (ctxK prog A (H F.q1z) LIM n [.seq 0 (q7n [1,1,1,0,1,0,1] (qau prog F.q1z)),.seq 0 (q7n [1,1,1,1] (qau prog F.q1z))] (q3v prog A F.q1z))
theorem q1z.ev(a0:Int):q1b prog A H LIM n F.q1z [.int .u64 a0]=bif (decide (a0>=4294967296))then q1z.j0 n a0 (0:Int) a0 (decide (a0>=4294967296))else bif (decide (a0>=65536))then q1z.j1 n a0 (0:Int) a0 (decide (a0>=4294967296)) a0 (decide (a0>=65536))else bif (decide (a0>=256))then q1z.j2 n a0 (0:Int) a0 (decide (a0>=4294967296)) a0 (decide (a0>=65536)) a0 (decide (a0>=256))else bif inB (IntKind.wrap .u8 a0) (ByteArray.mk #[0,1,2,2,3,3,3,3,4,4,4,4,4,4,4,4,5,5,5,5,5,5,5,5,5,5,5,5,5,5,5,5,6,6,6,6,6,6,6,6,6,6,6,6,6,6,6,6,6,6,6,6,6,6,6,6,6,6,6,6,6,6,6,6,7,7,7,7,7,7,7,7,7,7,7,7,7,7,7,7,7,7,7,7,7,7,7,7,7,7,7,7,7,7,7,7,7,7,7,7,7,7,7,7,7,7,7,7,7,7,7,7,7,7,7,7,7,7,7,7,7,7,7,7,7,7,7,7,8,8,8,8,8,8,8,8,8,8,8,8,8,8,8,8,8,8,8,8,8,8,8,8,8,8,8,8,8,8,8,8,8,8,8,8,8,8,8,8,8,8,8,8,8,8,8,8,8,8,8,8,8,8,8,8,8,8,8,8,8,8,8,8,8,8,8,8,8,8,8,8,8,8,8,8,8,8,8,8,8,8,8,8,8,8,8,8,8,8,8,8,8,8,8,8,8,8,8,8,8,8,8,8,8,8,8,8,8,8,8,8,8,8,8,8,8,8,8,8,8,8,8,8,8,8,8,8]).size then some ((.int .i64 (IntKind.wrap .i64 ((0:Int)+(IntKind.wrap .i64 (((ByteArray.mk #[0,1,2,2,3,3,3,3,4,4,4,4,4,4,4,4,5,5,5,5,5,5,5,5,5,5,5,5,5,5,5,5,6,6,6,6,6,6,6,6,6,6,6,6,6,6,6,6,6,6,6,6,6,6,6,6,6,6,6,6,6,6,6,6,7,7,7,7,7,7,7,7,7,7,7,7,7,7,7,7,7,7,7,7,7,7,7,7,7,7,7,7,7,7,7,7,7,7,7,7,7,7,7,7,7,7,7,7,7,7,7,7,7,7,7,7,7,7,7,7,7,7,7,7,7,7,7,7,8,8,8,8,8,8,8,8,8,8,8,8,8,8,8,8,8,8,8,8,8,8,8,8,8,8,8,8,8,8,8,8,8,8,8,8,8,8,8,8,8,8,8,8,8,8,8,8,8,8,8,8,8,8,8,8,8,8,8,8,8,8,8,8,8,8,8,8,8,8,8,8,8,8,8,8,8,8,8,8,8,8,8,8,8,8,8,8,8,8,8,8,8,8,8,8,8,8,8,8,8,8,8,8,8,8,8,8,8,8,8,8,8,8,8,8,8,8,8,8,8,8,8,8,8,8,8,8]).data.getD (Int.toNat (IntKind.wrap .u8 a0)) 0).toNat:Int))))),[])else none:=by kernel_rfl
theorem q6c.ev(a0 a1_0_0 a1_1_0 a1_1_1 a1_1_2 a1_1_3 a1_1_4:List T)(a1_1_5:Int):q1b prog A H LIM n F.q4d [.sl 2 a0,.clo F.q3k [.rref [.sl 2 a1_0_0] 0,.rref [.sl 1 a1_1_0,.sl 2 a1_1_1,.sl 7 a1_1_2,.sl 1 a1_1_3,.sl 1 a1_1_4,.int .i64 a1_1_5] 0]]=(LIM F.q1u [.sl 2 a0,.clo F.q3k [.rref [.sl 2 a1_0_0] 0,.rref [.sl 1 a1_1_0,.sl 2 a1_1_1,.sl 7 a1_1_2,.sl 1 a1_1_3,.sl 1 a1_1_4,.int .i64 a1_1_5] 0]]).bind fun r1=>bI r1 fun n2=>some (.bool (decide (n2>=0)),[]):=by kernel_rfl
theorem q6x.ev(a0:List T):q1b prog A H LIM n F.q4d [.sl 2 a0,.clo F.q4c []]=(LIM F.q1u [.sl 2 a0,.clo F.q4c []]).bind fun r1=>bI r1 fun n2=>some (.bool (decide (n2>=0)),[]):=by kernel_rfl
theorem q3w.ev(a0:List T):q1b prog A H LIM n F.q77 [.sl 2 a0,.clo F.q3m []]=(LIM F.q25 [.sl 2 a0,.clo F.q3m []]).bind fun r1=>bI r1 fun n2=>some (.bool (decide (n2>=0)),[]):=by kernel_rfl
theorem q5y.ev(a0 a1_0_0 a1_0_1 a1_0_2 a1_0_3 a1_0_4:List T)(a1_0_5:Int):q1b prog A H LIM n F.q21 [.sl 1 a0,.clo F.q2l [.rref [.sl 1 a1_0_0,.sl 2 a1_0_1,.sl 7 a1_0_2,.sl 1 a1_0_3,.sl 1 a1_0_4,.int .i64 a1_0_5] 0]]=(LIM F.q0l [.sl 1 a0,.clo F.q2l [.rref [.sl 1 a1_0_0,.sl 2 a1_0_1,.sl 7 a1_0_2,.sl 1 a1_0_3,.sl 1 a1_0_4,.int .i64 a1_0_5] 0]]).bind fun r1=>bI r1 fun n2=>some (.bool (decide (n2>=0)),[]):=by kernel_rfl
theorem q4l.ev(a0 a1_0_0:List T):q1b prog A H LIM n F.q21 [.sl 1 a0,.clo F.q5h [.rref [.sl 1 a1_0_0] 0]]=(LIM F.q0l [.sl 1 a0,.clo F.q5h [.rref [.sl 1 a1_0_0] 0]]).bind fun r1=>bI r1 fun n2=>some (.bool (decide (n2>=0)),[]):=by kernel_rfl
theorem q47.ev(a0:List T):q1b prog A H LIM n F.q21 [.sl 1 a0,.clo F.q3q []]=(LIM F.q0l [.sl 1 a0,.clo F.q3q []]).bind fun r1=>bI r1 fun n2=>some (.bool (decide (n2>=0)),[]):=by kernel_rfl
theorem q4h.ev(a0 a1_0_0:List T):q1b prog A H LIM n F.q21 [.sl 1 a0,.clo F.q4i [.rref [.sl 2 a1_0_0] 0]]=(LIM F.q0l [.sl 1 a0,.clo F.q4i [.rref [.sl 2 a1_0_0] 0]]).bind fun r1=>bI r1 fun n2=>some (.bool (decide (n2>=0)),[]):=by kernel_rfl
theorem q7f.ev(a0 a1_0_0:List T):q1b prog A H LIM n F.q21 [.sl 1 a0,.clo F.q4a [.rref [.sl 2 a1_0_0] 0]]=(LIM F.q0l [.sl 1 a0,.clo F.q4a [.rref [.sl 2 a1_0_0] 0]]).bind fun r1=>bI r1 fun n2=>some (.bool (decide (n2>=0)),[]):=by kernel_rfl
theorem q1p.ev(a0:List T)(a1:Int):q1b prog A H LIM n F.q1p [.sl 1 a0,.int .i64 a1]=(LIM F.q0f [.sl 1 a0,.int .i64 a1]).bind fun r1=>bI r1 fun n2=>some (.bool (decide (n2>=0)),[]):=by kernel_rfl
def q0t.st0(x0 x1:List T)(x2 x3:Int):St:=⟨[(0,ol 1 x0),(1,ol 1 x1),(12,oi x2),(13,oi x3)],[]⟩
def q0t.K0:=kx F.q0t n [.block 0,.seq 0 (cx F.q0t [1,1,1])] (q3v prog A F.q0t)
def q0t.at0:=lx F.q0t n 0 [1,1,0,1,0,0] (q0t.K0 n) m s
def q0t.rd0:=rx F.q0t n 0 [1,1,0,1,0,0] (q0t.K0 n) L0 s
theorem q0t.next0:q0t.at0 n (m+1) s=q0t.rd0 n (q0t.at0 n m) s:=nx ..
theorem q0t.round0(x0 x1:List T)(x2 x3:Int):q0t.rd0 n L0 (q0t.st0 x0 x1 x2 x3)=bif (decide (x3<x2))then bif inB x3 (x0.length/1)then(x0[x3.toNat*1]?).bind fun e1=>(oInt .i64 e1).bind fun n2=>bif inB x3 (x1.length/1)then(x1[x3.toNat*1]?).bind fun e3=>(oInt .i64 e3).bind fun n4=>bif (n2 != n4)then some (.bool false,[])else L0 (q0t.st0 x0 x1 x2 (IntKind.wrap .i64 (x3+1)))else none else none else some (.bool true,[]):=by kernel_rfl
theorem q0t.ev(a0 a1:List T):q1b prog A H LIM n F.q0t [.sl 1 a0,.sl 1 a1]=bif (((((a0.length/1):Nat):Int) != (((a1.length/1):Nat):Int)))then some (.bool false,[])else q0t.at0 n n (q0t.st0 a0 a1 (((a0.length/1):Nat):Int) (0:Int)):=by kernel_rfl
def q05.st0(x0 x1 x2 x3 x4 x5 x6:List T)(x7 x8 x9:Int):St:=⟨[(0,ol 2 x0),(1,(.one (.t (.clo F.q3k [(.rref [(.sl 2 x1)] 0),(.rref [(.sl 1 x2),(.sl 2 x3),(.sl 7 x4),(.sl 1 x5),(.sl 1 x6),(.int .i64 x7)] 0)])))),(7,oi x8),(8,oi x9)],[]⟩
def q05.K0:=kx F.q1u n [.block 0,.seq 0 (cx F.q1u [1,1])] (q3v prog A F.q1u)
def q05.at0:=lx F.q1u n 0 [1,0,1,0,0] (q05.K0 n) m s
def q05.rd0:=rx F.q1u n 0 [1,0,1,0,0] (q05.K0 n) L0 s
theorem q05.next0:q05.at0 n (m+1) s=q05.rd0 n (q05.at0 n m) s:=nx ..
theorem q05.round0(x0 x1 x2 x3 x4 x5 x6:List T)(x7 x8 x9:Int):q05.rd0 n L0 (q05.st0 x0 x1 x2 x3 x4 x5 x6 x7 x8 x9)=bif (decide (x9<x8))then bif inB x9 (x0.length/2)then(x0[x9.toNat*2]?).bind fun e1=>(oSl 1 e1).bind fun c2=>(x0[(x9.toNat*2)+1]?).bind fun e3=>(oSl 1 e3).bind fun c4=>(LIM F.q3k [.agg [.sl 1 c2,.sl 1 c4],.rref [.sl 2 x1] 0,.rref [.sl 1 x2,.sl 2 x3,.sl 7 x4,.sl 1 x5,.sl 1 x6,.int .i64 x7] 0]).bind fun r5=>bB r5 fun b6=>bif b6 then some (.int .i64 x9,[])else L0 (q05.st0 x0 x1 x2 x3 x4 x5 x6 x7 x8 (IntKind.wrap .i64 (x9+1)))else none else some (.int .i64 (-1),[]):=by kernel_rfl
theorem q05.ev(a0 a1_0_0 a1_1_0 a1_1_1 a1_1_2 a1_1_3 a1_1_4:List T)(a1_1_5:Int):q1b prog A H LIM n F.q1u [.sl 2 a0,.clo F.q3k [.rref [.sl 2 a1_0_0] 0,.rref [.sl 1 a1_1_0,.sl 2 a1_1_1,.sl 7 a1_1_2,.sl 1 a1_1_3,.sl 1 a1_1_4,.int .i64 a1_1_5] 0]]=q05.at0 n n (q05.st0 a0 a1_0_0 a1_1_0 a1_1_1 a1_1_2 a1_1_3 a1_1_4 a1_1_5 (((a0.length/2):Nat):Int) (0:Int)):=by kernel_rfl
def q0a.st0(x0:List T)(x1 x2:Int):St:=⟨[(0,ol 2 x0),(1,(.one (.t (.clo F.q4c [])))),(7,oi x1),(8,oi x2)],[]⟩
def q0a.K0:=kx F.q1u n [.block 0,.seq 0 (cx F.q1u [1,1])] (q3v prog A F.q1u)
def q0a.at0:=lx F.q1u n 0 [1,0,1,0,0] (q0a.K0 n) m s
def q0a.rd0:=rx F.q1u n 0 [1,0,1,0,0] (q0a.K0 n) L0 s
theorem q0a.next0:q0a.at0 n (m+1) s=q0a.rd0 n (q0a.at0 n m) s:=nx ..
theorem q0a.round0(x0:List T)(x1 x2:Int):q0a.rd0 n L0 (q0a.st0 x0 x1 x2)=bif (decide (x2<x1))then bif inB x2 (x0.length/2)then(x0[x2.toNat*2]?).bind fun e1=>(oSl 1 e1).bind fun c2=>(x0[(x2.toNat*2)+1]?).bind fun e3=>(oSl 1 e3).bind fun c4=>(LIM F.q4c [.agg [.sl 1 c2,.sl 1 c4]]).bind fun r5=>bB r5 fun b6=>bif b6 then some (.int .i64 x2,[])else L0 (q0a.st0 x0 x1 (IntKind.wrap .i64 (x2+1)))else none else some (.int .i64 (-1),[]):=by kernel_rfl
theorem q0a.ev(a0:List T):q1b prog A H LIM n F.q1u [.sl 2 a0,.clo F.q4c []]=q0a.at0 n n (q0a.st0 a0 (((a0.length/2):Nat):Int) (0:Int)):=by kernel_rfl
def q04.st0(x0:List T)(x1 x2:Int):St:=⟨[(0,ol 2 x0),(1,(.one (.t (.clo F.q3m [])))),(7,oi x1),(8,oi x2)],[]⟩
def q04.K0:=kx F.q25 n [.block 0,.seq 0 (cx F.q25 [1,1])] (q3v prog A F.q25)
def q04.at0:=lx F.q25 n 0 [1,0,1,0,0] (q04.K0 n) m s
def q04.rd0:=rx F.q25 n 0 [1,0,1,0,0] (q04.K0 n) L0 s
theorem q04.next0:q04.at0 n (m+1) s=q04.rd0 n (q04.at0 n m) s:=nx ..
theorem q04.round0(x0:List T)(x1 x2:Int):q04.rd0 n L0 (q04.st0 x0 x1 x2)=bif (decide (x2<x1))then bif inB x2 (x0.length/2)then(x0[x2.toNat*2]?).bind fun e1=>(oStr e1).bind fun s2=>(x0[(x2.toNat*2)+1]?).bind fun e3=>(oInt .i64 e3).bind fun n4=>(LIM F.q3m [.agg [.str s2,.int .i64 n4]]).bind fun r5=>bB r5 fun b6=>bif b6 then some (.int .i64 x2,[])else L0 (q04.st0 x0 x1 (IntKind.wrap .i64 (x2+1)))else none else some (.int .i64 (-1),[]):=by kernel_rfl
theorem q04.ev(a0:List T):q1b prog A H LIM n F.q25 [.sl 2 a0,.clo F.q3m []]=q04.at0 n n (q04.st0 a0 (((a0.length/2):Nat):Int) (0:Int)):=by kernel_rfl
def q06.st0(x0:List T)(x1:ByteArray)(x2 x3:Int):St:=⟨[(0,ol 2 x0),(1,(.one (.t (.clo F.q4x [(.rref [(.str x1)] 0)])))),(7,oi x2),(8,oi x3)],[]⟩
def q06.K0:=kx F.q25 n [.block 0,.seq 0 (cx F.q25 [1,1])] (q3v prog A F.q25)
def q06.at0:=lx F.q25 n 0 [1,0,1,0,0] (q06.K0 n) m s
def q06.rd0:=rx F.q25 n 0 [1,0,1,0,0] (q06.K0 n) L0 s
theorem q06.next0:q06.at0 n (m+1) s=q06.rd0 n (q06.at0 n m) s:=nx ..
theorem q06.round0(x0:List T)(x1:ByteArray)(x2 x3:Int):q06.rd0 n L0 (q06.st0 x0 x1 x2 x3)=bif (decide (x3<x2))then bif inB x3 (x0.length/2)then(x0[x3.toNat*2]?).bind fun e1=>(oStr e1).bind fun s2=>(x0[(x3.toNat*2)+1]?).bind fun e3=>(oInt .i64 e3).bind fun n4=>(LIM F.q4x [.agg [.str s2,.int .i64 n4],.rref [.str x1] 0]).bind fun r5=>bB r5 fun b6=>bif b6 then some (.int .i64 x3,[])else L0 (q06.st0 x0 x1 x2 (IntKind.wrap .i64 (x3+1)))else none else some (.int .i64 (-1),[]):=by kernel_rfl
theorem q06.ev(a0:List T)(a1_0_0:ByteArray):q1b prog A H LIM n F.q25 [.sl 2 a0,.clo F.q4x [.rref [.str a1_0_0] 0]]=q06.at0 n n (q06.st0 a0 a1_0_0 (((a0.length/2):Nat):Int) (0:Int)):=by kernel_rfl
def q03.st0(x0 x1 x2 x3 x4 x5:List T)(x6 x7 x8:Int):St:=⟨[(0,ol 1 x0),(1,(.one (.t (.clo F.q2l [(.rref [(.sl 1 x1),(.sl 2 x2),(.sl 7 x3),(.sl 1 x4),(.sl 1 x5),(.int .i64 x6)] 0)])))),(7,oi x7),(8,oi x8)],[]⟩
def q03.K0:=kx F.q0l n [.block 0,.seq 0 (cx F.q0l [1,1])] (q3v prog A F.q0l)
def q03.at0:=lx F.q0l n 0 [1,0,1,0,0] (q03.K0 n) m s
def q03.rd0:=rx F.q0l n 0 [1,0,1,0,0] (q03.K0 n) L0 s
theorem q03.next0:q03.at0 n (m+1) s=q03.rd0 n (q03.at0 n m) s:=nx ..
theorem q03.round0(x0 x1 x2 x3 x4 x5:List T)(x6 x7 x8:Int):q03.rd0 n L0 (q03.st0 x0 x1 x2 x3 x4 x5 x6 x7 x8)=bif (decide (x8<x7))then bif inB x8 (x0.length/1)then(x0[x8.toNat*1]?).bind fun e1=>(oInt .i64 e1).bind fun n2=>(LIM F.q2l [.int .i64 n2,.rref [.sl 1 x1,.sl 2 x2,.sl 7 x3,.sl 1 x4,.sl 1 x5,.int .i64 x6] 0]).bind fun r3=>bB r3 fun b4=>bif b4 then some (.int .i64 x8,[])else L0 (q03.st0 x0 x1 x2 x3 x4 x5 x6 x7 (IntKind.wrap .i64 (x8+1)))else none else some (.int .i64 (-1),[]):=by kernel_rfl
theorem q03.ev(a0 a1_0_0 a1_0_1 a1_0_2 a1_0_3 a1_0_4:List T)(a1_0_5:Int):q1b prog A H LIM n F.q0l [.sl 1 a0,.clo F.q2l [.rref [.sl 1 a1_0_0,.sl 2 a1_0_1,.sl 7 a1_0_2,.sl 1 a1_0_3,.sl 1 a1_0_4,.int .i64 a1_0_5] 0]]=q03.at0 n n (q03.st0 a0 a1_0_0 a1_0_1 a1_0_2 a1_0_3 a1_0_4 a1_0_5 (((a0.length/1):Nat):Int) (0:Int)):=by kernel_rfl
def q0g.st0(x0 x1:List T)(x2 x3:Int):St:=⟨[(0,ol 1 x0),(1,(.one (.t (.clo F.q5h [(.rref [(.sl 1 x1)] 0)])))),(7,oi x2),(8,oi x3)],[]⟩
def q0g.K0:=kx F.q0l n [.block 0,.seq 0 (cx F.q0l [1,1])] (q3v prog A F.q0l)
def q0g.at0:=lx F.q0l n 0 [1,0,1,0,0] (q0g.K0 n) m s
def q0g.rd0:=rx F.q0l n 0 [1,0,1,0,0] (q0g.K0 n) L0 s
theorem q0g.next0:q0g.at0 n (m+1) s=q0g.rd0 n (q0g.at0 n m) s:=nx ..
theorem q0g.round0(x0 x1:List T)(x2 x3:Int):q0g.rd0 n L0 (q0g.st0 x0 x1 x2 x3)=bif (decide (x3<x2))then bif inB x3 (x0.length/1)then(x0[x3.toNat*1]?).bind fun e1=>(oInt .i64 e1).bind fun n2=>(LIM F.q5h [.int .i64 n2,.rref [.sl 1 x1] 0]).bind fun r3=>bB r3 fun b4=>bif b4 then some (.int .i64 x3,[])else L0 (q0g.st0 x0 x1 x2 (IntKind.wrap .i64 (x3+1)))else none else some (.int .i64 (-1),[]):=by kernel_rfl
theorem q0g.ev(a0 a1_0_0:List T):q1b prog A H LIM n F.q0l [.sl 1 a0,.clo F.q5h [.rref [.sl 1 a1_0_0] 0]]=q0g.at0 n n (q0g.st0 a0 a1_0_0 (((a0.length/1):Nat):Int) (0:Int)):=by kernel_rfl
def q09.st0(x0:List T)(x1 x2:Int):St:=⟨[(0,ol 1 x0),(1,(.one (.t (.clo F.q3q [])))),(7,oi x1),(8,oi x2)],[]⟩
def q09.K0:=kx F.q0l n [.block 0,.seq 0 (cx F.q0l [1,1])] (q3v prog A F.q0l)
def q09.at0:=lx F.q0l n 0 [1,0,1,0,0] (q09.K0 n) m s
def q09.rd0:=rx F.q0l n 0 [1,0,1,0,0] (q09.K0 n) L0 s
theorem q09.next0:q09.at0 n (m+1) s=q09.rd0 n (q09.at0 n m) s:=nx ..
theorem q09.round0(x0:List T)(x1 x2:Int):q09.rd0 n L0 (q09.st0 x0 x1 x2)=bif (decide (x2<x1))then bif inB x2 (x0.length/1)then(x0[x2.toNat*1]?).bind fun e1=>(oInt .i64 e1).bind fun n2=>(LIM F.q3q [.int .i64 n2]).bind fun r3=>bB r3 fun b4=>bif b4 then some (.int .i64 x2,[])else L0 (q09.st0 x0 x1 (IntKind.wrap .i64 (x2+1)))else none else some (.int .i64 (-1),[]):=by kernel_rfl
theorem q09.ev(a0:List T):q1b prog A H LIM n F.q0l [.sl 1 a0,.clo F.q3q []]=q09.at0 n n (q09.st0 a0 (((a0.length/1):Nat):Int) (0:Int)):=by kernel_rfl
def q0d.st0(x0 x1:List T)(x2 x3:Int):St:=⟨[(0,ol 1 x0),(1,(.one (.t (.clo F.q4i [(.rref [(.sl 2 x1)] 0)])))),(7,oi x2),(8,oi x3)],[]⟩
def q0d.K0:=kx F.q0l n [.block 0,.seq 0 (cx F.q0l [1,1])] (q3v prog A F.q0l)
def q0d.at0:=lx F.q0l n 0 [1,0,1,0,0] (q0d.K0 n) m s
def q0d.rd0:=rx F.q0l n 0 [1,0,1,0,0] (q0d.K0 n) L0 s
theorem q0d.next0:q0d.at0 n (m+1) s=q0d.rd0 n (q0d.at0 n m) s:=nx ..
theorem q0d.round0(x0 x1:List T)(x2 x3:Int):q0d.rd0 n L0 (q0d.st0 x0 x1 x2 x3)=bif (decide (x3<x2))then bif inB x3 (x0.length/1)then(x0[x3.toNat*1]?).bind fun e1=>(oInt .i64 e1).bind fun n2=>(LIM F.q4i [.int .i64 n2,.rref [.sl 2 x1] 0]).bind fun r3=>bB r3 fun b4=>bif b4 then some (.int .i64 x3,[])else L0 (q0d.st0 x0 x1 x2 (IntKind.wrap .i64 (x3+1)))else none else some (.int .i64 (-1),[]):=by kernel_rfl
theorem q0d.ev(a0 a1_0_0:List T):q1b prog A H LIM n F.q0l [.sl 1 a0,.clo F.q4i [.rref [.sl 2 a1_0_0] 0]]=q0d.at0 n n (q0d.st0 a0 a1_0_0 (((a0.length/1):Nat):Int) (0:Int)):=by kernel_rfl
def q0c.st0(x0 x1:List T)(x2 x3:Int):St:=⟨[(0,ol 1 x0),(1,(.one (.t (.clo F.q4a [(.rref [(.sl 2 x1)] 0)])))),(7,oi x2),(8,oi x3)],[]⟩
def q0c.K0:=kx F.q0l n [.block 0,.seq 0 (cx F.q0l [1,1])] (q3v prog A F.q0l)
def q0c.at0:=lx F.q0l n 0 [1,0,1,0,0] (q0c.K0 n) m s
def q0c.rd0:=rx F.q0l n 0 [1,0,1,0,0] (q0c.K0 n) L0 s
theorem q0c.next0:q0c.at0 n (m+1) s=q0c.rd0 n (q0c.at0 n m) s:=nx ..
theorem q0c.round0(x0 x1:List T)(x2 x3:Int):q0c.rd0 n L0 (q0c.st0 x0 x1 x2 x3)=bif (decide (x3<x2))then bif inB x3 (x0.length/1)then(x0[x3.toNat*1]?).bind fun e1=>(oInt .i64 e1).bind fun n2=>(LIM F.q4a [.int .i64 n2,.rref [.sl 2 x1] 0]).bind fun r3=>bB r3 fun b4=>bif b4 then some (.int .i64 x3,[])else L0 (q0c.st0 x0 x1 x2 (IntKind.wrap .i64 (x3+1)))else none else some (.int .i64 (-1),[]):=by kernel_rfl
theorem q0c.ev(a0 a1_0_0:List T):q1b prog A H LIM n F.q0l [.sl 1 a0,.clo F.q4a [.rref [.sl 2 a1_0_0] 0]]=q0c.at0 n n (q0c.st0 a0 a1_0_0 (((a0.length/1):Nat):Int) (0:Int)):=by kernel_rfl
def q0f.st0(x0:List T)(x1 x2 x3:Int):St:=⟨[(0,ol 1 x0),(1,oi x1),(7,oi x2),(8,oi x3)],[]⟩
def q0f.K0:=kx F.q0f n [.block 0,.seq 0 (cx F.q0f [1,1])] (q3v prog A F.q0f)
def q0f.at0:=lx F.q0f n 0 [1,0,1,0,0] (q0f.K0 n) m s
def q0f.rd0:=rx F.q0f n 0 [1,0,1,0,0] (q0f.K0 n) L0 s
theorem q0f.next0:q0f.at0 n (m+1) s=q0f.rd0 n (q0f.at0 n m) s:=nx ..
theorem q0f.round0(x0:List T)(x1 x2 x3:Int):q0f.rd0 n L0 (q0f.st0 x0 x1 x2 x3)=bif (decide (x3<x2))then bif inB x3 (x0.length/1)then(x0[x3.toNat*1]?).bind fun e1=>(oInt .i64 e1).bind fun n2=>bif (x1==n2)then some (.int .i64 x3,[])else L0 (q0f.st0 x0 x1 x2 (IntKind.wrap .i64 (x3+1)))else none else some (.int .i64 (-1),[]):=by kernel_rfl
theorem q0f.ev(a0:List T)(a1:Int):q1b prog A H LIM n F.q0f [.sl 1 a0,.int .i64 a1]=q0f.at0 n n (q0f.st0 a0 a1 (((a0.length/1):Nat):Int) (0:Int)):=by kernel_rfl
theorem q7k.ev(a0:List T):q1b prog A H LIM n F.q7q [.sl 2 a0,.clo F.q33 []]=(LIM F.q9w [(.int .u64 (IntKind.wrap .u64 (((a0.length/2):Nat):Int)))]).bind fun r1=>bI r1 fun n2=>(LIM F.q1y [.sl 2 a0,.int .i64 0,(.int .i64 (((a0.length/2):Nat):Int)),.int .i64 n2,.clo F.q33 []]).bind fun r3=>(q0s r3.2).bind fun p4=>(oNil p4.2).bind fun _=>(oSl 2 p4.1).bind fun c5=>(oTup r3.1).bind fun c6=>(oNil c6).bind fun _=>some (.tup [],[.sl 2 c5]):=by kernel_rfl
end
end Ev
end
