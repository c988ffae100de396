/- Steps on the way to RowRulesOf: TyMatchP, TyNormP, TyPigeon, TyRules, TyCmp, TyOrd, TyUnifyP, TyPeakP, TyMatch, TyNorm, TyUnify, TyUnify2, TyNormL, TyPeak, TyPeak2, TyPeaks, TyAllPeaks, TyUnjoined, TyHolds, TyAllHold, TyEntries, TyDeriveP, TyDerive, TyTheory, TyNewC. -/
import Derived.Test.YthbfgfeldkegaaaGreatDoorM4
set_option linter.unusedSectionVars false
set_option linter.unusedVariables false
set_option linter.unusedSimpArgs false
section
namespace Ev.Ty
open Go Ev
open Enc (enc)
open Sm (sm)
set_option linter.unusedSimpArgs false
set_option linter.unusedVariables false
theorem qaj {a:Int→Nat}:∀ {x r q:List Int} {k:Nat},skip a k x=some q→skip a k (x++r)=some (q++r)
 | x,r,q,0,h=>by rw [q4k] at h; cases h; rw [q4k]
 | [],r,q,k+1,h=>by cases h
 | n::x,r,q,k+1,h=>by
   rw [skip] at h
   rw [List.cons_append,skip]
   exact qaj h
theorem skip_cut {a:Int→Nat}:∀ {x r:List Int} {k:Nat},skip a k (x++r)=some r→skip a k x=some []
 | x,r,0,h=>by
   rw [q4k] at h
   have:=congrArg List.length (Option.some.inj h)
   rw [List.length_append] at this
   have:x=[]:=List.eq_nil_of_length_eq_zero (by omega)
   subst this; rfl
 | [],r,k+1,h=>by
   obtain ⟨p,hp,hk⟩:=qap h
   have h1:=congrArg List.length hp
   rw [List.nil_append,List.length_append] at h1
   have h2:=hk (by omega)
   omega
 | n::x,r,k+1,h=>by
   rw [List.cons_append,skip] at h
   rw [skip]
   exact skip_cut h
theorem skip_nil {a:Int→Nat} {m:Nat} {r:List Int} (h:skip a m []=some r):m=0∧r=[]:=by
 cases m with
 | zero=>rw [q4k] at h; cases h; exact ⟨rfl,rfl⟩
 | succ m=>cases h
theorem q6c {l:List Symbol} {t:List Int} (ht:TermOk l t) {p:Nat} (hp:p < t.length):t.drop p=subAt l t p++t.drop (endAt l t p)∧(subAt l t p).length=endAt l t p - p∧skip (ar l) 1 (t.drop p)=some (t.drop (endAt l t p)):=by
 obtain ⟨h1,h2,_⟩:=q4s ht hp
 have hl:(subAt l t p).length=endAt l t p - p:=by simp [subAt]; omega
 refine ⟨?_,hl,?_⟩
 · have e:t.drop (endAt l t p)=(t.drop p).drop (endAt l t p - p):=by rw [List.drop_drop]; congr 1; omega
   have e2:subAt l t p=(t.drop p).take (endAt l t p - p):=by unfold subAt; rw [List.drop_take]
   rw [e,e2,List.take_append_drop]
 · obtain ⟨q,hq⟩:=skip_inner (p:=p) ht.skip (by simpa using hp)
   have:=(skip_at hq).1
   rw [hq]
   unfold endAt
   rw [hq]
   exact congrArg some this
theorem q87 {l:List Symbol} {t:List Int} (ht:TermOk l t) {p:Nat} (hp:p < t.length):TermOk l (subAt l t p):=by
 obtain ⟨h1,h2,h3⟩:=q6c ht hp
 obtain ⟨h4,h5,_⟩:=q4s ht hp
 have:=ht.le
 refine ⟨by omega,by omega,fun n hn=>ht.node n ?_,?_⟩
 · exact List.mem_of_mem_drop (h1 ▸ List.mem_append_left _ hn)
 · rw [h1] at h3; exact skip_cut h3
theorem sub_place {l:List Symbol} {t:List Int} (ht:TermOk l t) {p:Nat} (hp:p < t.length) {i:Nat} (hi:i < (subAt l t p).length) :
 p+i < t.length∧(subAt l t p).getD i 0=t.getD (p+i) 0∧endAt l t (p+i)=p+endAt l (subAt l t p) i∧subAt l (subAt l t p) i=subAt l t (p+i):=by
 obtain ⟨h1,h2,h3⟩:=q6c ht hp
 obtain ⟨h4,h5,_⟩:=q4s ht hp
 have hu:=q87 ht hp
 have hpi:p+i < t.length:=by omega
 obtain ⟨h6,h7,h8⟩:=q6c hu hi
 obtain ⟨k1,k2,k3⟩:=q6c ht hpi
 obtain ⟨h9,h10,_⟩:=q4s hu hi
 obtain ⟨k4,k5,_⟩:=q4s ht hpi
 have hd:t.drop (p+i)=(subAt l t p).drop i++t.drop (endAt l t p):=by
  rw [← List.drop_drop,h1,List.drop_append_of_le_length (by omega)]
 have e1:endAt l t (p+i)=p+endAt l (subAt l t p) i:=by
  have h:=qaj (r:=t.drop (endAt l t p)) h8
  rw [← hd,k3] at h
  have:=congrArg List.length (Option.some.inj h)
  simp only [List.length_drop,List.length_append] at this
  omega
 refine ⟨hpi,?_,e1,?_⟩
 · have:=congrArg (fun x=>x[0]?) hd
   simp only [List.getElem?_drop,Nat.add_zero] at this
   rw [List.getD_eq_getElem?_getD,List.getD_eq_getElem?_getD,this,List.getElem?_append_left (by simp; omega),List.getElem?_drop,Nat.add_zero]
 · have q1:subAt l t (p+i)=(t.drop (p+i)).take (endAt l t (p+i) - (p+i)):=by unfold subAt; rw [List.drop_take]
   have q2:subAt l (subAt l t p) i=((subAt l t p).drop i).take (endAt l (subAt l t p) i - i):=by
    show ((subAt l t p).take (endAt l (subAt l t p) i)).drop i=_
    rw [List.drop_take]
   rw [q1,q2,hd,e1,List.take_append_of_le_length (by simp; omega)]
   congr 1; omega
abbrev Bnd:=List Int × List (List Int)
def insAt (vs:List Int) (v:Int):Nat:=(vs.takeWhile fun x=>decide (x < v)).length
def ins {α:Type} (l:List α) (i:Nat) (x:α):List α:=l.take i++x::l.drop i
def bput (b:Bnd) (v:Int) (t:List Int):Bnd:=(ins b.1 (insAt b.1 v) v,ins b.2 (insAt b.1 v) t)
theorem insAt_le (vs:List Int) (v:Int):insAt vs v≤vs.length:=by
 have:=(List.takeWhile_sublist (l:=vs) (p:=fun x=>decide (x < v))).length_le
 exact this
theorem insAt_lt:∀ (vs:List Int) (v:Int) (i:Nat) (h:i < insAt vs v) (h':i < vs.length),vs[i] < v
 | [],v,i,h,h'=>by simp at h'
 | x::vs,v,i,h,h'=>by
   unfold insAt at h
   rw [List.takeWhile_cons] at h
   by_cases hx:x < v
   · rw [if_pos (by simpa using hx)] at h
     cases i with
     | zero=>exact hx
     | succ i=>exact insAt_lt vs v i (by simpa [insAt] using h) (by simpa using h')
   · rw [if_neg (by simpa using hx)] at h; simp at h
theorem insAt_stop:∀ (vs:List Int) (v:Int) (h':insAt vs v < vs.length),¬ vs[insAt vs v] < v
 | [],v,h'=>by simp at h'
 | x::vs,v,h'=>by
   by_cases hx:x < v
   · have e:insAt (x::vs) v=insAt vs v+1:=by unfold insAt; rw [List.takeWhile_cons,if_pos (by simpa using hx)]; rfl
     have:=insAt_stop vs v (by rw [e] at h'; simpa using h')
     simpa [e] using this
   · have e:insAt (x::vs) v=0:=by unfold insAt; rw [List.takeWhile_cons,if_neg (by simpa using hx)]; rfl
     simpa [e] using hx
theorem q7g {α:Type} (l:List α) (i:Nat) (x:α) (h:i≤l.length):(ins l i x).length=l.length+1:=by simp [ins]; omega
theorem mem_ins {α:Type} {l:List α} {i:Nat} {x y:α} (h:y∈ins l i x):y=x∨y∈l:=by
 unfold ins at h
 rcases List.mem_append.1 h with h | h
 · exact .inr (List.mem_of_mem_take h)
 · rcases List.mem_cons.1 h with h | h
   · exact .inl h
   · exact .inr (List.mem_of_mem_drop h)
structure MB (l:List Symbol) (b:Bnd) (k:Nat):Prop where
 len:b.1.length=b.2.length
 le:b.1.length≤k
 var:∀ v∈b.1,0≤v∧v≤11
 tm:∀ t∈b.2,TermOk l t
theorem MB.nil (l:List Symbol):MB l ([],[]) 0:=⟨rfl,Nat.le_refl _,by simp,by simp⟩
theorem MB.up {l:List Symbol} {b:Bnd} {k k':Nat} (h:MB l b k) (hk:k≤k'):MB l b k':=⟨h.len,Nat.le_trans h.le hk,h.var,h.tm⟩
theorem MB.put {l:List Symbol} {b:Bnd} {k:Nat} (h:MB l b k) {v:Int} (hv:0≤v∧v≤11) {t:List Int} (ht:TermOk l t):MB l (bput b v t) (k+1):=by
 have hi:=insAt_le b.1 v
 have hlen:=h.len
 have:=h.le
 refine ⟨?_,?_,fun x hx => ?_,fun x hx => ?_⟩
 · unfold bput; rw [q7g _ _ _ hi,q7g _ _ _ (by omega)]; omega
 · unfold bput; rw [q7g _ _ _ hi]; omega
 · rcases mem_ins hx with rfl | hx
   · exact hv
   · exact h.var x hx
 · rcases mem_ins hx with rfl | hx
   · exact ht
   · exact h.tm x hx
theorem MB.ok {l:List Symbol} {b:Bnd} {k:Nat} (h:MB l b k) (hk:k≤24):BindOk b.1 b.2 :=
 ⟨h.len,by have:=h.le; omega,fun v hv=>(h.var v hv).1,fun t ht=>⟨(h.tm t ht).pos,by have:=(h.tm t ht).le; omega⟩⟩
theorem bindOf_none {vs:List Int} {ts:List (List Int)} (hl:vs.length=ts.length) {v:Int} (h:q65 vs ts v=none):v∉vs:=fun hv=>by
 unfold q65 at h
 rcases q7w (fun x:Int=>decide (x=v)) vs with ⟨h1,hno⟩ | ⟨i,hi,h1,_,_⟩
 · have:=hno v hv; simp at this
 · rw [h1,if_neg (by omega),Int.toNat_natCast,List.getElem?_eq_getElem (by omega)] at h
   cases h
def mgo (l:List Symbol) (t:List Int):List Int→Bnd→Nat→Option (Bnd × Nat)
 | [],b,p=>some (b,p)
 | n::q,b,p =>
   if t.length≤p then none
   else if 0≤n then (if t.getD p 0=n then mgo l t q b (p+1) else none)
   else match q65 b.1 b.2 (-1 - n) with
    | none=>mgo l t q (bput b (-1 - n) (subAt l t p)) (p+(subAt l t p).length)
    | some o=>if o=subAt l t p then mgo l t q b (p+(subAt l t p).length) else none
structure Both (l:List Symbol) (t q:List Int) (p:Nat) (r:List Int):Prop where
 both:∃ m,skip (ar l) m q=some []∧skip (ar l) m (t.drop p)=some r
theorem Both.start {l:List Symbol} {t q:List Int} (ht:TermOk l t) (hq:TermOk l q) {p:Nat} (hp:p < t.length):Both l t q p (t.drop (endAt l t p)):=⟨1,hq.skip,(q6c ht hp).2.2⟩
theorem Both.stop {l:List Symbol} {t:List Int} {p:Nat} {r:List Int} (h:Both l t [] p r):t.drop p=r:=by
 obtain ⟨m,h1,h2⟩:=h.both
 obtain ⟨rfl,_⟩:=skip_nil h1
 rw [q4k] at h2
 exact Option.some.inj h2
theorem Both.lt {l:List Symbol} {t q:List Int} {n:Int} {p:Nat} {r:List Int} (h:Both l t (n::q) p r):p < t.length:=by
 obtain ⟨m,h1,h2⟩:=h.both
 cases m with
 | zero=>rw [q4k] at h1; cases h1
 | succ m =>
   rcases Nat.lt_or_ge p t.length with h | h
   · exact h
   · rw [List.drop_of_length_le h] at h2; cases h2
theorem Both.node {l:List Symbol} {t q:List Int} {n:Int} {p:Nat} {r:List Int} (h:Both l t (n::q) p r) (hn:t.getD p 0=n):Both l t q (p+1) r:=by
 have hp:=h.lt
 obtain ⟨m,h1,h2⟩:=h.both
 cases m with
 | zero=>rw [q4k] at h1; cases h1
 | succ m =>
   rw [List.drop_eq_getElem_cons hp,skip,← q79 hp,hn] at h2
   rw [skip] at h1
   exact ⟨_,h1,h2⟩
theorem Both.var {l:List Symbol} {t q:List Int} {n:Int} {p:Nat} {r:List Int} (ht:TermOk l t) (h:Both l t (n::q) p r) (hn:n < 0):Both l t q (p+(subAt l t p).length) r:=by
 have hp:=h.lt
 obtain ⟨h3,h4,h5⟩:=q6c ht hp
 obtain ⟨h6,h7,_⟩:=q4s ht hp
 obtain ⟨m,h1,h2⟩:=h.both
 cases m with
 | zero=>rw [q4k] at h1; cases h1
 | succ m =>
   rw [skip,ar_neg l hn,Nat.add_zero] at h1
   rw [show m+1=1+m by omega,qao,h5] at h2
   refine ⟨m,h1,?_⟩
   rw [h4,show p+(endAt l t p - p)=endAt l t p by omega]
   exact h2
theorem mgo_sub {l:List Symbol} {t:List Int} (ht:TermOk l t) {p:Nat} (hp:p < t.length):∀ (q:List Int) (b:Bnd) (i:Nat),Both l (subAt l t p) q i [] →
 mgo l t q b (p+i)=(mgo l (subAt l t p) q b i).map fun x=>(x.1,p+x.2)
 | [],b,i,h=>rfl
 | n::q,b,i,h=>by
   have hu:=q87 ht hp
   have hi:=h.lt
   obtain ⟨h1,h2,h3,h4⟩:=sub_place ht hp hi
   have n1:¬ t.length≤p+i:=by omega
   have n2:¬ (subAt l t p).length≤i:=by omega
   rw [mgo,mgo,if_neg n1,if_neg n2,h2,h4]
   by_cases hn:0≤n
   · rw [if_pos hn,if_pos hn]
     by_cases e:t.getD (p+i) 0=n
     · rw [if_pos e,if_pos e]
       exact mgo_sub ht hp q b (i+1) (h.node (by rw [h2,e]))
     · rw [if_neg e,if_neg e]; rfl
   · rw [if_neg hn,if_neg hn]
     have hv:=h.var hu (by omega)
     rw [h4] at hv
     cases q65 b.1 b.2 (-1 - n) with
     | none =>
       have:=mgo_sub ht hp q (bput b (-1 - n) (subAt l t (p+i))) _ hv
       rw [← Nat.add_assoc] at this
       exact this
     | some o =>
       show (if o=_ then _ else none)=Option.map _ (if o=_ then _ else none)
       by_cases e:o=subAt l t (p+i)
       · rw [if_pos e,if_pos e]
         have:=mgo_sub ht hp q b _ hv
         rw [← Nat.add_assoc] at this
         exact this
       · rw [if_neg e,if_neg e]; rfl
theorem mgo_end {l:List Symbol} {t:List Int} (ht:TermOk l t) {r:List Int}:∀ (q:List Int) (b:Bnd) (p k:Nat),Both l t q p r→p≤t.length→MB l b k→k+q.length≤24→(∀ n∈q,q75 l n=true)→∀ x,mgo l t q b p=some x→t.drop x.2=r∧x.2≤t.length∧MB l x.1 (k+q.length)
 | [],b,p,k,h,hp,hb,hk,hq,x,hx=>by
   cases hx
   exact ⟨h.stop,hp,by simpa using hb⟩
 | n::q,b,p,k,h,hp,hb,hk,hq,x,hx=>by
   have hlt:=h.lt
   obtain ⟨h6,h7,_⟩:=q4s ht hlt
   have hs:=(q6c ht hlt).2.1
   rw [mgo,if_neg (by omega)] at hx
   rw [List.length_cons] at hk ⊢
   have e0:k+1+q.length=k+(q.length+1):=by omega
   by_cases hn:0≤n
   · rw [if_pos hn] at hx
     split at hx
     · rename_i e
       have:=mgo_end ht q b (p+1) (k+1) (h.node e) (by omega) (hb.up (by omega)) (by omega) (fun n hn=>hq n (List.mem_cons_of_mem _ hn)) x hx
       rw [e0] at this; exact this
     · cases hx
   · rw [if_neg hn] at hx
     have hnode:=q5b.1 (hq n (by simp))
     split at hx
     · have:=mgo_end ht q _ _ (k+1) (h.var ht (by omega)) (by omega) (hb.put (v := -1 - n) (by omega) (q87 ht hlt)) (by omega) (fun n hn=>hq n (List.mem_cons_of_mem _ hn)) x hx
       rw [e0] at this; exact this
     · split at hx
       · have:=mgo_end ht q b _ (k+1) (h.var ht (by omega)) (by omega) (hb.up (by omega)) (by omega) (fun n hn=>hq n (List.mem_cons_of_mem _ hn)) x hx
         rw [e0] at this; exact this
       · cases hx
def q80 (l:List Symbol) (q t:List Int) (p:Nat):Option Bnd:=(mgo l t q ([],[]) p).map (·.1)
theorem matchAt_sub {l:List Symbol} {q t:List Int} (hq:TermOk l q) (ht:TermOk l t) {p:Nat} (hp:p < t.length):q80 l q (subAt l t p) 0=q80 l q t p:=by
 have hu:=q87 ht hp
 have hb:=Both.start hu hq (p:=0) (by have:=hu.pos; omega)
 have he:t.drop p=subAt l t p++t.drop (endAt l t p):=(q6c ht hp).1
 have e0:(subAt l t p).drop (endAt l (subAt l t p) 0)=[]:=by
  have:=(q6c hu (p:=0) (by have:=hu.pos; omega)).2.2
  rw [List.drop_zero,hu.skip] at this
  exact (Option.some.inj this).symm
 rw [e0] at hb
 have:=mgo_sub ht hp q ([],[]) 0 hb
 unfold q80
 rw [Nat.add_zero] at this
 rw [this]
 cases mgo l (subAt l t p) q ([],[]) 0 <;> rfl
theorem matchAt_ok {l:List Symbol} {q t:List Int} (hq:TermOk l q) (ht:TermOk l t) {p:Nat} (hp:p < t.length) {b:Bnd} (h:q80 l q t p=some b):MB l b q.length:=by
 unfold q80 at h
 rw [Option.map_eq_some_iff] at h
 obtain ⟨x,hx,rfl⟩:=h
 have:=(mgo_end ht q ([],[]) p 0 (Both.start ht hq hp) (by omega) (MB.nil l) (by have:=hq.le; omega) hq.node x hx).2.2
 simpa using this
end Ev.Ty
end
section
namespace Ev.Ty
open Go Ev
open Enc (enc)
open Sm (sm)
set_option linter.unusedSimpArgs false
set_option linter.unusedVariables false
section
variable (e:Nat→Nat) (f:Nat→Int)
def upStep (s:Int × Int × Int) (k:Nat):Int × Int × Int:=if (e k:Int) > s.2.2 then s else if f k ≥ 0 then ((k:Int),f k,(e k:Int)) else s
def IsBest (lo hi:Nat) (s:Int × Int):Prop :=
 (s=(-1,-1)∧∀ a,lo≤a→a < hi→f a < 0) ∨
  ∃ a,lo≤a∧a < hi∧s=((a:Int),f a)∧f a ≥ 0∧∀ a',lo≤a'→a' < hi→f a' ≥ 0→e a < e a'∨(e a=e a'∧a'≤a)
theorem IsBest.up {k:Nat} {s:Int × Int × Int} (he:∀ a,e a≤24) (h:IsBest e f 0 k (s.1,s.2.1)) (hs:(s.1 = -1∧s.2.2=25)∨∃ a:Nat,s.1=a∧s.2.2=e a) :
 IsBest e f 0 (k+1) ((upStep e f s k).1,(upStep e f s k).2.1)∧(((upStep e f s k).1 = -1∧(upStep e f s k).2.2=25)∨∃ a:Nat,(upStep e f s k).1=a∧(upStep e f s k).2.2=e a):=by
 have hek:=he k
 obtain ⟨p,r,d⟩:=s
 unfold upStep
 simp only at h hs ⊢
 rcases h with ⟨hp,h⟩ | ⟨a,h1,h2,hp,h3,h4⟩
 · simp only [Prod.mk.injEq] at hp
   obtain ⟨rfl,rfl⟩:=hp
   have hd:d=25:=by
    rcases hs with ⟨_,h⟩ | ⟨a,h,_⟩
    · exact h
    · omega
   subst hd
   rw [if_neg (by omega)]
   by_cases hf:f k ≥ 0
   · rw [if_pos hf]
     refine ⟨.inr ⟨k,by omega,by omega,rfl,hf,fun a' q1 q2 q3 => ?_⟩,.inr ⟨k,rfl,rfl⟩⟩
     by_cases hak:a'=k
     · subst hak; exact .inr ⟨rfl,Nat.le_refl _⟩
     · have:=h a' (by omega) (by omega); omega
   · rw [if_neg hf]
     refine ⟨.inl ⟨rfl,fun a' q1 q2 => ?_⟩,.inl ⟨rfl,rfl⟩⟩
     by_cases hak:a'=k
     · subst hak; omega
     · exact h a' (by omega) (by omega)
 · simp only [Prod.mk.injEq] at hp
   obtain ⟨rfl,rfl⟩:=hp
   have hd:d=e a:=by
    rcases hs with ⟨h,_⟩ | ⟨a',h,h'⟩
    · omega
    · have:a=a':=by omega
      rw [this]; exact h'
   subst hd
   by_cases hc:(e k:Int) > e a
   · rw [if_pos hc]
     refine ⟨.inr ⟨a,by omega,by omega,rfl,h3,fun a' q1 q2 q3 => ?_⟩,.inr ⟨a,rfl,rfl⟩⟩
     by_cases hak:a'=k
     · subst hak; exact .inl (by omega)
     · exact h4 a' (by omega) (by omega) q3
   · rw [if_neg hc]
     by_cases hf:f k ≥ 0
     · rw [if_pos hf]
       refine ⟨.inr ⟨k,by omega,by omega,rfl,hf,fun a' q1 q2 q3 => ?_⟩,.inr ⟨k,rfl,rfl⟩⟩
       by_cases hak:a'=k
       · subst hak; exact .inr ⟨rfl,Nat.le_refl _⟩
       · rcases h4 a' (by omega) (by omega) q3 with q | ⟨q,_⟩
         · exact .inl (by omega)
         · rcases Nat.lt_or_ge (e k) (e a') with q' | q'
           · exact .inl q'
           · exact .inr ⟨by omega,by omega⟩
     · rw [if_neg hf]
       refine ⟨.inr ⟨a,by omega,by omega,rfl,h3,fun a' q1 q2 q3 => ?_⟩,.inr ⟨a,rfl,rfl⟩⟩
       by_cases hak:a'=k
       · subst hak; omega
       · exact h4 a' (by omega) (by omega) q3
end
def fits (l:List Symbol) (rs:List Equation) (t:List Int) (p:Nat):Int:=idx (fun e=>(q80 l e.left t p).isSome) rs
theorem q9z {l:List Symbol} {b:Bnd} {k:Nat} (hb:MB l b k) (hk:k≤24):∀ (q x:List Int) (m:Nat),skip (ar l) m q=some []→skip (ar l) m (q0i b.1 b.2 q++x)=some x
 | [],x,m,h=>by
   obtain ⟨rfl,_⟩:=skip_nil h
   rw [q4k]; rfl
 | n::q,x,m,h=>by
   cases m with
   | zero=>rw [q4k] at h; cases h
   | succ m =>
     rw [skip] at h
     have ih:=q9z hb hk q x _ h
     have e:q0i b.1 b.2 (n::q)=(q65 b.1 b.2 (-1 - n)).getD [n]++q0i b.1 b.2 q:=by simp [q0i]
     rw [e,List.append_assoc]
     cases ho:q65 b.1 b.2 (-1 - n) with
     | none =>
       show skip (ar l) (m+1) (n::(q0i b.1 b.2 q++x))=_
       rw [skip]; exact ih
     | some o =>
       have hn:n < 0:=by
        rcases Int.lt_or_le n 0 with h | h
        · exact h
        · rw [bindOf_neg (hb.ok hk) (by omega)] at ho; cases ho
       rw [ar_neg l hn,Nat.add_zero] at ih
       have ht:=hb.tm o (q7j ho)
       show skip (ar l) (m+1) (o++(q0i b.1 b.2 q++x))=_
       rw [show m+1=1+m by omega,qao,qaj ht.skip]
       exact ih
theorem skip_repl {a:Int→Nat} {y y' z:List Int} (hy:skip a 1 (y++z)=some z) (hy':skip a 1 (y'++z)=some z):∀ (x:List Int) (k:Nat),skip a k (x++(y++z))=some []→skip a k (x++(y'++z))=some []
 | [],0,h=>by
   rw [q4k] at h
   rw [List.nil_append] at h
   rw [Option.some.inj h] at hy
   cases hy
 | [],k+1,h=>by
   rw [List.nil_append,show k+1=1+k by omega,qao] at h ⊢
   rw [hy] at h
   rw [hy']
   exact h
 | n::x,0,h=>by rw [q4k] at h; cases h
 | n::x,k+1,h=>by
   rw [List.cons_append,skip] at h ⊢
   exact skip_repl hy hy' x _ h
theorem applied_node {l:List Symbol} {b:Bnd} {k:Nat} (hb:MB l b k) {q:List Int} (hq:∀ n∈q,q75 l n=true):∀ n∈q0i b.1 b.2 q,q75 l n=true:=fun n hn=>by
 unfold q0i at hn
 obtain ⟨m,hm,hn⟩:=List.mem_flatMap.1 hn
 cases ho:q65 b.1 b.2 (-1 - m) with
 | none=>rw [ho] at hn; rw [List.mem_singleton.1 hn]; exact hq m hm
 | some o=>rw [ho] at hn; exact (hb.tm o (q7j ho)).node n hn
theorem repl_ok {l:List Symbol} {t q:List Int} (ht:TermOk l t) (hq:TermOk l q) {p:Nat} (hp:p < t.length) {b:Bnd} {k:Nat} (hb:MB l b k) (hk:k≤24) (h:(q5c l t p (q0i b.1 b.2 q)).length≤24) :
 TermOk l (q5c l t p (q0i b.1 b.2 q)):=by
 obtain ⟨h1,h2,h3⟩:=q6c ht hp
 have hs:skip (ar l) 1 (q5c l t p (q0i b.1 b.2 q))=some []:=by
  unfold q5c
  rw [List.append_assoc]
  refine skip_repl (y:=subAt l t p) (by rw [← h1]; exact h3) (q9z hb hk q _ 1 hq.skip) (t.take p) 1 ?_
  rw [← h1,List.take_append_drop]
  exact ht.skip
 refine ⟨?_,h,fun n hn => ?_,hs⟩
 · rcases Nat.eq_zero_or_pos (q5c l t p (q0i b.1 b.2 q)).length with h | h
   · rw [List.eq_nil_of_length_eq_zero h] at hs; cases hs
   · exact h
 · unfold q5c at hn
   rcases List.mem_append.1 hn with hn | hn
   · rcases List.mem_append.1 hn with hn | hn
     · exact ht.node n (List.mem_of_mem_take hn)
     · exact applied_node hb hq.node n hn
   · exact ht.node n (List.mem_of_mem_drop hn)
def stepAt (l:List Symbol) (e:Equation) (t:List Int) (p:Nat):TermResult:=match q80 l e.left t p with
 | none=>⟨4,[]⟩
 | some b=>if 24 < (q5c l t p (q0i b.1 b.2 e.right)).length then ⟨2,[]⟩ else ⟨0,q5c l t p (q0i b.1 b.2 e.right)⟩
theorem stepAt_ok {l:List Symbol} {e:Equation} {t:List Int} (he:EqOk l e) (ht:TermOk l t) {p:Nat} (hp:p < t.length) (h:(stepAt l e t p).code=0):TermOk l (stepAt l e t p).term:=by
 unfold stepAt at h ⊢
 cases hm:q80 l e.left t p with
 | none=>rw [hm] at h; cases h
 | some b =>
   rw [hm] at h
   simp only at h ⊢
   split at h
   · cases h
   · rename_i h24
     rw [if_neg h24]
     have hb:=matchAt_ok he.left ht hp hm
     exact repl_ok ht he.right hp hb he.left.le (by omega)
def q64 (s:Signature) (rs:List Equation) (t:List Int):Int:=if q4t s rs≠0 then q4t s rs else q54 s.symbols t
def q4r (s:Signature) (rs:List Equation) (r p:Int) (t:List Int):TermResult :=
 if q64 s rs t≠0 then ⟨q64 s rs t,[]⟩ else if inR r 0 (rs.length - 1)=false∨inR p 0 (t.length - 1)=false then ⟨3,[]⟩ else stepAt s.symbols (rs.getD r.toNat ⟨[],[]⟩) t p.toNat
end Ev.Ty
end
section
namespace Ev.Ty
theorem pigeon:∀ (k:Nat) (o:List Int),o.Nodup→(∀ n∈o,0≤n∧n < k)→o.length≤k
 | 0,o,_,h=>by
   cases o with
   | nil=>simp
   | cons x o=>have:=h x (by simp); omega
 | k+1,o,hn,h=>by
   by_cases hk:(k:Int)∈o
   · have h1:=List.length_erase_of_mem hk
     have:=pigeon k (o.erase (k:Int)) (hn.erase _) fun n hm=>by
      have hm':=(hn.mem_erase_iff).1 hm
      have:=h n hm'.2
      omega
     omega
   · have:=pigeon k o hn fun n hm=>by
      have:=h n hm
      have:n≠(k:Int):=fun e=>hk (e ▸ hm)
      omega
     omega
end Ev.Ty
end
section
namespace Ev.Ty
open Go Ev
open Enc (enc)
open Sm (sm)
set_option linter.unusedSimpArgs false
set_option linter.unusedVariables false
theorem q48 (t v:List Int) (hs:t.length≤4294967296) (hv:v.length≤4294967296) :
 Call F.q1y [slc t,.clo F.q4y [.rref [slc v] 0]] (.bool (t.any fun n=>decide (n∉v))):=by
 have hi:Call F.q0j [slc t,.clo F.q4y [.rref [slc v] 0]] (.int .i64 (idx (fun n=>decide (n∉v)) t)):=by
  refine q0m rfl (t.length+1) ((q0g.ev _ _ _).trans ?_)
  refine q85 (S:=fun m k=>q0g.at0 (t.length+1) m (q0g.st0 (cells t) _ _ (k:Nat))) (fun m k h => ?_) (fun m => ?_) (Nat.lt_succ_self _)
  · have hlk:t[k]?=some t[k]:=List.getElem?_eq_getElem h
    have hc:Call F.q4y [.int .i64 t[k],.rref [slc v] 0] (.bool (decide (t[k]∉v))):=by
     refine q0m rfl 0 ((q4y.ev _ _ _).trans ?_)
     simp only [evz,Nat.reduceLT,(q1i v t[k] hv).eq,decide_not]
    simp only [q0g.next0,q0g.round0,evz,Nat.reduceLT,h,hlk,q1x,hc.eq]
    rw [q0o (by omega)]
    by_cases e:t[k]∈v <;> simp [e]
  · simp only [q0g.next0,q0g.round0,evz,Nat.reduceLT,Nat.lt_irrefl]
 refine q0m rfl 0 ((q48.ev _ _ _).trans ?_)
 simp only [evz,Nat.reduceLT,hi.eq,q7y]
theorem varsOf_term {l:List Symbol} {t:List Int} (h:TermOk l t):Call F.q0y [.sl 1 [slc t]] (slc (qab [t]))∧(qab [t]).length≤24:=by
 have hle:=h.le
 have hvl:=varsOf_length [t]
 refine ⟨q0y [t] (by simp) (fun x hx => ?_) (by simp; omega),by simp at hvl; omega⟩
 simp only [List.mem_cons,List.not_mem_nil,or_false] at hx
 subst hx
 exact ⟨by omega,h.ge⟩
theorem head0 {l:List Symbol} {t:List Int} (h:TermOk l t):t[0]?=some (t.headD 0):=by
 have:=h.pos
 cases t with
 | nil=>simp at this
 | cons x r=>rfl
theorem q8h {l:List Symbol} {a b:List Int} (ha:TermOk l a) (hb:TermOk l b):Call F.q8h [.agg [slc a,slc b]] (.bool (ruleOk ⟨a,b⟩)):=by
 refine q0m rfl 0 ((q8h.ev _ _ _).trans ?_)
 obtain ⟨ca,la⟩:=varsOf_term ha
 obtain ⟨cb,lb⟩:=varsOf_term hb
 have h0:(cells a)[0]?=some (.int .i64 (a.headD 0)):=by
  have:=get0 (l:=a) (k:=1) (i:=0) q3r
  rw [Nat.zero_mul] at this
  rw [this,head0 ha]; rfl
 have hin:inB 0 ((cells a).length / 1)=true:=by
  rw [q3y q3r]
  have:=q8c 0 a.length
  have hp:=ha.pos
  rw [show (0:Int)=((0:Nat):Int) from rfl,this]
  exact decide_eq_true hp
 have hc:=q48 (qab [b]) (qab [a]) (by omega) (by omega)
 rw [hin,cond_true,h0]
 simp only [evz,Nat.reduceLT,ruleOk]
 have e:((qab [b]).any fun n=>decide (n∉qab [a]))=b.any fun n=>decide (n < 0∧n∉a):=by
  rw [Bool.eq_iff_iff,List.any_eq_true,List.any_eq_true]
  constructor
  · rintro ⟨v,hv,h⟩
    rw [decide_eq_true_eq] at h
    obtain ⟨v0,t,ht,hm⟩:=q8w.1 hv
    simp only [List.mem_cons,List.not_mem_nil,or_false] at ht
    subst ht
    refine ⟨-1 - v,hm,?_⟩
    rw [decide_eq_true_eq]
    exact ⟨by omega,fun hn=>h (q8w.2 ⟨v0,a,by simp,hn⟩)⟩
  · rintro ⟨n,hn,h⟩
    rw [decide_eq_true_eq] at h
    refine ⟨-1 - n,q8w.2 ⟨by omega,b,by simp,by rw [show -1 - (-1 - n)=n by omega]; exact hn⟩,?_⟩
    rw [decide_eq_true_eq]
    intro hm
    obtain ⟨_,t,ht,hm'⟩:=q8w.1 hm
    simp only [List.mem_cons,List.not_mem_nil,or_false] at ht
    subst ht
    rw [show -1 - (-1 - n)=n by omega] at hm'
    exact h.2 hm'
 by_cases h1:a.headD 0 < 0
 · have h2:¬ 0≤a.headD 0:=by omega
   simp only [h1,h2,evz,Nat.reduceLT,Bool.false_and]
 · have h2:0≤a.headD 0:=by omega
   simp only [h1,h2,evz,Nat.reduceLT,ca.eq,cb.eq,hc.eq,e,Bool.true_and]
theorem q4w (l:List Symbol) (hs:l.length≤4294967296) (es:List Equation) (he:sm 4294967296 es):Call F.q4w [.agg [slc l],slc es] (.int .i64 (q4t ⟨l⟩ es)):=by
 refine q0m rfl 0 ((q4w.ev _ _ _).trans ?_)
 simp only [evz,Nat.reduceLT,(q0v l hs es he).eq,q4t,q9o]
 by_cases h1:q41 ⟨l⟩=0
 case neg=>simp only [h1,evz,Nat.reduceLT,ne_eq,not_false_eq_true]
 simp only [h1,evz,Nat.reduceLT,ne_eq,not_true_eq_false]
 by_cases h2:q6m l es=0
 case neg=>simp only [h2,evz,Nat.reduceLT,not_false_eq_true]
 obtain ⟨hlen,hok⟩:=qah.1 h2
 have hi:Call F.q1o [slc es,.clo F.q3w []] (.int .i64 (idx (fun e => !ruleOk e) es)):=by
  refine q0m rfl (es.length+1) ((q0a.ev _ _).trans ?_)
  simp only [evz,Nat.reduceLT]
  refine q85 (S:=fun m k=>q0a.at0 (es.length+1) m (q0a.st0 (cells es) es.length (k:Nat))) (fun m k h => ?_) (fun m => ?_) (Nat.lt_succ_self _)
  · have hlk:es[k]?=some es[k]:=List.getElem?_eq_getElem h
    have ho:=hok es[k] (List.getElem_mem h)
    have hc:Call F.q3w [.agg [slc es[k].left,slc es[k].right]] (.bool (!ruleOk es[k])):=by
     refine q0m rfl 0 ((q3w.ev _ _ _).trans ?_)
     simp only [evz,Nat.reduceLT,(q8h ho.left ho.right).eq]
    simp only [q0a.next0,q0a.round0,evz,Nat.reduceLT,h,hlk,q3d,hc.eq]
    rw [q0o (by omega)]
    cases ruleOk es[k] <;> rfl
  · simp only [q0a.next0,q0a.round0,evz,Nat.reduceLT,Nat.lt_irrefl]
 have hc:Call F.q3s [slc es,.clo F.q3w []] (.bool (es.any fun e => !ruleOk e)):=by
  refine q0m rfl 0 ((q6f.ev _ _).trans ?_)
  simp only [evz,Nat.reduceLT,hi.eq,q7y]
 simp only [h2,evz,Nat.reduceLT,not_true_eq_false,hc.eq]
 cases es.any fun e => !ruleOk e <;> rfl
theorem q21 (t:List Int) (x:Int) (hl:t.length≤4294967296):Call F.q21 [slc t,.int .i64 x] (.int .i64 (t.count x:Nat)):=by
 have loop:∀ m k (c:Nat),k≤t.length→t.length < m+k→c≤k →
  q21.at0 (t.length+1) m (q21.st0 (cells t) x (c:Nat) (k:Nat))=some (.int .i64 ((c+(t.drop k).count x:Nat):Int),[]):=by
  intro m
  induction m with
  | zero=>intros; omega
  | succ m ih =>
    intro k c hk hm hc
    by_cases h:k < t.length
    · have hlk:t[k]?=some t[k]:=List.getElem?_eq_getElem h
      simp only [q21.next0,q21.round0,evz,Nat.reduceLT,h,hlk,q1x]
      rw [q0o (by omega),q0o (by omega),List.drop_eq_getElem_cons h,List.count_cons]
      by_cases e:t[k]=x
      · simp only [e,evz,Nat.reduceLT]
        rw [ih (k+1) (c+1) (by omega) (by omega) (by omega)]
        simp
        omega
      · simp only [e,evz,Nat.reduceLT]
        rw [ih (k+1) c (by omega) (by omega) (by omega)]
        simp [e]
    · obtain rfl:k=t.length:=by omega
      simp only [q21.next0,q21.round0,evz,Nat.reduceLT,Nat.lt_irrefl,List.drop_length,List.count_nil,Nat.add_zero]
 refine q0m rfl (t.length+1) ((q21.ev _ _ _).trans ?_)
 have:=loop (t.length+1) 0 0 (by omega) (by omega) (by omega)
 rw [List.drop_zero,Nat.zero_add] at this
 exact this
theorem q0u (l:List Symbol) (ok:SigOk ⟨l⟩) (es:List Equation) (he:sm 4294967296 es):Call F.q0u [.rref [slc l] 0,slc es] (.int .i64 (q9o l es)):=by
 refine q0m rfl 25 ((q0u.ev _ _ _).trans ?_)
 simp only [evz,Nat.reduceLT,(q2d l ok es he).eq,q9o]
 by_cases h2:q6m l es=0
 case neg=>simp only [h2,evz,Nat.reduceLT,ne_eq,not_false_eq_true]
 obtain ⟨hlen,hok⟩:=qah.1 h2
 simp only [h2,evz,Nat.reduceLT,ne_eq,not_true_eq_false]
 have inner:∀ (L0:St→R) (k:Nat) (h:k < es.length), 
  q0u.at2 25 L0 25 (q0u.st2 (cells es) (k:Nat) ((0:Nat):Int))=if (es[k].right.any fun n=>decide (n < 0∧n∉es[k].left))=true then some (.int .i64 1,[]) else L0 (q0u.st0 (cells es) ((k+1:Nat):Int)):=fun L0 k h=>by
  have hlk:es[k]?=some es[k]:=List.getElem?_eq_getElem h
  have ho:=hok es[k] (List.getElem_mem h)
  have hle:=ho.right.le
  have hle':=ho.left.le
  refine q82 (l:=es[k].right) (p:=fun n=>decide (n < 0∧n∉es[k].left)) (r:=some (.int .i64 1,[])) (S:=fun m j=>q0u.at2 25 L0 m (q0u.st2 (cells es) (k:Nat) (j:Nat))) (fun m j hj => ?_) (fun m => ?_) (by omega)
  · have hlj:es[k].right[j]?=some es[k].right[j]:=List.getElem?_eq_getElem hj
    simp only [q0u.next2,q0u.round2,evz,Nat.reduceLT,h,hlk,hj,hlj,q3d,q1x,(q21 es[k].left es[k].right[j] (by omega)).eq]
    rw [q0o (by omega)]
    by_cases q1:es[k].right[j] < 0
    · by_cases q2:es[k].right[j]∈es[k].left
      · have q3:0 < es[k].left.count es[k].right[j]:=List.count_pos_iff.2 q2
        have q4:¬ ((es[k].left.count es[k].right[j]:Nat):Int)=0:=by omega
        simp only [q1,q2,q4,evz,Nat.reduceLT,not_true_eq_false,and_false,Bool.false_eq_true]
      · have q3:es[k].left.count es[k].right[j]=0:=List.count_eq_zero.2 q2
        simp only [q1,q2,q3,evz,Nat.reduceLT,not_false_eq_true,and_true,Int.natCast_zero]
    · simp only [q1,evz,Nat.reduceLT,false_and,Bool.false_eq_true]
  · simp only [q0u.next2,q0u.round2,evz,Nat.reduceLT,h,hlk,q3d,Nat.lt_irrefl]
    rw [q0o (by omega)]
 refine (q82 (l:=es) (p:=fun e => !ruleOk e) (r:=some (.int .i64 1,[])) (z:=some (.int .i64 0,[])) (S:=fun m k=>q0u.at0 25 m (q0u.st0 (cells es) (k:Nat))) (fun m k h => ?_) (fun m => ?_) (show es.length < 25 by omega)).trans ?_
 · have hlk:es[k]?=some es[k]:=List.getElem?_eq_getElem h
   have ho:=hok es[k] (List.getElem_mem h)
   have h0:(cells es[k].left)[0]?=some (.int .i64 (es[k].left.headD 0)):=by
    have:=get0 (l:=es[k].left) (k:=1) (i:=0) q3r
    rw [Nat.zero_mul] at this
    rw [this,head0 ho.left]; rfl
   have hin:inB 0 es[k].left.length=true:=by
    have:=q8c 0 es[k].left.length
    have hp:=ho.left.pos
    rw [show (0:Int)=((0:Nat):Int) from rfl,this]
    exact decide_eq_true hp
   simp only [q0u.next0,q0u.round0,evz,Nat.reduceLT,h,hlk,q3d,hin,h0,ruleOk]
   by_cases q1:es[k].left.headD 0 < 0
   · have q2:¬ 0≤es[k].left.headD 0:=by omega
     simp only [q1,q2,evz,Nat.reduceLT,Bool.false_and,Bool.not_false]
   · have q2:0≤es[k].left.headD 0:=by omega
     simp only [q1,q2,evz,Nat.reduceLT,Bool.true_and,Bool.not_not]
     exact inner _ k h
 · simp only [q0u.next0,q0u.round0,evz,Nat.reduceLT,Nat.lt_irrefl]
 · cases es.any fun e => !ruleOk e <;> rfl
theorem q4x (l:List Symbol) (hs:l.length≤4294967296) (es:List Equation) (he:sm 4294967296 es):Call F.q4x [.agg [slc l],slc es] (.int .i64 (q4t ⟨l⟩ es)):=by
 refine q0m rfl 0 ((q4x.ev _ _ _).trans ?_)
 simp only [evz,Nat.reduceLT,(q02 l hs).eq,q4t]
 by_cases h1:q41 ⟨l⟩=0
 case neg=>simp only [h1,evz,Nat.reduceLT,ne_eq,not_false_eq_true]
 have ok:=(q9j _).1 h1
 simp only [h1,evz,Nat.reduceLT,ne_eq,not_true_eq_false,(q0u l ok es he).eq]
end Ev.Ty
end
section
namespace Ev.Ty
open Go Ev
open Enc (enc)
open Sm (sm)
set_option linter.unusedSimpArgs false
set_option linter.unusedVariables false
def q73 (l:List Symbol) (t:List Int):Nat→Nat→List Nat
 | 0,_=>[]
 | n+1,p=>p::q73 l t n (endAt l t p)
def q3n (l:List Symbol) (t:List Int) (p:Nat):List Nat:=q73 l t (ar l (t.getD p 0)) (p+1)
theorem q62 (l:List Symbol) (t:List Int):∀ n p,(q73 l t n p).length=n
 | 0,_=>rfl
 | n+1,p=>by rw [q73,List.length_cons,q62 l t n]
theorem skip_one {l:List Symbol} {t:List Int} {p n:Nat} {r:List Int} (h:skip (ar l) (n+1) (t.drop p)=some r):p < t.length∧skip (ar l) n (t.drop (endAt l t p))=some r∧p < endAt l t p∧endAt l t p≤t.length:=by
 have hp:p < t.length:=by
  rcases Nat.lt_or_ge p t.length with h1 | h1
  · exact h1
  · rw [List.drop_of_length_le h1] at h; cases h
 rw [show n+1=1+n by omega,qao] at h
 cases h1:skip (ar l) 1 (t.drop p) with
 | none=>rw [h1] at h; cases h
 | some q =>
   rw [h1] at h
   have h2:=skip_at h1
   have e:endAt l t p=t.length - q.length:=by unfold endAt; rw [h1]
   have h3:=h2.2.2 (by omega)
   refine ⟨hp,?_,by rw [e]; omega,by rw [e]; omega⟩
   rw [e,← h2.1]
   exact h
theorem startsN_mem {l:List Symbol} {t:List Int}:∀ {n p:Nat} {r:List Int},skip (ar l) n (t.drop p)=some r→∀ q∈q73 l t n p,p≤q∧q < t.length
 | 0,p,r,h,q,hq=>by cases hq
 | n+1,p,r,h,q,hq=>by
   obtain ⟨h1,h2,h3,h4⟩:=skip_one h
   rcases List.mem_cons.1 hq with rfl | hq
   · exact ⟨Nat.le_refl _,h1⟩
   · have:=startsN_mem h2 q hq
     exact ⟨by omega,this.2⟩
theorem qad {l:List Symbol} {t:List Int} (ok:TermOk l t) {p:Nat} (hp:p < t.length):∃ r,skip (ar l) (ar l t[p]) (t.drop (p+1))=some r:=by
 obtain ⟨q,hq⟩:=skip_inner (p:=p) ok.skip (by simpa using hp)
 rw [List.drop_eq_getElem_cons hp,skip] at hq
 exact ⟨q,by simpa using hq⟩
theorem q5s {l:List Symbol} {t:List Int} (ok:TermOk l t) {p:Nat} (hp:p < t.length) {q:Nat} (hq:q∈q3n l t p):p < q∧q < t.length:=by
 obtain ⟨r,hr⟩:=qad ok hp
 have hd:t.getD p 0=t[p]:=q79 hp
 unfold q3n at hq
 rw [hd] at hq
 have:=startsN_mem hr q hq
 exact ⟨by omega,this.2⟩
def rank (o:List Int) (n:Int):Int:=idx (fun x=>decide (x=n)) o
def cell (l:List Symbol) (o a b:List Int) (above:Nat→Nat→Bool) (i j:Nat):Bool :=
 if b.getD j 0 < 0 then decide (0≤a.getD i 0)&&decide (b.getD j 0∈subAt l a i)
 else if a.getD i 0 < 0 then false
 else if (q3n l a i).any (fun p=>decide (subAt l a p=subAt l b j)||above p j) then true
 else if rank o (a.getD i 0) < rank o (b.getD j 0) then false
 else if (q3n l b j).any (fun q => !above i q) then false
 else if rank o (b.getD j 0) < rank o (a.getD i 0) then true
 else match ((q3n l a i).zip (q3n l b j)).find? fun x => !decide (subAt l a x.1=subAt l b x.2) with
  | some x=>above x.1 x.2
  | none=>false
theorem cell_congr {l:List Symbol} {o a b:List Int} (ha:TermOk l a) (hb:TermOk l b) {f g:Nat→Nat→Bool} {i j:Nat} (hi:i < a.length) (hj:j < b.length)
 (h:∀ p q,i≤p→j≤q→p < a.length→q < b.length→(i < p∨j < q)→f p q=g p q):cell l o a b f i j=cell l o a b g i j:=by
 have h1:(q3n l a i).any (fun p=>decide (subAt l a p=subAt l b j)||f p j)=(q3n l a i).any (fun p=>decide (subAt l a p=subAt l b j)||g p j):=by
  rw [Bool.eq_iff_iff,List.any_eq_true,List.any_eq_true]
  constructor
  · rintro ⟨p,hp,h1⟩
    have:=q5s ha hi hp
    exact ⟨p,hp,by rw [← h p j (by omega) (Nat.le_refl _) this.2 hj (.inl this.1)]; exact h1⟩
  · rintro ⟨p,hp,h1⟩
    have:=q5s ha hi hp
    exact ⟨p,hp,by rw [h p j (by omega) (Nat.le_refl _) this.2 hj (.inl this.1)]; exact h1⟩
 have h2:(q3n l b j).any (fun q => !f i q)=(q3n l b j).any (fun q => !g i q):=by
  rw [Bool.eq_iff_iff,List.any_eq_true,List.any_eq_true]
  constructor
  · rintro ⟨p,hp,h1⟩
    have:=q5s hb hj hp
    exact ⟨p,hp,by rw [← h i p (Nat.le_refl _) (by omega) hi this.2 (.inr this.1)]; exact h1⟩
  · rintro ⟨p,hp,h1⟩
    have:=q5s hb hj hp
    exact ⟨p,hp,by rw [h i p (Nat.le_refl _) (by omega) hi this.2 (.inr this.1)]; exact h1⟩
 unfold cell
 rw [h1,h2]
 cases hf:((q3n l a i).zip (q3n l b j)).find? fun x => !decide (subAt l a x.1=subAt l b x.2) with
 | none=>rfl
 | some x =>
   have hm:=List.mem_of_find?_eq_some hf
   have hm1:=q5s ha hi (List.of_mem_zip hm).1
   have hm2:=q5s hb hj (List.of_mem_zip hm).2
   simp only [h x.1 x.2 (by omega) (by omega) hm1.2 hm2.2 (.inl hm1.1)]
def gtN (l:List Symbol) (o a b:List Int):Nat→Nat→Nat→Bool
 | 0,_,_=>false
 | n+1,i,j=>cell l o a b (gtN l o a b n) i j
def gt (l:List Symbol) (o a b:List Int) (i j:Nat):Bool:=gtN l o a b (a.length+b.length+1) i j
theorem gtN_stable {l:List Symbol} {o a b:List Int} (ha:TermOk l a) (hb:TermOk l b):∀ (d n m i j:Nat),i < a.length→j < b.length→(a.length - i)+(b.length - j)≤d→d < n→d < m→gtN l o a b n i j=gtN l o a b m i j:=by
 intro d
 induction d with
 | zero=>intros; omega
 | succ d ih =>
   intro n m i j hi hj hd hn hm
   obtain ⟨n,rfl⟩:∃ q,n=q+1:=⟨n - 1,by omega⟩
   obtain ⟨m,rfl⟩:∃ q,m=q+1:=⟨m - 1,by omega⟩
   rw [gtN,gtN]
   exact cell_congr ha hb hi hj fun p q h1 h2 h3 h4 h5=>ih n m p q h3 h4 (by omega) (by omega) (by omega)
theorem gt_eq {l:List Symbol} {o a b:List Int} (ha:TermOk l a) (hb:TermOk l b) {i j:Nat} (hi:i < a.length) (hj:j < b.length):gt l o a b i j=cell l o a b (gt l o a b) i j:=by
 show gtN l o a b (a.length+b.length+1) i j=_
 rw [gtN]
 exact cell_congr ha hb hi hj fun p q h1 h2 h3 h4 h5=>gtN_stable ha hb ((a.length - p)+(b.length - q)) _ _ p q h3 h4 (Nat.le_refl _) (by omega) (by omega)
def ints (l:List Nat):List Int:=l.map fun (n:Nat)=>(n:Int)
section
variable {l:List Symbol} (ok:SigOk ⟨l⟩)
include ok
theorem q0w {t:List Int} (ht:TermOk l t) {p:Nat} (hp:p < t.length):Call F.q0w [.agg [slc l],slc t,.int .i64 p] (slc (ints (q3n l t p))):=by
 have hle:=ht.le
 have har:=ar_le (l:=l) ok t[p]
 refine q0m rfl 4 ((q0w.ev _ _ _ _).trans ?_)
 simp only [evz,Nat.reduceLT,hp,List.getElem?_eq_getElem,q1x,(q6s ok t[p] (ht.node _ (List.getElem_mem hp))).eq]
 rw [q0o (by omega)]
 have loop:∀ n k q f (out:List Int) r,k+n=ar l t[p]→n < f→skip (ar l) n (t.drop q)=some r→out.length=k →
  q0w.at0 4 f (q0w.st0 (cells t) (q:Nat) (ar l t[p]:Nat) (k:Nat) (cells l) (cells out))=some (slc (out++ints (q73 l t n q)),[]):=by
  intro n
  induction n with
  | zero =>
    intro k q f out r hk hf hs ho
    obtain ⟨f,rfl⟩:∃ x,f=x+1:=⟨f - 1,by omega⟩
    have:¬ k < ar l t[p]:=by omega
    simp only [q0w.next0,q0w.round0,evz,Nat.reduceLT,this,q73,ints,List.map_nil,List.append_nil]
  | succ n ih =>
    intro k q f out r hk hf hs ho
    obtain ⟨f,rfl⟩:∃ x,f=x+1:=⟨f - 1,by omega⟩
    obtain ⟨h1,h2,h3,h4⟩:=skip_one hs
    have hlt:k < ar l t[p]:=by omega
    simp only [q0w.next0,q0w.round0,evz,Nat.reduceLT,hlt,(endOf_at ok ht h1).eq,q40]
    rw [q16 (q4p (by rw [q0s,q3r]; omega)),q0o (by omega)]
    by_cases hn:n=0
    · subst hn
      obtain ⟨f,rfl⟩:∃ x,f=x+1:=⟨f - 1,by omega⟩
      have:¬ k+1 < ar l t[p]:=by omega
      simp only [q0w.next0,q0w.round0,evz,Nat.reduceLT,this,q73,ints,List.map_nil,List.map_cons]
    · rw [ih (k+1) (endAt l t q) f (out++[(q:Int)]) r (by omega) (by omega) h2 (by simp [ho])]
      simp [q73,ints]
 obtain ⟨r,hr⟩:=qad ht hp
 have hd:t.getD p 0=t[p]:=q79 hp
 have:=loop (ar l t[p]) 0 (p+1) 4 [] r (by omega) (by omega) hr (by simp)
 unfold q3n
 rw [hd]
 simpa using this
end
theorem mpAt_map:∀ (l:List (Int × Int × Bool)) (a b:Int) (i j:Nat),(mpAt l a b i).map (·.2)=(mpAt l a b j).map (·.2)
 | [],_,_,_,_=>rfl
 | (x,y,v)::r,a,b,i,j=>by
   rw [mpAt,mpAt]
   cases (a == x&&b == y) with
   | true=>rfl
   | false=>exact mpAt_map r a b (i+1) (j+1)
theorem q9r (x y:Int) (v:Bool) (r:List (Int × Int × Bool)) (a b:Int):q90 ((x,y,v)::r) a b=bif a == x&&b == y then some v else q90 r a b:=by
 unfold q90
 rw [mpAt]
 cases (a == x&&b == y) with
 | true=>rfl
 | false=>exact mpAt_map r a b 1 0
theorem mpFind_put:∀ (l:List (Int × Int × Bool)) (x y:Int) (v:Bool) (a b:Int),q90 (mpPut l x y v) a b=bif a == x&&b == y then some v else q90 l a b
 | [],x,y,v,a,b=>by rw [mpPut,q9r]
 | (x',y',v')::r,x,y,v,a,b=>by
   rw [mpPut]
   cases h:(x == x'&&y == y') with
   | true =>
     simp only [Bool.and_eq_true,beq_iff_eq] at h
     obtain ⟨rfl,rfl⟩:=h
     rw [cond_true,q9r,q9r]
     cases (a == x&&b == y) <;> rfl
   | false =>
     rw [cond_false,q9r,q9r,mpFind_put r]
     cases h1:(a == x'&&b == y') with
     | false=>rfl
     | true =>
       cases h2:(a == x&&b == y) with
       | false=>rfl
       | true =>
         simp only [Bool.and_eq_true,beq_iff_eq] at h1 h2
         obtain ⟨rfl,rfl⟩:=h1
         obtain ⟨rfl,rfl⟩:=h2
         simp at h
def Good (l:List Symbol) (o a b:List Int) (m:List (Int × Int × Bool)):Prop:=∀ (p q:Nat) (v:Bool),q90 m p q=some v→v=gt l o a b p q
theorem Good.put {l:List Symbol} {o a b:List Int} {m:List (Int × Int × Bool)} (h:Good l o a b m) (i j:Nat):Good l o a b (mpPut m i j (gt l o a b i j)):=fun p q v hv=>by
 rw [mpFind_put] at hv
 cases hc:(((p:Int) == (i:Int))&&((q:Int) == (j:Int))) with
 | true =>
   rw [hc,cond_true] at hv
   simp only [Bool.and_eq_true,beq_iff_eq,Int.ofNat_inj] at hc
   obtain ⟨rfl,rfl⟩:=hc
   exact (Option.some.inj hv).symm
 | false=>rw [hc,cond_false] at hv; exact h p q v hv
abbrev boxI (l:List Symbol) (o a b:List Int) (m:List (Int × Int × Bool)):T := .rref [slc l,slc o,slc a,slc b,.mp m] 0
abbrev boxO (l:List Symbol) (o a b:List Int) (m:List (Int × Int × Bool)):T := .agg [slc l,slc o,slc a,slc b,.mp m]
theorem q9u (l:List Symbol) (t:List Int) (p:Nat):(subAt l t p).length≤t.length:=by simp [subAt]; omega
section
variable {l:List Symbol} (ok:SigOk ⟨l⟩) {o a b:List Int} (ha:TermOk l a) (hb:TermOk l b)
include ok ha hb
theorem q4h (m:List (Int × Int × Bool)) {p q:Nat} (hp:p < a.length) (hq:q < b.length) :
 LIM F.q4h [boxI l o a b m,.int .i64 p,.int .i64 q]=some (.bool (decide (subAt l a p=subAt l b q)),[boxO l o a b m]):=by
 refine q5r rfl 0 ((q4h.ev _ _ _ _ _ _ _ _).trans ?_)
 have h1:=q9u l a p
 have h2:=ha.le
 simp only [evz,Nat.reduceLT,(q3h ok ha hp).eq,(q3h ok hb hq).eq,(q0q (subAt l a p) (subAt l b q) (⟨by omega,fun _ _=>trivial⟩)).eq]
omit ok ha hb in
theorem idx_bound (p:Int→Bool) (l:List Int) : -1≤idx p l∧idx p l≤l.length:=by
 rcases q7w p l with ⟨h,_⟩ | ⟨i,hi,h,_⟩ <;> omega
def Knows (l:List Symbol) (o a b:List Int) (i j:Nat):Prop:=∀ m,Good l o a b m→∃ m',Good l o a b m' ∧
 LIM F.q3k [boxI l o a b m,.int .i64 i,.int .i64 j]=some (.bool (gt l o a b i j),[boxO l o a b m'])
omit ok ha hb in
theorem q7o {A:List Nat} {k:Nat} (h:k < A.length):(ints A)[k]?=some ((A[k]:Nat):Int):=by simp [ints,h]
omit ok ha hb in
theorem q46 (A:List Nat):(ints A).length=A.length:=by simp [ints]
theorem loop4 {A B:List Nat} (hA:∀ p∈A,p < a.length) (hB:∀ q∈B,q < b.length) (hAB:A.length=B.length) (hle:A.length≤2) (ih:∀ p∈A,∀ q∈B,Knows l o a b p q) :
 ∀ n k f m,k+n=A.length→n < f→Good l o a b m→∃ m',Good l o a b m' ∧
  q01.at4 8 f (q01.st4 (A.length:Nat) (k:Nat) (cells l) (cells o) (cells a) (cells b) m (cells (ints A)) (cells (ints B))) =
   some (.bool (match ((A.drop k).zip (B.drop k)).find? fun x => !decide (subAt l a x.1=subAt l b x.2) with | some x=>gt l o a b x.1 x.2 | none=>false),[boxO l o a b m']):=by
 intro n
 induction n with
 | zero =>
   intro k f m hk hf hm
   obtain ⟨f,rfl⟩:∃ x,f=x+1:=⟨f - 1,by omega⟩
   have:¬ k < A.length:=by omega
   refine ⟨m,hm,?_⟩
   simp only [q01.next4,q01.round4,evz,Nat.reduceLT,this,List.drop_of_length_le (show A.length≤k by omega),List.zip_nil_left,List.find?_nil]
 | succ n ihn =>
   intro k f m hk hf hm
   obtain ⟨f,rfl⟩:∃ x,f=x+1:=⟨f - 1,by omega⟩
   have hkA:k < A.length:=by omega
   have hkB:k < B.length:=by omega
   have hs:=q4h ok ha hb (o:=o) m (hA _ (List.getElem_mem hkA)) (hB _ (List.getElem_mem hkB))
   rw [List.drop_eq_getElem_cons hkA,List.drop_eq_getElem_cons hkB,List.zip_cons_cons,List.find?_cons]
   by_cases e:subAt l a A[k]=subAt l b B[k]
   · obtain ⟨m',hm',h'⟩:=ihn (k+1) f m (by omega) (by omega) hm
     refine ⟨m',hm',?_⟩
     simp only [q01.next4,q01.round4,evz,Nat.reduceLT,hkA,hkB,q7o,q46,q1x,hs,e,T.isMp,T.mpL,Bool.not_true]
     rw [q0o (by omega)]
     exact h'
   · obtain ⟨m',hm',h'⟩:=ih _ (List.getElem_mem hkA) _ (List.getElem_mem hkB) m hm
     refine ⟨m',hm',?_⟩
     simp only [q01.next4,q01.round4,evz,Nat.reduceLT,hkA,hkB,q7o,q46,q1x,hs,e,T.isMp,T.mpL,Bool.not_false,h']
omit ok ha hb in
theorem loop2 {i:Nat} {A B:List Nat} {above:Int} {Rest:List (Int × Int × Bool)→R} (hle:B.length≤2) (ih:∀ q∈B,Knows l o a b i q)
 (hrest:∀ f m,q01.at2 8 (f+1) (q01.st2 (i:Nat) above (B.length:Nat) (B.length:Nat) (cells l) (cells o) (cells a) (cells b) m (cells (ints A)) (cells (ints B)))=Rest m) :
 ∀ n k f m,k+n=B.length→n < f→Good l o a b m→∃ m',Good l o a b m' ∧
  q01.at2 8 f (q01.st2 (i:Nat) above (B.length:Nat) (k:Nat) (cells l) (cells o) (cells a) (cells b) m (cells (ints A)) (cells (ints B))) =
   if (B.drop k).any (fun q => !gt l o a b i q) then some (.bool false,[boxO l o a b m']) else Rest m':=by
 intro n
 induction n with
 | zero =>
   intro k f m hk hf hm
   obtain ⟨f,rfl⟩:∃ x,f=x+1:=⟨f - 1,by omega⟩
   obtain rfl:k=B.length:=by omega
   refine ⟨m,hm,?_⟩
   rw [hrest,List.drop_of_length_le (Nat.le_refl _)]; rfl
 | succ n ihn =>
   intro k f m hk hf hm
   obtain ⟨f,rfl⟩:∃ x,f=x+1:=⟨f - 1,by omega⟩
   have hkB:k < B.length:=by omega
   obtain ⟨m1,hm1,h1⟩:=ih _ (List.getElem_mem hkB) m hm
   rw [List.drop_eq_getElem_cons hkB,List.any_cons]
   cases e:gt l o a b i B[k] with
   | false =>
     refine ⟨m1,hm1,?_⟩
     simp only [q01.next2,q01.round2,evz,Nat.reduceLT,hkB,q7o,q46,q1x,h1,e,T.isMp,T.mpL,Bool.not_false,Bool.true_or]
   | true =>
     obtain ⟨m',hm',h'⟩:=ihn (k+1) f m1 (by omega) (by omega) hm1
     refine ⟨m',hm',?_⟩
     simp only [q01.next2,q01.round2,evz,Nat.reduceLT,hkB,q7o,q46,q1x,h1,e,T.isMp,T.mpL,Bool.not_true,Bool.false_or]
     rw [q0o (by omega)]
     exact h'
theorem loop0 {i j:Nat} {x y:Int} {A B:List Nat} {Rest:List (Int × Int × Bool)→R} (hj:j < b.length) (hA:∀ p∈A,p < a.length) (hle:A.length≤2) (ih:∀ p∈A,Knows l o a b p j)
 (hrest:∀ f m,q01.at0 8 (f+1) (q01.st0 (i:Nat) (j:Nat) x y (A.length:Nat) (A.length:Nat) (cells l) (cells o) (cells a) (cells b) m (cells (ints A)) (cells (ints B)))=Rest m) :
 ∀ n k f m,k+n=A.length→n < f→Good l o a b m→∃ m',Good l o a b m' ∧
  q01.at0 8 f (q01.st0 (i:Nat) (j:Nat) x y (A.length:Nat) (k:Nat) (cells l) (cells o) (cells a) (cells b) m (cells (ints A)) (cells (ints B))) =
   if (A.drop k).any (fun p=>decide (subAt l a p=subAt l b j)||gt l o a b p j) then some (.bool true,[boxO l o a b m']) else Rest m':=by
 intro n
 induction n with
 | zero =>
   intro k f m hk hf hm
   obtain ⟨f,rfl⟩:∃ x,f=x+1:=⟨f - 1,by omega⟩
   obtain rfl:k=A.length:=by omega
   refine ⟨m,hm,?_⟩
   rw [hrest,List.drop_of_length_le (Nat.le_refl _)]; rfl
 | succ n ihn =>
   intro k f m hk hf hm
   obtain ⟨f,rfl⟩:∃ x,f=x+1:=⟨f - 1,by omega⟩
   have hkA:k < A.length:=by omega
   have hs:=q4h ok ha hb (o:=o) m (hA _ (List.getElem_mem hkA)) hj
   rw [List.drop_eq_getElem_cons hkA,List.any_cons]
   by_cases e:subAt l a A[k]=subAt l b j
   · refine ⟨m,hm,?_⟩
     simp only [q01.next0,q01.round0,evz,Nat.reduceLT,hkA,q7o,q46,q1x,hs,e,T.isMp,T.mpL,Bool.true_or]
   · obtain ⟨m1,hm1,h1⟩:=ih _ (List.getElem_mem hkA) m hm
     cases e2:gt l o a b A[k] j with
     | true =>
       refine ⟨m1,hm1,?_⟩
       simp only [q01.next0,q01.round0,evz,Nat.reduceLT,hkA,q7o,q46,q1x,hs,e,h1,e2,T.isMp,T.mpL,Bool.true_or,Bool.or_true]
     | false =>
       obtain ⟨m',hm',h'⟩:=ihn (k+1) f m1 (by omega) (by omega) hm1
       refine ⟨m',hm',?_⟩
       simp only [q01.next0,q01.round0,evz,Nat.reduceLT,hkA,q7o,q46,q1x,hs,e,h1,e2,T.isMp,T.mpL,Bool.false_or,Bool.or_false]
       rw [q0o (by omega)]
       exact h'
omit ok ha hb in
theorem rank_inj {x y:Int} (hx:x∈o) (h:rank o x=rank o y):x=y:=by
 unfold rank at h
 rcases q7w (fun z:Int=>decide (z=x)) o with ⟨h1,hno⟩ | ⟨i,hi,h1,hy1,_⟩
 · have:=hno x hx; simp at this
 · rcases q7w (fun z:Int=>decide (z=y)) o with ⟨h2,_⟩ | ⟨i',hi',h2,hy2,_⟩
   · omega
   · have:i=i':=by omega
     subst this
     simp at hy1 hy2
     rw [← hy1,← hy2]
omit ok ha hb in
theorem qa6 (ok:SigOk ⟨l⟩) (t:List Int) (p:Nat):(q3n l t p).length≤2:=by
 unfold q3n; rw [q62]; exact ar_le ok _
theorem q01 (hol:o.length≤1048576) (ho:∀ n:Int,0≤n→n < l.length→n∈o) {i j:Nat} (hi:i < a.length) (hj:j < b.length)
 (ih:∀ p q,i≤p→j≤q→p < a.length→q < b.length→(i < p∨j < q)→Knows l o a b p q) (m:List (Int × Int × Bool)) (hm:Good l o a b m):∃ m',Good l o a b m' ∧
  LIM F.q01 [boxI l o a b m,.int .i64 i,.int .i64 j]=some (.bool (cell l o a b (gt l o a b) i j),[boxO l o a b m']):=by
 have hai:a.getD i 0=a[i]:=q79 hi
 have hbj:b.getD j 0=b[j]:=q79 hj
 have hla:=ha.le
 have hlb:=hb.le
 have hsl:=q9u l a i
 unfold cell
 rw [hai,hbj]
 by_cases hy:b[j] < 0
 · refine ⟨m,hm,q5r rfl 8 ((q01.ev _ _ _ _ _ _ _ _).trans ?_)⟩
   by_cases hx:0≤a[i]
   · have hx':a[i] ≥ 0:=hx
     simp only [evz,Nat.reduceLT,hi,hj,List.getElem?_eq_getElem,q1x,hy,hx',hx,(q3h ok ha hi).eq,(q1i (subAt l a i) b[j] (by omega)).eq,Bool.true_and]
   · have hx':¬ a[i] ≥ 0:=hx
     simp only [evz,Nat.reduceLT,hi,hj,List.getElem?_eq_getElem,q1x,hy,hx',hx,Bool.false_and]
 by_cases hx:a[i] < 0
 · refine ⟨m,hm,q5r rfl 8 ((q01.ev _ _ _ _ _ _ _ _).trans ?_)⟩
   simp only [evz,Nat.reduceLT,hi,hj,List.getElem?_eq_getElem,q1x,hy,hx]
 have hA:∀ p∈q3n l a i,i < p∧p < a.length:=fun p hp=>q5s ha hi hp
 have hB:∀ q∈q3n l b j,j < q∧q < b.length:=fun q hq=>q5s hb hj hq
 have hAl:=qa6 ok a i
 have hBl:=qa6 ok b j
 have rx : -1≤rank o a[i]∧rank o a[i]≤o.length:=idx_bound _ o
 have ry : -1≤rank o b[j]∧rank o b[j]≤o.length:=idx_bound _ o
 have ix:Call F.q0f [slc o,.int .i64 a[i]] (.int .i64 (rank o a[i])):=q0f o a[i] (by omega)
 have iy:Call F.q0f [slc o,.int .i64 b[j]] (.int .i64 (rank o b[j])):=q0f o b[j] (by omega)
 have hw:IntKind.wrap .i64 (rank o a[i] - rank o b[j])=rank o a[i] - rank o b[j]:=q3e (by omega)
 generalize hAA:q3n l a i=A at hA hAl
 generalize hBB:q3n l b j=B at hB hBl
 let Rest2:List (Int × Int × Bool)→R:=fun m=>if rank o b[j] < rank o a[i] then some (.bool true,[boxO l o a b m]) else
  q01.at4 8 8 (q01.st4 (A.length:Nat) 0 (cells l) (cells o) (cells a) (cells b) m (cells (ints A)) (cells (ints B)))
 let Rest0:List (Int × Int × Bool)→R:=fun m=>if rank o a[i] < rank o b[j] then some (.bool false,[boxO l o a b m]) else
  q01.at2 8 8 (q01.st2 (i:Nat) (rank o a[i] - rank o b[j]) (B.length:Nat) 0 (cells l) (cells o) (cells a) (cells b) m (cells (ints A)) (cells (ints B)))
 obtain ⟨m0,hm0,e0⟩:=loop0 ok ha hb (o:=o) (i:=i) (j:=j) (x:=a[i]) (y:=b[j]) (A:=A) (B:=B) (Rest:=Rest0) hj (fun p hp=>(hA p hp).2) hAl
  (fun p hp=>ih p j (by have:=hA p hp; omega) (Nat.le_refl _) (hA p hp).2 hj (.inl (hA p hp).1)) (fun f m=>by
   simp only [q01.next0,q01.round0,evz,Nat.reduceLT,Nat.lt_irrefl,ix.eq,iy.eq,hw,q46,Rest0]
   by_cases hr:rank o a[i] < rank o b[j]
   · rw [if_pos (by omega),if_pos hr]
   · rw [if_neg (by omega),if_neg hr]) A.length 0 8 m (by omega) (by omega) hm
 have hmain:callK prog Ev.A H LIM 8 F.q01 [boxI l o a b m,.int .i64 i,.int .i64 j]=if A.any (fun p=>decide (subAt l a p=subAt l b j)||gt l o a b p j)=true then some (.bool true,[boxO l o a b m0]) else Rest0 m0:=by
  refine (q01.ev _ _ _ _ _ _ _ _).trans ?_
  simp only [evz,Nat.reduceLT,hi,hj,List.getElem?_eq_getElem,q1x,hy,hx,(q0w ok ha hi).eq,(q0w ok hb hj).eq,hAA,hBB,q46]
  simpa using e0
 by_cases c1:A.any (fun p=>decide (subAt l a p=subAt l b j)||gt l o a b p j)=true
 · refine ⟨m0,hm0,q5r rfl 8 (hmain.trans ?_)⟩
   simp only [c1,hy,hx,if_true,if_false]
 rw [if_neg c1] at hmain
 by_cases c2:rank o a[i] < rank o b[j]
 · refine ⟨m0,hm0,q5r rfl 8 (hmain.trans ?_)⟩
   simp only [Rest0,c1,c2,hy,hx,if_true,if_false]
   rfl
 obtain ⟨m2,hm2,e2⟩:=loop2 (o:=o) (a:=a) (b:=b) (l:=l) (i:=i) (A:=A) (B:=B) (above:=rank o a[i] - rank o b[j]) (Rest:=Rest2) hBl
  (fun q hq=>ih i q (Nat.le_refl _) (by have:=hB q hq; omega) hi (hB q hq).2 (.inr (hB q hq).1)) (fun f m=>by
   simp only [q01.next2,q01.round2,evz,Nat.reduceLT,Nat.lt_irrefl,q46,Rest2]
   by_cases hr:rank o b[j] < rank o a[i]
   · rw [if_pos (by omega),if_pos hr]
   · rw [if_neg (by omega),if_neg hr]) B.length 0 8 m0 (by omega) (by omega) hm0
 have hmain2:callK prog Ev.A H LIM 8 F.q01 [boxI l o a b m,.int .i64 i,.int .i64 j]=if B.any (fun q => !gt l o a b i q)=true then some (.bool false,[boxO l o a b m2]) else Rest2 m2:=by
  rw [hmain]
  simp only [Rest0,if_neg c2]
  simpa using e2
 by_cases c3:B.any (fun q => !gt l o a b i q)=true
 · refine ⟨m2,hm2,q5r rfl 8 (hmain2.trans ?_)⟩
   simp only [c1,c2,c3,hy,hx,if_true,if_false]
   rfl
 rw [if_neg c3] at hmain2
 by_cases c4:rank o b[j] < rank o a[i]
 · refine ⟨m2,hm2,q5r rfl 8 (hmain2.trans ?_)⟩
   simp only [Rest2,c1,c2,c3,c4,hy,hx,if_true,if_false]
   rfl
 have hxy:a[i]=b[j]:=by
  have n1:=q5b.1 (ha.node _ (List.getElem_mem hi))
  have n2:=q5b.1 (hb.node _ (List.getElem_mem hj))
  exact rank_inj (ho _ (by omega) (by omega)) (by omega)
 have hAB:A.length=B.length:=by
  rw [← hAA,← hBB]; unfold q3n
  rw [q62,q62,hai,hbj,hxy]
 obtain ⟨m4,hm4,e4⟩:=loop4 ok ha hb (o:=o) (A:=A) (B:=B) (fun p hp=>(hA p hp).2) (fun q hq=>(hB q hq).2) hAB hAl
  (fun p hp q hq=>ih p q (by have:=hA p hp; omega) (by have:=hB q hq; omega) (hA p hp).2 (hB q hq).2 (.inl (hA p hp).1)) A.length 0 8 m2 (by omega) (by omega) hm2
 refine ⟨m4,hm4,q5r rfl 8 (hmain2.trans ?_)⟩
 simp only [Rest2,c1,c2,c3,c4,hy,hx,if_true,if_false]
 simpa using e4
theorem knows (hol:o.length≤1048576) (ho:∀ n:Int,0≤n→n < l.length→n∈o):∀ (d i j:Nat),i < a.length→j < b.length→(a.length - i)+(b.length - j)≤d→Knows l o a b i j:=by
 intro d
 induction d with
 | zero=>intros; omega
 | succ d ihd =>
   intro i j hi hj hd m hm
   cases hf:q90 m (i:Int) (j:Int) with
   | some v =>
     refine ⟨m,hm,q5r rfl 0 ((q3k.ev _ _ _ _ _ _ _ _).trans ?_)⟩
     have:=hm i j v hf
     simp only [hf,Option.isSome_some,Option.getD_some,cond_true,this,qam,sz_Symbol,q3r]
   | none =>
     obtain ⟨m',hm',h'⟩:=q01 ok ha hb hol ho hi hj (fun p q h1 h2 h3 h4 h5=>ihd p q h3 h4 (by omega)) m hm
     rw [← gt_eq ha hb hi hj] at h'
     refine ⟨_,hm'.put i j,q5r rfl 0 ((q3k.ev _ _ _ _ _ _ _ _).trans ?_)⟩
     simp only [evz,Nat.reduceLT,hf,Option.isSome_none,h',T.isMp,T.mpL]
theorem q6z (hol:o.length≤1048576) (ho:∀ n:Int,0≤n→n < l.length→n∈o):Call F.q6z [.agg [slc l],slc o,slc a,slc b] (.bool (gt l o a b 0 0)):=by
 have h1:=ha.pos
 have h2:=hb.pos
 obtain ⟨m',_,h'⟩:=knows ok ha hb hol ho (a.length+b.length) 0 0 (by omega) (by omega) (by omega) [] (fun p q v hv=>by simp [q90,mpAt] at hv)
 refine q0m rfl 0 ((q6z.ev _ _ _ _ _).trans ?_)
 have h':LIM F.q3k [boxI l o a b [],.int .i64 0,.int .i64 0]=some (.bool (gt l o a b 0 0),[boxO l o a b m']):=h'
 simp only [evz,Nat.reduceLT,h',T.isMp,T.mpL]
end
theorem q2p (o:List Int) (x:Int) (hl:o.length≤4294967296):Call F.q2p [slc o,.int .i64 x] (.int .i64 (rank o x)):=by
 refine q0m rfl (o.length+1) ((q2p.ev _ _ _).trans ?_)
 refine q85 (S:=fun m k=>q2p.at0 (o.length+1) m (q2p.st0 (cells o) x (k:Nat))) (fun m k h => ?_) (fun m => ?_) (Nat.lt_succ_self _)
 · have hlk:o[k]?=some o[k]:=List.getElem?_eq_getElem h
   simp only [q2p.next0,q2p.round0,evz,Nat.reduceLT,h,hlk,q1x,decide_eq_true_eq]
   rw [q0o (by omega)]
 · simp only [q2p.next0,q2p.round0,evz,Nat.reduceLT,Nat.lt_irrefl]
section
variable {l:List Symbol} (ok:SigOk ⟨l⟩)
include ok
theorem q1w {t:List Int} (ht:TermOk l t) {p:Nat} (hp:p < t.length) (hn:0≤t[p]):Call F.q1w [.rref [slc l] 0,slc t,.int .i64 p] (slc (ints (q3n l t p))):=by
 have hle:=ht.le
 have har:=ar_le (l:=l) ok t[p]
 have hnode:=q5b.1 (ht.node _ (List.getElem_mem hp))
 have hls:l.length≤6:=ok.le
 obtain ⟨u,hu⟩:∃ u:Nat,t[p]=u:=⟨t[p].toNat,by omega⟩
 have hul:u < l.length:=by omega
 have hare:(l[u]).arity=(ar l t[p]:Nat):=by
  have:=ar_eq ok (n:=t[p]) hn (by rw [hu]; simpa using hul)
  simpa [hu] using this
 refine q0m rfl 4 ((q1w.ev _ _ _ _).trans ?_)
 rw [q0o (by omega)]
 have loop:∀ n k q f (out:List Int) r,k+n=ar l t[p]→n < f→skip (ar l) n (t.drop q)=some r→out.length=k →
  q1w.at0 4 f (q1w.st0 (cells l) (cells t) (p:Nat) (q:Nat) (k:Nat) (cells out))=some (slc (out++ints (q73 l t n q)),[]):=by
  intro n
  induction n with
  | zero =>
    intro k q f out r hk hf hs ho
    obtain ⟨f,rfl⟩:∃ x,f=x+1:=⟨f - 1,by omega⟩
    have:¬ k < ar l t[p]:=by omega
    simp only [q1w.next0,q1w.round0,evz,Nat.reduceLT,hp,List.getElem?_eq_getElem,q1x,hu,hul,q53,hare,q73,ints,List.map_nil,List.append_nil]
    rw [← hu,if_neg this]
  | succ n ih =>
    intro k q f out r hk hf hs ho
    obtain ⟨f,rfl⟩:∃ x,f=x+1:=⟨f - 1,by omega⟩
    obtain ⟨h1,h2,h3,h4⟩:=skip_one hs
    have hlt:k < ar l t[p]:=by omega
    simp only [q1w.next0,q1w.round0,evz,Nat.reduceLT,hp,List.getElem?_eq_getElem,q1x,hu,hul,q53,hare,(l3End_at ok ht h1).eq,q40]
    rw [← hu,if_pos hlt,q16 (q4p (by rw [q0s,q3r]; omega)),q0o (by omega),ih (k+1) (endAt l t q) f (out++[(q:Int)]) r (by omega) (by omega) h2 (by simp [ho])]
    simp [q73,ints]
 obtain ⟨r,hr⟩:=qad ht hp
 have hd:t.getD p 0=t[p]:=q79 hp
 have:=loop (ar l t[p]) 0 (p+1) 4 [] r (by omega) (by omega) hr (by simp)
 unfold q3n
 rw [hd]
 simpa using this
theorem q6r {a b:List Int} (ha:TermOk l a) (hb:TermOk l b) {i j:Nat} (hi:i < a.length) (hj:j < b.length):Call F.q6r [.rref [slc l] 0,slc a,.int .i64 i,slc b,.int .i64 j] (.bool (decide (subAt l a i=subAt l b j))):=by
 refine q0m rfl 0 ((q6r.ev _ _ _ _ _ _).trans ?_)
 obtain ⟨h1,h2,_⟩:=q4s ha hi
 obtain ⟨h3,h4,_⟩:=q4s hb hj
 have h5:=q9u l a i
 have h6:=ha.le
 have hs:=(q26 (subAt l a i) (subAt l b j) ⟨by omega,fun _ _=>trivial⟩).eq
 simp only [evz,Nat.reduceLT,(l3End_at ok ha hi).eq,(l3End_at ok hb hj).eq]
 rw [q16 (by simp; omega),q16 (by simp; omega),qan,qan]
 unfold subAt at hs ⊢
 simp only [hs,evz,Nat.reduceLT]
omit ok in
theorem sz_bool:Enc.sz Bool=1:=rfl
omit ok in
theorem enc_bool (b:Bool):enc b=[.bool b]:=rfl
omit ok in
theorem bget {T:List Bool} {k:Nat} (h:k < T.length):(cells T)[k*1]?=some (.bool (T.getD k false)):=by
 rw [get0 (l:=T) (k:=1) (i:=k) rfl,List.getElem?_eq_getElem h,List.getD_eq_getElem?_getD,List.getElem?_eq_getElem h]; rfl
omit ok in
theorem bgetD {T:List Bool} {k:Nat} (h:k < T.length):T[k]?=some (T.getD k false):=by
 rw [List.getElem?_eq_getElem h,List.getD_eq_getElem?_getD,List.getElem?_eq_getElem h]; rfl
omit ok in
theorem qaw {i j la lb:Nat} (hi:i < la) (hj:j < lb):i*lb+j < la*lb:=by
 have:i*lb+lb≤la*lb:=by rw [← Nat.succ_mul]; exact Nat.mul_le_mul_right _ hi
 omega
omit ok in
theorem at_wrap {i j la lb:Nat} (hi:i < la) (hj:j < lb) (ha:la≤24) (hb:lb≤24):IntKind.wrap .i64 (IntKind.wrap .i64 ((i:Int)*(lb:Int))+(j:Int))=((i*lb+j:Nat):Int):=by
 have h1:=qaw hi hj
 have h2:la*lb≤24*24:=Nat.mul_le_mul ha hb
 have e1:IntKind.wrap .i64 ((i:Int)*(lb:Int))=((i*lb:Nat):Int):=by rw [← Int.natCast_mul]; exact q3e (by omega)
 rw [e1,← Int.natCast_add]; exact q3e (by omega)
section
variable {o a b:List Int} (ha:TermOk l a) (hb:TermOk l b) {T:List Bool} (hT:T.length=a.length*b.length)
include ha hb hT
theorem cell4 {A B:List Nat} (hAl:A.length≤2) (hA:∀ p∈A,p < a.length) (hB:∀ q∈B,q < b.length) :
 ∀ n k f,k+n=A.length→n < f →
  q0n.at4 8 f (q0n.st4 (cells l) (cells a) (cells b) (cells T) (b.length:Nat) (k:Nat) (cells (ints A)) (cells (ints B))) =
   some (.bool (match ((A.drop k).zip (B.drop k)).find? fun x => !decide (subAt l a x.1=subAt l b x.2) with | some x=>T.getD (x.1*b.length+x.2) false | none=>false),[]):=by
 have hla:=ha.le
 have hlb:=hb.le
 intro n
 induction n with
 | zero =>
   intro k f hk hf
   obtain ⟨f,rfl⟩:∃ x,f=x+1:=⟨f - 1,by omega⟩
   have:¬ k < A.length:=by omega
   simp only [q0n.next4,q0n.round4,evz,Nat.reduceLT,q46,this,List.drop_of_length_le (show A.length≤k by omega),List.zip_nil_left,List.find?_nil]
 | succ n ihn =>
   intro k f hk hf
   obtain ⟨f,rfl⟩:∃ x,f=x+1:=⟨f - 1,by omega⟩
   have hkA:k < A.length:=by omega
   by_cases hkB:k < B.length
   · have hp:=hA _ (List.getElem_mem hkA)
     have hq:=hB _ (List.getElem_mem hkB)
     have hs:=(q6r ok ha hb hp hq).eq
     rw [List.drop_eq_getElem_cons hkA,List.drop_eq_getElem_cons hkB,List.zip_cons_cons,List.find?_cons]
     by_cases e:subAt l a A[k]=subAt l b B[k]
     · have:=ihn (k+1) f (by omega) (by omega)
       simp only [q0n.next4,q0n.round4,evz,Nat.reduceLT,hkA,hkB,q7o,q46,q1x,hs,e,Bool.not_true]
       rw [q0o (by omega)]
       exact this
     · have hin:A[k]*b.length+B[k] < T.length:=by rw [hT]; exact qaw hp hq
       simp only [q0n.next4,q0n.round4,evz,Nat.reduceLT,hkA,hkB,q7o,q46,q1x,hs,e,Bool.not_false,at_wrap hp hq hla hlb,hin,bgetD hin,enc_bool,sz_bool]
   · simp only [q0n.next4,q0n.round4,evz,Nat.reduceLT,hkA,hkB,q7o,q46,List.drop_of_length_le (show B.length≤k by omega),List.zip_nil_right,List.find?_nil]
omit ok in
theorem cell2 {i j:Nat} {A B:List Nat} {Rest:R} (hi:i < a.length) (hB:∀ q∈B,q < b.length) (hBl:B.length≤2)
 (hrest:∀ f,q0n.at2 8 (f+1) (q0n.st2 (cells l) (cells a) (cells b) (i:Nat) (j:Nat) (cells T) (b.length:Nat) (B.length:Nat) (cells (ints A)) (cells (ints B)))=Rest) :
 ∀ n k f,k+n=B.length→n < f →
  q0n.at2 8 f (q0n.st2 (cells l) (cells a) (cells b) (i:Nat) (j:Nat) (cells T) (b.length:Nat) (k:Nat) (cells (ints A)) (cells (ints B))) =
   if (B.drop k).any (fun q => !T.getD (i*b.length+q) false) then some (.bool false,[]) else Rest:=by
 have hla:=ha.le
 have hlb:=hb.le
 intro n
 induction n with
 | zero =>
   intro k f hk hf
   obtain ⟨f,rfl⟩:∃ x,f=x+1:=⟨f - 1,by omega⟩
   obtain rfl:k=B.length:=by omega
   rw [hrest,List.drop_of_length_le (Nat.le_refl _)]; rfl
 | succ n ihn =>
   intro k f hk hf
   obtain ⟨f,rfl⟩:∃ x,f=x+1:=⟨f - 1,by omega⟩
   have hkB:k < B.length:=by omega
   have hq:=hB _ (List.getElem_mem hkB)
   have hin:i*b.length+B[k] < T.length:=by rw [hT]; exact qaw hi hq
   have:=ihn (k+1) f (by omega) (by omega)
   rw [List.drop_eq_getElem_cons hkB,List.any_cons]
   simp only [q0n.next2,q0n.round2,evz,Nat.reduceLT,hkB,q7o,q46,q1x,at_wrap hi hq hla hlb,hin,bgetD hin,enc_bool,sz_bool]
   cases T.getD (i*b.length+B[k]) false with
   | false=>simp
   | true =>
     rw [q0o (by omega)]
     simp only [evz,Nat.reduceLT,Bool.not_true,Bool.false_or]
     exact this
theorem cell0 {o:List Int} {i j:Nat} {A:List Nat} {Rest:R} (hj:j < b.length) (hA:∀ p∈A,p < a.length) (hAl:A.length≤2)
 (hrest:∀ f,q0n.at0 8 (f+1) (q0n.st0 (cells l) (cells o) (cells a) (cells b) (i:Nat) (j:Nat) (cells T) (b.length:Nat) (A.length:Nat) (cells (ints A)))=Rest) :
 ∀ n k f,k+n=A.length→n < f →
  q0n.at0 8 f (q0n.st0 (cells l) (cells o) (cells a) (cells b) (i:Nat) (j:Nat) (cells T) (b.length:Nat) (k:Nat) (cells (ints A))) =
   if (A.drop k).any (fun p=>decide (subAt l a p=subAt l b j)||T.getD (p*b.length+j) false) then some (.bool true,[]) else Rest:=by
 have hla:=ha.le
 have hlb:=hb.le
 intro n
 induction n with
 | zero =>
   intro k f hk hf
   obtain ⟨f,rfl⟩:∃ x,f=x+1:=⟨f - 1,by omega⟩
   obtain rfl:k=A.length:=by omega
   rw [hrest,List.drop_of_length_le (Nat.le_refl _)]; rfl
 | succ n ihn =>
   intro k f hk hf
   obtain ⟨f,rfl⟩:∃ x,f=x+1:=⟨f - 1,by omega⟩
   have hkA:k < A.length:=by omega
   have hp:=hA _ (List.getElem_mem hkA)
   have hin:A[k]*b.length+j < T.length:=by rw [hT]; exact qaw hp hj
   have:=ihn (k+1) f (by omega) (by omega)
   rw [List.drop_eq_getElem_cons hkA,List.any_cons]
   simp only [q0n.next0,q0n.round0,evz,Nat.reduceLT,hkA,q7o,q46,q1x,at_wrap hp hj hla hlb,hin,bgetD hin,enc_bool,sz_bool,(q6r ok ha hb hp hj).eq]
   cases T.getD (A[k]*b.length+j) false with
   | true=>simp
   | false =>
     by_cases e:subAt l a A[k]=subAt l b j
     · simp [e]
     · rw [q0o (by omega)]
       simp only [evz,Nat.reduceLT,e,Bool.or_false,Bool.false_or]
       exact this
theorem q0n (hol:o.length≤1048576) (ho:∀ n:Int,0≤n→n < l.length→n∈o) {i j:Nat} (hi:i < a.length) (hj:j < b.length) :
 Call F.q0n [.rref [slc l] 0,slc o,slc a,slc b,.int .i64 i,.int .i64 j,slc T] (.bool (cell l o a b (fun p q=>T.getD (p*b.length+q) false) i j)):=by
 have hai:a.getD i 0=a[i]:=q79 hi
 have hbj:b.getD j 0=b[j]:=q79 hj
 have hla:=ha.le
 have hlb:=hb.le
 have hsl:=q9u l a i
 obtain ⟨h1,h2,_⟩:=q4s ha hi
 unfold cell
 rw [hai,hbj]
 refine q0m rfl 8 ((q0n.ev _ _ _ _ _ _ _ _).trans ?_)
 by_cases hy:b[j] < 0
 · by_cases hx:0≤a[i]
   · have hx':a[i] ≥ 0:=hx
     have hc:=(q21 (subAt l a i) b[j] (by omega)).eq
     have hm:decide (((List.count b[j] (subAt l a i):Nat):Int) > 0)=decide (b[j]∈subAt l a i):=by
      rw [decide_eq_decide,← List.count_pos_iff]; omega
     simp only [evz,Nat.reduceLT,hi,hj,List.getElem?_eq_getElem,q1x,hy,hx',hx,(l3End_at ok ha hi).eq,Bool.true_and]
     rw [q16 (by simp; omega),qan]
     unfold subAt at hc hm ⊢
     simp only [hc,evz,Nat.reduceLT,hm]
   · have hx':¬ a[i] ≥ 0:=hx
     simp only [evz,Nat.reduceLT,hi,hj,List.getElem?_eq_getElem,q1x,hy,hx',hx,Bool.false_and]
 by_cases hx:a[i] < 0
 · simp only [evz,Nat.reduceLT,hi,hj,List.getElem?_eq_getElem,q1x,hy,hx]
 have hA:∀ p∈q3n l a i,i < p∧p < a.length:=fun p hp=>q5s ha hi hp
 have hB:∀ q∈q3n l b j,j < q∧q < b.length:=fun q hq=>q5s hb hj hq
 have hAl:=qa6 ok a i
 have hBl:=qa6 ok b j
 have ix:=(q2p o a[i] (by omega)).eq
 have iy:=(q2p o b[j] (by omega)).eq
 have sa:=(q1w ok ha hi (by omega)).eq
 have sb:=(q1w ok hb hj (by omega)).eq
 have hne:(rank o b[j] < rank o a[i])↔(¬ rank o a[i] < rank o b[j])∧a[i]≠b[j]:=by
  have n1:=q5b.1 (ha.node _ (List.getElem_mem hi))
  constructor
  · intro h
    refine ⟨by omega,fun e => ?_⟩
    rw [e] at h; omega
  · rintro ⟨h1,h2⟩
    rcases Int.lt_or_le (rank o b[j]) (rank o a[i]) with h | h
    · exact h
    · exact absurd (rank_inj (ho _ (by omega) (by omega)) (by omega)) h2
 generalize hAA:q3n l a i=A at hA hAl sa
 generalize hBB:q3n l b j=B at hB hBl sb
 have e4:=cell4 ok ha hb hT (A:=A) (B:=B) hAl (fun p hp=>(hA p hp).2) (fun q hq=>(hB q hq).2) A.length 0 8 (by omega) (by omega)
 let Rest2:R:=if a[i]≠b[j] then some (.bool true,[]) else some (.bool (match ((A.drop 0).zip (B.drop 0)).find? fun x => !decide (subAt l a x.1=subAt l b x.2) with | some x=>T.getD (x.1*b.length+x.2) false | none=>false),[])
 have e2:=cell2 (l:=l) ha hb hT (i:=i) (j:=j) (A:=A) (B:=B) (Rest:=Rest2) hi (fun q hq=>(hB q hq).2) hBl (fun f=>by
  simp only [q0n.next2,q0n.round2,evz,Nat.reduceLT,Nat.lt_irrefl,q46,hi,hj,List.getElem?_eq_getElem,q1x,Rest2]
  by_cases e:a[i]=b[j]
  · simp only [e,evz,Nat.reduceLT]
    rw [if_neg (fun h=>h rfl)]
    exact e4
  · simp [e]) B.length 0 8 (by omega) (by omega)
 let Rest0:R:=if rank o a[i] < rank o b[j] then some (.bool false,[]) else if (B.drop 0).any (fun q => !T.getD (i*b.length+q) false) then some (.bool false,[]) else Rest2
 have e0:=cell0 ok ha hb hT (o:=o) (i:=i) (j:=j) (A:=A) (Rest:=Rest0) hj (fun p hp=>(hA p hp).2) hAl (fun f=>by
  simp only [q0n.next0,q0n.round0,evz,Nat.reduceLT,Nat.lt_irrefl,q46,hi,hj,List.getElem?_eq_getElem,q1x,ix,iy,sb,Rest0]
  by_cases hr:rank o a[i] < rank o b[j]
  · rw [if_pos hr,if_pos hr]
  · rw [if_neg hr,if_neg hr]
    exact e2) A.length 0 8 (by omega) (by omega)
 simp only [evz,Nat.reduceLT,hi,hj,List.getElem?_eq_getElem,q1x,hy,hx,sa]
 refine Eq.trans e0 ?_
 simp only [Rest0,Rest2,List.drop_zero]
 by_cases c1:A.any (fun p=>decide (subAt l a p=subAt l b j)||T.getD (p*b.length+j) false)=true
 · rw [if_pos c1,if_pos c1]
 rw [if_neg c1,if_neg c1]
 by_cases c2:rank o a[i] < rank o b[j]
 · rw [if_pos c2,if_pos c2]
 rw [if_neg c2,if_neg c2]
 by_cases c3:B.any (fun q => !T.getD (i*b.length+q) false)=true
 · rw [if_pos c3,if_pos c3]
 rw [if_neg c3,if_neg c3]
 by_cases c4:rank o b[j] < rank o a[i]
 · rw [if_pos c4,if_pos (hne.1 c4).2]
 · rw [if_neg c4,if_neg (fun h=>c4 (hne.2 ⟨c2,h⟩))]
end
omit ok in
theorem set_Bool {T:List Bool} {k:Nat} (h:k < T.length) (v:Bool):setCells (cells T) (k*1) [.bool v]=cells (T.set k v):=q91 T 1 k rfl v h
omit ok in
theorem rep_Bool (n:Nat):repT n [.bool false]=cells (List.replicate n false):=cells_rep n false
def Done (l:List Symbol) (o a b:List Int) (T:List Bool) (n:Nat):Prop :=
 T.length=a.length*b.length∧∀ p q,p < a.length→q < b.length→n≤p*b.length+q→T.getD (p*b.length+q) false=gt l o a b p q
omit ok in
theorem at_inj {n p q i j:Nat} (hq:q < n) (hj:j < n) (h:p*n+q=i*n+j):p=i∧q=j:=by
 rcases Nat.lt_trichotomy p i with h1 | h1 | h1
 · have:(p+1)*n≤i*n:=Nat.mul_le_mul_right _ h1
   rw [Nat.succ_mul] at this; omega
 · subst h1; exact ⟨rfl,by omega⟩
 · have:(i+1)*n≤p*n:=Nat.mul_le_mul_right _ h1
   rw [Nat.succ_mul] at this; omega
omit ok in
theorem Done.cell {o a b:List Int} (ha:TermOk l a) (hb:TermOk l b) {T:List Bool} {i j:Nat} (hi:i < a.length) (hj:j < b.length) (h:Done l o a b T (i*b.length+(j+1))) :
 cell l o a b (fun p q=>T.getD (p*b.length+q) false) i j=gt l o a b i j:=by
 rw [gt_eq ha hb hi hj]
 refine cell_congr ha hb hi hj fun p q h1 h2 h3 h4 h5=>h.2 p q h3 h4 ?_
 have h6:i*b.length≤p*b.length:=Nat.mul_le_mul_right _ h1
 rcases h5 with h5 | h5
 · have:(i+1)*b.length≤p*b.length:=Nat.mul_le_mul_right _ h5
   rw [Nat.succ_mul] at this; omega
 · omega
omit ok in
theorem Done.set {o a b:List Int} {T:List Bool} {i j:Nat} (hi:i < a.length) (hj:j < b.length) (h:Done l o a b T (i*b.length+(j+1))):Done l o a b (T.set (i*b.length+j) (gt l o a b i j)) (i*b.length+j):=by
 have hin:=qaw hi hj
 refine ⟨by rw [List.length_set]; exact h.1,fun p q hp hq hle => ?_⟩
 by_cases e:i*b.length+j=p*b.length+q
 · obtain ⟨rfl,rfl⟩:=at_inj hq hj e.symm
   simp [List.getD_eq_getElem?_getD,h.1,hin]
 · have:=h.2 p q hp hq (by omega)
   rw [← this,List.getD_eq_getElem?_getD,List.getD_eq_getElem?_getD,List.getElem?_set_ne e]
theorem table2 {o a b:List Int} (ha:TermOk l a) (hb:TermOk l b) (hol:o.length≤1048576) (ho:∀ n:Int,0≤n→n < l.length→n∈o) (L0:St→R) {i:Nat} (hi:i < a.length) :
 ∀ (k f:Nat) (T:List Bool),k≤b.length→k < f→Done l o a b T (i*b.length+k)→∃ T',Done l o a b T' (i*b.length) ∧
  q0x.at2 25 L0 f (q0x.st2 (cells l) (cells o) (cells a) (cells b) (b.length:Nat) (i:Nat) ((k:Int) - 1) (cells T)) =
   L0 (q0x.st0 (cells l) (cells o) (cells a) (cells b) (b.length:Nat) ((i:Int) - 1) (cells T')):=by
 have hla:=ha.le
 have hlb:=hb.le
 intro k
 induction k with
 | zero =>
   intro f T hk hf hd
   obtain ⟨f,rfl⟩:∃ x,f=x+1:=⟨f - 1,by omega⟩
   refine ⟨T,by simpa using hd,?_⟩
   have h1:¬ (((0:Nat):Int) - 1 ≥ 0):=by omega
   simp only [q0x.next2,q0x.round2,cond_dec]
   rw [if_neg h1,q3e (by omega)]
 | succ k ih =>
   intro f T hk hf hd
   obtain ⟨f,rfl⟩:∃ x,f=x+1:=⟨f - 1,by omega⟩
   have hj:k < b.length:=by omega
   have hin:i*b.length+k < T.length:=by rw [hd.1]; exact qaw hi hj
   obtain ⟨T',hd',h'⟩:=ih f (T.set (i*b.length+k) (gt l o a b i k)) (by omega) (by omega) (hd.set hi hj)
   refine ⟨T',hd',?_⟩
   have e:((k+1:Nat):Int) - 1=(k:Int):=by omega
   have hc:=q0n ok ha hb hd.1 hol ho hi hj
   rw [hd.cell ha hb hi hj] at hc
   have h1:(k:Int) ≥ 0:=by omega
   rw [e]
   simp only [q0x.next2,q0x.round2,evz,Nat.reduceLT,h1,hc.eq,at_wrap hi hj hla hlb,hin,sz_bool]
   rw [q3e (by omega),if_pos (by rw [q0s,sz_bool]; omega),set_Bool hin]
   exact h'
theorem q0x {o a b:List Int} (ha:TermOk l a) (hb:TermOk l b) (hol:o.length≤1048576) (ho:∀ n:Int,0≤n→n < l.length→n∈o) :
 ∃ T,Done l o a b T 0∧Call F.q0x [.rref [slc l] 0,slc o,slc a,slc b] (slc T):=by
 have hla:=ha.le
 have hlb:=hb.le
 have outer:∀ (m f:Nat) (T:List Bool),m≤a.length→m < f→Done l o a b T (m*b.length)→∃ T',Done l o a b T' 0 ∧
  q0x.at0 25 f (q0x.st0 (cells l) (cells o) (cells a) (cells b) (b.length:Nat) ((m:Int) - 1) (cells T))=some (slc T',[]):=by
  intro m
  induction m with
  | zero =>
    intro f T hm hf hd
    obtain ⟨f,rfl⟩:∃ x,f=x+1:=⟨f - 1,by omega⟩
    refine ⟨T,by simpa using hd,?_⟩
    have h1:¬ (((0:Nat):Int) - 1 ≥ 0):=by omega
    simp only [q0x.next0,q0x.round0,cond_dec]
    rw [if_neg h1]; rfl
  | succ m ih =>
    intro f T hm hf hd
    obtain ⟨f,rfl⟩:∃ x,f=x+1:=⟨f - 1,by omega⟩
    have e:((m+1:Nat):Int) - 1=(m:Int):=by omega
    have h1:(m:Int) ≥ 0:=by omega
    obtain ⟨T1,hd1,h1'⟩:=table2 ok ha hb hol ho (q0x.at0 25 f) (i:=m) (by omega) b.length 25 T (Nat.le_refl _) (by omega) (by rw [← Nat.succ_mul]; exact hd)
    obtain ⟨T',hd',h'⟩:=ih f T1 (by omega) (by omega) hd1
    refine ⟨T',hd',?_⟩
    rw [e]
    simp only [q0x.next0,q0x.round0,cond_dec]
    rw [if_pos h1,q3e (by omega),h1',h']
 have hmul:a.length*b.length≤24*24:=Nat.mul_le_mul hla hlb
 obtain ⟨T,hd,h⟩:=outer a.length 25 (List.replicate (a.length*b.length) false) (Nat.le_refl _) (by omega) ⟨by simp,fun p q hp hq hle=>by have:=qaw hp hq; omega⟩
 refine ⟨T,hd,q0m rfl 25 ((q0x.ev _ _ _ _ _).trans ?_)⟩
 have hw:IntKind.wrap .i64 ((a.length:Int)*(b.length:Int))=((a.length*b.length:Nat):Int):=by rw [← Int.natCast_mul]; exact q3e (by omega)
 simp only [q3y,q3r,hw,Int.toNat_natCast,rep_Bool]
 rw [q16 (by simp; omega),q3e (by omega)]
 exact h
theorem q8i {o a b:List Int} (ha:TermOk l a) (hb:TermOk l b) (hol:o.length≤1048576) (ho:∀ n:Int,0≤n→n < l.length→n∈o) :
 Call F.q8i [.rref [slc l] 0,slc o,slc a,slc b] (.bool (gt l o a b 0 0)):=by
 obtain ⟨T,hd,h⟩:=q0x ok ha hb hol ho
 have h1:=ha.pos
 have h2:=hb.pos
 have hT:0 < T.length:=by rw [hd.1]; exact Nat.mul_pos h1 h2
 have h3:=hd.2 0 0 h1 h2 (Nat.zero_le _)
 simp only [Nat.zero_mul,Nat.add_zero] at h3
 refine q0m rfl 0 ((q8i.ev _ _ _ _ _).trans ?_)
 have hg:=bget (T:=T) (k:=0) hT
 rw [Nat.zero_mul,h3] at hg
 simp only [evz,Nat.reduceLT,h.eq,sz_bool,hg]
 rw [show inB (0:Int) T.length=true from (q8c 0 T.length).trans (by simpa using hT)]
 rfl
end
end Ev.Ty
end
section
namespace Ev.Ty
open Go Ev
open Enc (enc)
open Sm (sm)
set_option linter.unusedSimpArgs false
set_option linter.unusedVariables false
def orderF (l:List Symbol) (o:List Int):Int:=if o.length≠l.length then 2 else if (o.any fun n => !inR n 0 (l.length - 1))=true then 3 else if twice o=true then 6 else 0
def q74 (s:Signature) (o:List Int):Int:=if q41 s≠0 then q41 s else orderF s.symbols o
theorem orderOk {l:List Symbol} {o:List Int} (h:orderF l o=0):o.length=l.length∧∀ n:Int,0≤n→n < l.length→n∈o:=by
 unfold orderF at h
 split at h
 · cases h
 rename_i h1
 split at h
 · cases h
 rename_i h2
 split at h
 · cases h
 rename_i h3
 have h1:o.length=l.length:=by omega
 refine ⟨h1,fun n hn hl=>Classical.byContradiction fun hno => ?_⟩
 have hnd:o.Nodup:=by
  unfold twice at h3
  simpa using h3
 have hr:∀ m∈o,0≤m∧m < l.length:=fun m hm=>by
  simp only [List.any_eq_true,not_exists,not_and,Bool.not_eq_true',Bool.not_eq_false] at h2
  have:=q7k.1 (h2 m hm)
  omega
 have:=pigeon l.length (n::o) (List.nodup_cons.2 ⟨hno,hnd⟩) fun m hm=>by
  rcases List.mem_cons.1 hm with rfl | hm
  · exact ⟨hn,hl⟩
  · exact hr m hm
 simp at this
 omega
theorem q5l {l:List Symbol} (hs:l.length≤4294967296) (n:Int):Call F.q5l [.agg [slc l],.int .i64 n] (.bool (inR n 0 (l.length - 1))):=by
 refine q0m rfl 0 ((q5l.ev _ _ _).trans ?_)
 simp only [evz,Nat.reduceLT,q3e (x:=(l.length:Int) - 1) (by omega),(q36 _ _ _).eq]
theorem q5m {l:List Symbol} (hs:l.length≤4294967296) (n:Int):Call F.q5m [.rref [slc l] 0,.int .i64 n] (.bool (inR n 0 (l.length - 1))):=by
 refine q0m rfl 0 ((q5m.ev _ _ _).trans ?_)
 simp only [evz,Nat.reduceLT,q3e (x:=(l.length:Int) - 1) (by omega),(q1j _ _ _).eq]
theorem take_mem_pairs (o:List Int):((List.range o.length).any fun k=>o[k]?.any fun x=>decide (x∈o.take k))=twice o:=by
 have:=twice_pairs (fun x:Int=>x) o
 rw [List.map_id'] at this
 rw [← this,Bool.eq_iff_iff]
 simp only [List.any_eq_true,List.mem_range]
 constructor
 · rintro ⟨k,hk,h⟩
   rw [List.getElem?_eq_getElem hk,Option.any_some,decide_eq_true_iff] at h
   obtain ⟨j,hj,he⟩:=List.getElem_of_mem h
   rw [List.length_take] at hj
   rw [List.getElem_take] at he
   refine ⟨k,hk,j,by omega,?_⟩
   rw [List.getElem?_eq_getElem hk,List.getElem?_eq_getElem (show j < o.length by omega)]
   simp [he]
 · rintro ⟨i,hi,j,hj,h⟩
   rw [List.getElem?_eq_getElem hi,List.getElem?_eq_getElem (show j < o.length by omega)] at h
   refine ⟨i,hi,?_⟩
   rw [List.getElem?_eq_getElem hi,Option.any_some,decide_eq_true_iff]
   have he:o[i]=o[j]:=by simpa using h
   rw [he]
   exact List.mem_take_iff_getElem.2 ⟨j,by omega,rfl⟩
theorem q1h (l:List Symbol) (hs:l.length≤4294967296) (o:List Int) (ho:o.length≤4294967296):Call F.q1h [.agg [slc l],slc o] (.int .i64 (q74 ⟨l⟩ o)):=by
 have hi:Call F.q0j [slc o,.clo F.q3t [.rref [slc l] 0]] (.int .i64 (idx (fun n => !inR n 0 (l.length - 1)) o)):=by
  refine q0m rfl (o.length+1) ((q0c.ev _ _ _).trans ?_)
  simp only [evz,Nat.reduceLT]
  refine q85 (S:=fun m k=>q0c.at0 (o.length+1) m (q0c.st0 (cells o) (cells l) o.length (k:Nat))) (fun m k h => ?_) (fun m => ?_) (Nat.lt_succ_self _)
  · have hlk:o[k]?=some o[k]:=List.getElem?_eq_getElem h
    have hc:Call F.q3t [.int .i64 o[k],.rref [slc l] 0] (.bool (!inR o[k] 0 (l.length - 1))):=by
     refine q0m rfl 0 ((q3t.ev _ _ _).trans ?_)
     simp only [evz,Nat.reduceLT,(q5l hs _).eq]
    simp only [q0c.next0,q0c.round0,evz,Nat.reduceLT,h,hlk,q1x,hc.eq]
    rw [q0o (by omega)]
    cases inR o[k] 0 (l.length - 1) <;> rfl
  · simp only [q0c.next0,q0c.round0,evz,Nat.reduceLT,Nat.lt_irrefl]
 have hc:Call F.q1y [slc o,.clo F.q3t [.rref [slc l] 0]] (.bool (o.any fun n => !inR n 0 (l.length - 1))):=by
  refine q0m rfl 0 ((q6p.ev _ _ _).trans ?_)
  simp only [evz,Nat.reduceLT,hi.eq,q7y]
 refine q0m rfl (o.length+1) ((q1h.ev _ _ _).trans ?_)
 simp only [evz,Nat.reduceLT,(q08 l hs).eq,q74,orderF]
 by_cases h1:q41 ⟨l⟩=0
 case neg=>simp only [h1,evz,Nat.reduceLT,ne_eq,not_false_eq_true]
 by_cases h2:o.length=l.length
 case neg =>
  have h2':¬ ((o.length:Int)=(l.length:Int)):=by omega
  simp only [h1,h2,h2',evz,Nat.reduceLT,ne_eq,not_true_eq_false,not_false_eq_true]
 have h2':((o.length:Int)=(l.length:Int)):=by omega
 cases h3:o.any fun n => !inR n 0 (l.length - 1) with
 | true =>
   rw [h3] at hc
   simp only [h1,h2',h2,evz,Nat.reduceLT,ne_eq,not_true_eq_false,hc.eq]
 | false =>
   rw [h3] at hc
   simp only [h1,h2',h2,evz,Nat.reduceLT,ne_eq,not_true_eq_false,hc.eq]
   rw [← h2',← h2]
   refine (any_loop (n:=o.length) (bad:=fun k=>o[k]?.any fun x=>decide (x∈o.take k)) (r:=some (.int .i64 6,[])) (z:=some (.int .i64 0,[]))
    (S:=fun m k=>q1h.at0 (o.length+1) m (q1h.st0 (cells o) (cells o) o.length (k:Nat))) (fun m k h => ?_) (fun m => ?_) (Nat.lt_succ_self _)).trans ?_
   · have hlk:o[k]?=some o[k]:=List.getElem?_eq_getElem h
     have hm:=(q1i (o.take k) o[k] (by simp; omega)).eq
     simp only [q1h.next0,q1h.round0,evz,Nat.reduceLT,h,hlk,q1x]
     rw [q16 (by simp; omega),Nat.zero_mul,List.drop_zero,q7i o 1 k rfl,qam (k:=1) (l:=o.take k) rfl,hm,q0o (by omega)]
     by_cases e:o[k]∈o.take k <;> simp [e,evz,Nat.reduceLT]
   · simp only [q1h.next0,q1h.round0,evz,Nat.reduceLT,Nat.lt_irrefl]
   · rw [take_mem_pairs]
     cases twice o <;> rfl
theorem q0k (l:List Symbol) (hs:l.length≤4294967296) (o:List Int) (ho:o.length≤4294967296):Call F.q0k [.rref [slc l] 0,slc o] (.int .i64 (orderF l o)):=by
 obtain ⟨n,hn⟩:∃ n,n=o.length+1:=⟨_,rfl⟩
 refine q0m rfl n ((q0k.ev _ _ _).trans ?_)
 simp only [evz,Nat.reduceLT,orderF]
 by_cases h2:o.length=l.length
 case neg =>
  have h2':¬ ((o.length:Int)=(l.length:Int)):=by omega
  simp only [h2,h2',evz,Nat.reduceLT,ne_eq,not_true_eq_false,not_false_eq_true]
 have h2':((o.length:Int)=(l.length:Int)):=by omega
 simp only [h2',h2,evz,Nat.reduceLT,ne_eq,not_true_eq_false]
 have two:=any_loop (n:=o.length) (bad:=fun i=>(List.range i).any fun j=>o[i]?.any fun x=>o[j]?.any fun y=>decide (x=y))
  (S:=fun m i=>q0k.at2 n m (q0k.st2 (cells o) (i:Nat))) (r:=some (.int .i64 6,[])) (z:=some (.int .i64 0,[]))
  (fun m i h=>by
   have hlk:o[i]?=some o[i]:=List.getElem?_eq_getElem h
   simp only [q0k.next2,q0k.round2,evz,Nat.reduceLT,h]
   refine any_loop (n:=i) (f:=n) (bad:=fun j=>o[i]?.any fun x=>o[j]?.any fun y=>decide (x=y))
    (S:=fun m' j=>q0k.at4 n (q0k.at2 n m) m' (q0k.st4 (cells o) (i:Nat) (j:Nat))) (fun m' j hj => ?_) (fun m' => ?_) (by omega)
   · have hj':j < o.length:=by omega
     have hjk:o[j]?=some o[j]:=List.getElem?_eq_getElem hj'
     simp only [q0k.next4,q0k.round4,evz,Nat.reduceLT,h,hj,hj',hlk,hjk,q1x]
     rw [q0o (by omega)]
     by_cases e:o[i]=o[j] <;> simp [e]
   · simp only [q0k.next4,q0k.round4,evz,Nat.reduceLT,Nat.lt_irrefl]
     rw [q0o (by omega)])
  (fun m=>by simp only [q0k.next2,q0k.round2,evz,Nat.reduceLT,Nat.lt_irrefl]) (show o.length < n by omega)
 have tp:=twice_pairs (fun x:Int=>x) o
 rw [List.map_id'] at tp
 rw [tp] at two
 refine (q82 (l:=o) (p:=fun x => !inR x 0 (l.length - 1)) (S:=fun m k=>q0k.at0 n m (q0k.st0 (cells l) (cells o) (k:Nat))) (r:=some (.int .i64 3,[])) (z:=if twice o=true then some (.int .i64 6,[]) else some (.int .i64 0,[])) (fun m k h => ?_) (fun m => ?_) (show o.length < n by omega)).trans ?_
 · have hlk:o[k]?=some o[k]:=List.getElem?_eq_getElem h
   simp only [q0k.next0,q0k.round0,evz,Nat.reduceLT,h,hlk,q1x,(q5m hs _).eq]
   rw [q0o (by omega)]
   cases inR o[k] 0 (l.length - 1) <;> rfl
 · simp only [q0k.next0,q0k.round0,evz,Nat.reduceLT,Nat.lt_irrefl]
   exact two
 · cases o.any fun x => !inR x 0 (l.length - 1) <;> cases twice o <;> rfl
theorem q6h (l:List Symbol) (hs:l.length≤4294967296) (o:List Int) (ho:o.length≤4294967296):Call F.q6h [.agg [slc l],slc o] (.int .i64 (q74 ⟨l⟩ o)):=by
 refine q0m rfl 0 ((q6h.ev _ _ _).trans ?_)
 simp only [evz,Nat.reduceLT,(q02 l hs).eq,(q0k l hs o ho).eq,q74]
 by_cases h1:q41 ⟨l⟩=0
 · simp only [h1,evz,Nat.reduceLT,ne_eq,not_true_eq_false]
 · simp only [h1,evz,Nat.reduceLT,ne_eq,not_false_eq_true]
def falling (l:List Symbol) (o:List Int) (rs:List Equation):Bool := !rs.any fun e => !gt l o e.left e.right 0 0
theorem q2m {l:List Symbol} (ok:SigOk ⟨l⟩) {o:List Int} (ho:orderF l o=0) {rs:List Equation} (hr:∀ e∈rs,EqOk l e) (hn:rs.length≤4294967296) :
 Call F.q2m [.rref [slc l] 0,slc o,slc rs] (.bool (falling l o rs)):=by
 obtain ⟨h1,h2⟩:=orderOk ho
 have hls:l.length≤6:=ok.le
 refine q0m rfl (rs.length+1) ((q2m.ev _ _ _ _).trans ?_)
 refine (q82 (l:=rs) (p:=fun e => !gt l o e.left e.right 0 0) (r:=some (.bool false,[])) (z:=some (.bool true,[])) (S:=fun m k=>q2m.at0 (rs.length+1) m (q2m.st0 (cells l) (cells o) (cells rs) (k:Nat))) (fun m k h => ?_) (fun m => ?_) (Nat.lt_succ_self _)).trans ?_
 · have hlk:rs[k]?=some rs[k]:=List.getElem?_eq_getElem h
   have he:=hr _ (List.getElem_mem h)
   simp only [q2m.next0,q2m.round0,evz,Nat.reduceLT,h,hlk,q3d,(q8i ok he.left he.right (by omega) h2).eq]
   rw [q0o (by omega)]
   cases gt l o rs[k].left rs[k].right 0 0 <;> rfl
 · simp only [q2m.next0,q2m.round0,evz,Nat.reduceLT,Nat.lt_irrefl]
 · unfold falling
   cases rs.any fun e => !gt l o e.left e.right 0 0 <;> rfl
end Ev.Ty
end
section
namespace Ev.Ty
open Go Ev
open Enc (enc)
open Sm (sm)
set_option linter.unusedSimpArgs false
set_option linter.unusedVariables false
def Free (b:Bnd) (t:List Int):Prop:=∀ n∈t,(-1 - n)∉b.1
theorem bindOf_notMem {vs:List Int} {ts:List (List Int)} {v:Int} (h:v∉vs):q65 vs ts v=none:=by
 unfold q65
 rcases q7w (fun x:Int=>decide (x=v)) vs with ⟨h1,_⟩ | ⟨i,hi,h1,hy,_⟩
 · rw [if_pos (by omega)]
 · have:vs[i]=v:=by simpa using hy
   exact absurd (this ▸ List.getElem_mem hi) h
theorem applied_free {b:Bnd}:∀ {t:List Int},Free b t→q0i b.1 b.2 t=t
 | [],_=>rfl
 | n::t,h=>by
   have ih:=applied_free (b:=b) (t:=t) fun m hm=>h m (List.mem_cons_of_mem _ hm)
   have e:q0i b.1 b.2 (n::t)=(q65 b.1 b.2 (-1 - n)).getD [n]++q0i b.1 b.2 t:=by simp [q0i]
   rw [e,bindOf_notMem (h n (by simp)),ih]; rfl
theorem applied_nodes {vs:List Int} {ts:List (List Int)} {P:Int→Prop} (ht:∀ x∈ts,∀ n∈x,P n) {t:List Int} (h:∀ n∈t,q65 vs ts (-1 - n)=none→P n):∀ n∈q0i vs ts t,P n:=fun n hn=>by
 unfold q0i at hn
 obtain ⟨m,hm,hn⟩:=List.mem_flatMap.1 hn
 cases ho:q65 vs ts (-1 - m) with
 | none=>rw [ho] at hn; rw [List.mem_singleton.1 hn]; exact h m hm ho
 | some o=>rw [ho] at hn; exact ht o (q7j ho) n hn
structure UB (l:List Symbol) (b:Bnd):Prop where
 mb:MB l b 12
 nd:b.1.Nodup
 free:∀ t∈b.2,Free b t
theorem UB.nil (l:List Symbol):UB l ([],[]):=⟨(MB.nil l).up (by omega),List.nodup_nil,by simp⟩
theorem UB.le {l:List Symbol} {b:Bnd} (h:UB l b):b.1.length≤12:=h.mb.le
theorem UB.applied_free {l:List Symbol} {b:Bnd} (h:UB l b) (t:List Int):Free b (q0i b.1 b.2 t):=applied_nodes h.free fun n _ hn=>bindOf_none h.mb.len hn
theorem UB.applied_ok {l:List Symbol} {b:Bnd} (h:UB l b) {t:List Int} (ht:TermOk l t) (hl:(q0i b.1 b.2 t).length≤24):TermOk l (q0i b.1 b.2 t):=by
 have hs:=q9z h.mb (by omega) t [] 1 ht.skip
 rw [List.append_nil] at hs
 refine ⟨?_,hl,applied_node h.mb ht.node,hs⟩
 rcases Nat.eq_zero_or_pos (q0i b.1 b.2 t).length with h0 | h0
 · rw [List.eq_nil_of_length_eq_zero h0] at hs; cases hs
 · exact h0
def one (v:Int) (t:List Int):Bnd:=([v],[t])
def q7l (b:Bnd) (v:Int) (t:List Int):Option Bnd :=
 if (b.2.any fun x=>decide (24 < (q0i [v] [t] x).length))=true then none else some (bput (b.1,b.2.map (q0i [v] [t])) v t)
theorem bindOf_one (v:Int) (t:List Int) (w:Int):q65 [v] [t] w=if v=w then some t else none:=by
 by_cases h:v=w
 · subst h; simp [q65,idx]
 · rw [if_neg h]; exact bindOf_notMem (by simpa using fun e=>h e.symm)
theorem one_mb {l:List Symbol} {v:Int} (hv:0≤v∧v≤11) {t:List Int} (ht:TermOk l t):MB l (one v t) 1:=⟨rfl,Nat.le_refl _,fun x hx=>by rw [List.mem_singleton.1 hx]; exact hv,fun x hx=>by rw [List.mem_singleton.1 hx]; exact ht⟩
theorem ins_nodup {l:List Int} {i:Nat} {x:Int} (h:l.Nodup) (hx:x∉l):(ins l i x).Nodup:=by
 unfold ins
 have hp:(l.take i++x::l.drop i).Perm (x::l):=by
  refine List.perm_middle.trans ?_
  rw [List.take_append_drop]
 exact hp.nodup_iff.2 (List.nodup_cons.2 ⟨hx,h⟩)
theorem mem_ins_iff {l:List Int} {i:Nat} {x y:Int}:y∈ins l i x↔y=x∨y∈l:=by
 unfold ins
 constructor
 · intro h
   rcases List.mem_append.1 h with h | h
   · exact .inr (List.mem_of_mem_take h)
   · rcases List.mem_cons.1 h with h | h
     · exact .inl h
     · exact .inr (List.mem_of_mem_drop h)
 · rintro (rfl | h)
   · simp
   · rw [← List.take_append_drop i l,List.mem_append] at h
     rcases h with h | h
     · exact List.mem_append_left _ h
     · exact List.mem_append_right _ (List.mem_cons_of_mem _ h)
theorem pigeon_ub {vs:List Int} (h:vs.Nodup) (hv:∀ v∈vs,0≤v∧v≤11):vs.length≤12:=pigeon 12 vs h fun v hm=>by have:=hv v hm; omega
theorem bindAll_ub {l:List Symbol} {b:Bnd} (h:UB l b) {v:Int} (hv:0≤v∧v≤11) (hnb:v∉b.1) {t:List Int} (ht:TermOk l t) (hf:Free b t) (hvt:(-1 - v)∉t) {b':Bnd} (hb:q7l b v t=some b') :
 UB l b'∧b'.1.length=b.1.length+1:=by
 unfold q7l at hb
 split at hb
 · cases hb
 rename_i hany
 cases hb
 have hi:=insAt_le b.1 v
 have hlen:=h.mb.len
 have hmem:∀ w,w∈(bput (b.1,b.2.map (q0i [v] [t])) v t).1↔w=v∨w∈b.1:=fun w=>mem_ins_iff
 have hnd:(bput (b.1,b.2.map (q0i [v] [t])) v t).1.Nodup:=ins_nodup h.nd hnb
 have hvar:∀ w∈(bput (b.1,b.2.map (q0i [v] [t])) v t).1,0≤w∧w≤11:=fun w hw=>by
  rcases (hmem w).1 hw with rfl | hw
  · exact hv
  · exact h.mb.var w hw
 have hl1:(bput (b.1,b.2.map (q0i [v] [t])) v t).1.length=b.1.length+1:=q7g _ _ _ hi
 have hone:=one_mb hv ht
 have tm:∀ x∈(bput (b.1,b.2.map (q0i [v] [t])) v t).2,TermOk l x∧Free (bput (b.1,b.2.map (q0i [v] [t])) v t) x:=fun x hx=>by
  rcases mem_ins hx with rfl | hx
  · refine ⟨ht,fun n hn hm => ?_⟩
    rcases (hmem _).1 hm with e | hm
    · exact hvt (by have:n = -1 - v:=by omega
                    exact this ▸ hn)
    · exact hf n hn hm
  · obtain ⟨y,hy,rfl⟩:=List.mem_map.1 hx
    have hyo:=h.mb.tm y hy
    have hle:(q0i [v] [t] y).length≤24:=by
     rcases Nat.lt_or_ge 24 (q0i [v] [t] y).length with h24 | h24
     · exact absurd (List.any_eq_true.2 ⟨y,hy,decide_eq_true h24⟩) hany
     · exact h24
    refine ⟨?_,?_⟩
    · have hs:=q9z hone (by omega) y [] 1 hyo.skip
      rw [List.append_nil] at hs
      refine ⟨?_,hle,applied_node hone hyo.node,hs⟩
      rcases Nat.eq_zero_or_pos (q0i [v] [t] y).length with h0 | h0
      · have hs:skip (ar l) 1 (q0i [v] [t] y)=some []:=hs
        rw [List.eq_nil_of_length_eq_zero h0] at hs; cases hs
      · exact h0
    · refine applied_nodes (P:=fun n=>(-1 - n)∉(bput (b.1,b.2.map (q0i [v] [t])) v t).1) (fun z hz n hn hm => ?_) (fun n hn hno hm => ?_)
      · rw [List.mem_singleton.1 hz] at hn
        rcases (hmem _).1 hm with e | hm
        · exact hvt (by have:n = -1 - v:=by omega
                        exact this ▸ hn)
        · exact hf n hn hm
      · rcases (hmem _).1 hm with e | hm
        · rw [bindOf_one,if_pos e.symm] at hno; cases hno
        · exact h.free y hy n hn hm
 refine ⟨⟨⟨?_,?_,hvar,fun x hx=>(tm x hx).1⟩,hnd,fun x hx=>(tm x hx).2⟩,hl1⟩
 · rw [hl1]
   show _=(ins (b.2.map (q0i [v] [t])) (insAt b.1 v) t).length
   rw [q7g _ _ _ (by simp; omega)]; simp; omega
 · exact pigeon_ub hnd hvar
abbrev Pr:=Equation
def q77 (l:List Symbol) (x y:List Int):List Pr:=((q3n l x 0).zip (q3n l y 0)).map fun p=>⟨subAt l x p.1,subAt l y p.2⟩
def psize (b:Bnd) (ps:List Pr):Nat:=(ps.map fun p=>(q0i b.1 b.2 p.left).length+(q0i b.1 b.2 p.right).length).sum
theorem sum_starts {l:List Symbol} {t:List Int} (ht:TermOk l t):∀ {n p:Nat} {r:List Int},skip (ar l) n (t.drop p)=some r→((q73 l t n p).map fun q=>(subAt l t q).length).sum+r.length=t.length - p
 | 0,p,r,h=>by
   rw [q4k] at h
   rw [← Option.some.inj h]
   simp [q73]
 | n+1,p,r,h=>by
   obtain ⟨h1,h2,h3,h4⟩:=skip_one h
   have ih:=sum_starts ht h2
   have hs:=(q6c ht h1).2.1
   rw [q73,List.map_cons,List.sum_cons]
   omega
theorem sum_args {l:List Symbol} {t:List Int} (ht:TermOk l t):((q3n l t 0).map fun q=>(subAt l t q).length).sum+1=t.length:=by
 have hp:=ht.pos
 obtain ⟨r,hr⟩:=qad ht (p:=0) (by omega)
 have hd:t.getD 0 0=t[0]:=q79 (by omega)
 have h:=sum_starts ht hr
 have hw:=ht.skip
 have e:t=t[0]::t.drop 1:=by
  have:=List.drop_eq_getElem_cons (l:=t) (i:=0) (by omega)
  rwa [List.drop_zero] at this
 rw [e,skip,Nat.zero_add] at hw
 rw [Nat.zero_add,hw] at hr
 have:r=[]:=(Option.some.inj hr).symm
 subst this
 unfold q3n
 rw [hd]
 simp at h ⊢
 omega
theorem zip_sum {α β:Type} (f:α→Nat) (g:β→Nat):∀ (A:List α) (B:List β),A.length=B.length→((A.zip B).map fun p=>f p.1+g p.2).sum=(A.map f).sum+(B.map g).sum
 | [],[],_=>rfl
 | a::A,b::B,h=>by
   have ih:=zip_sum f g A B (by simpa using h)
   simp only [List.zip_cons_cons,List.map_cons,List.sum_cons] at ih ⊢
   omega
 | [],_::_,h=>by simp at h
 | _::_,[],h=>by simp at h
theorem subAt_sub {l:List Symbol} {t:List Int} {p:Nat}:∀ n∈subAt l t p,n∈t:=fun n hn=>List.mem_of_mem_take (List.mem_of_mem_drop hn)
theorem args_size {l:List Symbol} {b:Bnd} {x y:List Int} (hx:TermOk l x) (hy:TermOk l y) (fx:Free b x) (fy:Free b y) (he:x.getD 0 0=y.getD 0 0):psize b (q77 l x y)+2=x.length+y.length:=by
 have e:(q77 l x y).map (fun p=>(q0i b.1 b.2 p.left).length+(q0i b.1 b.2 p.right).length)=((q3n l x 0).zip (q3n l y 0)).map fun p=>(subAt l x p.1).length+(subAt l y p.2).length:=by
  unfold q77
  rw [List.map_map]
  refine List.map_congr_left fun p hp => ?_
  show (q0i b.1 b.2 (subAt l x p.1)).length+(q0i b.1 b.2 (subAt l y p.2)).length=_
  rw [applied_free fun n hn=>fx n (subAt_sub n hn),applied_free fun n hn=>fy n (subAt_sub n hn)]
 have hl:(q3n l x 0).length=(q3n l y 0).length:=by unfold q3n; rw [q62,q62,he]
 unfold psize
 rw [e,zip_sum (fun p=>(subAt l x p).length) (fun q=>(subAt l y q).length) _ _ hl]
 have:=sum_args hx
 have:=sum_args hy
 omega
theorem args_ok {l:List Symbol} {x y:List Int} (hx:TermOk l x) (hy:TermOk l y):∀ p∈q77 l x y,TermOk l p.left∧TermOk l p.right:=fun p hp=>by
 unfold q77 at hp
 obtain ⟨q,hq,rfl⟩:=List.mem_map.1 hp
 have h1:=q5s hx (p:=0) (by have:=hx.pos; omega) (List.of_mem_zip hq).1
 have h2:=q5s hy (p:=0) (by have:=hy.pos; omega) (List.of_mem_zip hq).2
 exact ⟨q87 hx h1.2,q87 hy h2.2⟩
def unif (l:List Symbol):Nat→Bnd→List Pr→Option (Bnd ⊕ Int)
 | 0,_,_=>none
 | _+1,b,[]=>some (.inl b)
 | n+1,b,p::ps =>
   if 24 < (q0i b.1 b.2 p.left).length∨24 < (q0i b.1 b.2 p.right).length then some (.inr 2)
   else if q0i b.1 b.2 p.left=q0i b.1 b.2 p.right then unif l n b ps
   else if (q0i b.1 b.2 p.left).getD 0 0 < 0 then
    if (q0i b.1 b.2 p.left).getD 0 0∈q0i b.1 b.2 p.right then some (.inr 4) else match q7l b (-1 - (q0i b.1 b.2 p.left).getD 0 0) (q0i b.1 b.2 p.right) with
     | none=>some (.inr 2)
     | some b'=>unif l n b' ps
   else if (q0i b.1 b.2 p.right).getD 0 0 < 0 then
    if (q0i b.1 b.2 p.right).getD 0 0∈q0i b.1 b.2 p.left then some (.inr 4) else match q7l b (-1 - (q0i b.1 b.2 p.right).getD 0 0) (q0i b.1 b.2 p.left) with
     | none=>some (.inr 2)
     | some b'=>unif l n b' ps
   else if (q0i b.1 b.2 p.left).getD 0 0≠(q0i b.1 b.2 p.right).getD 0 0 then some (.inr 4)
   else unif l n b (q77 l (q0i b.1 b.2 p.left) (q0i b.1 b.2 p.right)++ps)
theorem unif_mono {l:List Symbol}:∀ {n m:Nat} {b:Bnd} {ps:List Pr} {r:Bnd ⊕ Int},unif l n b ps=some r→n≤m→unif l m b ps=some r
 | 0,m,b,ps,r,h,hm=>by cases h
 | n+1,m,b,ps,r,h,hm=>by
   obtain ⟨m,rfl⟩:∃ q,m=q+1:=⟨m - 1,by omega⟩
   have ih:∀ {b:Bnd} {ps:List Pr} {r:Bnd ⊕ Int},unif l n b ps=some r→unif l m b ps=some r:=fun h=>unif_mono h (by omega)
   cases ps with
   | nil=>exact h
   | cons p ps =>
     rw [unif] at h ⊢
     split at h
     · rename_i c; rw [if_pos c]; exact h
     rename_i c
     rw [if_neg c]
     split at h
     · rename_i c; rw [if_pos c]; exact ih h
     rename_i c
     rw [if_neg c]
     split at h
     · rename_i c
       rw [if_pos c]
       split at h
       · rename_i c; rw [if_pos c]; exact h
       rename_i c
       rw [if_neg c]
       split at h
       · exact h
       · exact ih h
     rename_i c
     rw [if_neg c]
     split at h
     · rename_i c
       rw [if_pos c]
       split at h
       · rename_i c; rw [if_pos c]; exact h
       rename_i c
       rw [if_neg c]
       split at h
       · exact h
       · exact ih h
     rename_i c
     rw [if_neg c]
     split at h
     · rename_i c; rw [if_pos c]; exact h
     rename_i c
     rw [if_neg c]
     exact ih h
theorem UB.head_var {l:List Symbol} {b:Bnd} (h:UB l b) {t:List Int} (hx:TermOk l (q0i b.1 b.2 t)) (hn:(q0i b.1 b.2 t).getD 0 0 < 0) :
 (0 ≤ -1 - (q0i b.1 b.2 t).getD 0 0 ∧ -1 - (q0i b.1 b.2 t).getD 0 0≤11) ∧ -1 - (q0i b.1 b.2 t).getD 0 0∉b.1:=by
 have hp:=hx.pos
 have hd:(q0i b.1 b.2 t).getD 0 0=(q0i b.1 b.2 t)[0]:=q79 (by omega)
 have hm:(q0i b.1 b.2 t).getD 0 0∈q0i b.1 b.2 t:=by rw [hd]; exact List.getElem_mem _
 have:=q5b.1 (hx.node _ hm)
 exact ⟨by omega,h.applied_free t _ hm⟩
theorem unif_ends {l:List Symbol}:∀ (d k:Nat) (b:Bnd) (ps:List Pr),UB l b→(∀ p∈ps,TermOk l p.left∧TermOk l p.right)→12 - b.1.length≤d→psize b ps≤k →
 ∃ n r,unif l n b ps=some r∧∀ b',r = .inl b'→UB l b':=by
 intro d
 induction d with
 | zero =>
   intro k
   induction k using Nat.strongRecOn with
   | _ k ihk=>exact fun b ps=>unif_step 0 k (fun d' hd'=>by omega) ihk b ps
 | succ d ihd =>
   intro k
   induction k using Nat.strongRecOn with
   | _ k ihk=>exact fun b ps=>unif_step (d+1) k (fun d' hd' k b ps h1 h2 h3 h4=>ihd k b ps h1 h2 (by omega) h4) ihk b ps
where
 unif_step {l:List Symbol} (d k:Nat)
  (ihd:∀ d',d' < d→∀ (k:Nat) (b:Bnd) (ps:List Pr),UB l b→(∀ p∈ps,TermOk l p.left∧TermOk l p.right)→12 - b.1.length≤d'→psize b ps≤k→∃ n r,unif l n b ps=some r∧∀ b',r = .inl b'→UB l b')
  (ihk:∀ k',k' < k→∀ (b:Bnd) (ps:List Pr),UB l b→(∀ p∈ps,TermOk l p.left∧TermOk l p.right)→12 - b.1.length≤d→psize b ps≤k'→∃ n r,unif l n b ps=some r∧∀ b',r = .inl b'→UB l b')
  (b:Bnd) (ps:List Pr) (hb:UB l b) (hps:∀ p∈ps,TermOk l p.left∧TermOk l p.right) (hd:12 - b.1.length≤d) (hk:psize b ps≤k):∃ n r,unif l n b ps=some r∧∀ b',r = .inl b'→UB l b':=by
  cases ps with
  | nil=>exact ⟨1,.inl b,rfl,fun b' e=>by cases e; exact hb⟩
  | cons p ps =>
    have hp:=hps p (by simp)
    have hps':∀ q∈ps,TermOk l q.left∧TermOk l q.right:=fun q hq=>hps q (List.mem_cons_of_mem _ hq)
    have hsz:psize b (p::ps)=(q0i b.1 b.2 p.left).length+(q0i b.1 b.2 p.right).length+psize b ps:=by simp [psize]
    by_cases c1:24 < (q0i b.1 b.2 p.left).length∨24 < (q0i b.1 b.2 p.right).length
    · exact ⟨1,.inr 2,by rw [unif,if_pos c1],fun _ e=>by cases e⟩
    have hx:=hb.applied_ok hp.1 (by omega)
    have hy:=hb.applied_ok hp.2 (by omega)
    have hxp:=hx.pos
    by_cases c2:q0i b.1 b.2 p.left=q0i b.1 b.2 p.right
    · obtain ⟨n,r,h1,h2⟩:=ihk (psize b ps) (by omega) b ps hb hps' hd (Nat.le_refl _)
      exact ⟨n+1,r,by rw [unif,if_neg c1,if_pos c2]; exact h1,h2⟩
    have bindcase:∀ (u t:List Int),TermOk l (q0i b.1 b.2 u)→TermOk l (q0i b.1 b.2 t)→(q0i b.1 b.2 u).getD 0 0 < 0→(q0i b.1 b.2 u).getD 0 0∉q0i b.1 b.2 t→∀ b',q7l b (-1 - (q0i b.1 b.2 u).getD 0 0) (q0i b.1 b.2 t)=some b' →
     ∃ n r,unif l n b' ps=some r∧∀ b',r = .inl b'→UB l b':=fun u t hu ht hneg hno b' hb'=>by
     obtain ⟨hv,hnb⟩:=hb.head_var hu hneg
     obtain ⟨q1,q2⟩:=bindAll_ub hb hv hnb ht (hb.applied_free t) (by rw [show -1 - (-1 - (q0i b.1 b.2 u).getD 0 0)=(q0i b.1 b.2 u).getD 0 0 by omega]; exact hno) hb'
     have:=q1.le
     exact ihd (d - 1) (by omega) (psize b' ps) b' ps q1 hps' (by omega) (Nat.le_refl _)
    by_cases c3:(q0i b.1 b.2 p.left).getD 0 0 < 0
    · by_cases c4:(q0i b.1 b.2 p.left).getD 0 0∈q0i b.1 b.2 p.right
      · exact ⟨1,.inr 4,by rw [unif,if_neg c1,if_neg c2,if_pos c3,if_pos c4],fun _ e=>by cases e⟩
      cases hb':q7l b (-1 - (q0i b.1 b.2 p.left).getD 0 0) (q0i b.1 b.2 p.right) with
      | none=>exact ⟨1,.inr 2,by rw [unif,if_neg c1,if_neg c2,if_pos c3,if_neg c4,hb'],fun _ e=>by cases e⟩
      | some b' =>
        obtain ⟨n,r,h1,h2⟩:=bindcase p.left p.right hx hy c3 c4 b' hb'
        exact ⟨n+1,r,by rw [unif,if_neg c1,if_neg c2,if_pos c3,if_neg c4,hb']; exact h1,h2⟩
    by_cases c5:(q0i b.1 b.2 p.right).getD 0 0 < 0
    · by_cases c4:(q0i b.1 b.2 p.right).getD 0 0∈q0i b.1 b.2 p.left
      · exact ⟨1,.inr 4,by rw [unif,if_neg c1,if_neg c2,if_neg c3,if_pos c5,if_pos c4],fun _ e=>by cases e⟩
      cases hb':q7l b (-1 - (q0i b.1 b.2 p.right).getD 0 0) (q0i b.1 b.2 p.left) with
      | none=>exact ⟨1,.inr 2,by rw [unif,if_neg c1,if_neg c2,if_neg c3,if_pos c5,if_neg c4,hb'],fun _ e=>by cases e⟩
      | some b' =>
        obtain ⟨n,r,h1,h2⟩:=bindcase p.right p.left hy hx c5 c4 b' hb'
        exact ⟨n+1,r,by rw [unif,if_neg c1,if_neg c2,if_neg c3,if_pos c5,if_neg c4,hb']; exact h1,h2⟩
    by_cases c6:(q0i b.1 b.2 p.left).getD 0 0=(q0i b.1 b.2 p.right).getD 0 0
    · have ha:=args_size (b:=b) hx hy (hb.applied_free _) (hb.applied_free _) c6
      have happ:psize b (q77 l (q0i b.1 b.2 p.left) (q0i b.1 b.2 p.right)++ps)=psize b (q77 l (q0i b.1 b.2 p.left) (q0i b.1 b.2 p.right))+psize b ps:=by simp [psize]
      obtain ⟨n,r,h1,h2⟩:=ihk _ (show psize b (q77 l (q0i b.1 b.2 p.left) (q0i b.1 b.2 p.right)++ps) < k by omega) b _ hb (fun q hq=>by
       rcases List.mem_append.1 hq with hq | hq
       · exact args_ok hx hy q hq
       · exact hps' q hq) hd (Nat.le_refl _)
      exact ⟨n+1,r,by rw [unif,if_neg c1,if_neg c2,if_neg c3,if_neg c5,if_neg (by simpa using c6)]; exact h1,h2⟩
    · exact ⟨1,.inr 4,by rw [unif,if_neg c1,if_neg c2,if_neg c3,if_neg c5,if_pos c6],fun _ e=>by cases e⟩
end Ev.Ty
end
section
namespace Ev.Ty
open Go Ev
open Enc (enc)
open Sm (sm)
set_option linter.unusedSimpArgs false
set_option linter.unusedVariables false
def q5e (t:List Int) (by_:Int):List Int:=t.map fun n=>if n < 0 then n - by_ else n
theorem skip_map {a:Int→Nat} {f:Int→Int}:∀ {t:List Int} {k:Nat} {r:List Int},(∀ n∈t,a (f n)=a n)→skip a k t=some r→skip a k (t.map f)=some (r.map f)
 | t,0,r,_,h=>by rw [q4k] at h; cases h; rw [q4k]
 | [],k+1,r,_,h=>by cases h
 | n::t,k+1,r,hf,h=>by
   rw [skip] at h
   rw [List.map_cons,skip,hf n (by simp)]
   exact skip_map (fun m hm=>hf m (List.mem_cons_of_mem _ hm)) h
theorem shift_ok {l:List Symbol} {t:List Int} (ht:TermOk l t) (hlow:∀ n∈t,-6≤n):TermOk l (q5e t 6):=by
 refine ⟨by unfold q5e; rw [List.length_map]; exact ht.pos,by unfold q5e; rw [List.length_map]; exact ht.le,fun n hn => ?_,?_⟩
 · unfold q5e at hn
   obtain ⟨m,hm,rfl⟩:=List.mem_map.1 hn
   have h1:=q5b.1 (ht.node m hm)
   have h2:=hlow m hm
   rw [q5b]
   split <;> omega
 · refine skip_map (fun n hn => ?_) ht.skip
   by_cases h:n < 0
   · rw [if_pos h,ar_neg l h,ar_neg l (by omega)]
   · rw [if_neg h]
theorem q9d {b:Bnd} {l:List Symbol} {k:Nat} (hb:MB l b k):∀ t:List Int,t.length≤(q0i b.1 b.2 t).length
 | []=>by simp [q0i]
 | n::t=>by
   have ih:=q9d hb t
   have e:q0i b.1 b.2 (n::t)=(q65 b.1 b.2 (-1 - n)).getD [n]++q0i b.1 b.2 t:=by simp [q0i]
   rw [e,List.length_append,List.length_cons]
   cases ho:q65 b.1 b.2 (-1 - n) with
   | none=>simp; omega
   | some o =>
     have:=(hb.tm o (q7j ho)).pos
     simp; omega
def pstep (seen:List Int) (n:Int):Int × List Int :=
 if 0≤n then (n,seen) else if idx (fun x=>decide (x=n)) seen < 0 then (-1 - (seen.length:Int),seen++[n]) else (-1 - idx (fun x=>decide (x=n)) seen,seen)
def q3b:List Int→List Int→List Int × List Int
 | seen,[]=>([],seen)
 | seen,n::t=>((pstep seen n).1::(q3b (pstep seen n).2 t).1,(q3b (pstep seen n).2 t).2)
theorem qav:∀ (seen a b:List Int),q3b seen (a++b)=((q3b seen a).1++(q3b (q3b seen a).2 b).1,(q3b (q3b seen a).2 b).2)
 | seen,[],b=>rfl
 | seen,n::a,b=>by
   rw [List.cons_append,q3b,qav,q3b]; rfl
theorem q4z:∀ (seen t:List Int),(q3b seen t).1.length=t.length∧(q3b seen t).2.length≤seen.length+t.length∧seen.length≤(q3b seen t).2.length
 | seen,[]=>⟨rfl,by simp [q3b],by simp [q3b]⟩
 | seen,n::t=>by
   have ih:=q4z (pstep seen n).2 t
   have hp:(pstep seen n).2.length≤seen.length+1∧seen.length≤(pstep seen n).2.length:=by
    unfold pstep
    split
    · exact ⟨by simp,by simp⟩
    split
    · simp
    · exact ⟨by simp,by simp⟩
   rw [q3b]
   simp only [List.length_cons]
   omega
theorem plainL_node:∀ (seen t:List Int),∀ m∈(q3b seen t).1,(0≤m∧m∈t)∨(m < 0 ∧ -((q3b seen t).2.length:Int)≤m)
 | seen,[],m,h=>by cases h
 | seen,n::t,m,h=>by
   rw [q3b] at h ⊢
   have hl:=(q4z (pstep seen n).2 t).2.2
   rcases List.mem_cons.1 h with rfl | h
   · unfold pstep at hl ⊢
     split
     · exact .inl ⟨by assumption,by simp⟩
     rename_i h0
     rw [if_neg h0] at hl
     split
     · rename_i h1
       rw [if_pos h1] at hl
       simp only [List.length_append,List.length_singleton] at hl
       exact .inr ⟨by simp only; omega,by simp only; omega⟩
     · rename_i h1
       rw [if_neg h1] at hl
       rcases q7w (fun x:Int=>decide (x=n)) seen with ⟨h2,_⟩ | ⟨i,hi,h2,_⟩
       · omega
       · simp only at hl ⊢
         exact .inr ⟨by omega,by omega⟩
   · rcases plainL_node (pstep seen n).2 t m h with h | h
     · exact .inl ⟨h.1,List.mem_cons_of_mem _ h.2⟩
     · exact .inr h
def plainE (e:Equation):Equation:=⟨(q3b [] e.left).1,(q3b (q3b [] e.left).2 e.right).1⟩
def seenE (e:Equation):List Int:=(q3b (q3b [] e.left).2 e.right).2
theorem plainL_skip {l:List Symbol}:∀ (t seen r:List Int) (k:Nat),skip (ar l) k t=some r→∃ r',skip (ar l) k (q3b seen t).1=some r'∧r'.length=r.length
 | [],seen,r,k,h=>by
   obtain ⟨rfl,rfl⟩:=skip_nil h
   exact ⟨[],by rw [q4k]; rfl,rfl⟩
 | n::t,seen,r,0,h=>by
   rw [q4k] at h
   cases h
   exact ⟨_,q4k _,(q4z seen (n::t)).1⟩
 | n::t,seen,r,k+1,h=>by
   rw [skip] at h
   obtain ⟨r',h1,h2⟩:=plainL_skip t (pstep seen n).2 r _ h
   refine ⟨r',?_,h2⟩
   rw [q3b,skip]
   have e:ar l (pstep seen n).1=ar l n:=by
    unfold pstep
    split
    · rfl
    rename_i h0
    split
    · rw [ar_neg l (by simp only; omega),ar_neg l (by omega)]
    · rename_i h1
      rw [ar_neg l (by simp only; omega),ar_neg l (by omega)]
   rw [e]
   exact h1
theorem plain_term {l:List Symbol} {t seen:List Int} (ht:TermOk l t) (h6:(q3b seen t).2.length≤6):TermOk l (q3b seen t).1∧∀ n∈(q3b seen t).1,-6≤n:=by
 have hl:=(q4z seen t).1
 obtain ⟨r',h1,h2⟩:=plainL_skip (l:=l) t seen [] 1 ht.skip
 have:r'=[]:=List.eq_nil_of_length_eq_zero h2
 subst this
 refine ⟨⟨by rw [hl]; exact ht.pos,by rw [hl]; exact ht.le,fun n hn => ?_,h1⟩,fun n hn => ?_⟩
 · rcases plainL_node seen t n hn with ⟨q1,q2⟩ | ⟨q1,q2⟩
   · exact ht.node n q2
   · rw [q5b]; omega
 · rcases plainL_node seen t n hn with ⟨q1,_⟩ | ⟨_,q2⟩ <;> omega
theorem plain_ok {l:List Symbol} {e:Equation} (hl:TermOk l e.left) (hr:TermOk l e.right) (h6:(seenE e).length≤6):EqOk l (plainE e):=by
 have h1:=(q4z (q3b [] e.left).2 e.right).2.2
 have h2:(q3b (q3b [] e.left).2 e.right).2.length≤6:=h6
 obtain ⟨q1,q2⟩:=plain_term (seen:=[]) hl (by omega)
 obtain ⟨q3,q4⟩:=plain_term (seen:=(q3b [] e.left).2) hr h2
 exact ⟨q1,q3,q2,q4⟩
open Classical in
noncomputable def unifR (l:List Symbol) (a b:List Int):Bnd ⊕ Int:=if h:∃ n r,unif l n ([],[]) [⟨a,b⟩]=some r then Classical.choose (Classical.choose_spec h) else .inr 0
theorem q9i {l:List Symbol} {a b:List Int} (ha:TermOk l a) (hb:TermOk l b):(∃ n,unif l n ([],[]) [⟨a,b⟩]=some (unifR l a b))∧∀ x,unifR l a b = .inl x→UB l x:=by
 obtain ⟨n,r,h1,h2⟩:=unif_ends (l:=l) 12 _ ([],[]) [⟨a,b⟩] (UB.nil l) (fun p hp=>by rw [List.mem_singleton.1 hp]; exact ⟨ha,hb⟩) (by simp) (Nat.le_refl _)
 have h:∃ n r,unif l n ([],[]) [⟨a,b⟩]=some r:=⟨n,r,h1⟩
 have e:unifR l a b=Classical.choose (Classical.choose_spec h):=by unfold unifR; rw [dif_pos h]
 have hs:=Classical.choose_spec (Classical.choose_spec h)
 rw [← e] at hs
 refine ⟨⟨_,hs⟩,fun x hx => ?_⟩
 have:unifR l a b=r:=by
  have q1:=unif_mono hs (Nat.le_max_left _ n)
  have q2:=unif_mono h1 (Nat.le_max_right (Classical.choose h) n)
  rw [q1] at q2
  exact Option.some.inj q2
 exact h2 x (this ▸ hx)
noncomputable def peakR (l:List Symbol) (o i:Equation) (p:Nat):EquationResult:=match unifR l (subAt l o.left p) (q5e i.left 6) with
 | .inr c=>⟨c,⟨[],[]⟩⟩
 | .inl b =>
   if 24 < (q0i b.1 b.2 o.right).length∨24 < (q0i b.1 b.2 (q5c l o.left p (q5e i.right 6))).length then ⟨2,⟨[],[]⟩⟩
   else if 6 < (seenE ⟨q0i b.1 b.2 o.right,q0i b.1 b.2 (q5c l o.left p (q5e i.right 6))⟩).length then ⟨2,⟨[],[]⟩⟩
   else ⟨0,plainE ⟨q0i b.1 b.2 o.right,q0i b.1 b.2 (q5c l o.left p (q5e i.right 6))⟩⟩
end Ev.Ty
end
section
namespace Ev.Ty
open Go Ev
open Enc (enc)
open Sm (sm)
set_option linter.unusedSimpArgs false
set_option linter.unusedVariables false
theorem ins_take {α:Type} {l:List α} {i k:Nat} (x:α) (hi:i≤k) (hk:k < l.length):(ins l i x).take (k+2)=(ins l i x).take (k+1)++[l[k]]:=by
 have hlen:=q7g l i x (by omega)
 have h:k+1 < (ins l i x).length:=by omega
 have e:(ins l i x)[k+1]=l[k]:=by
  have:=ins_get l x i (by omega) (k+1)
  rw [if_neg (by omega),if_neg (by omega),Nat.add_sub_cancel,List.getElem?_eq_getElem hk] at this
  have h2:(ins l i x)[k+1]?=some l[k]:=this
  rw [List.getElem?_eq_getElem h] at h2
  exact Option.some.inj h2
 rw [← e]
 exact (List.take_append_getElem h).symm
theorem ins_take_eq {α:Type} {l:List α} {i:Nat} (x:α) (hi:i≤l.length):(ins l i x).take (i+1)=l.take i++[x]:=by
 unfold ins
 rw [List.take_append,List.take_of_length_le (by simp; omega)]
 simp [Nat.min_eq_left hi]
theorem ins_end {α:Type} (l:List α) (x:α):ins l l.length x=l++[x]:=by simp [ins]
theorem q5x (vs:List Int) (i:Nat) (v:Int) (hi:i≤vs.length) (hl:vs.length < 4294967296):Call F.q5x [slc vs,.int .i64 i,.sl 1 [.int .i64 v]] (slc (ins vs i v)):=by
 refine lim_ext (e:=insE 8) rfl (Ev.of fun m => ?_)
 have hc:(cells vs).length=vs.length:=by rw [q0s,q3r,Nat.mul_one]
 show (bif _ then _ else _)=_
 rw [q16 (by simp [hc,hl,Nat.ble_eq]; omega)]
 have e1:=q7i vs 1 i rfl
 have e2:=q9e vs 1 i rfl
 rw [Nat.mul_one] at e1 e2
 rw [Int.toNat_natCast,e1,e2]
 show some (T.sl 1 (cells (vs.take i)++T.int .i64 v::cells (vs.drop i)),[])=_
 unfold ins slc
 rw [q35,q5t]
 rfl
theorem q5p (ts:List (List Int)) (i:Nat) (t:List Int) (hi:i≤ts.length) (hl:ts.length < 4294967296):Call F.q5p [slc ts,.int .i64 i,.sl 1 [slc t]] (slc (ins ts i t)):=by
 refine lim_ext (e:=insE 24) rfl (Ev.of fun m => ?_)
 have hc:(cells ts).length=ts.length:=by rw [q0s,show Enc.sz (List Int)=1 from rfl,Nat.mul_one]
 show (bif _ then _ else _)=_
 rw [q16 (by simp [hc,hl,Nat.ble_eq]; omega)]
 have e1:=q7i ts 1 i rfl
 have e2:=q9e ts 1 i rfl
 rw [Nat.mul_one] at e1 e2
 rw [Int.toNat_natCast,e1,e2]
 show some (T.sl 1 (cells (ts.take i)++slc t::cells (ts.drop i)),[])=_
 unfold ins
 show _=some (T.sl 1 (cells (ts.take i++t::ts.drop i)),[])
 rw [q35,q5t]
 rfl
theorem q11 (vs:List Int) (ts:List (List Int)) (v:Int) (t:List Int) (hl:vs.length=ts.length) (hs:vs.length≤1000) (ht:t.length≤4294967296) :
 LIM F.q11 [.rref [slc vs,slc ts] 0,.int .i64 v,slc t]=some (.tup [],[.agg [slc (bput (vs,ts) v t).1,slc (bput (vs,ts) v t).2]]):=by
 have hi:=insAt_le vs v
 refine q5r rfl 1002 ((q11.ev _ _ _ _ _).trans ?_)
 have loop:∀ n k f,k+n=insAt vs v→n < f→q11.at0 1002 f (q11.st0 v (cells t) (k:Nat) (cells vs) (cells ts))=some (.tup [],[.agg [slc (bput (vs,ts) v t).1,slc (bput (vs,ts) v t).2]]):=by
  intro n
  induction n with
  | zero =>
    intro k f hk hf
    obtain ⟨f,rfl⟩:∃ x,f=x+1:=⟨f - 1,by omega⟩
    obtain rfl:k=insAt vs v:=by omega
    have q1:=(q5x vs (insAt vs v) v hi (by omega)).eq
    have q2:=(q5p ts (insAt vs v) t (by omega) (by omega)).eq
    by_cases h:insAt vs v < vs.length
    · have hs:=insAt_stop vs v h
      have hlk:vs[insAt vs v]?=some vs[insAt vs v]:=List.getElem?_eq_getElem h
      simp only [q11.next0,q11.round0,evz,Nat.reduceLT,h,hlk,q1x,hs,q1,(q2q t ht).eq,q2]
      rfl
    · simp only [q11.next0,q11.round0,evz,Nat.reduceLT,h,q1,(q2q t ht).eq,q2]
      rfl
  | succ n ih =>
    intro k f hk hf
    obtain ⟨f,rfl⟩:∃ x,f=x+1:=⟨f - 1,by omega⟩
    have h:k < vs.length:=by omega
    have hlt:=insAt_lt vs v k (by omega) h
    have hlk:vs[k]?=some vs[k]:=List.getElem?_eq_getElem h
    simp only [q11.next0,q11.round0,evz,Nat.reduceLT,h,hlk,q1x,hlt]
    rw [q0o (by omega)]
    exact ih (k+1) f (by omega) (by omega)
 exact loop (insAt vs v) 0 1002 (by omega) (by omega)
def q97 (vs:List Int) (ts:List (List Int)) (v:Int) (t:List Int) (k:Nat):Bool × List Int × List (List Int) :=
 if k≤insAt vs v then (false,vs.take k,ts.take k) else (true,(ins vs (insAt vs v) v).take (k+1),(ins ts (insAt vs v) t).take (k+1))
theorem q20 (vs:List Int) (ts:List (List Int)) (v:Int) (t:List Int) (hl:vs.length=ts.length) (hs:vs.length≤1000) (ht:t.length≤4096) (hv:v∉vs) (htm:∀ x∈ts,x.length≤4096) :
 Call F.q20 [.rref [slc vs,slc ts] 0,.int .i64 v,slc t] (.agg [slc (bput (vs,ts) v t).1,slc (bput (vs,ts) v t).2]):=by
 have hi:=insAt_le vs v
 refine q0m rfl 1002 ((q20.ev _ _ _ _ _).trans ?_)
 have key:=q86 (n:=vs.length) (f:=1002) (S:=fun m k (s:Bool × List Int × List (List Int))=>q20.at0 1002 m (q20.st0 (cells vs) (cells ts) v (cells t) s.1 (k:Nat) (cells s.2.1) (cells s.2.2)))
  (st:=q97 vs ts v t) (z:=some (.agg [slc (bput (vs,ts) v t).1,slc (bput (vs,ts) v t).2],[])) (fun m k h => ?_) (fun m => ?_) (by omega)
 · have e0:q97 vs ts v t 0=(false,[],[]):=by unfold q97; rw [if_pos (Nat.zero_le _)]; rfl
   rw [e0] at key
   exact key
 · have h':k < ts.length:=by omega
   have hlk:vs[k]?=some vs[k]:=List.getElem?_eq_getElem h
   have htk:ts[k]?=some ts[k]:=List.getElem?_eq_getElem h'
   have hx:=(q5o ts[k] (by have:=htm _ (List.getElem_mem h'); omega)).eq
   have hx2:=(q5o t (by omega)).eq
   have hne:vs[k]≠v:=fun e=>hv (e ▸ List.getElem_mem h)
   have len1:∀ q,((cells (vs.take q)).length)≤1000:=fun q=>by rw [q0s,q3r]; simp; omega
   have len2:∀ q,((cells (ts.take q)).length)≤1000:=fun q=>by rw [q0s,show Enc.sz (List Int)=1 from rfl]; simp; omega
   have len3:∀ q,((cells ((ins vs (insAt vs v) v).take q)).length)≤1001:=fun q=>by rw [q0s,q3r,List.length_take,q7g _ _ _ hi]; omega
   have len4:∀ q,((cells ((ins ts (insAt vs v) t).take q)).length)≤1001:=fun q=>by rw [q0s,show Enc.sz (List Int)=1 from rfl,List.length_take,q7g _ _ _ (by omega)]; omega
   have tk1:vs.take (k+1)=vs.take k++[vs[k]]:=(List.take_append_getElem h).symm
   have tk2:ts.take (k+1)=ts.take k++[ts[k]]:=(List.take_append_getElem h').symm
   rcases Nat.lt_trichotomy k (insAt vs v) with c | c | c
   · have hlt:=insAt_lt vs v k c h
     have hgt:¬ vs[k] > v:=by omega
     have e1:q97 vs ts v t k=(false,vs.take k,ts.take k):=if_pos (by omega)
     have e2:q97 vs ts v t (k+1)=(false,vs.take k++[vs[k]],ts.take k++[ts[k]]):=by unfold q97; rw [if_pos (by omega),tk1,tk2]
     rw [e1,e2]
     simp only [q20.next0,q20.round0,evz,Nat.reduceLT,h,h',hlk,htk,q1x,q8l,hgt,hx,q40,q8n]
     rw [q16 (q4p (by have:=len1 k; omega)),q16 (q4p (by have:=len2 k; omega)),q0o (by omega)]
   · have hs:=insAt_stop vs v (by omega)
     have hs:¬ vs[k] < v:=by
      have:vs[insAt vs v]'(by omega)=vs[k]:=by congr 1; omega
      rw [this] at hs; exact hs
     have hgt:vs[k] > v:=by omega
     have e1:q97 vs ts v t k=(false,vs.take k,ts.take k):=if_pos (by omega)
     have e2:q97 vs ts v t (k+1)=(true,(vs.take k++[v])++[vs[k]],(ts.take k++[t])++[ts[k]]):=by
      unfold q97
      rw [if_neg (by omega),← c,ins_take v (Nat.le_refl _) h,ins_take t (Nat.le_refl _) h',ins_take_eq v (by omega),ins_take_eq t (by omega)]
     rw [e1,e2]
     simp only [q20.next0,q20.round0,evz,Nat.reduceLT,h,h',hlk,htk,q1x,q8l,hgt,hx,hx2,q40,q8n]
     have l1:=len1 k
     have l2:=len2 k
     have l3:(cells (vs.take k++[v])).length≤1001:=by rw [q35,List.length_append,q0s [v]]; simp; omega
     have l4:(cells (ts.take k++[t])).length≤1001:=by rw [q35,List.length_append,q0s [t]]; simp [show Enc.sz (List Int)=1 from rfl]; omega
     rw [q16 (q4p (by omega)),q16 (q4p (by omega)),q16 (q4p (by omega)),q16 (q4p (by omega)),q0o (by omega)]
   · have e1:q97 vs ts v t k=(true,(ins vs (insAt vs v) v).take (k+1),(ins ts (insAt vs v) t).take (k+1)):=if_neg (by omega)
     have e2:q97 vs ts v t (k+1)=(true,(ins vs (insAt vs v) v).take (k+1)++[vs[k]],(ins ts (insAt vs v) t).take (k+1)++[ts[k]]):=by
      unfold q97
      rw [if_neg (by omega),ins_take v (by omega) h,ins_take t (by omega) h']
     rw [e1,e2]
     simp only [q20.next0,q20.round0,evz,Nat.reduceLT,h,h',hlk,htk,q1x,q8l,hx,q40,q8n]
     rw [q16 (q4p (by have:=len3 (k+1); omega)),q16 (q4p (by have:=len4 (k+1); omega)),q0o (by omega)]
 · have hx2:=(q5o t (by omega)).eq
   by_cases c:insAt vs v=vs.length
   · have e1:q97 vs ts v t vs.length=(false,vs,ts):=by
      unfold q97
      rw [if_pos (by omega),List.take_length,hl,List.take_length]
     have e2:bput (vs,ts) v t=(vs++[v],ts++[t]):=by
      unfold bput
      rw [c,ins_end]
      simp only [Prod.mk.injEq,true_and]
      rw [hl,ins_end]
     rw [e1,e2]
     simp only [q20.next0,q20.round0,evz,Nat.reduceLT,Nat.lt_irrefl,hx2,q40,q8n]
     rw [q16 (q4p (by rw [q0s,q3r]; omega)),q16 (q4p (by rw [q0s,show Enc.sz (List Int)=1 from rfl]; omega))]
   · have e1:q97 vs ts v t vs.length=(true,ins vs (insAt vs v) v,ins ts (insAt vs v) t):=by
      unfold q97
      rw [if_neg (by omega),List.take_of_length_le (by rw [q7g _ _ _ hi]; omega),List.take_of_length_le (by rw [q7g _ _ _ (by omega)]; omega)]
     rw [e1]
     simp only [q20.next0,q20.round0,evz,Nat.reduceLT,Nat.lt_irrefl]
     rfl
def mT:Option Bnd→T
 | none => .tup [.agg [.sl 1 [],.sl 1 []],.bool false]
 | some b => .tup [.agg [slc b.1,slc b.2],.bool true]
section
variable {l:List Symbol} (ok:SigOk ⟨l⟩)
include ok
theorem q2g {pat u:List Int} (hq:TermOk l pat) (hu:TermOk l u):Call F.q2g [.agg [slc l],slc pat,slc u] (mT (q80 l pat u 0)):=by
 have hul:=hu.le
 have hpl:=hq.le
 refine q0m rfl 25 ((q2g.ev _ _ _ _).trans ?_)
 simp only [q3y,q3r]
 have loop:∀ (q:List Int) (b:Bnd) (p k f:Nat),pat.drop k=q→q.length < f→Both l u q p []→MB l b k→k+q.length=pat.length →
  q2g.at0 25 f (q2g.st0 (cells u) (p:Nat) (cells pat) pat.length (k:Nat) (cells l) (cells b.1) (cells b.2)) =
   some (match mgo l u q b p with | none=>T.tup [.agg [.sl 1 [],.sl 1 []],.bool false] | some x => .tup [.agg [slc x.1.1,slc x.1.2],.bool (decide (x.2=u.length))],[]):=by
  intro q
  induction q with
  | nil =>
    intro b p k f hd hf hB hb hk
    obtain ⟨f,rfl⟩:∃ x,f=x+1:=⟨f - 1,by omega⟩
    have h:¬ k < pat.length:=by simp at hk; omega
    simp only [q2g.next0,q2g.round0,evz,Nat.reduceLT,h,mgo,Int.ofNat_inj]
  | cons n q ih =>
    intro b p k f hd hf hB hb hk
    rw [List.length_cons] at hf hk
    obtain ⟨f,rfl⟩:∃ x,f=x+1:=⟨f - 1,by omega⟩
    have h:k < pat.length:=by omega
    have hn:pat[k]=n:=by
     have:=congrArg (fun x=>x[0]?) hd
     simp only [List.getElem?_drop,Nat.add_zero,List.getElem?_cons_zero] at this
     rw [List.getElem?_eq_getElem h] at this
     exact Option.some.inj this
    have hd':pat.drop (k+1)=q:=by rw [← List.drop_drop,hd]; rfl
    have hlk:pat[k]?=some n:=by rw [List.getElem?_eq_getElem h,hn]
    have hp:=hB.lt
    have hpk:u[p]?=some u[p]:=List.getElem?_eq_getElem hp
    have hnode:=q5b.1 (hq.node n (hn ▸ List.getElem_mem h))
    have hp':¬ ((p:Int) ≥ (u.length:Int)):=by omega
    have hls:l.length≤6:=ok.le
    obtain ⟨h3,h4,_⟩:=q4s hu hp
    have hsl:=(q6c hu hp).2.1
    rw [mgo,if_neg (by omega)]
    by_cases c:0≤n
    · have c':n ≥ 0:=c
      rw [if_pos c,q79 hp]
      by_cases e:u[p]=n
      · simp only [q2g.next0,q2g.round0,evz,Nat.reduceLT,h,hlk,hp,hpk,hp',q1x,c',e]
        rw [q0o (by omega),q0o (by omega)]
        exact ih b (p+1) (k+1) f hd' (by omega) (hB.node (by rw [q79 hp,e])) (hb.up (by omega)) (by omega)
      · simp only [q2g.next0,q2g.round0,evz,Nat.reduceLT,h,hlk,hp,hpk,hp',q1x,c',e]
    · have c':¬ n ≥ 0:=c
      rw [if_neg c]
      have hof:=(q5a b.1 b.2 (-1 - n) hb.len (by have:=hb.le; omega)).eq
      have hB':=hB.var hu (by omega)
      have hw:IntKind.wrap .i64 (-1 - n) = -1 - n:=q3e (by omega)
      have hw2:IntKind.wrap .i64 ((p:Int)+((subAt l u p).length:Nat))=((p+(subAt l u p).length:Nat):Int):=by rw [q3e (by omega)]; omega
      have hsub:=(q3h ok hu hp).eq
      have hbl:=hb.le
      cases hbo:q65 b.1 b.2 (-1 - n) with
      | none =>
        rw [hbo] at hof
        have hbind:=q11 b.1 b.2 (-1 - n) (subAt l u p) hb.len (by omega) (by omega)
        simp only [q2g.next0,q2g.round0,evz,Nat.reduceLT,h,hlk,hp',q1x,c',hsub,hw,hof,ofT,q5h,hbind,hw2]
        rw [q0o (by omega)]
        exact ih (bput b (-1 - n) (subAt l u p)) _ (k+1) f hd' (by omega) hB' (hb.put (by omega) (q87 hu hp)) (by omega)
      | some o =>
        rw [hbo] at hof
        have ho:=hb.tm o (q7j hbo)
        have hol:=ho.le
        have heq:=(q0q o (subAt l u p) ⟨by omega,fun _ _=>trivial⟩).eq
        show _=some (match (if o=subAt l u p then mgo l u q b (p+(subAt l u p).length) else none) with | none=>_ | some x=>_,[])
        by_cases e:o=subAt l u p
        · rw [if_pos e]
          rw [e] at heq
          simp only [q2g.next0,q2g.round0,evz,Nat.reduceLT,h,hlk,hp',q1x,c',hsub,hw,hof,ofT,q5h,heq,e,hw2]
          rw [q0o (by omega)]
          exact ih b _ (k+1) f hd' (by omega) hB' (hb.up (by omega)) (by omega)
        · rw [if_neg e]
          simp only [q2g.next0,q2g.round0,evz,Nat.reduceLT,h,hlk,hp',q1x,c',hsub,hw,hof,ofT,q5h,heq,e]
 have hpos:=hu.pos
 have e0:u.drop (endAt l u 0)=[]:=by
  have:=(q6c hu (p:=0) (by omega)).2.2
  rw [List.drop_zero,hu.skip] at this
  exact (Option.some.inj this).symm
 have hB:=Both.start hu hq (p:=0) (by omega)
 rw [e0] at hB
 have hmain:=loop pat ([],[]) 0 0 25 rfl (by omega) hB (MB.nil l) (by omega)
 have hen:=mgo_end hu pat ([],[]) 0 0 hB (by omega) (MB.nil l) (by omega) hq.node
 unfold q80
 cases hm:mgo l u pat ([],[]) 0 with
 | none=>rw [hm] at hmain; exact hmain
 | some x =>
   rw [hm] at hmain
   obtain ⟨h1,h2,_⟩:=hen x hm
   have hx:x.2=u.length:=by
    have:=congrArg List.length h1
    rw [List.length_drop] at this
    simp at this
    omega
   have hmain:q2g.at0 25 25 (q2g.st0 (cells u) (0:Nat) (cells pat) pat.length (0:Nat) (cells l) (cells ([]:List Int)) (cells ([]:List (List Int))))=some (T.tup [.agg [slc x.1.1,slc x.1.2],.bool (decide (x.2=u.length))],[]):=hmain
   rw [hx,decide_eq_true rfl] at hmain
   exact hmain
theorem q1k {pat u:List Int} (hq:TermOk l pat) (hu:TermOk l u) {p0:Nat} (hp0:p0 < u.length):Call F.q1k [.rref [slc l] 0,slc pat,slc u,.int .i64 p0] (mT (q80 l pat u p0)):=by
 have hul:=hu.le
 have hpl:=hq.le
 refine q0m rfl 25 ((q1k.ev _ _ _ _ _).trans ?_)
 have loop:∀ (q:List Int) (b:Bnd) (p k f:Nat),pat.drop k=q→q.length < f→Both l u q p (u.drop (endAt l u p0))→MB l b k→k+q.length=pat.length →
  q1k.at0 25 f (q1k.st0 (cells l) (cells pat) (cells u) (p:Nat) (k:Nat) (cells b.1) (cells b.2))=some (mT ((mgo l u q b p).map (·.1)),[]):=by
  intro q
  induction q with
  | nil =>
    intro b p k f hd hf hB hb hk
    obtain ⟨f,rfl⟩:∃ x,f=x+1:=⟨f - 1,by omega⟩
    have h:¬ k < pat.length:=by simp at hk; omega
    simp only [q1k.next0,q1k.round0,evz,Nat.reduceLT,h,mgo,Option.map_some,mT]
  | cons n q ih =>
    intro b p k f hd hf hB hb hk
    rw [List.length_cons] at hf hk
    obtain ⟨f,rfl⟩:∃ x,f=x+1:=⟨f - 1,by omega⟩
    have h:k < pat.length:=by omega
    have hn:pat[k]=n:=by
     have:=congrArg (fun x=>x[0]?) hd
     simp only [List.getElem?_drop,Nat.add_zero,List.getElem?_cons_zero] at this
     rw [List.getElem?_eq_getElem h] at this
     exact Option.some.inj this
    have hd':pat.drop (k+1)=q:=by rw [← List.drop_drop,hd]; rfl
    have hlk:pat[k]?=some n:=by rw [List.getElem?_eq_getElem h,hn]
    have hp:=hB.lt
    have hpk:u[p]?=some u[p]:=List.getElem?_eq_getElem hp
    have hnode:=q5b.1 (hq.node n (hn ▸ List.getElem_mem h))
    have hp':¬ ((p:Int) ≥ (u.length:Int)):=by omega
    have hls:l.length≤6:=ok.le
    obtain ⟨h3,h4,_⟩:=q4s hu hp
    have hsl:=(q6c hu hp).2.1
    rw [mgo,if_neg (by omega)]
    by_cases c:0≤n
    · have c':n ≥ 0:=c
      rw [if_pos c,q79 hp]
      by_cases e:u[p]=n
      · simp only [q1k.next0,q1k.round0,evz,Nat.reduceLT,h,hlk,hp,hpk,hp',q1x,c',e]
        rw [q0o (by omega),q0o (by omega)]
        exact ih b (p+1) (k+1) f hd' (by omega) (hB.node (by rw [q79 hp,e])) (hb.up (by omega)) (by omega)
      · simp only [q1k.next0,q1k.round0,evz,Nat.reduceLT,h,hlk,hp,hpk,hp',q1x,c',e,Option.map_none,mT]
    · have c':¬ n ≥ 0:=c
      rw [if_neg c]
      have hof:=(q2t b.1 b.2 (-1 - n) hb.len (by have:=hb.le; omega)).eq
      have hB':=hB.var hu (by omega)
      have hw:IntKind.wrap .i64 (-1 - n) = -1 - n:=q3e (by omega)
      have hw2:IntKind.wrap .i64 ((p:Int)+((subAt l u p).length:Nat))=((p+(subAt l u p).length:Nat):Int):=by rw [q3e (by omega)]; omega
      have hsub:=(q68 ok hu hp).eq
      have hbl:=hb.le
      cases hbo:q65 b.1 b.2 (-1 - n) with
      | none =>
        rw [hbo] at hof
        have hbind:=(q20 b.1 b.2 (-1 - n) (subAt l u p) hb.len (by omega) (by omega) (bindOf_none hb.len hbo) fun x hx=>by have:=(hb.tm x hx).le; omega).eq
        simp only [q1k.next0,q1k.round0,evz,Nat.reduceLT,h,hlk,hp',q1x,c',hsub,hw,hof,Option.getD_none,q5h,hbind,hw2,List.length_nil,Int.natCast_zero,Int.ofNat_zero]
        rw [q0o (by omega)]
        exact ih (bput b (-1 - n) (subAt l u p)) _ (k+1) f hd' (by omega) hB' (hb.put (by omega) (q87 hu hp)) (by omega)
      | some o =>
        rw [hbo] at hof
        have ho:=hb.tm o (q7j hbo)
        have hol:=ho.le
        have hop:=ho.pos
        have ho0:¬ ((o.length:Int)=0):=by omega
        have heq:=(q26 o (subAt l u p) ⟨by omega,fun _ _=>trivial⟩).eq
        show _=some (mT ((if o=subAt l u p then mgo l u q b (p+(subAt l u p).length) else none).map (·.1)),[])
        by_cases e:o=subAt l u p
        · rw [if_pos e]
          have ho1:¬ (((subAt l u p).length:Int)=0):=by omega
          rw [e] at heq
          simp only [q1k.next0,q1k.round0,evz,Nat.reduceLT,h,hlk,hp',q1x,c',hsub,hw,hof,Option.getD_some,q5h,heq,e,ho0,ho1,hw2]
          rw [q0o (by omega)]
          exact ih b _ (k+1) f hd' (by omega) hB' (hb.up (by omega)) (by omega)
        · rw [if_neg e]
          simp only [q1k.next0,q1k.round0,evz,Nat.reduceLT,h,hlk,hp',q1x,c',hsub,hw,hof,Option.getD_some,q5h,heq,e,ho0,Option.map_none,mT]
 exact loop pat ([],[]) p0 0 25 rfl (by omega) (Both.start hu hq hp0) (MB.nil l) (by omega)
end
end Ev.Ty
end
section
namespace Ev.Ty
open Go Ev
open Enc (enc)
open Sm (sm)
set_option linter.unusedSimpArgs false
set_option linter.unusedVariables false
section
variable {l:List Symbol} (ok:SigOk ⟨l⟩) {rs:List Equation} (hr:∀ e∈rs,EqOk l e) (hn:rs.length≤12)
include ok hr hn
omit hr hn in
theorem q72 {e:Equation} (he:EqOk l e) {t:List Int} (ht:TermOk l t) {p:Nat} (hp:p < t.length):Call F.q72 [.agg [slc l],.agg [slc e.left,slc e.right],slc t,.int .i64 p] (.agg (enc (stepAt l e t p))):=by
 have hu:=q87 ht hp
 have hm:=(q2g ok he.left hu).eq
 rw [matchAt_sub he.left ht hp] at hm
 refine q0m rfl 0 ((q72.ev _ _ _ _ _ _).trans ?_)
 unfold stepAt
 cases hmm:q80 l e.left t p with
 | none=>rw [hmm] at hm; simp only [evz,Nat.reduceLT,(q3h ok ht hp).eq,hm,mT]; rfl
 | some b =>
   rw [hmm] at hm
   have hb:=matchAt_ok he.left ht hp hmm
   have hbo:=hb.ok he.left.le
   have hrl:=he.right.le
   have hal:=q7h hbo e.right
   simp only [evz,Nat.reduceLT,(q3h ok ht hp).eq,hm,mT,(q0l b.1 b.2 hbo e.right (by omega) (he.right.range ok)).eq,(q5y ok ht hp (q0i b.1 b.2 e.right) (by omega)).eq]
   have hfit:=(q7p (q5c l t p (q0i b.1 b.2 e.right))).eq
   by_cases h24:24 < (q5c l t p (q0i b.1 b.2 e.right)).length
   · rw [if_pos h24] at hfit ⊢
     simp only [evz,Nat.reduceLT,hfit,q3m]
   · rw [if_neg h24] at hfit ⊢
     simp only [evz,Nat.reduceLT,hfit,q3m]
omit hr hn in
theorem q6y {e:Equation} (he:EqOk l e) {t:List Int} (ht:TermOk l t) {p:Nat} (hp:p < t.length):Call F.q6y [.rref [slc l] 0,.rref [slc e.left,slc e.right] 0,.int .i64 p,slc t] (.tup [slc (stepAt l e t p).term,.int .i64 (stepAt l e t p).code]):=by
 have hm:=(q1k ok he.left ht hp).eq
 refine q0m rfl 0 ((q6y.ev _ _ _ _ _ _).trans ?_)
 unfold stepAt
 cases hmm:q80 l e.left t p with
 | none=>rw [hmm] at hm; simp only [evz,Nat.reduceLT,hm,mT]; rfl
 | some b =>
   rw [hmm] at hm
   have hb:=matchAt_ok he.left ht hp hmm
   have hbo:=hb.ok he.left.le
   have hrl:=he.right.le
   have hal:=q7h hbo e.right
   simp only [evz,Nat.reduceLT,hm,mT,(q1c b.1 b.2 hbo e.right (by omega) (he.right.range ok)).eq,(q5n ok ht hp (q0i b.1 b.2 e.right) (by omega)).eq]
   by_cases h24:24 < (q5c l t p (q0i b.1 b.2 e.right)).length
   · have h24':((q5c l t p (q0i b.1 b.2 e.right)).length:Int) > 24:=by omega
     rw [if_pos h24]
     simp only [evz,Nat.reduceLT,h24']
     rfl
   · have h24':¬ ((q5c l t p (q0i b.1 b.2 e.right)).length:Int) > 24:=by omega
     rw [if_neg h24]
     simp only [evz,Nat.reduceLT,h24']
end
end Ev.Ty
end
section
namespace Ev.Ty
open Go Ev
open Enc (enc)
open Sm (sm)
set_option linter.unusedSimpArgs false
set_option linter.unusedVariables false
def ustep (l:List Symbol) {α:Type} (b:Bnd) (p:Pr) (ps:List Pr) (out:Bnd ⊕ Int→α) (next:Bnd→List Pr→α):α :=
 if 24 < (q0i b.1 b.2 p.left).length∨24 < (q0i b.1 b.2 p.right).length then out (.inr 2)
 else if q0i b.1 b.2 p.left=q0i b.1 b.2 p.right then next b ps
 else if (q0i b.1 b.2 p.left).getD 0 0 < 0 then
  if (q0i b.1 b.2 p.left).getD 0 0∈q0i b.1 b.2 p.right then out (.inr 4) else match q7l b (-1 - (q0i b.1 b.2 p.left).getD 0 0) (q0i b.1 b.2 p.right) with
   | none=>out (.inr 2)
   | some b'=>next b' ps
 else if (q0i b.1 b.2 p.right).getD 0 0 < 0 then
  if (q0i b.1 b.2 p.right).getD 0 0∈q0i b.1 b.2 p.left then out (.inr 4) else match q7l b (-1 - (q0i b.1 b.2 p.right).getD 0 0) (q0i b.1 b.2 p.left) with
   | none=>out (.inr 2)
   | some b'=>next b' ps
 else if (q0i b.1 b.2 p.left).getD 0 0≠(q0i b.1 b.2 p.right).getD 0 0 then out (.inr 4)
 else next b (q77 l (q0i b.1 b.2 p.left) (q0i b.1 b.2 p.right)++ps)
def StackOk (b:Bnd) (ps:List Pr):Prop:=∃ new old:List Pr,ps=new++old∧psize b new≤46∧old.length≤24*b.1.length+1
theorem psize_len {l:List Symbol} {b:Bnd} (hb:UB l b):∀ {ps:List Pr},(∀ p∈ps,TermOk l p.left∧TermOk l p.right)→2*ps.length≤psize b ps
 | [],_=>by simp [psize]
 | p::ps,h=>by
   have ih:=psize_len hb (ps:=ps) fun q hq=>h q (List.mem_cons_of_mem _ hq)
   have hp:=h p (by simp)
   have h1:=q9d hb.mb p.left
   have h2:=q9d hb.mb p.right
   have:=hp.1.pos
   have:=hp.2.pos
   simp only [psize,List.map_cons,List.sum_cons,List.length_cons] at ih ⊢
   omega
theorem StackOk.len {l:List Symbol} {b:Bnd} (hb:UB l b) {ps:List Pr} (hps:∀ p∈ps,TermOk l p.left∧TermOk l p.right) (h:StackOk b ps):ps.length≤400:=by
 obtain ⟨new,old,rfl,h1,h2⟩:=h
 have:=psize_len hb (ps:=new) fun q hq=>hps q (List.mem_append_left _ hq)
 have:=hb.le
 rw [List.length_append]
 omega
theorem psize_cons (b:Bnd) (p:Pr) (ps:List Pr):psize b (p::ps)=(q0i b.1 b.2 p.left).length+(q0i b.1 b.2 p.right).length+psize b ps:=by simp [psize]
theorem psize_append (b:Bnd) (ps qs:List Pr):psize b (ps++qs)=psize b ps+psize b qs:=by simp [psize]
theorem StackOk.tail {b:Bnd} {p:Pr} {ps:List Pr} (h:StackOk b (p::ps)):StackOk b ps:=by
 obtain ⟨new,old,e,h1,h2⟩:=h
 cases new with
 | nil =>
   rw [List.nil_append] at e
   subst e
   exact ⟨[],ps,rfl,by simp [psize],by simp at h2; omega⟩
 | cons q new =>
   rw [List.cons_append] at e
   injection e with e1 e2
   rw [psize_cons] at h1
   exact ⟨new,old,e2,by omega,h2⟩
theorem StackOk.bind {l:List Symbol} {b b':Bnd} (hb:UB l b) {p:Pr} {ps:List Pr} (hps:∀ q∈p::ps,TermOk l q.left∧TermOk l q.right) (h:StackOk b (p::ps)) (hl:b'.1.length=b.1.length+1):StackOk b' ps:=by
 obtain ⟨new,old,e,h1,h2⟩:=h.tail
 have:=psize_len hb (ps:=new) fun q hq=>hps q (List.mem_cons_of_mem _ (e ▸ List.mem_append_left _ hq))
 exact ⟨[],ps,rfl,by simp [psize],by rw [e,List.length_append]; omega⟩
theorem StackOk.args {b:Bnd} {p:Pr} {ps qs:List Pr} (h:StackOk b (p::ps)) (hq:psize b qs+2=(q0i b.1 b.2 p.left).length+(q0i b.1 b.2 p.right).length) (h1:(q0i b.1 b.2 p.left).length≤24) (h2:(q0i b.1 b.2 p.right).length≤24):StackOk b (qs++ps):=by
 obtain ⟨new,old,e,h3,h4⟩:=h
 cases new with
 | nil =>
   rw [List.nil_append] at e
   subst e
   exact ⟨qs,ps,rfl,by omega,by simp at h4; omega⟩
 | cons q new =>
   rw [List.cons_append] at e
   injection e with e1 e2
   subst e1
   rw [psize_cons] at h3
   exact ⟨qs++new,old,by rw [e2,List.append_assoc],by rw [psize_append]; omega,h4⟩
theorem unif_loop {l:List Symbol} {α:Type} {S:Nat→Bnd→List Pr→α} {out:Bnd ⊕ Int→α} (hnil:∀ f b,S (f+1) b []=out (.inl b))
 (hstep:∀ f b p ps,UB l b→TermOk l p.left→TermOk l p.right→(∀ q∈ps,TermOk l q.left∧TermOk l q.right)→ps.length≤400→S (f+1) b (p::ps)=ustep l b p ps out (S f)) :
 ∀ (n f:Nat) (b:Bnd) (ps:List Pr) (r:Bnd ⊕ Int),n≤f→UB l b→(∀ p∈ps,TermOk l p.left∧TermOk l p.right)→StackOk b ps→unif l n b ps=some r→S f b ps=out r
 | 0,f,b,ps,r,hf,hb,hps,hst,h=>by cases h
 | n+1,f,b,ps,r,hf,hb,hps,hst,h=>by
   obtain ⟨f,rfl⟩:∃ q,f=q+1:=⟨f - 1,by omega⟩
   have ih:=unif_loop hnil hstep n f
   cases ps with
   | nil=>cases h; exact hnil f b
   | cons p ps =>
     have hp:=hps p (by simp)
     have hps':∀ q∈ps,TermOk l q.left∧TermOk l q.right:=fun q hq=>hps q (List.mem_cons_of_mem _ hq)
     have hlen:=hst.len hb hps
     rw [hstep f b p ps hb hp.1 hp.2 hps' (by simp at hlen; omega)]
     unfold ustep
     rw [unif] at h
     split at h
     · rename_i c; rw [if_pos c]; cases h; rfl
     rename_i c1
     rw [if_neg c1]
     have hx:=hb.applied_ok hp.1 (by omega)
     have hy:=hb.applied_ok hp.2 (by omega)
     have bindcase:∀ (u t:List Int),TermOk l (q0i b.1 b.2 u)→TermOk l (q0i b.1 b.2 t)→(q0i b.1 b.2 u).getD 0 0 < 0→(q0i b.1 b.2 u).getD 0 0∉q0i b.1 b.2 t→∀ b',q7l b (-1 - (q0i b.1 b.2 u).getD 0 0) (q0i b.1 b.2 t)=some b' →
      unif l n b' ps=some r→S f b' ps=out r:=fun u t hu ht hneg hno b' hb' hr=>by
      obtain ⟨hv,hnb⟩:=hb.head_var hu hneg
      obtain ⟨q1,q2⟩:=bindAll_ub hb hv hnb ht (hb.applied_free t) (by rw [show -1 - (-1 - (q0i b.1 b.2 u).getD 0 0)=(q0i b.1 b.2 u).getD 0 0 by omega]; exact hno) hb'
      exact ih b' ps r (by omega) q1 hps' (hst.bind hb hps q2) hr
     split at h
     · rename_i c; rw [if_pos c]; exact ih b ps r (by omega) hb hps' hst.tail h
     rename_i c2
     rw [if_neg c2]
     split at h
     · rename_i c3
       rw [if_pos c3]
       split at h
       · rename_i c; rw [if_pos c]; cases h; rfl
       rename_i c4
       rw [if_neg c4]
       cases hb':q7l b (-1 - (q0i b.1 b.2 p.left).getD 0 0) (q0i b.1 b.2 p.right) with
       | none=>rw [hb'] at h; cases h; rfl
       | some b'=>rw [hb'] at h; exact bindcase p.left p.right hx hy c3 c4 b' hb' h
     rename_i c3
     rw [if_neg c3]
     split at h
     · rename_i c5
       rw [if_pos c5]
       split at h
       · rename_i c; rw [if_pos c]; cases h; rfl
       rename_i c4
       rw [if_neg c4]
       cases hb':q7l b (-1 - (q0i b.1 b.2 p.right).getD 0 0) (q0i b.1 b.2 p.left) with
       | none=>rw [hb'] at h; cases h; rfl
       | some b'=>rw [hb'] at h; exact bindcase p.right p.left hy hx c5 c4 b' hb' h
     rename_i c5
     rw [if_neg c5]
     split at h
     · rename_i c; rw [if_pos c]; cases h; rfl
     rename_i c6
     rw [if_neg c6]
     have ha:=args_size (b:=b) hx hy (hb.applied_free _) (hb.applied_free _) (by simpa using c6)
     exact ih b _ r (by omega) hb (fun q hq=>by
      rcases List.mem_append.1 hq with hq | hq
      · exact args_ok hx hy q hq
      · exact hps' q hq) (hst.args ha hx.le hy.le) h
theorem cells_tail (p:Pr) (ps:List Pr):((cells (p::ps)).take ((p::ps).length*2)).drop (1*2)=cells ps:=by
 rw [q7i (p::ps) 2 _ rfl,List.take_length,q9e _ 2 1 rfl]; rfl
def uT:Bnd ⊕ Int→R
 | .inl b=>some (.tup [.agg [slc b.1,slc b.2],.int .i64 0],[])
 | .inr c=>some (.tup [.agg [.sl 1 [],.sl 1 []],.int .i64 c],[])
theorem q9g {l:List Symbol} {t:List Int} (h:TermOk l t):(cells t)[0]?=some (.int .i64 (t.getD 0 0)):=by
 have hp:=h.pos
 have:=get0 (l:=t) (k:=1) (i:=0) rfl
 rw [Nat.zero_mul] at this
 rw [this,List.getElem?_eq_getElem (by omega),q79 (by omega)]; rfl
section
variable {l:List Symbol} (ok:SigOk ⟨l⟩)
include ok
theorem impl_unify5 {b:Bnd} (hb:UB l b) {ps:List Pr} {u t:List Int} (hu:TermOk l u) (ht:TermOk l t) (hv:0 ≤ -1 - u.getD 0 0 ∧ -1 - u.getD 0 0≤11) {N:Nat} (hN:20≤N) (L0:St→R) :
 q0h.at5 N L0 N (q0h.st5 (cells ps) (cells u) (cells t) b.2.length (0:Nat) (cells l) (cells b.1) (cells b.2) [.int .i64 (-1 - u.getD 0 0)] [slc t]) =
  match q7l b (-1 - u.getD 0 0) t with
  | none=>uT (.inr 2)
  | some b'=>L0 (q0h.st0 (cells ps) (cells l) (cells b'.1) (cells b'.2)):=by
 have hbl:=hb.le
 have hlen:=hb.mb.len
 have htl:=ht.le
 have hpu:=hu.pos
 have hone:=one_mb (l:=l) hv ht
 have hbo:=hone.ok (by omega)
 obtain ⟨v,hve⟩:∃ v,v = -1 - u.getD 0 0:=⟨_,rfl⟩
 have hwr:IntKind.wrap .i64 (-1 - u.getD 0 0)=v:=by rw [q3e (by omega),hve]
 rw [← hve] at hv hone hbo ⊢
 have loop:∀ n k f,k+n=b.2.length→n < f →
  q0h.at5 N L0 f (q0h.st5 (cells ps) (cells u) (cells t) b.2.length (k:Nat) (cells l) (cells b.1) (cells ((b.2.take k).map (q0i [v] [t])++b.2.drop k)) [.int .i64 v] [slc t]) =
   if ((b.2.drop k).any fun x=>decide (24 < (q0i [v] [t] x).length))=true then uT (.inr 2) else
    L0 (q0h.st0 (cells ps) (cells l) (cells (bput (b.1,b.2.map (q0i [v] [t])) v t).1) (cells (bput (b.1,b.2.map (q0i [v] [t])) v t).2)):=by
  intro n
  induction n with
  | zero =>
    intro k f hk hf
    obtain ⟨f,rfl⟩:∃ x,f=x+1:=⟨f - 1,by omega⟩
    obtain rfl:k=b.2.length:=by omega
    rw [List.take_length,List.drop_of_length_le (Nat.le_refl _),List.append_nil]
    have hbind:=q11 b.1 (b.2.map (q0i [v] [t])) v t (by simp; omega) (by omega) (by omega)
    have hu0:=q9g hu
    have hpu':(0:Int) < u.length:=by omega
    simp only [q0h.next5,q0h.round5,evz,Nat.reduceLT,Nat.lt_irrefl,hu0,hwr,qam (k:=1) (l:=t) rfl,hbind,List.any_nil,Bool.false_eq_true]
    rw [show inB (0:Int) u.length=true from (q8c 0 u.length).trans (by simp; omega)]
    rfl
  | succ n ih =>
    intro k f hk hf
    obtain ⟨f,rfl⟩:∃ x,f=x+1:=⟨f - 1,by omega⟩
    have hkl:k < b.2.length:=by omega
    have hto:=hb.mb.tm _ (List.getElem_mem hkl)
    have htol:=hto.le
    have happ:LIM F.q0l [.agg [.sl 1 [.int .i64 v],.sl 1 [slc t]],slc b.2[k]]=some (slc (q0i [v] [t] b.2[k]),[]):=(q0l [v] [t] hbo b.2[k] (by omega) (hto.range ok)).eq
    obtain ⟨M,hM⟩:∃ M,M=(b.2.take k).map (q0i [v] [t])++b.2.drop k:=⟨_,rfl⟩
    have hMl:M.length=b.2.length:=by rw [hM]; simp; omega
    have hMk:M[k]?=some b.2[k]:=by
     rw [hM,List.getElem?_append_right (by simp; omega)]
     simp [Nat.min_eq_left (Nat.le_of_lt hkl),List.getElem?_eq_getElem hkl]
    have hkM:k < M.length:=by omega
    have hget:(cells M)[k*1]?=some (slc b.2[k]):=by
     rw [get0 (l:=M) (k:=1) (i:=k) rfl,hMk]; rfl
    have hkc:k*1 < (cells M).length:=by rw [q0s]; simp [show Enc.sz (List Int)=1 from rfl]; omega
    have hset:(cells M).set (k*1) (slc (q0i [v] [t] b.2[k]))=cells (M.set k (q0i [v] [t] b.2[k])):=by
     have:=set_List (l:=M) hkM (q0i [v] [t] b.2[k])
     simpa [setCells] using this
    have hnext:M.set k (q0i [v] [t] b.2[k])=(b.2.take (k+1)).map (q0i [v] [t])++b.2.drop (k+1):=by
     have e1:b.2.take (k+1)=b.2.take k++[b.2[k]]:=(List.take_append_getElem hkl).symm
     rw [hM,e1,List.map_append,List.set_append_right _ _ (by simp; omega)]
     rw [show k - ((b.2.take k).map (q0i [v] [t])).length=0 by simp; omega,List.drop_eq_getElem_cons hkl,List.set_cons_zero]
     simp
    rw [← hM,List.drop_eq_getElem_cons hkl,List.any_cons]
    have hin:inB (k:Int) ((cells M).length / 1)=true:=by rw [q8c]; simp [q0s,show Enc.sz (List Int)=1 from rfl]; omega
    by_cases h24:24 < (q0i [v] [t] b.2[k]).length
    · have h24':((q0i [v] [t] b.2[k]).length:Int) > 24:=by omega
      simp only [q0h.next5,q0h.round5,Int.toNat_natCast,hget,hin,List.set_set,List.length_set,List.getElem?_set_self hkc,hkc,evz,Nat.reduceLT,hkl,happ,hkM,h24',h24,Bool.true_or]
      rfl
    · have h24':¬ ((q0i [v] [t] b.2[k]).length:Int) > 24:=by omega
      simp only [q0h.next5,q0h.round5,Int.toNat_natCast,hget,hin,List.set_set,List.length_set,List.getElem?_set_self hkc,hkc,evz,Nat.reduceLT,hkl,happ,hkM,h24',h24,Bool.false_or,qam (k:=1) (l:=q0i [v] [t] b.2[k]) rfl,hset,hnext]
      rw [q0o (by omega)]
      exact ih (k+1) f (by omega) (by omega)
 have:=loop b.2.length 0 N (by omega) (by omega)
 rw [List.take_zero,List.map_nil,List.nil_append,List.drop_zero] at this
 rw [this]
 unfold q7l
 by_cases h:(b.2.any fun x=>decide (24 < (q0i [v] [t] x).length))=true
 · rw [if_pos h,if_pos h]
 · rw [if_neg h,if_neg h]
theorem impl_unify3 {b:Bnd} {ps:List Pr} (hps:ps.length≤400) {x y:List Int} (hx:TermOk l x) (hy:TermOk l y) (he:x.getD 0 0=y.getD 0 0) {N:Nat} (hN:20≤N) (L0:St→R) :
 q0h.at3 N L0 N (q0h.st3 (cells ps) (cells x) (cells y) (q3n l x 0).length (0:Nat) (cells l) (cells b.1) (cells b.2) (cells (ints (q3n l y 0))) (cells (ints (q3n l x 0))) (cells ([]:List Pr))) =
  L0 (q0h.st0 (cells (q77 l x y++ps)) (cells l) (cells b.1) (cells b.2)):=by
 have hl:(q3n l x 0).length=(q3n l y 0).length:=by unfold q3n; rw [q62,q62,he]
 have h2:=qa6 ok x 0
 have hmx:∀ q∈q3n l x 0,q < x.length:=fun q hq=>(q5s hx (p:=0) (by have:=hx.pos; omega) hq).2
 have hmy:∀ q∈q3n l y 0,q < y.length:=fun q hq=>(q5s hy (p:=0) (by have:=hy.pos; omega) hq).2
 have hzl:((q3n l x 0).zip (q3n l y 0)).length=(q3n l x 0).length:=by rw [List.length_zip]; omega
 have key:=q86 (n:=(q3n l x 0).length) (f:=N) (S:=fun m k (o:List Pr)=>q0h.at3 N L0 m (q0h.st3 (cells ps) (cells x) (cells y) (q3n l x 0).length (k:Nat) (cells l) (cells b.1) (cells b.2) (cells (ints (q3n l y 0))) (cells (ints (q3n l x 0))) (cells o)))
  (st:=fun k=>(q77 l x y).take k) (z:=L0 (q0h.st0 (cells (q77 l x y++ps)) (cells l) (cells b.1) (cells b.2))) (fun m k h => ?_) (fun m => ?_) (by omega)
 · exact key
 · have hky:k < (q3n l y 0).length:=by omega
   have hax:(ints (q3n l x 0))[k]?=some (((q3n l x 0)[k]:Nat):Int):=q7o h
   have hay:(ints (q3n l y 0))[k]?=some (((q3n l y 0)[k]:Nat):Int):=q7o hky
   have hsx:=(q3h ok hx (hmx _ (List.getElem_mem h))).eq
   have hsy:=(q3h ok hy (hmy _ (List.getElem_mem hky))).eq
   have hal:k < (q77 l x y).length:=by unfold q77; rw [List.length_map,hzl]; exact h
   have hak:(q77 l x y)[k]=⟨subAt l x (q3n l x 0)[k],subAt l y (q3n l y 0)[k]⟩:=by simp [q77]
   have e1:(q77 l x y).take (k+1)=(q77 l x y).take k++[⟨subAt l x (q3n l x 0)[k],subAt l y (q3n l y 0)[k]⟩]:=by rw [← hak]; exact (List.take_append_getElem hal).symm
   have e2:∀ (A:List Pr) (p q:List Int),cells A++[slc p,slc q]=cells (A++[⟨p,q⟩]):=fun A p q=>by rw [q35]; rfl
   rw [e1]
   simp only [q0h.next3,q0h.round3,evz,Nat.reduceLT,h,hky,q46,hax,hay,q1x,hsx,hsy,e2]
   rw [q0o (by omega),q16 (q4p (by rw [q0s,q39]; simp; omega))]
 · rw [List.take_of_length_le (by unfold q77; rw [List.length_map,hzl]; exact Nat.le_refl _)]
   have hal:(q77 l x y).length≤2:=by unfold q77; rw [List.length_map,hzl]; exact h2
   simp only [q0h.next3,q0h.round3,evz,Nat.reduceLT,Nat.lt_irrefl,← q35]
   rw [q16 (q4p (by rw [q0s,q0s,q39]; omega))]
theorem q0h {a b:List Int} (ha:TermOk l a) (hb:TermOk l b):LIM F.q0h [.agg [slc l],slc a,slc b]=uT (unifR l a b):=by
 obtain ⟨⟨n,hn⟩,_⟩:=q9i ha hb
 have hcall:∀ r,callK prog Ev.A H LIM (n+20) F.q0h [.agg [slc l],slc a,slc b]=uT r→LIM F.q0h [.agg [slc l],slc a,slc b]=uT r:=fun r h=>by
  cases r with
  | inl x=>exact q0m rfl _ h
  | inr x=>exact q0m rfl _ h
 refine hcall _ ((q0h.ev _ _ _ _).trans ?_)
 have loop:=unif_loop (l:=l) (S:=fun f (b:Bnd) (ps:List Pr)=>q0h.at0 (n+20) f (q0h.st0 (cells ps) (cells l) (cells b.1) (cells b.2))) (out:=uT)
  (fun f b=>by
   simp only [q0h.next0,q0h.round0,cells_nil,List.length_nil]
   rfl)
  (fun f b p ps hb h1 h2 hps hl => ?_) n (n+20) ([],[]) [⟨a,b⟩] _ (by omega) (UB.nil l) (fun p hp=>by rw [List.mem_singleton.1 hp]; exact ⟨ha,hb⟩) ⟨[],_,rfl,by simp [psize],by simp⟩ hn
 · exact loop
 · have hbo:=hb.mb.ok (by omega)
   have hl1:=h1.le
   have hl2:=h2.le
   have a1:=(q0l b.1 b.2 hbo p.left (by omega) (h1.range ok)).eq
   have a2:=(q0l b.1 b.2 hbo p.right (by omega) (h2.range ok)).eq
   have g0:(cells (p::ps))[0]?=some (slc p.left):=rfl
   have g1:(cells (p::ps))[1]?=some (slc p.right):=rfl
   have hpl:((p::ps).length:Int) > 0:=by simp
   have hin:inB (0:Int) (p::ps).length=true:=(q8c 0 _).trans (by simp)
   have hfx:=hb.applied_free p.left
   have hfy:=hb.applied_free p.right
   have hox:=fun h=>hb.applied_ok h1 h
   have hoy:=fun h=>hb.applied_ok h2 h
   have hhx:=fun h h'=>hb.head_var (hox h) h'
   have hhy:=fun h h'=>hb.head_var (hoy h) h'
   have hb1:decide (0≤(1:Int))=true:=rfl
   have hb2:(1:Int)≤((p::ps).length:Int):=by simp only [List.length_cons]; omega
   have hlx:=q7h hbo p.left
   have hly:=q7h hbo p.right
   obtain ⟨Z,hZ⟩:∃ Z,Z=ustep l b p ps uT (fun (b:Bnd) (ps:List Pr)=>q0h.at0 (n+20) f (q0h.st0 (cells ps) (cells l) (cells b.1) (cells b.2))):=⟨_,rfl⟩
   show _=ustep l b p ps uT (fun (b:Bnd) (ps:List Pr)=>q0h.at0 (n+20) f (q0h.st0 (cells ps) (cells l) (cells b.1) (cells b.2)))
   rw [← hZ]
   unfold ustep at hZ
   simp only [q0h.next0,q0h.round0,evz,Nat.reduceLT,hpl,hin,g0,g1,a1,a2,hb1,hb2,Int.le_refl,Bool.and_self,cells_tail]
   generalize q0i b.1 b.2 p.left=x at *
   generalize q0i b.1 b.2 p.right=y at *
   by_cases c1:24 < x.length
   · have c1':(x.length:Int) > 24:=by omega
     rw [if_pos (.inl c1)] at hZ
     simp only [c1',evz,Nat.reduceLT]
     rw [hZ]
     rfl
   by_cases c1b:24 < y.length
   · have c1':¬ (x.length:Int) > 24:=by omega
     have c1b':(y.length:Int) > 24:=by omega
     rw [if_pos (.inr c1b)] at hZ
     simp only [c1',c1b',evz,Nat.reduceLT]
     rw [hZ]
     rfl
   have c1':¬ (x.length:Int) > 24:=by omega
   have c1b':¬ (y.length:Int) > 24:=by omega
   have hx:=hox (by omega)
   have hy:=hoy (by omega)
   have hxp:=hx.pos
   have hyp:=hy.pos
   have heq:=(q0q x y ⟨by omega,fun _ _=>trivial⟩).eq
   rw [if_neg (by omega)] at hZ
   by_cases c2:x=y
   · rw [if_pos c2] at hZ
     rw [decide_eq_true c2] at heq
     simp only [c1',c1b',evz,Nat.reduceLT,heq]
     rw [hZ]
   rw [if_neg c2] at hZ
   rw [decide_eq_false c2] at heq
   have x0:=q9g hx
   have y0:=q9g hy
   have inx:inB (0:Int) x.length=true:=(q8c 0 _).trans (by simp; omega)
   have iny:inB (0:Int) y.length=true:=(q8c 0 _).trans (by simp; omega)
   by_cases c3:x.getD 0 0 < 0
   · have c3':¬ x.getD 0 0 ≥ 0:=by omega
     obtain ⟨hv,_⟩:=hhx (by omega) c3
     have hct:=(q1i y (x.getD 0 0) (by omega)).eq
     have h5:=impl_unify5 ok hb (ps:=ps) hx hy hv (N:=n+20) (by omega) (q0h.at0 (n+20) f)
     rw [if_pos c3] at hZ
     by_cases c4:x.getD 0 0∈y
     · rw [if_pos c4] at hZ
       rw [decide_eq_true c4] at hct
       simp only [c1',c1b',evz,Nat.reduceLT,heq,inx,x0,c3,c3',hct]
       rw [hZ]
       rfl
     · rw [if_neg c4] at hZ
       rw [decide_eq_false c4] at hct
       simp only [c1',c1b',evz,Nat.reduceLT,heq,inx,x0,c3,c3',hct,q3e (x := -1 - x.getD 0 0) (by omega),qam (k:=1) (l:=y) rfl]
       rw [hZ]
       exact h5
   rw [if_neg c3] at hZ
   have c3':x.getD 0 0 ≥ 0:=by omega
   by_cases c5:y.getD 0 0 < 0
   · obtain ⟨hv,_⟩:=hhy (by omega) c5
     have hct:=(q1i x (y.getD 0 0) (by omega)).eq
     have h5:=impl_unify5 ok hb (ps:=ps) hy hx hv (N:=n+20) (by omega) (q0h.at0 (n+20) f)
     rw [if_pos c5] at hZ
     by_cases c4:y.getD 0 0∈x
     · rw [if_pos c4] at hZ
       rw [decide_eq_true c4] at hct
       simp only [c1',c1b',evz,Nat.reduceLT,heq,inx,iny,x0,y0,c3,c3',c5,hct]
       rw [hZ]
       rfl
     · rw [if_neg c4] at hZ
       rw [decide_eq_false c4] at hct
       simp only [c1',c1b',evz,Nat.reduceLT,heq,inx,iny,x0,y0,c3,c3',c5,hct,q3e (x := -1 - y.getD 0 0) (by omega),qam (k:=1) (l:=x) rfl]
       rw [hZ]
       exact h5
   rw [if_neg c5] at hZ
   by_cases c6:x.getD 0 0=y.getD 0 0
   · rw [if_neg (by simpa using c6)] at hZ
     have h3:=impl_unify3 ok (b:=b) (ps:=ps) hl hx hy c6 (N:=n+20) (by omega) (q0h.at0 (n+20) f)
     have sx:=(q0w ok hx (p:=0) (by omega)).eq
     have sy:=(q0w ok hy (p:=0) (by omega)).eq
     simp only [c1',c1b',evz,Nat.reduceLT,heq,inx,iny,x0,y0,c3,c5,c6]
     rw [c6] at c3
     have sx':LIM F.q0w [.agg [slc l],slc x,.int .i64 0]=some (slc (ints (q3n l x 0)),[]):=sx
     have sy':LIM F.q0w [.agg [slc l],slc y,.int .i64 0]=some (slc (ints (q3n l y 0)),[]):=sy
     simp only [c5,evz,Nat.reduceLT,sx',sy',q46]
     rw [hZ]
     exact h3
   · rw [if_pos c6] at hZ
     simp only [c1',c1b',evz,Nat.reduceLT,heq,inx,iny,x0,y0,c3,c5,c6]
     rw [hZ]
     rfl
end
end Ev.Ty
end
section
namespace Ev.Ty
open Go Ev
open Enc (enc)
open Sm (sm)
set_option linter.unusedSimpArgs false
set_option linter.unusedVariables false
def sbindR (b:Bnd) (v:Int) (t:List Int):Bnd ⊕ Int:=if -1 - v∈t then .inr 4 else match q7l b v t with
 | none => .inr 2
 | some b' => .inl b'
section
variable {l:List Symbol} (ok:SigOk ⟨l⟩)
include ok
theorem q2h {b:Bnd} (hb:UB l b) {v:Int} (hv:0≤v∧v≤11) (hnb:v∉b.1) {t:List Int} (ht:TermOk l t) :
 LIM F.q2h [.rref [slc b.1,slc b.2] 0,.int .i64 v,slc t]=uT (sbindR b v t):=by
 have hcall:∀ r,callK prog Ev.A H LIM 20 F.q2h [.rref [slc b.1,slc b.2] 0,.int .i64 v,slc t]=uT r→LIM F.q2h [.rref [slc b.1,slc b.2] 0,.int .i64 v,slc t]=uT r:=fun r h=>by
  cases r with
  | inl x=>exact q0m rfl _ h
  | inr x=>exact q0m rfl _ h
 have hbl:=hb.le
 have hlen:=hb.mb.len
 have htl:=ht.le
 have hone:=one_mb (l:=l) hv ht
 have hbo:=hone.ok (by omega)
 refine hcall _ ((q2h.ev _ _ _ _ _).trans ?_)
 have hc:=(q21 t (-1 - v) (by omega)).eq
 have hi:=(q5o b.1 (by omega)).eq
 unfold sbindR
 by_cases hm : -1 - v∈t
 · have h0:((t.count (-1 - v):Nat):Int) > 0:=by have:=List.count_pos_iff.2 hm; omega
   rw [if_pos hm]
   simp only [evz,Nat.reduceLT,q3e (x := -1 - v) (by omega),hc,h0]
   rfl
 have h0:¬ ((t.count (-1 - v):Nat):Int) > 0:=by rw [List.count_eq_zero.2 hm]; omega
 rw [if_neg hm]
 simp only [evz,Nat.reduceLT,q3e (x := -1 - v) (by omega),hc,h0,hi]
 have loop:∀ n k f,k+n=b.2.length→n < f→(∀ x∈b.2.take k,(q0i [v] [t] x).length≤24) →
  q2h.at0 20 f (q2h.st0 (cells b.1) (cells b.2) v (cells t) (k:Nat) [.int .i64 v] [slc t] (cells b.1) (cells ((b.2.take k).map (q0i [v] [t])))) =
   if ((b.2.drop k).any fun x=>decide (24 < (q0i [v] [t] x).length))=true then uT (.inr 2) else uT (.inl (bput (b.1,b.2.map (q0i [v] [t])) v t)):=by
  intro n
  induction n with
  | zero =>
    intro k f hk hf hq
    obtain ⟨f,rfl⟩:∃ x,f=x+1:=⟨f - 1,by omega⟩
    obtain rfl:k=b.2.length:=by omega
    rw [List.take_length] at hq ⊢
    rw [List.drop_of_length_le (Nat.le_refl _)]
    have hw:=(q20 b.1 (b.2.map (q0i [v] [t])) v t (by simp; omega) (by omega) (by omega) hnb (fun x hx=>by
     obtain ⟨y,hy,rfl⟩:=List.mem_map.1 hx
     have:=hq y hy
     omega)).eq
    simp only [q2h.next0,q2h.round0,evz,Nat.reduceLT,Nat.lt_irrefl,hw,List.any_nil,Bool.false_eq_true,if_false]
    rfl
  | succ n ih =>
    intro k f hk hf hq
    obtain ⟨f,rfl⟩:∃ x,f=x+1:=⟨f - 1,by omega⟩
    have hkl:k < b.2.length:=by omega
    have hto:=hb.mb.tm _ (List.getElem_mem hkl)
    have htol:=hto.le
    have happ:LIM F.q1c [.rref [.sl 1 [.int .i64 v],.sl 1 [slc t]] 0,slc b.2[k]]=some (slc (q0i [v] [t] b.2[k]),[]):=(q1c [v] [t] hbo b.2[k] (by omega) (hto.range ok)).eq
    have hg:b.2[k]?=some b.2[k]:=List.getElem?_eq_getElem hkl
    have he:∀ x:List Int,(enc x)[0]?=some (slc x):=fun _=>rfl
    rw [List.drop_eq_getElem_cons hkl,List.any_cons]
    have e1:(b.2.take (k+1)).map (q0i [v] [t])=(b.2.take k).map (q0i [v] [t])++[q0i [v] [t] b.2[k]]:=by rw [← List.take_append_getElem hkl,List.map_append]; rfl
    by_cases h24:24 < (q0i [v] [t] b.2[k]).length
    · have h24':((q0i [v] [t] b.2[k]).length:Int) > 24:=by omega
      simp only [q2h.next0,q2h.round0,evz,Nat.reduceLT,hkl,hg,he,happ,h24',h24,Bool.true_or]
      rfl
    · have h24':¬ ((q0i [v] [t] b.2[k]).length:Int) > 24:=by omega
      simp only [q2h.next0,q2h.round0,evz,Nat.reduceLT,hkl,hg,he,happ,h24',h24,Bool.false_or]
      rw [q0o (by omega),q16 (q4p (by rw [q0s,show Enc.sz (List Int)=1 from rfl]; simp; omega))]
      have:=ih (k+1) f (by omega) (by omega) (fun x hx=>by
       rw [← List.take_append_getElem hkl] at hx
       rcases List.mem_append.1 hx with hx | hx
       · exact hq x hx
       · rw [List.mem_singleton.1 hx]; omega)
      rw [e1,q35] at this
      exact this
 have:=loop b.2.length 0 20 (by omega) (by omega) (by simp)
 rw [List.take_zero,List.map_nil,List.drop_zero] at this
 refine this.trans ?_
 unfold q7l
 by_cases h:(b.2.any fun x=>decide (24 < (q0i [v] [t] x).length))=true
 · rw [if_pos h,if_pos h]
 · rw [if_neg h,if_neg h]
theorem q2w {x y:List Int} (hx:TermOk l x) (hy:TermOk l y) (h0:0≤x.getD 0 0) (he:x.getD 0 0=y.getD 0 0):Call F.q2w [.rref [slc l] 0,slc x,slc y] (slc (q77 l x y)):=by
 have hlx:=hx.le
 have hly:=hy.le
 have hxp:=hx.pos
 have hyp:=hy.pos
 have hdx:x.getD 0 0=x[0]:=q79 (by omega)
 have hdy:y.getD 0 0=y[0]:=q79 (by omega)
 have har:=ar_le (l:=l) ok x[0]
 have hnode:=q5b.1 (hx.node _ (List.getElem_mem (n:=0) (by omega)))
 have hls:l.length≤6:=ok.le
 obtain ⟨u,hu⟩:∃ u:Nat,x[0]=u:=⟨x[0].toNat,by omega⟩
 have hul:u < l.length:=by omega
 have hare:(l[u]).arity=(ar l x[0]:Nat):=by
  have:=ar_eq ok (n:=x[0]) (by omega) (by rw [hu]; simpa using hul)
  simpa [hu] using this
 have hin:inB (0:Int) x.length=true:=(q8c 0 _).trans (by simp; omega)
 have hx0:=q9g hx
 rw [hdx,hu] at hx0
 have hlu:l[u]?=some l[u]:=List.getElem?_eq_getElem hul
 refine q0m rfl 4 ((q2w.ev _ _ _ _).trans ?_)
 have loop:∀ n k q r f (out:List Pr) rx ry,k+n=ar l x[0]→n < f→skip (ar l) n (x.drop q)=some rx→skip (ar l) n (y.drop r)=some ry→out.length=k →
  q2w.at0 4 f (q2w.st0 (cells l) (cells x) (cells y) (q:Nat) (r:Nat) (k:Nat) (cells out)) =
   some (slc (out++((q73 l x n q).zip (q73 l y n r)).map fun p=>(⟨subAt l x p.1,subAt l y p.2⟩:Pr)),[]):=by
  intro n
  induction n with
  | zero =>
    intro k q r f out rx ry hk hf h1 h2 ho
    obtain ⟨f,rfl⟩:∃ x,f=x+1:=⟨f - 1,by omega⟩
    have:¬ k < ar l x[0]:=by omega
    rw [hu] at this
    simp only [q2w.next0,q2w.round0,evz,Nat.reduceLT,hin,hx0,hlu,hul,q53,hare,q73,List.zip_nil_left,List.map_nil,List.append_nil,hu,this]
  | succ n ih =>
    intro k q r f out rx ry hk hf h1 h2 ho
    obtain ⟨f,rfl⟩:∃ x,f=x+1:=⟨f - 1,by omega⟩
    obtain ⟨a1,a2,a3,a4⟩:=skip_one h1
    obtain ⟨b1,b2,b3,b4⟩:=skip_one h2
    have hlt:k < ar l x[0]:=by omega
    rw [hu] at hlt
    have sx:=(q68 ok hx a1).eq
    have sy:=(q68 ok hy b1).eq
    have ex:q+(subAt l x q).length=endAt l x q:=by unfold subAt; simp; omega
    have ey:r+(subAt l y r).length=endAt l y r:=by unfold subAt; simp; omega
    have ic:=ih (k+1) (endAt l x q) (endAt l y r) f (out++[⟨subAt l x q,subAt l y r⟩]) rx ry (by omega) (by omega) a2 b2 (by simp [ho])
    simp only [q2w.next0,q2w.round0,evz,Nat.reduceLT,hin,hx0,hlu,hul,q53,hare,hu,hlt,sx,sy]
    rw [q3e (x:=(q:Int)+_) (by omega),q3e (x:=(r:Int)+_) (by omega),q0o (by omega),q16 (q4p (by rw [q0s,q39]; omega))]
    rw [show (q:Int)+((subAt l x q).length:Nat)=(endAt l x q:Nat) by omega,show (r:Int)+((subAt l y r).length:Nat)=(endAt l y r:Nat) by omega]
    rw [q35] at ic
    refine Eq.trans ?_ (ic.trans ?_)
    · rfl
    · rw [q73,q73,List.zip_cons_cons,List.map_cons,List.append_assoc]; rfl
 obtain ⟨rx,hrx⟩:=qad hx (p:=0) (by omega)
 obtain ⟨ry,hry⟩:=qad hy (p:=0) (by omega)
 have hay:ar l y[0]=ar l x[0]:=by rw [← hdx,← hdy,he]
 rw [hay] at hry
 have:=loop (ar l x[0]) 0 1 1 4 [] rx ry (by omega) (by omega) hrx hry rfl
 unfold q77 q3n
 rw [hdx,hdy,hay]
 exact this
theorem q1n {a b:List Int} (ha:TermOk l a) (hb:TermOk l b):LIM F.q1n [.rref [slc l] 0,slc a,slc b]=uT (unifR l a b):=by
 obtain ⟨⟨n,hn⟩,_⟩:=q9i ha hb
 have hal:=ha.le
 have hbl:=hb.le
 have hcall:∀ r,callK prog Ev.A H LIM (n+20) F.q1n [.rref [slc l] 0,slc a,slc b]=uT r→LIM F.q1n [.rref [slc l] 0,slc a,slc b]=uT r:=fun r h=>by
  cases r with
  | inl x=>exact q0m rfl _ h
  | inr x=>exact q0m rfl _ h
 refine hcall _ ((q1n.ev _ _ _ _).trans ?_)
 have i1:=(q5o a (by omega)).eq
 have i2:=(q5o b (by omega)).eq
 simp only [evz,Nat.reduceLT,i1,i2]
 have loop:=unif_loop (l:=l) (S:=fun f (b:Bnd) (ps:List Pr)=>q1n.at0 (n+20) f (q1n.st0 (cells l) (cells ps) (cells b.1) (cells b.2))) (out:=uT)
  (fun f b=>by
   simp only [q1n.next0,q1n.round0,cells_nil,List.length_nil]
   rfl)
  (fun f b p ps hb h1 h2 hps hl => ?_) n (n+20) ([],[]) [⟨a,b⟩] _ (by omega) (UB.nil l) (fun p hp=>by rw [List.mem_singleton.1 hp]; exact ⟨ha,hb⟩) ⟨[],_,rfl,by simp [psize],by simp⟩ hn
 · exact loop
 · have hbo:=hb.mb.ok (by omega)
   have hl1:=h1.le
   have hl2:=h2.le
   have a1:=(q1c b.1 b.2 hbo p.left (by omega) (h1.range ok)).eq
   have a2:=(q1c b.1 b.2 hbo p.right (by omega) (h2.range ok)).eq
   have g0:(cells (p::ps))[0]?=some (slc p.left):=rfl
   have g1:(cells (p::ps))[1]?=some (slc p.right):=rfl
   have hpl:((p::ps).length:Int) > 0:=by simp
   have hin:inB (0:Int) (p::ps).length=true:=(q8c 0 _).trans (by simp)
   have hfx:=hb.applied_free p.left
   have hfy:=hb.applied_free p.right
   have hox:=fun h=>hb.applied_ok h1 h
   have hoy:=fun h=>hb.applied_ok h2 h
   have hhx:=fun h h'=>hb.head_var (hox h) h'
   have hhy:=fun h h'=>hb.head_var (hoy h) h'
   have hb1:decide (0≤(1:Int))=true:=rfl
   have hb2:(1:Int)≤((p::ps).length:Int):=by simp only [List.length_cons]; omega
   have hlx:=q7h hbo p.left
   have hly:=q7h hbo p.right
   obtain ⟨Z,hZ⟩:∃ Z,Z=ustep l b p ps uT (fun (b:Bnd) (ps:List Pr)=>q1n.at0 (n+20) f (q1n.st0 (cells l) (cells ps) (cells b.1) (cells b.2))):=⟨_,rfl⟩
   show _=ustep l b p ps uT (fun (b:Bnd) (ps:List Pr)=>q1n.at0 (n+20) f (q1n.st0 (cells l) (cells ps) (cells b.1) (cells b.2)))
   rw [← hZ]
   unfold ustep at hZ
   simp only [q1n.next0,q1n.round0,evz,Nat.reduceLT,hpl,hin,g0,g1,a1,a2,hb1,hb2,Int.le_refl,Bool.and_self,cells_tail]
   generalize q0i b.1 b.2 p.left=x at *
   generalize q0i b.1 b.2 p.right=y at *
   by_cases c1:24 < x.length
   · have c1':(x.length:Int) > 24:=by omega
     rw [if_pos (.inl c1)] at hZ
     simp only [c1',evz,Nat.reduceLT]
     rw [hZ]
     rfl
   by_cases c1b:24 < y.length
   · have c1':¬ (x.length:Int) > 24:=by omega
     have c1b':(y.length:Int) > 24:=by omega
     rw [if_pos (.inr c1b)] at hZ
     simp only [c1',c1b',evz,Nat.reduceLT]
     rw [hZ]
     rfl
   have c1':¬ (x.length:Int) > 24:=by omega
   have c1b':¬ (y.length:Int) > 24:=by omega
   have hx:=hox (by omega)
   have hy:=hoy (by omega)
   have hxp:=hx.pos
   have hyp:=hy.pos
   have heq:=(q26 x y ⟨by omega,fun _ _=>trivial⟩).eq
   rw [if_neg (by omega)] at hZ
   by_cases c2:x=y
   · rw [if_pos c2] at hZ
     rw [decide_eq_true c2] at heq
     simp only [c1',c1b',evz,Nat.reduceLT,heq]
     rw [hZ]
   rw [if_neg c2] at hZ
   rw [decide_eq_false c2] at heq
   have x0:=q9g hx
   have y0:=q9g hy
   have inx:inB (0:Int) x.length=true:=(q8c 0 _).trans (by simp; omega)
   have iny:inB (0:Int) y.length=true:=(q8c 0 _).trans (by simp; omega)
   by_cases c3:x.getD 0 0 < 0
   · obtain ⟨hv,hnb⟩:=hhx (by omega) c3
     have h5:=q2h ok hb hv hnb hy
     unfold sbindR at h5
     rw [show -1 - (-1 - x.getD 0 0)=x.getD 0 0 by omega] at h5
     rw [if_pos c3] at hZ
     by_cases c4:x.getD 0 0∈y
     · rw [if_pos c4] at hZ h5
       simp only [c1',c1b',evz,Nat.reduceLT,heq,inx,x0,c3,q3e (x := -1 - x.getD 0 0) (by omega),h5]
       rw [hZ]
       rfl
     · rw [if_neg c4] at hZ h5
       simp only [c1',c1b',evz,Nat.reduceLT,heq,inx,x0,c3,q3e (x := -1 - x.getD 0 0) (by omega),h5]
       rw [hZ]
       cases q7l b (-1 - x.getD 0 0) y with
       | none=>rfl
       | some b'=>rfl
   rw [if_neg c3] at hZ
   by_cases c5:y.getD 0 0 < 0
   · obtain ⟨hv,hnb⟩:=hhy (by omega) c5
     have h5:=q2h ok hb hv hnb hx
     unfold sbindR at h5
     rw [show -1 - (-1 - y.getD 0 0)=y.getD 0 0 by omega] at h5
     rw [if_pos c5] at hZ
     by_cases c4:y.getD 0 0∈x
     · rw [if_pos c4] at hZ h5
       simp only [c1',c1b',evz,Nat.reduceLT,heq,inx,iny,x0,y0,c3,c5,q3e (x := -1 - y.getD 0 0) (by omega),h5]
       rw [hZ]
       rfl
     · rw [if_neg c4] at hZ h5
       simp only [c1',c1b',evz,Nat.reduceLT,heq,inx,iny,x0,y0,c3,c5,q3e (x := -1 - y.getD 0 0) (by omega),h5]
       rw [hZ]
       cases q7l b (-1 - y.getD 0 0) x with
       | none=>rfl
       | some b'=>rfl
   rw [if_neg c5] at hZ
   by_cases c6:x.getD 0 0=y.getD 0 0
   · rw [if_neg (by simpa using c6)] at hZ
     have h3:=(q2w ok hx hy (by omega) c6).eq
     have hal:(q77 l x y).length≤2:=by
      have:=qa6 ok x 0
      unfold q77; rw [List.length_map,List.length_zip]; omega
     rw [c6] at x0 c3
     simp only [c1',c1b',evz,Nat.reduceLT,heq,inx,iny,x0,y0,c3,c5,eq_self,h3]
     rw [q16 (q4p (by rw [q0s,q0s,q39]; omega)),← q35]
     rw [hZ]
   · rw [if_pos c6] at hZ
     simp only [c1',c1b',evz,Nat.reduceLT,heq,inx,iny,x0,y0,c3,c5,c6]
     rw [hZ]
     rfl
end
end Ev.Ty
end
section
namespace Ev.Ty
open Go Ev
open Enc (enc)
open Sm (sm)
set_option linter.unusedSimpArgs false
set_option linter.unusedVariables false
theorem q8o {l:List Symbol} {rs:List Equation} (h:q4t ⟨l⟩ rs=0):q41 ⟨l⟩=0∧SigOk ⟨l⟩∧rs.length≤12∧∀ e∈rs,EqOk l e:=by
 unfold q4t at h
 split at h
 · rename_i h1; exact absurd h h1
 rename_i h1
 have h1:q41 ⟨l⟩=0:=by simpa using h1
 unfold q9o at h
 split at h
 · rename_i h2; exact absurd h h2
 rename_i h2
 obtain ⟨q1,q2⟩:=qah.1 (show q6m l rs=0 by simpa using h2)
 exact ⟨h1,(q9j _).1 h1,q1,q2⟩
theorem rewriteFault_ok {l:List Symbol} {rs:List Equation} {t:List Int} (h:q64 ⟨l⟩ rs t=0):SigOk ⟨l⟩∧rs.length≤12∧(∀ e∈rs,EqOk l e)∧TermOk l t:=by
 unfold q64 at h
 split at h
 · rename_i h1; exact absurd h h1
 rename_i h1
 obtain ⟨_,q1,q2,q3⟩:=q8o (l:=l) (rs:=rs) (by simpa using h1)
 exact ⟨q1,q2,q3,(q8t _ _).1 h⟩
theorem q5j (l:List Symbol) (hs:l.length≤4294967296) (rs:List Equation) (hr:sm 4294967296 rs) (t:List Int) (ht:t.length≤4294967296) :
 Call F.q5j [.agg [slc l],slc rs,slc t] (.int .i64 (q64 ⟨l⟩ rs t)):=by
 refine q0m rfl 0 ((q5j.ev _ _ _ _).trans ?_)
 simp only [evz,Nat.reduceLT,(q4w l hs rs hr).eq,(q4v l hs t ht).eq,(firstCode2 _ _).eq,q64]
 by_cases h:q4t ⟨l⟩ rs=0
 · have h0:=(q8o h).1
   simp only [h,evz,Nat.reduceLT,ne_eq,not_true_eq_false,termFault,h0]
 · simp only [h,evz,Nat.reduceLT,ne_eq,not_false_eq_true]
theorem q8f (l:List Symbol) (hs:l.length≤4294967296) (rs:List Equation) (hr:sm 4294967296 rs) (t:List Int) (ht:t.length≤4294967296) :
 Call F.q8f [.rref [slc l] 0,slc rs,slc t] (.int .i64 (q64 ⟨l⟩ rs t)):=by
 refine q0m rfl 0 ((q8f.ev _ _ _ _).trans ?_)
 simp only [evz,Nat.reduceLT,(q4x l hs rs hr).eq,q64]
 by_cases h:q4t ⟨l⟩ rs=0
 · have h0:=(q8o h).2.1
   simp only [h,evz,Nat.reduceLT,ne_eq,not_true_eq_false,(q1l l h0 t ht).eq]
 · simp only [h,evz,Nat.reduceLT,ne_eq,not_false_eq_true]
theorem q4m (s:Signature) (rs:List Equation) (r p:Int) (t:List Int) (hs:sm 1048576 s) (hr:sm 1048576 rs) (ht:sm 1048576 t):Call F.q4m [.agg (enc s),slc rs,.int .i64 r,.int .i64 p,slc t] (.agg (enc (q4r s rs r p t))):=by
 obtain ⟨l⟩:=s
 have hsl:l.length≤4294967296:=Nat.le_trans hs.1 (by omega)
 have htl:t.length≤4294967296:=Nat.le_trans ht.1 (by omega)
 have hrl:rs.length≤4294967296:=Nat.le_trans hr.1 (by omega)
 show Call F.q4m [.agg [slc l],slc rs,.int .i64 r,.int .i64 p,slc t] _
 refine q0m rfl 0 ((q4m.ev _ _ _ _ _ _).trans ?_)
 simp only [evz,Nat.reduceLT,(q5j l hsl rs (q3a (by omega) hr) t htl).eq,q4r,q3e (x:=(rs.length:Int) - 1) (by omega),q3e (x:=(t.length:Int) - 1) (by omega),(q36 _ _ _).eq]
 by_cases h:q64 ⟨l⟩ rs t=0
 case neg=>simp only [h,evz,Nat.reduceLT,ne_eq,not_false_eq_true,q3m,q4q]
 obtain ⟨ok,q1,q2,q3⟩:=rewriteFault_ok h
 cases h1:inR r 0 (rs.length - 1) with
 | false=>simp only [h,evz,Nat.reduceLT,ne_eq,not_true_eq_false,Bool.not_false,true_or,q3m,q4q]
 | true =>
   cases h2:inR p 0 (t.length - 1) with
   | false=>simp only [h,evz,Nat.reduceLT,ne_eq,not_true_eq_false,Bool.not_true,Bool.not_false,or_true,q3m,q4q]
   | true =>
     have hr1:=q7k.1 h1
     have hp1:=q7k.1 h2
     obtain ⟨k,rfl⟩:∃ k:Nat,r=k:=⟨r.toNat,by omega⟩
     obtain ⟨a,rfl⟩:∃ a:Nat,p=a:=⟨p.toNat,by omega⟩
     have hk:k < rs.length:=by omega
     have ha:a < t.length:=by omega
     have hlk:rs[k]?=some rs[k]:=List.getElem?_eq_getElem hk
     have he:=q2 _ (List.getElem_mem hk)
     have hrw:=(q72 ok he q3 ha).eq
     rw [q3m] at hrw
     simp only [h,evz,Nat.reduceLT,ne_eq,not_true_eq_false,Bool.not_true,or_self,hk,hlk,q3d,hrw,getE hk,q3m,reduceCtorEq]
theorem q4l (s:Signature) (rs:List Equation) (r p:Int) (t:List Int) (hs:sm 1048576 s) (hr:sm 1048576 rs) (ht:sm 1048576 t):Call F.q4l [.agg (enc s),slc rs,.int .i64 r,.int .i64 p,slc t] (.agg (enc (q4r s rs r p t))):=by
 obtain ⟨l⟩:=s
 have hsl:l.length≤4294967296:=Nat.le_trans hs.1 (by omega)
 have htl:t.length≤4294967296:=Nat.le_trans ht.1 (by omega)
 have hrl:rs.length≤4294967296:=Nat.le_trans hr.1 (by omega)
 show Call F.q4l [.agg [slc l],slc rs,.int .i64 r,.int .i64 p,slc t] _
 refine q0m rfl 0 ((q4l.ev _ _ _ _ _ _).trans ?_)
 simp only [evz,Nat.reduceLT,(q8f l hsl rs (q3a (by omega) hr) t htl).eq,q4r,q3e (x:=(rs.length:Int) - 1) (by omega),(q1j _ _ _).eq,(q6v t p htl).eq]
 by_cases h:q64 ⟨l⟩ rs t=0
 case neg=>simp only [h,evz,Nat.reduceLT,ne_eq,not_false_eq_true,q3m,q4q]
 obtain ⟨ok,q1,q2,q3⟩:=rewriteFault_ok h
 cases h1:inR r 0 (rs.length - 1) with
 | false=>simp only [h,evz,Nat.reduceLT,ne_eq,not_true_eq_false,Bool.not_false,true_or,q3m,q4q]
 | true =>
   cases h2:inR p 0 (t.length - 1) with
   | false=>simp only [h,evz,Nat.reduceLT,ne_eq,not_true_eq_false,Bool.not_true,Bool.not_false,or_true,q3m,q4q]
   | true =>
     have hr1:=q7k.1 h1
     have hp1:=q7k.1 h2
     obtain ⟨k,rfl⟩:∃ k:Nat,r=k:=⟨r.toNat,by omega⟩
     obtain ⟨a,rfl⟩:∃ a:Nat,p=a:=⟨p.toNat,by omega⟩
     have hk:k < rs.length:=by omega
     have ha:a < t.length:=by omega
     have hlk:rs[k]?=some rs[k]:=List.getElem?_eq_getElem hk
     have he:=q2 _ (List.getElem_mem hk)
     have hrw:=(q6y ok he q3 ha).eq
     have hwin:=q52 (k:=2) (i:=k) rfl hlk
     simp only [h,evz,Nat.reduceLT,ne_eq,not_true_eq_false,Bool.not_true,or_self,hk,hwin,q3d,hrw,getE hk,q3m,reduceCtorEq]
end Ev.Ty
end
section
namespace Ev.Ty
open Go Ev
open Enc (enc)
open Sm (sm)
set_option linter.unusedSimpArgs false
set_option linter.unusedVariables false
theorem q5k (t:List Int) (b:Int):(q5e t b).length=t.length:=by simp [q5e]
theorem shiftT_succ {t:List Int} {b:Int} {k:Nat} (h:k < t.length):q5e (t.take (k+1)) b=q5e (t.take k) b++[if t[k] < 0 then t[k] - b else t[k]]:=by
 rw [← List.take_append_getElem h]; unfold q5e; rw [List.map_append]; rfl
theorem q28 (t:List Int) (ht:t.length≤4096) (hr:∀ n∈t,-4611686018427387904≤n):Call F.q28 [slc t,.int .i64 6] (slc (q5e t 6)):=by
 refine q0m rfl (t.length+1) ((q28.ev _ _ _).trans ?_)
 simp only [evz,Nat.reduceLT,(q2q t (by omega)).eq]
 have key:=q86 (n:=t.length) (f:=t.length+1) (S:=fun m k (o:List Int)=>q28.at0 (t.length+1) m (q28.st0 6 t.length (k:Nat) (cells o)))
  (st:=fun k=>q5e (t.take k) 6++t.drop k) (z:=some (slc (q5e t 6),[])) (fun m k h => ?_) (fun m => ?_) (by omega)
 · exact key
 · have hn:=hr t[k] (List.getElem_mem h)
   have e1:q5e (t.take (k+1)) 6++t.drop (k+1)=(q5e (t.take k) 6++t.drop k).set k (if t[k] < 0 then t[k] - 6 else t[k]):=by
    rw [shiftT_succ h,List.set_append_right _ _ (by rw [q5k]; simp; omega),List.drop_eq_getElem_cons h]
    rw [show k - (q5e (t.take k) 6).length=0 by rw [q5k]; simp; omega,List.set_cons_zero]
    simp
   obtain ⟨M,hM⟩:∃ M,M=q5e (t.take k) 6++t.drop k:=⟨_,rfl⟩
   have hMl:M.length=t.length:=by rw [hM]; simp [q5k]; omega
   have hMk:M[k]?=some t[k]:=by
    rw [hM,List.getElem?_append_right (by rw [q5k]; simp; omega)]
    simp [q5k,Nat.min_eq_left (Nat.le_of_lt h),List.getElem?_eq_getElem h]
   rw [e1,← hM]
   have hkM:k < M.length:=by omega
   have hkc:k*1+1≤(cells M).length:=by rw [q0s,q3r]; omega
   simp only [q28.next0,q28.round0,evz,Nat.reduceLT,h,hMk,hkM,q1x]
   by_cases hneg:t[k] < 0
   · rw [q3e (x:=t[k] - 6) (by omega)]
     have:=set_Int hkM (t[k] - 6)
     simp only [hneg,evz,Nat.reduceLT,this,hkc]
     rw [q0o (by omega)]
   · have hs:M.set k t[k]=M:=set_same hMk
     simp only [hneg,evz,Nat.reduceLT,hs]
     rw [q0o (by omega)]
 · rw [List.take_length,List.drop_of_length_le (Nat.le_refl _),List.append_nil]
   simp only [q28.next0,q28.round0,evz,Nat.reduceLT,Nat.lt_irrefl]
theorem q27 (t:List Int) (ht:t.length≤4096) (hr:∀ n∈t,-4611686018427387904≤n):Call F.q27 [slc t,.int .i64 6] (slc (q5e t 6)):=by
 refine q0m rfl (t.length+1) ((q27.ev _ _ _).trans ?_)
 have key:=q86 (n:=t.length) (f:=t.length+1) (S:=fun m k (o:List Int)=>q27.at0 (t.length+1) m (q27.st0 (cells t) 6 (k:Nat) (cells o)))
  (st:=fun k=>q5e (t.take k) 6) (z:=some (slc (q5e t 6),[])) (fun m k h => ?_) (fun m => ?_) (by omega)
 · exact key
 · have hn:=hr t[k] (List.getElem_mem h)
   have hlk:t[k]?=some t[k]:=List.getElem?_eq_getElem h
   have hb:Nat.ble (((cells (q5e (t.take k) 6)).length+1)*8) (140737488355328*1)=true:=q4p (by rw [q0s,q3r,q5k]; simp; omega)
   rw [shiftT_succ h]
   simp only [q27.next0,q27.round0,evz,Nat.reduceLT,h,hlk,q1x]
   by_cases hneg:t[k] < 0
   · rw [q3e (x:=t[k] - 6) (by omega)]
     simp only [hneg,evz,Nat.reduceLT,q40]
     rw [q0o (by omega),q16 hb]
   · simp only [hneg,evz,Nat.reduceLT,q40]
     rw [q0o (by omega),q16 hb]
 · rw [List.take_length]
   simp only [q27.next0,q27.round0,evz,Nat.reduceLT,Nat.lt_irrefl]
theorem q9n {s:List Int} {n:Int}:idx (fun x=>decide (x=n)) s < 0↔n∉s:=by
 rcases q7w (fun x:Int=>decide (x=n)) s with ⟨h1,h2⟩ | ⟨i,hi,h1,h2,_⟩
 · exact ⟨fun _ hm=>by have:=h2 n hm; simp at this,fun _=>by omega⟩
 · exact ⟨fun h=>by omega,fun h=>absurd ((show s[i]=n by simpa using h2) ▸ List.getElem_mem hi) h⟩
theorem idx_snoc {s:List Int} {n:Int} (h:n∉s):idx (fun x=>decide (x=n)) (s++[n])=s.length:=by
 unfold idx
 have:(s++[n]).findIdx? (fun x=>decide (x=n))=some s.length:=by
  rw [List.findIdx?_append]
  have h0:s.findIdx? (fun x=>decide (x=n))=none:=by
   rw [List.findIdx?_eq_none_iff]
   intro x hx
   have:x≠n:=fun e=>h (e ▸ hx)
   simpa using this
  rw [h0]
  simp [List.findIdx?_cons]
 rw [this]
theorem idx_range (s:List Int) (n:Int) : -1≤idx (fun x=>decide (x=n)) s∧idx (fun x=>decide (x=n)) s < s.length+1:=by
 rcases q7w (fun x:Int=>decide (x=n)) s with ⟨h1,_⟩ | ⟨i,hi,h1,_,_⟩ <;> omega
def plSt (seen t:List Int) (k:Nat):List Int × List Int:=((q3b seen (t.take k)).1++t.drop k,(q3b seen (t.take k)).2)
theorem plSt_len (seen t:List Int) {k:Nat} (hk:k≤t.length):(plSt seen t k).1.length=t.length:=by
 have:=(q4z seen (t.take k)).1
 unfold plSt; simp only [List.length_append,this]; simp; omega
theorem plSt_get (seen t:List Int) {k:Nat} (h:k < t.length):(plSt seen t k).1[k]?=some t[k]:=by
 have hl:=(q4z seen (t.take k)).1
 rw [List.length_take,Nat.min_eq_left (Nat.le_of_lt h)] at hl
 unfold plSt
 simp only
 rw [List.getElem?_append_right (by omega),hl,Nat.sub_self,List.drop_eq_getElem_cons h]; rfl
theorem plSt_seen (seen t:List Int) (k:Nat):(plSt seen t k).2.length≤seen.length+k:=by
 have:=(q4z seen (t.take k)).2.1
 unfold plSt
 simp at this ⊢
 omega
theorem plSt_succ (seen t:List Int) {k:Nat} (h:k < t.length):plSt seen t (k+1)=((plSt seen t k).1.set k (pstep (plSt seen t k).2 t[k]).1,(pstep (plSt seen t k).2 t[k]).2):=by
 have hl:=(q4z seen (t.take k)).1
 rw [List.length_take,Nat.min_eq_left (Nat.le_of_lt h)] at hl
 unfold plSt
 simp only
 rw [← List.take_append_getElem h,qav,List.set_append_right _ _ (by omega),hl,Nat.sub_self,List.drop_eq_getElem_cons h,List.set_cons_zero]
 simp [q3b]
theorem plSt_zero (seen t:List Int):plSt seen t 0=(t,seen):=by simp [plSt,q3b]
theorem plSt_end (seen t:List Int):plSt seen t t.length=q3b seen t:=by simp [plSt]
theorem plSt_pos (seen t:List Int) {k:Nat} (h:k < t.length) (h0:0≤t[k]):plSt seen t (k+1)=plSt seen t k:=by
 have e:=plSt_succ seen t h
 have:pstep (plSt seen t k).2 t[k]=(t[k],(plSt seen t k).2):=by unfold pstep; rw [if_pos h0]
 rw [e,this,set_same (plSt_get seen t h)]
theorem plSt_new (seen t:List Int) {k:Nat} (h:k < t.length) (h0:¬ 0≤t[k]) (hn:t[k]∉(plSt seen t k).2) :
 plSt seen t (k+1)=((plSt seen t k).1.set k (-1 - ((plSt seen t k).2.length:Int)),(plSt seen t k).2++[t[k]]):=by
 rw [plSt_succ seen t h]
 unfold pstep
 rw [if_neg h0,if_pos (q9n.2 hn)]
theorem plSt_old (seen t:List Int) {k:Nat} (h:k < t.length) (h0:¬ 0≤t[k]) (hn:t[k]∈(plSt seen t k).2) :
 plSt seen t (k+1)=((plSt seen t k).1.set k (-1 - idx (fun x=>decide (x=t[k])) (plSt seen t k).2),(plSt seen t k).2):=by
 rw [plSt_succ seen t h]
 unfold pstep
 rw [if_neg h0,if_neg (fun e=>q9n.1 e hn)]
theorem impl_plain2 (seen t r:List Int) (hs:seen.length≤4096) (ht:t.length≤4096) {N:Nat} (hN:t.length < N) (L0:St→R) :
 q0e.at2 N L0 N (q0e.st2 2 (0:Nat) t.length (0:Nat) (cells seen) (cells t) (cells r))=L0 (q0e.st0 2 (1:Nat) (cells (q3b seen t).2) (cells (q3b seen t).1) (cells r)):=by
 have key:=q86 (n:=t.length) (f:=N) (S:=fun m k (o:List Int × List Int)=>q0e.at2 N L0 m (q0e.st2 2 (0:Nat) t.length (k:Nat) (cells o.2) (cells o.1) (cells r)))
  (st:=fun k=>plSt seen t k) (z:=L0 (q0e.st0 2 (1:Nat) (cells (q3b seen t).2) (cells (q3b seen t).1) (cells r))) (fun m k h => ?_) (fun m => ?_) (by omega)
 · rw [plSt_zero] at key; exact key
 · have hl:=plSt_len seen t (Nat.le_of_lt h)
   have hg:=plSt_get seen t h
   have hsl:=plSt_seen seen t k
   have hp:=plSt_pos seen t h
   have hnw:=plSt_new seen t h
   have hod:=plSt_old seen t h
   generalize plSt seen t (k+1)=P at *
   generalize plSt seen t k=Q at *
   obtain ⟨M,s⟩:=Q
   simp only at hl hg hsl hp hnw hod
   have hkM:k < M.length:=by omega
   have hkc:k*1+1≤(cells M).length:=by rw [q0s,q3r]; omega
   have hct:=(q1i s t[k] (by omega)).eq
   have hix:=(q0f s t[k] (by omega)).eq
   have hix':=(q0f (s++[t[k]]) t[k] (by simp; omega)).eq
   have hrg:=idx_range s t[k]
   by_cases h0:0≤t[k]
   · have h0':t[k] ≥ 0:=h0
     rw [hp h0]
     simp only [q0e.next2,q0e.round2,evz,Nat.reduceLT,h,hg,hkM,q1x,h0']
     rw [q0o (by omega)]
   · have h0':¬ t[k] ≥ 0:=h0
     by_cases hm:t[k]∈s
     · rw [hod h0 hm]
       rw [decide_eq_true hm] at hct
       have:=set_Int hkM (-1 - idx (fun x=>decide (x=t[k])) s)
       simp only [q0e.next2,q0e.round2,evz,Nat.reduceLT,h,hg,hkM,q1x,h0',hct,hix,q3e (x := -1 - idx (fun x=>decide (x=t[k])) s) (by omega),this,hkc]
       rw [q0o (by omega)]
     · rw [hnw h0 hm]
       rw [decide_eq_false hm] at hct
       rw [idx_snoc hm] at hix'
       have:=set_Int hkM (-1 - (s.length:Int))
       simp only [q0e.next2,q0e.round2,evz,Nat.reduceLT,h,hg,hkM,q1x,h0',hct,q40,hix',q3e (x := -1 - (s.length:Int)) (by omega),this,hkc]
       rw [q0o (by omega),q16 (q4p (by rw [q0s,q3r]; omega))]
 · rw [plSt_end]
   simp only [q0e.next2,q0e.round2,evz,Nat.reduceLT,Nat.lt_irrefl]
   rw [q0o (by omega)]
theorem impl_plain3 (seen t r:List Int) (hs:seen.length≤4096) (ht:t.length≤4096) {N:Nat} (hN:t.length < N) (L0:St→R) :
 q0e.at1002 N L0 N (q0e.st1002 2 (1:Nat) t.length (0:Nat) (cells seen) (cells r) (cells t))=L0 (q0e.st0 2 (2:Nat) (cells (q3b seen t).2) (cells r) (cells (q3b seen t).1)):=by
 have key:=q86 (n:=t.length) (f:=N) (S:=fun m k (o:List Int × List Int)=>q0e.at1002 N L0 m (q0e.st1002 2 (1:Nat) t.length (k:Nat) (cells o.2) (cells r) (cells o.1)))
  (st:=fun k=>plSt seen t k) (z:=L0 (q0e.st0 2 (2:Nat) (cells (q3b seen t).2) (cells r) (cells (q3b seen t).1))) (fun m k h => ?_) (fun m => ?_) (by omega)
 · rw [plSt_zero] at key; exact key
 · have hl:=plSt_len seen t (Nat.le_of_lt h)
   have hg:=plSt_get seen t h
   have hsl:=plSt_seen seen t k
   have hp:=plSt_pos seen t h
   have hnw:=plSt_new seen t h
   have hod:=plSt_old seen t h
   generalize plSt seen t (k+1)=P at *
   generalize plSt seen t k=Q at *
   obtain ⟨M,s⟩:=Q
   simp only at hl hg hsl hp hnw hod
   have hkM:k < M.length:=by omega
   have hkc:k*1+1≤(cells M).length:=by rw [q0s,q3r]; omega
   have hct:=(q1i s t[k] (by omega)).eq
   have hix:=(q0f s t[k] (by omega)).eq
   have hix':=(q0f (s++[t[k]]) t[k] (by simp; omega)).eq
   have hrg:=idx_range s t[k]
   by_cases h0:0≤t[k]
   · have h0':t[k] ≥ 0:=h0
     rw [hp h0]
     simp only [q0e.next1002,q0e.round1002,evz,Nat.reduceLT,h,hg,hkM,q1x,h0']
     rw [q0o (by omega)]
   · have h0':¬ t[k] ≥ 0:=h0
     by_cases hm:t[k]∈s
     · rw [hod h0 hm]
       rw [decide_eq_true hm] at hct
       have:=set_Int hkM (-1 - idx (fun x=>decide (x=t[k])) s)
       simp only [q0e.next1002,q0e.round1002,evz,Nat.reduceLT,h,hg,hkM,q1x,h0',hct,hix,q3e (x := -1 - idx (fun x=>decide (x=t[k])) s) (by omega),this,hkc]
       rw [q0o (by omega)]
     · rw [hnw h0 hm]
       rw [decide_eq_false hm] at hct
       rw [idx_snoc hm] at hix'
       have:=set_Int hkM (-1 - (s.length:Int))
       simp only [q0e.next1002,q0e.round1002,evz,Nat.reduceLT,h,hg,hkM,q1x,h0',hct,q40,hix',q3e (x := -1 - (s.length:Int)) (by omega),this,hkc]
       rw [q0o (by omega),q16 (q4p (by rw [q0s,q3r]; omega))]
 · rw [plSt_end]
   simp only [q0e.next1002,q0e.round1002,evz,Nat.reduceLT,Nat.lt_irrefl]
   rw [q0o (by omega)]
theorem impl_plain0 (a b:List Int) (ha:a.length≤1024) {N:Nat} (hN:1100≤N) (f:Nat) :
 q0e.at0 N (f+1) (q0e.st0 2 (0:Int) [] (cells a) (cells b))=q0e.at0 N f (q0e.st0 2 (1:Nat) (cells (q3b [] a).2) (cells (q3b [] a).1) (cells b)):=by
 have h2:=impl_plain2 [] a b (by simp) (by omega) (N:=N) (by omega) (q0e.at0 N f)
 rw [show ((0:Nat):Int)=0 from rfl,cells_nil] at h2
 rw [q0e.next0,q0e.round0]
 simp only [q3y,q3r]
 rw [q16 (by decide),q16 (by decide),q16 (by decide)]
 exact h2
theorem impl_plain1 (seen a b:List Int) (hs:seen.length≤4096) (hb:b.length≤1024) {N:Nat} (hN:1100≤N) (f:Nat) :
 q0e.at0 N (f+1) (q0e.st0 2 (1:Nat) (cells seen) (cells a) (cells b))=q0e.at0 N f (q0e.st0 2 (2:Nat) (cells (q3b seen b).2) (cells a) (cells (q3b seen b).1)):=by
 have h3:=impl_plain3 seen b a hs (by omega) (N:=N) (by omega) (q0e.at0 N f)
 rw [show ((0:Nat):Int)=0 from rfl] at h3
 rw [q0e.next0,q0e.round0]
 simp only [q3y,q3r]
 rw [q16 (by decide),q16 (by decide),q7n (by decide),q16 (by decide)]
 exact h3
theorem impl_plain4 (s a b:List Int) {N:Nat} (f:Nat):q0e.at0 N (f+1) (q0e.st0 2 (2:Nat) (cells s) (cells a) (cells b))=some (.tup [.agg [slc a,slc b],.bool (decide (s.length≤6))],[]):=by
 rw [q0e.next0,q0e.round0]
 simp only [q3y,q3r]
 rw [q7n (by decide),show decide (((s.length:Nat):Int)≤6)=decide (s.length≤6) from decide_eq_decide.2 (by omega)]
 rfl
theorem q0e (a b:List Int) (ha:a.length≤1024) (hb:b.length≤1024):Call F.q0e [.agg [slc a,slc b]] (.tup [.agg [slc (plainE ⟨a,b⟩).left,slc (plainE ⟨a,b⟩).right],.bool (decide ((seenE ⟨a,b⟩).length≤6))]):=by
 obtain ⟨m,hm⟩:∃ m,1100≤m:=⟨1100,Nat.le_refl _⟩
 refine q0m rfl (m+1+1+1) ((q0e.ev _ _ _).trans ?_)
 have ho:Call F.q3v [.agg [slc a,slc b]] (.agg [slc a,slc b]):=by
  refine q0m rfl 0 ((q3v.ev _ _ _).trans ?_)
  simp only [evz,Nat.reduceLT,(q2q a (by omega)).eq,(q2q b (by omega)).eq]
 simp only [evz,Nat.reduceLT,ho.eq]
 have hs1:=(q4z [] a).2.1
 have e0:=impl_plain0 a b ha (N:=m+1+1+1) (by omega) (m+1+1)
 have e1:=impl_plain1 (q3b [] a).2 (q3b [] a).1 b (by simp at hs1; omega) hb (N:=m+1+1+1) (by omega) (m+1)
 exact e0.trans (e1.trans (impl_plain4 _ _ _ m))
theorem q1p (a b:List Int) (ha:a.length≤1024) (hb:b.length≤1024):Call F.q1p [.rref [slc a,slc b] 0]
 (.tup [.agg [slc (if (seenE ⟨a,b⟩).length≤6 then (plainE ⟨a,b⟩).left else []),slc (if (seenE ⟨a,b⟩).length≤6 then (plainE ⟨a,b⟩).right else [])],.bool (decide ((seenE ⟨a,b⟩).length≤6))]):=by
 refine q0m rfl 3000 ((q1p.ev _ _ _).trans ?_)
 simp only [evz,Nat.reduceLT,(q5o a (by omega)).eq,q5h,← q35]
 rw [q16 (q4p (by rw [q0s,q0s,q3r]; omega))]
 have htl:(a++b).length≤2048:=by simp; omega
 obtain ⟨t,hte⟩:∃ t,t=a++b:=⟨_,rfl⟩
 rw [← hte] at htl ⊢
 have key:=q86 (n:=t.length) (f:=3000) (S:=fun m k (o:List Int × List Int)=>q1p.at0 3000 m (q1p.st0 (cells a) (cells b) (k:Nat) (cells o.1) (cells o.2)))
  (st:=fun k=>plSt [] t k) (z:=some (.tup [.agg [slc (if (seenE ⟨a,b⟩).length≤6 then (plainE ⟨a,b⟩).left else []),slc (if (seenE ⟨a,b⟩).length≤6 then (plainE ⟨a,b⟩).right else [])],.bool (decide ((seenE ⟨a,b⟩).length≤6))],[])) (fun m k h => ?_) (fun m => ?_) (by omega)
 · rw [plSt_zero] at key; exact key
 · have hl:=plSt_len [] t (Nat.le_of_lt h)
   have hg:=plSt_get [] t h
   have hsl:=plSt_seen [] t k
   have hp:=plSt_pos [] t h
   have hnw:=plSt_new [] t h
   have hod:=plSt_old [] t h
   generalize plSt [] t (k+1)=P at *
   generalize plSt [] t k=Q at *
   obtain ⟨M,s⟩:=Q
   simp only at hl hg hsl hp hnw hod
   have hkM:k < M.length:=by omega
   have hkc:k*1+1≤(cells M).length:=by rw [q0s,q3r]; omega
   have hix:=(q2p s t[k] (by simp at hsl; omega)).eq
   unfold rank at hix
   have hrg:=idx_range s t[k]
   have hsl':s.length≤2048:=by simp at hsl; omega
   by_cases h0:0≤t[k]
   · have h0':t[k] ≥ 0:=h0
     rw [hp h0]
     simp only [q1p.next0,q1p.round0,evz,Nat.reduceLT,h,hg,hkM,q1x,h0']
     rw [q0o (by omega)]
   · have h0':¬ t[k] ≥ 0:=h0
     by_cases hm:t[k]∈s
     · rw [hod h0 hm]
       have:=set_Int hkM (-1 - idx (fun x=>decide (x=t[k])) s)
       have hi:¬ idx (fun x=>decide (x=t[k])) s < 0:=fun e=>q9n.1 e hm
       simp only [q1p.next0,q1p.round0,evz,Nat.reduceLT,h,hg,hkM,q1x,h0',hix,hi,q3e (x := -1 - idx (fun x=>decide (x=t[k])) s) (by omega),this,hkc]
       rw [q0o (by omega)]
     · rw [hnw h0 hm]
       have:=set_Int hkM (-1 - (s.length:Int))
       have hi:idx (fun x=>decide (x=t[k])) s < 0:=q9n.2 hm
       simp only [q1p.next0,q1p.round0,evz,Nat.reduceLT,h,hg,hkM,q1x,h0',hix,hi,q40,q3e (x := -1 - (s.length:Int)) (by omega),this,hkc]
       rw [q0o (by omega),q16 (q4p (by rw [q0s,q3r]; omega))]
 · rw [plSt_end,hte,qav]
   have hl1:=(q4z [] a).1
   have hl2:=(q4z (q3b [] a).2 b).1
   have es:seenE ⟨a,b⟩=(q3b (q3b [] a).2 b).2:=rfl
   simp only [q1p.next0,q1p.round0,evz,Nat.reduceLT,List.length_append,hl1,hl2,Nat.lt_irrefl,es]
   by_cases h6:(q3b (q3b [] a).2 b).2.length≤6
   · have h6':¬ (((q3b (q3b [] a).2 b).2.length:Nat):Int) > 6:=by omega
     have c1:((((q3b [] a).1++(q3b (q3b [] a).2 b).1).take a.length).drop 0)=(q3b [] a).1:=by rw [List.drop_zero,← hl1,List.take_left]
     have c2:((((q3b [] a).1++(q3b (q3b [] a).2 b).1).take (a.length+b.length)).drop a.length)=(q3b (q3b [] a).2 b).1:=by
      rw [List.take_of_length_le (by rw [List.length_append]; omega),← hl1,List.drop_left]
     simp only [h6,h6',evz,Nat.reduceLT]
     rw [q16 (by simp; omega),qan,c1,(q5o _ (by omega)).eq]
     simp only [evz,Nat.reduceLT]
     rw [q16 (by simp; omega),qan,c2,(q5o _ (by omega)).eq]
     simp only [evz,Nat.reduceLT]
     rfl
   · have h6':(((q3b (q3b [] a).2 b).2.length:Nat):Int) > 6:=by omega
     simp only [h6,h6',evz,Nat.reduceLT,q4q]
end Ev.Ty
end
section
namespace Ev.Ty
open Go Ev
open Enc (enc)
open Sm (sm)
set_option linter.unusedSimpArgs false
set_option linter.unusedVariables false
theorem unif_code {l:List Symbol}:∀ {n:Nat} {b:Bnd} {ps:List Pr} {c:Int},unif l n b ps=some (.inr c)→c=2∨c=4
 | 0,b,ps,c,h=>by cases h
 | n+1,b,[],c,h=>by cases h
 | n+1,b,p::ps,c,h=>by
   rw [unif] at h
   split at h
   · cases h; exact .inl rfl
   split at h
   · exact unif_code h
   split at h
   · split at h
     · cases h; exact .inr rfl
     split at h
     · cases h; exact .inl rfl
     · exact unif_code h
   split at h
   · split at h
     · cases h; exact .inr rfl
     split at h
     · cases h; exact .inl rfl
     · exact unif_code h
   split at h
   · cases h; exact .inr rfl
   · exact unif_code h
theorem unifR_code {l:List Symbol} {a b:List Int} (ha:TermOk l a) (hb:TermOk l b) {c:Int} (h:unifR l a b = .inr c):c=2∨c=4:=by
 obtain ⟨⟨n,hn⟩,_⟩:=q9i ha hb
 rw [h] at hn
 exact unif_code hn
theorem replAt_range {l:List Symbol} (ok:SigOk ⟨l⟩) {t u:List Int} (ht:TermOk l t) (hu:TermOk l u) (p:Nat):∀ n∈q5c l t p u,-4611686018427387904≤n∧n≤4611686018427387904:=fun n hn=>by
 unfold q5c at hn
 rcases List.mem_append.1 hn with hn | hn
 · rcases List.mem_append.1 hn with hn | hn
   · exact ht.range ok n (List.mem_of_mem_take hn)
   · exact hu.range ok n hn
 · exact ht.range ok n (List.mem_of_mem_drop hn)
section
variable {l:List Symbol} (ok:SigOk ⟨l⟩)
include ok
theorem q88 {o i:Equation} (ho:EqOk l o) (hi:EqOk l i) {p:Nat} (hp:p < o.left.length):Call F.q88 [.agg [slc l],.agg [slc o.left,slc o.right],.agg [slc i.left,slc i.right],.int .i64 p] (.agg (enc (peakR l o i p))):=by
 refine q0m rfl 0 ((q88.ev _ _ _ _ _ _ _).trans ?_)
 have l1:=ho.left.le
 have l2:=ho.right.le
 have l3:=hi.left.le
 have l4:=hi.right.le
 have s1:=(q28 i.left (by omega) (fun n hn=>(hi.left.range ok n hn).1)).eq
 have s2:=(q28 i.right (by omega) (fun n hn=>(hi.right.range ok n hn).1)).eq
 have o1:=shift_ok hi.left hi.lowL
 have o2:=shift_ok hi.right hi.lowR
 have os:=q87 ho.left hp
 have hsub:=(q3h ok ho.left hp).eq
 have hu:=q0h ok os o1
 have hrp:=(q5y ok ho.left hp (q5e i.right 6) (by rw [q5k]; omega)).eq
 have hrl:=replAt_length (l:=l) (t:=o.left) (p:=p) (by_:=q5e i.right 6)
 rw [q5k] at hrl
 simp only [evz,Nat.reduceLT,s1,s2,hsub,hu,peakR]
 have hsp:=q9i os o1
 have hcd:=fun c=>unifR_code os o1 (c:=c)
 generalize unifR l (subAt l o.left p) (q5e i.left 6)=u at *
 cases u with
 | inr c =>
   have hc:¬ c=0:=by rcases hcd c rfl with h | h <;> omega
   simp only [uT,evz,Nat.reduceLT,hc,q2n,q4q]
   rfl
 | inl b =>
   have hb:=hsp.2 b rfl
   have hbl:=hb.le
   have hbo:=hb.mb.ok (by omega)
   simp only [uT,evz,Nat.reduceLT,hrp]
   have hge:=q9d hb.mb (q5c l o.left p (q5e i.right 6))
   have a1:=(q0l b.1 b.2 hbo o.right (by omega) (ho.right.range ok)).eq
   have a2:=(q0l b.1 b.2 hbo (q5c l o.left p (q5e i.right 6)) (by omega) (replAt_range ok ho.left o2 p)).eq
   generalize q5c l o.left p (q5e i.right 6)=w at *
   generalize q0i b.1 b.2 o.right=x at *
   generalize q0i b.1 b.2 w=y at *
   by_cases c1:24 < w.length
   · have c1':(w.length:Int) > 24:=by omega
     have c2:24 < x.length∨24 < y.length := .inr (by omega)
     simp only [c1',c2,evz,Nat.reduceLT,q2n,q4q]
   have c1':¬ (w.length:Int) > 24:=by omega
   simp only [c1',evz,Nat.reduceLT,a1,a2]
   by_cases c2:24 < x.length
   · have c2':(x.length:Int) > 24:=by omega
     simp only [c2,c2',true_or,evz,Nat.reduceLT,q2n,q4q]
   by_cases c3:24 < y.length
   · have c2':¬ (x.length:Int) > 24:=by omega
     have c3':(y.length:Int) > 24:=by omega
     simp only [c3,c2',c3',or_true,evz,Nat.reduceLT,q2n,q4q]
   have c2':¬ (x.length:Int) > 24:=by omega
   have c3':¬ (y.length:Int) > 24:=by omega
   have hpl:=(q0e x y (by omega) (by omega)).eq
   simp only [c2,c3,c2',c3',or_self,evz,Nat.reduceLT,hpl]
   by_cases c4:(seenE ⟨x,y⟩).length≤6
   · have c4':¬ 6 < (seenE ⟨x,y⟩).length:=by omega
     simp only [c4,c4',evz,Nat.reduceLT,Bool.not_true,q2n]
   · have c4':6 < (seenE ⟨x,y⟩).length:=by omega
     simp only [c4,c4',evz,Nat.reduceLT,Bool.not_false,q2n,q4q]
theorem q8g {o i:Equation} (ho:EqOk l o) (hi:EqOk l i) {p:Nat} (hp:p < o.left.length):Call F.q8g [.rref [slc l] 0,.rref [slc o.left,slc o.right] 0,.rref [slc i.left,slc i.right] 0,.int .i64 p]
 (.tup [.agg [slc (peakR l o i p).equation.left,slc (peakR l o i p).equation.right],.int .i64 (peakR l o i p).code]):=by
 refine q0m rfl 0 ((q8g.ev _ _ _ _ _ _ _).trans ?_)
 have l1:=ho.left.le
 have l2:=ho.right.le
 have l3:=hi.left.le
 have l4:=hi.right.le
 have s1:=(q27 i.left (by omega) (fun n hn=>(hi.left.range ok n hn).1)).eq
 have s2:=(q27 i.right (by omega) (fun n hn=>(hi.right.range ok n hn).1)).eq
 have o1:=shift_ok hi.left hi.lowL
 have o2:=shift_ok hi.right hi.lowR
 have os:=q87 ho.left hp
 have hsub:=(q68 ok ho.left hp).eq
 have hu:=q1n ok os o1
 have hrp:=(q5n ok ho.left hp (q5e i.right 6) (by rw [q5k]; omega)).eq
 have hrl:=replAt_length (l:=l) (t:=o.left) (p:=p) (by_:=q5e i.right 6)
 rw [q5k] at hrl
 simp only [evz,Nat.reduceLT,s1,s2,hsub,hu,peakR]
 have hsp:=q9i os o1
 have hcd:=fun c=>unifR_code os o1 (c:=c)
 generalize unifR l (subAt l o.left p) (q5e i.left 6)=u at *
 cases u with
 | inr c =>
   have hc:¬ c=0:=by rcases hcd c rfl with h | h <;> omega
   simp only [uT,evz,Nat.reduceLT,hc,q2n,q4q]
   rfl
 | inl b =>
   have hb:=hsp.2 b rfl
   have hbl:=hb.le
   have hbo:=hb.mb.ok (by omega)
   simp only [uT,evz,Nat.reduceLT,hrp]
   have hge:=q9d hb.mb (q5c l o.left p (q5e i.right 6))
   have a1:=(q1c b.1 b.2 hbo o.right (by omega) (ho.right.range ok)).eq
   have a2:=(q1c b.1 b.2 hbo (q5c l o.left p (q5e i.right 6)) (by omega) (replAt_range ok ho.left o2 p)).eq
   generalize q5c l o.left p (q5e i.right 6)=w at *
   generalize q0i b.1 b.2 o.right=x at *
   generalize q0i b.1 b.2 w=y at *
   simp only [evz,Nat.reduceLT,a1,a2]
   by_cases c2:24 < x.length
   · have c2':(x.length:Int) > 24:=by omega
     simp only [c2,c2',true_or,evz,Nat.reduceLT,q2n,q4q]
   by_cases c3:24 < y.length
   · have c2':¬ (x.length:Int) > 24:=by omega
     have c3':(y.length:Int) > 24:=by omega
     simp only [c3,c2',c3',or_true,evz,Nat.reduceLT,q2n,q4q]
   have c2':¬ (x.length:Int) > 24:=by omega
   have c3':¬ (y.length:Int) > 24:=by omega
   have hpl:=(q1p x y (by omega) (by omega)).eq
   simp only [c2,c3,c2',c3',or_self,evz,Nat.reduceLT,hpl]
   by_cases c4:(seenE ⟨x,y⟩).length≤6
   · have c4':¬ 6 < (seenE ⟨x,y⟩).length:=by omega
     simp only [c4,c4',evz,Nat.reduceLT,Bool.not_true,q2n]
   · have c4':6 < (seenE ⟨x,y⟩).length:=by omega
     simp only [c4,c4',evz,Nat.reduceLT,Bool.not_false,q2n,q4q]
end
noncomputable def q9q (s:Signature) (o i:Equation) (p:Int):EquationResult :=
 if q4t s [o,i]≠0 then ⟨q4t s [o,i],⟨[],[]⟩⟩ else if inR p 0 (o.left.length - 1)=false then ⟨3,⟨[],[]⟩⟩ else if o.left.getD p.toNat 0 < 0 then ⟨1,⟨[],[]⟩⟩ else peakR s.symbols o i p.toNat
theorem pair_sm {o i:Equation} (ho:sm 1048576 o) (hi:sm 1048576 i):sm 4294967296 [o,i]:=⟨by simp,fun x hx=>by
 rcases List.mem_cons.1 hx with rfl | hx
 · exact q3a (by omega) ho
 · rw [List.mem_singleton.1 hx]; exact q3a (by omega) hi⟩
theorem q7a (s:Signature) (o i:Equation) (p:Int) (hs:sm 1048576 s) (ho:sm 1048576 o) (hi:sm 1048576 i):Call F.q7a [.agg (enc s),.agg (enc o),.agg (enc i),.int .i64 p] (.agg (enc (q9q s o i p))):=by
 obtain ⟨l⟩:=s
 have hsl:l.length≤4294967296:=Nat.le_trans hs.1 (by omega)
 have hol:o.left.length≤1048576:=ho.1.1
 have hf:LIM F.q4w [.agg [slc l],.sl 2 [slc o.left,slc o.right,slc i.left,slc i.right]]=some (.int .i64 (q4t ⟨l⟩ [o,i]),[]):=(q4w l hsl [o,i] (pair_sm ho hi)).eq
 show Call F.q7a [.agg [slc l],.agg [slc o.left,slc o.right],.agg [slc i.left,slc i.right],.int .i64 p] _
 refine q0m rfl 0 ((q7a.ev _ _ _ _ _ _ _).trans ?_)
 simp only [evz,Nat.reduceLT,hf,q9q,q3e (x:=(o.left.length:Int) - 1) (by omega),(q36 _ _ _).eq]
 by_cases h:q4t ⟨l⟩ [o,i]=0
 case neg=>simp only [h,evz,Nat.reduceLT,ne_eq,not_false_eq_true,q2n,q4q]
 obtain ⟨_,ok,_,q2⟩:=q8o h
 have q2o:=q2 o (by simp)
 have q2i:=q2 i (by simp)
 cases h1:inR p 0 (o.left.length - 1) with
 | false=>simp only [h,evz,Nat.reduceLT,ne_eq,not_true_eq_false,Bool.not_false,q2n,q4q]
 | true =>
   have hp1:=q7k.1 h1
   obtain ⟨a,rfl⟩:∃ a:Nat,p=a:=⟨p.toNat,by omega⟩
   have ha:a < o.left.length:=by omega
   have hlk:o.left[a]?=some o.left[a]:=List.getElem?_eq_getElem ha
   have hd:o.left.getD a 0=o.left[a]:=q79 ha
   have hpk:=(q88 ok q2o q2i ha).eq
   rw [q2n] at hpk
   simp only [h,evz,Nat.reduceLT,ne_eq,not_true_eq_false,Bool.not_true,ha,hlk,q1x,hd,reduceCtorEq,hpk]
   by_cases h3:o.left[a] < 0 <;> simp only [h3,evz,Nat.reduceLT,q2n,q4q]
theorem q7e (s:Signature) (o i:Equation) (p:Int) (hs:sm 1048576 s) (ho:sm 1048576 o) (hi:sm 1048576 i):Call F.q7e [.agg (enc s),.agg (enc o),.agg (enc i),.int .i64 p] (.agg (enc (q9q s o i p))):=by
 obtain ⟨l⟩:=s
 have hsl:l.length≤4294967296:=Nat.le_trans hs.1 (by omega)
 have hol:o.left.length≤1048576:=ho.1.1
 have hf:LIM F.q4x [.agg [slc l],.sl 2 [slc o.left,slc o.right,slc i.left,slc i.right]]=some (.int .i64 (q4t ⟨l⟩ [o,i]),[]):=(q4x l hsl [o,i] (pair_sm ho hi)).eq
 have h2:Call F.qa7 [.rref [slc l] 0,.rref [slc o.left,slc o.right] 0,.rref [slc i.left,slc i.right] 0] (.int .i64 (q4t ⟨l⟩ [o,i])):=by
  refine q0m rfl 0 ((qa7.ev _ _ _ _ _ _).trans ?_)
  simp only [evz,Nat.reduceLT,hf]
 show Call F.q7e [.agg [slc l],.agg [slc o.left,slc o.right],.agg [slc i.left,slc i.right],.int .i64 p] _
 refine q0m rfl 0 ((q7e.ev _ _ _ _ _ _ _).trans ?_)
 simp only [evz,Nat.reduceLT,h2.eq,q9q,(q6v o.left p (by omega)).eq]
 by_cases h:q4t ⟨l⟩ [o,i]=0
 case neg=>simp only [h,evz,Nat.reduceLT,ne_eq,not_false_eq_true,q2n,q4q]
 obtain ⟨_,ok,_,q2⟩:=q8o h
 have q2o:=q2 o (by simp)
 have q2i:=q2 i (by simp)
 cases h1:inR p 0 (o.left.length - 1) with
 | false=>simp only [h,evz,Nat.reduceLT,ne_eq,not_true_eq_false,Bool.not_false,q2n,q4q]
 | true =>
   have hp1:=q7k.1 h1
   obtain ⟨a,rfl⟩:∃ a:Nat,p=a:=⟨p.toNat,by omega⟩
   have ha:a < o.left.length:=by omega
   have hlk:o.left[a]?=some o.left[a]:=List.getElem?_eq_getElem ha
   have hd:o.left.getD a 0=o.left[a]:=q79 ha
   have hpk:=(q8g ok q2o q2i ha).eq
   simp only [h,evz,Nat.reduceLT,ne_eq,not_true_eq_false,Bool.not_true,ha,hlk,q1x,hd,reduceCtorEq,hpk]
   by_cases h3:o.left[a] < 0 <;> simp only [h3,evz,Nat.reduceLT,q2n,q4q]
end Ev.Ty
end
section
namespace Ev.Ty
open Go Ev
open Enc (enc)
open Sm (sm)
set_option linter.unusedSimpArgs false
set_option linter.unusedVariables false
section
variable {l:List Symbol} (ok:SigOk ⟨l⟩)
include ok
end
end Ev.Ty
end
section
namespace Ev.Ty
open Go Ev
open Enc (enc)
open Sm (sm)
set_option linter.unusedSimpArgs false
set_option linter.unusedVariables false
section
variable {l:List Symbol} (ok:SigOk ⟨l⟩) {rs:List Equation} (hr:∀ e∈rs,EqOk l e) (hl:rs.length≤12)
include ok hr hl
end
end Ev.Ty
end
section
namespace Ev.Ty
open Go Ev
open Enc (enc)
open Sm (sm)
set_option linter.unusedSimpArgs false
set_option linter.unusedVariables false
theorem replAt_ok {l:List Symbol} {t u:List Int} (ht:TermOk l t) {p:Nat} (hp:p < t.length) (hu:TermOk l u) (h:(q5c l t p u).length≤24):TermOk l (q5c l t p u):=by
 obtain ⟨h1,h2,h3⟩:=q6c ht hp
 have hs:skip (ar l) 1 (q5c l t p u)=some []:=by
  unfold q5c
  rw [List.append_assoc]
  refine skip_repl (y:=subAt l t p) (by rw [← h1]; exact h3) (by have:=qaj (r:=t.drop (endAt l t p)) hu.skip; simpa using this) (t.take p) 1 ?_
  rw [← h1,List.take_append_drop]
  exact ht.skip
 refine ⟨?_,h,fun n hn => ?_,hs⟩
 · rcases Nat.eq_zero_or_pos (q5c l t p u).length with h | h
   · rw [List.eq_nil_of_length_eq_zero h] at hs; cases hs
   · exact h
 · unfold q5c at hn
   rcases List.mem_append.1 hn with hn | hn
   · rcases List.mem_append.1 hn with hn | hn
     · exact ht.node n (List.mem_of_mem_take hn)
     · exact hu.node n hn
   · exact ht.node n (List.mem_of_mem_drop hn)
theorem peakR_ok {l:List Symbol} (ok:SigOk ⟨l⟩) {o i:Equation} (ho:EqOk l o) (hi:EqOk l i) {p:Nat} (hp:p < o.left.length) (h0:(peakR l o i p).code=0):EqOk l (peakR l o i p).equation:=by
 have o1:=shift_ok hi.left hi.lowL
 have o2:=shift_ok hi.right hi.lowR
 have os:=q87 ho.left hp
 have hsp:=q9i os o1
 have hcd:=fun c=>unifR_code os o1 (c:=c)
 unfold peakR at h0 ⊢
 split
 · rename_i c hc
   rw [hc] at h0
   have:=hcd c hc
   simp only at h0
   omega
 · rename_i b hb
   rw [hb] at h0
   simp only at h0
   split at h0
   · cases h0
   rename_i c1
   split at h0
   · cases h0
   rename_i c2
   rw [if_neg c1,if_neg c2]
   have hub:=hsp.2 b hb
   have hwl:=q9d hub.mb (q5c l o.left p (q5e i.right 6))
   exact plain_ok (hub.applied_ok ho.right (by omega)) (hub.applied_ok (replAt_ok ho.left hp o2 (by omega)) (by omega)) (by omega)
section
variable {l:List Symbol} {rs:List Equation} (hrf:q4t ⟨l⟩ rs=0) (hls:sm 1048576 (Signature.mk l)) (hrs:sm 1048576 rs) {fuel:Nat} (hf:fuel≤200)
include hrf hls hrs hf
end
end Ev.Ty
end
section
namespace Ev.Ty
open Go Ev
open Enc (enc)
open Sm (sm)
set_option linter.unusedSimpArgs false
set_option linter.unusedVariables false
section
variable {l:List Symbol} {z:Nat} {tb:List (List Int)} (al:AlgOk l z tb)
include al
end
end Ev.Ty
end
section
namespace Ev.Ty
open Go Ev
open Enc (enc)
open Sm (sm)
set_option linter.unusedSimpArgs false
set_option linter.unusedVariables false
section
variable (l:List Symbol) (z:Int) (tb:List (List Int)) (hs:l.length≤4294967296) (ht:sm 4294967296 tb)
include hs ht
end
end Ev.Ty
end
section
namespace Ev.Ty
open Go Ev
open Enc (enc)
open Sm (sm)
set_option linter.unusedSimpArgs false
set_option linter.unusedVariables false
theorem cells_int_scalar (l:List Int):(cells l).all T.scalar=true:=by
 rw [← q7v,List.all_eq_true]
 intro x hx
 obtain ⟨n,_,rfl⟩:=List.mem_map.1 hx
 rfl
theorem q38 (l:List Int) (h:l.length≤4294967296):Call F.q38 [slc l] (slc l):=by
 refine q0m rfl 0 ((q38.ev _ _).trans ?_)
 have hb:Nat.ble ((0+(cells l).length)*8) (140737488355328*1)=true:=by
  rw [Nat.ble_eq,q0s,q3r]; omega
 rw [cells_int_scalar,hb]
 rfl
def eqOf (e:Entry):Equation:=⟨e.left,e.right⟩
theorem entry_eqn (e:Entry):Call F.q31 [.agg (enc e)] (.agg [slc e.left,slc e.right]):=q0m rfl 0 (q31.ev _ _ _ _ _ _ _ _)
theorem q44 (e:Entry) (h:sm 4294967296 e):Call F.q44 [.rref (enc e) 0] (.agg [slc e.left,slc e.right]):=by
 refine q0m rfl 0 ((q44.ev _ _ _ _ _ _ _ _).trans ?_)
 simp only [evz,Nat.reduceLT,(q38 e.left h.1.1).eq,(q38 e.right h.2.1).eq]
section
variable (l:List Symbol) (z:Int) (tb:List (List Int)) (hs:l.length≤4294967296) (ht:sm 4294967296 tb)
include hs ht
end
end Ev.Ty
end
section
namespace Ev.Ty
open Go Ev
open Enc (enc)
open Sm (sm)
set_option linter.unusedSimpArgs false
set_option linter.unusedVariables false
theorem mgo_low {l:List Symbol} {t:List Int} (ht:∀ n∈t,-6≤n):∀ (q:List Int) (b:Bnd) (p:Nat),(∀ u∈b.2,∀ n∈u,-6≤n)→∀ x,mgo l t q b p=some x→∀ u∈x.1.2,∀ n∈u,-6≤n
 | [],b,p,hb,x,hx=>by
   cases hx
   exact hb
 | n::q,b,p,hb,x,hx=>by
   rw [mgo] at hx
   split at hx
   · cases hx
   split at hx
   · split at hx
     · exact mgo_low ht q b _ hb x hx
     · cases hx
   split at hx
   · refine mgo_low ht q _ _ (fun u hu => ?_) x hx
     rcases mem_ins hu with rfl | hu
     · intro m hm
       exact ht m (List.mem_of_mem_take (List.mem_of_mem_drop hm))
     · exact hb u hu
   · split at hx
     · exact mgo_low ht q b _ hb x hx
     · cases hx
theorem matchAt_low {l:List Symbol} {q t:List Int} (ht:∀ n∈t,-6≤n) {p:Nat} {b:Bnd} (h:q80 l q t p=some b):∀ u∈b.2,∀ n∈u,-6≤n:=by
 unfold q80 at h
 rw [Option.map_eq_some_iff] at h
 obtain ⟨x,hx,rfl⟩:=h
 exact mgo_low ht q ([],[]) p (by simp) x hx
theorem stepAt_low {l:List Symbol} {e:Equation} {t:List Int} (he:EqOk l e) (ht:∀ n∈t,-6≤n) {p:Nat}:∀ n∈(stepAt l e t p).term,-6≤n:=by
 intro n hn
 unfold stepAt at hn
 cases hm:q80 l e.left t p with
 | none=>rw [hm] at hn; cases hn
 | some b =>
   have hb:=matchAt_low ht hm
   rw [hm] at hn
   simp only at hn
   split at hn
   · cases hn
   unfold q5c at hn
   rcases List.mem_append.1 hn with hn | hn
   · rcases List.mem_append.1 hn with hn | hn
     · exact ht n (List.mem_of_mem_take hn)
     · unfold q0i at hn
       obtain ⟨m,h1,h2⟩:=List.mem_flatMap.1 hn
       cases ho:q65 b.1 b.2 (-1 - m) with
       | none=>rw [ho] at h2; simp only [Option.getD_none,List.mem_singleton] at h2; subst h2; exact he.lowR _ h1
       | some u=>rw [ho] at h2; exact hb u (q7j ho) n h2
   · exact ht n (List.mem_of_mem_drop hn)
def two (e:Entry):Bool:=decide (e.kind=4)||decide (e.kind=5)
def q4d (eqn enn:Nat) (e:Entry):Int :=
 if inR e.kind 1 5=false then 1
 else if (two e=false∧(e.b≠0∨e.place≠0))∨(e.kind≠4∧e.side≠0) then 1
 else if inR e.a 0 ((if e.kind=1 then (eqn:Int) else enn) - 1)=false∨(two e=true∧inR e.b 0 (enn - 1)=false)∨inR e.side 0 1=false then 3 else 0
structure NumsOk (eqn enn:Nat) (e:Entry):Prop where
 kind:e.kind=1∨e.kind=2∨e.kind=3∨e.kind=4∨e.kind=5
 a0:0≤e.a
 given:e.kind=1→e.a.toNat < eqn
 other:e.kind≠1→e.a.toNat < enn
 b:e.kind=4∨e.kind=5→0≤e.b∧e.b.toNat < enn
 side:e.side=0∨(e.kind=4∧e.side=1)
 zero:e.kind≠4→e.kind≠5→e.b=0∧e.place=0
theorem numsOk {eqn enn:Nat} {e:Entry} (h:q4d eqn enn e=0):NumsOk eqn enn e:=by
 unfold q4d at h
 by_cases h1:inR e.kind 1 5=false
 · rw [if_pos h1] at h; cases h
 rw [if_neg h1] at h
 by_cases h2:(two e=false∧(e.b≠0∨e.place≠0))∨(e.kind≠4∧e.side≠0)
 · rw [if_pos h2] at h; cases h
 rw [if_neg h2] at h
 by_cases h3:inR e.a 0 ((if e.kind=1 then (eqn:Int) else enn) - 1)=false∨(two e=true∧inR e.b 0 (enn - 1)=false)∨inR e.side 0 1=false
 · rw [if_pos h3] at h; cases h
 have h1:=q7k.1 (by simpa using h1:inR e.kind 1 5=true)
 have h4:inR e.a 0 ((if e.kind=1 then (eqn:Int) else enn) - 1)=true:=by
  cases hx:inR e.a 0 ((if e.kind=1 then (eqn:Int) else enn) - 1) with
  | true=>rfl
  | false=>exact absurd (Or.inl hx) h3
 have h5:inR e.side 0 1=true:=by
  cases hx:inR e.side 0 1 with
  | true=>rfl
  | false=>exact absurd (Or.inr (Or.inr hx)) h3
 have h4:=q7k.1 h4
 have h5:=q7k.1 h5
 refine ⟨by omega,by omega,fun hk => ?_,fun hk => ?_,fun hk => ?_,?_,fun q1 q2 => ?_⟩
 · rw [if_pos hk] at h4; omega
 · rw [if_neg hk] at h4; omega
 · have ht:two e=true:=by unfold two; rcases hk with hk | hk <;> simp [hk]
   have:inR e.b 0 (enn - 1)=true:=by
    cases hx:inR e.b 0 ((enn:Int) - 1) with
    | true=>rfl
    | false=>exact absurd (Or.inr (Or.inl ⟨ht,hx⟩)) h3
   have:=q7k.1 this
   omega
 · by_cases hk:e.kind=4
   · omega
   · left
     by_cases hs:e.side=0
     · exact hs
     · exact absurd (Or.inr ⟨hk,hs⟩) h2
 · have ht:two e=false:=by unfold two; simp [q1,q2]
   by_cases hb:e.b=0
   · by_cases hp:e.place=0
     · exact ⟨hb,hp⟩
     · exact absurd (Or.inl ⟨ht,Or.inr hp⟩) h2
   · exact absurd (Or.inl ⟨ht,Or.inl hb⟩) h2
noncomputable def derR (l:List Symbol) (eqs:List Equation) (ents:List Entry) (e:Entry):EquationResult :=
 if q4d eqs.length ents.length e≠0 then ⟨q4d eqs.length ents.length e,⟨[],[]⟩⟩
 else if e.kind=1 then ⟨0,eqs.getD e.a.toNat ⟨[],[]⟩⟩
 else if e.kind=2 then ⟨0,⟨(ents.getD e.a.toNat ⟨0,0,0,0,0,[],[]⟩).right,(ents.getD e.a.toNat ⟨0,0,0,0,0,[],[]⟩).left⟩⟩
 else if e.kind=3 then ⟨0,plainE (eqOf (ents.getD e.a.toNat ⟨0,0,0,0,0,[],[]⟩))⟩
 else if e.kind=5 then q9q ⟨l⟩ (eqOf (ents.getD e.a.toNat ⟨0,0,0,0,0,[],[]⟩)) (eqOf (ents.getD e.b.toNat ⟨0,0,0,0,0,[],[]⟩)) e.place
 else if e.side=0 then
  ⟨(q4r ⟨l⟩ [eqOf (ents.getD e.b.toNat ⟨0,0,0,0,0,[],[]⟩)] 0 e.place (ents.getD e.a.toNat ⟨0,0,0,0,0,[],[]⟩).left).code,
   ⟨(q4r ⟨l⟩ [eqOf (ents.getD e.b.toNat ⟨0,0,0,0,0,[],[]⟩)] 0 e.place (ents.getD e.a.toNat ⟨0,0,0,0,0,[],[]⟩).left).term,(ents.getD e.a.toNat ⟨0,0,0,0,0,[],[]⟩).right⟩⟩
 else
  ⟨(q4r ⟨l⟩ [eqOf (ents.getD e.b.toNat ⟨0,0,0,0,0,[],[]⟩)] 0 e.place (ents.getD e.a.toNat ⟨0,0,0,0,0,[],[]⟩).right).code,
   ⟨(ents.getD e.a.toNat ⟨0,0,0,0,0,[],[]⟩).left,(q4r ⟨l⟩ [eqOf (ents.getD e.b.toNat ⟨0,0,0,0,0,[],[]⟩)] 0 e.place (ents.getD e.a.toNat ⟨0,0,0,0,0,[],[]⟩).right).term⟩⟩
theorem getN {es:List Entry} {k:Nat} (h:k < es.length):es.getD k ⟨0,0,0,0,0,[],[]⟩=es[k]:=by rw [List.getD_eq_getElem?_getD,List.getElem?_eq_getElem h]; rfl
theorem rewriteAt_ok {l:List Symbol} {e:Equation} (he:EqOk l e) {t:List Int} (ht:TermOk l t) (hlow:∀ n∈t,-6≤n) {p:Int} (h:(q4r ⟨l⟩ [e] 0 p t).code=0):TermOk l (q4r ⟨l⟩ [e] 0 p t).term∧∀ n∈(q4r ⟨l⟩ [e] 0 p t).term,-6≤n:=by
 unfold q4r at h ⊢
 split at h
 · rename_i h1; exact absurd h h1
 rename_i h1
 rw [if_neg h1]
 split at h
 · cases h
 rename_i h2
 rw [if_neg h2]
 have h3:inR p 0 (t.length - 1)=true:=by
  cases hx:inR p 0 ((t.length:Int) - 1) with
  | true=>rfl
  | false=>exact absurd (.inr hx) h2
 have h3:=q7k.1 h3
 exact ⟨stepAt_ok he ht (by omega) h,stepAt_low he hlow⟩
theorem peakOf_ok {l:List Symbol} (ok:SigOk ⟨l⟩) {o i:Equation} (ho:EqOk l o) (hi:EqOk l i) {p:Int} (h0:(q9q ⟨l⟩ o i p).code=0):EqOk l (q9q ⟨l⟩ o i p).equation:=by
 unfold q9q at h0 ⊢
 split at h0
 · rename_i h1; exact absurd h0 h1
 rename_i h1
 rw [if_neg h1]
 split at h0
 · cases h0
 rename_i h2
 rw [if_neg h2]
 split at h0
 · cases h0
 rename_i h3
 rw [if_neg h3]
 have h2:=q7k.1 (Bool.not_eq_false _ ▸ h2:inR p 0 (o.left.length - 1)=true)
 exact peakR_ok ok ho hi (by omega) h0
theorem pstep_mem {seen:List Int} {n m:Int} (h:m∈(pstep seen n).2):m∈seen∨(m=n∧n < 0):=by
 unfold pstep at h
 split at h
 · exact .inl h
 split at h
 · rcases List.mem_append.1 h with h | h
   · exact .inl h
   · exact .inr ⟨List.mem_singleton.1 h,by omega⟩
 · exact .inl h
theorem pstep_nodup {seen:List Int} {n:Int} (h:seen.Nodup):(pstep seen n).2.Nodup:=by
 unfold pstep
 split
 · exact h
 split
 · rename_i h1
   rw [q9n] at h1
   rw [List.nodup_append]
   exact ⟨h,by simp,fun a ha b hb=>by rw [List.mem_singleton.1 hb]; exact fun e=>h1 (e ▸ ha)⟩
 · exact h
theorem plainL_seen:∀ (t seen:List Int),seen.Nodup→(∀ m∈seen,-6≤m∧m < 0)→(∀ n∈t,-6≤n)→(q3b seen t).2.Nodup∧∀ m∈(q3b seen t).2,-6≤m∧m < 0
 | [],seen,h1,h2,_=>⟨h1,h2⟩
 | n::t,seen,h1,h2,h3=>by
   rw [q3b]
   refine plainL_seen t _ (pstep_nodup h1) (fun m hm => ?_) (fun m hm=>h3 m (List.mem_cons_of_mem _ hm))
   rcases pstep_mem hm with h | ⟨rfl,h⟩
   · exact h2 m h
   · exact ⟨h3 m (by simp),h⟩
theorem nodup_sub:∀ {s t:List Int},s.Nodup→s ⊆ t→s.length≤t.length
 | [],t,_,_=>Nat.zero_le _
 | x::s,t,h,hs=>by
   have hx:x∈t:=hs (by simp)
   rw [List.nodup_cons] at h
   have h1:s ⊆ t.erase x:=fun y hy=>by
    refine (List.mem_erase_of_ne (fun (e:y=x)=>h.1 (by rw [← e]; exact hy))).2 (hs (List.mem_cons_of_mem _ hy))
   have h2:=nodup_sub h.2 h1
   rw [List.length_erase_of_mem hx] at h2
   have:=List.length_pos_of_mem hx
   rw [List.length_cons]
   omega
theorem six {s:List Int} (h1:s.Nodup) (h2:∀ m∈s,-6≤m∧m < 0):s.length≤6:=by
 have:s ⊆ [-6,-5,-4,-3,-2,-1]:=fun m hm=>by
  have:=h2 m hm
  simp only [List.mem_cons,List.not_mem_nil,or_false]
  omega
 exact nodup_sub h1 this
theorem seen_six {l:List Symbol} {e:Equation} (he:EqOk l e):(seenE e).length≤6:=by
 obtain ⟨h1,h2⟩:=plainL_seen e.left [] (by simp) (by simp) he.lowL
 obtain ⟨h3,h4⟩:=plainL_seen e.right _ h1 h2 he.lowR
 exact six h3 h4
theorem derR_ok {l:List Symbol} (ok:SigOk ⟨l⟩) {eqs:List Equation} {ents:List Entry} {e:Entry} (hq:∀ x∈eqs,EqOk l x) (he:∀ x∈ents,EqOk l (eqOf x)) (h:(derR l eqs ents e).code=0):EqOk l (derR l eqs ents e).equation:=by
 unfold derR at h ⊢
 split at h
 · rename_i h1; exact absurd h h1
 rename_i h1
 rw [if_neg h1]
 have nk:=numsOk (Classical.not_not.1 h1)
 split at h
 · rename_i k1
   rw [if_pos k1,getE (nk.given k1)]
   exact hq _ (List.getElem_mem _)
 rename_i k1
 rw [if_neg k1,getN (nk.other k1)]
 have hea:=he _ (List.getElem_mem (nk.other k1))
 split at h
 · rename_i k2
   rw [if_pos k2]
   exact ⟨hea.right,hea.left,hea.lowR,hea.lowL⟩
 rename_i k2
 rw [if_neg k2]
 split at h
 · rename_i k3
   rw [if_pos k3]
   exact plain_ok hea.left hea.right (seen_six hea)
 rename_i k3
 rw [if_neg k3]
 have hk4:e.kind=4∨e.kind=5:=by rcases nk.kind with h | h | h | h | h <;> simp_all
 have heb:=he _ (List.getElem_mem (nk.b hk4).2)
 rw [getN (nk.b hk4).2]
 rw [getN (nk.b hk4).2,getN (nk.other k1)] at h
 split at h
 · rename_i k5
   rw [if_pos k5]
   exact peakOf_ok ok hea heb h
 rename_i k5
 rw [if_neg k5]
 split at h
 · rename_i k6
   rw [if_pos k6]
   obtain ⟨q1,q2⟩:=rewriteAt_ok heb hea.left hea.lowL h
   exact ⟨q1,hea.right,q2,hea.lowR⟩
 · rename_i k6
   rw [if_neg k6]
   obtain ⟨q1,q2⟩:=rewriteAt_ok heb hea.right hea.lowR h
   exact ⟨hea.left,q1,hea.lowL,q2⟩
end Ev.Ty
end
section
namespace Ev.Ty
open Go Ev
open Enc (enc)
open Sm (sm)
set_option linter.unusedSimpArgs false
set_option linter.unusedVariables false
theorem q6a {eqn enn:Nat} (h1:eqn≤4294967296) (h2:enn≤4294967296) (e:Entry):Call F.q6a [.int .i64 eqn,.int .i64 enn,.rref (enc e) 0] (.int .i64 (q4d eqn enn e)):=by
 obtain ⟨k,a,b,p,s,le,ri⟩:=e
 refine q0m rfl 0 ((q6a.ev _ _ _ _ _ _ _ _ _ _).trans ?_)
 simp only [evz,Nat.reduceLT,(q1j _ _ _).eq,q3e (x:=(eqn:Int) - 1) (by omega),q3e (x:=(enn:Int) - 1) (by omega),q4d,two]
 cases h0:inR k 1 5 with
 | false=>simp only [evz,Nat.reduceLT,Bool.not_false]
 | true =>
   simp only [evz,Nat.reduceLT,Bool.not_true,reduceCtorEq]
   by_cases k4:k=4
   · subst k4
     cases q1:inR a 0 (enn - 1) <;> cases q2:inR b 0 (enn - 1) <;> cases q3:inR s 0 1 <;> simp [evz,Nat.reduceLT,q1,q2,q3]
   by_cases k5:k=5
   · subst k5
     by_cases s0:s=0
     · subst s0
       cases q1:inR a 0 (enn - 1) <;> cases q2:inR b 0 (enn - 1) <;> cases q3:inR 0 0 1 <;> simp [evz,Nat.reduceLT,q1,q2,q3]
     · simp [evz,Nat.reduceLT,s0]
   by_cases b0:b=0
   case neg=>simp [evz,Nat.reduceLT,k4,k5,b0]
   by_cases p0:p=0
   case neg=>simp [evz,Nat.reduceLT,k4,k5,b0,p0]
   by_cases s0:s=0
   case neg=>simp [evz,Nat.reduceLT,k4,k5,b0,p0,s0]
   subst b0 p0 s0
   by_cases k1:k=1
   · subst k1
     cases q1:inR a 0 (eqn - 1) <;> cases q3:inR 0 0 1 <;> simp [evz,Nat.reduceLT,q1,q3]
   · cases q1:inR a 0 (enn - 1) <;> cases q3:inR 0 0 1 <;> simp [evz,Nat.reduceLT,k1,k4,k5,q1,q3]
theorem EqOk.small {l:List Symbol} {e:Equation} (h:EqOk l e):sm 1048576 e:=⟨⟨by have:=h.left.le; omega,fun _ _=>trivial⟩,⟨by have:=h.right.le; omega,fun _ _=>trivial⟩⟩
theorem one_small {e:Equation} (h:sm 1048576 e):sm 1048576 [e]:=⟨by simp,fun y hy=>by rw [List.mem_singleton.1 hy]; exact h⟩
theorem ent_small {l:List Symbol} {e:Entry} (h:EqOk l (eqOf e)):sm 4294967296 e:=⟨q3a (by omega) h.small.1,q3a (by omega) h.small.2⟩
def made (e:Entry) (r:EquationResult):Entry:=if r.code≠0 then ⟨0,0,0,0,0,[],[]⟩ else ⟨e.kind,e.a,e.b,e.place,e.side,r.equation.left,r.equation.right⟩
section
variable {l:List Symbol} (ok:SigOk ⟨l⟩) (hs:sm 1048576 (Signature.mk l)) {eqs:List Equation} {ents:List Entry} (hq:∀ x∈eqs,EqOk l x) (he:∀ x∈ents,EqOk l (eqOf x)) (hql:eqs.length≤12) (hel:ents.length≤500)
include ok hs hq he hql hel
theorem q6x (e:Entry) :
 Call F.q6x [.rref [slc l] 0,slc eqs,slc ents,.rref (enc e) 0] (.tup [.agg [slc (derR l eqs ents e).equation.left,slc (derR l eqs ents e).equation.right],.int .i64 (derR l eqs ents e).code]):=by
 have hn:=(q6a (eqn:=eqs.length) (enn:=ents.length) (by omega) (by omega) e).eq
 obtain ⟨k,a,b,p,s,le,ri⟩:=e
 rw [q57] at hn
 refine q0m rfl 0 ((q6x.ev _ _ _ _ _ _ _ _ _ _ _).trans ?_)
 simp only [evz,Nat.reduceLT,hn,derR]
 by_cases h:q4d eqs.length ents.length ⟨k,a,b,p,s,le,ri⟩=0
 case neg=>simp only [h,evz,Nat.reduceLT,ne_eq,not_false_eq_true,q4q]
 have nk:=numsOk h
 obtain ⟨n1,n2,n3,n4,n5,n6,n7⟩:=nk
 simp only at n1 n2 n3 n4 n5 n6 n7
 obtain ⟨a,rfl⟩:∃ a':Nat,a=a':=⟨a.toNat,by omega⟩
 simp only [h,evz,Nat.reduceLT,ne_eq,not_true_eq_false]
 by_cases k1:k=1
 · subst k1
   have ha:a < eqs.length:=by have:=n3 rfl; omega
   have hlk:eqs[a]?=some eqs[a]:=List.getElem?_eq_getElem ha
   have ho:=(hq _ (List.getElem_mem ha)).small
   have hc:Call F.q9p [.rref [slc eqs[a].left,slc eqs[a].right] 0] (.agg [slc eqs[a].left,slc eqs[a].right]):=by
    refine q0m rfl 0 ((q9p.ev _ _ _).trans ?_)
    simp only [evz,Nat.reduceLT,(q38 eqs[a].left (by have:=ho.1.1; omega)).eq,(q38 eqs[a].right (by have:=ho.2.1; omega)).eq]
   simp only [evz,Nat.reduceLT,ha,q52 (k:=2) (i:=a) rfl hlk,q3d,hc.eq,getE ha]
 have ha:a < ents.length:=by have:=n4 k1; omega
 have hla:ents[a]?=some ents[a]:=List.getElem?_eq_getElem ha
 have hea:=he _ (List.getElem_mem ha)
 simp only [evz,Nat.reduceLT,k1,ha,q52 (k:=7) (i:=a) rfl hla,(q44 ents[a] (ent_small hea)).eq,getN ha]
 by_cases k2:k=2
 · subst k2
   simp only [evz,Nat.reduceLT]
 by_cases k3:k=3
 · subst k3
   have hsx:=seen_six hea
   have:=hea.left.le
   have:=hea.right.le
   have hp:=(q1p ents[a].left ents[a].right (by have:ents[a].left.length≤24:=hea.left.le; omega) (by have:ents[a].right.length≤24:=hea.right.le; omega)).eq
   have hsx':(seenE ⟨ents[a].left,ents[a].right⟩).length≤6:=hsx
   rw [if_pos hsx',if_pos hsx'] at hp
   simp only [evz,Nat.reduceLT,hp]
   rfl
 have k45:k=4∨k=5:=by omega
 obtain ⟨b0,b1⟩:=n5 k45
 obtain ⟨b,rfl⟩:∃ b':Nat,b=b':=⟨b.toNat,by omega⟩
 have hb:b < ents.length:=by omega
 have hlb:ents[b]?=some ents[b]:=List.getElem?_eq_getElem hb
 have heb:=he _ (List.getElem_mem hb)
 simp only [evz,Nat.reduceLT,k2,k3,hb,q52 (k:=7) (i:=b) rfl hlb,(q44 ents[b] (ent_small heb)).eq,getN hb]
 by_cases k5:k=5
 · subst k5
   have hp:LIM F.q7e [.agg [slc l],.agg [slc ents[a].left,slc ents[a].right],.agg [slc ents[b].left,slc ents[b].right],.int .i64 p]=some (.agg (enc (q9q ⟨l⟩ (eqOf ents[a]) (eqOf ents[b]) p)),[]):=(q7e ⟨l⟩ (eqOf ents[a]) (eqOf ents[b]) p hs hea.small heb.small).eq
   rw [q2n] at hp
   simp only [evz,Nat.reduceLT,hp]
 simp only [evz,Nat.reduceLT,k5]
 by_cases s0:s=0
 · subst s0
   have hp:LIM F.q4l [.agg [slc l],.sl 2 [slc ents[b].left,slc ents[b].right],.int .i64 0,.int .i64 p,slc ents[a].left]=some (.agg (enc (q4r ⟨l⟩ [eqOf ents[b]] 0 p ents[a].left)),[]):=(q4l ⟨l⟩ [eqOf ents[b]] 0 p ents[a].left hs (one_small heb.small) hea.small.1).eq
   rw [q3m] at hp
   simp only [evz,Nat.reduceLT,hp]
 · have hp:LIM F.q4l [.agg [slc l],.sl 2 [slc ents[b].left,slc ents[b].right],.int .i64 0,.int .i64 p,slc ents[a].right]=some (.agg (enc (q4r ⟨l⟩ [eqOf ents[b]] 0 p ents[a].right)),[]):=(q4l ⟨l⟩ [eqOf ents[b]] 0 p ents[a].right hs (one_small heb.small) hea.small.2).eq
   rw [q3m] at hp
   simp only [evz,Nat.reduceLT,s0,hp]
theorem derive5 (n:Nat) (k a b p s:Int) (le ri:List Int) (h:q4d eqs.length ents.length ⟨k,a,b,p,s,le,ri⟩=0) :
 q0t.j5 n (cells eqs) (cells ents) (cells l) k a b p s (cells le) (cells ri) 0 0 0 0 0=some (.tup [.agg (enc (made ⟨k,a,b,p,s,le,ri⟩ (derR l eqs ents ⟨k,a,b,p,s,le,ri⟩))),.int .i64 (derR l eqs ents ⟨k,a,b,p,s,le,ri⟩).code],[]):=by
 have nk:=numsOk h
 obtain ⟨n1,n2,n3,n4,n5,n6,n7⟩:=nk
 simp only at n1 n2 n3 n4 n5 n6 n7
 obtain ⟨a,rfl⟩:∃ a':Nat,a=a':=⟨a.toNat,by omega⟩
 have ho:∀ x y:List Int,x.length≤4294967296→y.length≤4294967296→Call F.q3v [.agg [slc x,slc y]] (.agg [slc x,slc y]):=fun x y h1 h2=>by
  refine q0m rfl 0 ((q3v.ev _ _ _).trans ?_)
  simp only [evz,Nat.reduceLT,(q2q x h1).eq,(q2q y h2).eq]
 simp only [q0t.j5,q0t.j6,q0t.j7,made,derR,h,evz,Nat.reduceLT,ne_eq,not_true_eq_false]
 by_cases k1:k=1
 · subst k1
   have ha:a < eqs.length:=by have:=n3 rfl; omega
   have hlk:eqs[a]?=some eqs[a]:=List.getElem?_eq_getElem ha
   have hsm:=(hq _ (List.getElem_mem ha)).small
   have hc:=(ho eqs[a].left eqs[a].right (by have:=hsm.1.1; omega) (by have:=hsm.2.1; omega)).eq
   simp only [q0t.j8,evz,Nat.reduceLT,ha,hlk,q3d,hc,getE ha,q57,not_true_eq_false]
 have ha:a < ents.length:=by have:=n4 k1; omega
 have hla:ents[a]?=some ents[a]:=List.getElem?_eq_getElem ha
 have hea:=he _ (List.getElem_mem ha)
 have hsa:=hea.small
 have la:ents[a].left.length≤24:=hea.left.le
 have lr:ents[a].right.length≤24:=hea.right.le
 have hee:=entry_eqn ents[a]
 rw [q57] at hee
 simp only [q0t.j9,evz,Nat.reduceLT,k1,getN ha]
 by_cases k2:k=2
 · subst k2
   have hc:=(ho ents[a].right ents[a].left (by omega) (by omega)).eq
   simp only [q0t.j10,evz,Nat.reduceLT,ha,hla,q57,hc,not_true_eq_false]
 simp only [q0t.j11,evz,Nat.reduceLT,k2]
 by_cases k3:k=3
 · subst k3
   have hp:=(q0e ents[a].left ents[a].right (by have:=hsa.1.1; have:ents[a].left.length≤24:=hea.left.le; omega) (by have:ents[a].right.length≤24:=hea.right.le; omega)).eq
   simp only [q0t.j12,evz,Nat.reduceLT,ha,hla,q57,hee.eq,hp,not_true_eq_false]
   rfl
 have k45:k=4∨k=5:=by omega
 obtain ⟨b0,b1⟩:=n5 k45
 obtain ⟨b,rfl⟩:∃ b':Nat,b=b':=⟨b.toNat,by omega⟩
 have hb:b < ents.length:=by omega
 have hlb:ents[b]?=some ents[b]:=List.getElem?_eq_getElem hb
 have heb:=he _ (List.getElem_mem hb)
 have hef:=entry_eqn ents[b]
 rw [q57] at hef
 simp only [q0t.j13,evz,Nat.reduceLT,k3,getN hb]
 by_cases k4:k=4
 · subst k4
   have hc:=(ho ents[a].left ents[a].right (by omega) (by omega)).eq
   simp only [q0t.j14,q0t.j15,q0t.j16,q0t.j17,q0t.j18,q0t.j19,evz,Nat.reduceLT,ha,hla,hb,hlb,q57,hee.eq,hef.eq,hc]
   rcases n6 with s0 | ⟨_,s1⟩
   · subst s0
     have hp:LIM F.q4m [.agg [slc l],.sl 2 [slc ents[b].left,slc ents[b].right],.int .i64 0,.int .i64 p,slc ents[a].left]=some (.agg (enc (q4r ⟨l⟩ [eqOf ents[b]] 0 p ents[a].left)),[]):=(q4m ⟨l⟩ [eqOf ents[b]] 0 p ents[a].left hs (one_small heb.small) hea.small.1).eq
     rw [q3m] at hp
     simp only [evz,Nat.reduceLT,hp]
     by_cases hcd:(q4r ⟨l⟩ [eqOf ents[b]] 0 p ents[a].left).code=0 <;> simp [evz,Nat.reduceLT,hcd,q4q]
   · subst s1
     have hp:LIM F.q4m [.agg [slc l],.sl 2 [slc ents[b].left,slc ents[b].right],.int .i64 0,.int .i64 p,slc ents[a].right]=some (.agg (enc (q4r ⟨l⟩ [eqOf ents[b]] 0 p ents[a].right)),[]):=(q4m ⟨l⟩ [eqOf ents[b]] 0 p ents[a].right hs (one_small heb.small) hea.small.2).eq
     rw [q3m] at hp
     simp only [evz,Nat.reduceLT,hp]
     by_cases hcd:(q4r ⟨l⟩ [eqOf ents[b]] 0 p ents[a].right).code=0 <;> simp [evz,Nat.reduceLT,hcd,q4q]
 have k5:k=5:=by omega
 subst k5
 have hp:LIM F.q7a [.agg [slc l],.agg [slc ents[a].left,slc ents[a].right],.agg [slc ents[b].left,slc ents[b].right],.int .i64 p]=some (.agg (enc (q9q ⟨l⟩ (eqOf ents[a]) (eqOf ents[b]) p)),[]):=(q7a ⟨l⟩ (eqOf ents[a]) (eqOf ents[b]) p hs hea.small heb.small).eq
 rw [q2n] at hp
 simp only [q0t.j20,q0t.j21,evz,Nat.reduceLT,ha,hla,hb,hlb,q57,hee.eq,hef.eq,hp]
 by_cases hcd:(q9q ⟨l⟩ (eqOf ents[a]) (eqOf ents[b]) p).code=0 <;> simp [evz,Nat.reduceLT,hcd,q4q]
theorem q0t (e:Entry) :
 Call F.q0t [.agg [slc l],slc eqs,slc ents,.agg (enc e)] (.tup [.agg (enc (made e (derR l eqs ents e))),.int .i64 (derR l eqs ents e).code]):=by
 obtain ⟨k,a,b,p,s,le,ri⟩:=e
 rw [q57]
 refine q0m rfl 0 ((q0t.ev _ _ _ _ _ _ _ _ _ _ _).trans ?_)
 have good:=derive5 ok hs hq he hql hel 0 k a b p s le ri
 have bad:∀ c:Int,c≠0→q4d eqs.length ents.length ⟨k,a,b,p,s,le,ri⟩=c →
  (some (.tup [.agg [.int .i64 0,.int .i64 0,.int .i64 0,.int .i64 0,.int .i64 0,.sl 1 [],.sl 1 []],.int .i64 c],[]):R)=some (.tup [.agg (enc (made ⟨k,a,b,p,s,le,ri⟩ (derR l eqs ents ⟨k,a,b,p,s,le,ri⟩))),.int .i64 (derR l eqs ents ⟨k,a,b,p,s,le,ri⟩).code],[]):=fun c hc h=>by
  have e1:derR l eqs ents ⟨k,a,b,p,s,le,ri⟩=⟨c,⟨[],[]⟩⟩:=by unfold derR; rw [h,if_pos hc]
  rw [e1]
  simp only [made,ne_eq,hc,not_false_eq_true,if_true,q57]
  rfl
 generalize (some (T.tup [.agg (enc (made ⟨k,a,b,p,s,le,ri⟩ (derR l eqs ents ⟨k,a,b,p,s,le,ri⟩))),.int .i64 (derR l eqs ents ⟨k,a,b,p,s,le,ri⟩).code],[]):R)=G at *
 simp only [evz,Nat.reduceLT,(q36 _ _ _).eq]
 cases h0:inR k 1 5 with
 | false =>
   simp only [evz,Nat.reduceLT,Bool.not_false]
   have:=bad 1 (by decide) (by simp [q4d,h0])
   by_cases k4:k=4 <;> simp only [evz,Nat.reduceLT,k4,this]
 | true =>
   simp only [evz,Nat.reduceLT,Bool.not_true,reduceCtorEq,q0t.j0,q0t.j1,q0t.j2,q0t.j3,q0t.j4,(q36 _ _ _).eq,q3e (x:=(eqs.length:Int) - 1) (by omega),q3e (x:=(ents.length:Int) - 1) (by omega)]
   by_cases k4:k=4
   · subst k4
     cases q1:inR a 0 (ents.length - 1) with
     | false =>
       simp only [evz,Nat.reduceLT,q1,Bool.not_true,Bool.not_false]
       exact bad 3 (by decide) (by simp [q4d,two,h0,q1])
     | true =>
       cases q2:inR b 0 (ents.length - 1) with
       | false =>
         simp only [evz,Nat.reduceLT,q1,q2,Bool.not_true,Bool.not_false]
         exact bad 3 (by decide) (by simp [q4d,two,h0,q1,q2])
       | true =>
         cases q3:inR s 0 1 with
         | false =>
           simp only [evz,Nat.reduceLT,q1,q2,q3,Bool.not_true,Bool.not_false]
           exact bad 3 (by decide) (by simp [q4d,two,h0,q1,q2,q3])
         | true =>
           simp only [evz,Nat.reduceLT,q1,q2,q3,Bool.not_true,Bool.not_false]
           exact good (by simp [q4d,two,h0,q1,q2,q3,show inR 0 0 1=true from rfl])
   by_cases k5:k=5
   · subst k5
     by_cases s0:s=0
     · subst s0
       cases q1:inR a 0 (ents.length - 1) with
       | false =>
         simp only [evz,Nat.reduceLT,q1,Bool.not_true,Bool.not_false,show inR 0 0 1=true from rfl]
         exact bad 3 (by decide) (by simp [q4d,two,h0,q1])
       | true =>
         cases q2:inR b 0 (ents.length - 1) with
         | false =>
           simp only [evz,Nat.reduceLT,q1,q2,Bool.not_true,Bool.not_false,show inR 0 0 1=true from rfl]
           exact bad 3 (by decide) (by simp [q4d,two,h0,q1,q2])
         | true =>
           simp only [evz,Nat.reduceLT,q1,q2,Bool.not_true,Bool.not_false,show inR 0 0 1=true from rfl]
           exact good (by simp [q4d,two,h0,q1,q2,show inR 0 0 1=true from rfl])
     · simp only [evz,Nat.reduceLT,s0]
       exact bad 1 (by decide) (by simp [q4d,two,h0,s0])
   by_cases b0:b=0
   case neg =>
    simp only [evz,Nat.reduceLT,k4,k5,b0]
    exact bad 1 (by decide) (by simp [q4d,two,h0,k4,k5,b0])
   by_cases p0:p=0
   case neg =>
    simp only [evz,Nat.reduceLT,k4,k5,b0,p0]
    exact bad 1 (by decide) (by simp [q4d,two,h0,k4,k5,b0,p0])
   by_cases s0:s=0
   case neg =>
    simp only [evz,Nat.reduceLT,k4,k5,b0,p0,s0]
    exact bad 1 (by decide) (by simp [q4d,two,h0,k4,k5,b0,p0,s0])
   subst b0 p0 s0
   by_cases k1:k=1
   · subst k1
     cases q1:inR a 0 (eqs.length - 1) with
     | false =>
       simp only [evz,Nat.reduceLT,q1,Bool.not_true,Bool.not_false,show inR 0 0 1=true from rfl]
       exact bad 3 (by decide) (by simp [q4d,two,h0,q1])
     | true =>
       simp only [evz,Nat.reduceLT,q1,Bool.not_true,Bool.not_false,show inR 0 0 1=true from rfl]
       exact good (by simp [q4d,two,h0,q1,show inR 0 0 1=true from rfl])
   · skip
     cases q1:inR a 0 (ents.length - 1) with
     | false =>
       simp only [evz,Nat.reduceLT,q1,Bool.not_true,Bool.not_false,k1,k4,k5,show inR 0 0 1=true from rfl]
       exact bad 3 (by decide) (by simp [q4d,two,h0,k1,k4,k5,q1])
     | true =>
       simp only [evz,Nat.reduceLT,q1,Bool.not_true,Bool.not_false,k1,k4,k5,show inR 0 0 1=true from rfl]
       exact good (by simp [q4d,two,h0,k1,k4,k5,q1,show inR 0 0 1=true from rfl])
end
noncomputable def chkN (l:List Symbol) (eqs:List Equation) (ents:List Entry):Nat→Nat→Int
 | 0,_=>0
 | n+1,k=>if (derR l eqs (ents.take k) (ents.getD k ⟨0,0,0,0,0,[],[]⟩)).code≠0 then (derR l eqs (ents.take k) (ents.getD k ⟨0,0,0,0,0,[],[]⟩)).code
   else if (derR l eqs (ents.take k) (ents.getD k ⟨0,0,0,0,0,[],[]⟩)).equation=eqOf (ents.getD k ⟨0,0,0,0,0,[],[]⟩) then chkN l eqs ents n (k+1) else 8
noncomputable def qac (s:Signature) (eqs:List Equation) (ents:List Entry):Int :=
 if q41 s≠0 then q41 s else if q6m s.symbols eqs≠0 then q6m s.symbols eqs else if 500 < ents.length then 2 else chkN s.symbols eqs ents ents.length 0
theorem take_getE {ents:List Entry} {k:Nat} (h:k < ents.length):ents.take (k+1)=ents.take k++[ents[k]]:=by
 rw [List.take_add_one,List.getElem?_eq_getElem h]; rfl
theorem chkN_ok {l:List Symbol} (ok:SigOk ⟨l⟩) {eqs:List Equation} (hq:∀ x∈eqs,EqOk l x) {ents:List Entry}:∀ {n k:Nat},k+n=ents.length→(∀ x∈ents.take k,EqOk l (eqOf x))→chkN l eqs ents n k=0→∀ x∈ents,EqOk l (eqOf x)
 | 0,k,hk,h,_=>by rw [List.take_of_length_le (by omega)] at h; exact h
 | n+1,k,hk,h,h0=>by
   have hlt:k < ents.length:=by omega
   rw [chkN,getN hlt] at h0
   by_cases c:(derR l eqs (ents.take k) ents[k]).code=0
   · rw [if_neg (by simpa using c)] at h0
     by_cases e:(derR l eqs (ents.take k) ents[k]).equation=eqOf ents[k]
     · rw [if_pos e] at h0
       refine chkN_ok ok hq (by omega) (fun x hx => ?_) h0
       rw [take_getE hlt] at hx
       rcases List.mem_append.1 hx with hx | hx
       · exact h x hx
       · rw [List.mem_singleton.1 hx,← e]
         exact derR_ok ok hq h c
     · rw [if_neg e] at h0; cases h0
   · rw [if_pos c] at h0; exact absurd h0 c
theorem checkR_ok {l:List Symbol} {eqs:List Equation} {ents:List Entry} (h:qac ⟨l⟩ eqs ents=0):SigOk ⟨l⟩∧eqs.length≤12∧(∀ x∈eqs,EqOk l x)∧ents.length≤500∧∀ x∈ents,EqOk l (eqOf x):=by
 unfold qac at h
 by_cases h1:q41 ⟨l⟩=0
 · rw [if_neg (by simpa using h1)] at h
   by_cases h2:q6m l eqs=0
   · rw [if_neg (by simpa using h2)] at h
     by_cases h3:500 < ents.length
     · rw [if_pos h3] at h; cases h
     · rw [if_neg h3] at h
       have ok:=(q9j _).1 h1
       obtain ⟨q1,q2⟩:=qah.1 h2
       exact ⟨ok,q1,q2,by omega,chkN_ok ok q2 (by omega) (by simp) h⟩
   · rw [if_pos h2] at h; exact absurd h h2
 · rw [if_pos h1] at h; exact absurd h h1
theorem win_take {ents:List Entry} {k:Nat}:((cells ents).take (k*7)).drop (0*7)=cells (ents.take k):=by rw [Nat.zero_mul,List.drop_zero,q7i ents 7 k rfl]
theorem win_guard {k n:Nat} (h:k≤n):(decide (0≤(0:Int))&&decide ((0:Int)≤(k:Nat))&&decide ((k:Int)≤(n:Nat)))=true:=by
 simp; omega
theorem eqn_iff {e:Entry} {q:Equation} (h:q.left=e.left):q=eqOf e↔q.right=e.right:=by
 unfold eqOf
 obtain ⟨a,b⟩:=q
 simp only at h
 subst h
 simp
section
variable {l:List Symbol} (ok:SigOk ⟨l⟩) (hs:sm 1048576 (Signature.mk l)) {eqs:List Equation} (hq:∀ x∈eqs,EqOk l x) (hql:eqs.length≤12) {ents:List Entry} (hel:ents.length≤500)
include ok hs hq hql hel
theorem spec_check {N:Nat} :
 ∀ n k f,k+n=ents.length→n < f→(∀ x∈ents.take k,EqOk l (eqOf x))→q2f.at0 N f (q2f.st0 (cells l) (cells eqs) (cells ents) (k:Nat))=some (.int .i64 (chkN l eqs ents n k),[])
 | n,k,0,hk,hf,hok=>by omega
 | 0,k,f+1,hk,hf,hok=>by
   simp only [q2f.next0,q2f.round0,evz,Nat.reduceLT,show ¬ k < ents.length by omega,chkN]
 | n+1,k,f+1,hk,hf,hok=>by
   have hlt:k < ents.length:=by omega
   have hlk:ents[k]?=some ents[k]:=List.getElem?_eq_getElem hlt
   have hd:=(q6x ok hs hq hok hql (by rw [List.length_take]; omega) ents[k]).eq
   simp only [q2f.next0,q2f.round0,evz,Nat.reduceLT,hlt,hlk,win_take,q52 (k:=7) (i:=k) rfl hlk,q57] at hd ⊢
   rw [q16 (win_guard (Nat.le_of_lt hlt))]
   simp only [evz,Nat.reduceLT,hd]
   rw [chkN,getN hlt]
   by_cases c:(derR l eqs (ents.take k) ents[k]).code=0
   case neg=>simp only [c,evz,Nat.reduceLT,ne_eq,not_false_eq_true]
   have hdo:=derR_ok ok hq hok c
   simp only [c,evz,Nat.reduceLT,ne_eq,not_true_eq_false,(q26 _ _ (q3a (by omega) hdo.small.1)).eq,(q26 _ _ (q3a (by omega) hdo.small.2)).eq]
   by_cases c1:(derR l eqs (ents.take k) ents[k]).equation.left=ents[k].left
   case neg =>
    have c2:¬ (derR l eqs (ents.take k) ents[k]).equation=eqOf ents[k]:=fun h=>c1 (by rw [h]; rfl)
    simp only [c1,c2,evz,Nat.reduceLT,decide_false,Bool.not_false]
   by_cases c2:(derR l eqs (ents.take k) ents[k]).equation.right=ents[k].right
   case neg =>
    have c3:¬ (derR l eqs (ents.take k) ents[k]).equation=eqOf ents[k]:=fun h=>c2 ((eqn_iff c1).1 h)
    simp only [c1,c2,c3,evz,Nat.reduceLT,decide_false,decide_true,Bool.not_false,Bool.not_true]
   rw [if_pos ((eqn_iff c1).2 c2)]
   simp only [c1,c2,evz,Nat.reduceLT,decide_true,Bool.not_true]
   rw [q0o (by omega)]
   refine spec_check n (k+1) f (by omega) (by omega) (fun x hx => ?_)
   rw [take_getE hlt] at hx
   rcases List.mem_append.1 hx with hx | hx
   · exact hok x hx
   · rw [List.mem_singleton.1 hx,← (eqn_iff c1).2 c2]
     exact hdo
theorem impl_check {N:Nat} :
 ∀ n k f,k+n=ents.length→n < f→(∀ x∈ents.take k,EqOk l (eqOf x))→q12.at0 N f (q12.st0 (cells eqs) (cells ents) (cells ents) ents.length (k:Nat) (cells l))=some (.int .i64 (chkN l eqs ents n k),[])
 | n,k,0,hk,hf,hok=>by omega
 | 0,k,f+1,hk,hf,hok=>by
   simp only [q12.next0,q12.round0,evz,Nat.reduceLT,show ¬ k < ents.length by omega,chkN]
 | n+1,k,f+1,hk,hf,hok=>by
   have hlt:k < ents.length:=by omega
   have hlk:ents[k]?=some ents[k]:=List.getElem?_eq_getElem hlt
   have hd:=(q0t ok hs hq hok hql (by rw [List.length_take]; omega) ⟨ents[k].kind,ents[k].a,ents[k].b,ents[k].place,ents[k].side,[],[]⟩).eq
   have e0:derR l eqs (ents.take k) ⟨ents[k].kind,ents[k].a,ents[k].b,ents[k].place,ents[k].side,[],[]⟩=derR l eqs (ents.take k) ents[k]:=rfl
   rw [e0] at hd
   simp only [q12.next0,q12.round0,evz,Nat.reduceLT,hlt,hlk,win_take,q57,q4q] at hd ⊢
   rw [q16 (win_guard (Nat.le_of_lt hlt))]
   simp only [evz,Nat.reduceLT,hd]
   rw [chkN,getN hlt]
   by_cases c:(derR l eqs (ents.take k) ents[k]).code=0
   case neg=>simp only [c,evz,Nat.reduceLT,ne_eq,not_false_eq_true]
   have hdo:=derR_ok ok hq hok c
   have h1:=entry_eqn (made ⟨ents[k].kind,ents[k].a,ents[k].b,ents[k].place,ents[k].side,[],[]⟩ (derR l eqs (ents.take k) ents[k]))
   have h2:=entry_eqn ents[k]
   rw [q57] at h1 h2
   have e1:(made ⟨ents[k].kind,ents[k].a,ents[k].b,ents[k].place,ents[k].side,[],[]⟩ (derR l eqs (ents.take k) ents[k])).left=(derR l eqs (ents.take k) ents[k]).equation.left:=by unfold made; rw [if_neg (by simpa using c)]
   have e2:(made ⟨ents[k].kind,ents[k].a,ents[k].b,ents[k].place,ents[k].side,[],[]⟩ (derR l eqs (ents.take k) ents[k])).right=(derR l eqs (ents.take k) ents[k]).equation.right:=by unfold made; rw [if_neg (by simpa using c)]
   have h3:=q5i (derR l eqs (ents.take k) ents[k]).equation.left (derR l eqs (ents.take k) ents[k]).equation.right ents[k].left ents[k].right (q3a (by omega) hdo.small)
   rw [e1,e2] at h1
   simp only [c,evz,Nat.reduceLT,ne_eq,not_true_eq_false,e1,e2,h1.eq,h2.eq,h3.eq]
   by_cases c1:(derR l eqs (ents.take k) ents[k]).equation=eqOf ents[k]
   case neg =>
    have c2:¬ (Equation.mk (derR l eqs (ents.take k) ents[k]).equation.left (derR l eqs (ents.take k) ents[k]).equation.right)=Equation.mk ents[k].left ents[k].right:=c1
    simp only [c1,c2,evz,Nat.reduceLT,decide_false,Bool.not_false]
   have c2:(Equation.mk (derR l eqs (ents.take k) ents[k]).equation.left (derR l eqs (ents.take k) ents[k]).equation.right)=Equation.mk ents[k].left ents[k].right:=c1
   rw [if_pos c1]
   simp only [c2,evz,Nat.reduceLT,decide_true,Bool.not_true]
   rw [q0o (by omega)]
   refine impl_check n (k+1) f (by omega) (by omega) (fun x hx => ?_)
   rw [take_getE hlt] at hx
   rcases List.mem_append.1 hx with hx | hx
   · exact hok x hx
   · rw [List.mem_singleton.1 hx,← c1]
     exact hdo
end
theorem q4o (s:Signature) (eqs:List Equation) (ents:List Entry) (hs:sm 1048576 s) (hq:sm 1048576 eqs) (he:sm 1048576 ents) :
 Call F.q4o [.agg (enc s),slc eqs,slc ents] (.int .i64 (qac s eqs ents)):=by
 obtain ⟨l⟩:=s
 show Call F.q4o [.agg [slc l],slc eqs,slc ents] _
 refine q0m rfl 0 ((q4o.ev _ _ _ _).trans ?_)
 have hsl:l.length≤4294967296:=Nat.le_trans hs.1 (by omega)
 simp only [evz,Nat.reduceLT,(q50 l hsl eqs (q3a (by omega) hq)).eq,qac]
 by_cases h1:q41 ⟨l⟩=0
 case neg=>simp only [h1,evz,Nat.reduceLT,ne_eq,not_false_eq_true]
 have ok:=(q9j _).1 h1
 by_cases h2:q6m l eqs=0
 case neg=>simp only [h1,h2,evz,Nat.reduceLT,ne_eq,not_false_eq_true,not_true_eq_false]
 obtain ⟨q1,q2⟩:=qah.1 h2
 have hc:Call F.q2f [.rref [slc l] 0,slc eqs,slc ents] (.int .i64 (if 500 < ents.length then 2 else chkN l eqs ents ents.length 0)):=by
  refine q0m rfl (ents.length+1) ((q2f.ev _ _ _ _).trans ?_)
  simp only [evz,Nat.reduceLT,gt_iff_lt]
  by_cases h3:500 < ents.length
  · have h3':(500:Int) < ents.length:=by omega
    simp only [h3,h3',evz,Nat.reduceLT]
  · have h3':¬ (500:Int) < ents.length:=by omega
    simp only [h3,h3',evz,Nat.reduceLT]
    exact spec_check ok hs q2 q1 (by omega) ents.length 0 _ (by omega) (by omega) (by simp)
 simp only [h1,h2,evz,Nat.reduceLT,ne_eq,not_true_eq_false,hc.eq]
theorem q12 (s:Signature) (eqs:List Equation) (ents:List Entry) (hs:sm 1048576 s) (hq:sm 1048576 eqs) (he:sm 1048576 ents) :
 Call F.q12 [.agg (enc s),slc eqs,slc ents] (.int .i64 (qac s eqs ents)):=by
 obtain ⟨l⟩:=s
 show Call F.q12 [.agg [slc l],slc eqs,slc ents] _
 refine q0m rfl (ents.length+1) ((q12.ev _ _ _ _).trans ?_)
 have hsl:l.length≤4294967296:=Nat.le_trans hs.1 (by omega)
 simp only [evz,Nat.reduceLT,(q0v l hsl eqs (q3a (by omega) hq)).eq,qac,gt_iff_lt]
 by_cases h1:q41 ⟨l⟩=0
 case neg=>simp only [h1,evz,Nat.reduceLT,ne_eq,not_false_eq_true]
 have ok:=(q9j _).1 h1
 by_cases h2:q6m l eqs=0
 case neg=>simp only [h1,h2,evz,Nat.reduceLT,ne_eq,not_false_eq_true,not_true_eq_false]
 obtain ⟨q1,q2⟩:=qah.1 h2
 by_cases h3:500 < ents.length
 · have h3':(500:Int) < ents.length:=by omega
   simp only [h1,h2,h3,h3',evz,Nat.reduceLT,ne_eq,not_true_eq_false]
 · have h3':¬ (500:Int) < ents.length:=by omega
   simp only [h1,h2,h3,h3',evz,Nat.reduceLT,ne_eq,not_true_eq_false]
   exact impl_check ok hs q2 q1 (by omega) ents.length 0 _ (by omega) (by omega) (by simp)
end Ev.Ty
end
section
namespace Ev.Ty
open Go Ev
open Enc (enc)
open Sm (sm)
set_option linter.unusedSimpArgs false
set_option linter.unusedVariables false
theorem orderFault_ok {l:List Symbol} {o:List Int} (h:q74 ⟨l⟩ o=0):q41 ⟨l⟩=0∧orderF l o=0:=by
 unfold q74 at h
 split at h
 · rename_i h1; exact absurd h h1
 · rename_i h1; exact ⟨by simpa using h1,h⟩
def byteOf (x:Int):UInt8:=UInt8.ofNat (IntKind.wrap .u8 x).toNat
theorem wrap_u8 (x:Int):IntKind.wrap .u8 x=((byteOf x).toNat:Int):=by
 have h:0≤IntKind.wrap .u8 x∧IntKind.wrap .u8 x < 256:=by
  show 0≤x % 256∧x % 256 < 256
  omega
 unfold byteOf
 rw [UInt8.toNat_ofNat']
 omega
def nodeByte (n:Int):UInt8:=if n < 0 then byteOf (IntKind.wrap .i64 (31 - n)) else byteOf (IntKind.wrap .i64 (n+1))
def packT (t:List Int):List UInt8:=t.map nodeByte
theorem q2a (t:List Int) (ht:t.length≤4294967296):Call F.q2a [slc t] (slc (packT t)):=by
 refine q0m rfl (t.length+1) ((q2a.ev _ _).trans ?_)
 simp only [evz,Nat.reduceLT]
 have key:=q86 (n:=t.length) (f:=t.length+1) (S:=fun m k (o:List UInt8)=>q2a.at0 (t.length+1) m (q2a.st0 (cells t) t.length (k:Nat) (cells o))) (st:=fun k=>packT (t.take k)) (z:=some (slc (packT t),[]))
  (fun m k h => ?_) (fun m => ?_) (by omega)
 · simpa [packT] using key
 · have hlk:t[k]?=some t[k]:=List.getElem?_eq_getElem h
   have e:packT (t.take (k+1))=packT (t.take k)++[nodeByte t[k]]:=by
    have hk:t.take (k+1)=t.take k++[t[k]]:=(List.take_append_getElem h).symm
    unfold packT
    rw [hk,List.map_append]; rfl
   rw [e]
   have hl:(cells (packT (t.take k))).length+1≤4294967297:=by rw [q0s]; simp [packT,show Enc.sz UInt8=1 from rfl]; omega
   simp only [q2a.next0,q2a.round0,evz,Nat.reduceLT,h,hlk,q1x,nodeByte]
   rw [q0o (by omega),wrap_u8,q99,wrap_u8,q99]
   by_cases hn:t[k] < 0
   · rw [if_pos hn,if_pos hn,q16 (q4p (by omega))]
   · rw [if_neg hn,if_neg hn,q16 (q4p (by omega))]
 · simp only [q2a.next0,q2a.round0,evz,Nat.reduceLT,Nat.lt_irrefl,List.take_length]
theorem q2b (t:List Int) (ht:t.length≤4294967296):Call F.q2b [slc t] (slc (packT t)):=by
 refine q0m rfl (t.length+1) ((q2b.ev _ _).trans ?_)
 have key:=q86 (n:=t.length) (f:=t.length+1) (S:=fun m k (o:List UInt8)=>q2b.at0 (t.length+1) m (q2b.st0 (cells t) (k:Nat) (cells o))) (st:=fun k=>packT (t.take k)) (z:=some (slc (packT t),[]))
  (fun m k h => ?_) (fun m => ?_) (by omega)
 · simpa [packT] using key
 · have hlk:t[k]?=some t[k]:=List.getElem?_eq_getElem h
   have e:packT (t.take (k+1))=packT (t.take k)++[nodeByte t[k]]:=by
    have hk:t.take (k+1)=t.take k++[t[k]]:=(List.take_append_getElem h).symm
    unfold packT
    rw [hk,List.map_append]; rfl
   rw [e]
   have hl:(cells (packT (t.take k))).length+1≤4294967297:=by rw [q0s]; simp [packT,show Enc.sz UInt8=1 from rfl]; omega
   simp only [q2b.next0,q2b.round0,evz,Nat.reduceLT,h,hlk,q1x,nodeByte]
   rw [q0o (by omega),wrap_u8,q99,wrap_u8,q99]
   by_cases hn:t[k] < 0
   · rw [if_pos hn,if_pos hn,q16 (q4p (by omega))]
   · rw [if_neg hn,if_neg hn,q16 (q4p (by omega))]
 · simp only [q2b.next0,q2b.round0,evz,Nat.reduceLT,Nat.lt_irrefl,List.take_length]
end Ev.Ty
end
section
namespace Ev.Ty
open Go Ev
open Enc (enc)
open Sm (sm)
set_option linter.unusedSimpArgs false
set_option linter.unusedVariables false
theorem nil_sm {α:Type} [Sm α] (n:Nat):sm n ([]:List α):=⟨by simp,by simp⟩
theorem own_eq (x y:List Int) (h1:x.length≤4294967296) (h2:y.length≤4294967296):Call F.q3v [.agg [slc x,slc y]] (.agg [slc x,slc y]):=by
 refine q0m rfl 0 ((q3v.ev _ _ _).trans ?_)
 simp only [evz,Nat.reduceLT,(q2q x h1).eq,(q2q y h2).eq]
theorem impl_copies {eqs:List Equation} (hq:sm 1048576 eqs):Call F.q19 [slc eqs] (slc eqs):=by
 have hl:eqs.length≤1048576:=hq.1
 refine q0m rfl (eqs.length+1) ((q19.ev _ _).trans ?_)
 simp only [evz,Nat.reduceLT]
 have key:=q86 (n:=eqs.length) (f:=eqs.length+1) (S:=fun m k (q:List Equation)=>q19.at0 (eqs.length+1) m (q19.st0 (cells eqs) eqs.length (k:Nat) (cells q)))
  (st:=fun k=>eqs.take k) (z:=some (slc eqs,[])) (fun m k h => ?_) (fun m => ?_) (Nat.lt_succ_self _)
 · rw [List.take_zero] at key
   exact key
 · have hlk:eqs[k]?=some eqs[k]:=List.getElem?_eq_getElem h
   have hsm:=hq.2 _ (List.getElem_mem h)
   have hc:=own_eq eqs[k].left eqs[k].right (by have:=hsm.1.1; omega) (by have:=hsm.2.1; omega)
   have hst:cells (eqs.take (k+1))=cells (eqs.take k)++[slc eqs[k].left,slc eqs[k].right]:=by
    rw [List.take_add_one,hlk,q35]
    rfl
   have hlen:(eqs.take k).length≤1048576:=by rw [List.length_take]; omega
   simp only [q19.next0,q19.round0,evz,Nat.reduceLT,h,hlk,q3d,hc.eq]
   rw [q16 (q4p (by rw [q0s,q39]; omega)),q0o (by omega),hst]
 · simp only [q19.next0,q19.round0,evz,Nat.reduceLT,Nat.lt_irrefl,List.take_length]
section
variable {l:List Symbol} (ok:SigOk ⟨l⟩) (hs:sm 1048576 (Signature.mk l)) {eqs:List Equation} (hqs:sm 1048576 eqs) (hq:∀ x∈eqs,EqOk l x) (hql:eqs.length≤12) {o:List Int} (ho:sm 1048576 o)
include ok hs hqs hq hql ho
end
end Ev.Ty
end
