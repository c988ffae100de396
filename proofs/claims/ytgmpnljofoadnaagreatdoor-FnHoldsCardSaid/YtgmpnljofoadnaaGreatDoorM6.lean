/- Steps on the way to RowHolds: TyDrawG, TyRead, TyPool, TyDrawB, TyUnifyP, TyPeakP, TyUnify, TyUnify2, TyPeak, TyPeak2, TyPeaks, TyAllPeaks, TyUnjoined, TyDeriveP, TyDerive, TyNewC, TyOrient, TyDraw8, TyLParts, TyLRedexes, TyLHolds. -/
import Derived.Test.YtgmpnljofoadnaaGreatDoorM5
set_option linter.unusedSectionVars false
set_option linter.unusedVariables false
set_option linter.unusedSimpArgs false
section
namespace Ev.Ty
open Go Ev
open Enc (enc)
open Sm (sm)
set_option linter.unusedSimpArgs false
set_option linter.unusedVariables false
set_option maxHeartbeats 1000000
def ba (l:List UInt8):ByteArray:=ByteArray.mk l.toArray
def sigA:List Symbol:=[⟨ba [101],0⟩,⟨ba [105],1⟩,⟨ba [109],2⟩,⟨ba [97],0⟩]
def sigB:List Symbol:=[⟨ba [97],0⟩,⟨ba [115,117,99],1⟩,⟨ba [97,100,100],2⟩,⟨ba [98],0⟩]
def sigC:List Symbol:=[⟨ba [97],0⟩,⟨ba [102],1⟩,⟨ba [103],1⟩]
def sigD:List Symbol:=[⟨ba [97],0⟩,⟨ba [98],0⟩,⟨ba [101],0⟩,⟨ba [109],2⟩,⟨ba [105],1⟩,⟨ba [115,117,99],1⟩]
def sigE:List Symbol:=[⟨ba [97],0⟩]
theorem sigA_ok:SigOk ⟨sigA⟩:=q6z (by decide)
theorem sigB_ok:SigOk ⟨sigB⟩:=q6z (by decide)
theorem sigC_ok:SigOk ⟨sigC⟩:=q6z (by decide)
theorem sigD_ok:SigOk ⟨sigD⟩:=q6z (by decide)
theorem sigE_ok:SigOk ⟨sigE⟩:=q6z (by decide)
theorem name_small {b:ByteArray} (h:nameOk b=true):b.size≤3:=by
 unfold nameOk at h
 rw [Bool.and_eq_true,decide_eq_true_iff] at h
 exact h.1.2
theorem SigOk.small {l:List Symbol} (ok:SigOk ⟨l⟩):sm 7 (Signature.mk l):=⟨Nat.le_trans ok.le (by omega),fun x hx=>Nat.le_trans (name_small (ok.name x hx)) (by omega)⟩
theorem perm_swap (o:List Int) {i:Nat} (h:i+1 < o.length):((o.set i o[i+1]).set (i+1) (o[i]'(by omega))).Perm o:=by
 obtain ⟨A,x,y,B,rfl,rfl⟩:∃ A x y B,o=A++x::y::B∧A.length=i:=by
  refine ⟨o.take i,o[i],o[i+1],o.drop (i+2),?_,by rw [List.length_take]; omega⟩
  rw [← List.drop_eq_getElem_cons h,← List.drop_eq_getElem_cons (by omega),List.take_append_drop]
 have e1:(A++x::y::B)[A.length+1]=y:=by simp [List.getElem_append_right]
 have e2:(A++x::y::B)[A.length]'(by simp)=x:=by simp [List.getElem_append_right]
 rw [e1,e2,List.set_append_right _ _ (Nat.le_refl _),List.set_append_right _ _ (by omega)]
 simp only [Nat.sub_self,List.set_cons_zero,show A.length+1 - A.length=1 by omega,List.set_cons_succ]
 exact (List.Perm.swap x y B).append_left A
def Places (l:List Symbol) (o:List Int):Prop:=o.Perm (rise l.length)
theorem Places.order {l:List Symbol} {o:List Int} (h:Places l o):orderF l o=0:=by
 have hl:o.length=l.length:=by have:=h.length_eq; rwa [q9g] at this
 have hm:∀ n∈o,0≤n∧n < l.length:=fun n hn=>by
  have:=(h.mem_iff).1 hn
  unfold rise at this
  obtain ⟨k,hk,rfl⟩:=List.mem_map.1 this
  have:=List.mem_range.1 hk
  omega
 have hd:o.Nodup:=by
  refine (h.nodup_iff).2 ?_
  unfold rise
  rw [List.Nodup,List.pairwise_map]
  exact List.nodup_range.imp fun {a b} hab e=>hab (Int.ofNat_inj.1 e)
 unfold orderF
 rw [if_neg (by omega),if_neg,if_neg]
 · unfold twice; simpa using hd
 · rw [Bool.not_eq_true,List.any_eq_false]
   intro n hn
   obtain ⟨a,b⟩:=hm n hn
   unfold inR
   simp; omega
section
variable {code:List UInt8} (hc:code.length≤2097152)
include hc
theorem q7f (p:Int) (hp:0≤p∧p≤1099511000000):Drawn code p 1 (fun x=>∃ l:List Symbol,x = .agg [slc l]∧SigOk ⟨l⟩) (LIM F.q7f [.rref [slc code,.int .i64 p] 0]):=by
 refine q7s rfl 0 ?_
 rw [show callK prog A H LIM 0 F.q7f [.rref [slc code,.int .i64 p] 0]=_ from q7f.ev _ _ _]
 refine next_s hc (by omega) fun v h1 h2 => ?_
 simp only [evz,Nat.reduceLT]
 have leaf:∀ l:List Symbol,SigOk ⟨l⟩→Drawn code p 1 (fun x=>∃ l:List Symbol,x = .agg [slc l]∧SigOk ⟨l⟩) (some (.agg [slc l],[.agg [slc code,.int .i64 (p+1)]])):=fun l hl=>q4m (by omega) ⟨l,rfl,hl⟩
 repeat' split
 all_goals first | exact leaf sigA sigA_ok | exact leaf sigB sigB_ok | exact leaf sigC sigC_ok | exact leaf sigD sigD_ok | exact leaf sigE sigE_ok
omit hc in
theorem set_sym {l:List Symbol} {i:Nat} (hi:i < l.length) (n:ByteArray):setCells (cells l) (i*2) [.str n]=cells (l.set i ⟨n,l[i].arity⟩):=by
 have:=fset_gen (o:=l) (i:=i) (n:=2) (j:=0) (x:=l[i]) (x':=⟨n,l[i].arity⟩) (c := .str n) rfl hi (by decide) (by rw [q28,q28]; rfl)
 rwa [set_same (List.getElem?_eq_getElem hi)] at this
omit hc in
theorem set_ar {l:List Symbol} {i:Nat} (hi:i < l.length) (n:Int):setCells (cells l) (i*2+1) [.int .i64 n]=cells (l.set i ⟨l[i].name,n⟩):=by
 have:=fset_gen (o:=l) (i:=i) (n:=2) (j:=1) (x:=l[i]) (x':=⟨l[i].name,n⟩) (c := .int .i64 n) rfl hi (by decide) (by rw [q28,q28]; rfl)
 rwa [set_same (List.getElem?_eq_getElem hi)] at this
theorem q10 (p:Int) (hp:0≤p∧p≤1099511000000):Drawn code p 5 (fun x=>∃ l:List Symbol,x = .agg [slc l]∧sm 7 (Signature.mk l)) (LIM F.q10 [.rref [slc code,.int .i64 p] 0]):=by
 refine q7s rfl 10 ?_
 rw [show callK prog A H LIM 10 F.q10 [.rref [slc code,.int .i64 p] 0]=_ from q10.ev _ _ _]
 refine q6a (q7f hc p (by omega)) ?_
 rintro _ p1 a1 b1 ⟨l,rfl,ok⟩
 have hle:=ok.le
 have hpos:=ok.pos
 simp only at hle hpos
 have sml:=ok.small
 have leaf:∀ (l:List Symbol) (p2:Int),p≤p2∧p2≤p+5→sm 7 (Signature.mk l)→Drawn code p 5 (fun x=>∃ l:List Symbol,x = .agg [slc l]∧sm 7 (Signature.mk l)) (some (.agg [slc l],[.agg [slc code,.int .i64 p2]])):=fun l p2 h hl=>q4m h ⟨l,rfl,hl⟩
 have setS:∀ (i:Nat) (y:Symbol),y.name.size≤7→sm 7 (Signature.mk (l.set i y)):=fun i y hy=>⟨by show (l.set i y).length≤7; rw [List.length_set]; omega,fun x hx=>by
  rcases List.mem_or_eq_of_mem_set hx with h | rfl
  · exact sml.2 x h
  · exact hy⟩
 simp only [evz,Nat.reduceLT]
 refine q7t hc (by omega) fun b => ?_
 simp only [evz,Nat.reduceLT]
 cases b with
 | false=>simp only [evz,Nat.reduceLT,Bool.not_false]; exact leaf l _ (by omega) sml
 | true =>
   simp only [evz,Nat.reduceLT,Bool.not_true]
   refine next_s hc (by omega) fun v h1 h2 => ?_
   simp only [evz,Nat.reduceLT]
   split
   · exact leaf [] _ (by omega) ⟨by simp,by simp⟩
   split
   · rw [q27 (by omega),show (l.length:Int) - 1=((l.length - 1:Nat):Int) by omega]
     have hi:l.length - 1 < l.length:=by omega
     have z:(l.length - 1)*2+1≤l.length*2:=by omega
     simp only [evz,Nat.reduceLT,hi,cells_le,q8x,z,set_sym hi]
     exact leaf _ _ (by omega) (setS _ _ (show (ba [97,98,99,100]).size≤7 by decide))
   split
   · refine next_s hc (by omega) fun x k1 k2 => ?_
     obtain ⟨i,rfl⟩:∃ i:Nat,x=i:=⟨x.toNat,by omega⟩
     have hi:i < l.length:=by have:=k2 (by omega); omega
     have z:i*2+1≤l.length*2:=by omega
     simp only [evz,Nat.reduceLT,hi,cells_le,q8x,z,set_sym hi]
     exact leaf _ _ (by omega) (setS _ _ (show (ba [97,66]).size≤7 by decide))
   split
   · refine next_s hc (by omega) fun x k1 k2 => ?_
     obtain ⟨i,rfl⟩:∃ i:Nat,x=i:=⟨x.toNat,by omega⟩
     have hi:i < l.length:=by have:=k2 (by omega); omega
     simp only [evz,Nat.reduceLT]
     refine pick_s hc [3,-1] rfl (by simp) (by omega) fun y hy => ?_
     have z:i*2+1+1≤l.length*2:=by omega
     simp only [evz,Nat.reduceLT,hi,cells_le,q8x,z,set_ar hi]
     exact leaf _ _ (by omega) (setS _ _ (sml.2 l[i] (List.getElem_mem hi)))
   split
   · have h0:0 < l.length:=by omega
     have e0:inB 0 l.length=true:=(q7a 0 _).trans (by simpa using h0)
     have g0:(cells l)[0]?=some (.str l[0].name):=by
      have:=get0 (l:=l) (k:=2) (i:=0) rfl
      rw [Nat.zero_mul] at this
      rw [this,List.getElem?_eq_getElem h0]; rfl
     have g1:(cells l)[1]?=some (.int .i64 l[0].arity):=by
      have:=get1 (l:=l) (k:=2) (i:=0) rfl (by decide)
      rw [Nat.zero_mul,Nat.zero_add] at this
      rw [this,List.getElem?_eq_getElem h0]; rfl
     simp only [evz,Nat.reduceLT,e0,g0,g1]
     rw [q26 (q3s (by rw [q0u]; simp only [q8x]; omega))]
     have e9:cells l++[.str l[0].name,.int .i64 l[0].arity]=cells (l++[l[0]]):=by rw [q3b,q84]; rfl
     rw [e9]
     refine leaf _ _ (by omega) ⟨by show (l++[l[0]]).length≤7; simp; omega,fun x hx => ?_⟩
     rcases List.mem_append.1 hx with h | h
     · exact sml.2 x h
     · rw [List.mem_singleton.1 h]; exact sml.2 _ (List.getElem_mem h0)
   split
   · refine q5x (σ:=Nat × List Symbol) (S:=fun m s=>q10.at3 10 m (q10.st3 l.length (s.1:Nat) (cells code) (p1+1+1) (cells s.2))) (fun s=>s.1≤l.length∧s.2.length=l.length∧sm 7 (Signature.mk s.2)) (fun s=>l.length - s.1) (fun m s hs => ?_) _ (0,l) ⟨by simp,rfl,sml⟩ (by simp only; omega)
     obtain ⟨k,o⟩:=s
     obtain ⟨q1,q2,q3⟩:=hs
     simp only at q1 q2 q3 ⊢
     by_cases hk:k < l.length
     · right
       have hko:k < o.length:=by omega
       have z:k*2+1+1≤o.length*2:=by omega
       refine ⟨(k+1,o.set k ⟨o[k].name,1⟩),?_,⟨by simp only; omega,by simp [q2],⟨by show (o.set k _).length≤7; rw [List.length_set]; omega,fun x hx => ?_⟩⟩,by simp only; omega⟩
       · simp only [q10.next3,q10.round3,evz,Nat.reduceLT,hk,hko,cells_le,q8x,z,set_ar hko]
         rw [q0m (by omega)]
       · rcases List.mem_or_eq_of_mem_set hx with h | rfl
         · exact q3.2 x h
         · exact q3.2 o[k] (List.getElem_mem hko)
     · left
       simp only [q10.next3,q10.round3,evz,Nat.reduceLT,hk]
       exact leaf _ _ (by omega) q3
   refine q5x (σ:=List Symbol) (S:=fun m s=>q10.at1 10 m (q10.st1 (cells code) (p1+1+1) (cells s))) (fun s=>s.length≤7∧sm 7 (Signature.mk s)) (fun s=>7 - s.length) (fun m s hs => ?_) _ l ⟨by omega,sml⟩ (by omega)
   obtain ⟨k1,k2⟩:=hs
   by_cases hk:s.length < 7
   · right
     have hk2:((s.length:Nat):Int) < 7:=by omega
     refine ⟨s++[⟨ba [122],0⟩],?_,⟨by simp; omega,⟨by show (s++_).length≤7; simp; omega,fun x hx => ?_⟩⟩,by simp; omega⟩
     · simp only [q10.next1,q10.round1,evz,Nat.reduceLT,hk2]
       rw [q26 (q3s (by rw [q0u]; simp only [q8x]; omega)),q3b,q84]
       rfl
     · rcases List.mem_append.1 hx with h | h
       · exact k2.2 x h
       · rw [List.mem_singleton.1 h]; show (ba [122]).size≤7; decide
   · left
     have hk2:¬ ((s.length:Nat):Int) < 7:=by omega
     simp only [q10.next1,q10.round1,evz,Nat.reduceLT,hk2]
     exact leaf _ _ (by omega) k2
theorem q11 (p:Int) (hp:0≤p∧p≤1099511000000) (l:List Symbol) (hl:l.length≤1000):Drawn code p 4 (fun x=>∃ o,x=slc o∧Places l o) (LIM F.q11 [.rref [slc code,.int .i64 p] 0,.agg [slc l]]):=by
 refine q7s rfl 10 ?_
 rw [show callK prog A H LIM 10 F.q11 [.rref [slc code,.int .i64 p] 0,.agg [slc l]]=_ from q11.ev _ _ _ _]
 simp only [evz,Nat.reduceLT,(q29 l.length (by omega)).eq]
 refine next_s hc (by omega) fun v h1 h2 => ?_
 simp only [evz,Nat.reduceLT]
 refine q5x (σ:=Int × Int × List Int) (S:=fun m s=>q11.at0 10 m (q11.st0 s.1 (cells code) s.2.1 (cells s.2.2))) (fun s=>0≤s.1∧s.1≤3∧p≤s.2.1∧s.2.1≤p+1+(3 - s.1)∧Places l s.2.2) (fun s=>s.1.toNat) (fun m s hs => ?_) _ (v,p+1,rise l.length) ⟨h1,by simp only; omega,by simp only; omega,by simp only; omega,List.Perm.refl _⟩ (by simp only; omega)
 obtain ⟨a,q,o⟩:=s
 obtain ⟨k1,k2,k3,k4,k5⟩:=hs
 simp only at k1 k2 k3 k4 k5 ⊢
 have hol:o.length=l.length:=by have:=k5.length_eq; rwa [q9g] at this
 by_cases ha:a > 0
 · by_cases ho:((o.length:Nat):Int) > 1
   · right
     obtain ⟨x,e,x1,x2⟩:=q22 hc q ((o.length:Int) - 1) (by omega)
     obtain ⟨i,rfl⟩:∃ i:Nat,x=i:=⟨x.toNat,by omega⟩
     have hi:i+1 < o.length:=by have:=x2 (by omega); omega
     have hi0:i < o.length:=by omega
     refine ⟨(a - 1,q+1,(o.set i o[i+1]).set (i+1) o[i]),?_,⟨by simp only; omega,by simp only; omega,by simp only; omega,by simp only; omega,(perm_swap o hi).trans k5⟩,by simp only; omega⟩
     have z1:i*1+1≤o.length*1:=by omega
     have z2:(i+1)*1+1≤o.length*1:=by omega
     simp only [q11.next0,q11.round0,evz,Nat.reduceLT,ha,ho]
     rw [q27 (x:=(o.length:Int) - 1) (by omega)]
     have hi':i+1 < (o.set i o[i+1]).length:=by rw [List.length_set]; exact hi
     simp only [evz,Nat.reduceLT,e,q0m (show i < 9223372036854775807 by omega),hi,hi0,List.getElem?_eq_getElem,q1r,cells_le,q3l,z1,set_Int hi0,List.length_set,z2,set_Int hi']
     rw [q27 (x:=a - 1) (by omega)]
   · left
     simp only [q11.next0,q11.round0,evz,Nat.reduceLT,ha,ho]
     exact q4m (by omega) ⟨o,rfl,k5⟩
 · left
   simp only [q11.next0,q11.round0,evz,Nat.reduceLT,ha]
   exact q4m (by omega) ⟨o,rfl,k5⟩
theorem q13 (p most vars:Int) (l:List Symbol) (hl:l.length≤1000) (hm:1≤most∧most≤1000) (hv:0≤vars∧vars≤12) (hp:0≤p∧p≤1099510000000) :
 Drawn code p 3200 (fun x=>∃ t:List Int,x=slc t∧t.length≤1001) (LIM F.q13 [.rref [slc code,.int .i64 p] 0,.rref [slc l] 0,.int .i64 most,.int .i64 vars]):=by
 have leaf:∀ (t:List Int) (p2:Int),p≤p2∧p2≤p+3200→t.length≤1001→Drawn code p 3200 (fun x=>∃ t:List Int,x=slc t∧t.length≤1001) (some (slc t,[.agg [slc code,.int .i64 p2]])):=fun t p2 h hl=>q4m h ⟨t,rfl,hl⟩
 refine q7s rfl 30 ?_
 rw [show callK prog A H LIM 30 F.q13 [.rref [slc code,.int .i64 p] 0,.rref [slc l] 0,.int .i64 most,.int .i64 vars]=_ from q13.ev _ _ _ _ _ _]
 simp only [evz,Nat.reduceLT]
 split
 · exact leaf [0] p (by omega) (by simp)
 simp only [(q00 l (by omega)).eq,evz,Nat.reduceLT]
 split
 case isFalse=>exact leaf [0] p (by omega) (by simp)
 rename_i hs
 have ok:=q6z hs
 refine q6a (q0c hc ok p most vars hm hv (by omega)) ?_
 rintro _ p1 a1 b1 ⟨t,rfl,g⟩
 have tl:=g.le
 have tp:=g.pos
 simp only [evz,Nat.reduceLT]
 refine q7t hc (by omega) fun b => ?_
 simp only [evz,Nat.reduceLT]
 cases b with
 | false=>simp only [evz,Nat.reduceLT,Bool.not_false]; exact leaf t _ (by omega) (by omega)
 | true =>
   simp only [evz,Nat.reduceLT,Bool.not_true]
   refine next_s hc (by omega) fun v h1 h2 => ?_
   simp only [evz,Nat.reduceLT]
   split
   · rw [q27 (by omega),show (t.length:Int) - 1=((t.length - 1:Nat):Int) by omega]
     have z1:(0:Int)≤((t.length - 1:Nat):Int):=by omega
     have z2:((t.length - 1:Nat):Int)≤(t.length:Int):=by omega
     simp only [evz,Nat.reduceLT,z1,z2,Bool.and_self]
     rw [cells_take t 1 _ rfl]
     exact leaf _ _ (by omega) (by rw [List.length_take]; omega)
   split
   · rw [q26 (q3s (by rw [q0u]; simp only [q3l]; omega)),q2j]
     exact leaf _ _ (by omega) (by simp; omega)
   split
   · refine next_s hc (by omega) fun x k1 k2 => ?_
     obtain ⟨i,rfl⟩:∃ i:Nat,x=i:=⟨x.toNat,by omega⟩
     have hi:i < t.length:=by have:=k2 (by omega); omega
     simp only [evz,Nat.reduceLT]
     refine pick_s hc [(l.length:Int),-13,-12] rfl (by simp) (by omega) fun y hy => ?_
     have z:i*1+1≤t.length*1:=by omega
     simp only [evz,Nat.reduceLT,hi,cells_le,q3l,z,set_Int hi]
     exact leaf _ _ (by omega) (by rw [List.length_set]; omega)
   refine q5x (σ:=Nat × Int × List Int) (S:=fun m s=>q13.at1 30 m (q13.st1 (s.1:Nat) (cells code) s.2.1 (cells s.2.2))) (fun s=>s.1≤25∧s.2.2.length=s.1∧p≤s.2.1∧s.2.1=p1+1+1+2*(s.1:Int)) (fun s=>25 - s.1) (fun m s hs => ?_) _ (0,p1+1+1,[]) ⟨by simp,rfl,by simp only; omega,by simp⟩ (by simp)
   obtain ⟨k,q,o⟩:=s
   obtain ⟨q1,q2,q3,q4⟩:=hs
   simp only at q1 q2 q3 q4 ⊢
   obtain ⟨x,hx,e⟩:=q2w hc q [24,25] (ts:=[.int .i64 24,.int .i64 25]) rfl (by simp) (by omega)
   have hx':x≤25:=by simp only [List.mem_cons,List.not_mem_nil,or_false] at hx; omega
   by_cases hk:(k:Int) < x
   · right
     obtain ⟨y,hy,e'⟩:=q2w hc (q+1) [1,2,0] (ts:=[.int .i64 1,.int .i64 2,.int .i64 0]) rfl (by simp) (by omega)
     refine ⟨(k+1,q+1+1,o++[y]),?_,⟨by simp only; omega,by simp [q2],by simp only; omega,by simp only; omega⟩,by simp only; omega⟩
     simp only [q13.next1,q13.round1,evz,Nat.reduceLT,e,hk,e']
     rw [q26 (q3s (by rw [q0u]; simp only [q3l]; omega)),q0m (by omega),q2j]
   · left
     simp only [q13.next1,q13.round1,evz,Nat.reduceLT,e,hk]
     exact leaf o _ (by omega) (by omega)
end
end Ev.Ty
end
section
namespace Ev.Ty
open Go Ev
open Enc (enc)
open Sm (sm)
set_option linter.unusedSimpArgs false
set_option linter.unusedVariables false
set_option maxHeartbeats 1000000
theorem q1q (l:List Symbol) (hl:l.length≤1000) (s:ByteArray):∃ n:Int,Call F.q1q [.rref [slc l] 0,.str s] (.int .i64 n):=by
 suffices h:∃ r,callK prog A H LIM (l.length+1) F.q1q [.rref [slc l] 0,.str s]=r∧∃ n:Int,r=some (.int .i64 n,[]) by
  obtain ⟨_,e,n,rfl⟩:=h
  exact ⟨n,q0s rfl _ e⟩
 refine ⟨_,q1q.ev _ _ _,?_⟩
 refine q5x (Q:=fun r=>∃ n:Int,r=some (.int .i64 n,[])) (σ:=Nat) (S:=fun m k=>q1q.at0 (l.length+1) m (q1q.st0 (cells l) s (k:Nat))) (fun k=>k≤l.length) (fun k=>l.length - k) (fun m k hk => ?_) _ 0 (by omega) (by omega)
 by_cases h:k < l.length
 · have g0:=get0 (l:=l) (k:=2) (i:=k) rfl
   have ek:l[k]?=some l[k]:=List.getElem?_eq_getElem h
   by_cases e:l[k].name=s
   · left
     exact ⟨(k:Int),by simp only [q1q.next0,q1q.round0,evz,Nat.reduceLT,h,g0,ek,e,beq_self_eq_true,q28]⟩
   · right
     refine ⟨k+1,?_,by omega,by omega⟩
     simp only [q1q.next0,q1q.round0,evz,Nat.reduceLT,h,g0,ek,e,q28]
     rw [q0m (by omega)]
 · left
   exact ⟨-1,by simp only [q1q.next0,q1q.round0,evz,Nat.reduceLT,h]⟩
def CutQ (s:ByteArray) (r:R):Prop:=∃ xs:List ByteArray,r=some (.sl 1 (xs.map .str),[])∧xs.length≤s.size+1∧∀ x∈xs,x.size≤s.size
theorem q24 (s:ByteArray) (hs:s.size≤1000) (c:Int):∃ xs:List ByteArray,Call F.q24 [.str s,.int .u8 c] (.sl 1 (xs.map .str))∧xs.length≤s.size+1∧∀ x∈xs,x.size≤s.size:=by
 suffices h:∃ r,callK prog A H LIM (s.size+2) F.q24 [.str s,.int .u8 c]=r∧CutQ s r by
  obtain ⟨_,e,n,rfl,h⟩:=h
  exact ⟨n,q0s rfl _ e,h⟩
 refine ⟨_,q24.ev _ _ _,?_⟩
 have z:([]:List T)=([]:List ByteArray).map .str:=rfl
 rw [z]
 refine q5x (Q:=CutQ s) (σ:=Nat × Nat × List ByteArray) (S:=fun m q=>q24.at0 (s.size+2) m (q24.st0 s c (q.1:Nat) (q.2.1:Nat) (q.2.2.map .str))) (fun q=>q.1≤q.2.1∧q.2.1≤s.size+1∧q.2.2.length≤q.2.1∧∀ x∈q.2.2,x.size≤s.size) (fun q=>s.size+1 - q.2.1) (fun m q hq => ?_) _ (0,0,[]) ⟨by simp,by simp,by simp,by simp⟩ (by simp only; omega)
 obtain ⟨a,k,xs⟩:=q
 obtain ⟨h1,h2,h3,h4⟩:=hq
 simp only at h1 h2 h3 h4 ⊢
 by_cases hk:k≤s.size
 case neg =>
  left
  have hk':¬ (k:Int)≤(s.size:Int):=by omega
  exact ⟨xs,by simp only [q24.next0,q24.round0,evz,Nat.reduceLT,hk'],by omega,h4⟩
 right
 have hk':(k:Int)≤(s.size:Int):=by omega
 have ha':(0:Int)≤(a:Int):=by omega
 have hak:(a:Int)≤(k:Int):=by omega
 have put:∀ x∈xs++[s.extract a k],x.size≤s.size:=fun x hx=>by
  rcases List.mem_append.1 hx with h | h
  · exact h4 x h
  · rw [List.mem_singleton.1 h,ByteArray.size_extract]; omega
 have cell:(xs.map T.str)++[.str (s.extract a k)]=(xs++[s.extract a k]).map .str:=by rw [List.map_append]; rfl
 have blen:Nat.ble (((xs.map T.str).length+1)*16) (140737488355328*1)=true:=q3s (by rw [List.length_map]; omega)
 by_cases e:k=s.size
 · refine ⟨(k+1,k+1,xs++[s.extract a k]),?_,⟨by simp only; omega,by simp only; omega,by simp; omega,put⟩,by simp only; omega⟩
   have e':((k:Nat):Int)=(s.size:Int):=by omega
   simp only [q24.next0,q24.round0,evz,Nat.reduceLT,hk',e',beq_self_eq_true,ha',hak,Int.le_refl,decide_true,Bool.and_self,← cell]
   rw [← e] at *
   simp only [evz,Nat.reduceLT,hak,decide_true,Bool.and_self,blen]
   rw [q0m (by omega)]
 · have e':¬ ((k:Nat):Int)=(s.size:Int):=by omega
   have hlt:k < s.size:=by omega
   by_cases eb:((s.data.getD k 0).toNat:Int)=c
   · refine ⟨(k+1,k+1,xs++[s.extract a k]),?_,⟨by simp only; omega,by simp only; omega,by simp; omega,put⟩,by simp only; omega⟩
     simp only [q24.next0,q24.round0,evz,Nat.reduceLT,hk',e',hlt,eb,ha',hak,decide_true,Bool.and_self,blen,← cell]
     rw [q0m (by omega)]
   · refine ⟨(a,k+1,xs),?_,⟨by simp only; omega,by simp only; omega,by simp only; omega,h4⟩,by simp only; omega⟩
     simp only [q24.next0,q24.round0,evz,Nat.reduceLT,hk',e',hlt,eb]
     rw [q0m (by omega)]
def NodesQ (s:ByteArray) (r:R):Prop:=∃ (t:List Int) (b:Bool),r=some (.tup [slc t,.bool b],[])∧t.length≤s.size
theorem nodes_inner {l:List Symbol} (hl:l.length≤1000) (s:ByteArray) (hs:s.size≤1000) (N:Nat) (L:St→R) (a:Nat) (t:List Int) (ht:t.length≤a) (k0:Nat) (ha:a≤k0)
 (K:∀ (e:Nat) (n:Int),k0≤e→e≤s.size→NodesQ s (L (q0g.st0 (cells l) s (e:Nat) (cells (t++[n]))))):∀ (d k f:Nat),k+d=s.size→k0≤k→d < f →
 NodesQ s (q0g.at3 N L f (q0g.st3 (cells l) s (a:Nat) (k:Nat) (cells t))):=by
 intro d
 induction d with
 | zero =>
   intro k f hk h0 hf
   obtain ⟨f,rfl⟩:∃ g,f=g+1:=⟨f - 1,by omega⟩
   have n1:¬ (k:Int) < (s.size:Int):=by omega
   have c1:(0:Int)≤(a:Int):=by omega
   have c2:(a:Int)≤(k:Int):=by omega
   have c3:(k:Int)≤(s.size:Int):=by omega
   obtain ⟨n,en⟩:=q1q l hl (s.extract a k)
   have blen:Nat.ble (((cells t).length+1)*8) (140737488355328*1)=true:=q3s (by rw [q0u,q3l]; omega)
   simp only [q0g.next3,q0g.round3,n1,c1,c2,c3,decide_true,decide_false,Bool.and_self,cond_true,cond_false,Int.toNat_natCast,en.eq,evz,Nat.reduceLT]
   by_cases hn:n < 0
   · simp only [hn,evz,Nat.reduceLT]
     exact ⟨[],false,rfl,by simp⟩
   · simp only [hn,evz,Nat.reduceLT,blen]
     rw [q2j]
     exact K k n h0 (by omega)
 | succ d ih =>
   intro k f hk h0 hf
   obtain ⟨f,rfl⟩:∃ g,f=g+1:=⟨f - 1,by omega⟩
   have n1:(k:Int) < (s.size:Int):=by omega
   have n2:k < s.size:=by omega
   have c1:(0:Int)≤(a:Int):=by omega
   have c2:(a:Int)≤(k:Int):=by omega
   have c3:(k:Int)≤(s.size:Int):=by omega
   obtain ⟨n,en⟩:=q1q l hl (s.extract a k)
   have blen:Nat.ble (((cells t).length+1)*8) (140737488355328*1)=true:=q3s (by rw [q0u,q3l]; omega)
   have stop:NodesQ s (if n < 0 then some (.tup [.sl 1 [],.bool false],[]) else L (q0g.st0 (cells l) s (k:Nat) (cells t++[.int .i64 n]))):=by
    by_cases hn:n < 0
    · rw [if_pos hn]; exact ⟨[],false,rfl,by simp⟩
    · rw [if_neg hn,q2j]
      exact K k n h0 (by omega)
   have ih:=ih (k+1) f (by omega) (by omega) (by omega)
   simp only [q0g.next3,q0g.round3,n1,n2,c1,c2,c3,q7a,decide_true,decide_false,Bool.and_self,cond_true,cond_false,Int.toNat_natCast,en.eq,evz,Nat.reduceLT,blen,q0m (by omega:k < 9223372036854775807)]
   split
   · split
     · exact ih
     · exact stop
   · exact stop
theorem q0g {l:List Symbol} (hl:l.length≤1000) (s:ByteArray) (hs:s.size≤1000):∃ (t:List Int) (b:Bool),Call F.q0g [.rref [slc l] 0,.str s] (.tup [slc t,.bool b])∧t.length≤s.size:=by
 suffices h:∃ r,callK prog A H LIM (s.size+1) F.q0g [.rref [slc l] 0,.str s]=r∧NodesQ s r by
  obtain ⟨_,e,t,b,rfl,h⟩:=h
  exact ⟨t,b,q0s rfl _ e,h⟩
 refine ⟨_,q0g.ev _ _ _,?_⟩
 have key:∀ (d k f:Nat) (t:List Int),k+d=s.size→t.length≤k→d < f→NodesQ s (q0g.at0 (s.size+1) f (q0g.st0 (cells l) s (k:Nat) (cells t))):=by
  intro d
  induction d using Nat.strongRecOn with
  | ind d ih =>
    intro k f t hk ht hf
    obtain ⟨f,rfl⟩:∃ g,f=g+1:=⟨f - 1,by omega⟩
    by_cases hk0:k < s.size
    case neg =>
     have n1:¬ (k:Int) < (s.size:Int):=by omega
     simp only [q0g.next0,q0g.round0,evz,Nat.reduceLT,n1]
     exact ⟨t,true,rfl,by omega⟩
    have n1:(k:Int) < (s.size:Int):=by omega
    have next:NodesQ s (q0g.at0 (s.size+1) f (q0g.st0 (cells l) s ((k+1:Nat):Int) (cells t))):=ih (d - 1) (by omega) (k+1) f t (by omega) (by omega) (by omega)
    have put:∀ n:Int,NodesQ s (q0g.at0 (s.size+1) f (q0g.st0 (cells l) s ((k+1:Nat):Int) (cells t++[.int .i64 n]))):=fun n=>by
     rw [q2j]
     exact ih (d - 1) (by omega) (k+1) f _ (by omega) (by simp; omega) (by omega)
    have bad:NodesQ s (some (.tup [.sl 1 [],.bool false],[])):=⟨[],false,rfl,by simp⟩
    have blen:Nat.ble (((cells t).length+1)*8) (140737488355328*1)=true:=q3s (by rw [q0u,q3l]; omega)
    have word:((s.data.getD k 0).toNat:Int) ≥ 97→((s.data.getD k 0).toNat:Int)≤122→NodesQ s (q0g.at3 (s.size+1) (q0g.at0 (s.size+1) f) (s.size+1) (q0g.st3 (cells l) s (k:Nat) (k:Nat) (cells t))):=fun w1 w2=>by
     have:=nodes_inner hl s hs (s.size+1) (q0g.at0 (s.size+1) f) k t ht (k+1) (by omega) (fun e n h1 h2=>ih (s.size - e) (by omega) e f _ (by omega) (by simp; omega) (by omega)) (d - 1) (k+1) s.size (by omega) (by omega) (by omega)
     simp only [q0g.next3,q0g.round3,n1,hk0,q7a,decide_true,cond_true,Int.toNat_natCast,w1,w2,q0m (by omega:k < 9223372036854775807)]
     exact this
    simp only [q0g.next0,q0g.round0,n1,hk0,q7a,decide_true,cond_true,Int.toNat_natCast,evz,Nat.reduceLT,blen,q0m (by omega:k < 9223372036854775807)]
    repeat' split
    all_goals first | with_reducible exact next | with_reducible exact bad | with_reducible exact put _ | (with_reducible apply word <;> assumption)
 exact key s.size 0 (s.size+1) [] (by omega) (by simp) (by omega)
section
variable {l:List Symbol} (ok:SigOk ⟨l⟩)
include ok
theorem node_sym {t:List Int} (ht:TermOk l t) {i:Nat} (hi:i < t.length) (h0:0≤t[i]):∃ k:Nat,t[i]=k∧∃ h:k < l.length,ar l t[i]=l[k].arity.toNat∧0≤l[k].arity∧l[k].arity≤2∧l[k].name.size≤3:=by
 have hn:=ht.node _ (List.getElem_mem hi)
 unfold q4x inR at hn
 simp only [Bool.or_eq_true,Bool.and_eq_true,decide_eq_true_eq] at hn
 have hk:t[i].toNat < l.length:=by omega
 refine ⟨t[i].toNat,by omega,hk,?_,(ok.arity _ (List.getElem_mem hk)).1,(ok.arity _ (List.getElem_mem hk)).2,name_small (ok.name _ (List.getElem_mem hk))⟩
 unfold ar
 rw [if_neg (by omega),List.getElem?_eq_getElem hk]
 rfl
def TextQ (c:Nat) (r:R):Prop:=∃ s:ByteArray,r=some (.str s,[])∧s.size≤c
theorem spec_l4TextAt {t:List Int} (ht:TermOk l t):∀ (x:Tm) (i:Nat),At l t i x→TextQ (6*x.flat.length) (LIM F.q1w [.rref [slc l] 0,slc t,.int .i64 i]):=by
 have lb:(ByteArray.mk #[40]).size=1:=rfl
 have rb:(ByteArray.mk #[41]).size=1:=rfl
 have cm:(ByteArray.mk #[44]).size=1:=rfl
 have hle:=ht.le
 intro x
 induction x with
 | v n =>
   intro i h
   obtain ⟨h1,h2,_,_⟩:=h.facts
   have hn:n < 0:=h.1
   have e:t[i]=n:=by rw [List.getD_eq_getElem?_getD,List.getElem?_eq_getElem h1] at h2; exact h2
   have ei:t[i]?=some n:=by rw [List.getElem?_eq_getElem h1,e]
   have ev:=q1w.ev 0 (cells l) (cells t) i
   simp only [evz,Nat.reduceLT,h1,ei,q1r,hn] at ev
   refine ⟨_,lim_of rfl 0 ev,?_⟩
   show ByteArray.size (ByteArray.push ByteArray.empty _)≤6*[n].length
   rw [ByteArray.size_push]; show 0+1≤6*1; decide
 | k n =>
   intro i h
   obtain ⟨h1,h2,_,_⟩:=h.facts
   have hn:0≤n∧ar l n=0:=h.1
   have e:t[i]=n:=by rw [List.getD_eq_getElem?_getD,List.getElem?_eq_getElem h1] at h2; exact h2
   subst e
   obtain ⟨q,eq,hq,q1,q2,q3,q4⟩:=node_sym ok ht h1 hn.1
   have ei:t[i]?=some (q:Int):=by rw [List.getElem?_eq_getElem h1,eq]
   have e0:l[q].arity=0:=by omega
   have hn':¬ (q:Int) < 0:=by omega
   have ek:l[q]?=some l[q]:=List.getElem?_eq_getElem hq
   refine ⟨l[q].name,lim_of rfl 0 ((q1w.ev _ _ _ _).trans ?_),by show _≤6*1; omega⟩
   simp only [evz,Nat.reduceLT,h1,ei,q1r,hn',hq,get0 (l:=l) (k:=2) rfl,get1 (l:=l) (k:=2) rfl,ek,q28,e0]
 | u n y ihy =>
   intro i h
   obtain ⟨h1,h2,_,_⟩:=h.facts
   have hn:0≤n∧ar l n=1:=⟨h.1.1,h.1.2.1⟩
   have e:t[i]=n:=by rw [List.getD_eq_getElem?_getD,List.getElem?_eq_getElem h1] at h2; exact h2
   have hy:At l t (i+1) y:=by
    obtain ⟨hx,r,hr⟩:=h
    exact At.next hx.2.2 hr
   obtain ⟨y1,_,y3,_⟩:=hy.facts
   have yl:y.flat.length≤24:=by
    have:=(q2z ht y1).2.1
    omega
   subst e
   obtain ⟨q,eq,hq,q1,q2,q3,q4⟩:=node_sym ok ht h1 hn.1
   have ei:t[i]?=some (q:Int):=by rw [List.getElem?_eq_getElem h1,eq]
   have e0:l[q].arity=1:=by omega
   have hn':¬ (q:Int) < 0:=by omega
   have ek:l[q]?=some l[q]:=List.getElem?_eq_getElem hq
   obtain ⟨s,es,hs⟩:=ihy (i+1) hy
   have b1:l[q].name.size+1≤9223372036854775807:=by omega
   have ee:=(q7v ok ht y1).eq
   refine ⟨(l[q].name++ByteArray.mk #[40])++s++ByteArray.mk #[41],lim_of rfl 2 ((q1w.ev _ _ _ _).trans ?_),?_⟩
   · simp only [evz,Nat.reduceLT,h1,ei,q1r,hn',hq,get0 (l:=l) (k:=2) rfl,get1 (l:=l) (k:=2) rfl,ek,q28,e0,lb,b1,q0m (by omega:i < 9223372036854775807)]
     have c1:(l[q].name++ByteArray.mk #[40]).size+s.size≤9223372036854775807:=by rw [ByteArray.size_append,lb]; omega
     have c2:((l[q].name++ByteArray.mk #[40])++s).size+1≤9223372036854775807:=by rw [ByteArray.size_append,ByteArray.size_append,lb]; omega
     simp only [q1w.next0,q1w.round0,evz,Nat.reduceLT,es,c1,ee,rb,c2]
     rfl
   · rw [ByteArray.size_append,ByteArray.size_append,ByteArray.size_append,lb,rb]
     show _≤6*(t[i]::y.flat).length
     rw [List.length_cons]; omega
 | b n y z ihy ihz =>
   intro i h
   obtain ⟨h1,h2,_,_⟩:=h.facts
   have hn:0≤n∧ar l n=2:=⟨h.1.1,h.1.2.1⟩
   have e:t[i]=n:=by rw [List.getD_eq_getElem?_getD,List.getElem?_eq_getElem h1] at h2; exact h2
   have hy:At l t (i+1) y:=by
    obtain ⟨hx,r,hr⟩:=h
    exact At.next (n:=n) hx.2.2.1 (r:=z.flat++r) (by rw [hr]; simp [Tm.flat])
   obtain ⟨y1,_,y3,_⟩:=hy.facts
   have hz:At l t (endAt l t (i+1)) z:=by
    obtain ⟨hx,r,hr⟩:=h
    refine ⟨hx.2.2.2,r,?_⟩
    rw [y3,← List.drop_drop,← List.drop_drop,hr]
    simp [Tm.flat]
   obtain ⟨z1,_,z3,_⟩:=hz.facts
   have el:=(q2z ht z1).2.1
   have yl:y.flat.length≤24:=by omega
   have zl:z.flat.length≤24:=by omega
   subst e
   obtain ⟨q,eq,hq,q1,q2,q3,q4⟩:=node_sym ok ht h1 hn.1
   have ei:t[i]?=some (q:Int):=by rw [List.getElem?_eq_getElem h1,eq]
   have e0:l[q].arity=2:=by omega
   have hn':¬ (q:Int) < 0:=by omega
   have ek:l[q]?=some l[q]:=List.getElem?_eq_getElem hq
   obtain ⟨s,es,hs⟩:=ihy (i+1) hy
   obtain ⟨s2,es2,hs2⟩:=ihz _ hz
   have b1:l[q].name.size+1≤9223372036854775807:=by omega
   have ee:=(q7v ok ht y1).eq
   have ee2:=(q7v ok ht z1).eq
   refine ⟨(((l[q].name++ByteArray.mk #[40])++s)++ByteArray.mk #[44])++s2++ByteArray.mk #[41],lim_of rfl 3 ((q1w.ev _ _ _ _).trans ?_),?_⟩
   · simp only [evz,Nat.reduceLT,h1,ei,q1r,hn',hq,get0 (l:=l) (k:=2) rfl,get1 (l:=l) (k:=2) rfl,ek,q28,e0,lb,b1,q0m (by omega:i < 9223372036854775807)]
     have c1:(l[q].name++ByteArray.mk #[40]).size+s.size≤9223372036854775807:=by rw [ByteArray.size_append,lb]; omega
     have c2:((l[q].name++ByteArray.mk #[40])++s).size+1≤9223372036854775807:=by rw [ByteArray.size_append,ByteArray.size_append,lb]; omega
     have c3:(((l[q].name++ByteArray.mk #[40])++s)++ByteArray.mk #[44]).size+s2.size≤9223372036854775807:=by rw [ByteArray.size_append,ByteArray.size_append,ByteArray.size_append,lb,cm]; omega
     have c4:((((l[q].name++ByteArray.mk #[40])++s)++ByteArray.mk #[44])++s2).size+1≤9223372036854775807:=by rw [ByteArray.size_append,ByteArray.size_append,ByteArray.size_append,ByteArray.size_append,lb,cm]; omega
     simp only [q1w.next0,q1w.round0,evz,Nat.reduceLT,es,c1,ee,rb,c2,es2,ee2,cm,c3,c4]
     rfl
   · rw [ByteArray.size_append,ByteArray.size_append,ByteArray.size_append,ByteArray.size_append,ByteArray.size_append,lb,rb,cm]
     show _≤6*(t[i]::(y.flat++z.flat)).length
     rw [List.length_cons,List.length_append]; omega
theorem q5n (s:ByteArray) (hs:s.size≤1000):∃ t:List Int,Call F.q5n [.rref [slc l] 0,.str s] (slc t)∧t.length≤168:=by
 have hle:=ok.le
 simp only at hle
 suffices h:∃ r,callK prog A H LIM 0 F.q5n [.rref [slc l] 0,.str s]=r∧∃ t:List Int,r=some (slc t,[])∧t.length≤168 by
  obtain ⟨_,e,t,rfl,h⟩:=h
  exact ⟨t,q0s rfl _ e,h⟩
 refine ⟨_,q5n.ev _ _ _,?_⟩
 by_cases hb:(s.size:Int) > 168
 · simp only [evz,Nat.reduceLT,hb]; exact ⟨[],rfl,by simp⟩
 obtain ⟨t,b,en,ht⟩:=q0g (l:=l) (by omega) s hs
 simp only [evz,Nat.reduceLT,hb,en.eq,(q0z l ok t (by omega)).eq]
 cases b with
 | false=>exact ⟨[],rfl,by simp⟩
 | true =>
   simp only [evz,Nat.reduceLT,Bool.not_true]
   by_cases h0:q2p l t=0
   · have ok':=(q47 l t).1 h0
     obtain ⟨x,hx,_⟩:=TermOk.atZero ok ok'
     obtain ⟨w,ew,_⟩:=spec_l4TextAt ok ok' x 0 hx
     have ew:LIM F.q1w [.rref [slc l] 0,slc t,.int .i64 0]=some (.str w,[]):=ew
     simp only [h0,evz,Nat.reduceLT,ew,ne_eq,not_true_eq_false]
     split
     · exact ⟨t,rfl,by omega⟩
     · exact ⟨[],rfl,by simp⟩
   · simp only [h0,evz,Nat.reduceLT,ne_eq,not_false_eq_true]
     exact ⟨[],rfl,by simp⟩
theorem q3x (s:ByteArray) (hs:s.size≤1000):∃ (c:Int) (a b:List Int),Call F.q3x [.agg [slc l],.str s] (.agg [.int .i64 c,slc a,slc b])∧(c=0→EqOk l ⟨a,b⟩):=by
 have hle:=ok.le
 simp only at hle
 let Q:R→Prop:=fun r=>∃ (c:Int) (a b:List Int),r=some (.agg [.int .i64 c,slc a,slc b],[])∧(c=0→EqOk l ⟨a,b⟩)
 suffices h:∃ r,callK prog A H LIM 0 F.q3x [.agg [slc l],.str s]=r∧Q r by
  obtain ⟨_,e,c,a,b,rfl,h⟩:=h
  exact ⟨c,a,b,q0s rfl _ e,h⟩
 refine ⟨_,q3x.ev _ _ _,?_⟩
 have bad:Q (some (.agg [.int .i64 5,.sl 1 [],.sl 1 []],[])):=⟨5,[],[],rfl,by omega⟩
 obtain ⟨xs,ex,x1,x2⟩:=q24 s hs 61
 have es:=(q00 l (by omega)).eq
 rw [(q60 _).2 ok] at es
 simp only [evz,Nat.reduceLT,es,ex.eq,List.length_map]
 by_cases hb:(s.size:Int) > 337
 · simp only [hb,evz,Nat.reduceLT]; exact bad
 simp only [hb,evz,Nat.reduceLT]
 match xs,x2 with
 | [x,y],x2 =>
   have hx:=x2 x (by simp)
   have hy:=x2 y (by simp)
   obtain ⟨a,ea,ha⟩:=q5n ok x (by omega)
   obtain ⟨b,eb,hb⟩:=q5n ok y (by omega)
   have ef:LIM F.q4y [.rref [slc l] 0,.rref [.sl 1 (cells a),.sl 1 (cells b)] 0]=_:=(q4y l ok a b (by omega) (by omega)).eq
   by_cases h0:q38 l ⟨a,b⟩=0
   · have r:Q (some (.agg [.int .i64 0,.sl 1 (cells a),.sl 1 (cells b)],[])):=⟨0,a,b,rfl,fun _=>eqOk_iff.1 h0⟩
     simpa [ea.eq,eb.eq,ef,h0,inB] using r
   · simpa [ea.eq,eb.eq,ef,h0,inB] using bad
 | [],_=>simpa using bad
 | [x],_=>simpa using bad
 | x::y::z::r,_ =>
   have hne:¬ ((r.length:Int)+1+1+1=2):=by omega
   simpa [hne] using bad
end
end Ev.Ty
end
section
namespace Ev.Ty
open Go Ev
open Enc (enc)
open Sm (sm)
set_option linter.unusedSimpArgs false
set_option linter.unusedVariables false
set_option maxHeartbeats 2000000
set_option maxRecDepth 10000
theorem Grown.eq {l:List Symbol} {m n:Nat} {v w:Int} {a b:List Int} (ha:Grown l m v a) (hb:Grown l n w b) (h1:m≤24) (h2:n≤24) (h3:v≤6) (h4:w≤6):EqOk l ⟨a,b⟩ :=
 ⟨ha.ok h1 (by omega),hb.ok h2 (by omega),fun n hn=>by rcases ha.node n hn with h | h <;> omega,fun n hn=>by rcases hb.node n hn with h | h <;> omega⟩
theorem q5m (l:List Symbol) (hs:l.length≤4294967296) (t:List Int) (ht:t.length≤4294967296):Call F.q5m [.agg [slc l],slc t] (.int .i64 (q4n ⟨l⟩ t)):=by
 refine q0s rfl 0 ((q5m.ev _ _ _).trans ?_)
 simp only [evz,Nat.reduceLT,(q00 l hs).eq,q4n]
 by_cases h:q2o ⟨l⟩=0
 · simp only [h,evz,Nat.reduceLT,ne_eq,not_true_eq_false,(q0z l (q6z h) t ht).eq]
 · simp only [h,evz,Nat.reduceLT,ne_eq,not_false_eq_true]
section
variable {code:List UInt8} (hc:code.length≤2097152)
include hc
theorem q1x {l:List Symbol} (ok:SigOk ⟨l⟩) (p:Int) (hp:0≤p∧p≤1099510000000) :
 Drawn code p 6100 (fun x=>∃ a b:List Int,x = .agg [slc a,slc b]∧EqOk l ⟨a,b⟩) (LIM F.q1x [.rref [slc code,.int .i64 p] 0,.rref [slc l] 0]):=by
 refine q7s rfl 20 ?_
 rw [show callK prog A H LIM 20 F.q1x [.rref [slc code,.int .i64 p] 0,.rref [slc l] 0]=_ from q1x.ev _ _ _ _]
 refine next_s hc (by omega) fun v h1 h2 => ?_
 have h2:=h2 (by omega)
 obtain ⟨v,rfl⟩:∃ n:Nat,v=n:=⟨v.toNat,by omega⟩
 simp only [evz,Nat.reduceLT]
 generalize hX:([.str _,.str _,.str _,.str _,.str _,.str _,.str _,.str _,.str _,.str _,.str _,.str _,.str _,.str _,.str _,.str _,.str _,.str _]:List T)=X
 have hlen:X.length=18:=by rw [← hX]; rfl
 have hX:∃ Y:List ByteArray,X=Y.map .str∧∀ y∈Y,y.size≤1000:=by
  subst hX
  refine ⟨[_,_,_,_,_,_,_,_,_,_,_,_,_,_,_,_,_,_],rfl,?_⟩
  intro y hy
  simp only [List.mem_cons,List.not_mem_nil,or_false] at hy
  rcases hy with rfl | rfl | rfl | rfl | rfl | rfl | rfl | rfl | rfl | rfl | rfl | rfl | rfl | rfl | rfl | rfl | rfl | rfl <;> decide
 obtain ⟨Y,rfl,hY⟩:=hX
 rw [List.length_map] at hlen
 refine q5x (σ:=Nat) (S:=fun m k=>q1x.at0 20 m (q1x.st0 (cells l) 18 (v:Nat) (k:Nat) (cells code) (p+1) (Y.map .str))) (fun k=>k≤18) (fun k=>18 - k) (fun m k hk => ?_) _ 0 (by omega) (by omega)
 by_cases h:k < 18
 · have hi:(v+k) % 18 < Y.length:=by omega
   have w:IntKind.wrap .i64 (((v:Nat):Int)+(k:Nat))=((v+k:Nat):Int):=by rw [q27 (by omega)]; omega
   have w2:Int.tmod ((v+k:Nat):Int) 18=(((v+k) % 18:Nat):Int):=by rw [Int.tmod_eq_emod_of_nonneg (by omega)]; omega
   have hk':((k:Nat):Int) < 18:=by omega
   have ei:Y[(v+k) % 18]?=some Y[(v+k) % 18]:=List.getElem?_eq_getElem hi
   obtain ⟨c,a,b,er,hr⟩:=q3x ok Y[(v+k) % 18] (hY _ (List.getElem_mem hi))
   by_cases h0:c=0
   · left
     subst h0
     simp only [q1x.next0,q1x.round0,evz,Nat.reduceLT,hk',w,w2,q7a,hi,List.length_map,List.getElem?_map,ei,Option.map_some,Option.bind_some,Int.toNat_natCast,Nat.mul_one,Nat.div_one,er.eq,show ¬ (18:Int)=0 by decide]
     exact q4m (by omega) ⟨a,b,rfl,hr rfl⟩
   · right
     refine ⟨k+1,?_,by omega,by omega⟩
     simp only [q1x.next0,q1x.round0,evz,Nat.reduceLT,hk',w,w2,q7a,hi,List.length_map,List.getElem?_map,ei,Option.map_some,Option.bind_some,Int.toNat_natCast,Nat.mul_one,Nat.div_one,er.eq,h0,show ¬ (18:Int)=0 by decide]
     rw [q0m (by omega)]
 · left
   have hk':¬ ((k:Nat):Int) < 18:=by omega
   simp only [q1x.next0,q1x.round0,evz,Nat.reduceLT,hk']
   refine q6a (q0c hc ok (p+1) 4 2 (by omega) (by omega) (by omega)) ?_
   rintro _ p1 a1 b1 ⟨a,rfl,ha⟩
   simp only [evz,Nat.reduceLT]
   refine q6a (q0c hc ok p1 2 2 (by omega) (by omega) (by omega)) ?_
   rintro _ p2 a2 b2 ⟨b,rfl,hb⟩
   simp only [evz,Nat.reduceLT]
   exact q4m (by omega) ⟨a,b,rfl,ha.eq hb (by decide) (by decide) (by decide) (by decide)⟩
theorem q5i {l:List Symbol} (ok:SigOk ⟨l⟩) (p:Int) (hp:0≤p∧p≤1099500000000) :
 Drawn code p 6200 (fun x=>∃ a b:List Int,x = .agg [slc a,slc b]∧EqOk l ⟨a,b⟩) (LIM F.q5i [.rref [slc code,.int .i64 p] 0,.rref [slc l] 0]):=by
 refine q7s rfl 0 ?_
 rw [show callK prog A H LIM 0 F.q5i [.rref [slc code,.int .i64 p] 0,.rref [slc l] 0]=_ from q5i.ev _ _ _ _]
 refine q7t hc (by omega) fun b => ?_
 simp only [evz,Nat.reduceLT]
 cases b with
 | true =>
   simp only [evz,Nat.reduceLT]
   refine pick_s hc [4,7,9] rfl (by simp) (by omega) fun v hv => ?_
   have hv':4≤v∧v≤9:=by
    simp only [List.mem_cons,List.not_mem_nil,or_false] at hv; omega
   simp only [evz,Nat.reduceLT]
   refine q6a (q0c hc ok _ v 3 (by omega) (by omega) (by omega)) ?_
   rintro _ p1 a1 b1 ⟨a,rfl,ha⟩
   simp only [evz,Nat.reduceLT]
   refine pick_s hc [1,3,5] rfl (by simp) (by omega) fun w hw => ?_
   have hw':1≤w∧w≤5:=by
    simp only [List.mem_cons,List.not_mem_nil,or_false] at hw; omega
   simp only [evz,Nat.reduceLT]
   refine q6a (q0c hc ok _ w 3 (by omega) (by omega) (by omega)) ?_
   rintro _ p2 a2 b2 ⟨b,rfl,hb⟩
   simp only [evz,Nat.reduceLT]
   exact q4m (by omega) ⟨a,b,rfl,ha.eq hb (by omega) (by omega) (by decide) (by decide)⟩
 | false =>
   simp only [evz,Nat.reduceLT]
   refine q6a (q1x hc ok _ (by omega)) ?_
   rintro _ p1 a1 b1 ⟨a,b,rfl,h⟩
   simp only [evz,Nat.reduceLT]
   exact q4m (by omega) ⟨a,b,rfl,h⟩
theorem q3n {l:List Symbol} (hl:l.length≤1000) (p:Int) (hp:0≤p∧p≤1099490000000) :
 Drawn code p 6500 (fun x=>∃ a b:List Int,x = .agg [slc a,slc b]∧a.length≤1001∧b.length≤1001) (LIM F.q3n [.rref [slc code,.int .i64 p] 0,.rref [slc l] 0]):=by
 refine q7s rfl 0 ?_
 rw [show callK prog A H LIM 0 F.q3n [.rref [slc code,.int .i64 p] 0,.rref [slc l] 0]=_ from q3n.ev _ _ _ _]
 simp only [evz,Nat.reduceLT,(q00 l (by omega)).eq]
 by_cases h0:q2o ⟨l⟩=0
 case neg =>
  simp only [h0,evz,Nat.reduceLT,ne_eq,not_false_eq_true]
  exact q4m (by omega) ⟨[0],[0],rfl,by simp,by simp⟩
 have ok:=q6z h0
 simp only [h0,evz,Nat.reduceLT,ne_eq,not_true_eq_false]
 refine q7t hc (by omega) fun b => ?_
 simp only [evz,Nat.reduceLT]
 cases b with
 | true =>
   simp only [evz,Nat.reduceLT]
   refine q6a (q13 hc _ 9 7 l hl (by omega) (by omega) (by omega)) ?_
   rintro _ p1 a1 b1 ⟨a,rfl,ha⟩
   simp only [evz,Nat.reduceLT]
   refine q6a (q13 hc _ 5 12 l hl (by omega) (by omega) (by omega)) ?_
   rintro _ p2 a2 b2 ⟨b,rfl,hb⟩
   simp only [evz,Nat.reduceLT]
   exact q4m (by omega) ⟨a,b,rfl,ha,hb⟩
 | false =>
   simp only [evz,Nat.reduceLT]
   refine q6a (q5i hc ok _ (by omega)) ?_
   rintro _ p1 a1 b1 ⟨a,b,rfl,h⟩
   simp only [evz,Nat.reduceLT]
   have h1:=h.left.le
   have h2:=h.right.le
   simp only at h1 h2
   exact q4m (by omega) ⟨a,b,rfl,by omega,by omega⟩
omit hc in
theorem q4w (l:List Symbol) (hl:l.length≤1000) (t:List Int) (ht:t.length≤2000) (n:Int) (u:List Int) (hu:u.length≤1000000):∃ (c:Int) (r:List Int),Call F.q4w [.agg [slc l],slc t,.int .i64 n,slc u] (.agg [.int .i64 c,slc r])∧r.length≤24:=by
 suffices h:∃ r,callK prog A H LIM 0 F.q4w [.agg [slc l],slc t,.int .i64 n,slc u]=r∧∃ (c:Int) (x:List Int),r=some (.agg [.int .i64 c,slc x],[])∧x.length≤24 by
  obtain ⟨_,e,c,x,rfl,h⟩:=h
  exact ⟨c,x,q0s rfl _ e,h⟩
 have bad:∀ c:Int,∃ (c':Int) (x:List Int),(some (.agg [.int .i64 c,.sl 1 []],[]):R)=some (.agg [.int .i64 c',slc x],[])∧x.length≤24:=fun c=>⟨c,[],rfl,by simp⟩
 refine ⟨_,q4w.ev _ _ _ _ _,?_⟩
 simp only [evz,Nat.reduceLT,(q5m l (by omega) t (by omega)).eq,(q6b t n (by omega)).eq]
 by_cases h1:q4n ⟨l⟩ t=0
 case neg=>simp only [h1,evz,Nat.reduceLT,ne_eq,not_false_eq_true]; exact bad _
 have hs:q2o ⟨l⟩=0:=Classical.byContradiction fun hne=>by unfold q4n at h1; rw [if_pos hne] at h1; exact hne h1
 have ok:=q6z hs
 have ht':TermOk l t:=(q47 l t).1 (by rw [q4n,if_neg (by simpa using hs)] at h1; exact h1)
 simp only [h1,evz,Nat.reduceLT,ne_eq,not_true_eq_false,(q0z l ok u (by omega)).eq]
 cases h2:inR n 0 (t.length - 1)
 · simp only [evz,Nat.reduceLT,Bool.not_false]; exact bad _
 · obtain ⟨q,rfl⟩:∃ q:Nat,n=q:=⟨n.toNat,by unfold inR at h2; simp only [Bool.and_eq_true,decide_eq_true_eq] at h2; omega⟩
   have hq:q < t.length:=by unfold inR at h2; simp only [Bool.and_eq_true,decide_eq_true_eq] at h2; omega
   simp only [evz,Nat.reduceLT,Bool.not_true]
   by_cases h3:q2p l u=0
   · simp only [h3,evz,Nat.reduceLT,ne_eq,not_true_eq_false,(q4c ok ht' hq u (by omega)).eq]
     split
     · exact bad _
     · exact ⟨0,_,rfl,by omega⟩
   · simp only [h3,evz,Nat.reduceLT,ne_eq,not_false_eq_true]; exact bad _
end
end Ev.Ty
end
section
namespace Ev.Ty
open Go Ev
open Enc (enc)
open Sm (sm)
set_option linter.unusedSimpArgs false
set_option linter.unusedVariables false
set_option maxHeartbeats 2000000
set_option maxRecDepth 10000
structure BindS (vs:List Int) (ts:List (List Int)):Prop where
 vlen:vs.length≤12
 tlen:ts.length≤12
 size:∀ t∈ts,t.length≤1001
section
variable {code:List UInt8} (hc:code.length≤2097152)
include hc
theorem q1v {l:List Symbol} (ok:SigOk ⟨l⟩) (p n:Int) (hn:0≤n∧n≤12) (hp:0≤p∧p≤1099490000000) :
 Drawn code p 40000 (fun x=>∃ vs ts,x = .agg [slc vs,slc ts]∧BindS vs ts∧BindOk vs ts) (LIM F.q1v [.rref [slc code,.int .i64 p] 0,.rref [slc l] 0,.int .i64 n]):=by
 refine q7s rfl 20 ?_
 rw [show callK prog A H LIM 20 F.q1v [.rref [slc code,.int .i64 p] 0,.rref [slc l] 0,.int .i64 n]=_ from q1v.ev _ _ _ _ _]
 refine q5x (σ:=Int × Int × List Int × List (List Int)) (S:=fun m s=>q1v.at0 20 m (q1v.st0 (cells l) n s.1 (cells code) s.2.1 (cells s.2.2.1) (cells s.2.2.2))) (fun s=>0≤s.1∧s.1≤n∧p≤s.2.1∧s.2.1≤p+s.1*3003∧(s.2.2.1.length:Int)≤s.1∧s.2.2.1.length=s.2.2.2.length∧(∀ v∈s.2.2.1,0≤v)∧∀ t∈s.2.2.2,1≤t.length∧t.length≤1001) (fun s=>(n - s.1).toNat) (fun m s hs => ?_) _ (0,p,[],[]) ⟨by simp only; omega,by simp only; omega,by simp only; omega,by simp only; omega,by simp,by simp,by simp,by simp⟩ (by simp only; omega)
 obtain ⟨k,q,vs,ts⟩:=s
 obtain ⟨h1,h2,h3,h4,h5,h6,h8,h7⟩:=hs
 simp only at h1 h2 h3 h4 h5 h6 h8 h7 ⊢
 by_cases hk:k < n
 case neg =>
  left
  simp only [q1v.next0,q1v.round0,evz,Nat.reduceLT,hk]
  exact q4m (by omega) ⟨vs,ts,rfl,⟨by omega,by omega,fun t ht=>(h7 t ht).2⟩,⟨h6,by omega,h8,fun t ht=>⟨(h7 t ht).1,by have:=(h7 t ht).2; omega⟩⟩⟩
 right
 have wk:IntKind.wrap .i64 (k+1)=k+1:=q27 (by omega)
 obtain ⟨b,ec⟩:=q2l hc q 3 (by omega)
 cases b with
 | true =>
   refine ⟨(k+1,q+1,vs,ts),?_,⟨by simp only; omega,by simp only; omega,by simp only; omega,by simp only; omega,by simp only; omega,h6,h8,h7⟩,by simp only; omega⟩
   simp only [q1v.next0,q1v.round0,evz,Nat.reduceLT,hk,ec,wk,Bool.not_true]
 | false =>
   obtain ⟨v,hv,ep⟩:=q2w hc (q+1) [1,3,4] (ts:=[.int .i64 1,.int .i64 3,.int .i64 4]) rfl (by simp) (by omega)
   have hv':1≤v∧v≤4:=by
    simp only [List.mem_cons,List.not_mem_nil,or_false] at hv; omega
   obtain ⟨_,q2,et,c1,c2,t,rfl,ht⟩:=q0c hc ok (q+1+1) v 4 (by omega) (by omega) (by omega)
   have htl:=ht.le
   refine ⟨(k+1,q2,vs++[k],ts++[t]),?_,⟨by simp only; omega,by simp only; omega,by simp only; omega,by simp only; omega,by simp; omega,by simp [h6],fun x hx => ?_,fun x hx => ?_⟩,by simp only; omega⟩
   · simp only [q1v.next0,q1v.round0,evz,Nat.reduceLT,hk,ec,wk,Bool.not_false,ep,et]
     rw [q26 (q3s (by rw [q0u]; simp only [q3l]; omega)),q26 (q3s (by rw [q0u]; simp only [sz_list]; omega)),q5p,q2j]
   · rcases List.mem_append.1 hx with h | h
     · exact h8 x h
     · rw [List.mem_singleton.1 h]; omega
   · rcases List.mem_append.1 hx with h | h
     · exact h7 x h
     · rw [List.mem_singleton.1 h]; exact ⟨ht.pos,by omega⟩
end
end Ev.Ty
end
section
namespace Ev.Ty
open Go Ev
open Enc (enc)
open Sm (sm)
set_option linter.unusedSimpArgs false
set_option linter.unusedVariables false
def Free (b:Bnd) (t:List Int):Prop:=∀ n∈t,(-1 - n)∉b.1
theorem bindOf_notMem {vs:List Int} {ts:List (List Int)} {v:Int} (h:v∉vs):q3i vs ts v=none:=by
 unfold q3i
 rcases q6m (fun x:Int=>decide (x=v)) vs with ⟨h1,_⟩ | ⟨i,hi,h1,hy,_⟩
 · rw [if_pos (by omega)]
 · have:vs[i]=v:=by simpa using hy
   exact absurd (this ▸ List.getElem_mem hi) h
theorem applied_free {b:Bnd}:∀ {t:List Int},Free b t→q1z b.1 b.2 t=t
 | [],_=>rfl
 | n::t,h=>by
   have ih:=applied_free (b:=b) (t:=t) fun m hm=>h m (List.mem_cons_of_mem _ hm)
   have e:q1z b.1 b.2 (n::t)=(q3i b.1 b.2 (-1 - n)).getD [n]++q1z b.1 b.2 t:=by simp [q1z]
   rw [e,bindOf_notMem (h n (by simp)),ih]; rfl
theorem applied_nodes {vs:List Int} {ts:List (List Int)} {P:Int→Prop} (ht:∀ x∈ts,∀ n∈x,P n) {t:List Int} (h:∀ n∈t,q3i vs ts (-1 - n)=none→P n):∀ n∈q1z vs ts t,P n:=fun n hn=>by
 unfold q1z at hn
 obtain ⟨m,hm,hn⟩:=List.mem_flatMap.1 hn
 cases ho:q3i vs ts (-1 - m) with
 | none=>rw [ho] at hn; rw [List.mem_singleton.1 hn]; exact h m hm ho
 | some o=>rw [ho] at hn; exact ht o (q4z ho) n hn
structure UB (l:List Symbol) (b:Bnd):Prop where
 mb:MB l b 12
 nd:b.1.Nodup
 free:∀ t∈b.2,Free b t
theorem UB.nil (l:List Symbol):UB l ([],[]):=⟨(MB.nil l).up (by omega),List.nodup_nil,by simp⟩
theorem UB.le {l:List Symbol} {b:Bnd} (h:UB l b):b.1.length≤12:=h.mb.le
theorem UB.applied_free {l:List Symbol} {b:Bnd} (h:UB l b) (t:List Int):Free b (q1z b.1 b.2 t):=applied_nodes h.free fun n _ hn=>bindOf_none h.mb.len hn
theorem UB.applied_ok {l:List Symbol} {b:Bnd} (h:UB l b) {t:List Int} (ht:TermOk l t) (hl:(q1z b.1 b.2 t).length≤24):TermOk l (q1z b.1 b.2 t):=by
 have hs:=skip_applied h.mb (by omega) t [] 1 ht.skip
 rw [List.append_nil] at hs
 refine ⟨?_,hl,applied_node h.mb ht.node,hs⟩
 rcases Nat.eq_zero_or_pos (q1z b.1 b.2 t).length with h0 | h0
 · rw [List.eq_nil_of_length_eq_zero h0] at hs; cases hs
 · exact h0
def one (v:Int) (t:List Int):Bnd:=([v],[t])
abbrev Pr:=Equation
def argsOf (l:List Symbol) (x y:List Int):List Pr:=((q54 l x 0).zip (q54 l y 0)).map fun p=>⟨subAt l x p.1,subAt l y p.2⟩
def psize (b:Bnd) (ps:List Pr):Nat:=(ps.map fun p=>(q1z b.1 b.2 p.left).length+(q1z b.1 b.2 p.right).length).sum
theorem sum_starts {l:List Symbol} {t:List Int} (ht:TermOk l t):∀ {n p:Nat} {r:List Int},skip (ar l) n (t.drop p)=some r→((q8b l t n p).map fun q=>(subAt l t q).length).sum+r.length=t.length - p
 | 0,p,r,h=>by
   rw [q3p] at h
   rw [← Option.some.inj h]
   simp [q8b]
 | n+1,p,r,h=>by
   obtain ⟨h1,h2,h3,h4⟩:=skip_one h
   have ih:=sum_starts ht h2
   have hs:=(q46 ht h1).2.1
   rw [q8b,List.map_cons,List.sum_cons]
   omega
theorem sum_args {l:List Symbol} {t:List Int} (ht:TermOk l t):((q54 l t 0).map fun q=>(subAt l t q).length).sum+1=t.length:=by
 have hp:=ht.pos
 obtain ⟨r,hr⟩:=args_skip ht (p:=0) (by omega)
 have hd:t.getD 0 0=t[0]:=q8s (by omega)
 have h:=sum_starts ht hr
 have hw:=ht.skip
 have e:t=t[0]::t.drop 1:=by
  have:=List.drop_eq_getElem_cons (l:=t) (i:=0) (by omega)
  rwa [List.drop_zero] at this
 rw [e,skip,Nat.zero_add] at hw
 rw [Nat.zero_add,hw] at hr
 have:r=[]:=(Option.some.inj hr).symm
 subst this
 unfold q54
 rw [hd]
 simp at h ⊢
 omega
theorem zip_sum {α β:Type} (f:α→Nat) (g:β→Nat):∀ (A:List α) (B:List β),A.length=B.length→((A.zip B).map fun p=>f p.1+g p.2).sum=(A.map f).sum+(B.map g).sum
 | [],[],_=>rfl
 | a::A,b::B,h=>by
   have ih:=zip_sum f g A B (by simpa using h)
   simp only [List.zip_cons_cons,List.map_cons,List.sum_cons] at ih ⊢
   omega
 | [],_::_,h=>by simp at h
 | _::_,[],h=>by simp at h
theorem subAt_sub {l:List Symbol} {t:List Int} {p:Nat}:∀ n∈subAt l t p,n∈t:=fun n hn=>List.mem_of_mem_take (List.mem_of_mem_drop hn)
theorem q5o {l:List Symbol} {b:Bnd} {x y:List Int} (hx:TermOk l x) (hy:TermOk l y) (fx:Free b x) (fy:Free b y) (he:x.getD 0 0=y.getD 0 0):psize b (argsOf l x y)+2=x.length+y.length:=by
 have e:(argsOf l x y).map (fun p=>(q1z b.1 b.2 p.left).length+(q1z b.1 b.2 p.right).length)=((q54 l x 0).zip (q54 l y 0)).map fun p=>(subAt l x p.1).length+(subAt l y p.2).length:=by
  unfold argsOf
  rw [List.map_map]
  refine List.map_congr_left fun p hp => ?_
  show (q1z b.1 b.2 (subAt l x p.1)).length+(q1z b.1 b.2 (subAt l y p.2)).length=_
  rw [applied_free fun n hn=>fx n (subAt_sub n hn),applied_free fun n hn=>fy n (subAt_sub n hn)]
 have hl:(q54 l x 0).length=(q54 l y 0).length:=by unfold q54; rw [q7w,q7w,he]
 unfold psize
 rw [e,zip_sum (fun p=>(subAt l x p).length) (fun q=>(subAt l y q).length) _ _ hl]
 have:=sum_args hx
 have:=sum_args hy
 omega
end Ev.Ty
end
section
namespace Ev.Ty
open Go Ev
open Enc (enc)
open Sm (sm)
set_option linter.unusedSimpArgs false
set_option linter.unusedVariables false
theorem applied_ge {b:Bnd} {l:List Symbol} {k:Nat} (hb:MB l b k):∀ t:List Int,t.length≤(q1z b.1 b.2 t).length
 | []=>by simp [q1z]
 | n::t=>by
   have ih:=applied_ge hb t
   have e:q1z b.1 b.2 (n::t)=(q3i b.1 b.2 (-1 - n)).getD [n]++q1z b.1 b.2 t:=by simp [q1z]
   rw [e,List.length_append,List.length_cons]
   cases ho:q3i b.1 b.2 (-1 - n) with
   | none=>simp; omega
   | some o =>
     have:=(hb.tm o (q4z ho)).pos
     simp; omega
def pstep (seen:List Int) (n:Int):Int × List Int :=
 if 0≤n then (n,seen) else if idx (fun x=>decide (x=n)) seen < 0 then (-1 - (seen.length:Int),seen++[n]) else (-1 - idx (fun x=>decide (x=n)) seen,seen)
def q3m:List Int→List Int→List Int × List Int
 | seen,[]=>([],seen)
 | seen,n::t=>((pstep seen n).1::(q3m (pstep seen n).2 t).1,(q3m (pstep seen n).2 t).2)
theorem q9l:∀ (seen a b:List Int),q3m seen (a++b)=((q3m seen a).1++(q3m (q3m seen a).2 b).1,(q3m (q3m seen a).2 b).2)
 | seen,[],b=>rfl
 | seen,n::a,b=>by
   rw [List.cons_append,q3m,q9l,q3m]; rfl
theorem q4t:∀ (seen t:List Int),(q3m seen t).1.length=t.length∧(q3m seen t).2.length≤seen.length+t.length∧seen.length≤(q3m seen t).2.length
 | seen,[]=>⟨rfl,by simp [q3m],by simp [q3m]⟩
 | seen,n::t=>by
   have ih:=q4t (pstep seen n).2 t
   have hp:(pstep seen n).2.length≤seen.length+1∧seen.length≤(pstep seen n).2.length:=by
    unfold pstep
    split
    · exact ⟨by simp,by simp⟩
    split
    · simp
    · exact ⟨by simp,by simp⟩
   rw [q3m]
   simp only [List.length_cons]
   omega
def plainE (e:Equation):Equation:=⟨(q3m [] e.left).1,(q3m (q3m [] e.left).2 e.right).1⟩
def seenE (e:Equation):List Int:=(q3m (q3m [] e.left).2 e.right).2
end Ev.Ty
end
section
namespace Ev.Ty
open Go Ev
open Enc (enc)
open Sm (sm)
set_option linter.unusedSimpArgs false
set_option linter.unusedVariables false
def StackOk (b:Bnd) (ps:List Pr):Prop:=∃ new old:List Pr,ps=new++old∧psize b new≤46∧old.length≤24*b.1.length+1
theorem psize_len {l:List Symbol} {b:Bnd} (hb:UB l b):∀ {ps:List Pr},(∀ p∈ps,TermOk l p.left∧TermOk l p.right)→2*ps.length≤psize b ps
 | [],_=>by simp [psize]
 | p::ps,h=>by
   have ih:=psize_len hb (ps:=ps) fun q hq=>h q (List.mem_cons_of_mem _ hq)
   have hp:=h p (by simp)
   have h1:=applied_ge hb.mb p.left
   have h2:=applied_ge hb.mb p.right
   have:=hp.1.pos
   have:=hp.2.pos
   simp only [psize,List.map_cons,List.sum_cons,List.length_cons] at ih ⊢
   omega
theorem StackOk.len {l:List Symbol} {b:Bnd} (hb:UB l b) {ps:List Pr} (hps:∀ p∈ps,TermOk l p.left∧TermOk l p.right) (h:StackOk b ps):ps.length≤400:=by
 obtain ⟨new,old,rfl,h1,h2⟩:=h
 have:=psize_len hb (ps:=new) fun q hq=>hps q (List.mem_append_left _ hq)
 have:=hb.le
 rw [List.length_append]
 omega
theorem psize_cons (b:Bnd) (p:Pr) (ps:List Pr):psize b (p::ps)=(q1z b.1 b.2 p.left).length+(q1z b.1 b.2 p.right).length+psize b ps:=by simp [psize]
theorem psize_append (b:Bnd) (ps qs:List Pr):psize b (ps++qs)=psize b ps+psize b qs:=by simp [psize]
theorem StackOk.tail {b:Bnd} {p:Pr} {ps:List Pr} (h:StackOk b (p::ps)):StackOk b ps:=by
 obtain ⟨new,old,e,h1,h2⟩:=h
 cases new with
 | nil =>
   rw [List.nil_append] at e
   subst e
   exact ⟨[],ps,rfl,by simp [psize],by simp at h2; omega⟩
 | cons q new =>
   rw [List.cons_append] at e
   injection e with e1 e2
   rw [psize_cons] at h1
   exact ⟨new,old,e2,by omega,h2⟩
theorem StackOk.bind {l:List Symbol} {b b':Bnd} (hb:UB l b) {p:Pr} {ps:List Pr} (hps:∀ q∈p::ps,TermOk l q.left∧TermOk l q.right) (h:StackOk b (p::ps)) (hl:b'.1.length=b.1.length+1):StackOk b' ps:=by
 obtain ⟨new,old,e,h1,h2⟩:=h.tail
 have:=psize_len hb (ps:=new) fun q hq=>hps q (List.mem_cons_of_mem _ (e ▸ List.mem_append_left _ hq))
 exact ⟨[],ps,rfl,by simp [psize],by rw [e,List.length_append]; omega⟩
theorem StackOk.args {b:Bnd} {p:Pr} {ps qs:List Pr} (h:StackOk b (p::ps)) (hq:psize b qs+2=(q1z b.1 b.2 p.left).length+(q1z b.1 b.2 p.right).length) (h1:(q1z b.1 b.2 p.left).length≤24) (h2:(q1z b.1 b.2 p.right).length≤24):StackOk b (qs++ps):=by
 obtain ⟨new,old,e,h3,h4⟩:=h
 cases new with
 | nil =>
   rw [List.nil_append] at e
   subst e
   exact ⟨qs,ps,rfl,by omega,by simp at h4; omega⟩
 | cons q new =>
   rw [List.cons_append] at e
   injection e with e1 e2
   subst e1
   rw [psize_cons] at h3
   exact ⟨qs++new,old,by rw [e2,List.append_assoc],by rw [psize_append]; omega,h4⟩
section
variable {l:List Symbol} (ok:SigOk ⟨l⟩)
include ok
end
end Ev.Ty
end
section
namespace Ev.Ty
open Go Ev
open Enc (enc)
open Sm (sm)
set_option linter.unusedSimpArgs false
set_option linter.unusedVariables false
section
variable {l:List Symbol} (ok:SigOk ⟨l⟩)
include ok
end
end Ev.Ty
end
section
namespace Ev.Ty
open Go Ev
open Enc (enc)
open Sm (sm)
set_option linter.unusedSimpArgs false
set_option linter.unusedVariables false
theorem q95 {s:List Int} {n:Int}:idx (fun x=>decide (x=n)) s < 0↔n∉s:=by
 rcases q6m (fun x:Int=>decide (x=n)) s with ⟨h1,h2⟩ | ⟨i,hi,h1,h2,_⟩
 · exact ⟨fun _ hm=>by have:=h2 n hm; simp at this,fun _=>by omega⟩
 · exact ⟨fun h=>by omega,fun h=>absurd ((show s[i]=n by simpa using h2) ▸ List.getElem_mem hi) h⟩
theorem idx_range (s:List Int) (n:Int) : -1≤idx (fun x=>decide (x=n)) s∧idx (fun x=>decide (x=n)) s < s.length+1:=by
 rcases q6m (fun x:Int=>decide (x=n)) s with ⟨h1,_⟩ | ⟨i,hi,h1,_,_⟩ <;> omega
def plSt (seen t:List Int) (k:Nat):List Int × List Int:=((q3m seen (t.take k)).1++t.drop k,(q3m seen (t.take k)).2)
theorem plSt_len (seen t:List Int) {k:Nat} (hk:k≤t.length):(plSt seen t k).1.length=t.length:=by
 have:=(q4t seen (t.take k)).1
 unfold plSt; simp only [List.length_append,this]; simp; omega
theorem plSt_get (seen t:List Int) {k:Nat} (h:k < t.length):(plSt seen t k).1[k]?=some t[k]:=by
 have hl:=(q4t seen (t.take k)).1
 rw [List.length_take,Nat.min_eq_left (Nat.le_of_lt h)] at hl
 unfold plSt
 simp only
 rw [List.getElem?_append_right (by omega),hl,Nat.sub_self,List.drop_eq_getElem_cons h]; rfl
theorem plSt_seen (seen t:List Int) (k:Nat):(plSt seen t k).2.length≤seen.length+k:=by
 have:=(q4t seen (t.take k)).2.1
 unfold plSt
 simp at this ⊢
 omega
theorem plSt_succ (seen t:List Int) {k:Nat} (h:k < t.length):plSt seen t (k+1)=((plSt seen t k).1.set k (pstep (plSt seen t k).2 t[k]).1,(pstep (plSt seen t k).2 t[k]).2):=by
 have hl:=(q4t seen (t.take k)).1
 rw [List.length_take,Nat.min_eq_left (Nat.le_of_lt h)] at hl
 unfold plSt
 simp only
 rw [← List.take_append_getElem h,q9l,List.set_append_right _ _ (by omega),hl,Nat.sub_self,List.drop_eq_getElem_cons h,List.set_cons_zero]
 simp [q3m]
theorem plSt_zero (seen t:List Int):plSt seen t 0=(t,seen):=by simp [plSt,q3m]
theorem plSt_end (seen t:List Int):plSt seen t t.length=q3m seen t:=by simp [plSt]
theorem plSt_pos (seen t:List Int) {k:Nat} (h:k < t.length) (h0:0≤t[k]):plSt seen t (k+1)=plSt seen t k:=by
 have e:=plSt_succ seen t h
 have:pstep (plSt seen t k).2 t[k]=(t[k],(plSt seen t k).2):=by unfold pstep; rw [if_pos h0]
 rw [e,this,set_same (plSt_get seen t h)]
theorem plSt_new (seen t:List Int) {k:Nat} (h:k < t.length) (h0:¬ 0≤t[k]) (hn:t[k]∉(plSt seen t k).2) :
 plSt seen t (k+1)=((plSt seen t k).1.set k (-1 - ((plSt seen t k).2.length:Int)),(plSt seen t k).2++[t[k]]):=by
 rw [plSt_succ seen t h]
 unfold pstep
 rw [if_neg h0,if_pos (q95.2 hn)]
theorem plSt_old (seen t:List Int) {k:Nat} (h:k < t.length) (h0:¬ 0≤t[k]) (hn:t[k]∈(plSt seen t k).2) :
 plSt seen t (k+1)=((plSt seen t k).1.set k (-1 - idx (fun x=>decide (x=t[k])) (plSt seen t k).2),(plSt seen t k).2):=by
 rw [plSt_succ seen t h]
 unfold pstep
 rw [if_neg h0,if_neg (fun e=>q95.1 e hn)]
theorem q1f (a b:List Int) (ha:a.length≤1024) (hb:b.length≤1024):Call F.q1f [.rref [slc a,slc b] 0]
 (.tup [.agg [slc (if (seenE ⟨a,b⟩).length≤6 then (plainE ⟨a,b⟩).left else []),slc (if (seenE ⟨a,b⟩).length≤6 then (plainE ⟨a,b⟩).right else [])],.bool (decide ((seenE ⟨a,b⟩).length≤6))]):=by
 refine q0s rfl 3000 ((q1f.ev _ _ _).trans ?_)
 simp only [evz,Nat.reduceLT,(q5c a (by omega)).eq,q3q,← q3b]
 rw [q26 (q3s (by rw [q0u,q0u,q3l]; omega))]
 have htl:(a++b).length≤2048:=by simp; omega
 obtain ⟨t,hte⟩:∃ t,t=a++b:=⟨_,rfl⟩
 rw [← hte] at htl ⊢
 have key:=run_loop (n:=t.length) (f:=3000) (S:=fun m k (o:List Int × List Int)=>q1f.at0 3000 m (q1f.st0 (cells a) (cells b) (k:Nat) (cells o.1) (cells o.2)))
  (st:=fun k=>plSt [] t k) (z:=some (.tup [.agg [slc (if (seenE ⟨a,b⟩).length≤6 then (plainE ⟨a,b⟩).left else []),slc (if (seenE ⟨a,b⟩).length≤6 then (plainE ⟨a,b⟩).right else [])],.bool (decide ((seenE ⟨a,b⟩).length≤6))],[])) (fun m k h => ?_) (fun m => ?_) (by omega)
 · rw [plSt_zero] at key; exact key
 · have hl:=plSt_len [] t (Nat.le_of_lt h)
   have hg:=plSt_get [] t h
   have hsl:=plSt_seen [] t k
   have hp:=plSt_pos [] t h
   have hnw:=plSt_new [] t h
   have hod:=plSt_old [] t h
   generalize plSt [] t (k+1)=P at *
   generalize plSt [] t k=Q at *
   obtain ⟨M,s⟩:=Q
   simp only at hl hg hsl hp hnw hod
   have hkM:k < M.length:=by omega
   have hkc:k*1+1≤(cells M).length:=by rw [q0u,q3l]; omega
   have hix:=(q1t s t[k] (by simp at hsl; omega)).eq
   unfold rank at hix
   have hrg:=idx_range s t[k]
   have hsl':s.length≤2048:=by simp at hsl; omega
   by_cases h0:0≤t[k]
   · have h0':t[k] ≥ 0:=h0
     rw [hp h0]
     simp only [q1f.next0,q1f.round0,evz,Nat.reduceLT,h,hg,hkM,q1r,h0']
     rw [q0m (by omega)]
   · have h0':¬ t[k] ≥ 0:=h0
     by_cases hm:t[k]∈s
     · rw [hod h0 hm]
       have:=set_Int hkM (-1 - idx (fun x=>decide (x=t[k])) s)
       have hi:¬ idx (fun x=>decide (x=t[k])) s < 0:=fun e=>q95.1 e hm
       simp only [q1f.next0,q1f.round0,evz,Nat.reduceLT,h,hg,hkM,q1r,h0',hix,hi,q27 (x := -1 - idx (fun x=>decide (x=t[k])) s) (by omega),this,hkc]
       rw [q0m (by omega)]
     · rw [hnw h0 hm]
       have:=set_Int hkM (-1 - (s.length:Int))
       have hi:idx (fun x=>decide (x=t[k])) s < 0:=q95.2 hm
       simp only [q1f.next0,q1f.round0,evz,Nat.reduceLT,h,hg,hkM,q1r,h0',hix,hi,q2j,q27 (x := -1 - (s.length:Int)) (by omega),this,hkc]
       rw [q0m (by omega),q26 (q3s (by rw [q0u,q3l]; omega))]
 · rw [plSt_end,hte,q9l]
   have hl1:=(q4t [] a).1
   have hl2:=(q4t (q3m [] a).2 b).1
   have es:seenE ⟨a,b⟩=(q3m (q3m [] a).2 b).2:=rfl
   simp only [q1f.next0,q1f.round0,evz,Nat.reduceLT,List.length_append,hl1,hl2,Nat.lt_irrefl,es]
   by_cases h6:(q3m (q3m [] a).2 b).2.length≤6
   · have h6':¬ (((q3m (q3m [] a).2 b).2.length:Nat):Int) > 6:=by omega
     have c1:((((q3m [] a).1++(q3m (q3m [] a).2 b).1).take a.length).drop 0)=(q3m [] a).1:=by rw [List.drop_zero,← hl1,List.take_left]
     have c2:((((q3m [] a).1++(q3m (q3m [] a).2 b).1).take (a.length+b.length)).drop a.length)=(q3m (q3m [] a).2 b).1:=by
      rw [List.take_of_length_le (by rw [List.length_append]; omega),← hl1,List.drop_left]
     simp only [h6,h6',evz,Nat.reduceLT]
     rw [q26 (by simp; omega),q9b,c1,(q5c _ (by omega)).eq]
     simp only [evz,Nat.reduceLT]
     rw [q26 (by simp; omega),q9b,c2,(q5c _ (by omega)).eq]
     simp only [evz,Nat.reduceLT]
     rfl
   · have h6':(((q3m (q3m [] a).2 b).2.length:Nat):Int) > 6:=by omega
     simp only [h6,h6',evz,Nat.reduceLT,q80]
end Ev.Ty
end
section
namespace Ev.Ty
open Go Ev
open Enc (enc)
open Sm (sm)
set_option linter.unusedSimpArgs false
set_option linter.unusedVariables false
section
variable {l:List Symbol} (ok:SigOk ⟨l⟩)
include ok
end
end Ev.Ty
end
section
namespace Ev.Ty
open Go Ev
open Enc (enc)
open Sm (sm)
set_option linter.unusedSimpArgs false
set_option linter.unusedVariables false
section
variable {l:List Symbol} (ok:SigOk ⟨l⟩)
include ok
end
end Ev.Ty
end
section
namespace Ev.Ty
open Go Ev
open Enc (enc)
open Sm (sm)
set_option linter.unusedSimpArgs false
set_option linter.unusedVariables false
section
variable {l:List Symbol} (ok:SigOk ⟨l⟩) {rs:List Equation} (hr:∀ e∈rs,EqOk l e) (hl:rs.length≤12)
include ok hr hl
end
end Ev.Ty
end
section
namespace Ev.Ty
open Go Ev
open Enc (enc)
open Sm (sm)
set_option linter.unusedSimpArgs false
set_option linter.unusedVariables false
section
variable {l:List Symbol} {rs:List Equation} (hrf:q4h ⟨l⟩ rs=0) (hls:sm 1048576 (Signature.mk l)) (hrs:sm 1048576 rs) {fuel:Nat} (hf:fuel≤200)
include hrf hls hrs hf
end
end Ev.Ty
end
section
namespace Ev.Ty
open Go Ev
open Enc (enc)
open Sm (sm)
set_option linter.unusedSimpArgs false
set_option linter.unusedVariables false
def two (e:Entry):Bool:=decide (e.kind=4)||decide (e.kind=5)
structure NumsOk (eqn enn:Nat) (e:Entry):Prop where
 kind:e.kind=1∨e.kind=2∨e.kind=3∨e.kind=4∨e.kind=5
 a0:0≤e.a
 given:e.kind=1→e.a.toNat < eqn
 other:e.kind≠1→e.a.toNat < enn
 b:e.kind=4∨e.kind=5→0≤e.b∧e.b.toNat < enn
 side:e.side=0∨(e.kind=4∧e.side=1)
 zero:e.kind≠4→e.kind≠5→e.b=0∧e.place=0
theorem nodup_sub:∀ {s t:List Int},s.Nodup→s ⊆ t→s.length≤t.length
 | [],t,_,_=>Nat.zero_le _
 | x::s,t,h,hs=>by
   have hx:x∈t:=hs (by simp)
   rw [List.nodup_cons] at h
   have h1:s ⊆ t.erase x:=fun y hy=>by
    refine (List.mem_erase_of_ne (fun (e:y=x)=>h.1 (by rw [← e]; exact hy))).2 (hs (List.mem_cons_of_mem _ hy))
   have h2:=nodup_sub h.2 h1
   rw [List.length_erase_of_mem hx] at h2
   have:=List.length_pos_of_mem hx
   rw [List.length_cons]
   omega
theorem six {s:List Int} (h1:s.Nodup) (h2:∀ m∈s,-6≤m∧m < 0):s.length≤6:=by
 have:s ⊆ [-6,-5,-4,-3,-2,-1]:=fun m hm=>by
  have:=h2 m hm
  simp only [List.mem_cons,List.not_mem_nil,or_false]
  omega
 exact nodup_sub h1 this
end Ev.Ty
end
section
namespace Ev.Ty
open Go Ev
open Enc (enc)
open Sm (sm)
set_option linter.unusedSimpArgs false
set_option linter.unusedVariables false
theorem EqOk.small {l:List Symbol} {e:Equation} (h:EqOk l e):sm 1048576 e:=⟨⟨by have:=h.left.le; omega,fun _ _=>trivial⟩,⟨by have:=h.right.le; omega,fun _ _=>trivial⟩⟩
section
variable {l:List Symbol} (ok:SigOk ⟨l⟩) (hs:sm 1048576 (Signature.mk l)) {eqs:List Equation} {ents:List Entry} (hq:∀ x∈eqs,EqOk l x) (he:∀ x∈ents,EqOk l (eqOf x)) (hql:eqs.length≤12) (hel:ents.length≤500)
include ok hs hq he hql hel
end
section
variable {l:List Symbol} (ok:SigOk ⟨l⟩) (hs:sm 1048576 (Signature.mk l)) {eqs:List Equation} (hq:∀ x∈eqs,EqOk l x) (hql:eqs.length≤12) {ents:List Entry} (hel:ents.length≤500)
include ok hs hq hql hel
end
end Ev.Ty
end
section
namespace Ev.Ty
open Go Ev
open Enc (enc)
open Sm (sm)
set_option linter.unusedSimpArgs false
set_option linter.unusedVariables false
section
variable {l:List Symbol} (ok:SigOk ⟨l⟩) (hs:sm 1048576 (Signature.mk l)) {eqs:List Equation} (hqs:sm 1048576 eqs) (hq:∀ x∈eqs,EqOk l x) (hql:eqs.length≤12) {o:List Int} (ho:sm 1048576 o)
include ok hs hqs hq hql ho
end
end Ev.Ty
end
section
namespace Ev.Ty
open Go Ev
open Enc (enc)
open Sm (sm)
set_option linter.unusedSimpArgs false
set_option linter.unusedVariables false
set_option maxHeartbeats 2000000
set_option maxRecDepth 10000
def orientC (s:Signature) (o a b:List Int):Int:=if cmpF s o a b=0 then if cmpV s.symbols o a b=1∨cmpV s.symbols o a b=2 then 0 else 10 else cmpF s o a b
def orientL (s:Signature) (o a b:List Int):List Int:=if cmpF s o a b=0 then if cmpV s.symbols o a b=1 then a else if cmpV s.symbols o a b=2 then b else [] else []
def orientE (s:Signature) (o a b:List Int):List Int:=if cmpF s o a b=0 then if cmpV s.symbols o a b=1 then b else if cmpV s.symbols o a b=2 then a else [] else []
theorem copy_eq (x y:List Int) (h1:x.length≤4294967296) (h2:y.length≤4294967296):Call F.q7p [.rref [slc x,slc y] 0] (.agg [slc x,slc y]):=by
 refine q0s rfl 0 ((q7p.ev _ _ _).trans ?_)
 simp only [evz,Nat.reduceLT,(q2m x h1).eq,(q2m y h2).eq]
theorem q3w (l:List Symbol) (hsl:l.length≤4294967296) (o:List Int) (hol:o.length≤4294967296) (a b:List Int) (ha:a.length≤4294967296) (hb:b.length≤4294967296) :
 Call F.q3w [.agg [slc l],slc o,.agg [slc a,slc b]] (.agg [.int .i64 (orientC ⟨l⟩ o a b),slc (orientL ⟨l⟩ o a b),slc (orientE ⟨l⟩ o a b)]):=by
 refine q0s rfl 0 ((q3w.ev _ _ _ _ _).trans ?_)
 simp only [evz,Nat.reduceLT,(q42 l hsl o hol).eq]
 have bad:∀ c:Int,cmpF ⟨l⟩ o a b=c→¬ c=0→orientC ⟨l⟩ o a b=c∧orientL ⟨l⟩ o a b=[]∧orientE ⟨l⟩ o a b=[]:=fun c h1 h2=>by
  subst h1
  exact ⟨if_neg h2,if_neg h2,if_neg h2⟩
 by_cases h0:q61 ⟨l⟩ o=0
 case neg =>
  obtain ⟨b1,b2,b3⟩:=bad (q61 ⟨l⟩ o) (by unfold cmpF; rw [if_neg h0]) h0
  rw [b1,b2,b3]
  simp only [h0,evz,Nat.reduceLT,ne_eq,not_false_eq_true]
  rfl
 have h1:=(orderF_ok h0).1
 have ok:=q6z h1
 simp only [h0,evz,Nat.reduceLT,ne_eq,not_true_eq_false,(q0z l ok a ha).eq,(q0z l ok b hb).eq]
 by_cases h2:q2p l a=0
 case neg =>
  obtain ⟨b1,b2,b3⟩:=bad (q2p l a) (by unfold cmpF; rw [if_pos h0,q68 h1,q68 h1,if_neg h2]) h2
  rw [b1,b2,b3]
  simp only [h2,evz,Nat.reduceLT,ne_eq,not_false_eq_true]
  rfl
 by_cases h3:q2p l b=0
 case neg =>
  obtain ⟨b1,b2,b3⟩:=bad (q2p l b) (by unfold cmpF; rw [if_pos h0,q68 h1,q68 h1,if_pos h2]) h3
  rw [b1,b2,b3]
  simp only [h2,h3,evz,Nat.reduceLT,ne_eq,not_false_eq_true,not_true_eq_false]
  rfl
 have h:cmpF ⟨l⟩ o a b=0:=by unfold cmpF; rw [if_pos h0,q68 h1,q68 h1,if_pos h2,h3]
 obtain ⟨_,q1,q2,q3,q4⟩:=cmpF_ok h
 rw [orientC,orientL,orientE]
 simp only [h,h2,h3,evz,Nat.reduceLT,ne_eq,not_true_eq_false,(q5k ok q1 q2 q3 q4).eq]
 by_cases v1:cmpV l o a b=1
 · simp only [v1,evz,Nat.reduceLT,(copy_eq a b ha hb).eq,true_or]
 · by_cases v2:cmpV l o a b=2
   · simp only [v1,v2,evz,Nat.reduceLT,(q2m a ha).eq,(q2m b hb).eq,or_true,show ¬ (2:Int)=1 by decide]
   · simp only [v1,v2,evz,Nat.reduceLT,or_self,not_false_eq_true]
     rfl
theorem orient_small (l:List Symbol) (o a b:List Int) {n:Nat} (ha:a.length≤n) (hb:b.length≤n):(orientL ⟨l⟩ o a b).length≤n∧(orientE ⟨l⟩ o a b).length≤n:=by
 unfold orientL orientE
 split
 · split
   · exact ⟨ha,hb⟩
   · split
     · exact ⟨hb,ha⟩
     · exact ⟨Nat.zero_le _,Nat.zero_le _⟩
 · exact ⟨Nat.zero_le _,Nat.zero_le _⟩
def EqS (n:Nat) (es:List Equation):Prop:=es.length≤n∧∀ e∈es,e.left.length≤1001∧e.right.length≤1001
theorem EqS.sm {n:Nat} {es:List Equation} (h:EqS n es) (hn:n≤1001):Sm.sm 1048576 es:=⟨by have:=h.1; omega,fun e he=>⟨⟨by have:=(h.2 e he).1; omega,fun _ _=>trivial⟩,⟨by have:=(h.2 e he).2; omega,fun _ _=>trivial⟩⟩⟩
theorem EqS.snoc {n:Nat} {es:List Equation} (h:EqS n es) {a b:List Int} (ha:a.length≤1001) (hb:b.length≤1001):EqS (n+1) (es++[⟨a,b⟩]):=⟨by have:=h.1; simp; omega,fun e he=>by
 rcases List.mem_append.1 he with h1 | h1
 · exact h.2 e h1
 · rw [List.mem_singleton.1 h1]; exact ⟨ha,hb⟩⟩
theorem cells_eq (es:List Equation) (a b:List Int):cells es++[slc a,slc b]=cells (es++[⟨a,b⟩]):=by rw [q3b]; rfl
section
variable {code:List UInt8} (hc:code.length≤2097152)
include hc
theorem q1c {l:List Symbol} (ok:SigOk ⟨l⟩) (o:List Int) (ho:o.length≤1000) (p n:Int) (hn:0≤n∧n≤12) (hp:0≤p∧p≤1099400000000) :
 Drawn code p 100000 (fun x=>∃ es,x=slc es∧EqS n.toNat es) (LIM F.q1c [.rref [slc code,.int .i64 p] 0,.rref [slc l] 0,slc o,.int .i64 n]):=by
 have hll:l.length≤6:=ok.le
 refine q7s rfl 20 ?_
 rw [show callK prog A H LIM 20 F.q1c [.rref [slc code,.int .i64 p] 0,.rref [slc l] 0,slc o,.int .i64 n]=_ from q1c.ev _ _ _ _ _ _]
 rw [show IntKind.wrap .i64 (n+1)=n+1 from q27 (by omega)]
 refine next_s hc (by omega) fun v h1 h2 => ?_
 have h2:=h2 (by omega)
 simp only [evz,Nat.reduceLT]
 refine q5x (σ:=Int × Int × List Equation) (S:=fun m s=>q1c.at0 20 m (q1c.st0 (cells l) (cells o) s.1 (cells code) s.2.1 (cells s.2.2))) (fun s=>0≤s.1∧s.1≤n∧p≤s.2.1∧s.2.1≤p+1+(n - s.1)*6300∧EqS (n - s.1).toNat s.2.2) (fun s=>s.1.toNat) (fun m s hs => ?_) _ (v,p+1,[]) ⟨h1,by simp only; omega,by simp only; omega,by simp only; omega,⟨by simp,by simp⟩⟩ (by simp only; omega)
 obtain ⟨k,q,es⟩:=s
 obtain ⟨g1,g2,g3,g4,g5⟩:=hs
 simp only at g1 g2 g3 g4 g5 ⊢
 have hes:=g5.1
 by_cases hk:k > 0
 case neg =>
  left
  simp only [q1c.next0,q1c.round0,evz,Nat.reduceLT,hk]
  exact q4m (by omega) ⟨es,rfl,by omega,g5.2⟩
 right
 have wk:IntKind.wrap .i64 (k - 1)=k - 1:=q27 (by omega)
 obtain ⟨_,q2,e1,c1,c2,a,b,rfl,heq⟩:=q5i hc ok q (by omega)
 have hal:=heq.left.le
 have hbl:=heq.right.le
 simp only at hal hbl
 have e2:=(q3w l (by omega) o (by omega) a b (by omega) (by omega)).eq
 obtain ⟨s1,s2⟩:=orient_small l o a b hal hbl
 have skip:EqS (n - (k - 1)).toNat es:=⟨by omega,g5.2⟩
 by_cases h0:orientC ⟨l⟩ o a b=0
 · generalize hx:orientL ⟨l⟩ o a b=x at *
   generalize hy:orientE ⟨l⟩ o a b=y at *
   have e3:=(q1f x y (by omega) (by omega)).eq
   have l1:=(q4t [] x).1
   have l2:=(q4t (q3m [] x).2 y).1
   by_cases h6:(seenE ⟨x,y⟩).length≤6
   · refine ⟨(k - 1,q2,es++[⟨(plainE ⟨x,y⟩).left,(plainE ⟨x,y⟩).right⟩]),?_,⟨by simp only; omega,by simp only; omega,by simp only; omega,by simp only; omega,?_⟩,by simp only; omega⟩
     · simp only [h6,if_true,decide_true] at e3
       simp only [q1c.next0,q1c.round0,evz,Nat.reduceLT,hk,wk,e1,e2,h0,e3]
       rw [q26 (q3s (by rw [q0u]; simp only [q88]; omega)),cells_eq]
     · simp only
       have:=g5.snoc (a:=(plainE ⟨x,y⟩).left) (b:=(plainE ⟨x,y⟩).right) (by show (q3m [] x).1.length≤1001; omega) (by show (q3m (q3m [] x).2 y).1.length≤1001; omega)
       exact ⟨by have:=this.1; omega,this.2⟩
   · refine ⟨(k - 1,q2,es),?_,⟨by simp only; omega,by simp only; omega,by simp only; omega,by simp only; omega,skip⟩,by simp only; omega⟩
     simp only [h6,if_false,decide_false] at e3
     simp only [q1c.next0,q1c.round0,evz,Nat.reduceLT,hk,wk,e1,e2,h0,e3]
 · refine ⟨(k - 1,q2,es),?_,⟨by simp only; omega,by simp only; omega,by simp only; omega,by simp only; omega,skip⟩,by simp only; omega⟩
   simp only [q1c.next0,q1c.round0,evz,Nat.reduceLT,hk,wk,e1,e2,h0]
omit hc in
theorem fill_rules (o:List Int) (p2 p n:Int) (hp:p≤p2∧p2≤p+200000) (hn:n≤13) (es:List Equation) (h0:0 < es.length) (he:EqS 13 es) :
 Drawn code p 200000 (fun x=>∃ es,x=slc es∧EqS 13 es) (q0w.at0 20 20 (q0w.st0 n (cells code) p2 (cells es))):=by
 refine q5x (σ:=List Equation) (S:=fun m s=>q0w.at0 20 m (q0w.st0 n (cells code) p2 (cells s))) (fun s=>0 < s.length∧EqS 13 s) (fun s=>13 - s.length) (fun m s hs => ?_) _ es ⟨h0,he⟩ (by omega)
 obtain ⟨g1,g2⟩:=hs
 have hs:=g2.1
 by_cases hk:((s.length:Nat):Int) < n
 case neg =>
  left
  simp only [q0w.next0,q0w.round0,evz,Nat.reduceLT,hk]
  exact q4m hp ⟨s,rfl,g2⟩
 right
 match s,g1 with
 | e::r,_ =>
   have hem:=g2.2 e (List.mem_cons_self ..)
   have e0:inB 0 (e::r).length=true:=(q7a 0 _).trans (by simp)
   have ew:((cells (e::r)).drop 0).take 2=[slc e.left,slc e.right]:=by rw [q6p]; rfl
   have ec:=(copy_eq e.left e.right (by omega) (by omega)).eq
   refine ⟨(e::r)++[⟨e.left,e.right⟩],?_,⟨by simp,?_⟩,by simp only [List.length_append,List.length_cons,List.length_nil] at hk ⊢; omega⟩
   · simp only [q0w.next0,q0w.round0,evz,Nat.reduceLT,hk,e0,ew,ec]
     rw [q26 (q3s (by rw [q0u]; simp only [q88]; omega)),cells_eq]
   · exact ⟨by simp only [List.length_append,List.length_cons,List.length_nil] at hk ⊢; omega,fun x hx=>by
      rcases List.mem_append.1 hx with h | h
      · exact g2.2 x h
      · rw [List.mem_singleton.1 h]; exact hem⟩
theorem q0w {l:List Symbol} (hl:l.length≤1000) (o:List Int) (ho:o.length≤1000) (p:Int) (hp:0≤p∧p≤1099300000000) :
 Drawn code p 200000 (fun x=>∃ es,x=slc es∧EqS 13 es∧(0 < es.length→SigOk ⟨l⟩)) (LIM F.q0w [.rref [slc code,.int .i64 p] 0,.rref [slc l] 0,slc o]):=by
 refine q7s rfl 20 ?_
 rw [show callK prog A H LIM 20 F.q0w [.rref [slc code,.int .i64 p] 0,.rref [slc l] 0,slc o]=_ from q0w.ev _ _ _ _ _]
 have leaf:∀ (es:List Equation) (p2:Int),p≤p2∧p2≤p+200000→EqS 13 es→(0 < es.length→SigOk ⟨l⟩)→Drawn code p 200000 (fun x=>∃ es,x=slc es∧EqS 13 es∧(0 < es.length→SigOk ⟨l⟩)) (some (slc es,[.agg [slc code,.int .i64 p2]])):=fun es p2 h he hs=>q4m h ⟨es,rfl,he,hs⟩
 simp only [evz,Nat.reduceLT,(q42 l (by omega) o (by omega)).eq]
 by_cases h0:q61 ⟨l⟩ o=0
 case neg =>
  simp only [h0,evz,Nat.reduceLT,ne_eq,not_false_eq_true]
  exact leaf [] p (by omega) ⟨by simp,by simp⟩ (fun h=>absurd h (by simp))
 have ok:=q6z (orderF_ok h0).1
 simp only [h0,evz,Nat.reduceLT,ne_eq,not_true_eq_false]
 refine q6a (q1c hc ok o ho p 5 (by omega) (by omega)) ?_
 rintro _ p1 a1 b1 ⟨es,rfl,hes⟩
 have hes:EqS 5 es:=hes
 have hel:=hes.1
 simp only [evz,Nat.reduceLT]
 refine q7t hc (by omega) fun b => ?_
 simp only [evz,Nat.reduceLT]
 cases b with
 | true =>
   simp only [evz,Nat.reduceLT]
   refine q6a (q3n hc (l:=l) hl _ (by omega)) ?_
   rintro _ p2 a2 b2 ⟨a,b,rfl,ha,hb⟩
   simp only [evz,Nat.reduceLT]
   rw [q26 (q3s (by rw [q0u]; simp only [q88]; omega))]
   refine q7t hc (by omega) fun b => ?_
   simp only [evz,Nat.reduceLT,cells_eq]
   have h6:=hes.snoc ha hb
   cases b with
   | false=>simp only [evz,Nat.reduceLT]; exact leaf _ _ (by omega) ⟨by have:=h6.1; omega,h6.2⟩ (fun _=>ok)
   | true =>
     simp only [evz,Nat.reduceLT]
     split
     · rename_i hpos
       refine pick_s hc [12,13] rfl (by simp) (by omega) fun v hv => ?_
       have hv':v≤13:=by
        simp only [List.mem_cons,List.not_mem_nil,or_false] at hv; omega
       simp only [evz,Nat.reduceLT]
       exact (fill_rules o _ p v (by omega) hv' _ (by omega) ⟨by have:=h6.1; omega,h6.2⟩).more (Int.le_refl _) (Int.le_refl _) fun x ⟨es,e,h⟩=>⟨es,e,h,fun _=>ok⟩
     · exact leaf _ _ (by omega) ⟨by have:=h6.1; omega,h6.2⟩ (fun _=>ok)
 | false =>
   simp only [evz,Nat.reduceLT]
   refine q7t hc (by omega) fun b => ?_
   simp only [evz,Nat.reduceLT]
   cases b with
   | false=>simp only [evz,Nat.reduceLT]; exact leaf es _ (by omega) ⟨by omega,hes.2⟩ (fun _=>ok)
   | true =>
     simp only [evz,Nat.reduceLT]
     split
     · rename_i hpos
       refine pick_s hc [12,13] rfl (by simp) (by omega) fun v hv => ?_
       have hv':v≤13:=by
        simp only [List.mem_cons,List.not_mem_nil,or_false] at hv; omega
       simp only [evz,Nat.reduceLT]
       exact (fill_rules o _ p v (by omega) hv' es (by omega) ⟨by omega,hes.2⟩).more (Int.le_refl _) (Int.le_refl _) fun x ⟨es,e,h⟩=>⟨es,e,h,fun _=>ok⟩
     · exact leaf es _ (by omega) ⟨by omega,hes.2⟩ (fun _=>ok)
end
end Ev.Ty
end
section
namespace Ev.Ty
open Go Ev
open Enc (enc)
open Sm (sm)
set_option linter.unusedSimpArgs false
set_option linter.unusedVariables false
set_option maxHeartbeats 4000000
set_option maxRecDepth 10000
section
variable {code:List UInt8} (hc:code.length≤2097152)
include hc
def Draw8Q (code:List UInt8) (r:R):Prop:=∃ (l:List Symbol) (rs:List Equation) (t:List Int) (p:Int),r=some (.tup [.agg [slc l],slc rs,slc t,.bx [slc code,.int .i64 p]],[])∧sm 7 (Signature.mk l)∧EqS 13 rs∧t.length≤1001∧0≤p∧p≤400000
theorem q6e:∃ (l:List Symbol) (rs:List Equation) (t:List Int) (p:Int),Call F.q6e [slc code] (.tup [.agg [slc l],slc rs,slc t,.bx [slc code,.int .i64 p]])∧sm 7 (Signature.mk l)∧EqS 13 rs∧t.length≤1001∧0≤p∧p≤400000:=by
 suffices h:∃ r,callK prog A H LIM 0 F.q6e [slc code]=r∧Draw8Q code r by
  obtain ⟨_,e,l,rs,t,p,rfl,h⟩:=h
  exact ⟨l,rs,t,p,q0s rfl 0 e,h⟩
 refine ⟨_,q6e.ev _ _,?_⟩
 rw [show LIM F.q5d [.sl 1 (cells code)]=_ from q5d]
 simp only [evz,Nat.reduceLT,oBx_bx]
 refine q6a (Q:=Draw8Q code) (q10 hc 0 (by omega)) ?_
 rintro _ p1 a1 b1 ⟨l,rfl,hl⟩
 have hll:l.length≤7:=hl.1
 simp only [evz,Nat.reduceLT]
 refine q6a (Q:=Draw8Q code) (q11 hc p1 (by omega) l (by omega)) ?_
 rintro _ p2 a2 b2 ⟨o,rfl,ho⟩
 have hol:o.length≤1000:=by have:=ho.length_eq; rw [q9g] at this; omega
 simp only [evz,Nat.reduceLT]
 refine q6a (Q:=Draw8Q code) (q0w hc (l:=l) (by omega) o hol p2 (by omega)) ?_
 rintro _ p3 a3 b3 ⟨rs,rfl,hrs,hok⟩
 have hrl:=hrs.1
 simp only [evz,Nat.reduceLT]
 refine pick_s (Q:=Draw8Q code) hc [4,8,12,20] rfl (by simp) (by omega) fun v hv => ?_
 have hv':4≤v∧v≤20:=by
  simp only [List.mem_cons,List.not_mem_nil,or_false] at hv; omega
 simp only [evz,Nat.reduceLT]
 refine pick_s (Q:=Draw8Q code) hc [0,0,3] rfl (by simp) (by omega) fun w hw => ?_
 have hw':0≤w∧w≤3:=by
  simp only [List.mem_cons,List.not_mem_nil,or_false] at hw; omega
 simp only [evz,Nat.reduceLT]
 refine q6a (Q:=Draw8Q code) (q13 hc _ v w l (by omega) (by omega) (by omega) (by omega)) ?_
 rintro _ p4 a4 b4 ⟨t,rfl,ht⟩
 have leaf:∀ (t:List Int) (p:Int),0≤p∧p≤400000→t.length≤1001→Draw8Q code (some (.tup [.agg [slc l],slc rs,slc t,.bx [slc code,.int .i64 p]],[])):=fun t p hp ht=>⟨l,rs,t,p,rfl,hl,hrs,ht,hp⟩
 simp only [evz,Nat.reduceLT]
 split
 case isFalse=>exact leaf t _ (by omega) ht
 rename_i hpos
 have hpos:0 < rs.length:=by omega
 have ok:=hok hpos
 refine q7t (Q:=Draw8Q code) hc (by omega) fun b => ?_
 simp only [evz,Nat.reduceLT]
 cases b with
 | false=>simp only [evz,Nat.reduceLT]; exact leaf t _ (by omega) ht
 | true =>
   simp only [evz,Nat.reduceLT,(q0z l ok t (by omega)).eq]
   split
   case isFalse=>exact leaf t _ (by omega) ht
   rename_i h3
   simp only [evz,Nat.reduceLT,(q1k l ok rs (q32 (by omega) (hrs.sm (by omega)))).eq]
   split
   case isFalse=>exact leaf t _ (by omega) ht
   rename_i h5
   refine q6a (Q:=Draw8Q code) (q1v hc ok _ 3 (by omega) (by omega)) ?_
   rintro _ p5 a5 b5 ⟨vs,ts,rfl,hb,hbo⟩
   simp only [evz,Nat.reduceLT]
   refine next_s (Q:=Draw8Q code) hc (by omega) fun x hx1 hx2 => ?_
   match rs,hpos with
   | e::r,_ =>
     have e0:inB 0 (e::r).length=true:=(q7a 0 _).trans (by simp)
     have eL:EqOk l e:=(q8f.1 h5).2 e (List.mem_cons_self ..)
     have ell:=eL.left.le
     have hr:∀ n∈e.left,-4611686018427387904≤n∧n≤4611686018427387904:=fun n hn=>by
      rcases q4a.1 (eL.left.node n hn) with h | h <;> omega
     have ea:=(q1e vs ts hbo e.left (by omega) hr).eq
     have hal:=q8u hbo e.left
     obtain ⟨c,u,er,hu⟩:=q4w l (by omega) t (by omega) x (q1z vs ts e.left) (by omega)
     have g0:(cells (e::r))[0]?=some (slc e.left):=rfl
     have es:List.set (cells (e::r)) 0 (slc e.left)=cells (e::r):=rfl
     simp only [evz,Nat.reduceLT,e0,g0,ea,er.eq,es]
     split
     · exact leaf u _ (by omega) (by omega)
     · exact leaf t _ (by omega) ht
theorem q3v:∃ (l:List Symbol) (rs:List Equation) (t:List Int) (n:Int),Call F.q3v [slc code] (.tup [.agg [slc l],slc rs,slc t,.int .i64 n])∧sm 7 (Signature.mk l)∧EqS 13 rs∧t.length≤1001 ∧ -1≤n∧n≤201:=by
 obtain ⟨l,rs,t,p,e,h1,h2,h3,h4,h5⟩:=q6e hc
 obtain ⟨v,hv,ep⟩:=q2w hc p [200,200,200,50,3,1,0,201,-1] (ts:=[.int .i64 200,.int .i64 200,.int .i64 200,.int .i64 50,.int .i64 3,.int .i64 1,.int .i64 0,.int .i64 201,.int .i64 (-1)]) rfl (by simp) (by omega)
 refine ⟨l,rs,t,v,q0s rfl 0 ((q3v.ev _ _).trans ?_),h1,h2,h3,?_⟩
 · simp only [evz,Nat.reduceLT,e.eq,oBx_bx,ep]
 · simp only [List.mem_cons,List.not_mem_nil,or_false] at hv; omega
end
end Ev.Ty
end
section
namespace Ev.Ty
open Go Ev
open Enc (enc)
open Sm (sm)
set_option linter.unusedSimpArgs false
set_option linter.unusedVariables false
set_option maxHeartbeats 1000000
end Ev.Ty
end
section
namespace Ev.Ty
open Go Ev
open Enc (enc)
open Sm (sm)
set_option linter.unusedSimpArgs false
set_option linter.unusedVariables false
set_option maxHeartbeats 4000000
set_option maxRecDepth 10000
theorem rewriteFault_sub {l:List Symbol} {rs:List Equation} {t u:List Int} (h:q3a ⟨l⟩ rs t=0) (hu:TermOk l u):q3a ⟨l⟩ rs u=0:=by
 unfold q3a at h ⊢
 by_cases h1:q4h ⟨l⟩ rs≠0
 · rw [if_pos h1] at h; exact absurd h h1
 · rw [if_neg h1]; exact (q47 l u).2 hu
end Ev.Ty
end
section
namespace Ev.Ty
open Go Ev
open Enc (enc)
open Sm (sm)
set_option linter.unusedSimpArgs false
set_option linter.unusedVariables false
set_option maxHeartbeats 4000000
set_option maxRecDepth 10000
theorem draws_range {z:Int} (hz:1≤z):∀ (n:Nat) (s:Int) (t:List Int),(∀ y∈t,0≤y∧y≤z - 1)→∀ y∈(draws z n s t).2,0≤y∧y≤z - 1
 | 0,s,t,h=>h
 | n+1,s,t,h=>draws_range hz n (lcg s) (t++[lcg s % z]) fun y hy=>by
   rcases List.mem_append.1 hy with hy | hy
   · exact h y hy
   · rw [List.mem_singleton.1 hy]
     have h1:=Int.emod_nonneg (lcg s) (show z≠0 by omega)
     have h2:=Int.emod_lt_of_pos (lcg s) (show 0 < z by omega)
     omega
theorem tabs_ok {z:Nat} (hz:1≤z):∀ (xs ds:List Symbol) (seed:Int) (tb:List (List Int)),0≤seed∧seed≤65520→ds.length=tb.length→(∀ x∈ds.zip tb,q4i z x=none) →
 (xs.foldl (tabStep z) (seed,tb)).2.length=(ds++xs).length∧∀ x∈(ds++xs).zip (xs.foldl (tabStep z) (seed,tb)).2,q4i z x=none
 | [],ds,seed,tb,h1,h2,h3=>by rw [List.append_nil]; exact ⟨h2.symm,h3⟩
 | x::xs,ds,seed,tb,h1,h2,h3=>by
   have hd:=draws_in z (z ^ x.arity.toNat) seed [] h1
   have hr:=draws_range (z:=(z:Int)) (by omega) (z ^ x.arity.toNat) seed [] (by simp)
   have ih:=tabs_ok hz xs (ds++[x]) (draws z (z ^ x.arity.toNat) seed []).1 (tb++[(draws z (z ^ x.arity.toNat) seed []).2]) hd.1 (by simp [h2]) (fun y hy=>by
    rw [List.zip_append h2] at hy
    rcases List.mem_append.1 hy with hy | hy
    · exact h3 y hy
    · have hy:y=(x,(draws z (z ^ x.arity.toNat) seed []).2):=List.mem_singleton.1 hy
      subst hy
      unfold q4i
      rw [if_neg (by simp [hd.2]),if_neg]
      rw [Bool.not_eq_true,List.any_eq_false]
      intro n hn
      have:=hr n hn
      unfold inR; simp; omega)
   rw [List.append_assoc] at ih
   exact ih
theorem algebraOf_ok {s:Signature} {z seed:Int} (h0:q2o s=0) (hz:1≤z∧z≤3) (hs:0≤seed∧seed≤65520):(q6r s z seed).code=0∧(q6r s z seed).algebra.size=z∧q59 s (q6r s z seed).algebra=0:=by
 have i1:inR z 1 3=true:=by unfold inR; simp; omega
 have i2:inR seed 0 65520=true:=by unfold inR; simp; omega
 unfold q6r
 rw [if_pos h0,if_pos ⟨i1,i2⟩]
 refine ⟨rfl,rfl,?_⟩
 obtain ⟨k,rfl⟩:∃ k:Nat,z=k:=⟨z.toNat,by omega⟩
 obtain ⟨t1,t2⟩:=tabs_ok (z:=k) (by omega) s.symbols [] seed [] hs rfl (by simp)
 unfold q59
 rw [if_neg (by simpa using h0),Int.toNat_natCast]
 simp only [List.nil_append] at t1 t2
 rw [if_neg (by rw [i1]; decide),if_neg (by simpa using t1),List.findSome?_eq_none_iff.2 t2]
theorem evalTerm_ok {l:List Symbol} {z:Int} {tb:List (List Int)} {vs t:List Int} (ha:q59 ⟨l⟩ ⟨z,tb⟩=0) (tt:TermOk l t) (h6:vs.length=6) (hv:q7u z vs=true) (hlow:∀ n∈t,-6≤n):q6q ⟨l⟩ ⟨z,tb⟩ vs t=⟨0,(q45 l t).eval z tb vs⟩:=by
 unfold q6q
 have hl:¬ (t.any fun n=>decide (n < -6))=true:=by
  rw [Bool.not_eq_true,List.any_eq_false]
  intro n hn
  have:=hlow n hn
  simp only [decide_eq_true_eq]; omega
 rw [if_neg (by simpa using ha),if_neg (by simpa using (q47 l t).2 tt),if_neg (by simpa using h6),if_neg (by simpa using hv),if_neg hl]
theorem evalTerm_norm {l:List Symbol} {rs:List Equation} {t:List Int} {z:Int} {tb:List (List Int)} {vs:List Int} {m:Nat} (hrf:q3a ⟨l⟩ rs t=0) (h0:(norm l rs m 0 t).code=0)
 (hx:(q6q ⟨l⟩ ⟨z,tb⟩ vs t).code=0) (hh:(allHoldR ⟨l⟩ ⟨z,tb⟩ rs).value=1):q6q ⟨l⟩ ⟨z,tb⟩ vs (norm l rs m 0 t).term=q6q ⟨l⟩ ⟨z,tb⟩ vs t:=by
 obtain ⟨ok,hn,hr,tt⟩:=q65 hrf
 have hrules:q4h ⟨l⟩ rs=0:=Classical.byContradiction fun hne=>by unfold q3a at hrf; rw [if_pos hne] at hrf; exact hne hrf
 have hru:∀ e∈rs,q83 e=true:=fun e he=>by
  unfold q4h at hrules
  rw [if_neg (by simpa using (q60 _).2 ok)] at hrules
  unfold q7m at hrules
  rw [if_neg (by simpa using q8f.2 ⟨hn,hr⟩)] at hrules
  cases hq:q83 e
  · rw [if_pos (List.any_eq_true.2 ⟨e,he,by rw [hq]; rfl⟩)] at hrules; omega
  · rfl
 have htn:=(norm_sm hr m 0 t tt).2 h0
 have ha:q59 ⟨l⟩ ⟨z,tb⟩=0:=Classical.byContradiction fun hne=>by unfold q6q at hx; rw [if_pos hne] at hx; exact hne hx
 have al:=algOk ha
 unfold q6q at hx
 rw [if_neg (by simpa using ha),if_neg (by simpa using (q47 l t).2 tt)] at hx
 by_cases h6:vs.length≠6
 · rw [if_pos h6] at hx; cases hx
 rw [if_neg h6] at hx
 by_cases hv:q7u z vs=false
 · rw [if_pos hv] at hx; cases hx
 rw [if_neg hv] at hx
 by_cases hlow:(t.any fun n=>decide (n < -6))=true
 · rw [if_pos hlow] at hx; cases hx
 have hlow':∀ n∈t,-6≤n:=fun n hn=>by
  rw [Bool.not_eq_true,List.any_eq_false] at hlow
  have:=hlow n hn
  simp only [decide_eq_true_eq] at this; omega
 have hv:q7u z vs=true:=by simpa using hv
 have h6:vs.length=6:=by omega
 have hvr:=valuesOk_iff.1 hv
 obtain ⟨k,rfl⟩:∃ k:Nat,z=k:=⟨z.toNat,by have:=al.size; omega⟩
 have hall:∀ e∈rs,holdsB l k tb e=true:=fun e he=>by
  unfold allHoldR at hh
  rw [if_neg (by simpa using ha),if_neg (by simpa using q8f.2 ⟨hn,hr⟩)] at hh
  simp only [Int.toNat_natCast] at hh
  split at hh
  · rename_i hq
    rw [Bool.not_eq_true',List.any_eq_false] at hq
    have:=hq e he
    simpa using this
  · cases hh
 obtain ⟨n1,n2⟩:=norm_value ok al (by have:=al.size; omega) h6 hvr hr hru hall m 0 t tt hlow' h0
 rw [evalTerm_ok ha htn h6 hv n2,evalTerm_ok ha tt h6 hv hlow',n1]
theorem q0l (code:List UInt8) (h:sm maxLen code):Call F.q0l [slc code] (.bool true):=by
 by_cases hbig:(code.length:Int) > 1048576
 · exact q0s rfl 0 ((q0l.ev _ _).trans (by simp only [evz,Nat.reduceLT,(q6o (code:=code)).eq,hbig]))
 have hc:code.length≤2097152:=by omega
 obtain ⟨l,rs,t,fuel,ed,hl,hrs,ht,hf1,hf2⟩:=q3v hc
 have hll:l.length≤7:=hl.1
 have s1:sm 1048576 (Signature.mk l):=q32 (by omega) hl
 have s2:sm 1048576 rs:=hrs.sm (by omega)
 have s3:∀ {u:List Int},u.length≤1001→sm 1048576 u:=fun h=>⟨by omega,fun _ _=>trivial⟩
 have eF:LIM F.q2v [.agg [slc l],slc rs,slc t,.int .i64 fuel]=some (.agg [.int .i64 (q2e ⟨l⟩ rs t fuel).code,slc (q2e ⟨l⟩ rs t fuel).term,.int .i64 (q2e ⟨l⟩ rs t fuel).steps],[]):=(q2v ⟨l⟩ rs t fuel s1 s2 (s3 ht)).eq
 have eF':LIM F.q40 [.agg [slc l],slc rs,slc t,.int .i64 fuel]=some (.agg [.int .i64 (q2e ⟨l⟩ rs t fuel).code,slc (q2e ⟨l⟩ rs t fuel).term,.int .i64 (q2e ⟨l⟩ rs t fuel).steps],[]):=(q40 ⟨l⟩ rs t fuel s1 s2 (s3 ht)).eq
 by_cases h0:(q2e ⟨l⟩ rs t fuel).code=0
 case neg =>
  refine q0s rfl 0 ((q0l.ev _ _).trans ?_)
  simp only [evz,Nat.reduceLT,(q6o (code:=code)).eq,hbig,ed.eq,eF,eF',bne_self_eq_false,ne_eq,not_true_eq_false,h0,not_false_eq_true]
 obtain ⟨hrf,hfu,hnf,htl⟩:=normalFormR_term h0
 obtain ⟨ok,hn,hr,tt⟩:=q65 hrf
 have hfu':0≤fuel∧fuel≤200:=by unfold inR at hfu; simp only [Bool.and_eq_true,decide_eq_true_eq] at hfu; omega
 obtain ⟨m,rfl⟩:∃ m:Nat,fuel=m:=⟨fuel.toNat,by omega⟩
 rw [hnf,Int.toNat_natCast] at h0 eF eF'
 obtain ⟨s,u,q1,q2,q3,_⟩:=norm_end m 0 t h0
 have hu:TermOk l u:=by have:=(norm_sm hr m 0 t tt).2 h0; rw [q2] at this; exact this
 have hul:=hu.le
 have hev:∀ (z:Int) (tb:List (List Int)) (vs:List Int),(q6q ⟨l⟩ ⟨z,tb⟩ vs t).code=0→(allHoldR ⟨l⟩ ⟨z,tb⟩ rs).value=1→q6q ⟨l⟩ ⟨z,tb⟩ vs u=q6q ⟨l⟩ ⟨z,tb⟩ vs t:=fun z tb vs h1 h2=>by
  have:=evalTerm_norm hrf h0 h1 h2
  rw [q2] at this; exact this
 have hA:q2e ⟨l⟩ rs t (m:Int)=⟨0,u,((0+s:Nat):Int)⟩:=by rw [hnf,Int.toNat_natCast,q2]
 have hD:q2e ⟨l⟩ rs u (m:Int)=⟨0,u,0⟩:=by
  unfold q2e
  rw [if_neg (by simpa using rewriteFault_sub hrf hu),if_neg (by unfold inR; simp; omega),Int.toNat_natCast,q7n q3]; rfl
 have eJ:LIM F.q4d [.agg [slc l],slc rs,slc t,slc u,.int .i64 (m:Int)]=some (.agg (enc (q93 ⟨l⟩ rs t u m)),[]):=(q4d ⟨l⟩ rs t u m s1 s2 (s3 ht) (s3 (by omega))).eq
 have hJ:q93 ⟨l⟩ rs t u m=⟨0,1⟩:=by
  unfold q93
  rw [hA,hD]; simp
 rw [hJ,q3d] at eJ
 rw [q2] at eF eF'
 generalize ((0+s:Nat):Int)=st at *
 have key:∀ (d k f:Nat),k+d=6→d < f→q0l.at0 10 f (q0l.st0 (cells code) (m:Int) (k:Nat) (cells l) (cells rs) (cells t) (cells u) 0 st)=some (.bool true,[]):=by
  intro d
  induction d with
  | zero =>
    intro k f hk hf
    obtain ⟨f,rfl⟩:∃ g,f=g+1:=⟨f - 1,by omega⟩
    have n1:¬ ((k:Nat):Int) < 6:=by omega
    simp only [q0l.next0,q0l.round0,evz,Nat.reduceLT,n1,eJ,decide_true]
  | succ d ih =>
    intro k f hk hf
    obtain ⟨f,rfl⟩:∃ g,f=g+1:=⟨f - 1,by omega⟩
    have ih:=ih (k+1) f (by omega) (by omega)
    have n1:((k:Nat):Int) < 6:=by omega
    obtain ⟨v,ev,v1,v2⟩:=q5z (code:=code) hc (k:Nat) 40 (by omega)
    have v2:=v2 (by omega)
    have w0:Int.tmod ((k:Nat):Int) 3=((k % 3:Nat):Int):=by rw [Int.tmod_eq_emod_of_nonneg (by omega)]; omega
    have w1:IntKind.wrap .i64 (1+((k % 3:Nat):Int))=1+((k % 3:Nat):Int):=q27 (by omega)
    have w2:IntKind.wrap .i64 (50*((k:Nat):Int))=50*((k:Nat):Int):=q27 (by omega)
    have w3:IntKind.wrap .i64 (50*((k:Nat):Int)+v)=50*((k:Nat):Int)+v:=q27 (by omega)
    have eA:=(q0h ⟨l⟩ (1+((k % 3:Nat):Int)) (50*((k:Nat):Int)+v) s1).eq
    have hsA:=algebraOfR_sm ⟨l⟩ (1+((k % 3:Nat):Int)) (50*((k:Nat):Int)+v) s1
    obtain ⟨a1,a2,a3⟩:=algebraOf_ok (s:=⟨l⟩) (z:=1+((k % 3:Nat):Int)) (seed:=50*((k:Nat):Int)+v) ((q60 _).2 ok) (by omega) (by omega)
    generalize hAR:q6r ⟨l⟩ (1+((k % 3:Nat):Int)) (50*((k:Nat):Int)+v)=AR at *
    obtain ⟨ac,⟨z,tb⟩⟩:=AR
    simp only at a1 a2 a3
    have hz:z=1+((k % 3:Nat):Int):=a2
    have smt:sm 4294967296 tb:=q32 (by omega) hsA
    rw [q5q] at eA
    have eAF:=(q0x l z tb (by omega) smt).eq
    rw [a3] at eAF
    have inner:∀ (d i f2:Nat) (vals:List Int),i+d=6→d < f2→vals.length=i→q0l.at2 10 (q0l.at0 10 f) f2 (q0l.st2 (cells code) (m:Int) (k:Nat) (i:Nat) (cells l) (cells rs) (cells t) (cells u) 0 st (cells tb) ac z (cells vals))=some (.bool true,[]):=by
     intro d
     induction d with
     | zero =>
       intro i f2 vals hi hf2 hvl
       obtain ⟨f2,rfl⟩:∃ g,f2=g+1:=⟨f2 - 1,by omega⟩
       have n2:¬ ((i:Nat):Int) < 6:=by omega
       have ex:=(q4r l z tb vals t (by omega) smt (by omega) (by omega)).eq
       have ey:=(q4r l z tb vals u (by omega) smt (by omega) (by omega)).eq
       have eh:=(q6d l z tb (by omega) smt rs (q32 (by omega) s2)).eq
       rw [q3d] at ex ey eh
       have hEv:=hev z tb vals
       by_cases c1:(q6q ⟨l⟩ ⟨z,tb⟩ vals t).code=0
       · by_cases c2:(allHoldR ⟨l⟩ ⟨z,tb⟩ rs).value=1
         · rw [hEv c1 c2] at ey
           simp only [q0l.next2,q0l.round2,evz,Nat.reduceLT,n2,ex,ey,eh,c1,c2,beq_self_eq_true,Bool.and_self,Bool.not_true]
           rw [q0m (by omega)]
           exact ih
         · simp only [q0l.next2,q0l.round2,evz,Nat.reduceLT,n2,ex,ey,eh,c1,c2]
           rw [q0m (by omega)]
           exact ih
       · simp only [q0l.next2,q0l.round2,evz,Nat.reduceLT,n2,ex,ey,eh,c1]
         rw [q0m (by omega)]
         exact ih
     | succ d ihi =>
       intro i f2 vals hi hf2 hvl
       obtain ⟨f2,rfl⟩:∃ g,f2=g+1:=⟨f2 - 1,by omega⟩
       have n2:((i:Nat):Int) < 6:=by omega
       obtain ⟨w,ew,_⟩:=q5z (code:=code) hc (i:Nat) z (by omega)
       have blen:Nat.ble (((cells vals).length+1)*8) (140737488355328*1)=true:=q3s (by rw [q0u,q3l]; omega)
       simp only [q0l.next2,q0l.round2,evz,Nat.reduceLT,n2,ew.eq,blen]
       rw [q0m (by omega),q2j]
       exact ihi (i+1) f2 (vals++[w]) (by omega) (by omega) (by simp [hvl])
    have:=inner 6 0 10 [] (by omega) (by omega) rfl
    simp only [q0l.next0,q0l.round0,evz,Nat.reduceLT,n1,ev.eq,w0,w1,w2,w3,eA,a1,eAF,bne_self_eq_false,ne_eq,not_true_eq_false]
    rw [a1] at this
    exact this
 refine q0s rfl 10 ((q0l.ev _ _).trans ?_)
 simp only [evz,Nat.reduceLT,(q6o (code:=code)).eq,hbig,ed.eq,eF,eF',bne_self_eq_false,ne_eq,not_true_eq_false]
 exact key 6 0 10 (by omega) (by omega)
end Ev.Ty
end
