/- Steps on the way to RowDerives: TyDerive, TyNewC, TyOrient, TyDraw8, TyDraw13, TyDraw11, TyLDerives. -/
import Derived.Test.YtgmpnljofoadnaaGreatDoorM5
set_option linter.unusedSectionVars false
set_option linter.unusedVariables false
set_option linter.unusedSimpArgs false
section
namespace Ev.Ty
open Go Ev
open Enc (enc)
open Sm (sm)
set_option linter.unusedSimpArgs false
set_option linter.unusedVariables false
theorem q54 {eqn enn:Nat} (h1:eqn≤4294967296) (h2:enn≤4294967296) (e:Entry):Call F.q54 [.int .i64 eqn,.int .i64 enn,.rref (enc e) 0] (.int .i64 (q3c eqn enn e)):=by
 obtain ⟨k,a,b,p,s,le,ri⟩:=e
 refine q0q rfl 0 ((q54.ev _ _ _ _ _ _ _ _ _ _).trans ?_)
 simp only [evz,Nat.reduceLT,(q14 _ _ _).eq,q2j (x:=(eqn:Int) - 1) (by omega),q2j (x:=(enn:Int) - 1) (by omega),q3c,two]
 cases h0:inR k 1 5 with
 | false=>simp only [evz,Nat.reduceLT,Bool.not_false]
 | true =>
   simp only [evz,Nat.reduceLT,Bool.not_true,reduceCtorEq]
   by_cases k4:k=4
   · subst k4
     cases q1:inR a 0 (enn - 1) <;> cases q2:inR b 0 (enn - 1) <;> cases q3:inR s 0 1 <;> simp [evz,Nat.reduceLT,q1,q2,q3]
   by_cases k5:k=5
   · subst k5
     by_cases s0:s=0
     · subst s0
       cases q1:inR a 0 (enn - 1) <;> cases q2:inR b 0 (enn - 1) <;> cases q3:inR 0 0 1 <;> simp [evz,Nat.reduceLT,q1,q2,q3]
     · simp [evz,Nat.reduceLT,s0]
   by_cases b0:b=0
   case neg=>simp [evz,Nat.reduceLT,k4,k5,b0]
   by_cases p0:p=0
   case neg=>simp [evz,Nat.reduceLT,k4,k5,b0,p0]
   by_cases s0:s=0
   case neg=>simp [evz,Nat.reduceLT,k4,k5,b0,p0,s0]
   subst b0 p0 s0
   by_cases k1:k=1
   · subst k1
     cases q1:inR a 0 (eqn - 1) <;> cases q3:inR 0 0 1 <;> simp [evz,Nat.reduceLT,q1,q3]
   · cases q1:inR a 0 (enn - 1) <;> cases q3:inR 0 0 1 <;> simp [evz,Nat.reduceLT,k1,k4,k5,q1,q3]
theorem EqOk.small {l:List Symbol} {e:Equation} (h:EqOk l e):sm 1048576 e:=⟨⟨by have:=h.left.le; omega,fun _ _=>trivial⟩,⟨by have:=h.right.le; omega,fun _ _=>trivial⟩⟩
theorem one_small {e:Equation} (h:sm 1048576 e):sm 1048576 [e]:=⟨by simp,fun y hy=>by rw [List.mem_singleton.1 hy]; exact h⟩
theorem ent_small {l:List Symbol} {e:Entry} (h:EqOk l (eqOf e)):sm 4294967296 e:=⟨q29 (by omega) h.small.1,q29 (by omega) h.small.2⟩
def made (e:Entry) (r:EquationResult):Entry:=if r.code≠0 then ⟨0,0,0,0,0,[],[]⟩ else ⟨e.kind,e.a,e.b,e.place,e.side,r.equation.left,r.equation.right⟩
section
variable {l:List Symbol} (ok:SigOk ⟨l⟩) (hs:sm 1048576 (Signature.mk l)) {eqs:List Equation} {ents:List Entry} (hq:∀ x∈eqs,EqOk l x) (he:∀ x∈ents,EqOk l (eqOf x)) (hql:eqs.length≤12) (hel:ents.length≤500)
include ok hs hq he hql hel
theorem q4c (e:Entry) :
 Call F.q4c [.rref [slc l] 0,slc eqs,slc ents,.rref (enc e) 0] (.tup [.agg [slc (derR l eqs ents e).equation.left,slc (derR l eqs ents e).equation.right],.int .i64 (derR l eqs ents e).code]):=by
 have hn:=(q54 (eqn:=eqs.length) (enn:=ents.length) (by omega) (by omega) e).eq
 obtain ⟨k,a,b,p,s,le,ri⟩:=e
 rw [q31] at hn
 refine q0q rfl 0 ((q4c.ev _ _ _ _ _ _ _ _ _ _ _).trans ?_)
 simp only [evz,Nat.reduceLT,hn,derR]
 by_cases h:q3c eqs.length ents.length ⟨k,a,b,p,s,le,ri⟩=0
 case neg=>simp only [h,evz,Nat.reduceLT,ne_eq,not_false_eq_true,q36]
 have nk:=numsOk h
 obtain ⟨n1,n2,n3,n4,n5,n6,n7⟩:=nk
 simp only at n1 n2 n3 n4 n5 n6 n7
 obtain ⟨a,rfl⟩:∃ a':Nat,a=a':=⟨a.toNat,by omega⟩
 simp only [h,evz,Nat.reduceLT,ne_eq,not_true_eq_false]
 by_cases k1:k=1
 · subst k1
   have ha:a < eqs.length:=by have:=n3 rfl; omega
   have hlk:eqs[a]?=some eqs[a]:=List.getElem?_eq_getElem ha
   have ho:=(hq _ (List.getElem_mem ha)).small
   have hc:Call F.q7u [.rref [slc eqs[a].left,slc eqs[a].right] 0] (.agg [slc eqs[a].left,slc eqs[a].right]):=by
    refine q0q rfl 0 ((q7u.ev _ _ _).trans ?_)
    simp only [evz,Nat.reduceLT,(q27 eqs[a].left (by have:=ho.1.1; omega)).eq,(q27 eqs[a].right (by have:=ho.2.1; omega)).eq]
   simp only [evz,Nat.reduceLT,ha,q42 (k:=2) (i:=a) rfl hlk,q4y,hc.eq,getE ha]
 have ha:a < ents.length:=by have:=n4 k1; omega
 have hla:ents[a]?=some ents[a]:=List.getElem?_eq_getElem ha
 have hea:=he _ (List.getElem_mem ha)
 simp only [evz,Nat.reduceLT,k1,ha,q42 (k:=7) (i:=a) rfl hla,(q2y ents[a] (ent_small hea)).eq,getN ha]
 by_cases k2:k=2
 · subst k2
   simp only [evz,Nat.reduceLT]
 by_cases k3:k=3
 · subst k3
   have hsx:=seen_six hea
   have:=hea.left.le
   have:=hea.right.le
   have hp:=(q13 ents[a].left ents[a].right (by have:ents[a].left.length≤24:=hea.left.le; omega) (by have:ents[a].right.length≤24:=hea.right.le; omega)).eq
   have hsx':(seenE ⟨ents[a].left,ents[a].right⟩).length≤6:=hsx
   rw [if_pos hsx',if_pos hsx'] at hp
   simp only [evz,Nat.reduceLT,hp]
   rfl
 have k45:k=4∨k=5:=by omega
 obtain ⟨b0,b1⟩:=n5 k45
 obtain ⟨b,rfl⟩:∃ b':Nat,b=b':=⟨b.toNat,by omega⟩
 have hb:b < ents.length:=by omega
 have hlb:ents[b]?=some ents[b]:=List.getElem?_eq_getElem hb
 have heb:=he _ (List.getElem_mem hb)
 simp only [evz,Nat.reduceLT,k2,k3,hb,q42 (k:=7) (i:=b) rfl hlb,(q2y ents[b] (ent_small heb)).eq,getN hb]
 by_cases k5:k=5
 · subst k5
   have hp:LIM F.q5r [.agg [slc l],.agg [slc ents[a].left,slc ents[a].right],.agg [slc ents[b].left,slc ents[b].right],.int .i64 p]=some (.agg (enc (q7y ⟨l⟩ (eqOf ents[a]) (eqOf ents[b]) p)),[]):=(q5r ⟨l⟩ (eqOf ents[a]) (eqOf ents[b]) p hs hea.small heb.small).eq
   rw [q1p] at hp
   simp only [evz,Nat.reduceLT,hp]
 simp only [evz,Nat.reduceLT,k5]
 by_cases s0:s=0
 · subst s0
   have hp:LIM F.q3k [.agg [slc l],.sl 2 [slc ents[b].left,slc ents[b].right],.int .i64 0,.int .i64 p,slc ents[a].left]=some (.agg (enc (q3r ⟨l⟩ [eqOf ents[b]] 0 p ents[a].left)),[]):=(q3k ⟨l⟩ [eqOf ents[b]] 0 p ents[a].left hs (one_small heb.small) hea.small.1).eq
   rw [q2l] at hp
   simp only [evz,Nat.reduceLT,hp]
 · have hp:LIM F.q3k [.agg [slc l],.sl 2 [slc ents[b].left,slc ents[b].right],.int .i64 0,.int .i64 p,slc ents[a].right]=some (.agg (enc (q3r ⟨l⟩ [eqOf ents[b]] 0 p ents[a].right)),[]):=(q3k ⟨l⟩ [eqOf ents[b]] 0 p ents[a].right hs (one_small heb.small) hea.small.2).eq
   rw [q2l] at hp
   simp only [evz,Nat.reduceLT,s0,hp]
theorem q4z (e:Entry) :
 Call F.q4z [.rref [slc l] 0,slc eqs,slc ents,.agg (enc e)] (.tup [.agg (enc (made e (derR l eqs ents e))),.int .i64 (derR l eqs ents e).code]):=by
 have hn:=(q4c ok hs hq he hql hel e).eq
 rw [q31] at hn
 rw [q31]
 refine q0q rfl 0 ((q4z.ev _ _ _ _ _ _ _ _ _ _ _).trans ?_)
 simp only [evz,Nat.reduceLT,hn,made]
 by_cases h:(derR l eqs ents e).code=0
 · simp only [h,evz,Nat.reduceLT,ne_eq,not_true_eq_false,q31]
 · simp only [h,evz,Nat.reduceLT,ne_eq,not_false_eq_true,q31,q36]
theorem derive5 (n:Nat) (k a b p s:Int) (le ri:List Int) (h:q3c eqs.length ents.length ⟨k,a,b,p,s,le,ri⟩=0) :
 q0g.j5 n (cells eqs) (cells ents) (cells l) k a b p s (cells le) (cells ri) 0 0 0 0 0=some (.tup [.agg (enc (made ⟨k,a,b,p,s,le,ri⟩ (derR l eqs ents ⟨k,a,b,p,s,le,ri⟩))),.int .i64 (derR l eqs ents ⟨k,a,b,p,s,le,ri⟩).code],[]):=by
 have nk:=numsOk h
 obtain ⟨n1,n2,n3,n4,n5,n6,n7⟩:=nk
 simp only at n1 n2 n3 n4 n5 n6 n7
 obtain ⟨a,rfl⟩:∃ a':Nat,a=a':=⟨a.toNat,by omega⟩
 have ho:∀ x y:List Int,x.length≤4294967296→y.length≤4294967296→Call F.q3j [.agg [slc x,slc y]] (.agg [slc x,slc y]):=fun x y h1 h2=>by
  refine q0q rfl 0 ((q3j.ev _ _ _).trans ?_)
  simp only [evz,Nat.reduceLT,(q23 x h1).eq,(q23 y h2).eq]
 simp only [q0g.j5,q0g.j6,q0g.j7,made,derR,h,evz,Nat.reduceLT,ne_eq,not_true_eq_false]
 by_cases k1:k=1
 · subst k1
   have ha:a < eqs.length:=by have:=n3 rfl; omega
   have hlk:eqs[a]?=some eqs[a]:=List.getElem?_eq_getElem ha
   have hsm:=(hq _ (List.getElem_mem ha)).small
   have hc:=(ho eqs[a].left eqs[a].right (by have:=hsm.1.1; omega) (by have:=hsm.2.1; omega)).eq
   simp only [q0g.j8,evz,Nat.reduceLT,ha,hlk,q4y,hc,getE ha,q31,not_true_eq_false]
 have ha:a < ents.length:=by have:=n4 k1; omega
 have hla:ents[a]?=some ents[a]:=List.getElem?_eq_getElem ha
 have hea:=he _ (List.getElem_mem ha)
 have hsa:=hea.small
 have la:ents[a].left.length≤24:=hea.left.le
 have lr:ents[a].right.length≤24:=hea.right.le
 have hee:=entry_eqn ents[a]
 rw [q31] at hee
 simp only [q0g.j9,evz,Nat.reduceLT,k1,getN ha]
 by_cases k2:k=2
 · subst k2
   have hc:=(ho ents[a].right ents[a].left (by omega) (by omega)).eq
   simp only [q0g.j10,evz,Nat.reduceLT,ha,hla,q31,hc,not_true_eq_false]
 simp only [q0g.j11,evz,Nat.reduceLT,k2]
 by_cases k3:k=3
 · subst k3
   have hp:=(q08 ents[a].left ents[a].right (by have:=hsa.1.1; have:ents[a].left.length≤24:=hea.left.le; omega) (by have:ents[a].right.length≤24:=hea.right.le; omega)).eq
   simp only [q0g.j12,evz,Nat.reduceLT,ha,hla,q31,hee.eq,hp,not_true_eq_false]
   rfl
 have k45:k=4∨k=5:=by omega
 obtain ⟨b0,b1⟩:=n5 k45
 obtain ⟨b,rfl⟩:∃ b':Nat,b=b':=⟨b.toNat,by omega⟩
 have hb:b < ents.length:=by omega
 have hlb:ents[b]?=some ents[b]:=List.getElem?_eq_getElem hb
 have heb:=he _ (List.getElem_mem hb)
 have hef:=entry_eqn ents[b]
 rw [q31] at hef
 simp only [q0g.j13,evz,Nat.reduceLT,k3,getN hb]
 by_cases k4:k=4
 · subst k4
   have hc:=(ho ents[a].left ents[a].right (by omega) (by omega)).eq
   simp only [q0g.j14,q0g.j15,q0g.j16,q0g.j17,q0g.j18,q0g.j19,evz,Nat.reduceLT,ha,hla,hb,hlb,q31,hee.eq,hef.eq,hc]
   rcases n6 with s0 | ⟨_,s1⟩
   · subst s0
     have hp:LIM F.q3l [.agg [slc l],.sl 2 [slc ents[b].left,slc ents[b].right],.int .i64 0,.int .i64 p,slc ents[a].left]=some (.agg (enc (q3r ⟨l⟩ [eqOf ents[b]] 0 p ents[a].left)),[]):=(q3l ⟨l⟩ [eqOf ents[b]] 0 p ents[a].left hs (one_small heb.small) hea.small.1).eq
     rw [q2l] at hp
     simp only [evz,Nat.reduceLT,hp]
     by_cases hcd:(q3r ⟨l⟩ [eqOf ents[b]] 0 p ents[a].left).code=0 <;> simp [evz,Nat.reduceLT,hcd,q36]
   · subst s1
     have hp:LIM F.q3l [.agg [slc l],.sl 2 [slc ents[b].left,slc ents[b].right],.int .i64 0,.int .i64 p,slc ents[a].right]=some (.agg (enc (q3r ⟨l⟩ [eqOf ents[b]] 0 p ents[a].right)),[]):=(q3l ⟨l⟩ [eqOf ents[b]] 0 p ents[a].right hs (one_small heb.small) hea.small.2).eq
     rw [q2l] at hp
     simp only [evz,Nat.reduceLT,hp]
     by_cases hcd:(q3r ⟨l⟩ [eqOf ents[b]] 0 p ents[a].right).code=0 <;> simp [evz,Nat.reduceLT,hcd,q36]
 have k5:k=5:=by omega
 subst k5
 have hp:LIM F.q5s [.agg [slc l],.agg [slc ents[a].left,slc ents[a].right],.agg [slc ents[b].left,slc ents[b].right],.int .i64 p]=some (.agg (enc (q7y ⟨l⟩ (eqOf ents[a]) (eqOf ents[b]) p)),[]):=(q5s ⟨l⟩ (eqOf ents[a]) (eqOf ents[b]) p hs hea.small heb.small).eq
 rw [q1p] at hp
 simp only [q0g.j20,q0g.j21,evz,Nat.reduceLT,ha,hla,hb,hlb,q31,hee.eq,hef.eq,hp]
 by_cases hcd:(q7y ⟨l⟩ (eqOf ents[a]) (eqOf ents[b]) p).code=0 <;> simp [evz,Nat.reduceLT,hcd,q36]
theorem q0g (e:Entry) :
 Call F.q0g [.agg [slc l],slc eqs,slc ents,.agg (enc e)] (.tup [.agg (enc (made e (derR l eqs ents e))),.int .i64 (derR l eqs ents e).code]):=by
 obtain ⟨k,a,b,p,s,le,ri⟩:=e
 rw [q31]
 refine q0q rfl 0 ((q0g.ev _ _ _ _ _ _ _ _ _ _ _).trans ?_)
 have good:=derive5 ok hs hq he hql hel 0 k a b p s le ri
 have bad:∀ c:Int,c≠0→q3c eqs.length ents.length ⟨k,a,b,p,s,le,ri⟩=c →
  (some (.tup [.agg [.int .i64 0,.int .i64 0,.int .i64 0,.int .i64 0,.int .i64 0,.sl 1 [],.sl 1 []],.int .i64 c],[]):R)=some (.tup [.agg (enc (made ⟨k,a,b,p,s,le,ri⟩ (derR l eqs ents ⟨k,a,b,p,s,le,ri⟩))),.int .i64 (derR l eqs ents ⟨k,a,b,p,s,le,ri⟩).code],[]):=fun c hc h=>by
  have e1:derR l eqs ents ⟨k,a,b,p,s,le,ri⟩=⟨c,⟨[],[]⟩⟩:=by unfold derR; rw [h,if_pos hc]
  rw [e1]
  simp only [made,ne_eq,hc,not_false_eq_true,if_true,q31]
  rfl
 generalize (some (T.tup [.agg (enc (made ⟨k,a,b,p,s,le,ri⟩ (derR l eqs ents ⟨k,a,b,p,s,le,ri⟩))),.int .i64 (derR l eqs ents ⟨k,a,b,p,s,le,ri⟩).code],[]):R)=G at *
 simp only [evz,Nat.reduceLT,(q2g _ _ _).eq]
 cases h0:inR k 1 5 with
 | false =>
   simp only [evz,Nat.reduceLT,Bool.not_false]
   have:=bad 1 (by decide) (by simp [q3c,h0])
   by_cases k4:k=4 <;> simp only [evz,Nat.reduceLT,k4,this]
 | true =>
   simp only [evz,Nat.reduceLT,Bool.not_true,reduceCtorEq,q0g.j0,q0g.j1,q0g.j2,q0g.j3,q0g.j4,(q2g _ _ _).eq,q2j (x:=(eqs.length:Int) - 1) (by omega),q2j (x:=(ents.length:Int) - 1) (by omega)]
   by_cases k4:k=4
   · subst k4
     cases q1:inR a 0 (ents.length - 1) with
     | false =>
       simp only [evz,Nat.reduceLT,q1,Bool.not_true,Bool.not_false]
       exact bad 3 (by decide) (by simp [q3c,two,h0,q1])
     | true =>
       cases q2:inR b 0 (ents.length - 1) with
       | false =>
         simp only [evz,Nat.reduceLT,q1,q2,Bool.not_true,Bool.not_false]
         exact bad 3 (by decide) (by simp [q3c,two,h0,q1,q2])
       | true =>
         cases q3:inR s 0 1 with
         | false =>
           simp only [evz,Nat.reduceLT,q1,q2,q3,Bool.not_true,Bool.not_false]
           exact bad 3 (by decide) (by simp [q3c,two,h0,q1,q2,q3])
         | true =>
           simp only [evz,Nat.reduceLT,q1,q2,q3,Bool.not_true,Bool.not_false]
           exact good (by simp [q3c,two,h0,q1,q2,q3,show inR 0 0 1=true from rfl])
   by_cases k5:k=5
   · subst k5
     by_cases s0:s=0
     · subst s0
       cases q1:inR a 0 (ents.length - 1) with
       | false =>
         simp only [evz,Nat.reduceLT,q1,Bool.not_true,Bool.not_false,show inR 0 0 1=true from rfl]
         exact bad 3 (by decide) (by simp [q3c,two,h0,q1])
       | true =>
         cases q2:inR b 0 (ents.length - 1) with
         | false =>
           simp only [evz,Nat.reduceLT,q1,q2,Bool.not_true,Bool.not_false,show inR 0 0 1=true from rfl]
           exact bad 3 (by decide) (by simp [q3c,two,h0,q1,q2])
         | true =>
           simp only [evz,Nat.reduceLT,q1,q2,Bool.not_true,Bool.not_false,show inR 0 0 1=true from rfl]
           exact good (by simp [q3c,two,h0,q1,q2,show inR 0 0 1=true from rfl])
     · simp only [evz,Nat.reduceLT,s0]
       exact bad 1 (by decide) (by simp [q3c,two,h0,s0])
   by_cases b0:b=0
   case neg =>
    simp only [evz,Nat.reduceLT,k4,k5,b0]
    exact bad 1 (by decide) (by simp [q3c,two,h0,k4,k5,b0])
   by_cases p0:p=0
   case neg =>
    simp only [evz,Nat.reduceLT,k4,k5,b0,p0]
    exact bad 1 (by decide) (by simp [q3c,two,h0,k4,k5,b0,p0])
   by_cases s0:s=0
   case neg =>
    simp only [evz,Nat.reduceLT,k4,k5,b0,p0,s0]
    exact bad 1 (by decide) (by simp [q3c,two,h0,k4,k5,b0,p0,s0])
   subst b0 p0 s0
   by_cases k1:k=1
   · subst k1
     cases q1:inR a 0 (eqs.length - 1) with
     | false =>
       simp only [evz,Nat.reduceLT,q1,Bool.not_true,Bool.not_false,show inR 0 0 1=true from rfl]
       exact bad 3 (by decide) (by simp [q3c,two,h0,q1])
     | true =>
       simp only [evz,Nat.reduceLT,q1,Bool.not_true,Bool.not_false,show inR 0 0 1=true from rfl]
       exact good (by simp [q3c,two,h0,q1,show inR 0 0 1=true from rfl])
   · skip
     cases q1:inR a 0 (ents.length - 1) with
     | false =>
       simp only [evz,Nat.reduceLT,q1,Bool.not_true,Bool.not_false,k1,k4,k5,show inR 0 0 1=true from rfl]
       exact bad 3 (by decide) (by simp [q3c,two,h0,k1,k4,k5,q1])
     | true =>
       simp only [evz,Nat.reduceLT,q1,Bool.not_true,Bool.not_false,k1,k4,k5,show inR 0 0 1=true from rfl]
       exact good (by simp [q3c,two,h0,k1,k4,k5,q1,show inR 0 0 1=true from rfl])
end
def entryR (e:Entry) (r:EquationResult):EntryResult:=⟨r.code,made e r⟩
noncomputable def q5n (s:Signature) (eqs:List Equation) (ents:List Entry) (k a b p d:Int):EntryResult :=
 if q2f s≠0 then ⟨q2f s,⟨0,0,0,0,0,[],[]⟩⟩ else if q49 s.symbols eqs≠0 then ⟨q49 s.symbols eqs,⟨0,0,0,0,0,[],[]⟩⟩
 else if q5v s.symbols ents≠0 then ⟨q5v s.symbols ents,⟨0,0,0,0,0,[],[]⟩⟩ else entryR ⟨k,a,b,p,d,[],[]⟩ (derR s.symbols eqs ents ⟨k,a,b,p,d,[],[]⟩)
theorem q3y (s:Signature) (eqs:List Equation) (ents:List Entry) (k a b p d:Int) (hs:sm 1048576 s) (hq:sm 1048576 eqs) (he:sm 1048576 ents) :
 Call F.q3y [.agg (enc s),slc eqs,slc ents,.int .i64 k,.int .i64 a,.int .i64 b,.int .i64 p,.int .i64 d] (.agg (enc (q5n s eqs ents k a b p d))):=by
 obtain ⟨l⟩:=s
 show Call F.q3y [.agg [slc l],slc eqs,slc ents,.int .i64 k,.int .i64 a,.int .i64 b,.int .i64 p,.int .i64 d] _
 refine q0q rfl 0 ((q3y.ev _ _ _ _ _ _ _ _ _).trans ?_)
 have hsl:l.length≤4294967296:=Nat.le_trans hs.1 (by omega)
 simp only [evz,Nat.reduceLT,(q3b l hsl eqs (q29 (by omega) hq)).eq,q5n]
 by_cases h1:q2f ⟨l⟩=0
 case neg=>simp only [h1,evz,Nat.reduceLT,ne_eq,not_false_eq_true,q46,q36]
 have ok:=(q5t _).1 h1
 by_cases h2:q49 l eqs=0
 case neg=>simp only [h1,h2,evz,Nat.reduceLT,ne_eq,not_false_eq_true,not_true_eq_false,q46,q36]
 obtain ⟨q1,q2⟩:=q76.1 h2
 simp only [h1,h2,evz,Nat.reduceLT,ne_eq,not_true_eq_false,(q1b l ok ents (q29 (by omega) he)).eq]
 by_cases h3:q5v l ents=0
 case neg=>simp only [h3,evz,Nat.reduceLT,ne_eq,not_false_eq_true,not_true_eq_false,q46,q36]
 obtain ⟨q3,q4⟩:=entsOk h3
 have hm:=(q4z ok hs q2 q4 q1 q3 ⟨k,a,b,p,d,[],[]⟩).eq
 rw [q31,q31] at hm
 simp only [q36,q38] at hm
 simp only [h3,evz,Nat.reduceLT,ne_eq,not_true_eq_false,hm,entryR,q46]
theorem q3z (s:Signature) (eqs:List Equation) (ents:List Entry) (k a b p d:Int) (hs:sm 1048576 s) (hq:sm 1048576 eqs) (he:sm 1048576 ents) :
 Call F.q3z [.agg (enc s),slc eqs,slc ents,.int .i64 k,.int .i64 a,.int .i64 b,.int .i64 p,.int .i64 d] (.agg (enc (q5n s eqs ents k a b p d))):=by
 obtain ⟨l⟩:=s
 show Call F.q3z [.agg [slc l],slc eqs,slc ents,.int .i64 k,.int .i64 a,.int .i64 b,.int .i64 p,.int .i64 d] _
 refine q0q rfl 0 ((q3z.ev _ _ _ _ _ _ _ _ _).trans ?_)
 have hsl:l.length≤4294967296:=Nat.le_trans hs.1 (by omega)
 obtain ⟨c,hcall,hcode⟩:=q0r l hsl ents (q29 (by omega) he)
 simp only [evz,Nat.reduceLT,(q0i l hsl eqs (q29 (by omega) hq)).eq,hcall.eq,(firstCode2 _ _).eq,q5n]
 by_cases h1:q2f ⟨l⟩=0
 case neg=>simp only [h1,evz,Nat.reduceLT,ne_eq,not_false_eq_true,q46,q36]
 have ok:=(q5t _).1 h1
 have hcc:=hcode h1
 subst hcc
 by_cases h2:q49 l eqs=0
 case neg=>simp only [h1,h2,evz,Nat.reduceLT,ne_eq,not_false_eq_true,not_true_eq_false,q46,q36]
 obtain ⟨q1,q2⟩:=q76.1 h2
 by_cases h3:q5v l ents=0
 case neg=>simp only [h1,h2,h3,evz,Nat.reduceLT,ne_eq,not_false_eq_true,not_true_eq_false,q46,q36]
 obtain ⟨q3,q4⟩:=entsOk h3
 have hm:=(q0g ok hs q2 q4 q1 q3 ⟨k,a,b,p,d,[],[]⟩).eq
 rw [q31,q31] at hm
 simp only [q36,q38] at hm
 simp only [h1,h2,h3,evz,Nat.reduceLT,ne_eq,not_true_eq_false,hm,entryR,q46]
noncomputable def chkN (l:List Symbol) (eqs:List Equation) (ents:List Entry):Nat→Nat→Int
 | 0,_=>0
 | n+1,k=>if (derR l eqs (ents.take k) (ents.getD k ⟨0,0,0,0,0,[],[]⟩)).code≠0 then (derR l eqs (ents.take k) (ents.getD k ⟨0,0,0,0,0,[],[]⟩)).code
   else if (derR l eqs (ents.take k) (ents.getD k ⟨0,0,0,0,0,[],[]⟩)).equation=eqOf (ents.getD k ⟨0,0,0,0,0,[],[]⟩) then chkN l eqs ents n (k+1) else 8
noncomputable def checkR (s:Signature) (eqs:List Equation) (ents:List Entry):Int :=
 if q2f s≠0 then q2f s else if q49 s.symbols eqs≠0 then q49 s.symbols eqs else if 500 < ents.length then 2 else chkN s.symbols eqs ents ents.length 0
theorem take_getE {ents:List Entry} {k:Nat} (h:k < ents.length):ents.take (k+1)=ents.take k++[ents[k]]:=by
 rw [List.take_add_one,List.getElem?_eq_getElem h]; rfl
theorem chkN_ok {l:List Symbol} (ok:SigOk ⟨l⟩) {eqs:List Equation} (hq:∀ x∈eqs,EqOk l x) {ents:List Entry}:∀ {n k:Nat},k+n=ents.length→(∀ x∈ents.take k,EqOk l (eqOf x))→chkN l eqs ents n k=0→∀ x∈ents,EqOk l (eqOf x)
 | 0,k,hk,h,_=>by rw [List.take_of_length_le (by omega)] at h; exact h
 | n+1,k,hk,h,h0=>by
   have hlt:k < ents.length:=by omega
   rw [chkN,getN hlt] at h0
   by_cases c:(derR l eqs (ents.take k) ents[k]).code=0
   · rw [if_neg (by simpa using c)] at h0
     by_cases e:(derR l eqs (ents.take k) ents[k]).equation=eqOf ents[k]
     · rw [if_pos e] at h0
       refine chkN_ok ok hq (by omega) (fun x hx => ?_) h0
       rw [take_getE hlt] at hx
       rcases List.mem_append.1 hx with hx | hx
       · exact h x hx
       · rw [List.mem_singleton.1 hx,← e]
         exact derR_ok ok hq h c
     · rw [if_neg e] at h0; cases h0
   · rw [if_pos c] at h0; exact absurd h0 c
theorem checkR_ok {l:List Symbol} {eqs:List Equation} {ents:List Entry} (h:checkR ⟨l⟩ eqs ents=0):SigOk ⟨l⟩∧eqs.length≤12∧(∀ x∈eqs,EqOk l x)∧ents.length≤500∧∀ x∈ents,EqOk l (eqOf x):=by
 unfold checkR at h
 by_cases h1:q2f ⟨l⟩=0
 · rw [if_neg (by simpa using h1)] at h
   by_cases h2:q49 l eqs=0
   · rw [if_neg (by simpa using h2)] at h
     by_cases h3:500 < ents.length
     · rw [if_pos h3] at h; cases h
     · rw [if_neg h3] at h
       have ok:=(q5t _).1 h1
       obtain ⟨q1,q2⟩:=q76.1 h2
       exact ⟨ok,q1,q2,by omega,chkN_ok ok q2 (by omega) (by simp) h⟩
   · rw [if_pos h2] at h; exact absurd h h2
 · rw [if_pos h1] at h; exact absurd h h1
theorem win_take {ents:List Entry} {k:Nat}:((cells ents).take (k*7)).drop (0*7)=cells (ents.take k):=by rw [Nat.zero_mul,List.drop_zero,q7b ents 7 k rfl]
theorem win_guard {k n:Nat} (h:k≤n):(decide (0≤(0:Int))&&decide ((0:Int)≤(k:Nat))&&decide ((k:Int)≤(n:Nat)))=true:=by
 simp; omega
theorem eqn_iff {e:Entry} {q:Equation} (h:q.left=e.left):q=eqOf e↔q.right=e.right:=by
 unfold eqOf
 obtain ⟨a,b⟩:=q
 simp only at h
 subst h
 simp
section
variable {l:List Symbol} (ok:SigOk ⟨l⟩) (hs:sm 1048576 (Signature.mk l)) {eqs:List Equation} (hq:∀ x∈eqs,EqOk l x) (hql:eqs.length≤12) {ents:List Entry} (hel:ents.length≤500)
include ok hs hq hql hel
theorem spec_check {N:Nat} :
 ∀ n k f,k+n=ents.length→n < f→(∀ x∈ents.take k,EqOk l (eqOf x))→q1h.at0 N f (q1h.st0 (cells l) (cells eqs) (cells ents) (k:Nat))=some (.int .i64 (chkN l eqs ents n k),[])
 | n,k,0,hk,hf,hok=>by omega
 | 0,k,f+1,hk,hf,hok=>by
   simp only [q1h.next0,q1h.round0,evz,Nat.reduceLT,show ¬ k < ents.length by omega,chkN]
 | n+1,k,f+1,hk,hf,hok=>by
   have hlt:k < ents.length:=by omega
   have hlk:ents[k]?=some ents[k]:=List.getElem?_eq_getElem hlt
   have hd:=(q4c ok hs hq hok hql (by rw [List.length_take]; omega) ents[k]).eq
   simp only [q1h.next0,q1h.round0,evz,Nat.reduceLT,hlt,hlk,win_take,q42 (k:=7) (i:=k) rfl hlk,q31] at hd ⊢
   rw [q1m (win_guard (Nat.le_of_lt hlt))]
   simp only [evz,Nat.reduceLT,hd]
   rw [chkN,getN hlt]
   by_cases c:(derR l eqs (ents.take k) ents[k]).code=0
   case neg=>simp only [c,evz,Nat.reduceLT,ne_eq,not_false_eq_true]
   have hdo:=derR_ok ok hq hok c
   simp only [c,evz,Nat.reduceLT,ne_eq,not_true_eq_false,(q1l _ _ (q29 (by omega) hdo.small.1)).eq,(q1l _ _ (q29 (by omega) hdo.small.2)).eq]
   by_cases c1:(derR l eqs (ents.take k) ents[k]).equation.left=ents[k].left
   case neg =>
    have c2:¬ (derR l eqs (ents.take k) ents[k]).equation=eqOf ents[k]:=fun h=>c1 (by rw [h]; rfl)
    simp only [c1,c2,evz,Nat.reduceLT,decide_false,Bool.not_false]
   by_cases c2:(derR l eqs (ents.take k) ents[k]).equation.right=ents[k].right
   case neg =>
    have c3:¬ (derR l eqs (ents.take k) ents[k]).equation=eqOf ents[k]:=fun h=>c2 ((eqn_iff c1).1 h)
    simp only [c1,c2,c3,evz,Nat.reduceLT,decide_false,decide_true,Bool.not_false,Bool.not_true]
   rw [if_pos ((eqn_iff c1).2 c2)]
   simp only [c1,c2,evz,Nat.reduceLT,decide_true,Bool.not_true]
   rw [q0n (by omega)]
   refine spec_check n (k+1) f (by omega) (by omega) (fun x hx => ?_)
   rw [take_getE hlt] at hx
   rcases List.mem_append.1 hx with hx | hx
   · exact hok x hx
   · rw [List.mem_singleton.1 hx,← (eqn_iff c1).2 c2]
     exact hdo
theorem impl_check {N:Nat} :
 ∀ n k f,k+n=ents.length→n < f→(∀ x∈ents.take k,EqOk l (eqOf x))→q0l.at0 N f (q0l.st0 (cells eqs) (cells ents) (cells ents) ents.length (k:Nat) (cells l))=some (.int .i64 (chkN l eqs ents n k),[])
 | n,k,0,hk,hf,hok=>by omega
 | 0,k,f+1,hk,hf,hok=>by
   simp only [q0l.next0,q0l.round0,evz,Nat.reduceLT,show ¬ k < ents.length by omega,chkN]
 | n+1,k,f+1,hk,hf,hok=>by
   have hlt:k < ents.length:=by omega
   have hlk:ents[k]?=some ents[k]:=List.getElem?_eq_getElem hlt
   have hd:=(q0g ok hs hq hok hql (by rw [List.length_take]; omega) ⟨ents[k].kind,ents[k].a,ents[k].b,ents[k].place,ents[k].side,[],[]⟩).eq
   have e0:derR l eqs (ents.take k) ⟨ents[k].kind,ents[k].a,ents[k].b,ents[k].place,ents[k].side,[],[]⟩=derR l eqs (ents.take k) ents[k]:=rfl
   rw [e0] at hd
   simp only [q0l.next0,q0l.round0,evz,Nat.reduceLT,hlt,hlk,win_take,q31,q36] at hd ⊢
   rw [q1m (win_guard (Nat.le_of_lt hlt))]
   simp only [evz,Nat.reduceLT,hd]
   rw [chkN,getN hlt]
   by_cases c:(derR l eqs (ents.take k) ents[k]).code=0
   case neg=>simp only [c,evz,Nat.reduceLT,ne_eq,not_false_eq_true]
   have hdo:=derR_ok ok hq hok c
   have h1:=entry_eqn (made ⟨ents[k].kind,ents[k].a,ents[k].b,ents[k].place,ents[k].side,[],[]⟩ (derR l eqs (ents.take k) ents[k]))
   have h2:=entry_eqn ents[k]
   rw [q31] at h1 h2
   have e1:(made ⟨ents[k].kind,ents[k].a,ents[k].b,ents[k].place,ents[k].side,[],[]⟩ (derR l eqs (ents.take k) ents[k])).left=(derR l eqs (ents.take k) ents[k]).equation.left:=by unfold made; rw [if_neg (by simpa using c)]
   have e2:(made ⟨ents[k].kind,ents[k].a,ents[k].b,ents[k].place,ents[k].side,[],[]⟩ (derR l eqs (ents.take k) ents[k])).right=(derR l eqs (ents.take k) ents[k]).equation.right:=by unfold made; rw [if_neg (by simpa using c)]
   have h3:=q3n (derR l eqs (ents.take k) ents[k]).equation.left (derR l eqs (ents.take k) ents[k]).equation.right ents[k].left ents[k].right (q29 (by omega) hdo.small)
   rw [e1,e2] at h1
   simp only [c,evz,Nat.reduceLT,ne_eq,not_true_eq_false,e1,e2,h1.eq,h2.eq,h3.eq]
   by_cases c1:(derR l eqs (ents.take k) ents[k]).equation=eqOf ents[k]
   case neg =>
    have c2:¬ (Equation.mk (derR l eqs (ents.take k) ents[k]).equation.left (derR l eqs (ents.take k) ents[k]).equation.right)=Equation.mk ents[k].left ents[k].right:=c1
    simp only [c1,c2,evz,Nat.reduceLT,decide_false,Bool.not_false]
   have c2:(Equation.mk (derR l eqs (ents.take k) ents[k]).equation.left (derR l eqs (ents.take k) ents[k]).equation.right)=Equation.mk ents[k].left ents[k].right:=c1
   rw [if_pos c1]
   simp only [c2,evz,Nat.reduceLT,decide_true,Bool.not_true]
   rw [q0n (by omega)]
   refine impl_check n (k+1) f (by omega) (by omega) (fun x hx => ?_)
   rw [take_getE hlt] at hx
   rcases List.mem_append.1 hx with hx | hx
   · exact hok x hx
   · rw [List.mem_singleton.1 hx,← c1]
     exact hdo
end
theorem q33 (s:Signature) (eqs:List Equation) (ents:List Entry) (hs:sm 1048576 s) (hq:sm 1048576 eqs) (he:sm 1048576 ents) :
 Call F.q33 [.agg (enc s),slc eqs,slc ents] (.int .i64 (checkR s eqs ents)):=by
 obtain ⟨l⟩:=s
 show Call F.q33 [.agg [slc l],slc eqs,slc ents] _
 refine q0q rfl 0 ((q33.ev _ _ _ _).trans ?_)
 have hsl:l.length≤4294967296:=Nat.le_trans hs.1 (by omega)
 simp only [evz,Nat.reduceLT,(q3b l hsl eqs (q29 (by omega) hq)).eq,checkR]
 by_cases h1:q2f ⟨l⟩=0
 case neg=>simp only [h1,evz,Nat.reduceLT,ne_eq,not_false_eq_true]
 have ok:=(q5t _).1 h1
 by_cases h2:q49 l eqs=0
 case neg=>simp only [h1,h2,evz,Nat.reduceLT,ne_eq,not_false_eq_true,not_true_eq_false]
 obtain ⟨q1,q2⟩:=q76.1 h2
 have hc:Call F.q1h [.rref [slc l] 0,slc eqs,slc ents] (.int .i64 (if 500 < ents.length then 2 else chkN l eqs ents ents.length 0)):=by
  refine q0q rfl (ents.length+1) ((q1h.ev _ _ _ _).trans ?_)
  simp only [evz,Nat.reduceLT,gt_iff_lt]
  by_cases h3:500 < ents.length
  · have h3':(500:Int) < ents.length:=by omega
    simp only [h3,h3',evz,Nat.reduceLT]
  · have h3':¬ (500:Int) < ents.length:=by omega
    simp only [h3,h3',evz,Nat.reduceLT]
    exact spec_check ok hs q2 q1 (by omega) ents.length 0 _ (by omega) (by omega) (by simp)
 simp only [h1,h2,evz,Nat.reduceLT,ne_eq,not_true_eq_false,hc.eq]
theorem q0l (s:Signature) (eqs:List Equation) (ents:List Entry) (hs:sm 1048576 s) (hq:sm 1048576 eqs) (he:sm 1048576 ents) :
 Call F.q0l [.agg (enc s),slc eqs,slc ents] (.int .i64 (checkR s eqs ents)):=by
 obtain ⟨l⟩:=s
 show Call F.q0l [.agg [slc l],slc eqs,slc ents] _
 refine q0q rfl (ents.length+1) ((q0l.ev _ _ _ _).trans ?_)
 have hsl:l.length≤4294967296:=Nat.le_trans hs.1 (by omega)
 simp only [evz,Nat.reduceLT,(q0i l hsl eqs (q29 (by omega) hq)).eq,checkR,gt_iff_lt]
 by_cases h1:q2f ⟨l⟩=0
 case neg=>simp only [h1,evz,Nat.reduceLT,ne_eq,not_false_eq_true]
 have ok:=(q5t _).1 h1
 by_cases h2:q49 l eqs=0
 case neg=>simp only [h1,h2,evz,Nat.reduceLT,ne_eq,not_false_eq_true,not_true_eq_false]
 obtain ⟨q1,q2⟩:=q76.1 h2
 by_cases h3:500 < ents.length
 · have h3':(500:Int) < ents.length:=by omega
   simp only [h1,h2,h3,h3',evz,Nat.reduceLT,ne_eq,not_true_eq_false]
 · have h3':¬ (500:Int) < ents.length:=by omega
   simp only [h1,h2,h3,h3',evz,Nat.reduceLT,ne_eq,not_true_eq_false]
   exact impl_check ok hs q2 q1 (by omega) ents.length 0 _ (by omega) (by omega) (by simp)
end Ev.Ty
end
section
namespace Ev.Ty
open Go Ev
open Enc (enc)
open Sm (sm)
set_option linter.unusedSimpArgs false
set_option linter.unusedVariables false
section
variable {l:List Symbol} (ok:SigOk ⟨l⟩) (hs:sm 1048576 (Signature.mk l)) {eqs:List Equation} (hqs:sm 1048576 eqs) (hq:∀ x∈eqs,EqOk l x) (hql:eqs.length≤12) {o:List Int} (ho:sm 1048576 o)
include ok hs hqs hq hql ho
end
end Ev.Ty
end
section
namespace Ev.Ty
open Go Ev
open Enc (enc)
open Sm (sm)
set_option linter.unusedSimpArgs false
set_option linter.unusedVariables false
set_option maxHeartbeats 2000000
set_option maxRecDepth 10000
def EqS (n:Nat) (es:List Equation):Prop:=es.length≤n∧∀ e∈es,e.left.length≤1001∧e.right.length≤1001
theorem EqS.sm {n:Nat} {es:List Equation} (h:EqS n es) (hn:n≤1001):Sm.sm 1048576 es:=⟨by have:=h.1; omega,fun e he=>⟨⟨by have:=(h.2 e he).1; omega,fun _ _=>trivial⟩,⟨by have:=(h.2 e he).2; omega,fun _ _=>trivial⟩⟩⟩
theorem EqS.snoc {n:Nat} {es:List Equation} (h:EqS n es) {a b:List Int} (ha:a.length≤1001) (hb:b.length≤1001):EqS (n+1) (es++[⟨a,b⟩]):=⟨by have:=h.1; simp; omega,fun e he=>by
 rcases List.mem_append.1 he with h1 | h1
 · exact h.2 e h1
 · rw [List.mem_singleton.1 h1]; exact ⟨ha,hb⟩⟩
theorem cells_eq (es:List Equation) (a b:List Int):cells es++[slc a,slc b]=cells (es++[⟨a,b⟩]):=by rw [q2m]; rfl
section
variable {code:List UInt8} (hc:code.length≤2097152)
include hc
end
end Ev.Ty
end
section
namespace Ev.Ty
open Go Ev
open Enc (enc)
open Sm (sm)
set_option linter.unusedSimpArgs false
set_option linter.unusedVariables false
set_option maxHeartbeats 4000000
set_option maxRecDepth 10000
section
variable {code:List UInt8} (hc:code.length≤2097152)
include hc
end
end Ev.Ty
end
section
namespace Ev.Ty
open Go Ev
open Enc (enc)
open Sm (sm)
set_option linter.unusedSimpArgs false
set_option linter.unusedVariables false
set_option maxHeartbeats 4000000
set_option maxRecDepth 10000
structure BindM (vs:List Int) (ts:List (List Int)):Prop where
 vlen:vs.length≤40
 tlen:ts.length≤40
 size:∀ t∈ts,t.length≤1001
theorem BindS.m {vs:List Int} {ts:List (List Int)} (h:BindS vs ts):BindM vs ts:=⟨by have:=h.vlen; omega,by have:=h.tlen; omega,h.size⟩
section
variable {code:List UInt8} (hc:code.length≤2097152)
include hc
theorem q0v {l:List Symbol} (ok:SigOk ⟨l⟩) (p n:Int) (hn:0≤n∧n≤12) (hp:0≤p∧p≤1099400000000) :
 Drawn code p 100000 (fun x=>∃ es,x=slc es∧EqS n.toNat es∧∀ e∈es,EqOk l e) (LIM F.q0v [.rref [slc code,.int .i64 p] 0,.rref [slc l] 0,.int .i64 n]):=by
 refine q7j rfl 20 ?_
 rw [show callK prog A H LIM 20 F.q0v [.rref [slc code,.int .i64 p] 0,.rref [slc l] 0,.int .i64 n]=_ from q0v.ev _ _ _ _ _]
 rw [show IntKind.wrap .i64 (n+1)=n+1 from q2j (by omega)]
 refine q6h hc (by omega) fun v h1 h2 => ?_
 have h2:=h2 (by omega)
 simp only [evz,Nat.reduceLT]
 refine q75 (σ:=Int × Int × List Equation) (S:=fun m s=>q0v.at0 20 m (q0v.st0 (cells l) s.1 (cells code) s.2.1 (cells s.2.2))) (fun s=>0≤s.1∧s.1≤n∧p≤s.2.1∧s.2.1≤p+1+(n - s.1)*6300∧EqS (n - s.1).toNat s.2.2∧∀ e∈s.2.2,EqOk l e) (fun s=>s.1.toNat) (fun m s hs => ?_) _ (v,p+1,[]) ⟨h1,by simp only; omega,by simp only; omega,by simp only; omega,⟨by simp,by simp⟩,by simp⟩ (by simp only; omega)
 obtain ⟨k,q,es⟩:=s
 obtain ⟨g1,g2,g3,g4,g5,g6⟩:=hs
 simp only at g1 g2 g3 g4 g5 g6 ⊢
 have hes:=g5.1
 by_cases hk:k > 0
 case neg =>
  left
  simp only [q0v.next0,q0v.round0,evz,Nat.reduceLT,hk]
  exact q4g (by omega) ⟨es,rfl,⟨by omega,g5.2⟩,g6⟩
 right
 have wk:IntKind.wrap .i64 (k - 1)=k - 1:=q2j (by omega)
 obtain ⟨_,q2,e1,c1,c2,a,b,rfl,heq⟩:=q4n hc ok q (by omega)
 have hal:=heq.left.le
 have hbl:=heq.right.le
 simp only at hal hbl
 refine ⟨(k - 1,q2,es++[⟨a,b⟩]),?_,⟨by simp only; omega,by simp only; omega,by simp only; omega,by simp only; omega,?_,fun x hx => ?_⟩,by simp only; omega⟩
 · simp only [q0v.next0,q0v.round0,evz,Nat.reduceLT,hk,wk,e1]
   rw [q1m (q3i (by rw [q0j]; simp only [q6a]; omega)),cells_eq]
 · have:=g5.snoc (a:=a) (b:=b) (by omega) (by omega)
   exact ⟨by have:=this.1; simp only; omega,this.2⟩
 · rcases List.mem_append.1 hx with h | h
   · exact g6 x h
   · rw [List.mem_singleton.1 h]; exact heq
theorem q0x {l:List Symbol} (hl:l.length≤1000) (p:Int) (hp:0≤p∧p≤1099300000000) :
 Drawn code p 200000 (fun x=>∃ es,x=slc es∧EqS 13 es) (LIM F.q0x [.rref [slc code,.int .i64 p] 0,.rref [slc l] 0]):=by
 refine q7j rfl 20 ?_
 rw [show callK prog A H LIM 20 F.q0x [.rref [slc code,.int .i64 p] 0,.rref [slc l] 0]=_ from q0x.ev _ _ _ _]
 simp only [evz,Nat.reduceLT,(q00 l (by omega)).eq]
 by_cases h0:q2f ⟨l⟩=0
 case neg =>
  simp only [h0,evz,Nat.reduceLT,ne_eq,not_false_eq_true]
  exact q4g (by omega) ⟨[],rfl,by simp,by simp⟩
 have ok:=q89 h0
 simp only [h0,evz,Nat.reduceLT,ne_eq,not_true_eq_false]
 refine q8c hc (by omega) fun b => ?_
 simp only [evz,Nat.reduceLT]
 cases b with
 | false =>
   simp only [evz,Nat.reduceLT]
   refine q65 (q0v hc ok _ 4 (by omega) (by omega)) ?_
   rintro _ p1 a1 b1 ⟨es,rfl,hes,_⟩
   have hes:EqS 4 es:=hes
   have hel:=hes.1
   simp only [evz,Nat.reduceLT]
   refine q8c hc (by omega) fun b => ?_
   simp only [evz,Nat.reduceLT]
   cases b with
   | false=>simp only [evz,Nat.reduceLT]; exact q4g (by omega) ⟨es,rfl,by omega,hes.2⟩
   | true =>
     simp only [evz,Nat.reduceLT]
     refine q65 (q3h hc (l:=l) hl _ (by omega)) ?_
     rintro _ p2 a2 b2 ⟨a,b,rfl,ha,hb⟩
     simp only [evz,Nat.reduceLT]
     rw [q1m (q3i (by rw [q0j]; simp only [q6a]; omega)),cells_eq]
     have:=hes.snoc ha hb
     exact q4g (by omega) ⟨_,rfl,by have:=this.1; omega,this.2⟩
 | true =>
   simp only [evz,Nat.reduceLT]
   refine pick_s hc [12,13] rfl (by simp) (by omega) fun v hv => ?_
   have hv':12≤v∧v≤13:=by
    simp only [List.mem_cons,List.not_mem_nil,or_false] at hv; omega
   simp only [evz,Nat.reduceLT]
   refine q75 (σ:=Int × Int × List Equation) (S:=fun m s=>q0x.at0 20 m (q0x.st0 (cells l) s.1 (cells code) s.2.1 (cells s.2.2))) (fun s=>0≤s.1∧s.1≤13∧p≤s.2.1∧s.2.1≤p+2+(13 - s.1)*6300∧EqS (13 - s.1).toNat s.2.2) (fun s=>s.1.toNat) (fun m s hs => ?_) _ (v,p+1+1,[]) ⟨by simp only; omega,by simp only; omega,by simp only; omega,by simp only; omega,⟨by simp,by simp⟩⟩ (by simp only; omega)
   obtain ⟨k,q,es⟩:=s
   obtain ⟨g1,g2,g3,g4,g5⟩:=hs
   simp only at g1 g2 g3 g4 g5 ⊢
   have hes:=g5.1
   by_cases hk:k > 0
   case neg =>
    left
    simp only [q0x.next0,q0x.round0,evz,Nat.reduceLT,hk]
    exact q4g (by omega) ⟨es,rfl,by omega,g5.2⟩
   right
   have wk:IntKind.wrap .i64 (k - 1)=k - 1:=q2j (by omega)
   obtain ⟨_,q2,e1,c1,c2,a,b,rfl,heq⟩:=q4n hc ok q (by omega)
   have hal:=heq.left.le
   have hbl:=heq.right.le
   simp only at hal hbl
   refine ⟨(k - 1,q2,es++[⟨a,b⟩]),?_,⟨by simp only; omega,by simp only; omega,by simp only; omega,by simp only; omega,?_⟩,by simp only; omega⟩
   · simp only [q0x.next0,q0x.round0,evz,Nat.reduceLT,hk,wk,e1]
     rw [q1m (q3i (by rw [q0j]; simp only [q6a]; omega)),cells_eq]
   · have:=g5.snoc (a:=a) (b:=b) (by omega) (by omega)
     exact ⟨by have:=this.1; simp only; omega,this.2⟩
end
end Ev.Ty
end
section
namespace Ev.Ty
open Go Ev
open Enc (enc)
open Sm (sm)
set_option linter.unusedSimpArgs false
set_option linter.unusedVariables false
set_option maxHeartbeats 4000000
set_option maxRecDepth 10000
section
variable {code:List UInt8} (hc:code.length≤2097152)
include hc
theorem q4v (p:Int) (hp:0≤p∧p≤1099400000000) (eqs:List Equation) (ents:List Entry) (h1:eqs.length≤4294967296) (h2:ents.length≤4294967296) :
 Drawn code p 6 (fun x=>∃ (k a b q s:Int),x = .agg [.int .i64 k,.int .i64 a,.int .i64 b,.int .i64 q,.int .i64 s,slc ([]:List Int),slc ([]:List Int)]) (LIM F.q4v [.rref [slc code,.int .i64 p] 0,slc eqs,slc ents]):=by
 refine q7j rfl 0 ?_
 rw [show callK prog A H LIM 0 F.q4v [.rref [slc code,.int .i64 p] 0,slc eqs,slc ents]=_ from q4v.ev _ _ _ _ _]
 have leaf:∀ (k a b q s p2:Int),p≤p2∧p2≤p+6→Drawn code p 6 (fun x=>∃ (k a b q s:Int),x = .agg [.int .i64 k,.int .i64 a,.int .i64 b,.int .i64 q,.int .i64 s,slc ([]:List Int),slc ([]:List Int)]) (some (.agg [.int .i64 k,.int .i64 a,.int .i64 b,.int .i64 q,.int .i64 s,.sl 1 [],.sl 1 []],[.agg [slc code,.int .i64 p2]])):=fun k a b q s p2 h=>q4g h ⟨k,a,b,q,s,rfl⟩
 simp only [evz,Nat.reduceLT]
 split
 · refine q6h hc (by omega) fun v _ _ => ?_
   simp only [evz,Nat.reduceLT]
   exact leaf _ _ _ _ _ _ (by omega)
 rename_i hne
 refine q8c hc (by omega) fun b => ?_
 simp only [evz,Nat.reduceLT]
 cases b with
 | true =>
   simp only [evz,Nat.reduceLT]
   refine q6h hc (by omega) fun v _ _ => ?_
   simp only [evz,Nat.reduceLT]
   exact leaf _ _ _ _ _ _ (by omega)
 | false =>
   simp only [evz,Nat.reduceLT]
   refine q6h hc (by omega) fun a ha1 ha2 => ?_
   simp only [evz,Nat.reduceLT]
   refine q6h hc (by omega) fun b hb1 hb2 => ?_
   simp only [evz,Nat.reduceLT]
   refine q6h hc (by omega) fun c hc1 hc2 => ?_
   have ha2:=ha2 (by omega)
   obtain ⟨i,rfl⟩:∃ i:Nat,a=i:=⟨a.toNat,by omega⟩
   have hi:i < ents.length:=by omega
   have ei:ents[i]?=some ents[i]:=List.getElem?_eq_getElem hi
   simp only [evz,Nat.reduceLT,hi,ei,q31]
   split
   · exact leaf _ _ _ _ _ _ (by omega)
   split
   · exact leaf _ _ _ _ _ _ (by omega)
   split
   · refine q6h hc (by omega) fun s _ _ => ?_
     simp only [evz,Nat.reduceLT]
     split
     · refine q6h hc (by omega) fun v _ _ => ?_
       simp only [evz,Nat.reduceLT]
       exact leaf _ _ _ _ _ _ (by omega)
     · refine q6h hc (by omega) fun v _ _ => ?_
       simp only [evz,Nat.reduceLT]
       exact leaf _ _ _ _ _ _ (by omega)
   split
   · refine q6h hc (by omega) fun s _ _ => ?_
     simp only [evz,Nat.reduceLT]
     split
     · refine q6h hc (by omega) fun v _ _ => ?_
       simp only [evz,Nat.reduceLT]
       exact leaf _ _ _ _ _ _ (by omega)
     · refine q6h hc (by omega) fun v _ _ => ?_
       simp only [evz,Nat.reduceLT]
       exact leaf _ _ _ _ _ _ (by omega)
   · refine q6h hc (by omega) fun v _ _ => ?_
     simp only [evz,Nat.reduceLT]
     exact leaf _ _ _ _ _ _ (by omega)
omit hc in
theorem cells_ent (es:List Entry) (k a b p s:Int) (l r:List Int):cells es++[.int .i64 k,.int .i64 a,.int .i64 b,.int .i64 p,.int .i64 s,slc l,slc r]=cells (es++[⟨k,a,b,p,s,l,r⟩]):=by rw [q2m]; rfl
theorem q1a (p n:Int) (hn:1≤n∧n≤60) (hp:0≤p∧p≤1099300000000) :
 Drawn code p 101000 (fun x=>∃ (l:List Symbol) (eqs:List Equation) (ents:List Entry),x = .tup [.agg [slc l],slc eqs,slc ents]∧SigOk ⟨l⟩∧eqs.length≤4∧(∀ e∈eqs,EqOk l e)∧(ents.length:Int)≤n∧∀ x∈ents,EqOk l (eqOf x)) (LIM F.q1a [.rref [slc code,.int .i64 p] 0,.int .i64 n]):=by
 refine q7j rfl 70 ?_
 rw [show callK prog A H LIM 70 F.q1a [.rref [slc code,.int .i64 p] 0,.int .i64 n]=_ from q1a.ev _ _ _ _]
 refine q65 (q6x hc p (by omega)) ?_
 rintro _ p1 a1 b1 ⟨l,rfl,ok⟩
 have hll:l.length≤6:=ok.le
 have hsm:sm 1048576 (Signature.mk l):=q29 (by omega) ok.small
 simp only [evz,Nat.reduceLT]
 refine q65 (q0v hc ok p1 4 (by omega) (by omega)) ?_
 rintro _ p2 a2 b2 ⟨eqs,rfl,hes,hq⟩
 have hql:eqs.length≤4:=hes.1
 simp only [evz,Nat.reduceLT]
 split
 · exact q4g (by omega) ⟨l,eqs,[],rfl,ok,hql,hq,by simp; omega,by simp⟩
 refine q6h hc (by omega) fun v h1 h2 => ?_
 have h2:=h2 (by omega)
 simp only [evz,Nat.reduceLT]
 refine q75 (σ:=Int × Int × List Entry) (S:=fun m s=>q1a.at0 70 m (q1a.st0 s.1 (cells code) s.2.1 (cells l) (cells eqs) (cells s.2.2))) (fun s=>0≤s.1∧s.1≤n∧p2≤s.2.1∧s.2.1≤p2+1+(n - s.1)*6∧(s.2.2.length:Int)≤n - s.1∧∀ x∈s.2.2,EqOk l (eqOf x)) (fun s=>s.1.toNat) (fun m s hs => ?_) _ (v,p2+1,[]) ⟨h1,by simp only; omega,by simp only; omega,by simp only; omega,by simp; omega,by simp⟩ (by simp only; omega)
 obtain ⟨k,q,ents⟩:=s
 obtain ⟨g1,g2,g3,g4,g5,g6⟩:=hs
 simp only at g1 g2 g3 g4 g5 g6 ⊢
 by_cases hk:k > 0
 case neg =>
  left
  simp only [q1a.next0,q1a.round0,evz,Nat.reduceLT,hk]
  exact q4g (by omega) ⟨l,eqs,ents,rfl,ok,hql,hq,by omega,g6⟩
 right
 have wk:IntKind.wrap .i64 (k - 1)=k - 1:=q2j (by omega)
 obtain ⟨_,q2,e1,c1,c2,kk,a,b,pl,s,rfl⟩:=q4v hc q (by omega) eqs ents (by omega) (by omega)
 have em:=(q4z ok hsm hq g6 (by omega) (by omega) ⟨kk,a,b,pl,s,[],[]⟩).eq
 have hok:=derR_ok (e:=⟨kk,a,b,pl,s,[],[]⟩) ok hq g6
 rw [q31,q31] at em
 have em:LIM F.q4z [.rref [slc l] 0,slc eqs,slc ents,.agg [.int .i64 kk,.int .i64 a,.int .i64 b,.int .i64 pl,.int .i64 s,slc ([]:List Int),slc ([]:List Int)]]=_:=em
 by_cases h0:(derR l eqs ents ⟨kk,a,b,pl,s,[],[]⟩).code=0
 · have hmk:made ⟨kk,a,b,pl,s,[],[]⟩ (derR l eqs ents ⟨kk,a,b,pl,s,[],[]⟩)=⟨kk,a,b,pl,s,(derR l eqs ents ⟨kk,a,b,pl,s,[],[]⟩).equation.left,(derR l eqs ents ⟨kk,a,b,pl,s,[],[]⟩).equation.right⟩:=by
    unfold made; rw [if_neg (by simpa using h0)]
   have hok:=hok h0
   rw [hmk,h0] at em
   generalize derR l eqs ents ⟨kk,a,b,pl,s,[],[]⟩=r at *
   refine ⟨(k - 1,q2,ents++[⟨kk,a,b,pl,s,r.equation.left,r.equation.right⟩]),?_,⟨by simp only; omega,by simp only; omega,by simp only; omega,by simp only; omega,by simp; omega,fun x hx => ?_⟩,by simp only; omega⟩
   · simp only [q1a.next0,q1a.round0,evz,Nat.reduceLT,hk,wk,e1,em]
     rw [q1m (q3i (by rw [q0j]; simp only [q7k]; omega)),cells_ent]
   · rcases List.mem_append.1 hx with h | h
     · exact g6 x h
     · rw [List.mem_singleton.1 h]; exact hok
 · refine ⟨(k - 1,q2,ents),?_,⟨by simp only; omega,by simp only; omega,by simp only; omega,by simp only; omega,by simp only; omega,g6⟩,by simp only; omega⟩
   simp only [q1a.next0,q1a.round0,evz,Nat.reduceLT,hk,wk,e1,em,h0]
def DerQ (r:R):Prop:=∃ (l:List Symbol) (eqs:List Equation) (ents:List Entry) (k a b p s:Int),r=some (.tup [.agg [slc l],slc eqs,slc ents,.int .i64 k,.int .i64 a,.int .i64 b,.int .i64 p,.int .i64 s],[])∧SigOk ⟨l⟩∧EqS 13 eqs∧ents.length≤20∧∀ x∈ents,x.left.length≤1001∧x.right.length≤1001
omit hc in
theorem set5 {ents:List Entry} (h:0 < ents.length) (t:List Int):setCells (cells ents) 5 [slc t]=cells (ents.set 0 ⟨ents[0].kind,ents[0].a,ents[0].b,ents[0].place,ents[0].side,t,ents[0].right⟩):=by
 match ents,h with
 | e::r,_=>rfl
theorem q3f:∃ (l:List Symbol) (eqs:List Equation) (ents:List Entry) (k a b p s:Int),Call F.q3f [slc code] (.tup [.agg [slc l],slc eqs,slc ents,.int .i64 k,.int .i64 a,.int .i64 b,.int .i64 p,.int .i64 s])∧SigOk ⟨l⟩∧EqS 13 eqs∧ents.length≤20∧∀ x∈ents,x.left.length≤1001∧x.right.length≤1001:=by
 suffices h:∃ r,callK prog A H LIM 0 F.q3f [slc code]=r∧DerQ r by
  obtain ⟨_,e,l,eqs,ents,k,a,b,p,s,rfl,h⟩:=h
  exact ⟨l,eqs,ents,k,a,b,p,s,q0q rfl 0 e,h⟩
 refine ⟨_,q3f.ev _ _,?_⟩
 rw [show LIM F.q5d [.sl 1 (cells code)]=_ from q5d]
 simp only [evz,Nat.reduceLT,oBx_bx]
 refine q65 (Q:=DerQ) (q1a hc 0 20 (by omega) (by omega)) ?_
 rintro _ p1 a1 b1 ⟨l,eqs,ents,rfl,ok,hql,hq,hel,he⟩
 have hll:l.length≤6:=ok.le
 have hq13:EqS 13 eqs:=⟨by omega,fun e he=>⟨by have:=(hq e he).left.le; omega,by have:=(hq e he).right.le; omega⟩⟩
 have hes:∀ x∈ents,x.left.length≤1001∧x.right.length≤1001:=fun x hx=>⟨by have:=(he x hx).left.le; simp only [eqOf] at this; omega,by have:=(he x hx).right.le; simp only [eqOf] at this; omega⟩
 simp only [evz,Nat.reduceLT]
 refine q65 (Q:=DerQ) (q4v hc p1 (by omega) eqs ents (by omega) (by omega)) ?_
 rintro _ p2 a2 b2 ⟨k,a,b,q,s,rfl⟩
 simp only [evz,Nat.reduceLT]
 have leaf:∀ (k a b p s:Int),DerQ (some (.tup [.agg [slc l],slc eqs,slc ents,.int .i64 k,.int .i64 a,.int .i64 b,.int .i64 p,.int .i64 s],[])):=fun k a b p s=>⟨l,eqs,ents,k,a,b,p,s,rfl,ok,hq13,by omega,hes⟩
 refine q6h (Q:=DerQ) hc (by omega) fun c _ _ => ?_
 simp only [evz,Nat.reduceLT]
 split
 · refine pick_s (Q:=DerQ) hc [0,6] rfl (by simp) (by omega) fun v _ => ?_
   simp only [evz,Nat.reduceLT]; exact leaf _ _ _ _ _
 split
 · refine pick_s (Q:=DerQ) hc [-1,(ents.length:Int),(eqs.length:Int)] rfl (by simp) (by omega) fun v _ => ?_
   simp only [evz,Nat.reduceLT]; exact leaf _ _ _ _ _
 split
 · refine pick_s (Q:=DerQ) hc [1,-1,(ents.length:Int)] rfl (by simp) (by omega) fun v _ => ?_
   simp only [evz,Nat.reduceLT]; exact leaf _ _ _ _ _
 split
 · refine pick_s (Q:=DerQ) hc [1,2,-1] rfl (by simp) (by omega) fun v _ => ?_
   simp only [evz,Nat.reduceLT]; exact leaf _ _ _ _ _
 split
 · refine pick_s (Q:=DerQ) hc [-1,24,1] rfl (by simp) (by omega) fun v _ => ?_
   simp only [evz,Nat.reduceLT]; exact leaf _ _ _ _ _
 split
 · refine q65 (Q:=DerQ) (q0x hc (l:=l) (by omega) _ (by omega)) ?_
   rintro _ p3 a3 b3 ⟨es,rfl,hes2⟩
   simp only [evz,Nat.reduceLT]
   exact ⟨l,es,ents,_,_,_,_,_,rfl,ok,hes2,by omega,hes⟩
 split
 · split
   · rename_i hpos
     have h0:0 < ents.length:=by omega
     refine q65 (Q:=DerQ) (q0t hc _ 4 8 l (by omega) (by omega) (by omega) (by omega)) ?_
     rintro _ p3 a3 b3 ⟨t,rfl,ht⟩
     have e0:inB 0 ents.length=true:=(q62 0 _).trans (by simpa using h0)
     have z:5+1≤ents.length*7:=by omega
     simp only [evz,Nat.reduceLT,e0,cells_le,q7k,z,set5 h0]
     refine ⟨l,eqs,_,_,_,_,_,_,rfl,ok,hq13,by rw [List.length_set]; omega,fun x hx => ?_⟩
     rcases List.mem_or_eq_of_mem_set hx with h | rfl
     · exact hes x h
     · exact ⟨ht,(hes _ (List.getElem_mem h0)).2⟩
   · exact leaf _ _ _ _ _
 · exact leaf _ _ _ _ _
end
end Ev.Ty
end
section
namespace Ev.Ty
open Go Ev
open Enc (enc)
open Sm (sm)
set_option linter.unusedSimpArgs false
set_option linter.unusedVariables false
set_option maxHeartbeats 4000000
set_option maxRecDepth 10000
theorem chkN_snoc {l:List Symbol} {eqs:List Equation} {ents:List Entry} {x:Entry} (h1:(derR l eqs ents x).code=0) (h2:(derR l eqs ents x).equation=eqOf x):∀ n k,k+n=ents.length→chkN l eqs ents n k=0→chkN l eqs (ents++[x]) (n+1) k=0
 | 0,k,hk,_=>by
   have e1:(ents++[x]).take k=ents:=by rw [show k=ents.length by omega,List.take_left']; rfl
   have e2:(ents++[x]).getD k ⟨0,0,0,0,0,[],[]⟩=x:=by
    rw [List.getD_eq_getElem?_getD,show k=ents.length by omega,List.getElem?_append_right (Nat.le_refl _),Nat.sub_self]; rfl
   rw [chkN,e1,e2,if_neg (by simpa using h1),if_pos h2]; rfl
 | n+1,k,hk,h=>by
   have hlt:k < ents.length:=by omega
   have e1:(ents++[x]).take k=ents.take k:=List.take_append_of_le_length (by omega)
   have e2:(ents++[x]).getD k ⟨0,0,0,0,0,[],[]⟩=ents.getD k ⟨0,0,0,0,0,[],[]⟩:=by
    rw [List.getD_eq_getElem?_getD,List.getD_eq_getElem?_getD,List.getElem?_append_left hlt]
   rw [chkN] at h ⊢
   rw [e1,e2]
   by_cases c1:(derR l eqs (ents.take k) (ents.getD k ⟨0,0,0,0,0,[],[]⟩)).code≠0
   · rw [if_pos c1] at h; exact absurd h c1
   · rw [if_neg c1] at h ⊢
     by_cases c2:(derR l eqs (ents.take k) (ents.getD k ⟨0,0,0,0,0,[],[]⟩)).equation=eqOf (ents.getD k ⟨0,0,0,0,0,[],[]⟩)
     · rw [if_pos c2] at h ⊢
       exact chkN_snoc h1 h2 n (k+1) (by omega) h
     · rw [if_neg c2] at h; cases h
theorem q45 (code:List UInt8) (h:sm maxLen code):Call F.q45 [slc code] (.bool true):=by
 by_cases hbig:(code.length:Int) > 1048576
 · exact q0q rfl 0 ((q45.ev _ _).trans (by simp only [evz,Nat.reduceLT,(q61 (code:=code)).eq,hbig]))
 have hc:code.length≤2097152:=by omega
 obtain ⟨l,eqs,ents,k,a,b,p,s,ed,ok,hqs,hel,hes⟩:=q3f hc
 have hll:l.length≤6:=ok.le
 have s1:sm 1048576 (Signature.mk l):=q29 (by omega) ok.small
 have s2:sm 1048576 eqs:=hqs.sm (by omega)
 have s3:sm 1048576 ents:=⟨by omega,fun x hx=>⟨⟨by have:=(hes x hx).1; omega,fun _ _=>trivial⟩,⟨by have:=(hes x hx).2; omega,fun _ _=>trivial⟩⟩⟩
 have eD:LIM F.q3z [.agg [slc l],slc eqs,slc ents,.int .i64 k,.int .i64 a,.int .i64 b,.int .i64 p,.int .i64 s]=_:=(q3z ⟨l⟩ eqs ents k a b p s s1 s2 s3).eq
 have eD':LIM F.q3y [.agg [slc l],slc eqs,slc ents,.int .i64 k,.int .i64 a,.int .i64 b,.int .i64 p,.int .i64 s]=_:=(q3y ⟨l⟩ eqs ents k a b p s s1 s2 s3).eq
 have eC:LIM F.q0l [.agg [slc l],slc eqs,slc ents]=_:=(q0l ⟨l⟩ eqs ents s1 s2 s3).eq
 have eC':LIM F.q33 [.agg [slc l],slc eqs,slc ents]=_:=(q33 ⟨l⟩ eqs ents s1 s2 s3).eq
 rw [q46] at eD eD'
 by_cases h0:(q5n ⟨l⟩ eqs ents k a b p s).code=0
 case neg =>
  refine q0q rfl 0 ((q45.ev _ _).trans ?_)
  simp only [evz,Nat.reduceLT,(q61 (code:=code)).eq,hbig,ed.eq,eD,eD',eC,eC',bne_self_eq_false,ne_eq,not_true_eq_false,h0,not_false_eq_true,decide_true]
 by_cases h1:checkR ⟨l⟩ eqs ents=0
 case neg =>
  refine q0q rfl 0 ((q45.ev _ _).trans ?_)
  simp only [evz,Nat.reduceLT,(q61 (code:=code)).eq,hbig,ed.eq,eD,eD',eC,eC',bne_self_eq_false,ne_eq,not_true_eq_false,h0,h1,not_false_eq_true,decide_true]
 obtain ⟨_,q1,q2,q3,q4⟩:=checkR_ok h1
 have hsf:q2f ⟨l⟩=0:=(q5t _).2 ok
 have hqf:q49 l eqs=0:=q76.2 ⟨q1,q2⟩
 have hef:q5v l ents=0:=Classical.byContradiction fun hne=>by
  unfold q5n at h0
  rw [if_neg (by simpa using hsf),if_neg (by simpa using hqf),if_pos hne] at h0
  exact hne h0
 have hR:q5n ⟨l⟩ eqs ents k a b p s=entryR ⟨k,a,b,p,s,[],[]⟩ (derR l eqs ents ⟨k,a,b,p,s,[],[]⟩):=by
  unfold q5n
  rw [if_neg (by simpa using hsf),if_neg (by simpa using hqf),if_neg (by simpa using hef)]
 rw [hR] at h0 eD eD'
 have h0:(derR l eqs ents ⟨k,a,b,p,s,[],[]⟩).code=0:=h0
 have hd:=derR_ok (e:=⟨k,a,b,p,s,[],[]⟩) ok q2 q4 h0
 have hsame:∀ L R:List Int,derR l eqs ents ⟨k,a,b,p,s,L,R⟩=derR l eqs ents ⟨k,a,b,p,s,[],[]⟩:=fun L R=>rfl
 have hE:entryR ⟨k,a,b,p,s,[],[]⟩ (derR l eqs ents ⟨k,a,b,p,s,[],[]⟩)=⟨0,⟨k,a,b,p,s,(derR l eqs ents ⟨k,a,b,p,s,[],[]⟩).equation.left,(derR l eqs ents ⟨k,a,b,p,s,[],[]⟩).equation.right⟩⟩:=by
  unfold entryR made
  rw [if_neg (by simpa using h0),h0]
 rw [hE] at eD eD'
 have hx:=chkN_snoc (l:=l) (eqs:=eqs) (ents:=ents) (x:=⟨k,a,b,p,s,(derR l eqs ents ⟨k,a,b,p,s,[],[]⟩).equation.left,(derR l eqs ents ⟨k,a,b,p,s,[],[]⟩).equation.right⟩) (by rw [hsame]; exact h0) (by rw [hsame]; rfl)
 generalize derR l eqs ents ⟨k,a,b,p,s,[],[]⟩=r at *
 have hdl:=hd.left.le
 have hdr:=hd.right.le
 have hmore:checkR ⟨l⟩ eqs (ents++[⟨k,a,b,p,s,r.equation.left,r.equation.right⟩])=0:=by
  unfold checkR at h1 ⊢
  rw [if_neg (by simpa using hsf),if_neg (by simpa using hqf)] at h1 ⊢
  rw [if_neg (by omega)] at h1
  rw [if_neg (by simp; omega),List.length_append]
  exact hx ents.length 0 (by omega) h1
 have s4:sm 1048576 (ents++[(⟨k,a,b,p,s,r.equation.left,r.equation.right⟩:Entry)]):=⟨by simp; omega,fun x hx=>by
  rcases List.mem_append.1 hx with h | h
  · exact s3.2 x h
  · rw [List.mem_singleton.1 h]; exact ⟨⟨by show r.equation.left.length≤_; omega,fun _ _=>trivial⟩,⟨by show r.equation.right.length≤_; omega,fun _ _=>trivial⟩⟩⟩
 have eM:LIM F.q0l [.agg [slc l],slc eqs,slc (ents++[(⟨k,a,b,p,s,r.equation.left,r.equation.right⟩:Entry)])]=_:=(q0l ⟨l⟩ eqs _ s1 s2 s4).eq
 rw [hmore] at eM
 have eM:LIM F.q0l [.agg [slc l],slc eqs,.sl 7 (cells (ents++[(⟨k,a,b,p,s,r.equation.left,r.equation.right⟩:Entry)]))]=some (.int .i64 0,[]):=eM
 have eQ:=(q2v l (by omega) r.equation.left r.equation.right (by omega) (by omega)).eq
 rw [if_neg (by simpa using hsf),show q25 l ⟨r.equation.left,r.equation.right⟩=0 from eqOk_iff.2 hd] at eQ
 have eS:=(q4p ents ents (q29 (by omega) s3)).eq
 rw [decide_eq_true rfl] at eS
 have b1:Nat.ble ((0+(cells ents).length)*88) (140737488355328*7)=true:=q3i (by rw [q0j]; simp only [q7k]; omega)
 have b2:Nat.ble (((cells ents).length+7)*88) (140737488355328*7)=true:=q3i (by rw [q0j]; simp only [q7k]; omega)
 have tk:(cells (ents++[(⟨k,a,b,p,s,r.equation.left,r.equation.right⟩:Entry)])).take (ents.length*7)=cells ents:=by
  rw [q7b _ 7 ents.length rfl,List.take_left']; rfl
 have g1:((ents.length:Nat):Int)≤((ents.length+1:Nat):Int):=by omega
 have g0:(0:Int)≤((ents.length:Nat):Int):=by omega
 have b1':Nat.ble ((cells ents).length*88) (140737488355328*7)=true:=q3i (by rw [q0j]; simp only [q7k]; omega)
 have hlen:(ents++[(⟨k,a,b,p,s,r.equation.left,r.equation.right⟩:Entry)]).length=ents.length+1:=by simp
 have eM0:LIM F.q0l [.agg [slc l],slc eqs,slc (ents++[(⟨k,a,b,p,s,r.equation.left,r.equation.right⟩:Entry)])]=some (.int .i64 0,[]):=eM
 refine q0q rfl 0 ((q45.ev _ _).trans ?_)
 simp only [evz,Nat.reduceLT,(q61 (code:=code)).eq,hbig,ed.eq,eD,eD',eC,eC',bne_self_eq_false,ne_eq,not_true_eq_false,h1,not_false_eq_true,decide_true,b1,b1',b2,beq_self_eq_true,cells_ent,eM,eM0,eQ,g0,hlen,g1,Bool.and_self,tk,eS,Nat.zero_add]
end Ev.Ty
end
