/- Steps on the way to RowIsComplete: TyDerive, TyTheory, TyCompl, TyLIsComplete. -/
import Derived.Test.YtambmaigffpijaaGreatDoorM5
set_option linter.unusedSectionVars false
section
namespace Ev.Ty
open Go Ev
open Enc (enc)
open Sm (sm)
set_option linter.unusedSimpArgs false
set_option linter.unusedVariables false
theorem spec_l11Numbers {eqn enn:Nat} (h1:eqn≤4294967296) (h2:enn≤4294967296) (e:Entry):Call F.spec_l11Numbers [.int .i64 eqn,.int .i64 enn,.rref (enc e) 0] (.int .i64 (numsFault eqn enn e)):=by
 obtain ⟨k,a,b,p,s,le,ri⟩:=e
 refine call_of rfl 0 ((spec_l11Numbers.ev _ _ _ _ _ _ _ _ _ _).trans ?_)
 simp only [evz,Nat.reduceLT,(spec_l1In _ _ _).eq,wrap64 (x:=(eqn:Int) - 1) (by omega),wrap64 (x:=(enn:Int) - 1) (by omega),numsFault,two]
 cases h0:inR k 1 5 with
 | false=>simp only [evz,Nat.reduceLT,Bool.not_false]
 | true =>
   simp only [evz,Nat.reduceLT,Bool.not_true,reduceCtorEq]
   by_cases k4:k=4
   · subst k4
     cases q1:inR a 0 (enn - 1) <;> cases q2:inR b 0 (enn - 1) <;> cases q3:inR s 0 1 <;> simp [evz,Nat.reduceLT,q1,q2,q3]
   by_cases k5:k=5
   · subst k5
     by_cases s0:s=0
     · subst s0
       cases q1:inR a 0 (enn - 1) <;> cases q2:inR b 0 (enn - 1) <;> cases q3:inR 0 0 1 <;> simp [evz,Nat.reduceLT,q1,q2,q3]
     · simp [evz,Nat.reduceLT,s0]
   by_cases b0:b=0
   case neg=>simp [evz,Nat.reduceLT,k4,k5,b0]
   by_cases p0:p=0
   case neg=>simp [evz,Nat.reduceLT,k4,k5,b0,p0]
   by_cases s0:s=0
   case neg=>simp [evz,Nat.reduceLT,k4,k5,b0,p0,s0]
   subst b0 p0 s0
   by_cases k1:k=1
   · subst k1
     cases q1:inR a 0 (eqn - 1) <;> cases q3:inR 0 0 1 <;> simp [evz,Nat.reduceLT,q1,q3]
   · cases q1:inR a 0 (enn - 1) <;> cases q3:inR 0 0 1 <;> simp [evz,Nat.reduceLT,k1,k4,k5,q1,q3]
theorem EqOk.small {l:List Symbol} {e:Equation} (h:EqOk l e):sm 1048576 e:=⟨⟨by have:=h.left.le; omega,fun _ _=>trivial⟩,⟨by have:=h.right.le; omega,fun _ _=>trivial⟩⟩
theorem one_small {e:Equation} (h:sm 1048576 e):sm 1048576 [e]:=⟨by simp,fun y hy=>by rw [List.mem_singleton.1 hy]; exact h⟩
theorem ent_small {l:List Symbol} {e:Entry} (h:EqOk l (eqOf e)):sm 4294967296 e:=⟨sm_mono (by omega) h.small.1,sm_mono (by omega) h.small.2⟩
def made (e:Entry) (r:EquationResult):Entry:=if r.code≠0 then ⟨0,0,0,0,0,[],[]⟩ else ⟨e.kind,e.a,e.b,e.place,e.side,r.equation.left,r.equation.right⟩
section
variable {l:List Symbol} (ok:SigOk ⟨l⟩) (hs:sm 1048576 (Signature.mk l)) {eqs:List Equation} {ents:List Entry} (hq:∀ x∈eqs,EqOk l x) (he:∀ x∈ents,EqOk l (eqOf x)) (hql:eqs.length≤12) (hel:ents.length≤500)
include ok hs hq he hql hel
theorem spec_l11Derive (e:Entry) :
 Call F.spec_l11Derive [.rref [slc l] 0,slc eqs,slc ents,.rref (enc e) 0] (.tup [.agg [slc (derR l eqs ents e).equation.left,slc (derR l eqs ents e).equation.right],.int .i64 (derR l eqs ents e).code]):=by
 have hn:=(spec_l11Numbers (eqn:=eqs.length) (enn:=ents.length) (by omega) (by omega) e).eq
 obtain ⟨k,a,b,p,s,le,ri⟩:=e
 rw [enc_Entry] at hn
 refine call_of rfl 0 ((spec_l11Derive.ev _ _ _ _ _ _ _ _ _ _ _).trans ?_)
 simp only [evz,Nat.reduceLT,hn,derR]
 by_cases h:numsFault eqs.length ents.length ⟨k,a,b,p,s,le,ri⟩=0
 case neg=>simp only [h,evz,Nat.reduceLT,ne_eq,not_false_eq_true,slc_nil]
 have nk:=numsOk h
 obtain ⟨n1,n2,n3,n4,n5,n6,n7⟩:=nk
 simp only at n1 n2 n3 n4 n5 n6 n7
 obtain ⟨a,rfl⟩:∃ a':Nat,a=a':=⟨a.toNat,by omega⟩
 simp only [h,evz,Nat.reduceLT,ne_eq,not_true_eq_false]
 by_cases k1:k=1
 · subst k1
   have ha:a < eqs.length:=by have:=n3 rfl; omega
   have hlk:eqs[a]?=some eqs[a]:=List.getElem?_eq_getElem ha
   have ho:=(hq _ (List.getElem_mem ha)).small
   have hc:Call F.spec_l4Copy [.rref [slc eqs[a].left,slc eqs[a].right] 0] (.agg [slc eqs[a].left,slc eqs[a].right]):=by
    refine call_of rfl 0 ((spec_l4Copy.ev _ _ _).trans ?_)
    simp only [evz,Nat.reduceLT,(spec_l1Ints eqs[a].left (by have:=ho.1.1; omega)).eq,(spec_l1Ints eqs[a].right (by have:=ho.2.1; omega)).eq]
   simp only [evz,Nat.reduceLT,ha,cells_window (k:=2) (i:=a) rfl hlk,enc_Equation,hc.eq,getE ha]
 have ha:a < ents.length:=by have:=n4 k1; omega
 have hla:ents[a]?=some ents[a]:=List.getElem?_eq_getElem ha
 have hea:=he _ (List.getElem_mem ha)
 simp only [evz,Nat.reduceLT,k1,ha,cells_window (k:=7) (i:=a) rfl hla,(spec_l11Equation ents[a] (ent_small hea)).eq,getN ha]
 by_cases k2:k=2
 · subst k2
   simp only [evz,Nat.reduceLT]
 by_cases k3:k=3
 · subst k3
   have hsx:=seen_six hea
   have:=hea.left.le
   have:=hea.right.le
   have hp:=(spec_l4Plain ents[a].left ents[a].right (by have:ents[a].left.length≤24:=hea.left.le; omega) (by have:ents[a].right.length≤24:=hea.right.le; omega)).eq
   have hsx':(seenE ⟨ents[a].left,ents[a].right⟩).length≤6:=hsx
   rw [if_pos hsx',if_pos hsx'] at hp
   simp only [evz,Nat.reduceLT,hp]
   rfl
 have k45:k=4∨k=5:=by omega
 obtain ⟨b0,b1⟩:=n5 k45
 obtain ⟨b,rfl⟩:∃ b':Nat,b=b':=⟨b.toNat,by omega⟩
 have hb:b < ents.length:=by omega
 have hlb:ents[b]?=some ents[b]:=List.getElem?_eq_getElem hb
 have heb:=he _ (List.getElem_mem hb)
 simp only [evz,Nat.reduceLT,k2,k3,hb,cells_window (k:=7) (i:=b) rfl hlb,(spec_l11Equation ents[b] (ent_small heb)).eq,getN hb]
 by_cases k5:k=5
 · subst k5
   have hp:LIM F.spec_PeakOf [.agg [slc l],.agg [slc ents[a].left,slc ents[a].right],.agg [slc ents[b].left,slc ents[b].right],.int .i64 p]=some (.agg (enc (peakOfR ⟨l⟩ (eqOf ents[a]) (eqOf ents[b]) p)),[]):=(spec_PeakOf ⟨l⟩ (eqOf ents[a]) (eqOf ents[b]) p hs hea.small heb.small).eq
   rw [enc_EquationResult] at hp
   simp only [evz,Nat.reduceLT,hp]
 simp only [evz,Nat.reduceLT,k5]
 by_cases s0:s=0
 · subst s0
   have hp:LIM F.spec_RewriteAt [.agg [slc l],.sl 2 [slc ents[b].left,slc ents[b].right],.int .i64 0,.int .i64 p,slc ents[a].left]=some (.agg (enc (rewriteAtR ⟨l⟩ [eqOf ents[b]] 0 p ents[a].left)),[]):=(spec_RewriteAt ⟨l⟩ [eqOf ents[b]] 0 p ents[a].left hs (one_small heb.small) hea.small.1).eq
   rw [enc_TermResult] at hp
   simp only [evz,Nat.reduceLT,hp]
 · have hp:LIM F.spec_RewriteAt [.agg [slc l],.sl 2 [slc ents[b].left,slc ents[b].right],.int .i64 0,.int .i64 p,slc ents[a].right]=some (.agg (enc (rewriteAtR ⟨l⟩ [eqOf ents[b]] 0 p ents[a].right)),[]):=(spec_RewriteAt ⟨l⟩ [eqOf ents[b]] 0 p ents[a].right hs (one_small heb.small) hea.small.2).eq
   rw [enc_TermResult] at hp
   simp only [evz,Nat.reduceLT,s0,hp]
theorem derive5 (n:Nat) (k a b p s:Int) (le ri:List Int) (h:numsFault eqs.length ents.length ⟨k,a,b,p,s,le,ri⟩=0) :
 impl_derive.j5 n (cells eqs) (cells ents) (cells l) k a b p s (cells le) (cells ri) 0 0 0 0 0=some (.tup [.agg (enc (made ⟨k,a,b,p,s,le,ri⟩ (derR l eqs ents ⟨k,a,b,p,s,le,ri⟩))),.int .i64 (derR l eqs ents ⟨k,a,b,p,s,le,ri⟩).code],[]):=by
 have nk:=numsOk h
 obtain ⟨n1,n2,n3,n4,n5,n6,n7⟩:=nk
 simp only at n1 n2 n3 n4 n5 n6 n7
 obtain ⟨a,rfl⟩:∃ a':Nat,a=a':=⟨a.toNat,by omega⟩
 have ho:∀ x y:List Int,x.length≤4294967296→y.length≤4294967296→Call F.impl_ownEquation [.agg [slc x,slc y]] (.agg [slc x,slc y]):=fun x y h1 h2=>by
  refine call_of rfl 0 ((impl_ownEquation.ev _ _ _).trans ?_)
  simp only [evz,Nat.reduceLT,(slices_Clone_Sint64 x h1).eq,(slices_Clone_Sint64 y h2).eq]
 simp only [impl_derive.j5,impl_derive.j6,impl_derive.j7,made,derR,h,evz,Nat.reduceLT,ne_eq,not_true_eq_false]
 by_cases k1:k=1
 · subst k1
   have ha:a < eqs.length:=by have:=n3 rfl; omega
   have hlk:eqs[a]?=some eqs[a]:=List.getElem?_eq_getElem ha
   have hsm:=(hq _ (List.getElem_mem ha)).small
   have hc:=(ho eqs[a].left eqs[a].right (by have:=hsm.1.1; omega) (by have:=hsm.2.1; omega)).eq
   simp only [impl_derive.j8,evz,Nat.reduceLT,ha,hlk,enc_Equation,hc,getE ha,enc_Entry,not_true_eq_false]
 have ha:a < ents.length:=by have:=n4 k1; omega
 have hla:ents[a]?=some ents[a]:=List.getElem?_eq_getElem ha
 have hea:=he _ (List.getElem_mem ha)
 have hsa:=hea.small
 have la:ents[a].left.length≤24:=hea.left.le
 have lr:ents[a].right.length≤24:=hea.right.le
 have hee:=entry_eqn ents[a]
 rw [enc_Entry] at hee
 simp only [impl_derive.j9,evz,Nat.reduceLT,k1,getN ha]
 by_cases k2:k=2
 · subst k2
   have hc:=(ho ents[a].right ents[a].left (by omega) (by omega)).eq
   simp only [impl_derive.j10,evz,Nat.reduceLT,ha,hla,enc_Entry,hc,not_true_eq_false]
 simp only [impl_derive.j11,evz,Nat.reduceLT,k2]
 by_cases k3:k=3
 · subst k3
   have hp:=(impl_plain ents[a].left ents[a].right (by have:=hsa.1.1; have:ents[a].left.length≤24:=hea.left.le; omega) (by have:ents[a].right.length≤24:=hea.right.le; omega)).eq
   simp only [impl_derive.j12,evz,Nat.reduceLT,ha,hla,enc_Entry,hee.eq,hp,not_true_eq_false]
   rfl
 have k45:k=4∨k=5:=by omega
 obtain ⟨b0,b1⟩:=n5 k45
 obtain ⟨b,rfl⟩:∃ b':Nat,b=b':=⟨b.toNat,by omega⟩
 have hb:b < ents.length:=by omega
 have hlb:ents[b]?=some ents[b]:=List.getElem?_eq_getElem hb
 have heb:=he _ (List.getElem_mem hb)
 have hef:=entry_eqn ents[b]
 rw [enc_Entry] at hef
 simp only [impl_derive.j13,evz,Nat.reduceLT,k3,getN hb]
 by_cases k4:k=4
 · subst k4
   have hc:=(ho ents[a].left ents[a].right (by omega) (by omega)).eq
   simp only [impl_derive.j14,impl_derive.j15,impl_derive.j16,impl_derive.j17,impl_derive.j18,impl_derive.j19,evz,Nat.reduceLT,ha,hla,hb,hlb,enc_Entry,hee.eq,hef.eq,hc]
   rcases n6 with s0 | ⟨_,s1⟩
   · subst s0
     have hp:LIM F.impl_RewriteAt [.agg [slc l],.sl 2 [slc ents[b].left,slc ents[b].right],.int .i64 0,.int .i64 p,slc ents[a].left]=some (.agg (enc (rewriteAtR ⟨l⟩ [eqOf ents[b]] 0 p ents[a].left)),[]):=(impl_RewriteAt ⟨l⟩ [eqOf ents[b]] 0 p ents[a].left hs (one_small heb.small) hea.small.1).eq
     rw [enc_TermResult] at hp
     simp only [evz,Nat.reduceLT,hp]
     by_cases hcd:(rewriteAtR ⟨l⟩ [eqOf ents[b]] 0 p ents[a].left).code=0 <;> simp [evz,Nat.reduceLT,hcd,slc_nil]
   · subst s1
     have hp:LIM F.impl_RewriteAt [.agg [slc l],.sl 2 [slc ents[b].left,slc ents[b].right],.int .i64 0,.int .i64 p,slc ents[a].right]=some (.agg (enc (rewriteAtR ⟨l⟩ [eqOf ents[b]] 0 p ents[a].right)),[]):=(impl_RewriteAt ⟨l⟩ [eqOf ents[b]] 0 p ents[a].right hs (one_small heb.small) hea.small.2).eq
     rw [enc_TermResult] at hp
     simp only [evz,Nat.reduceLT,hp]
     by_cases hcd:(rewriteAtR ⟨l⟩ [eqOf ents[b]] 0 p ents[a].right).code=0 <;> simp [evz,Nat.reduceLT,hcd,slc_nil]
 have k5:k=5:=by omega
 subst k5
 have hp:LIM F.impl_PeakOf [.agg [slc l],.agg [slc ents[a].left,slc ents[a].right],.agg [slc ents[b].left,slc ents[b].right],.int .i64 p]=some (.agg (enc (peakOfR ⟨l⟩ (eqOf ents[a]) (eqOf ents[b]) p)),[]):=(impl_PeakOf ⟨l⟩ (eqOf ents[a]) (eqOf ents[b]) p hs hea.small heb.small).eq
 rw [enc_EquationResult] at hp
 simp only [impl_derive.j20,impl_derive.j21,evz,Nat.reduceLT,ha,hla,hb,hlb,enc_Entry,hee.eq,hef.eq,hp]
 by_cases hcd:(peakOfR ⟨l⟩ (eqOf ents[a]) (eqOf ents[b]) p).code=0 <;> simp [evz,Nat.reduceLT,hcd,slc_nil]
theorem impl_derive (e:Entry) :
 Call F.impl_derive [.agg [slc l],slc eqs,slc ents,.agg (enc e)] (.tup [.agg (enc (made e (derR l eqs ents e))),.int .i64 (derR l eqs ents e).code]):=by
 obtain ⟨k,a,b,p,s,le,ri⟩:=e
 rw [enc_Entry]
 refine call_of rfl 0 ((impl_derive.ev _ _ _ _ _ _ _ _ _ _ _).trans ?_)
 have good:=derive5 ok hs hq he hql hel 0 k a b p s le ri
 have bad:∀ c:Int,c≠0→numsFault eqs.length ents.length ⟨k,a,b,p,s,le,ri⟩=c →
  (some (.tup [.agg [.int .i64 0,.int .i64 0,.int .i64 0,.int .i64 0,.int .i64 0,.sl 1 [],.sl 1 []],.int .i64 c],[]):R)=some (.tup [.agg (enc (made ⟨k,a,b,p,s,le,ri⟩ (derR l eqs ents ⟨k,a,b,p,s,le,ri⟩))),.int .i64 (derR l eqs ents ⟨k,a,b,p,s,le,ri⟩).code],[]):=fun c hc h=>by
  have e1:derR l eqs ents ⟨k,a,b,p,s,le,ri⟩=⟨c,⟨[],[]⟩⟩:=by unfold derR; rw [h,if_pos hc]
  rw [e1]
  simp only [made,ne_eq,hc,not_false_eq_true,if_true,enc_Entry]
  rfl
 generalize (some (T.tup [.agg (enc (made ⟨k,a,b,p,s,le,ri⟩ (derR l eqs ents ⟨k,a,b,p,s,le,ri⟩))),.int .i64 (derR l eqs ents ⟨k,a,b,p,s,le,ri⟩).code],[]):R)=G at *
 simp only [evz,Nat.reduceLT,(impl_within _ _ _).eq]
 cases h0:inR k 1 5 with
 | false =>
   simp only [evz,Nat.reduceLT,Bool.not_false]
   have:=bad 1 (by decide) (by simp [numsFault,h0])
   by_cases k4:k=4 <;> simp only [evz,Nat.reduceLT,k4,this]
 | true =>
   simp only [evz,Nat.reduceLT,Bool.not_true,reduceCtorEq,impl_derive.j0,impl_derive.j1,impl_derive.j2,impl_derive.j3,impl_derive.j4,(impl_within _ _ _).eq,wrap64 (x:=(eqs.length:Int) - 1) (by omega),wrap64 (x:=(ents.length:Int) - 1) (by omega)]
   by_cases k4:k=4
   · subst k4
     cases q1:inR a 0 (ents.length - 1) with
     | false =>
       simp only [evz,Nat.reduceLT,q1,Bool.not_true,Bool.not_false]
       exact bad 3 (by decide) (by simp [numsFault,two,h0,q1])
     | true =>
       cases q2:inR b 0 (ents.length - 1) with
       | false =>
         simp only [evz,Nat.reduceLT,q1,q2,Bool.not_true,Bool.not_false]
         exact bad 3 (by decide) (by simp [numsFault,two,h0,q1,q2])
       | true =>
         cases q3:inR s 0 1 with
         | false =>
           simp only [evz,Nat.reduceLT,q1,q2,q3,Bool.not_true,Bool.not_false]
           exact bad 3 (by decide) (by simp [numsFault,two,h0,q1,q2,q3])
         | true =>
           simp only [evz,Nat.reduceLT,q1,q2,q3,Bool.not_true,Bool.not_false]
           exact good (by simp [numsFault,two,h0,q1,q2,q3,show inR 0 0 1=true from rfl])
   by_cases k5:k=5
   · subst k5
     by_cases s0:s=0
     · subst s0
       cases q1:inR a 0 (ents.length - 1) with
       | false =>
         simp only [evz,Nat.reduceLT,q1,Bool.not_true,Bool.not_false,show inR 0 0 1=true from rfl]
         exact bad 3 (by decide) (by simp [numsFault,two,h0,q1])
       | true =>
         cases q2:inR b 0 (ents.length - 1) with
         | false =>
           simp only [evz,Nat.reduceLT,q1,q2,Bool.not_true,Bool.not_false,show inR 0 0 1=true from rfl]
           exact bad 3 (by decide) (by simp [numsFault,two,h0,q1,q2])
         | true =>
           simp only [evz,Nat.reduceLT,q1,q2,Bool.not_true,Bool.not_false,show inR 0 0 1=true from rfl]
           exact good (by simp [numsFault,two,h0,q1,q2,show inR 0 0 1=true from rfl])
     · simp only [evz,Nat.reduceLT,s0]
       exact bad 1 (by decide) (by simp [numsFault,two,h0,s0])
   by_cases b0:b=0
   case neg =>
    simp only [evz,Nat.reduceLT,k4,k5,b0]
    exact bad 1 (by decide) (by simp [numsFault,two,h0,k4,k5,b0])
   by_cases p0:p=0
   case neg =>
    simp only [evz,Nat.reduceLT,k4,k5,b0,p0]
    exact bad 1 (by decide) (by simp [numsFault,two,h0,k4,k5,b0,p0])
   by_cases s0:s=0
   case neg =>
    simp only [evz,Nat.reduceLT,k4,k5,b0,p0,s0]
    exact bad 1 (by decide) (by simp [numsFault,two,h0,k4,k5,b0,p0,s0])
   subst b0 p0 s0
   by_cases k1:k=1
   · subst k1
     cases q1:inR a 0 (eqs.length - 1) with
     | false =>
       simp only [evz,Nat.reduceLT,q1,Bool.not_true,Bool.not_false,show inR 0 0 1=true from rfl]
       exact bad 3 (by decide) (by simp [numsFault,two,h0,q1])
     | true =>
       simp only [evz,Nat.reduceLT,q1,Bool.not_true,Bool.not_false,show inR 0 0 1=true from rfl]
       exact good (by simp [numsFault,two,h0,q1,show inR 0 0 1=true from rfl])
   · skip
     cases q1:inR a 0 (ents.length - 1) with
     | false =>
       simp only [evz,Nat.reduceLT,q1,Bool.not_true,Bool.not_false,k1,k4,k5,show inR 0 0 1=true from rfl]
       exact bad 3 (by decide) (by simp [numsFault,two,h0,k1,k4,k5,q1])
     | true =>
       simp only [evz,Nat.reduceLT,q1,Bool.not_true,Bool.not_false,k1,k4,k5,show inR 0 0 1=true from rfl]
       exact good (by simp [numsFault,two,h0,k1,k4,k5,q1,show inR 0 0 1=true from rfl])
end
noncomputable def chkN (l:List Symbol) (eqs:List Equation) (ents:List Entry):Nat→Nat→Int
 | 0,_=>0
 | n+1,k=>if (derR l eqs (ents.take k) (ents.getD k ⟨0,0,0,0,0,[],[]⟩)).code≠0 then (derR l eqs (ents.take k) (ents.getD k ⟨0,0,0,0,0,[],[]⟩)).code
   else if (derR l eqs (ents.take k) (ents.getD k ⟨0,0,0,0,0,[],[]⟩)).equation=eqOf (ents.getD k ⟨0,0,0,0,0,[],[]⟩) then chkN l eqs ents n (k+1) else 8
noncomputable def checkR (s:Signature) (eqs:List Equation) (ents:List Entry):Int :=
 if sigFault s≠0 then sigFault s else if eqsFault s.symbols eqs≠0 then eqsFault s.symbols eqs else if 500 < ents.length then 2 else chkN s.symbols eqs ents ents.length 0
theorem take_getE {ents:List Entry} {k:Nat} (h:k < ents.length):ents.take (k+1)=ents.take k++[ents[k]]:=by
 rw [List.take_add_one,List.getElem?_eq_getElem h]; rfl
theorem chkN_ok {l:List Symbol} (ok:SigOk ⟨l⟩) {eqs:List Equation} (hq:∀ x∈eqs,EqOk l x) {ents:List Entry}:∀ {n k:Nat},k+n=ents.length→(∀ x∈ents.take k,EqOk l (eqOf x))→chkN l eqs ents n k=0→∀ x∈ents,EqOk l (eqOf x)
 | 0,k,hk,h,_=>by rw [List.take_of_length_le (by omega)] at h; exact h
 | n+1,k,hk,h,h0=>by
   have hlt:k < ents.length:=by omega
   rw [chkN,getN hlt] at h0
   by_cases c:(derR l eqs (ents.take k) ents[k]).code=0
   · rw [if_neg (by simpa using c)] at h0
     by_cases e:(derR l eqs (ents.take k) ents[k]).equation=eqOf ents[k]
     · rw [if_pos e] at h0
       refine chkN_ok ok hq (by omega) (fun x hx => ?_) h0
       rw [take_getE hlt] at hx
       rcases List.mem_append.1 hx with hx | hx
       · exact h x hx
       · rw [List.mem_singleton.1 hx,← e]
         exact derR_ok ok hq h c
     · rw [if_neg e] at h0; cases h0
   · rw [if_pos c] at h0; exact absurd h0 c
theorem checkR_ok {l:List Symbol} {eqs:List Equation} {ents:List Entry} (h:checkR ⟨l⟩ eqs ents=0):SigOk ⟨l⟩∧eqs.length≤12∧(∀ x∈eqs,EqOk l x)∧ents.length≤500∧∀ x∈ents,EqOk l (eqOf x):=by
 unfold checkR at h
 by_cases h1:sigFault ⟨l⟩=0
 · rw [if_neg (by simpa using h1)] at h
   by_cases h2:eqsFault l eqs=0
   · rw [if_neg (by simpa using h2)] at h
     by_cases h3:500 < ents.length
     · rw [if_pos h3] at h; cases h
     · rw [if_neg h3] at h
       have ok:=(sigOk_iff _).1 h1
       obtain ⟨q1,q2⟩:=eqsOk_iff.1 h2
       exact ⟨ok,q1,q2,by omega,chkN_ok ok q2 (by omega) (by simp) h⟩
   · rw [if_pos h2] at h; exact absurd h h2
 · rw [if_pos h1] at h; exact absurd h h1
theorem win_take {ents:List Entry} {k:Nat}:((cells ents).take (k*7)).drop (0*7)=cells (ents.take k):=by rw [Nat.zero_mul,List.drop_zero,cells_take ents 7 k rfl]
theorem win_guard {k n:Nat} (h:k≤n):(decide (0≤(0:Int))&&decide ((0:Int)≤(k:Nat))&&decide ((k:Int)≤(n:Nat)))=true:=by
 simp; omega
theorem eqn_iff {e:Entry} {q:Equation} (h:q.left=e.left):q=eqOf e↔q.right=e.right:=by
 unfold eqOf
 obtain ⟨a,b⟩:=q
 simp only at h
 subst h
 simp
section
variable {l:List Symbol} (ok:SigOk ⟨l⟩) (hs:sm 1048576 (Signature.mk l)) {eqs:List Equation} (hq:∀ x∈eqs,EqOk l x) (hql:eqs.length≤12) {ents:List Entry} (hel:ents.length≤500)
include ok hs hq hql hel
theorem spec_check {N:Nat} :
 ∀ n k f,k+n=ents.length→n < f→(∀ x∈ents.take k,EqOk l (eqOf x))→spec_l11Check.at0 N f (spec_l11Check.st0 (cells l) (cells eqs) (cells ents) (k:Nat))=some (.int .i64 (chkN l eqs ents n k),[])
 | n,k,0,hk,hf,hok=>by omega
 | 0,k,f+1,hk,hf,hok=>by
   simp only [spec_l11Check.next0,spec_l11Check.round0,evz,Nat.reduceLT,show ¬ k < ents.length by omega,chkN]
 | n+1,k,f+1,hk,hf,hok=>by
   have hlt:k < ents.length:=by omega
   have hlk:ents[k]?=some ents[k]:=List.getElem?_eq_getElem hlt
   have hd:=(spec_l11Derive ok hs hq hok hql (by rw [List.length_take]; omega) ents[k]).eq
   simp only [spec_l11Check.next0,spec_l11Check.round0,evz,Nat.reduceLT,hlt,hlk,win_take,cells_window (k:=7) (i:=k) rfl hlk,enc_Entry] at hd ⊢
   rw [cond_pos (win_guard (Nat.le_of_lt hlt))]
   simp only [evz,Nat.reduceLT,hd]
   rw [chkN,getN hlt]
   by_cases c:(derR l eqs (ents.take k) ents[k]).code=0
   case neg=>simp only [c,evz,Nat.reduceLT,ne_eq,not_false_eq_true]
   have hdo:=derR_ok ok hq hok c
   simp only [c,evz,Nat.reduceLT,ne_eq,not_true_eq_false,(spec_l1Same _ _ (sm_mono (by omega) hdo.small.1)).eq,(spec_l1Same _ _ (sm_mono (by omega) hdo.small.2)).eq]
   by_cases c1:(derR l eqs (ents.take k) ents[k]).equation.left=ents[k].left
   case neg =>
    have c2:¬ (derR l eqs (ents.take k) ents[k]).equation=eqOf ents[k]:=fun h=>c1 (by rw [h]; rfl)
    simp only [c1,c2,evz,Nat.reduceLT,decide_false,Bool.not_false]
   by_cases c2:(derR l eqs (ents.take k) ents[k]).equation.right=ents[k].right
   case neg =>
    have c3:¬ (derR l eqs (ents.take k) ents[k]).equation=eqOf ents[k]:=fun h=>c2 ((eqn_iff c1).1 h)
    simp only [c1,c2,c3,evz,Nat.reduceLT,decide_false,decide_true,Bool.not_false,Bool.not_true]
   rw [if_pos ((eqn_iff c1).2 c2)]
   simp only [c1,c2,evz,Nat.reduceLT,decide_true,Bool.not_true]
   rw [wrap_succ (by omega)]
   refine spec_check n (k+1) f (by omega) (by omega) (fun x hx => ?_)
   rw [take_getE hlt] at hx
   rcases List.mem_append.1 hx with hx | hx
   · exact hok x hx
   · rw [List.mem_singleton.1 hx,← (eqn_iff c1).2 c2]
     exact hdo
theorem impl_check {N:Nat} :
 ∀ n k f,k+n=ents.length→n < f→(∀ x∈ents.take k,EqOk l (eqOf x))→impl_CheckEntries.at0 N f (impl_CheckEntries.st0 (cells eqs) (cells ents) (cells ents) ents.length (k:Nat) (cells l))=some (.int .i64 (chkN l eqs ents n k),[])
 | n,k,0,hk,hf,hok=>by omega
 | 0,k,f+1,hk,hf,hok=>by
   simp only [impl_CheckEntries.next0,impl_CheckEntries.round0,evz,Nat.reduceLT,show ¬ k < ents.length by omega,chkN]
 | n+1,k,f+1,hk,hf,hok=>by
   have hlt:k < ents.length:=by omega
   have hlk:ents[k]?=some ents[k]:=List.getElem?_eq_getElem hlt
   have hd:=(impl_derive ok hs hq hok hql (by rw [List.length_take]; omega) ⟨ents[k].kind,ents[k].a,ents[k].b,ents[k].place,ents[k].side,[],[]⟩).eq
   have e0:derR l eqs (ents.take k) ⟨ents[k].kind,ents[k].a,ents[k].b,ents[k].place,ents[k].side,[],[]⟩=derR l eqs (ents.take k) ents[k]:=rfl
   rw [e0] at hd
   simp only [impl_CheckEntries.next0,impl_CheckEntries.round0,evz,Nat.reduceLT,hlt,hlk,win_take,enc_Entry,slc_nil] at hd ⊢
   rw [cond_pos (win_guard (Nat.le_of_lt hlt))]
   simp only [evz,Nat.reduceLT,hd]
   rw [chkN,getN hlt]
   by_cases c:(derR l eqs (ents.take k) ents[k]).code=0
   case neg=>simp only [c,evz,Nat.reduceLT,ne_eq,not_false_eq_true]
   have hdo:=derR_ok ok hq hok c
   have h1:=entry_eqn (made ⟨ents[k].kind,ents[k].a,ents[k].b,ents[k].place,ents[k].side,[],[]⟩ (derR l eqs (ents.take k) ents[k]))
   have h2:=entry_eqn ents[k]
   rw [enc_Entry] at h1 h2
   have e1:(made ⟨ents[k].kind,ents[k].a,ents[k].b,ents[k].place,ents[k].side,[],[]⟩ (derR l eqs (ents.take k) ents[k])).left=(derR l eqs (ents.take k) ents[k]).equation.left:=by unfold made; rw [if_neg (by simpa using c)]
   have e2:(made ⟨ents[k].kind,ents[k].a,ents[k].b,ents[k].place,ents[k].side,[],[]⟩ (derR l eqs (ents.take k) ents[k])).right=(derR l eqs (ents.take k) ents[k]).equation.right:=by unfold made; rw [if_neg (by simpa using c)]
   have h3:=impl_sameEquation (derR l eqs (ents.take k) ents[k]).equation.left (derR l eqs (ents.take k) ents[k]).equation.right ents[k].left ents[k].right (sm_mono (by omega) hdo.small)
   rw [e1,e2] at h1
   simp only [c,evz,Nat.reduceLT,ne_eq,not_true_eq_false,e1,e2,h1.eq,h2.eq,h3.eq]
   by_cases c1:(derR l eqs (ents.take k) ents[k]).equation=eqOf ents[k]
   case neg =>
    have c2:¬ (Equation.mk (derR l eqs (ents.take k) ents[k]).equation.left (derR l eqs (ents.take k) ents[k]).equation.right)=Equation.mk ents[k].left ents[k].right:=c1
    simp only [c1,c2,evz,Nat.reduceLT,decide_false,Bool.not_false]
   have c2:(Equation.mk (derR l eqs (ents.take k) ents[k]).equation.left (derR l eqs (ents.take k) ents[k]).equation.right)=Equation.mk ents[k].left ents[k].right:=c1
   rw [if_pos c1]
   simp only [c2,evz,Nat.reduceLT,decide_true,Bool.not_true]
   rw [wrap_succ (by omega)]
   refine impl_check n (k+1) f (by omega) (by omega) (fun x hx => ?_)
   rw [take_getE hlt] at hx
   rcases List.mem_append.1 hx with hx | hx
   · exact hok x hx
   · rw [List.mem_singleton.1 hx,← c1]
     exact hdo
end
theorem spec_CheckEntries (s:Signature) (eqs:List Equation) (ents:List Entry) (hs:sm 1048576 s) (hq:sm 1048576 eqs) (he:sm 1048576 ents) :
 Call F.spec_CheckEntries [.agg (enc s),slc eqs,slc ents] (.int .i64 (checkR s eqs ents)):=by
 obtain ⟨l⟩:=s
 show Call F.spec_CheckEntries [.agg [slc l],slc eqs,slc ents] _
 refine call_of rfl 0 ((spec_CheckEntries.ev _ _ _ _).trans ?_)
 have hsl:l.length≤4294967296:=Nat.le_trans hs.1 (by omega)
 simp only [evz,Nat.reduceLT,(spec_EquationsFault l hsl eqs (sm_mono (by omega) hq)).eq,checkR]
 by_cases h1:sigFault ⟨l⟩=0
 case neg=>simp only [h1,evz,Nat.reduceLT,ne_eq,not_false_eq_true]
 have ok:=(sigOk_iff _).1 h1
 by_cases h2:eqsFault l eqs=0
 case neg=>simp only [h1,h2,evz,Nat.reduceLT,ne_eq,not_false_eq_true,not_true_eq_false]
 obtain ⟨q1,q2⟩:=eqsOk_iff.1 h2
 have hc:Call F.spec_l11Check [.rref [slc l] 0,slc eqs,slc ents] (.int .i64 (if 500 < ents.length then 2 else chkN l eqs ents ents.length 0)):=by
  refine call_of rfl (ents.length+1) ((spec_l11Check.ev _ _ _ _).trans ?_)
  simp only [evz,Nat.reduceLT,gt_iff_lt]
  by_cases h3:500 < ents.length
  · have h3':(500:Int) < ents.length:=by omega
    simp only [h3,h3',evz,Nat.reduceLT]
  · have h3':¬ (500:Int) < ents.length:=by omega
    simp only [h3,h3',evz,Nat.reduceLT]
    exact spec_check ok hs q2 q1 (by omega) ents.length 0 _ (by omega) (by omega) (by simp)
 simp only [h1,h2,evz,Nat.reduceLT,ne_eq,not_true_eq_false,hc.eq]
theorem impl_CheckEntries (s:Signature) (eqs:List Equation) (ents:List Entry) (hs:sm 1048576 s) (hq:sm 1048576 eqs) (he:sm 1048576 ents) :
 Call F.impl_CheckEntries [.agg (enc s),slc eqs,slc ents] (.int .i64 (checkR s eqs ents)):=by
 obtain ⟨l⟩:=s
 show Call F.impl_CheckEntries [.agg [slc l],slc eqs,slc ents] _
 refine call_of rfl (ents.length+1) ((impl_CheckEntries.ev _ _ _ _).trans ?_)
 have hsl:l.length≤4294967296:=Nat.le_trans hs.1 (by omega)
 simp only [evz,Nat.reduceLT,(impl_EquationsFault l hsl eqs (sm_mono (by omega) hq)).eq,checkR,gt_iff_lt]
 by_cases h1:sigFault ⟨l⟩=0
 case neg=>simp only [h1,evz,Nat.reduceLT,ne_eq,not_false_eq_true]
 have ok:=(sigOk_iff _).1 h1
 by_cases h2:eqsFault l eqs=0
 case neg=>simp only [h1,h2,evz,Nat.reduceLT,ne_eq,not_false_eq_true,not_true_eq_false]
 obtain ⟨q1,q2⟩:=eqsOk_iff.1 h2
 by_cases h3:500 < ents.length
 · have h3':(500:Int) < ents.length:=by omega
   simp only [h1,h2,h3,h3',evz,Nat.reduceLT,ne_eq,not_true_eq_false]
 · have h3':¬ (500:Int) < ents.length:=by omega
   simp only [h1,h2,h3,h3',evz,Nat.reduceLT,ne_eq,not_true_eq_false]
   exact impl_check ok hs q2 q1 (by omega) ents.length 0 _ (by omega) (by omega) (by simp)
end Ev.Ty
end
section
namespace Ev.Ty
open Go Ev
open Enc (enc)
open Sm (sm)
set_option linter.unusedSimpArgs false
set_option linter.unusedVariables false
theorem orderFault_ok {l:List Symbol} {o:List Int} (h:orderFault ⟨l⟩ o=0):sigFault ⟨l⟩=0∧orderF l o=0:=by
 unfold orderFault at h
 split at h
 · rename_i h1; exact absurd h h1
 · rename_i h1; exact ⟨by simpa using h1,h⟩
end Ev.Ty
end
section
namespace Ev.Ty
open Go Ev
open Enc (enc)
open Sm (sm)
set_option linter.unusedSimpArgs false
set_option linter.unusedVariables false
def rulesOfC (ents:List Entry) (rs:List Int):List Equation:=rs.map fun n=>eqOf (ents.getD n.toNat ⟨0,0,0,0,0,[],[]⟩)
def outs (k:Nat) (ns:List Int):Bool:=ns.any fun n => !inR n 0 (k - 1)
noncomputable def complFault (s:Signature) (c:Completion):Int :=
 if orderFault s c.order≠0 then orderFault s c.order else if checkR s c.equations c.entries≠0 then checkR s c.equations c.entries
 else if 12 < c.rules.length∨100 < c.waiting.length then 2
 else if outs c.entries.length c.rules=true∨outs c.entries.length c.waiting=true∨inR c.rounds 0 150=false then 3
 else if falling s.symbols c.order (rulesOfC c.entries c.rules)=false then 10 else 0
noncomputable def isCompleteR (s:Signature) (c:Completion):Bool:=decide (complFault s c=0)&&decide (c.waiting.length=0)
theorem outs_in {k:Nat} {ns:List Int} (h:outs k ns=false):∀ n∈ns,0≤n∧n.toNat < k:=fun n hn=>by
 unfold outs at h
 rw [List.any_eq_false] at h
 have:=h n hn
 have:=inR_iff.1 (by simpa using this:inR n 0 ((k:Int) - 1)=true)
 omega
theorem rulesOfC_mem {l:List Symbol} {ents:List Entry} {rs:List Int} (he:∀ x∈ents,EqOk l (eqOf x)) (hr:∀ n∈rs,0≤n∧n.toNat < ents.length):∀ e∈rulesOfC ents rs,EqOk l e:=fun e h=>by
 obtain ⟨n,hn,rfl⟩:=List.mem_map.1 h
 rw [getN (hr n hn).2]
 exact he _ (List.getElem_mem _)
theorem rulesOfC_step {ents:List Entry} {rs:List Int} {k:Nat} (h:k < rs.length):rulesOfC ents (rs.take (k+1))=rulesOfC ents (rs.take k)++[eqOf (ents.getD rs[k].toNat ⟨0,0,0,0,0,[],[]⟩)]:=by
 unfold rulesOfC
 rw [List.take_add_one,List.getElem?_eq_getElem h,List.map_append]
 rfl
section
variable {l:List Symbol} (o:List Int) (es:List Equation) {ents:List Entry} {rs:List Int} (ws:List Int) (rd:Int)
variable (he:∀ x∈ents,EqOk l (eqOf x)) (hel:ents.length≤500) (hr:∀ n∈rs,0≤n∧n.toNat < ents.length) (hrl:rs.length≤12)
include he hel hr hrl
theorem spec_l12Rules:Call F.spec_l12Rules [.rref [slc o,slc es,slc ents,slc rs,slc ws,.int .i64 rd] 0] (slc (rulesOfC ents rs)):=by
 refine call_of rfl (rs.length+1) ((spec_l12Rules.ev _ _ _ _ _ _ _).trans ?_)
 have key:=run_loop (n:=rs.length) (f:=rs.length+1) (S:=fun m k (q:List Equation)=>spec_l12Rules.at0 (rs.length+1) m (spec_l12Rules.st0 (cells o) (cells es) (cells ents) (cells rs) (cells ws) rd (k:Nat) (cells q)))
  (st:=fun k=>rulesOfC ents (rs.take k)) (z:=some (slc (rulesOfC ents rs),[])) (fun m k h => ?_) (fun m => ?_) (Nat.lt_succ_self _)
 · rw [List.take_zero] at key
   exact key
 · have hlk:rs[k]?=some rs[k]:=List.getElem?_eq_getElem h
   obtain ⟨h0,h1⟩:=hr _ (List.getElem_mem h)
   obtain ⟨a,ha⟩:∃ a:Nat,rs[k]=a:=⟨rs[k].toNat,by omega⟩
   rw [ha,Int.toNat_natCast] at h1
   have hla:ents[a]?=some ents[a]:=List.getElem?_eq_getElem h1
   have hea:=he _ (List.getElem_mem h1)
   have hc:Call F.spec_l12Rule [.rref [slc o,slc es,slc ents,slc rs,slc ws,.int .i64 rd] 0,.int .i64 k] (.agg [slc ents[a].left,slc ents[a].right]):=by
    refine call_of rfl 0 ((spec_l12Rule.ev _ _ _ _ _ _ _ _).trans ?_)
    simp only [evz,Nat.reduceLT,h,hlk,enc_int,ha,h1,cells_window (k:=7) (i:=a) rfl hla,(spec_l11Equation ents[a] (ent_small hea)).eq]
   have hst:cells (rulesOfC ents (rs.take (k+1)))=cells (rulesOfC ents (rs.take k))++[slc ents[a].left,slc ents[a].right]:=by
    rw [rulesOfC_step h,ha,Int.toNat_natCast,getN h1,cells_append]
    rfl
   have hlen:(rulesOfC ents (rs.take k)).length≤12:=by unfold rulesOfC; rw [List.length_map,List.length_take]; omega
   simp only [spec_l12Rules.next0,spec_l12Rules.round0,evz,Nat.reduceLT,h,hc.eq]
   rw [cond_pos (ble_ok (by rw [cells_length,sz_Equation]; omega)),wrap_succ (by omega),hst]
 · simp only [spec_l12Rules.next0,spec_l12Rules.round0,evz,Nat.reduceLT,Nat.lt_irrefl,List.take_length]
theorem impl_Completion_rules:Call F.impl_Completion_rules [.agg [slc o,slc es,slc ents,slc rs,slc ws,.int .i64 rd]] (slc (rulesOfC ents rs)):=by
 refine call_of rfl (rs.length+1) ((impl_Completion_rules.ev _ _ _ _ _ _ _).trans ?_)
 simp only [evz,Nat.reduceLT]
 have key:=run_loop (n:=rs.length) (f:=rs.length+1) (S:=fun m k (q:List Equation)=>impl_Completion_rules.at0 (rs.length+1) m (impl_Completion_rules.st0 (cells rs) rs.length (k:Nat) (cells o) (cells es) (cells ents) (cells rs) (cells ws) rd (cells q)))
  (st:=fun k=>rulesOfC ents (rs.take k)) (z:=some (slc (rulesOfC ents rs),[])) (fun m k h => ?_) (fun m => ?_) (Nat.lt_succ_self _)
 · rw [List.take_zero] at key
   exact key
 · have hlk:rs[k]?=some rs[k]:=List.getElem?_eq_getElem h
   obtain ⟨h0,h1⟩:=hr _ (List.getElem_mem h)
   obtain ⟨a,ha⟩:∃ a:Nat,rs[k]=a:=⟨rs[k].toNat,by omega⟩
   rw [ha,Int.toNat_natCast] at h1
   have hla:ents[a]?=some ents[a]:=List.getElem?_eq_getElem h1
   have hea:=he _ (List.getElem_mem h1)
   have hee:=entry_eqn ents[a]
   rw [enc_Entry] at hee
   have hst:cells (rulesOfC ents (rs.take (k+1)))=cells (rulesOfC ents (rs.take k))++[slc ents[a].left,slc ents[a].right]:=by
    rw [rulesOfC_step h,ha,Int.toNat_natCast,getN h1,cells_append]
    rfl
   have hlen:(rulesOfC ents (rs.take k)).length≤12:=by unfold rulesOfC; rw [List.length_map,List.length_take]; omega
   simp only [impl_Completion_rules.next0,impl_Completion_rules.round0,evz,Nat.reduceLT,h,hlk,enc_int,ha,h1,hla,enc_Entry,hee.eq]
   rw [cond_pos (ble_ok (by rw [cells_length,sz_Equation]; omega)),wrap_succ (by omega),hst]
 · simp only [impl_Completion_rules.next0,impl_Completion_rules.round0,evz,Nat.reduceLT,Nat.lt_irrefl,List.take_length]
end
theorem impl_areEntries (o:List Int) (es:List Equation) {ents:List Entry} (rs ws:List Int) (rd:Int) (hel:ents.length≤500) (ns:List Int) (hn:ns.length≤4294967296) :
 Call F.impl_Completion_areEntries [.agg [slc o,slc es,slc ents,slc rs,slc ws,.int .i64 rd],slc ns] (.bool (!outs ents.length ns)):=by
 have hi:Call F.slices_IndexFunc_Sint64 [slc ns,.clo F.impl_Completion_areEntries_1 [.rref [slc o,slc es,slc ents,slc rs,slc ws,.int .i64 rd] 0]] (.int .i64 (idx (fun n => !inR n 0 ((ents.length:Int) - 1)) ns)):=by
  refine call_of rfl (ns.length+1) ((slices_IndexFunc_Sint64_at1_impl_Completion_areEntries_1.ev _ _ _ _ _ _ _ _).trans ?_)
  simp only [evz,Nat.reduceLT]
  refine idx_loop (S:=fun m k=>slices_IndexFunc_Sint64_at1_impl_Completion_areEntries_1.at0 (ns.length+1) m (slices_IndexFunc_Sint64_at1_impl_Completion_areEntries_1.st0 (cells ns) (cells o) (cells es) (cells ents) (cells rs) (cells ws) rd ns.length (k:Nat))) (fun m k h => ?_) (fun m => ?_) (Nat.lt_succ_self _)
  · have hlk:ns[k]?=some ns[k]:=List.getElem?_eq_getElem h
    have hc:Call F.impl_Completion_areEntries_1 [.int .i64 ns[k],.rref [slc o,slc es,slc ents,slc rs,slc ws,.int .i64 rd] 0] (.bool (!inR ns[k] 0 ((ents.length:Int) - 1))):=by
     refine call_of rfl 0 ((impl_Completion_areEntries_1.ev _ _ _ _ _ _ _ _).trans ?_)
     simp only [evz,Nat.reduceLT,wrap64 (x:=(ents.length:Int) - 1) (by omega),(impl_within _ _ _).eq]
    simp only [slices_IndexFunc_Sint64_at1_impl_Completion_areEntries_1.next0,slices_IndexFunc_Sint64_at1_impl_Completion_areEntries_1.round0,evz,Nat.reduceLT,h,hlk,enc_int,hc.eq]
    rw [wrap_succ (by omega)]
    cases inR ns[k] 0 ((ents.length:Int) - 1) <;> rfl
  · simp only [slices_IndexFunc_Sint64_at1_impl_Completion_areEntries_1.next0,slices_IndexFunc_Sint64_at1_impl_Completion_areEntries_1.round0,evz,Nat.reduceLT,Nat.lt_irrefl]
 have hc:Call F.slices_ContainsFunc_Sint64 [slc ns,.clo F.impl_Completion_areEntries_1 [.rref [slc o,slc es,slc ents,slc rs,slc ws,.int .i64 rd] 0]] (.bool (outs ents.length ns)):=by
  refine call_of rfl 0 ((slices_ContainsFunc_Sint64_at1_impl_Completion_areEntries_1.ev _ _ _ _ _ _ _ _).trans ?_)
  simp only [evz,Nat.reduceLT,hi.eq,idx_nonneg]
  rfl
 refine call_of rfl 0 ((impl_Completion_areEntries.ev _ _ _ _ _ _ _ _).trans ?_)
 simp only [evz,Nat.reduceLT,hc.eq]
theorem impl_CompletionFault (s:Signature) (c:Completion) (hs:sm 1048576 s) (hc:sm 1048576 c):Call F.impl_CompletionFault [.agg (enc s),.agg (enc c)] (.int .i64 (complFault s c)):=by
 obtain ⟨l⟩:=s
 obtain ⟨o,es,ents,rs,ws,rd⟩:=c
 obtain ⟨ho,hes,hen,hrs,hws⟩:=hc
 have hsl:l.length≤4294967296:=Nat.le_trans hs.1 (by omega)
 have hol:o.length≤4294967296:=Nat.le_trans ho.1 (by omega)
 have hrl:rs.length≤1048576:=hrs.1
 have hwl:ws.length≤1048576:=hws.1
 have hck:LIM F.impl_CheckEntries [.agg [slc l],slc es,slc ents]=some (.int .i64 (checkR ⟨l⟩ es ents),[]):=(impl_CheckEntries ⟨l⟩ es ents hs hes hen).eq
 show Call F.impl_CompletionFault [.agg [slc l],.agg [slc o,slc es,slc ents,slc rs,slc ws,.int .i64 rd]] _
 refine call_of rfl 0 ((impl_CompletionFault.ev _ _ _ _ _ _ _ _).trans ?_)
 simp only [evz,Nat.reduceLT,(impl_OrderFault l hsl o hol).eq,hck,(firstCode2 _ _).eq,complFault,gt_iff_lt]
 by_cases h1:orderFault ⟨l⟩ o=0
 case neg=>simp only [h1,evz,Nat.reduceLT,ne_eq,not_false_eq_true]
 by_cases h2:checkR ⟨l⟩ es ents=0
 case neg=>simp only [h1,h2,evz,Nat.reduceLT,ne_eq,not_false_eq_true,not_true_eq_false]
 obtain ⟨ok,q1,q2,q3,q4⟩:=checkR_ok h2
 obtain ⟨_,hof⟩:=orderFault_ok h1
 simp only [h1,h2,evz,Nat.reduceLT,ne_eq,not_true_eq_false]
 by_cases h3:12 < rs.length
 · have h3':(12:Int) < rs.length:=by omega
   simp only [h3,h3',evz,Nat.reduceLT,true_or]
 have h3':¬ (12:Int) < rs.length:=by omega
 by_cases h4:100 < ws.length
 · have h4':(100:Int) < ws.length:=by omega
   simp only [h3,h3',h4,h4',evz,Nat.reduceLT,or_true]
 have h4':¬ (100:Int) < ws.length:=by omega
 simp only [h3,h3',h4,h4',evz,Nat.reduceLT,or_self,(impl_areEntries o es rs ws rd q3 rs (by omega)).eq,(impl_areEntries o es rs ws rd q3 ws (by omega)).eq,(impl_within _ _ _).eq]
 cases h5:outs ents.length rs with
 | true=>simp only [evz,Nat.reduceLT,Bool.not_true,Bool.not_false,true_or]
 | false =>
   cases h6:outs ents.length ws with
   | true=>simp only [evz,Nat.reduceLT,Bool.not_true,Bool.not_false,true_or,or_true]
   | false =>
     cases h7:inR rd 0 150 with
     | false=>simp only [evz,Nat.reduceLT,Bool.not_true,Bool.not_false,or_true]
     | true =>
       have hri:=outs_in h5
       have hre:=rulesOfC_mem q4 hri
       have hrul:=(impl_Completion_rules o es ws rd q4 q3 hri (by omega)).eq
       obtain ⟨p1,p2⟩:=orderOk hof
       have hls:l.length≤6:=ok.le
       obtain ⟨R,hR⟩:∃ R,R=rulesOfC ents rs:=⟨_,rfl⟩
       have hRl:R.length≤12:=by rw [hR]; unfold rulesOfC; rw [List.length_map]; omega
       rw [← hR] at hre hrul ⊢
       have hi:Call F.slices_IndexFunc_SEquation [slc R,.clo F.impl_CompletionFault_1 [.rref [slc l] 0,.rref [slc o,slc es,slc ents,slc rs,slc ws,.int .i64 rd] 0]] (.int .i64 (idx (fun e => !gt l o e.left e.right 0 0) R)):=by
        refine call_of rfl (R.length+1) ((slices_IndexFunc_SEquation_at1_impl_CompletionFault_1.ev _ _ _ _ _ _ _ _ _).trans ?_)
        simp only [evz,Nat.reduceLT]
        refine idx_loop (S:=fun m k=>slices_IndexFunc_SEquation_at1_impl_CompletionFault_1.at0 (R.length+1) m (slices_IndexFunc_SEquation_at1_impl_CompletionFault_1.st0 (cells R) (cells l) (cells o) (cells es) (cells ents) (cells rs) (cells ws) rd R.length (k:Nat))) (fun m k h => ?_) (fun m => ?_) (Nat.lt_succ_self _)
        · have hlk:R[k]?=some R[k]:=List.getElem?_eq_getElem h
          have he:=hre _ (List.getElem_mem h)
          have hc:Call F.impl_CompletionFault_1 [.agg [slc R[k].left,slc R[k].right],.rref [slc l] 0,.rref [slc o,slc es,slc ents,slc rs,slc ws,.int .i64 rd] 0] (.bool (!gt l o R[k].left R[k].right 0 0)):=by
           refine call_of rfl 0 ((impl_CompletionFault_1.ev _ _ _ _ _ _ _ _ _ _).trans ?_)
           simp only [evz,Nat.reduceLT,(impl_isGreater ok he.left he.right (by omega) p2).eq]
          simp only [slices_IndexFunc_SEquation_at1_impl_CompletionFault_1.next0,slices_IndexFunc_SEquation_at1_impl_CompletionFault_1.round0,evz,Nat.reduceLT,h,hlk,enc_Equation,hc.eq]
          rw [wrap_succ (by omega)]
          cases gt l o R[k].left R[k].right 0 0 <;> rfl
        · simp only [slices_IndexFunc_SEquation_at1_impl_CompletionFault_1.next0,slices_IndexFunc_SEquation_at1_impl_CompletionFault_1.round0,evz,Nat.reduceLT,Nat.lt_irrefl]
       have hc:Call F.slices_ContainsFunc_SEquation [slc R,.clo F.impl_CompletionFault_1 [.rref [slc l] 0,.rref [slc o,slc es,slc ents,slc rs,slc ws,.int .i64 rd] 0]] (.bool (R.any fun e => !gt l o e.left e.right 0 0)):=by
        refine call_of rfl 0 ((slices_ContainsFunc_SEquation_at1_impl_CompletionFault_1.ev _ _ _ _ _ _ _ _ _).trans ?_)
        simp only [evz,Nat.reduceLT,hi.eq,idx_nonneg]
       simp only [evz,Nat.reduceLT,Bool.not_true,Bool.not_false,or_self,hrul,hc.eq,falling,reduceCtorEq]
       by_cases hx:(R.any fun e => !gt l o e.left e.right 0 0)=true
       · simp only [hx,cond_true,Bool.not_true,if_true]
       · simp only [Bool.not_eq_true] at hx
         simp only [hx,cond_false,Bool.not_false,reduceCtorEq,if_false]
theorem spec_CompletionFault (s:Signature) (c:Completion) (hs:sm 1048576 s) (hc:sm 1048576 c):Call F.spec_CompletionFault [.agg (enc s),.agg (enc c)] (.int .i64 (complFault s c)):=by
 obtain ⟨l⟩:=s
 obtain ⟨o,es,ents,rs,ws,rd⟩:=c
 obtain ⟨ho,hes,hen,hrs,hws⟩:=hc
 have hsl:l.length≤4294967296:=Nat.le_trans hs.1 (by omega)
 have hol:o.length≤4294967296:=Nat.le_trans ho.1 (by omega)
 have hrl:rs.length≤1048576:=hrs.1
 have hwl:ws.length≤1048576:=hws.1
 have hck:LIM F.spec_CheckEntries [.agg [slc l],slc es,slc ents]=some (.int .i64 (checkR ⟨l⟩ es ents),[]):=(spec_CheckEntries ⟨l⟩ es ents hs hes hen).eq
 show Call F.spec_CompletionFault [.agg [slc l],.agg [slc o,slc es,slc ents,slc rs,slc ws,.int .i64 rd]] _
 refine call_of rfl 200 ((spec_CompletionFault.ev _ _ _ _ _ _ _ _).trans ?_)
 simp only [evz,Nat.reduceLT,(spec_OrderFault l hsl o hol).eq,hck,complFault,gt_iff_lt]
 by_cases h1:orderFault ⟨l⟩ o=0
 case neg=>simp only [h1,evz,Nat.reduceLT,ne_eq,not_false_eq_true]
 by_cases h2:checkR ⟨l⟩ es ents=0
 case neg=>simp only [h1,h2,evz,Nat.reduceLT,ne_eq,not_false_eq_true,not_true_eq_false]
 obtain ⟨ok,q1,q2,q3,q4⟩:=checkR_ok h2
 obtain ⟨_,hof⟩:=orderFault_ok h1
 simp only [h1,h2,evz,Nat.reduceLT,ne_eq,not_true_eq_false]
 by_cases h3:12 < rs.length
 · have h3':(12:Int) < rs.length:=by omega
   simp only [h3,h3',evz,Nat.reduceLT,true_or]
 have h3':¬ (12:Int) < rs.length:=by omega
 by_cases h4:100 < ws.length
 · have h4':(100:Int) < ws.length:=by omega
   simp only [h3,h3',h4,h4',evz,Nat.reduceLT,or_true]
 have h4':¬ (100:Int) < ws.length:=by omega
 simp only [h3,h3',h4,h4',evz,Nat.reduceLT,or_self,wrap64 (x:=(ents.length:Int) - 1) (by omega)]
 refine (any_loopL (l:=rs) (p:=fun n => !inR n 0 ((ents.length:Int) - 1)) (r:=some (.int .i64 3,[])) (z:=spec_CompletionFault.at2 200 200 (spec_CompletionFault.st2 ((ents.length:Int) - 1) (0:Nat) (cells l) (cells o) (cells es) (cells ents) (cells rs) (cells ws) rd))
  (S:=fun m k=>spec_CompletionFault.at0 200 m (spec_CompletionFault.st0 ((ents.length:Int) - 1) (k:Nat) (cells l) (cells o) (cells es) (cells ents) (cells rs) (cells ws) rd)) (fun m k h => ?_) (fun m => ?_) (by omega)).trans ?_
 · have hlk:rs[k]?=some rs[k]:=List.getElem?_eq_getElem h
   simp only [spec_CompletionFault.next0,spec_CompletionFault.round0,evz,Nat.reduceLT,h,hlk,enc_int,(spec_l1In _ _ _).eq]
   rw [wrap_succ (by omega)]
   cases inR rs[k] 0 ((ents.length:Int) - 1) <;> rfl
 · simp only [spec_CompletionFault.next0,spec_CompletionFault.round0,evz,Nat.reduceLT,Nat.lt_irrefl]
   rfl
 show (if outs ents.length rs=true then _ else _)=_
 cases h5:outs ents.length rs with
 | true=>simp only [evz,Nat.reduceLT,true_or]
 | false =>
   simp only [evz,Nat.reduceLT,false_or,reduceCtorEq]
   have hri:=outs_in h5
   have hre:=rulesOfC_mem q4 hri
   have hrul:=(spec_l12Rules o es ws rd q4 q3 hri (by omega)).eq
   have hRl:(rulesOfC ents rs).length≤12:=by unfold rulesOfC; rw [List.length_map]; omega
   have hfl:=(spec_l7Falls ok hof hre (by omega)).eq
   refine (any_loopL (l:=ws) (p:=fun n => !inR n 0 ((ents.length:Int) - 1)) (r:=some (.int .i64 3,[])) (z:=if inR rd 0 150=false then some (.int .i64 3,[]) else if falling l o (rulesOfC ents rs)=false then some (.int .i64 10,[]) else some (.int .i64 0,[]))
    (S:=fun m k=>spec_CompletionFault.at2 200 m (spec_CompletionFault.st2 ((ents.length:Int) - 1) (k:Nat) (cells l) (cells o) (cells es) (cells ents) (cells rs) (cells ws) rd)) (fun m k h => ?_) (fun m => ?_) (by omega)).trans ?_
   · have hlk:ws[k]?=some ws[k]:=List.getElem?_eq_getElem h
     simp only [spec_CompletionFault.next2,spec_CompletionFault.round2,evz,Nat.reduceLT,h,hlk,enc_int,(spec_l1In _ _ _).eq]
     rw [wrap_succ (by omega)]
     cases inR ws[k] 0 ((ents.length:Int) - 1) <;> rfl
   · simp only [spec_CompletionFault.next2,spec_CompletionFault.round2,evz,Nat.reduceLT,Nat.lt_irrefl,(spec_l1In _ _ _).eq,hrul,hfl]
     cases inR rd 0 150 <;> cases falling l o (rulesOfC ents rs) <;> rfl
   show (if outs ents.length ws=true then _ else _)=_
   cases h6:outs ents.length ws <;> cases inR rd 0 150 <;> cases falling l o (rulesOfC ents rs) <;> simp
theorem spec_IsComplete (s:Signature) (c:Completion) (hs:sm 1048576 s) (hc:sm 1048576 c):Call F.spec_IsComplete [.agg (enc s),.agg (enc c)] (.bool (isCompleteR s c)):=by
 have hf:=(spec_CompletionFault s c hs hc).eq
 obtain ⟨l⟩:=s
 obtain ⟨o,es,ents,rs,ws,rd⟩:=c
 show Call F.spec_IsComplete [.agg [slc l],.agg [slc o,slc es,slc ents,slc rs,slc ws,.int .i64 rd]] _
 have hf:LIM F.spec_CompletionFault [.agg [slc l],.agg [slc o,slc es,slc ents,slc rs,slc ws,.int .i64 rd]]=some (.int .i64 (complFault ⟨l⟩ ⟨o,es,ents,rs,ws,rd⟩),[]):=hf
 refine call_of rfl 0 ((spec_IsComplete.ev _ _ _ _ _ _ _ _).trans ?_)
 simp only [evz,Nat.reduceLT,hf,isCompleteR]
 by_cases h:complFault ⟨l⟩ ⟨o,es,ents,rs,ws,rd⟩=0
 · by_cases h2:ws.length=0 <;> simp [evz,Nat.reduceLT,h,h2]
 · simp [evz,Nat.reduceLT,h]
theorem impl_IsComplete (s:Signature) (c:Completion) (hs:sm 1048576 s) (hc:sm 1048576 c):Call F.impl_IsComplete [.agg (enc s),.agg (enc c)] (.bool (isCompleteR s c)):=by
 have hf:=(impl_CompletionFault s c hs hc).eq
 obtain ⟨l⟩:=s
 obtain ⟨o,es,ents,rs,ws,rd⟩:=c
 show Call F.impl_IsComplete [.agg [slc l],.agg [slc o,slc es,slc ents,slc rs,slc ws,.int .i64 rd]] _
 have hf:LIM F.impl_CompletionFault [.agg [slc l],.agg [slc o,slc es,slc ents,slc rs,slc ws,.int .i64 rd]]=some (.int .i64 (complFault ⟨l⟩ ⟨o,es,ents,rs,ws,rd⟩),[]):=hf
 refine call_of rfl 0 ((impl_IsComplete.ev _ _ _ _ _ _ _ _).trans ?_)
 simp only [evz,Nat.reduceLT,hf,isCompleteR]
 by_cases h:complFault ⟨l⟩ ⟨o,es,ents,rs,ws,rd⟩=0
 · by_cases h2:ws.length=0 <;> simp [evz,Nat.reduceLT,h,h2]
 · simp [evz,Nat.reduceLT,h]
end Ev.Ty
end
section
namespace Ev.Ty
open Go Ev
open Enc (enc)
open Sm (sm)
set_option linter.unusedSimpArgs false
set_option linter.unusedVariables false
set_option maxRecDepth 100000
set_option maxHeartbeats 2000000
theorem laws_FnExactIsComplete (s:Signature) (c:Completion) (h_s:sm maxLen s) (h_c:sm maxLen c):Call F.laws_FnExactIsComplete [.agg (enc s),.agg (enc c)] (.bool true):=by
 obtain ⟨r0,c0,g0,p0⟩:=laws_szSignature s.symbols 1048576 (by omega) (by omega) h_s
 by_cases n0:r0 < 0
 · exact call_of rfl 0 ((laws_FnExactIsComplete.ev _ _ _ _ _ _ _ _ ).trans (by simp only [evz,Nat.reduceLT,c0.eq,n0]))
 obtain ⟨r1,c1,g1,p1⟩:=laws_szCompletion c.order c.equations c.entries c.rules c.waiting c.rounds r0 (by omega) (by omega) h_c
 by_cases n1:r1 < 0
 · exact call_of rfl 0 ((laws_FnExactIsComplete.ev _ _ _ _ _ _ _ _ ).trans (by simp only [evz,Nat.reduceLT,c0.eq,n0,c1.eq,n1]))
 have q_s:=p0 (by omega)
 have s_s:=sm_mono (show 1048576≤4294967296 by omega) q_s
 have m_s:=sm_mono (show 1048576≤67108864 by omega) q_s
 have q_c:=p1 (by omega)
 have s_c:=sm_mono (show 1048576≤4294967296 by omega) q_c
 have m_c:=sm_mono (show 1048576≤67108864 by omega) q_c
 have hi:Call F.impl_IsComplete [.agg [slc s.symbols],.agg [slc c.order,slc c.equations,slc c.entries,slc c.rules,slc c.waiting,.int .i64 c.rounds]] (.bool (isCompleteR s c)):=impl_IsComplete s c q_s q_c
 have hp:Call F.spec_IsComplete [.agg [slc s.symbols],.agg [slc c.order,slc c.equations,slc c.entries,slc c.rules,slc c.waiting,.int .i64 c.rounds]] (.bool (isCompleteR s c)):=spec_IsComplete s c q_s q_c
 exact call_of rfl 0 ((laws_FnExactIsComplete.ev _ _ _ _ _ _ _ _ ).trans (by simp only [evz,Nat.reduceLT,c0.eq,n0,c1.eq,n1,hi.eq,hp.eq,(laws_toSignature s.symbols s_s).eq,(laws_eqSignature s.symbols _  s_s).eq,(laws_toCompletion c.order c.equations c.entries c.rules c.waiting c.rounds s_c).eq,(laws_eqCompletion c.order c.equations c.entries c.rules c.waiting c.rounds _ _ _ _ _ _  s_c).eq,decide_true,Bool.not_true,cond_false]))
end Ev.Ty
end
