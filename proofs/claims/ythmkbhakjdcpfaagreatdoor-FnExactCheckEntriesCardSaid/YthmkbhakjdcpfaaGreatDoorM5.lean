/- Steps on the way to RowCheckEntries: TyPeak2, TyPeaks, TyAllPeaks, TyUnjoined, TyHolds, TyAllHold, TyEntries, TyDeriveP, TyDerive, TyLCheckEntries. -/
import Derived.Test.YthmkbhakjdcpfaaGreatDoorM4
set_option linter.unusedSectionVars false
section
namespace Ev.Ty
open Go Ev
open Enc (enc)
open Sm (sm)
set_option linter.unusedSimpArgs false
set_option linter.unusedVariables false
theorem unif_code {l:List Symbol}:∀ {n:Nat} {b:Bnd} {ps:List Pr} {c:Int},unif l n b ps=some (.inr c)→c=2∨c=4
 | 0,b,ps,c,h=>by cases h
 | n+1,b,[],c,h=>by cases h
 | n+1,b,p::ps,c,h=>by
   rw [unif] at h
   split at h
   · cases h; exact .inl rfl
   split at h
   · exact unif_code h
   split at h
   · split at h
     · cases h; exact .inr rfl
     split at h
     · cases h; exact .inl rfl
     · exact unif_code h
   split at h
   · split at h
     · cases h; exact .inr rfl
     split at h
     · cases h; exact .inl rfl
     · exact unif_code h
   split at h
   · cases h; exact .inr rfl
   · exact unif_code h
theorem unifR_code {l:List Symbol} {a b:List Int} (ha:TermOk l a) (hb:TermOk l b) {c:Int} (h:unifR l a b = .inr c):c=2∨c=4:=by
 obtain ⟨⟨n,hn⟩,_⟩:=unifR_spec ha hb
 rw [h] at hn
 exact unif_code hn
theorem replAt_range {l:List Symbol} (ok:SigOk ⟨l⟩) {t u:List Int} (ht:TermOk l t) (hu:TermOk l u) (p:Nat):∀ n∈replAt l t p u,-4611686018427387904≤n∧n≤4611686018427387904:=fun n hn=>by
 unfold replAt at hn
 rcases List.mem_append.1 hn with hn | hn
 · rcases List.mem_append.1 hn with hn | hn
   · exact ht.range ok n (List.mem_of_mem_take hn)
   · exact hu.range ok n hn
 · exact ht.range ok n (List.mem_of_mem_drop hn)
section
variable {l:List Symbol} (ok:SigOk ⟨l⟩)
include ok
theorem impl_peakOf {o i:Equation} (ho:EqOk l o) (hi:EqOk l i) {p:Nat} (hp:p < o.left.length):Call F.impl_peakOf [.agg [slc l],.agg [slc o.left,slc o.right],.agg [slc i.left,slc i.right],.int .i64 p] (.agg (enc (peakR l o i p))):=by
 refine call_of rfl 0 ((impl_peakOf.ev _ _ _ _ _ _ _).trans ?_)
 have l1:=ho.left.le
 have l2:=ho.right.le
 have l3:=hi.left.le
 have l4:=hi.right.le
 have s1:=(impl_shifted i.left (by omega) (fun n hn=>(hi.left.range ok n hn).1)).eq
 have s2:=(impl_shifted i.right (by omega) (fun n hn=>(hi.right.range ok n hn).1)).eq
 have o1:=shift_ok hi.left hi.lowL
 have o2:=shift_ok hi.right hi.lowR
 have os:=subAt_ok ho.left hp
 have hsub:=(impl_subterm ok ho.left hp).eq
 have hu:=impl_unify ok os o1
 have hrp:=(impl_replaced ok ho.left hp (shiftT i.right 6) (by rw [shiftT_length]; omega)).eq
 have hrl:=replAt_length (l:=l) (t:=o.left) (p:=p) (by_:=shiftT i.right 6)
 rw [shiftT_length] at hrl
 simp only [evz,Nat.reduceLT,s1,s2,hsub,hu,peakR]
 have hsp:=unifR_spec os o1
 have hcd:=fun c=>unifR_code os o1 (c:=c)
 generalize unifR l (subAt l o.left p) (shiftT i.left 6)=u at *
 cases u with
 | inr c =>
   have hc:¬ c=0:=by rcases hcd c rfl with h | h <;> omega
   simp only [uT,evz,Nat.reduceLT,hc,enc_EquationResult,slc_nil]
   rfl
 | inl b =>
   have hb:=hsp.2 b rfl
   have hbl:=hb.le
   have hbo:=hb.mb.ok (by omega)
   simp only [uT,evz,Nat.reduceLT,hrp]
   have hge:=applied_ge hb.mb (replAt l o.left p (shiftT i.right 6))
   have a1:=(impl_Binding_applied b.1 b.2 hbo o.right (by omega) (ho.right.range ok)).eq
   have a2:=(impl_Binding_applied b.1 b.2 hbo (replAt l o.left p (shiftT i.right 6)) (by omega) (replAt_range ok ho.left o2 p)).eq
   generalize replAt l o.left p (shiftT i.right 6)=w at *
   generalize applied b.1 b.2 o.right=x at *
   generalize applied b.1 b.2 w=y at *
   by_cases c1:24 < w.length
   · have c1':(w.length:Int) > 24:=by omega
     have c2:24 < x.length∨24 < y.length := .inr (by omega)
     simp only [c1',c2,evz,Nat.reduceLT,enc_EquationResult,slc_nil]
   have c1':¬ (w.length:Int) > 24:=by omega
   simp only [c1',evz,Nat.reduceLT,a1,a2]
   by_cases c2:24 < x.length
   · have c2':(x.length:Int) > 24:=by omega
     simp only [c2,c2',true_or,evz,Nat.reduceLT,enc_EquationResult,slc_nil]
   by_cases c3:24 < y.length
   · have c2':¬ (x.length:Int) > 24:=by omega
     have c3':(y.length:Int) > 24:=by omega
     simp only [c3,c2',c3',or_true,evz,Nat.reduceLT,enc_EquationResult,slc_nil]
   have c2':¬ (x.length:Int) > 24:=by omega
   have c3':¬ (y.length:Int) > 24:=by omega
   have hpl:=(impl_plain x y (by omega) (by omega)).eq
   simp only [c2,c3,c2',c3',or_self,evz,Nat.reduceLT,hpl]
   by_cases c4:(seenE ⟨x,y⟩).length≤6
   · have c4':¬ 6 < (seenE ⟨x,y⟩).length:=by omega
     simp only [c4,c4',evz,Nat.reduceLT,Bool.not_true,enc_EquationResult]
   · have c4':6 < (seenE ⟨x,y⟩).length:=by omega
     simp only [c4,c4',evz,Nat.reduceLT,Bool.not_false,enc_EquationResult,slc_nil]
theorem spec_l9Peak {o i:Equation} (ho:EqOk l o) (hi:EqOk l i) {p:Nat} (hp:p < o.left.length):Call F.spec_l9Peak [.rref [slc l] 0,.rref [slc o.left,slc o.right] 0,.rref [slc i.left,slc i.right] 0,.int .i64 p]
 (.tup [.agg [slc (peakR l o i p).equation.left,slc (peakR l o i p).equation.right],.int .i64 (peakR l o i p).code]):=by
 refine call_of rfl 0 ((spec_l9Peak.ev _ _ _ _ _ _ _).trans ?_)
 have l1:=ho.left.le
 have l2:=ho.right.le
 have l3:=hi.left.le
 have l4:=hi.right.le
 have s1:=(spec_l6Shift i.left (by omega) (fun n hn=>(hi.left.range ok n hn).1)).eq
 have s2:=(spec_l6Shift i.right (by omega) (fun n hn=>(hi.right.range ok n hn).1)).eq
 have o1:=shift_ok hi.left hi.lowL
 have o2:=shift_ok hi.right hi.lowR
 have os:=subAt_ok ho.left hp
 have hsub:=(spec_l3Sub ok ho.left hp).eq
 have hu:=spec_l6Unify ok os o1
 have hrp:=(spec_l3Replace ok ho.left hp (shiftT i.right 6) (by rw [shiftT_length]; omega)).eq
 have hrl:=replAt_length (l:=l) (t:=o.left) (p:=p) (by_:=shiftT i.right 6)
 rw [shiftT_length] at hrl
 simp only [evz,Nat.reduceLT,s1,s2,hsub,hu,peakR]
 have hsp:=unifR_spec os o1
 have hcd:=fun c=>unifR_code os o1 (c:=c)
 generalize unifR l (subAt l o.left p) (shiftT i.left 6)=u at *
 cases u with
 | inr c =>
   have hc:¬ c=0:=by rcases hcd c rfl with h | h <;> omega
   simp only [uT,evz,Nat.reduceLT,hc,enc_EquationResult,slc_nil]
   rfl
 | inl b =>
   have hb:=hsp.2 b rfl
   have hbl:=hb.le
   have hbo:=hb.mb.ok (by omega)
   simp only [uT,evz,Nat.reduceLT,hrp]
   have hge:=applied_ge hb.mb (replAt l o.left p (shiftT i.right 6))
   have a1:=(spec_l6Apply b.1 b.2 hbo o.right (by omega) (ho.right.range ok)).eq
   have a2:=(spec_l6Apply b.1 b.2 hbo (replAt l o.left p (shiftT i.right 6)) (by omega) (replAt_range ok ho.left o2 p)).eq
   generalize replAt l o.left p (shiftT i.right 6)=w at *
   generalize applied b.1 b.2 o.right=x at *
   generalize applied b.1 b.2 w=y at *
   simp only [evz,Nat.reduceLT,a1,a2]
   by_cases c2:24 < x.length
   · have c2':(x.length:Int) > 24:=by omega
     simp only [c2,c2',true_or,evz,Nat.reduceLT,enc_EquationResult,slc_nil]
   by_cases c3:24 < y.length
   · have c2':¬ (x.length:Int) > 24:=by omega
     have c3':(y.length:Int) > 24:=by omega
     simp only [c3,c2',c3',or_true,evz,Nat.reduceLT,enc_EquationResult,slc_nil]
   have c2':¬ (x.length:Int) > 24:=by omega
   have c3':¬ (y.length:Int) > 24:=by omega
   have hpl:=(spec_l4Plain x y (by omega) (by omega)).eq
   simp only [c2,c3,c2',c3',or_self,evz,Nat.reduceLT,hpl]
   by_cases c4:(seenE ⟨x,y⟩).length≤6
   · have c4':¬ 6 < (seenE ⟨x,y⟩).length:=by omega
     simp only [c4,c4',evz,Nat.reduceLT,Bool.not_true,enc_EquationResult]
   · have c4':6 < (seenE ⟨x,y⟩).length:=by omega
     simp only [c4,c4',evz,Nat.reduceLT,Bool.not_false,enc_EquationResult,slc_nil]
end
noncomputable def peakOfR (s:Signature) (o i:Equation) (p:Int):EquationResult :=
 if rulesFault s [o,i]≠0 then ⟨rulesFault s [o,i],⟨[],[]⟩⟩ else if inR p 0 (o.left.length - 1)=false then ⟨3,⟨[],[]⟩⟩ else if o.left.getD p.toNat 0 < 0 then ⟨1,⟨[],[]⟩⟩ else peakR s.symbols o i p.toNat
theorem pair_sm {o i:Equation} (ho:sm 1048576 o) (hi:sm 1048576 i):sm 4294967296 [o,i]:=⟨by simp,fun x hx=>by
 rcases List.mem_cons.1 hx with rfl | hx
 · exact sm_mono (by omega) ho
 · rw [List.mem_singleton.1 hx]; exact sm_mono (by omega) hi⟩
theorem impl_PeakOf (s:Signature) (o i:Equation) (p:Int) (hs:sm 1048576 s) (ho:sm 1048576 o) (hi:sm 1048576 i):Call F.impl_PeakOf [.agg (enc s),.agg (enc o),.agg (enc i),.int .i64 p] (.agg (enc (peakOfR s o i p))):=by
 obtain ⟨l⟩:=s
 have hsl:l.length≤4294967296:=Nat.le_trans hs.1 (by omega)
 have hol:o.left.length≤1048576:=ho.1.1
 have hf:LIM F.impl_RulesFault [.agg [slc l],.sl 2 [slc o.left,slc o.right,slc i.left,slc i.right]]=some (.int .i64 (rulesFault ⟨l⟩ [o,i]),[]):=(impl_RulesFault l hsl [o,i] (pair_sm ho hi)).eq
 show Call F.impl_PeakOf [.agg [slc l],.agg [slc o.left,slc o.right],.agg [slc i.left,slc i.right],.int .i64 p] _
 refine call_of rfl 0 ((impl_PeakOf.ev _ _ _ _ _ _ _).trans ?_)
 simp only [evz,Nat.reduceLT,hf,peakOfR,wrap64 (x:=(o.left.length:Int) - 1) (by omega),(impl_within _ _ _).eq]
 by_cases h:rulesFault ⟨l⟩ [o,i]=0
 case neg=>simp only [h,evz,Nat.reduceLT,ne_eq,not_false_eq_true,enc_EquationResult,slc_nil]
 obtain ⟨_,ok,_,q2⟩:=rulesFault_ok h
 have q2o:=q2 o (by simp)
 have q2i:=q2 i (by simp)
 cases h1:inR p 0 (o.left.length - 1) with
 | false=>simp only [h,evz,Nat.reduceLT,ne_eq,not_true_eq_false,Bool.not_false,enc_EquationResult,slc_nil]
 | true =>
   have hp1:=inR_iff.1 h1
   obtain ⟨a,rfl⟩:∃ a:Nat,p=a:=⟨p.toNat,by omega⟩
   have ha:a < o.left.length:=by omega
   have hlk:o.left[a]?=some o.left[a]:=List.getElem?_eq_getElem ha
   have hd:o.left.getD a 0=o.left[a]:=getD_at ha
   have hpk:=(impl_peakOf ok q2o q2i ha).eq
   rw [enc_EquationResult] at hpk
   simp only [h,evz,Nat.reduceLT,ne_eq,not_true_eq_false,Bool.not_true,ha,hlk,enc_int,hd,reduceCtorEq,hpk]
   by_cases h3:o.left[a] < 0 <;> simp only [h3,evz,Nat.reduceLT,enc_EquationResult,slc_nil]
theorem spec_PeakOf (s:Signature) (o i:Equation) (p:Int) (hs:sm 1048576 s) (ho:sm 1048576 o) (hi:sm 1048576 i):Call F.spec_PeakOf [.agg (enc s),.agg (enc o),.agg (enc i),.int .i64 p] (.agg (enc (peakOfR s o i p))):=by
 obtain ⟨l⟩:=s
 have hsl:l.length≤4294967296:=Nat.le_trans hs.1 (by omega)
 have hol:o.left.length≤1048576:=ho.1.1
 have hf:LIM F.spec_RulesFault [.agg [slc l],.sl 2 [slc o.left,slc o.right,slc i.left,slc i.right]]=some (.int .i64 (rulesFault ⟨l⟩ [o,i]),[]):=(spec_RulesFault l hsl [o,i] (pair_sm ho hi)).eq
 have h2:Call F.spec_l9Two [.rref [slc l] 0,.rref [slc o.left,slc o.right] 0,.rref [slc i.left,slc i.right] 0] (.int .i64 (rulesFault ⟨l⟩ [o,i])):=by
  refine call_of rfl 0 ((spec_l9Two.ev _ _ _ _ _ _).trans ?_)
  simp only [evz,Nat.reduceLT,hf]
 show Call F.spec_PeakOf [.agg [slc l],.agg [slc o.left,slc o.right],.agg [slc i.left,slc i.right],.int .i64 p] _
 refine call_of rfl 0 ((spec_PeakOf.ev _ _ _ _ _ _ _).trans ?_)
 simp only [evz,Nat.reduceLT,h2.eq,peakOfR,(spec_l3Place o.left p (by omega)).eq]
 by_cases h:rulesFault ⟨l⟩ [o,i]=0
 case neg=>simp only [h,evz,Nat.reduceLT,ne_eq,not_false_eq_true,enc_EquationResult,slc_nil]
 obtain ⟨_,ok,_,q2⟩:=rulesFault_ok h
 have q2o:=q2 o (by simp)
 have q2i:=q2 i (by simp)
 cases h1:inR p 0 (o.left.length - 1) with
 | false=>simp only [h,evz,Nat.reduceLT,ne_eq,not_true_eq_false,Bool.not_false,enc_EquationResult,slc_nil]
 | true =>
   have hp1:=inR_iff.1 h1
   obtain ⟨a,rfl⟩:∃ a:Nat,p=a:=⟨p.toNat,by omega⟩
   have ha:a < o.left.length:=by omega
   have hlk:o.left[a]?=some o.left[a]:=List.getElem?_eq_getElem ha
   have hd:o.left.getD a 0=o.left[a]:=getD_at ha
   have hpk:=(spec_l9Peak ok q2o q2i ha).eq
   simp only [h,evz,Nat.reduceLT,ne_eq,not_true_eq_false,Bool.not_true,ha,hlk,enc_int,hd,reduceCtorEq,hpk]
   by_cases h3:o.left[a] < 0 <;> simp only [h3,evz,Nat.reduceLT,enc_EquationResult,slc_nil]
end Ev.Ty
end
section
namespace Ev.Ty
open Go Ev
open Enc (enc)
open Sm (sm)
set_option linter.unusedSimpArgs false
set_option linter.unusedVariables false
section
variable {l:List Symbol} (ok:SigOk ⟨l⟩)
include ok
end
end Ev.Ty
end
section
namespace Ev.Ty
open Go Ev
open Enc (enc)
open Sm (sm)
set_option linter.unusedSimpArgs false
set_option linter.unusedVariables false
section
variable {l:List Symbol} (ok:SigOk ⟨l⟩) {rs:List Equation} (hr:∀ e∈rs,EqOk l e) (hl:rs.length≤12)
include ok hr hl
end
end Ev.Ty
end
section
namespace Ev.Ty
open Go Ev
open Enc (enc)
open Sm (sm)
set_option linter.unusedSimpArgs false
set_option linter.unusedVariables false
theorem replAt_ok {l:List Symbol} {t u:List Int} (ht:TermOk l t) {p:Nat} (hp:p < t.length) (hu:TermOk l u) (h:(replAt l t p u).length≤24):TermOk l (replAt l t p u):=by
 obtain ⟨h1,h2,h3⟩:=sub_split ht hp
 have hs:skip (ar l) 1 (replAt l t p u)=some []:=by
  unfold replAt
  rw [List.append_assoc]
  refine skip_repl (y:=subAt l t p) (by rw [← h1]; exact h3) (by have:=skip_append (r:=t.drop (endAt l t p)) hu.skip; simpa using this) (t.take p) 1 ?_
  rw [← h1,List.take_append_drop]
  exact ht.skip
 refine ⟨?_,h,fun n hn => ?_,hs⟩
 · rcases Nat.eq_zero_or_pos (replAt l t p u).length with h | h
   · rw [List.eq_nil_of_length_eq_zero h] at hs; cases hs
   · exact h
 · unfold replAt at hn
   rcases List.mem_append.1 hn with hn | hn
   · rcases List.mem_append.1 hn with hn | hn
     · exact ht.node n (List.mem_of_mem_take hn)
     · exact hu.node n hn
   · exact ht.node n (List.mem_of_mem_drop hn)
theorem peakR_ok {l:List Symbol} (ok:SigOk ⟨l⟩) {o i:Equation} (ho:EqOk l o) (hi:EqOk l i) {p:Nat} (hp:p < o.left.length) (h0:(peakR l o i p).code=0):EqOk l (peakR l o i p).equation:=by
 have o1:=shift_ok hi.left hi.lowL
 have o2:=shift_ok hi.right hi.lowR
 have os:=subAt_ok ho.left hp
 have hsp:=unifR_spec os o1
 have hcd:=fun c=>unifR_code os o1 (c:=c)
 unfold peakR at h0 ⊢
 split
 · rename_i c hc
   rw [hc] at h0
   have:=hcd c hc
   simp only at h0
   omega
 · rename_i b hb
   rw [hb] at h0
   simp only at h0
   split at h0
   · cases h0
   rename_i c1
   split at h0
   · cases h0
   rename_i c2
   rw [if_neg c1,if_neg c2]
   have hub:=hsp.2 b hb
   have hwl:=applied_ge hub.mb (replAt l o.left p (shiftT i.right 6))
   exact plain_ok (hub.applied_ok ho.right (by omega)) (hub.applied_ok (replAt_ok ho.left hp o2 (by omega)) (by omega)) (by omega)
section
variable {l:List Symbol} {rs:List Equation} (hrf:rulesFault ⟨l⟩ rs=0) (hls:sm 1048576 (Signature.mk l)) (hrs:sm 1048576 rs) {fuel:Nat} (hf:fuel≤200)
include hrf hls hrs hf
end
end Ev.Ty
end
section
namespace Ev.Ty
open Go Ev
open Enc (enc)
open Sm (sm)
set_option linter.unusedSimpArgs false
set_option linter.unusedVariables false
section
variable {l:List Symbol} {z:Nat} {tb:List (List Int)} (al:AlgOk l z tb)
include al
end
end Ev.Ty
end
section
namespace Ev.Ty
open Go Ev
open Enc (enc)
open Sm (sm)
set_option linter.unusedSimpArgs false
set_option linter.unusedVariables false
section
variable (l:List Symbol) (z:Int) (tb:List (List Int)) (hs:l.length≤4294967296) (ht:sm 4294967296 tb)
include hs ht
end
end Ev.Ty
end
section
namespace Ev.Ty
open Go Ev
open Enc (enc)
open Sm (sm)
set_option linter.unusedSimpArgs false
set_option linter.unusedVariables false
theorem cells_int_scalar (l:List Int):(cells l).all T.scalar=true:=by
 rw [← intsT_cells,List.all_eq_true]
 intro x hx
 obtain ⟨n,_,rfl⟩:=List.mem_map.1 hx
 rfl
theorem spec_l1Ints (l:List Int) (h:l.length≤4294967296):Call F.spec_l1Ints [slc l] (slc l):=by
 refine call_of rfl 0 ((spec_l1Ints.ev _ _).trans ?_)
 have hb:Nat.ble ((0+(cells l).length)*8) (140737488355328*1)=true:=by
  rw [Nat.ble_eq,cells_length,sz_int]; omega
 rw [cells_int_scalar,hb]
 rfl
def eqOf (e:Entry):Equation:=⟨e.left,e.right⟩
theorem entry_eqn (e:Entry):Call F.impl_Entry_equation [.agg (enc e)] (.agg [slc e.left,slc e.right]):=call_of rfl 0 (impl_Entry_equation.ev _ _ _ _ _ _ _ _)
theorem spec_l11Equation (e:Entry) (h:sm 4294967296 e):Call F.spec_l11Equation [.rref (enc e) 0] (.agg [slc e.left,slc e.right]):=by
 refine call_of rfl 0 ((spec_l11Equation.ev _ _ _ _ _ _ _ _).trans ?_)
 simp only [evz,Nat.reduceLT,(spec_l1Ints e.left h.1.1).eq,(spec_l1Ints e.right h.2.1).eq]
section
variable (l:List Symbol) (z:Int) (tb:List (List Int)) (hs:l.length≤4294967296) (ht:sm 4294967296 tb)
include hs ht
end
end Ev.Ty
end
section
namespace Ev.Ty
open Go Ev
open Enc (enc)
open Sm (sm)
set_option linter.unusedSimpArgs false
set_option linter.unusedVariables false
theorem mgo_low {l:List Symbol} {t:List Int} (ht:∀ n∈t,-6≤n):∀ (q:List Int) (b:Bnd) (p:Nat),(∀ u∈b.2,∀ n∈u,-6≤n)→∀ x,mgo l t q b p=some x→∀ u∈x.1.2,∀ n∈u,-6≤n
 | [],b,p,hb,x,hx=>by
   cases hx
   exact hb
 | n::q,b,p,hb,x,hx=>by
   rw [mgo] at hx
   split at hx
   · cases hx
   split at hx
   · split at hx
     · exact mgo_low ht q b _ hb x hx
     · cases hx
   split at hx
   · refine mgo_low ht q _ _ (fun u hu => ?_) x hx
     rcases mem_ins hu with rfl | hu
     · intro m hm
       exact ht m (List.mem_of_mem_take (List.mem_of_mem_drop hm))
     · exact hb u hu
   · split at hx
     · exact mgo_low ht q b _ hb x hx
     · cases hx
theorem matchAt_low {l:List Symbol} {q t:List Int} (ht:∀ n∈t,-6≤n) {p:Nat} {b:Bnd} (h:matchAt l q t p=some b):∀ u∈b.2,∀ n∈u,-6≤n:=by
 unfold matchAt at h
 rw [Option.map_eq_some_iff] at h
 obtain ⟨x,hx,rfl⟩:=h
 exact mgo_low ht q ([],[]) p (by simp) x hx
theorem stepAt_low {l:List Symbol} {e:Equation} {t:List Int} (he:EqOk l e) (ht:∀ n∈t,-6≤n) {p:Nat}:∀ n∈(stepAt l e t p).term,-6≤n:=by
 intro n hn
 unfold stepAt at hn
 cases hm:matchAt l e.left t p with
 | none=>rw [hm] at hn; cases hn
 | some b =>
   have hb:=matchAt_low ht hm
   rw [hm] at hn
   simp only at hn
   split at hn
   · cases hn
   unfold replAt at hn
   rcases List.mem_append.1 hn with hn | hn
   · rcases List.mem_append.1 hn with hn | hn
     · exact ht n (List.mem_of_mem_take hn)
     · unfold applied at hn
       obtain ⟨m,h1,h2⟩:=List.mem_flatMap.1 hn
       cases ho:bindOf b.1 b.2 (-1 - m) with
       | none=>rw [ho] at h2; simp only [Option.getD_none,List.mem_singleton] at h2; subst h2; exact he.lowR _ h1
       | some u=>rw [ho] at h2; exact hb u (bindOf_mem ho) n h2
   · exact ht n (List.mem_of_mem_drop hn)
def two (e:Entry):Bool:=decide (e.kind=4)||decide (e.kind=5)
def numsFault (eqn enn:Nat) (e:Entry):Int :=
 if inR e.kind 1 5=false then 1
 else if (two e=false∧(e.b≠0∨e.place≠0))∨(e.kind≠4∧e.side≠0) then 1
 else if inR e.a 0 ((if e.kind=1 then (eqn:Int) else enn) - 1)=false∨(two e=true∧inR e.b 0 (enn - 1)=false)∨inR e.side 0 1=false then 3 else 0
structure NumsOk (eqn enn:Nat) (e:Entry):Prop where
 kind:e.kind=1∨e.kind=2∨e.kind=3∨e.kind=4∨e.kind=5
 a0:0≤e.a
 given:e.kind=1→e.a.toNat < eqn
 other:e.kind≠1→e.a.toNat < enn
 b:e.kind=4∨e.kind=5→0≤e.b∧e.b.toNat < enn
 side:e.side=0∨(e.kind=4∧e.side=1)
 zero:e.kind≠4→e.kind≠5→e.b=0∧e.place=0
theorem numsOk {eqn enn:Nat} {e:Entry} (h:numsFault eqn enn e=0):NumsOk eqn enn e:=by
 unfold numsFault at h
 by_cases h1:inR e.kind 1 5=false
 · rw [if_pos h1] at h; cases h
 rw [if_neg h1] at h
 by_cases h2:(two e=false∧(e.b≠0∨e.place≠0))∨(e.kind≠4∧e.side≠0)
 · rw [if_pos h2] at h; cases h
 rw [if_neg h2] at h
 by_cases h3:inR e.a 0 ((if e.kind=1 then (eqn:Int) else enn) - 1)=false∨(two e=true∧inR e.b 0 (enn - 1)=false)∨inR e.side 0 1=false
 · rw [if_pos h3] at h; cases h
 have h1:=inR_iff.1 (by simpa using h1:inR e.kind 1 5=true)
 have h4:inR e.a 0 ((if e.kind=1 then (eqn:Int) else enn) - 1)=true:=by
  cases hx:inR e.a 0 ((if e.kind=1 then (eqn:Int) else enn) - 1) with
  | true=>rfl
  | false=>exact absurd (Or.inl hx) h3
 have h5:inR e.side 0 1=true:=by
  cases hx:inR e.side 0 1 with
  | true=>rfl
  | false=>exact absurd (Or.inr (Or.inr hx)) h3
 have h4:=inR_iff.1 h4
 have h5:=inR_iff.1 h5
 refine ⟨by omega,by omega,fun hk => ?_,fun hk => ?_,fun hk => ?_,?_,fun q1 q2 => ?_⟩
 · rw [if_pos hk] at h4; omega
 · rw [if_neg hk] at h4; omega
 · have ht:two e=true:=by unfold two; rcases hk with hk | hk <;> simp [hk]
   have:inR e.b 0 (enn - 1)=true:=by
    cases hx:inR e.b 0 ((enn:Int) - 1) with
    | true=>rfl
    | false=>exact absurd (Or.inr (Or.inl ⟨ht,hx⟩)) h3
   have:=inR_iff.1 this
   omega
 · by_cases hk:e.kind=4
   · omega
   · left
     by_cases hs:e.side=0
     · exact hs
     · exact absurd (Or.inr ⟨hk,hs⟩) h2
 · have ht:two e=false:=by unfold two; simp [q1,q2]
   by_cases hb:e.b=0
   · by_cases hp:e.place=0
     · exact ⟨hb,hp⟩
     · exact absurd (Or.inl ⟨ht,Or.inr hp⟩) h2
   · exact absurd (Or.inl ⟨ht,Or.inl hb⟩) h2
noncomputable def derR (l:List Symbol) (eqs:List Equation) (ents:List Entry) (e:Entry):EquationResult :=
 if numsFault eqs.length ents.length e≠0 then ⟨numsFault eqs.length ents.length e,⟨[],[]⟩⟩
 else if e.kind=1 then ⟨0,eqs.getD e.a.toNat ⟨[],[]⟩⟩
 else if e.kind=2 then ⟨0,⟨(ents.getD e.a.toNat ⟨0,0,0,0,0,[],[]⟩).right,(ents.getD e.a.toNat ⟨0,0,0,0,0,[],[]⟩).left⟩⟩
 else if e.kind=3 then ⟨0,plainE (eqOf (ents.getD e.a.toNat ⟨0,0,0,0,0,[],[]⟩))⟩
 else if e.kind=5 then peakOfR ⟨l⟩ (eqOf (ents.getD e.a.toNat ⟨0,0,0,0,0,[],[]⟩)) (eqOf (ents.getD e.b.toNat ⟨0,0,0,0,0,[],[]⟩)) e.place
 else if e.side=0 then
  ⟨(rewriteAtR ⟨l⟩ [eqOf (ents.getD e.b.toNat ⟨0,0,0,0,0,[],[]⟩)] 0 e.place (ents.getD e.a.toNat ⟨0,0,0,0,0,[],[]⟩).left).code,
   ⟨(rewriteAtR ⟨l⟩ [eqOf (ents.getD e.b.toNat ⟨0,0,0,0,0,[],[]⟩)] 0 e.place (ents.getD e.a.toNat ⟨0,0,0,0,0,[],[]⟩).left).term,(ents.getD e.a.toNat ⟨0,0,0,0,0,[],[]⟩).right⟩⟩
 else
  ⟨(rewriteAtR ⟨l⟩ [eqOf (ents.getD e.b.toNat ⟨0,0,0,0,0,[],[]⟩)] 0 e.place (ents.getD e.a.toNat ⟨0,0,0,0,0,[],[]⟩).right).code,
   ⟨(ents.getD e.a.toNat ⟨0,0,0,0,0,[],[]⟩).left,(rewriteAtR ⟨l⟩ [eqOf (ents.getD e.b.toNat ⟨0,0,0,0,0,[],[]⟩)] 0 e.place (ents.getD e.a.toNat ⟨0,0,0,0,0,[],[]⟩).right).term⟩⟩
theorem getN {es:List Entry} {k:Nat} (h:k < es.length):es.getD k ⟨0,0,0,0,0,[],[]⟩=es[k]:=by rw [List.getD_eq_getElem?_getD,List.getElem?_eq_getElem h]; rfl
theorem rewriteAt_ok {l:List Symbol} {e:Equation} (he:EqOk l e) {t:List Int} (ht:TermOk l t) (hlow:∀ n∈t,-6≤n) {p:Int} (h:(rewriteAtR ⟨l⟩ [e] 0 p t).code=0):TermOk l (rewriteAtR ⟨l⟩ [e] 0 p t).term∧∀ n∈(rewriteAtR ⟨l⟩ [e] 0 p t).term,-6≤n:=by
 unfold rewriteAtR at h ⊢
 split at h
 · rename_i h1; exact absurd h h1
 rename_i h1
 rw [if_neg h1]
 split at h
 · cases h
 rename_i h2
 rw [if_neg h2]
 have h3:inR p 0 (t.length - 1)=true:=by
  cases hx:inR p 0 ((t.length:Int) - 1) with
  | true=>rfl
  | false=>exact absurd (.inr hx) h2
 have h3:=inR_iff.1 h3
 exact ⟨stepAt_ok he ht (by omega) h,stepAt_low he hlow⟩
theorem peakOf_ok {l:List Symbol} (ok:SigOk ⟨l⟩) {o i:Equation} (ho:EqOk l o) (hi:EqOk l i) {p:Int} (h0:(peakOfR ⟨l⟩ o i p).code=0):EqOk l (peakOfR ⟨l⟩ o i p).equation:=by
 unfold peakOfR at h0 ⊢
 split at h0
 · rename_i h1; exact absurd h0 h1
 rename_i h1
 rw [if_neg h1]
 split at h0
 · cases h0
 rename_i h2
 rw [if_neg h2]
 split at h0
 · cases h0
 rename_i h3
 rw [if_neg h3]
 have h2:=inR_iff.1 (Bool.not_eq_false _ ▸ h2:inR p 0 (o.left.length - 1)=true)
 exact peakR_ok ok ho hi (by omega) h0
theorem pstep_mem {seen:List Int} {n m:Int} (h:m∈(pstep seen n).2):m∈seen∨(m=n∧n < 0):=by
 unfold pstep at h
 split at h
 · exact .inl h
 split at h
 · rcases List.mem_append.1 h with h | h
   · exact .inl h
   · exact .inr ⟨List.mem_singleton.1 h,by omega⟩
 · exact .inl h
theorem pstep_nodup {seen:List Int} {n:Int} (h:seen.Nodup):(pstep seen n).2.Nodup:=by
 unfold pstep
 split
 · exact h
 split
 · rename_i h1
   rw [idx_neg_iff] at h1
   rw [List.nodup_append]
   exact ⟨h,by simp,fun a ha b hb=>by rw [List.mem_singleton.1 hb]; exact fun e=>h1 (e ▸ ha)⟩
 · exact h
theorem plainL_seen:∀ (t seen:List Int),seen.Nodup→(∀ m∈seen,-6≤m∧m < 0)→(∀ n∈t,-6≤n)→(plainL seen t).2.Nodup∧∀ m∈(plainL seen t).2,-6≤m∧m < 0
 | [],seen,h1,h2,_=>⟨h1,h2⟩
 | n::t,seen,h1,h2,h3=>by
   rw [plainL]
   refine plainL_seen t _ (pstep_nodup h1) (fun m hm => ?_) (fun m hm=>h3 m (List.mem_cons_of_mem _ hm))
   rcases pstep_mem hm with h | ⟨rfl,h⟩
   · exact h2 m h
   · exact ⟨h3 m (by simp),h⟩
theorem nodup_sub:∀ {s t:List Int},s.Nodup→s ⊆ t→s.length≤t.length
 | [],t,_,_=>Nat.zero_le _
 | x::s,t,h,hs=>by
   have hx:x∈t:=hs (by simp)
   rw [List.nodup_cons] at h
   have h1:s ⊆ t.erase x:=fun y hy=>by
    refine (List.mem_erase_of_ne (fun (e:y=x)=>h.1 (by rw [← e]; exact hy))).2 (hs (List.mem_cons_of_mem _ hy))
   have h2:=nodup_sub h.2 h1
   rw [List.length_erase_of_mem hx] at h2
   have:=List.length_pos_of_mem hx
   rw [List.length_cons]
   omega
theorem six {s:List Int} (h1:s.Nodup) (h2:∀ m∈s,-6≤m∧m < 0):s.length≤6:=by
 have:s ⊆ [-6,-5,-4,-3,-2,-1]:=fun m hm=>by
  have:=h2 m hm
  simp only [List.mem_cons,List.not_mem_nil,or_false]
  omega
 exact nodup_sub h1 this
theorem seen_six {l:List Symbol} {e:Equation} (he:EqOk l e):(seenE e).length≤6:=by
 obtain ⟨h1,h2⟩:=plainL_seen e.left [] (by simp) (by simp) he.lowL
 obtain ⟨h3,h4⟩:=plainL_seen e.right _ h1 h2 he.lowR
 exact six h3 h4
theorem derR_ok {l:List Symbol} (ok:SigOk ⟨l⟩) {eqs:List Equation} {ents:List Entry} {e:Entry} (hq:∀ x∈eqs,EqOk l x) (he:∀ x∈ents,EqOk l (eqOf x)) (h:(derR l eqs ents e).code=0):EqOk l (derR l eqs ents e).equation:=by
 unfold derR at h ⊢
 split at h
 · rename_i h1; exact absurd h h1
 rename_i h1
 rw [if_neg h1]
 have nk:=numsOk (Classical.not_not.1 h1)
 split at h
 · rename_i k1
   rw [if_pos k1,getE (nk.given k1)]
   exact hq _ (List.getElem_mem _)
 rename_i k1
 rw [if_neg k1,getN (nk.other k1)]
 have hea:=he _ (List.getElem_mem (nk.other k1))
 split at h
 · rename_i k2
   rw [if_pos k2]
   exact ⟨hea.right,hea.left,hea.lowR,hea.lowL⟩
 rename_i k2
 rw [if_neg k2]
 split at h
 · rename_i k3
   rw [if_pos k3]
   exact plain_ok hea.left hea.right (seen_six hea)
 rename_i k3
 rw [if_neg k3]
 have hk4:e.kind=4∨e.kind=5:=by rcases nk.kind with h | h | h | h | h <;> simp_all
 have heb:=he _ (List.getElem_mem (nk.b hk4).2)
 rw [getN (nk.b hk4).2]
 rw [getN (nk.b hk4).2,getN (nk.other k1)] at h
 split at h
 · rename_i k5
   rw [if_pos k5]
   exact peakOf_ok ok hea heb h
 rename_i k5
 rw [if_neg k5]
 split at h
 · rename_i k6
   rw [if_pos k6]
   obtain ⟨q1,q2⟩:=rewriteAt_ok heb hea.left hea.lowL h
   exact ⟨q1,hea.right,q2,hea.lowR⟩
 · rename_i k6
   rw [if_neg k6]
   obtain ⟨q1,q2⟩:=rewriteAt_ok heb hea.right hea.lowR h
   exact ⟨hea.left,q1,hea.lowL,q2⟩
end Ev.Ty
end
section
namespace Ev.Ty
open Go Ev
open Enc (enc)
open Sm (sm)
set_option linter.unusedSimpArgs false
set_option linter.unusedVariables false
theorem spec_l11Numbers {eqn enn:Nat} (h1:eqn≤4294967296) (h2:enn≤4294967296) (e:Entry):Call F.spec_l11Numbers [.int .i64 eqn,.int .i64 enn,.rref (enc e) 0] (.int .i64 (numsFault eqn enn e)):=by
 obtain ⟨k,a,b,p,s,le,ri⟩:=e
 refine call_of rfl 0 ((spec_l11Numbers.ev _ _ _ _ _ _ _ _ _ _).trans ?_)
 simp only [evz,Nat.reduceLT,(spec_l1In _ _ _).eq,wrap64 (x:=(eqn:Int) - 1) (by omega),wrap64 (x:=(enn:Int) - 1) (by omega),numsFault,two]
 cases h0:inR k 1 5 with
 | false=>simp only [evz,Nat.reduceLT,Bool.not_false]
 | true =>
   simp only [evz,Nat.reduceLT,Bool.not_true,reduceCtorEq]
   by_cases k4:k=4
   · subst k4
     cases q1:inR a 0 (enn - 1) <;> cases q2:inR b 0 (enn - 1) <;> cases q3:inR s 0 1 <;> simp [evz,Nat.reduceLT,q1,q2,q3]
   by_cases k5:k=5
   · subst k5
     by_cases s0:s=0
     · subst s0
       cases q1:inR a 0 (enn - 1) <;> cases q2:inR b 0 (enn - 1) <;> cases q3:inR 0 0 1 <;> simp [evz,Nat.reduceLT,q1,q2,q3]
     · simp [evz,Nat.reduceLT,s0]
   by_cases b0:b=0
   case neg=>simp [evz,Nat.reduceLT,k4,k5,b0]
   by_cases p0:p=0
   case neg=>simp [evz,Nat.reduceLT,k4,k5,b0,p0]
   by_cases s0:s=0
   case neg=>simp [evz,Nat.reduceLT,k4,k5,b0,p0,s0]
   subst b0 p0 s0
   by_cases k1:k=1
   · subst k1
     cases q1:inR a 0 (eqn - 1) <;> cases q3:inR 0 0 1 <;> simp [evz,Nat.reduceLT,q1,q3]
   · cases q1:inR a 0 (enn - 1) <;> cases q3:inR 0 0 1 <;> simp [evz,Nat.reduceLT,k1,k4,k5,q1,q3]
theorem EqOk.small {l:List Symbol} {e:Equation} (h:EqOk l e):sm 1048576 e:=⟨⟨by have:=h.left.le; omega,fun _ _=>trivial⟩,⟨by have:=h.right.le; omega,fun _ _=>trivial⟩⟩
theorem one_small {e:Equation} (h:sm 1048576 e):sm 1048576 [e]:=⟨by simp,fun y hy=>by rw [List.mem_singleton.1 hy]; exact h⟩
theorem ent_small {l:List Symbol} {e:Entry} (h:EqOk l (eqOf e)):sm 4294967296 e:=⟨sm_mono (by omega) h.small.1,sm_mono (by omega) h.small.2⟩
def made (e:Entry) (r:EquationResult):Entry:=if r.code≠0 then ⟨0,0,0,0,0,[],[]⟩ else ⟨e.kind,e.a,e.b,e.place,e.side,r.equation.left,r.equation.right⟩
section
variable {l:List Symbol} (ok:SigOk ⟨l⟩) (hs:sm 1048576 (Signature.mk l)) {eqs:List Equation} {ents:List Entry} (hq:∀ x∈eqs,EqOk l x) (he:∀ x∈ents,EqOk l (eqOf x)) (hql:eqs.length≤12) (hel:ents.length≤500)
include ok hs hq he hql hel
theorem spec_l11Derive (e:Entry) :
 Call F.spec_l11Derive [.rref [slc l] 0,slc eqs,slc ents,.rref (enc e) 0] (.tup [.agg [slc (derR l eqs ents e).equation.left,slc (derR l eqs ents e).equation.right],.int .i64 (derR l eqs ents e).code]):=by
 have hn:=(spec_l11Numbers (eqn:=eqs.length) (enn:=ents.length) (by omega) (by omega) e).eq
 obtain ⟨k,a,b,p,s,le,ri⟩:=e
 rw [enc_Entry] at hn
 refine call_of rfl 0 ((spec_l11Derive.ev _ _ _ _ _ _ _ _ _ _ _).trans ?_)
 simp only [evz,Nat.reduceLT,hn,derR]
 by_cases h:numsFault eqs.length ents.length ⟨k,a,b,p,s,le,ri⟩=0
 case neg=>simp only [h,evz,Nat.reduceLT,ne_eq,not_false_eq_true,slc_nil]
 have nk:=numsOk h
 obtain ⟨n1,n2,n3,n4,n5,n6,n7⟩:=nk
 simp only at n1 n2 n3 n4 n5 n6 n7
 obtain ⟨a,rfl⟩:∃ a':Nat,a=a':=⟨a.toNat,by omega⟩
 simp only [h,evz,Nat.reduceLT,ne_eq,not_true_eq_false]
 by_cases k1:k=1
 · subst k1
   have ha:a < eqs.length:=by have:=n3 rfl; omega
   have hlk:eqs[a]?=some eqs[a]:=List.getElem?_eq_getElem ha
   have ho:=(hq _ (List.getElem_mem ha)).small
   have hc:Call F.spec_l4Copy [.rref [slc eqs[a].left,slc eqs[a].right] 0] (.agg [slc eqs[a].left,slc eqs[a].right]):=by
    refine call_of rfl 0 ((spec_l4Copy.ev _ _ _).trans ?_)
    simp only [evz,Nat.reduceLT,(spec_l1Ints eqs[a].left (by have:=ho.1.1; omega)).eq,(spec_l1Ints eqs[a].right (by have:=ho.2.1; omega)).eq]
   simp only [evz,Nat.reduceLT,ha,cells_window (k:=2) (i:=a) rfl hlk,enc_Equation,hc.eq,getE ha]
 have ha:a < ents.length:=by have:=n4 k1; omega
 have hla:ents[a]?=some ents[a]:=List.getElem?_eq_getElem ha
 have hea:=he _ (List.getElem_mem ha)
 simp only [evz,Nat.reduceLT,k1,ha,cells_window (k:=7) (i:=a) rfl hla,(spec_l11Equation ents[a] (ent_small hea)).eq,getN ha]
 by_cases k2:k=2
 · subst k2
   simp only [evz,Nat.reduceLT]
 by_cases k3:k=3
 · subst k3
   have hsx:=seen_six hea
   have:=hea.left.le
   have:=hea.right.le
   have hp:=(spec_l4Plain ents[a].left ents[a].right (by have:ents[a].left.length≤24:=hea.left.le; omega) (by have:ents[a].right.length≤24:=hea.right.le; omega)).eq
   have hsx':(seenE ⟨ents[a].left,ents[a].right⟩).length≤6:=hsx
   rw [if_pos hsx',if_pos hsx'] at hp
   simp only [evz,Nat.reduceLT,hp]
   rfl
 have k45:k=4∨k=5:=by omega
 obtain ⟨b0,b1⟩:=n5 k45
 obtain ⟨b,rfl⟩:∃ b':Nat,b=b':=⟨b.toNat,by omega⟩
 have hb:b < ents.length:=by omega
 have hlb:ents[b]?=some ents[b]:=List.getElem?_eq_getElem hb
 have heb:=he _ (List.getElem_mem hb)
 simp only [evz,Nat.reduceLT,k2,k3,hb,cells_window (k:=7) (i:=b) rfl hlb,(spec_l11Equation ents[b] (ent_small heb)).eq,getN hb]
 by_cases k5:k=5
 · subst k5
   have hp:LIM F.spec_PeakOf [.agg [slc l],.agg [slc ents[a].left,slc ents[a].right],.agg [slc ents[b].left,slc ents[b].right],.int .i64 p]=some (.agg (enc (peakOfR ⟨l⟩ (eqOf ents[a]) (eqOf ents[b]) p)),[]):=(spec_PeakOf ⟨l⟩ (eqOf ents[a]) (eqOf ents[b]) p hs hea.small heb.small).eq
   rw [enc_EquationResult] at hp
   simp only [evz,Nat.reduceLT,hp]
 simp only [evz,Nat.reduceLT,k5]
 by_cases s0:s=0
 · subst s0
   have hp:LIM F.spec_RewriteAt [.agg [slc l],.sl 2 [slc ents[b].left,slc ents[b].right],.int .i64 0,.int .i64 p,slc ents[a].left]=some (.agg (enc (rewriteAtR ⟨l⟩ [eqOf ents[b]] 0 p ents[a].left)),[]):=(spec_RewriteAt ⟨l⟩ [eqOf ents[b]] 0 p ents[a].left hs (one_small heb.small) hea.small.1).eq
   rw [enc_TermResult] at hp
   simp only [evz,Nat.reduceLT,hp]
 · have hp:LIM F.spec_RewriteAt [.agg [slc l],.sl 2 [slc ents[b].left,slc ents[b].right],.int .i64 0,.int .i64 p,slc ents[a].right]=some (.agg (enc (rewriteAtR ⟨l⟩ [eqOf ents[b]] 0 p ents[a].right)),[]):=(spec_RewriteAt ⟨l⟩ [eqOf ents[b]] 0 p ents[a].right hs (one_small heb.small) hea.small.2).eq
   rw [enc_TermResult] at hp
   simp only [evz,Nat.reduceLT,s0,hp]
theorem derive5 (n:Nat) (k a b p s:Int) (le ri:List Int) (h:numsFault eqs.length ents.length ⟨k,a,b,p,s,le,ri⟩=0) :
 impl_derive.j5 n (cells eqs) (cells ents) (cells l) k a b p s (cells le) (cells ri) 0 0 0 0 0=some (.tup [.agg (enc (made ⟨k,a,b,p,s,le,ri⟩ (derR l eqs ents ⟨k,a,b,p,s,le,ri⟩))),.int .i64 (derR l eqs ents ⟨k,a,b,p,s,le,ri⟩).code],[]):=by
 have nk:=numsOk h
 obtain ⟨n1,n2,n3,n4,n5,n6,n7⟩:=nk
 simp only at n1 n2 n3 n4 n5 n6 n7
 obtain ⟨a,rfl⟩:∃ a':Nat,a=a':=⟨a.toNat,by omega⟩
 have ho:∀ x y:List Int,x.length≤4294967296→y.length≤4294967296→Call F.impl_ownEquation [.agg [slc x,slc y]] (.agg [slc x,slc y]):=fun x y h1 h2=>by
  refine call_of rfl 0 ((impl_ownEquation.ev _ _ _).trans ?_)
  simp only [evz,Nat.reduceLT,(slices_Clone_Sint64 x h1).eq,(slices_Clone_Sint64 y h2).eq]
 simp only [impl_derive.j5,impl_derive.j6,impl_derive.j7,made,derR,h,evz,Nat.reduceLT,ne_eq,not_true_eq_false]
 by_cases k1:k=1
 · subst k1
   have ha:a < eqs.length:=by have:=n3 rfl; omega
   have hlk:eqs[a]?=some eqs[a]:=List.getElem?_eq_getElem ha
   have hsm:=(hq _ (List.getElem_mem ha)).small
   have hc:=(ho eqs[a].left eqs[a].right (by have:=hsm.1.1; omega) (by have:=hsm.2.1; omega)).eq
   simp only [impl_derive.j8,evz,Nat.reduceLT,ha,hlk,enc_Equation,hc,getE ha,enc_Entry,not_true_eq_false]
 have ha:a < ents.length:=by have:=n4 k1; omega
 have hla:ents[a]?=some ents[a]:=List.getElem?_eq_getElem ha
 have hea:=he _ (List.getElem_mem ha)
 have hsa:=hea.small
 have la:ents[a].left.length≤24:=hea.left.le
 have lr:ents[a].right.length≤24:=hea.right.le
 have hee:=entry_eqn ents[a]
 rw [enc_Entry] at hee
 simp only [impl_derive.j9,evz,Nat.reduceLT,k1,getN ha]
 by_cases k2:k=2
 · subst k2
   have hc:=(ho ents[a].right ents[a].left (by omega) (by omega)).eq
   simp only [impl_derive.j10,evz,Nat.reduceLT,ha,hla,enc_Entry,hc,not_true_eq_false]
 simp only [impl_derive.j11,evz,Nat.reduceLT,k2]
 by_cases k3:k=3
 · subst k3
   have hp:=(impl_plain ents[a].left ents[a].right (by have:=hsa.1.1; have:ents[a].left.length≤24:=hea.left.le; omega) (by have:ents[a].right.length≤24:=hea.right.le; omega)).eq
   simp only [impl_derive.j12,evz,Nat.reduceLT,ha,hla,enc_Entry,hee.eq,hp,not_true_eq_false]
   rfl
 have k45:k=4∨k=5:=by omega
 obtain ⟨b0,b1⟩:=n5 k45
 obtain ⟨b,rfl⟩:∃ b':Nat,b=b':=⟨b.toNat,by omega⟩
 have hb:b < ents.length:=by omega
 have hlb:ents[b]?=some ents[b]:=List.getElem?_eq_getElem hb
 have heb:=he _ (List.getElem_mem hb)
 have hef:=entry_eqn ents[b]
 rw [enc_Entry] at hef
 simp only [impl_derive.j13,evz,Nat.reduceLT,k3,getN hb]
 by_cases k4:k=4
 · subst k4
   have hc:=(ho ents[a].left ents[a].right (by omega) (by omega)).eq
   simp only [impl_derive.j14,impl_derive.j15,impl_derive.j16,impl_derive.j17,impl_derive.j18,impl_derive.j19,evz,Nat.reduceLT,ha,hla,hb,hlb,enc_Entry,hee.eq,hef.eq,hc]
   rcases n6 with s0 | ⟨_,s1⟩
   · subst s0
     have hp:LIM F.impl_RewriteAt [.agg [slc l],.sl 2 [slc ents[b].left,slc ents[b].right],.int .i64 0,.int .i64 p,slc ents[a].left]=some (.agg (enc (rewriteAtR ⟨l⟩ [eqOf ents[b]] 0 p ents[a].left)),[]):=(impl_RewriteAt ⟨l⟩ [eqOf ents[b]] 0 p ents[a].left hs (one_small heb.small) hea.small.1).eq
     rw [enc_TermResult] at hp
     simp only [evz,Nat.reduceLT,hp]
     by_cases hcd:(rewriteAtR ⟨l⟩ [eqOf ents[b]] 0 p ents[a].left).code=0 <;> simp [evz,Nat.reduceLT,hcd,slc_nil]
   · subst s1
     have hp:LIM F.impl_RewriteAt [.agg [slc l],.sl 2 [slc ents[b].left,slc ents[b].right],.int .i64 0,.int .i64 p,slc ents[a].right]=some (.agg (enc (rewriteAtR ⟨l⟩ [eqOf ents[b]] 0 p ents[a].right)),[]):=(impl_RewriteAt ⟨l⟩ [eqOf ents[b]] 0 p ents[a].right hs (one_small heb.small) hea.small.2).eq
     rw [enc_TermResult] at hp
     simp only [evz,Nat.reduceLT,hp]
     by_cases hcd:(rewriteAtR ⟨l⟩ [eqOf ents[b]] 0 p ents[a].right).code=0 <;> simp [evz,Nat.reduceLT,hcd,slc_nil]
 have k5:k=5:=by omega
 subst k5
 have hp:LIM F.impl_PeakOf [.agg [slc l],.agg [slc ents[a].left,slc ents[a].right],.agg [slc ents[b].left,slc ents[b].right],.int .i64 p]=some (.agg (enc (peakOfR ⟨l⟩ (eqOf ents[a]) (eqOf ents[b]) p)),[]):=(impl_PeakOf ⟨l⟩ (eqOf ents[a]) (eqOf ents[b]) p hs hea.small heb.small).eq
 rw [enc_EquationResult] at hp
 simp only [impl_derive.j20,impl_derive.j21,evz,Nat.reduceLT,ha,hla,hb,hlb,enc_Entry,hee.eq,hef.eq,hp]
 by_cases hcd:(peakOfR ⟨l⟩ (eqOf ents[a]) (eqOf ents[b]) p).code=0 <;> simp [evz,Nat.reduceLT,hcd,slc_nil]
theorem impl_derive (e:Entry) :
 Call F.impl_derive [.agg [slc l],slc eqs,slc ents,.agg (enc e)] (.tup [.agg (enc (made e (derR l eqs ents e))),.int .i64 (derR l eqs ents e).code]):=by
 obtain ⟨k,a,b,p,s,le,ri⟩:=e
 rw [enc_Entry]
 refine call_of rfl 0 ((impl_derive.ev _ _ _ _ _ _ _ _ _ _ _).trans ?_)
 have good:=derive5 ok hs hq he hql hel 0 k a b p s le ri
 have bad:∀ c:Int,c≠0→numsFault eqs.length ents.length ⟨k,a,b,p,s,le,ri⟩=c →
  (some (.tup [.agg [.int .i64 0,.int .i64 0,.int .i64 0,.int .i64 0,.int .i64 0,.sl 1 [],.sl 1 []],.int .i64 c],[]):R)=some (.tup [.agg (enc (made ⟨k,a,b,p,s,le,ri⟩ (derR l eqs ents ⟨k,a,b,p,s,le,ri⟩))),.int .i64 (derR l eqs ents ⟨k,a,b,p,s,le,ri⟩).code],[]):=fun c hc h=>by
  have e1:derR l eqs ents ⟨k,a,b,p,s,le,ri⟩=⟨c,⟨[],[]⟩⟩:=by unfold derR; rw [h,if_pos hc]
  rw [e1]
  simp only [made,ne_eq,hc,not_false_eq_true,if_true,enc_Entry]
  rfl
 generalize (some (T.tup [.agg (enc (made ⟨k,a,b,p,s,le,ri⟩ (derR l eqs ents ⟨k,a,b,p,s,le,ri⟩))),.int .i64 (derR l eqs ents ⟨k,a,b,p,s,le,ri⟩).code],[]):R)=G at *
 simp only [evz,Nat.reduceLT,(impl_within _ _ _).eq]
 cases h0:inR k 1 5 with
 | false =>
   simp only [evz,Nat.reduceLT,Bool.not_false]
   have:=bad 1 (by decide) (by simp [numsFault,h0])
   by_cases k4:k=4 <;> simp only [evz,Nat.reduceLT,k4,this]
 | true =>
   simp only [evz,Nat.reduceLT,Bool.not_true,reduceCtorEq,impl_derive.j0,impl_derive.j1,impl_derive.j2,impl_derive.j3,impl_derive.j4,(impl_within _ _ _).eq,wrap64 (x:=(eqs.length:Int) - 1) (by omega),wrap64 (x:=(ents.length:Int) - 1) (by omega)]
   by_cases k4:k=4
   · subst k4
     cases q1:inR a 0 (ents.length - 1) with
     | false =>
       simp only [evz,Nat.reduceLT,q1,Bool.not_true,Bool.not_false]
       exact bad 3 (by decide) (by simp [numsFault,two,h0,q1])
     | true =>
       cases q2:inR b 0 (ents.length - 1) with
       | false =>
         simp only [evz,Nat.reduceLT,q1,q2,Bool.not_true,Bool.not_false]
         exact bad 3 (by decide) (by simp [numsFault,two,h0,q1,q2])
       | true =>
         cases q3:inR s 0 1 with
         | false =>
           simp only [evz,Nat.reduceLT,q1,q2,q3,Bool.not_true,Bool.not_false]
           exact bad 3 (by decide) (by simp [numsFault,two,h0,q1,q2,q3])
         | true =>
           simp only [evz,Nat.reduceLT,q1,q2,q3,Bool.not_true,Bool.not_false]
           exact good (by simp [numsFault,two,h0,q1,q2,q3,show inR 0 0 1=true from rfl])
   by_cases k5:k=5
   · subst k5
     by_cases s0:s=0
     · subst s0
       cases q1:inR a 0 (ents.length - 1) with
       | false =>
         simp only [evz,Nat.reduceLT,q1,Bool.not_true,Bool.not_false,show inR 0 0 1=true from rfl]
         exact bad 3 (by decide) (by simp [numsFault,two,h0,q1])
       | true =>
         cases q2:inR b 0 (ents.length - 1) with
         | false =>
           simp only [evz,Nat.reduceLT,q1,q2,Bool.not_true,Bool.not_false,show inR 0 0 1=true from rfl]
           exact bad 3 (by decide) (by simp [numsFault,two,h0,q1,q2])
         | true =>
           simp only [evz,Nat.reduceLT,q1,q2,Bool.not_true,Bool.not_false,show inR 0 0 1=true from rfl]
           exact good (by simp [numsFault,two,h0,q1,q2,show inR 0 0 1=true from rfl])
     · simp only [evz,Nat.reduceLT,s0]
       exact bad 1 (by decide) (by simp [numsFault,two,h0,s0])
   by_cases b0:b=0
   case neg =>
    simp only [evz,Nat.reduceLT,k4,k5,b0]
    exact bad 1 (by decide) (by simp [numsFault,two,h0,k4,k5,b0])
   by_cases p0:p=0
   case neg =>
    simp only [evz,Nat.reduceLT,k4,k5,b0,p0]
    exact bad 1 (by decide) (by simp [numsFault,two,h0,k4,k5,b0,p0])
   by_cases s0:s=0
   case neg =>
    simp only [evz,Nat.reduceLT,k4,k5,b0,p0,s0]
    exact bad 1 (by decide) (by simp [numsFault,two,h0,k4,k5,b0,p0,s0])
   subst b0 p0 s0
   by_cases k1:k=1
   · subst k1
     cases q1:inR a 0 (eqs.length - 1) with
     | false =>
       simp only [evz,Nat.reduceLT,q1,Bool.not_true,Bool.not_false,show inR 0 0 1=true from rfl]
       exact bad 3 (by decide) (by simp [numsFault,two,h0,q1])
     | true =>
       simp only [evz,Nat.reduceLT,q1,Bool.not_true,Bool.not_false,show inR 0 0 1=true from rfl]
       exact good (by simp [numsFault,two,h0,q1,show inR 0 0 1=true from rfl])
   · skip
     cases q1:inR a 0 (ents.length - 1) with
     | false =>
       simp only [evz,Nat.reduceLT,q1,Bool.not_true,Bool.not_false,k1,k4,k5,show inR 0 0 1=true from rfl]
       exact bad 3 (by decide) (by simp [numsFault,two,h0,k1,k4,k5,q1])
     | true =>
       simp only [evz,Nat.reduceLT,q1,Bool.not_true,Bool.not_false,k1,k4,k5,show inR 0 0 1=true from rfl]
       exact good (by simp [numsFault,two,h0,k1,k4,k5,q1,show inR 0 0 1=true from rfl])
end
noncomputable def chkN (l:List Symbol) (eqs:List Equation) (ents:List Entry):Nat→Nat→Int
 | 0,_=>0
 | n+1,k=>if (derR l eqs (ents.take k) (ents.getD k ⟨0,0,0,0,0,[],[]⟩)).code≠0 then (derR l eqs (ents.take k) (ents.getD k ⟨0,0,0,0,0,[],[]⟩)).code
   else if (derR l eqs (ents.take k) (ents.getD k ⟨0,0,0,0,0,[],[]⟩)).equation=eqOf (ents.getD k ⟨0,0,0,0,0,[],[]⟩) then chkN l eqs ents n (k+1) else 8
noncomputable def checkR (s:Signature) (eqs:List Equation) (ents:List Entry):Int :=
 if sigFault s≠0 then sigFault s else if eqsFault s.symbols eqs≠0 then eqsFault s.symbols eqs else if 500 < ents.length then 2 else chkN s.symbols eqs ents ents.length 0
theorem take_getE {ents:List Entry} {k:Nat} (h:k < ents.length):ents.take (k+1)=ents.take k++[ents[k]]:=by
 rw [List.take_add_one,List.getElem?_eq_getElem h]; rfl
theorem win_take {ents:List Entry} {k:Nat}:((cells ents).take (k*7)).drop (0*7)=cells (ents.take k):=by rw [Nat.zero_mul,List.drop_zero,cells_take ents 7 k rfl]
theorem win_guard {k n:Nat} (h:k≤n):(decide (0≤(0:Int))&&decide ((0:Int)≤(k:Nat))&&decide ((k:Int)≤(n:Nat)))=true:=by
 simp; omega
theorem eqn_iff {e:Entry} {q:Equation} (h:q.left=e.left):q=eqOf e↔q.right=e.right:=by
 unfold eqOf
 obtain ⟨a,b⟩:=q
 simp only at h
 subst h
 simp
section
variable {l:List Symbol} (ok:SigOk ⟨l⟩) (hs:sm 1048576 (Signature.mk l)) {eqs:List Equation} (hq:∀ x∈eqs,EqOk l x) (hql:eqs.length≤12) {ents:List Entry} (hel:ents.length≤500)
include ok hs hq hql hel
theorem spec_check {N:Nat} :
 ∀ n k f,k+n=ents.length→n < f→(∀ x∈ents.take k,EqOk l (eqOf x))→spec_l11Check.at0 N f (spec_l11Check.st0 (cells l) (cells eqs) (cells ents) (k:Nat))=some (.int .i64 (chkN l eqs ents n k),[])
 | n,k,0,hk,hf,hok=>by omega
 | 0,k,f+1,hk,hf,hok=>by
   simp only [spec_l11Check.next0,spec_l11Check.round0,evz,Nat.reduceLT,show ¬ k < ents.length by omega,chkN]
 | n+1,k,f+1,hk,hf,hok=>by
   have hlt:k < ents.length:=by omega
   have hlk:ents[k]?=some ents[k]:=List.getElem?_eq_getElem hlt
   have hd:=(spec_l11Derive ok hs hq hok hql (by rw [List.length_take]; omega) ents[k]).eq
   simp only [spec_l11Check.next0,spec_l11Check.round0,evz,Nat.reduceLT,hlt,hlk,win_take,cells_window (k:=7) (i:=k) rfl hlk,enc_Entry] at hd ⊢
   rw [cond_pos (win_guard (Nat.le_of_lt hlt))]
   simp only [evz,Nat.reduceLT,hd]
   rw [chkN,getN hlt]
   by_cases c:(derR l eqs (ents.take k) ents[k]).code=0
   case neg=>simp only [c,evz,Nat.reduceLT,ne_eq,not_false_eq_true]
   have hdo:=derR_ok ok hq hok c
   simp only [c,evz,Nat.reduceLT,ne_eq,not_true_eq_false,(spec_l1Same _ _ (sm_mono (by omega) hdo.small.1)).eq,(spec_l1Same _ _ (sm_mono (by omega) hdo.small.2)).eq]
   by_cases c1:(derR l eqs (ents.take k) ents[k]).equation.left=ents[k].left
   case neg =>
    have c2:¬ (derR l eqs (ents.take k) ents[k]).equation=eqOf ents[k]:=fun h=>c1 (by rw [h]; rfl)
    simp only [c1,c2,evz,Nat.reduceLT,decide_false,Bool.not_false]
   by_cases c2:(derR l eqs (ents.take k) ents[k]).equation.right=ents[k].right
   case neg =>
    have c3:¬ (derR l eqs (ents.take k) ents[k]).equation=eqOf ents[k]:=fun h=>c2 ((eqn_iff c1).1 h)
    simp only [c1,c2,c3,evz,Nat.reduceLT,decide_false,decide_true,Bool.not_false,Bool.not_true]
   rw [if_pos ((eqn_iff c1).2 c2)]
   simp only [c1,c2,evz,Nat.reduceLT,decide_true,Bool.not_true]
   rw [wrap_succ (by omega)]
   refine spec_check n (k+1) f (by omega) (by omega) (fun x hx => ?_)
   rw [take_getE hlt] at hx
   rcases List.mem_append.1 hx with hx | hx
   · exact hok x hx
   · rw [List.mem_singleton.1 hx,← (eqn_iff c1).2 c2]
     exact hdo
theorem impl_check {N:Nat} :
 ∀ n k f,k+n=ents.length→n < f→(∀ x∈ents.take k,EqOk l (eqOf x))→impl_CheckEntries.at0 N f (impl_CheckEntries.st0 (cells eqs) (cells ents) (cells ents) ents.length (k:Nat) (cells l))=some (.int .i64 (chkN l eqs ents n k),[])
 | n,k,0,hk,hf,hok=>by omega
 | 0,k,f+1,hk,hf,hok=>by
   simp only [impl_CheckEntries.next0,impl_CheckEntries.round0,evz,Nat.reduceLT,show ¬ k < ents.length by omega,chkN]
 | n+1,k,f+1,hk,hf,hok=>by
   have hlt:k < ents.length:=by omega
   have hlk:ents[k]?=some ents[k]:=List.getElem?_eq_getElem hlt
   have hd:=(impl_derive ok hs hq hok hql (by rw [List.length_take]; omega) ⟨ents[k].kind,ents[k].a,ents[k].b,ents[k].place,ents[k].side,[],[]⟩).eq
   have e0:derR l eqs (ents.take k) ⟨ents[k].kind,ents[k].a,ents[k].b,ents[k].place,ents[k].side,[],[]⟩=derR l eqs (ents.take k) ents[k]:=rfl
   rw [e0] at hd
   simp only [impl_CheckEntries.next0,impl_CheckEntries.round0,evz,Nat.reduceLT,hlt,hlk,win_take,enc_Entry,slc_nil] at hd ⊢
   rw [cond_pos (win_guard (Nat.le_of_lt hlt))]
   simp only [evz,Nat.reduceLT,hd]
   rw [chkN,getN hlt]
   by_cases c:(derR l eqs (ents.take k) ents[k]).code=0
   case neg=>simp only [c,evz,Nat.reduceLT,ne_eq,not_false_eq_true]
   have hdo:=derR_ok ok hq hok c
   have h1:=entry_eqn (made ⟨ents[k].kind,ents[k].a,ents[k].b,ents[k].place,ents[k].side,[],[]⟩ (derR l eqs (ents.take k) ents[k]))
   have h2:=entry_eqn ents[k]
   rw [enc_Entry] at h1 h2
   have e1:(made ⟨ents[k].kind,ents[k].a,ents[k].b,ents[k].place,ents[k].side,[],[]⟩ (derR l eqs (ents.take k) ents[k])).left=(derR l eqs (ents.take k) ents[k]).equation.left:=by unfold made; rw [if_neg (by simpa using c)]
   have e2:(made ⟨ents[k].kind,ents[k].a,ents[k].b,ents[k].place,ents[k].side,[],[]⟩ (derR l eqs (ents.take k) ents[k])).right=(derR l eqs (ents.take k) ents[k]).equation.right:=by unfold made; rw [if_neg (by simpa using c)]
   have h3:=impl_sameEquation (derR l eqs (ents.take k) ents[k]).equation.left (derR l eqs (ents.take k) ents[k]).equation.right ents[k].left ents[k].right (sm_mono (by omega) hdo.small)
   rw [e1,e2] at h1
   simp only [c,evz,Nat.reduceLT,ne_eq,not_true_eq_false,e1,e2,h1.eq,h2.eq,h3.eq]
   by_cases c1:(derR l eqs (ents.take k) ents[k]).equation=eqOf ents[k]
   case neg =>
    have c2:¬ (Equation.mk (derR l eqs (ents.take k) ents[k]).equation.left (derR l eqs (ents.take k) ents[k]).equation.right)=Equation.mk ents[k].left ents[k].right:=c1
    simp only [c1,c2,evz,Nat.reduceLT,decide_false,Bool.not_false]
   have c2:(Equation.mk (derR l eqs (ents.take k) ents[k]).equation.left (derR l eqs (ents.take k) ents[k]).equation.right)=Equation.mk ents[k].left ents[k].right:=c1
   rw [if_pos c1]
   simp only [c2,evz,Nat.reduceLT,decide_true,Bool.not_true]
   rw [wrap_succ (by omega)]
   refine impl_check n (k+1) f (by omega) (by omega) (fun x hx => ?_)
   rw [take_getE hlt] at hx
   rcases List.mem_append.1 hx with hx | hx
   · exact hok x hx
   · rw [List.mem_singleton.1 hx,← c1]
     exact hdo
end
theorem spec_CheckEntries (s:Signature) (eqs:List Equation) (ents:List Entry) (hs:sm 1048576 s) (hq:sm 1048576 eqs) (he:sm 1048576 ents) :
 Call F.spec_CheckEntries [.agg (enc s),slc eqs,slc ents] (.int .i64 (checkR s eqs ents)):=by
 obtain ⟨l⟩:=s
 show Call F.spec_CheckEntries [.agg [slc l],slc eqs,slc ents] _
 refine call_of rfl 0 ((spec_CheckEntries.ev _ _ _ _).trans ?_)
 have hsl:l.length≤4294967296:=Nat.le_trans hs.1 (by omega)
 simp only [evz,Nat.reduceLT,(spec_EquationsFault l hsl eqs (sm_mono (by omega) hq)).eq,checkR]
 by_cases h1:sigFault ⟨l⟩=0
 case neg=>simp only [h1,evz,Nat.reduceLT,ne_eq,not_false_eq_true]
 have ok:=(sigOk_iff _).1 h1
 by_cases h2:eqsFault l eqs=0
 case neg=>simp only [h1,h2,evz,Nat.reduceLT,ne_eq,not_false_eq_true,not_true_eq_false]
 obtain ⟨q1,q2⟩:=eqsOk_iff.1 h2
 have hc:Call F.spec_l11Check [.rref [slc l] 0,slc eqs,slc ents] (.int .i64 (if 500 < ents.length then 2 else chkN l eqs ents ents.length 0)):=by
  refine call_of rfl (ents.length+1) ((spec_l11Check.ev _ _ _ _).trans ?_)
  simp only [evz,Nat.reduceLT,gt_iff_lt]
  by_cases h3:500 < ents.length
  · have h3':(500:Int) < ents.length:=by omega
    simp only [h3,h3',evz,Nat.reduceLT]
  · have h3':¬ (500:Int) < ents.length:=by omega
    simp only [h3,h3',evz,Nat.reduceLT]
    exact spec_check ok hs q2 q1 (by omega) ents.length 0 _ (by omega) (by omega) (by simp)
 simp only [h1,h2,evz,Nat.reduceLT,ne_eq,not_true_eq_false,hc.eq]
theorem impl_CheckEntries (s:Signature) (eqs:List Equation) (ents:List Entry) (hs:sm 1048576 s) (hq:sm 1048576 eqs) (he:sm 1048576 ents) :
 Call F.impl_CheckEntries [.agg (enc s),slc eqs,slc ents] (.int .i64 (checkR s eqs ents)):=by
 obtain ⟨l⟩:=s
 show Call F.impl_CheckEntries [.agg [slc l],slc eqs,slc ents] _
 refine call_of rfl (ents.length+1) ((impl_CheckEntries.ev _ _ _ _).trans ?_)
 have hsl:l.length≤4294967296:=Nat.le_trans hs.1 (by omega)
 simp only [evz,Nat.reduceLT,(impl_EquationsFault l hsl eqs (sm_mono (by omega) hq)).eq,checkR,gt_iff_lt]
 by_cases h1:sigFault ⟨l⟩=0
 case neg=>simp only [h1,evz,Nat.reduceLT,ne_eq,not_false_eq_true]
 have ok:=(sigOk_iff _).1 h1
 by_cases h2:eqsFault l eqs=0
 case neg=>simp only [h1,h2,evz,Nat.reduceLT,ne_eq,not_false_eq_true,not_true_eq_false]
 obtain ⟨q1,q2⟩:=eqsOk_iff.1 h2
 by_cases h3:500 < ents.length
 · have h3':(500:Int) < ents.length:=by omega
   simp only [h1,h2,h3,h3',evz,Nat.reduceLT,ne_eq,not_true_eq_false]
 · have h3':¬ (500:Int) < ents.length:=by omega
   simp only [h1,h2,h3,h3',evz,Nat.reduceLT,ne_eq,not_true_eq_false]
   exact impl_check ok hs q2 q1 (by omega) ents.length 0 _ (by omega) (by omega) (by simp)
end Ev.Ty
end
section
namespace Ev.Ty
open Go Ev
open Enc (enc)
open Sm (sm)
set_option linter.unusedSimpArgs false
set_option linter.unusedVariables false
set_option maxRecDepth 100000
set_option maxHeartbeats 2000000
theorem laws_FnExactCheckEntries (s:Signature) (eqs:List Equation) (es:List Entry) (h_s:sm maxLen s) (h_eqs:sm maxLen eqs) (h_es:sm maxLen es):Call F.laws_FnExactCheckEntries [.agg (enc s),slc eqs,slc es] (.bool true):=by
 obtain ⟨r0,c0,g0,p0⟩:=laws_szSignature s.symbols 1048576 (by omega) (by omega) h_s
 by_cases n0:r0 < 0
 · exact call_of rfl 0 ((laws_FnExactCheckEntries.ev _ _ _ _ ).trans (by simp only [evz,Nat.reduceLT,c0.eq,n0]))
 obtain ⟨r1,c1,g1,p1⟩:=laws_szEquationS eqs r0 (by omega) (by omega) h_eqs
 by_cases n1:r1 < 0
 · exact call_of rfl 0 ((laws_FnExactCheckEntries.ev _ _ _ _ ).trans (by simp only [evz,Nat.reduceLT,c0.eq,n0,c1.eq,n1]))
 obtain ⟨r2,c2,g2,p2⟩:=laws_szEntryS es r1 (by omega) (by omega) h_es
 by_cases n2:r2 < 0
 · exact call_of rfl 0 ((laws_FnExactCheckEntries.ev _ _ _ _ ).trans (by simp only [evz,Nat.reduceLT,c0.eq,n0,c1.eq,n1,c2.eq,n2]))
 have q_s:=p0 (by omega)
 have s_s:=sm_mono (show 1048576≤4294967296 by omega) q_s
 have m_s:=sm_mono (show 1048576≤67108864 by omega) q_s
 have q_eqs:=p1 (by omega)
 have s_eqs:=sm_mono (show 1048576≤4294967296 by omega) q_eqs
 have m_eqs:=sm_mono (show 1048576≤67108864 by omega) q_eqs
 have q_es:=p2 (by omega)
 have s_es:=sm_mono (show 1048576≤4294967296 by omega) q_es
 have m_es:=sm_mono (show 1048576≤67108864 by omega) q_es
 have hi:Call F.impl_CheckEntries [.agg [slc s.symbols],slc eqs,slc es] (.int .i64 (checkR s eqs es)):=impl_CheckEntries s eqs es q_s q_eqs q_es
 have hp:Call F.spec_CheckEntries [.agg [slc s.symbols],slc eqs,slc es] (.int .i64 (checkR s eqs es)):=spec_CheckEntries s eqs es q_s q_eqs q_es
 exact call_of rfl 0 ((laws_FnExactCheckEntries.ev _ _ _ _ ).trans (by simp only [evz,Nat.reduceLT,c0.eq,n0,c1.eq,n1,c2.eq,n2,hi.eq,hp.eq,(laws_toSignature s.symbols s_s).eq,(laws_eqSignature s.symbols _  s_s).eq,(laws_toEquationS eqs s_eqs).eq,(laws_eqEquationS eqs _  s_eqs).eq,(laws_toEntryS es s_es).eq,(laws_eqEntryS es _  s_es).eq,decide_true,Bool.not_true,cond_false]))
end Ev.Ty
end
