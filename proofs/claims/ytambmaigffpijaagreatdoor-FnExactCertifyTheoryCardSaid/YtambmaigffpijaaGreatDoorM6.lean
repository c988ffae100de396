/- Steps on the way to RowCertifyTheory: TyAllPeaks, TyUnjoined, TyTheory, TyHolds, TyAllHold, TyEntries, TyDeriveP, TyDerive, TyCert, TyLCertifyTheory. -/
import Derived.Test.YtambmaigffpijaaGreatDoorM5
set_option linter.unusedSectionVars false
section
namespace Ev.Ty
open Go Ev
open Enc (enc)
open Sm (sm)
set_option linter.unusedSimpArgs false
set_option linter.unusedVariables false
noncomputable def rowN (l:List Symbol) (rs:List Equation) (i:Nat):Nat→Nat→List Equation→List Equation ⊕ Int
 | 0,_,out => .inl out
 | n+1,j,out=>match peaksR l (rs.getD i ⟨[],[]⟩) (rs.getD j ⟨[],[]⟩) (decide (i=j)) with
   | .inr c => .inr c
   | .inl ps=>if 200 < (out++ps).length then .inr 2 else rowN l rs i n (j+1) (out++ps)
noncomputable def allN (l:List Symbol) (rs:List Equation):Nat→Nat→List Equation→List Equation ⊕ Int
 | 0,_,out => .inl out
 | n+1,i,out=>match rowN l rs i rs.length 0 out with
   | .inr c => .inr c
   | .inl out'=>allN l rs n (i+1) out'
theorem rowN_le {l:List Symbol} {rs:List Equation} {i:Nat}:∀ {n j:Nat} {out o':List Equation},out.length≤200→(∀ e∈out,sm 67108864 e)→rowN l rs i n j out = .inl o'→o'.length≤200∧∀ e∈o',sm 67108864 e
 | 0,j,out,o',h,h2,e=>by cases e; exact ⟨h,h2⟩
 | n+1,j,out,o',h,h2,e=>by
   rw [rowN] at e
   split at e
   · cases e
   · rename_i ps hp
     split at e
     · cases e
     · exact rowN_le (by omega) (fun e he=>by
        rcases List.mem_append.1 he with he | he
        · exact h2 e he
        · exact (peaksR_len hp).2 e he) e
theorem allN_le {l:List Symbol} {rs:List Equation}:∀ {n i:Nat} {out o':List Equation},out.length≤200→(∀ e∈out,sm 67108864 e)→allN l rs n i out = .inl o'→o'.length≤200∧∀ e∈o',sm 67108864 e
 | 0,i,out,o',h,h2,e=>by cases e; exact ⟨h,h2⟩
 | n+1,i,out,o',h,h2,e=>by
   rw [allN] at e
   split at e
   · cases e
   · rename_i o1 h1
     obtain ⟨q1,q2⟩:=rowN_le h h2 h1
     exact allN_le q1 q2 e
theorem cells_pick {rs:List Equation} {k:Nat} (h:k < rs.length):(((cells rs).drop (k*2)).take 2)=[slc rs[k].left,slc rs[k].right]:=by
 rw [cells_drop rs 2 k rfl,List.drop_eq_getElem_cons h]; rfl
def apT:List Equation ⊕ Int→R
 | .inl ps=>some (.tup [slc ps,.int .i64 0],[])
 | .inr c=>some (.tup [.sl 2 [],.int .i64 c],[])
section
variable {l:List Symbol} (ok:SigOk ⟨l⟩) {rs:List Equation} (hr:∀ e∈rs,EqOk l e) (hl:rs.length≤12)
include ok hr hl
theorem impl_allPeaks_row {N:Nat} (hN:20≤N) (L0:St→R) {i:Nat} (hi:i < rs.length):∀ n j f (out:List Equation),j+n=rs.length→n < f→out.length≤200 →
 impl_allPeaks.at2 N L0 f (impl_allPeaks.st2 (cells rs) (cells rs) rs.length (i:Nat) (i:Nat) (cells rs) rs.length (j:Nat) (cells l) (cells out) (cells rs[i].left) (cells rs[i].right)) =
  match rowN l rs i n j out with
  | .inr c=>apT (.inr c)
  | .inl o'=>L0 (impl_allPeaks.st0 (cells rs) (cells rs) rs.length ((i+1:Nat):Int) (cells l) (cells o')):=by
 intro n
 induction n with
 | zero =>
   intro j f out hj hf ho
   obtain ⟨f,rfl⟩:∃ x,f=x+1:=⟨f - 1,by omega⟩
   obtain rfl:j=rs.length:=by omega
   simp only [impl_allPeaks.next2,impl_allPeaks.round2,evz,Nat.reduceLT,Nat.lt_irrefl,rowN]
   rw [wrap_succ (by omega)]
 | succ n ih =>
   intro j f out hj hf ho
   obtain ⟨f,rfl⟩:∃ x,f=x+1:=⟨f - 1,by omega⟩
   have h:j < rs.length:=by omega
   have hlk:rs[j]?=some rs[j]:=List.getElem?_eq_getElem h
   have hpk:=impl_peaksOf ok (hr _ (List.getElem_mem hi)) (hr _ (List.getElem_mem h)) (decide (i=j))
   have hlo:=(hr _ (List.getElem_mem hi)).left.le
   have eb:decide ((i:Int)=(j:Int))=decide (i=j):=decide_eq_decide.2 (by omega)
   have on:oSl 2 (T.sl 2 [])=some []:=rfl
   rw [rowN,getE hi,getE h]
   cases hp:peaksR l rs[i] rs[j] (decide (i=j)) with
   | inr c =>
     rw [hp] at hpk
     have hc:=peaksR_code hp
     simp only [impl_allPeaks.next2,impl_allPeaks.round2,evz,Nat.reduceLT,h,hlk,enc_Equation,eb,hpk,psT,hc,on,apT]
   | inl ps =>
     rw [hp] at hpk
     have hpl:=(peaksR_len hp).1
     have i1:=ih (j+1) f (out++ps) (by omega) (by omega)
     rw [cells_append] at i1
     simp only [impl_allPeaks.next2,impl_allPeaks.round2,evz,Nat.reduceLT,h,hlk,enc_Equation,eb,hpk,psT,List.nil_append]
     rw [cond_pos (ble_ok (by rw [cells_length,cells_length,sz_Equation]; omega)),wrap_succ (by omega)]
     have hlen:(cells out++cells ps).length / 2=(out++ps).length:=by rw [← cells_append,cells_div]; rfl
     rw [hlen]
     by_cases h2:200 < (out++ps).length
     · have h2':(((out++ps).length:Nat):Int) > 200:=by omega
       simp only [h2,h2',evz,Nat.reduceLT,apT]
     · have h2':¬ (((out++ps).length:Nat):Int) > 200:=by omega
       simp only [h2,h2',evz,Nat.reduceLT]
       exact i1 (by omega)
theorem impl_allPeaks:LIM F.impl_allPeaks [.agg [slc l],slc rs]=apT (allN l rs rs.length 0 []):=by
 have hcall:∀ r,callK prog Ev.A H LIM 20 F.impl_allPeaks [.agg [slc l],slc rs]=apT r→LIM F.impl_allPeaks [.agg [slc l],slc rs]=apT r:=fun r h=>by
  cases r with
  | inl x=>exact call_of rfl _ h
  | inr x=>exact call_of rfl _ h
 refine hcall _ ((impl_allPeaks.ev _ _ _).trans ?_)
 have loop:∀ n i f (out:List Equation),i+n=rs.length→n < f→out.length≤200→(∀ e∈out,sm 67108864 e) →
  impl_allPeaks.at0 20 f (impl_allPeaks.st0 (cells rs) (cells rs) rs.length (i:Nat) (cells l) (cells out))=apT (allN l rs n i out):=by
  intro n
  induction n with
  | zero =>
    intro i f out hj hf ho hso
    obtain ⟨f,rfl⟩:∃ x,f=x+1:=⟨f - 1,by omega⟩
    obtain rfl:i=rs.length:=by omega
    simp only [impl_allPeaks.next0,impl_allPeaks.round0,evz,Nat.reduceLT,Nat.lt_irrefl,allN,apT]
  | succ n ih =>
    intro i f out hj hf ho hso
    obtain ⟨f,rfl⟩:∃ x,f=x+1:=⟨f - 1,by omega⟩
    have h:i < rs.length:=by omega
    have hlk:rs[i]?=some rs[i]:=List.getElem?_eq_getElem h
    have hrow:=impl_allPeaks_row ok hr hl (N:=20) (by omega) (impl_allPeaks.at0 20 f) h rs.length 0 20 out (by omega) (by omega) ho
    simp only [impl_allPeaks.next0,impl_allPeaks.round0,evz,Nat.reduceLT,h,hlk,enc_Equation]
    refine hrow.trans ?_
    rw [allN]
    cases hro:rowN l rs i rs.length 0 out with
    | inr c=>rfl
    | inl o' =>
      obtain ⟨q1,q2⟩:=rowN_le ho hso hro
      exact ih (i+1) f o' (by omega) (by omega) q1 q2
 have:=loop rs.length 0 20 [] (by omega) (by omega) (by simp) (by simp)
 simp only [evz,Nat.reduceLT]
 exact this
theorem spec_l9All_row {N:Nat} (hN:20≤N) (L0:St→R) {i:Nat} (hi:i < rs.length):∀ n j f (out:List Equation),j+n=rs.length→n < f→out.length≤200 →
 spec_l9All.at2 N L0 f (spec_l9All.st2 (cells l) (cells rs) (i:Nat) (j:Nat) (cells out)) =
  match rowN l rs i n j out with
  | .inr c=>apT (.inr c)
  | .inl o'=>L0 (spec_l9All.st0 (cells l) (cells rs) ((i+1:Nat):Int) (cells o')):=by
 intro n
 induction n with
 | zero =>
   intro j f out hj hf ho
   obtain ⟨f,rfl⟩:∃ x,f=x+1:=⟨f - 1,by omega⟩
   obtain rfl:j=rs.length:=by omega
   simp only [spec_l9All.next2,spec_l9All.round2,evz,Nat.reduceLT,Nat.lt_irrefl,rowN]
   rw [wrap_succ (by omega)]
 | succ n ih =>
   intro j f out hj hf ho
   obtain ⟨f,rfl⟩:∃ x,f=x+1:=⟨f - 1,by omega⟩
   have h:j < rs.length:=by omega
   have hpk:=spec_l9Peaks ok (hr _ (List.getElem_mem hi)) (hr _ (List.getElem_mem h)) (decide (i=j))
   have hlo:=(hr _ (List.getElem_mem hi)).left.le
   have eb:decide ((i:Int)=(j:Int))=decide (i=j):=decide_eq_decide.2 (by omega)
   have on:oSl 2 (T.sl 2 [])=some []:=rfl
   rw [rowN,getE hi,getE h]
   cases hp:peaksR l rs[i] rs[j] (decide (i=j)) with
   | inr c =>
     rw [hp] at hpk
     have hc:=peaksR_code hp
     simp only [spec_l9All.next2,spec_l9All.round2,evz,Nat.reduceLT,h,hi,cells_pick h,cells_pick hi,eb,hpk,psT,hc,on,apT]
   | inl ps =>
     rw [hp] at hpk
     have hpl:=(peaksR_len hp).1
     have i1:=ih (j+1) f (out++ps) (by omega) (by omega)
     rw [cells_append] at i1
     simp only [spec_l9All.next2,spec_l9All.round2,evz,Nat.reduceLT,h,hi,cells_pick h,cells_pick hi,eb,hpk,psT,List.nil_append]
     rw [cond_pos (ble_ok (by rw [cells_length,cells_length,sz_Equation]; omega)),wrap_succ (by omega)]
     have hlen:(cells out++cells ps).length / 2=(out++ps).length:=by rw [← cells_append,cells_div]; rfl
     rw [hlen]
     by_cases h2:200 < (out++ps).length
     · have h2':(((out++ps).length:Nat):Int) > 200:=by omega
       simp only [h2,h2',evz,Nat.reduceLT,apT]
     · have h2':¬ (((out++ps).length:Nat):Int) > 200:=by omega
       simp only [h2,h2',evz,Nat.reduceLT]
       exact i1 (by omega)
theorem spec_l9All:LIM F.spec_l9All [.rref [slc l] 0,slc rs]=apT (allN l rs rs.length 0 []):=by
 have hcall:∀ r,callK prog Ev.A H LIM 20 F.spec_l9All [.rref [slc l] 0,slc rs]=apT r→LIM F.spec_l9All [.rref [slc l] 0,slc rs]=apT r:=fun r h=>by
  cases r with
  | inl x=>exact call_of rfl _ h
  | inr x=>exact call_of rfl _ h
 refine hcall _ ((spec_l9All.ev _ _ _).trans ?_)
 have loop:∀ n i f (out:List Equation),i+n=rs.length→n < f→out.length≤200→(∀ e∈out,sm 67108864 e) →
  spec_l9All.at0 20 f (spec_l9All.st0 (cells l) (cells rs) (i:Nat) (cells out))=apT (allN l rs n i out):=by
  intro n
  induction n with
  | zero =>
    intro i f out hj hf ho hso
    obtain ⟨f,rfl⟩:∃ x,f=x+1:=⟨f - 1,by omega⟩
    obtain rfl:i=rs.length:=by omega
    simp only [spec_l9All.next0,spec_l9All.round0,evz,Nat.reduceLT,Nat.lt_irrefl,allN,apT]
  | succ n ih =>
    intro i f out hj hf ho hso
    obtain ⟨f,rfl⟩:∃ x,f=x+1:=⟨f - 1,by omega⟩
    have h:i < rs.length:=by omega
    have hrow:=spec_l9All_row ok hr hl (N:=20) (by omega) (spec_l9All.at0 20 f) h rs.length 0 20 out (by omega) (by omega) ho
    simp only [spec_l9All.next0,spec_l9All.round0,evz,Nat.reduceLT,h]
    refine hrow.trans ?_
    rw [allN]
    cases hro:rowN l rs i rs.length 0 out with
    | inr c=>rfl
    | inl o' =>
      obtain ⟨q1,q2⟩:=rowN_le ho hso hro
      exact ih (i+1) f o' (by omega) (by omega) q1 q2
 exact loop rs.length 0 20 [] (by omega) (by omega) (by simp) (by simp)
end
end Ev.Ty
end
section
namespace Ev.Ty
open Go Ev
open Enc (enc)
open Sm (sm)
set_option linter.unusedSimpArgs false
set_option linter.unusedVariables false
def joinR (l:List Symbol) (rs:List Equation) (fuel:Nat) (e:Equation):IntResult :=
 if (norm l rs fuel 0 e.left).code≠0 then ⟨(norm l rs fuel 0 e.left).code,0⟩ else if (norm l rs fuel 0 e.right).code≠0 then ⟨(norm l rs fuel 0 e.right).code,0⟩ else
  if (norm l rs fuel 0 e.left).term=(norm l rs fuel 0 e.right).term then ⟨0,1⟩ else ⟨0,0⟩
theorem joinR_eq {l:List Symbol} {rs:List Equation} (h:rulesFault ⟨l⟩ rs=0) {e:Equation} (ha:TermOk l e.left) (hb:TermOk l e.right) {fuel:Nat} (hf:fuel≤200):areJoinedR ⟨l⟩ rs e.left e.right fuel=joinR l rs fuel e:=by
 have e1:∀ t,TermOk l t→normalFormR ⟨l⟩ rs t fuel=norm l rs fuel 0 t:=fun t ht=>by
  unfold normalFormR
  have h0:rewriteFault ⟨l⟩ rs t=0:=by
   unfold rewriteFault
   rw [if_neg (by simpa using h)]
   exact (termOk_iff _ _).2 ht
  have hr:inR (fuel:Int) 0 200=true:=inR_iff.2 (by omega)
  rw [if_neg (by simpa using h0),if_neg (by simp [hr]),Int.toNat_natCast]
 unfold areJoinedR joinR
 rw [e1 _ ha,e1 _ hb]
def unjN (l:List Symbol) (rs:List Equation) (fuel:Nat):List Equation→List Equation→List Equation ⊕ Int
 | [],out => .inl out
 | e::es,out=>if (joinR l rs fuel e).code=0 then if (joinR l rs fuel e).value=0 then unjN l rs fuel es (out++[e]) else unjN l rs fuel es out else .inr (joinR l rs fuel e).code
theorem joinR_tup {l:List Symbol} {rs:List Equation} {fuel:Nat} {e:Equation}:(if (norm l rs fuel 0 e.left).code≠0 then T.tup [.int .i64 0,.int .i64 (norm l rs fuel 0 e.left).code] else if (norm l rs fuel 0 e.right).code≠0 then .tup [.int .i64 0,.int .i64 (norm l rs fuel 0 e.right).code]
 else if (norm l rs fuel 0 e.left).term=(norm l rs fuel 0 e.right).term then .tup [.int .i64 1,.int .i64 0] else .tup [.int .i64 0,.int .i64 0]) = .tup [.int .i64 (joinR l rs fuel e).value,.int .i64 (joinR l rs fuel e).code]:=by
 unfold joinR
 split
 · rfl
 split
 · rfl
 split <;> rfl
theorem replAt_ok {l:List Symbol} {t u:List Int} (ht:TermOk l t) {p:Nat} (hp:p < t.length) (hu:TermOk l u) (h:(replAt l t p u).length≤24):TermOk l (replAt l t p u):=by
 obtain ⟨h1,h2,h3⟩:=sub_split ht hp
 have hs:skip (ar l) 1 (replAt l t p u)=some []:=by
  unfold replAt
  rw [List.append_assoc]
  refine skip_repl (y:=subAt l t p) (by rw [← h1]; exact h3) (by have:=skip_append (r:=t.drop (endAt l t p)) hu.skip; simpa using this) (t.take p) 1 ?_
  rw [← h1,List.take_append_drop]
  exact ht.skip
 refine ⟨?_,h,fun n hn => ?_,hs⟩
 · rcases Nat.eq_zero_or_pos (replAt l t p u).length with h | h
   · rw [List.eq_nil_of_length_eq_zero h] at hs; cases hs
   · exact h
 · unfold replAt at hn
   rcases List.mem_append.1 hn with hn | hn
   · rcases List.mem_append.1 hn with hn | hn
     · exact ht.node n (List.mem_of_mem_take hn)
     · exact hu.node n hn
   · exact ht.node n (List.mem_of_mem_drop hn)
theorem peakR_ok {l:List Symbol} (ok:SigOk ⟨l⟩) {o i:Equation} (ho:EqOk l o) (hi:EqOk l i) {p:Nat} (hp:p < o.left.length) (h0:(peakR l o i p).code=0):EqOk l (peakR l o i p).equation:=by
 have o1:=shift_ok hi.left hi.lowL
 have o2:=shift_ok hi.right hi.lowR
 have os:=subAt_ok ho.left hp
 have hsp:=unifR_spec os o1
 have hcd:=fun c=>unifR_code os o1 (c:=c)
 unfold peakR at h0 ⊢
 split
 · rename_i c hc
   rw [hc] at h0
   have:=hcd c hc
   simp only at h0
   omega
 · rename_i b hb
   rw [hb] at h0
   simp only at h0
   split at h0
   · cases h0
   rename_i c1
   split at h0
   · cases h0
   rename_i c2
   rw [if_neg c1,if_neg c2]
   have hub:=hsp.2 b hb
   have hwl:=applied_ge hub.mb (replAt l o.left p (shiftT i.right 6))
   exact plain_ok (hub.applied_ok ho.right (by omega)) (hub.applied_ok (replAt_ok ho.left hp o2 (by omega)) (by omega)) (by omega)
theorem placesN_ok {l:List Symbol} {o i:Equation} {same:Bool}:∀ {n k:Nat} {qs:List Nat},placesN l o i same n k = .inl qs→∀ q∈qs,(peakR l o i q).code=0
 | 0,k,qs,h=>by cases h; simp
 | n+1,k,qs,h=>by
   rw [placesN] at h
   split at h
   · exact placesN_ok h
   split at h
   · exact placesN_ok h
   split at h
   · rename_i h0
     split at h
     · rename_i ps hp
       cases h
       intro q hq
       rcases List.mem_cons.1 hq with rfl | hq
       · exact h0
       · exact placesN_ok hp q hq
     · cases h
   · cases h
theorem peaksR_ok {l:List Symbol} (ok:SigOk ⟨l⟩) {o i:Equation} (ho:EqOk l o) (hi:EqOk l i) {same:Bool} {ps:List Equation} (h:peaksR l o i same = .inl ps):∀ e∈ps,EqOk l e:=by
 unfold peaksR at h
 split at h
 · rename_i qs hp
   cases h
   intro e he
   obtain ⟨q,hq,rfl⟩:=List.mem_map.1 he
   have:=(placesN_mem hp).2 q hq
   exact peakR_ok ok ho hi (by omega) (placesN_ok hp q hq)
 · cases h
theorem rowN_ok {l:List Symbol} (ok:SigOk ⟨l⟩) {rs:List Equation} (hr:∀ e∈rs,EqOk l e) {i:Nat} (hi:i < rs.length):∀ {n j:Nat} {out o':List Equation},j+n=rs.length→(∀ e∈out,EqOk l e)→rowN l rs i n j out = .inl o'→∀ e∈o',EqOk l e
 | 0,j,out,o',hj,h2,e=>by cases e; exact h2
 | n+1,j,out,o',hj,h2,e=>by
   have hjl:j < rs.length:=by omega
   rw [rowN,getE hi,getE hjl] at e
   split at e
   · cases e
   · rename_i ps hp
     split at e
     · cases e
     · exact rowN_ok ok hr hi (by omega) (fun e he=>by
        rcases List.mem_append.1 he with he | he
        · exact h2 e he
        · exact peaksR_ok ok (hr _ (List.getElem_mem hi)) (hr _ (List.getElem_mem hjl)) hp e he) e
theorem allN_ok {l:List Symbol} (ok:SigOk ⟨l⟩) {rs:List Equation} (hr:∀ e∈rs,EqOk l e):∀ {n i:Nat} {out o':List Equation},i+n=rs.length→(∀ e∈out,EqOk l e)→allN l rs n i out = .inl o'→∀ e∈o',EqOk l e
 | 0,i,out,o',hi,h2,e=>by cases e; exact h2
 | n+1,i,out,o',hi,h2,e=>by
   rw [allN] at e
   split at e
   · cases e
   · rename_i o1 h1
     exact allN_ok ok hr (by omega) (rowN_ok ok hr (by omega) (by omega) h2 h1) e
def unT:List Equation ⊕ Int→R
 | .inl ps=>some (.agg [.int .i64 0,slc ps],[])
 | .inr c=>some (.agg [.int .i64 c,.sl 2 []],[])
section
variable {l:List Symbol} {rs:List Equation} (hrf:rulesFault ⟨l⟩ rs=0) (hls:sm 1048576 (Signature.mk l)) (hrs:sm 1048576 rs) {fuel:Nat} (hf:fuel≤200)
include hrf hls hrs hf
theorem impl_joined {e:Equation} (he:EqOk l e):Call F.impl_AreJoined [.agg [slc l],slc rs,slc e.left,slc e.right,.int .i64 fuel] (.agg [.int .i64 (joinR l rs fuel e).code,.int .i64 (joinR l rs fuel e).value]):=by
 have l1:=he.left.le
 have l2:=he.right.le
 have h:=impl_AreJoined ⟨l⟩ rs e.left e.right fuel hls hrs ⟨by omega,fun _ _=>trivial⟩ ⟨by omega,fun _ _=>trivial⟩
 rw [joinR_eq hrf he.left he.right hf,enc_IntResult] at h
 exact h
omit hls hrs in
theorem spec_joined {e:Equation} (he:EqOk l e):Call F.spec_l8Joined [.rref [slc l] 0,slc rs,slc e.left,slc e.right,.int .i64 fuel] (.tup [.int .i64 (joinR l rs fuel e).value,.int .i64 (joinR l rs fuel e).code]):=by
 obtain ⟨_,ok,q1,q2⟩:=rulesFault_ok hrf
 have h:=spec_l8Joined ok q2 q1 he.left he.right hf
 rw [joinR_tup] at h
 exact h
theorem impl_unj {ps:List Equation} (hps:∀ e∈ps,EqOk l e) (hpl:ps.length≤200):∀ n k f (X:List T) (out:List Equation),k+n=ps.length→n < f→X.length=ps.length*2→(∀ j,k*2≤j→X[j]?=(cells ps)[j]?)→out.length≤k →
 impl_UnjoinedOf.at0 300 f (impl_UnjoinedOf.st0 (cells rs) fuel ps.length (k:Nat) (cells l) 0 X (cells out))=unT (unjN l rs fuel (ps.drop k) out):=by
 intro n
 induction n with
 | zero =>
   intro k f X out hk hfl hXl hX ho
   obtain ⟨f,rfl⟩:∃ x,f=x+1:=⟨f - 1,by omega⟩
   obtain rfl:k=ps.length:=by omega
   rw [List.drop_of_length_le (Nat.le_refl _)]
   simp only [impl_UnjoinedOf.next0,impl_UnjoinedOf.round0,evz,Nat.reduceLT,Nat.lt_irrefl,unjN,unT]
 | succ n ih =>
   intro k f X out hk hfl hXl hX ho
   obtain ⟨f,rfl⟩:∃ x,f=x+1:=⟨f - 1,by omega⟩
   have h:k < ps.length:=by omega
   have g0:X[k*2]?=some (slc ps[k].left):=by
    rw [hX _ (Nat.le_refl _),get0 (l:=ps) (k:=2) rfl,List.getElem?_eq_getElem h]; rfl
   have g1:X[k*2+1]?=some (slc ps[k].right):=by
    rw [hX _ (by omega),get1 (l:=ps) (k:=2) rfl (by decide),List.getElem?_eq_getElem h]; rfl
   have hj:=(impl_joined hrf hls hrs hf (hps _ (List.getElem_mem h))).eq
   have hin:inB (k:Int) (X.length / 2)=true:=by rw [hXl,Nat.mul_div_cancel _ (by omega),inB_nat]; simpa using h
   have next:∀ u v (out':List Equation),out'.length≤k+1→impl_UnjoinedOf.at0 300 f (impl_UnjoinedOf.st0 (cells rs) fuel ps.length ((k+1:Nat):Int) (cells l) 0 ((X.set (k*2) u).set (k*2+1) v) (cells out'))=unT (unjN l rs fuel (ps.drop (k+1)) out'):=fun u v out' ho' =>
    ih (k+1) f _ out' (by omega) (by omega) (by simp [hXl]) (fun j hj=>by
     rw [List.getElem?_set_ne (by omega),List.getElem?_set_ne (by omega)]
     exact hX j (by omega)) ho'
   rw [List.drop_eq_getElem_cons h,unjN]
   simp only [impl_UnjoinedOf.next0,impl_UnjoinedOf.round0,evz,Nat.reduceLT,h,hin,g0,g1,hj,Int.toNat_natCast]
   rw [wrap_succ (by omega)]
   by_cases c0:(joinR l rs fuel ps[k]).code=0
   case neg=>simp only [c0,evz,Nat.reduceLT,unT]
   by_cases c1:(joinR l rs fuel ps[k]).value=0
   · simp only [c0,c1,evz,Nat.reduceLT]
     rw [cond_pos (ble_ok (by rw [cells_length,sz_Equation]; omega))]
     have:=next .hole .hole (out++[ps[k]]) (by simp; omega)
     rw [cells_append] at this
     exact this
   · simp only [c0,c1,evz,Nat.reduceLT]
     exact next _ _ out (by omega)
theorem spec_unj {ps:List Equation} (hps:∀ e∈ps,EqOk l e) (hpl:ps.length≤200):∀ n k f (X:List T) (out:List Equation),k+n=ps.length→n < f→X.length=ps.length*2→(∀ j,k*2≤j→X[j]?=(cells ps)[j]?)→out.length≤k →
 spec_l9Unjoined.at0 300 f (spec_l9Unjoined.st0 (cells l) (cells rs) fuel (k:Nat) X (cells out))=apT (unjN l rs fuel (ps.drop k) out):=by
 intro n
 induction n with
 | zero =>
   intro k f X out hk hfl hXl hX ho
   obtain ⟨f,rfl⟩:∃ x,f=x+1:=⟨f - 1,by omega⟩
   obtain rfl:k=ps.length:=by omega
   have hXd:X.length / 2=ps.length:=by rw [hXl,Nat.mul_div_cancel _ (by omega)]
   rw [List.drop_of_length_le (Nat.le_refl _)]
   simp only [spec_l9Unjoined.next0,spec_l9Unjoined.round0,evz,Nat.reduceLT,hXd,Nat.lt_irrefl,unjN,apT]
 | succ n ih =>
   intro k f X out hk hfl hXl hX ho
   obtain ⟨f,rfl⟩:∃ x,f=x+1:=⟨f - 1,by omega⟩
   have h:k < ps.length:=by omega
   have hXd:X.length / 2=ps.length:=by rw [hXl,Nat.mul_div_cancel _ (by omega)]
   have g0:X[k*2]?=some (slc ps[k].left):=by
    rw [hX _ (Nat.le_refl _),get0 (l:=ps) (k:=2) rfl,List.getElem?_eq_getElem h]; rfl
   have g1:X[k*2+1]?=some (slc ps[k].right):=by
    rw [hX _ (by omega),get1 (l:=ps) (k:=2) rfl (by decide),List.getElem?_eq_getElem h]; rfl
   have hj:=(spec_joined hrf hf (hps _ (List.getElem_mem h))).eq
   have hin:inB (k:Int) ps.length=true:=by rw [inB_nat]; simpa using h
   have next:∀ Y (out':List Equation),Y.length=X.length→(∀ j,k*2+2≤j→Y[j]?=X[j]?)→out'.length≤k+1→spec_l9Unjoined.at0 300 f (spec_l9Unjoined.st0 (cells l) (cells rs) fuel ((k+1:Nat):Int) Y (cells out'))=apT (unjN l rs fuel (ps.drop (k+1)) out'):=fun Y out' hYl hY ho' =>
    ih (k+1) f _ out' (by omega) (by omega) (by omega) (fun j hj=>by
     rw [hY j (by omega)]
     exact hX j (by omega)) ho'
   rw [List.drop_eq_getElem_cons h,unjN]
   simp only [spec_l9Unjoined.next0,spec_l9Unjoined.round0,evz,Nat.reduceLT,hXd,h,hin,g0,g1,hj,Int.toNat_natCast]
   rw [wrap_succ (by omega)]
   by_cases c0:(joinR l rs fuel ps[k]).code=0
   case neg=>simp only [c0,evz,Nat.reduceLT,apT]
   by_cases c1:(joinR l rs fuel ps[k]).value=0
   · simp only [c0,c1,evz,Nat.reduceLT,g0,g1]
     rw [cond_pos (ble_ok (by rw [cells_length,sz_Equation]; omega))]
     have:=next ((X.set (k*2) .hole).set (k*2+1) .hole) (out++[ps[k]]) (by simp) (fun j hj=>by
      rw [List.getElem?_set_ne (by omega),List.getElem?_set_ne (by omega)]) (by simp; omega)
     rw [cells_append] at this
     exact this
   · simp only [c0,c1,evz,Nat.reduceLT]
     exact next _ out rfl (fun j hj=>rfl) (by omega)
end
theorem joinR_code {l:List Symbol} {rs:List Equation} {fuel:Nat}:∀ {es out:List Equation} {c:Int},unjN l rs fuel es out = .inr c→c≠0
 | [],out,c,h=>by cases h
 | e::es,out,c,h=>by
   rw [unjN] at h
   split at h
   · split at h
     · exact joinR_code h
     · exact joinR_code h
   · rename_i h0; cases h; exact h0
noncomputable def unjR (l:List Symbol) (rs:List Equation) (fuel:Nat):List Equation ⊕ Int:=match allN l rs rs.length 0 [] with
 | .inl ps=>unjN l rs fuel ps []
 | .inr c => .inr c
theorem rowN_code {l:List Symbol} {rs:List Equation} {i:Nat}:∀ {n j:Nat} {out:List Equation} {c:Int},rowN l rs i n j out = .inr c→c≠0
 | 0,j,out,c,e=>by cases e
 | n+1,j,out,c,e=>by
   rw [rowN] at e
   split at e
   · rename_i c' hp; cases e; exact peaksR_code hp
   · split at e
     · cases e; omega
     · exact rowN_code e
theorem allN_code {l:List Symbol} {rs:List Equation}:∀ {n i:Nat} {out:List Equation} {c:Int},allN l rs n i out = .inr c→c≠0
 | 0,i,out,c,e=>by cases e
 | n+1,i,out,c,e=>by
   rw [allN] at e
   split at e
   · rename_i c' hp; cases e; exact rowN_code hp
   · exact allN_code e
theorem unjR_code {l:List Symbol} {rs:List Equation} {fuel:Nat} {c:Int} (h:unjR l rs fuel = .inr c):c≠0:=by
 unfold unjR at h
 split at h
 · exact joinR_code h
 · rename_i c' hp; cases h; exact allN_code hp
theorem spec_l9Unjoined {l:List Symbol} {rs:List Equation} (hrf:rulesFault ⟨l⟩ rs=0) (hls:sm 1048576 (Signature.mk l)) (hrs:sm 1048576 rs) {fuel:Nat} (hf:fuel≤200) :
 LIM F.spec_l9Unjoined [.rref [slc l] 0,slc rs,.int .i64 fuel]=apT (unjR l rs fuel):=by
 have hcall:∀ r,callK prog Ev.A H LIM 300 F.spec_l9Unjoined [.rref [slc l] 0,slc rs,.int .i64 fuel]=apT r→LIM F.spec_l9Unjoined [.rref [slc l] 0,slc rs,.int .i64 fuel]=apT r:=fun r h=>by
  cases r with
  | inl x=>exact call_of rfl _ h
  | inr x=>exact call_of rfl _ h
 refine hcall _ ((spec_l9Unjoined.ev _ _ _ _).trans ?_)
 obtain ⟨_,ok,q1,q2⟩:=rulesFault_ok hrf
 have ha:=spec_l9All ok q2 q1
 unfold unjR
 cases hp:allN l rs rs.length 0 [] with
 | inr c =>
   have hc:=allN_code hp
   rw [hp] at ha
   simp only [evz,Nat.reduceLT,ha,apT,hc,show oSl 2 (T.sl 2 [])=some [] from rfl]
 | inl ps =>
   rw [hp] at ha
   have hl:=allN_le (by simp) (by simp) hp
   have hok:=allN_ok ok q2 (by omega) (by simp) hp
   simp only [evz,Nat.reduceLT,ha,apT]
   have:=spec_unj hrf hls hrs hf hok hl.1 ps.length 0 300 (cells ps) [] (by omega) (by omega) (by rw [cells_length,sz_Equation]) (fun j _=>rfl) (by simp)
   rw [List.drop_zero] at this
   exact this
noncomputable def unjoinedOfR (s:Signature) (rs:List Equation) (fuel:Int):EquationsResult :=
 if rulesFault s rs≠0 then ⟨rulesFault s rs,[]⟩ else if inR fuel 0 200=false then ⟨3,[]⟩ else match unjR s.symbols rs fuel.toNat with
  | .inl ps=>⟨0,ps⟩
  | .inr c=>⟨c,[]⟩
theorem impl_UnjoinedOf (s:Signature) (rs:List Equation) (fuel:Int) (hs:sm 1048576 s) (hr:sm 1048576 rs):Call F.impl_UnjoinedOf [.agg (enc s),slc rs,.int .i64 fuel] (.agg (enc (unjoinedOfR s rs fuel))):=by
 obtain ⟨l⟩:=s
 have hsl:l.length≤4294967296:=Nat.le_trans hs.1 (by omega)
 have hf:=(impl_RulesFault l hsl rs (sm_mono (by omega) hr)).eq
 show Call F.impl_UnjoinedOf [.agg [slc l],slc rs,.int .i64 fuel] _
 refine call_of rfl 300 ((impl_UnjoinedOf.ev _ _ _ _).trans ?_)
 simp only [evz,Nat.reduceLT,hf,unjoinedOfR,(impl_within _ _ _).eq]
 by_cases h:rulesFault ⟨l⟩ rs=0
 case neg=>simp only [h,evz,Nat.reduceLT,ne_eq,not_false_eq_true,enc_EquationsResult,slc_nil,sz_Equation]
 cases h1:inR fuel 0 200 with
 | false=>simp only [h,evz,Nat.reduceLT,ne_eq,not_true_eq_false,Bool.not_false,enc_EquationsResult,slc_nil,sz_Equation]
 | true =>
   have hp1:=inR_iff.1 h1
   obtain ⟨k,rfl⟩:∃ k:Nat,fuel=k:=⟨fuel.toNat,by omega⟩
   obtain ⟨_,ok,q1,q2⟩:=rulesFault_ok h
   have ha:=impl_allPeaks ok q2 q1
   simp only [h,evz,Nat.reduceLT,ne_eq,not_true_eq_false,Bool.not_true,reduceCtorEq,ha,Int.toNat_natCast]
   unfold unjR
   cases hp:allN l rs rs.length 0 [] with
   | inr c =>
     have hc:=allN_code hp
     simp only [evz,Nat.reduceLT,apT,hc,enc_EquationsResult,slc_nil,sz_Equation,show oSl 2 (T.sl 2 [])=some [] from rfl]
   | inl ps =>
     have hl:=allN_le (by simp) (by simp) hp
     have hok:=allN_ok ok q2 (by omega) (by simp) hp
     simp only [evz,Nat.reduceLT,apT]
     have:=impl_unj h hs hr (fuel:=k) (by omega) hok hl.1 ps.length 0 300 (cells ps) [] (by omega) (by omega) (by rw [cells_length,sz_Equation]) (fun j _=>rfl) (by simp)
     rw [List.drop_zero] at this
     refine Eq.trans this ?_
     cases unjN l rs k ps [] with
     | inl o=>rfl
     | inr c=>rfl
end Ev.Ty
end
section
namespace Ev.Ty
open Go Ev
open Enc (enc)
open Sm (sm)
set_option linter.unusedSimpArgs false
set_option linter.unusedVariables false
def theoryFault (s:Signature) (t:Theory):Int :=
 if orderFault s t.order≠0 then orderFault s t.order else if eqsFault s.symbols t.equations≠0 then eqsFault s.symbols t.equations
 else if rulesFault0 s.symbols t.rules≠0 then rulesFault0 s.symbols t.rules else if falling s.symbols t.order t.rules=true then 0 else 10
theorem orderFault_ok {l:List Symbol} {o:List Int} (h:orderFault ⟨l⟩ o=0):sigFault ⟨l⟩=0∧orderF l o=0:=by
 unfold orderFault at h
 split at h
 · rename_i h1; exact absurd h h1
 · rename_i h1; exact ⟨by simpa using h1,h⟩
theorem rulesFault0_eqs {l:List Symbol} {rs:List Equation} (h:rulesFault0 l rs=0):eqsFault l rs=0:=by
 unfold rulesFault0 at h
 split at h
 · rename_i h1; exact absurd h h1
 · rename_i h1; simpa using h1
theorem impl_TheoryFault (s:Signature) (t:Theory) (hs:sm 1048576 s) (ht:sm 1048576 t):Call F.impl_TheoryFault [.agg (enc s),.agg (enc t)] (.int .i64 (theoryFault s t)):=by
 obtain ⟨l⟩:=s
 obtain ⟨o,es,rs⟩:=t
 have hsl:l.length≤4294967296:=Nat.le_trans hs.1 (by omega)
 have ho:sm 1048576 o:=ht.1
 have he:sm 1048576 es:=ht.2.1
 have hr:sm 1048576 rs:=ht.2.2
 have hol:o.length≤4294967296:=Nat.le_trans ho.1 (by omega)
 show Call F.impl_TheoryFault [.agg [slc l],.agg [slc o,slc es,slc rs]] _
 refine call_of rfl 0 ((impl_TheoryFault.ev _ _ _ _ _).trans ?_)
 simp only [evz,Nat.reduceLT,(impl_OrderFault l hsl o hol).eq,(impl_EquationsFault l hsl es (sm_mono (by omega) he)).eq,(impl_RulesFault l hsl rs (sm_mono (by omega) hr)).eq,(impl_firstCode3 _ _ _).eq,theoryFault]
 by_cases h1:orderFault ⟨l⟩ o=0
 case neg=>simp only [h1,evz,Nat.reduceLT,ne_eq,not_false_eq_true]
 obtain ⟨h0,hf⟩:=orderFault_ok h1
 have hrf:rulesFault ⟨l⟩ rs=rulesFault0 l rs:=by unfold rulesFault; rw [if_neg (by simpa using h0)]
 simp only [h1,h0,hrf,evz,Nat.reduceLT,ne_eq,not_true_eq_false]
 by_cases h2:eqsFault l es=0
 case neg=>simp only [h2,evz,Nat.reduceLT,not_false_eq_true]
 simp only [h2,evz,Nat.reduceLT,not_true_eq_false]
 by_cases h3:rulesFault0 l rs=0
 case neg=>simp only [h3,evz,Nat.reduceLT,not_false_eq_true]
 have hd:=impl_IsDecreasing ⟨l⟩ o rs hs ho hr
 have hd:Call F.impl_IsDecreasing [.agg [slc l],slc o,slc rs] (.bool (falling l o rs)):=by
  have e:isDecreasingR ⟨l⟩ o rs=falling l o rs:=by
   unfold isDecreasingR
   rw [h1,rulesFault0_eqs h3]
   simp
  rw [e] at hd
  exact hd
 simp only [h3,evz,Nat.reduceLT,not_true_eq_false,hd.eq]
 cases falling l o rs <;> rfl
theorem spec_l13Fault {l:List Symbol} (ok:SigOk ⟨l⟩) (h0:sigFault ⟨l⟩=0) (o:List Int) (es rs:List Equation) (ho:sm 1048576 o) (he:sm 1048576 es) (hr:sm 1048576 rs) :
 Call F.spec_l13Fault [.rref [slc l] 0,.rref [slc o,slc es,slc rs] 0] (.int .i64 (theoryFault ⟨l⟩ ⟨o,es,rs⟩)):=by
 have hsl:l.length≤4294967296:=by have:l.length≤6:=ok.le; omega
 have hol:o.length≤4294967296:=Nat.le_trans ho.1 (by omega)
 have hrl:rs.length≤4294967296:=Nat.le_trans hr.1 (by omega)
 have hof:orderFault ⟨l⟩ o=orderF l o:=by unfold orderFault; rw [if_neg (by simpa using h0)]
 refine call_of rfl 0 ((spec_l13Fault.ev _ _ _ _ _).trans ?_)
 simp only [evz,Nat.reduceLT,(spec_l2Order l hsl o hol).eq,(spec_l5Fault l ok es (sm_mono (by omega) he)).eq,(spec_l8Fault l ok rs (sm_mono (by omega) hr)).eq,theoryFault,hof]
 by_cases h1:orderF l o=0
 case neg=>simp only [h1,evz,Nat.reduceLT,ne_eq,not_false_eq_true]
 simp only [h1,evz,Nat.reduceLT,ne_eq,not_true_eq_false]
 by_cases h2:eqsFault l es=0
 case neg=>simp only [h2,evz,Nat.reduceLT,not_false_eq_true]
 simp only [h2,evz,Nat.reduceLT,not_true_eq_false]
 by_cases h3:rulesFault0 l rs=0
 case neg=>simp only [h3,evz,Nat.reduceLT,not_false_eq_true]
 simp only [h3,evz,Nat.reduceLT,not_true_eq_false,(spec_l7Falls ok h1 (eqsOk_iff.1 (rulesFault0_eqs h3)).2 hrl).eq]
 cases falling l o rs <;> rfl
theorem spec_TheoryFault (s:Signature) (t:Theory) (hs:sm 1048576 s) (ht:sm 1048576 t):Call F.spec_TheoryFault [.agg (enc s),.agg (enc t)] (.int .i64 (theoryFault s t)):=by
 obtain ⟨l⟩:=s
 obtain ⟨o,es,rs⟩:=t
 have hsl:l.length≤4294967296:=Nat.le_trans hs.1 (by omega)
 show Call F.spec_TheoryFault [.agg [slc l],.agg [slc o,slc es,slc rs]] _
 refine call_of rfl 0 ((spec_TheoryFault.ev _ _ _ _ _).trans ?_)
 simp only [evz,Nat.reduceLT,(spec_SignatureFault l hsl).eq]
 by_cases h0:sigFault ⟨l⟩=0
 case neg =>
  have hof:orderFault ⟨l⟩ o=sigFault ⟨l⟩:=by unfold orderFault; rw [if_pos (by simpa using h0)]
  simp only [h0,evz,Nat.reduceLT,theoryFault,hof,ne_eq,not_false_eq_true]
 simp only [h0,evz,Nat.reduceLT,(spec_l13Fault (sigOk_of h0) h0 o es rs ht.1 ht.2.1 ht.2.2).eq]
theorem theoryOk {l:List Symbol} {o:List Int} {es rs:List Equation} (h:theoryFault ⟨l⟩ ⟨o,es,rs⟩=0):SigOk ⟨l⟩∧o.length=l.length∧eqsFault l es=0∧rulesFault0 l rs=0:=by
 unfold theoryFault at h
 split at h
 · rename_i h1; exact absurd h h1
 rename_i h1
 split at h
 · rename_i h2; exact absurd h h2
 rename_i h2
 split at h
 · rename_i h3; exact absurd h h3
 rename_i h3
 obtain ⟨h0,hf⟩:=orderFault_ok (show orderFault ⟨l⟩ o=0 by simpa using h1)
 exact ⟨sigOk_of h0,(orderOk hf).1,by simpa using h2,by simpa using h3⟩
def byteOf (x:Int):UInt8:=UInt8.ofNat (IntKind.wrap .u8 x).toNat
theorem wrap_u8 (x:Int):IntKind.wrap .u8 x=((byteOf x).toNat:Int):=by
 have h:0≤IntKind.wrap .u8 x∧IntKind.wrap .u8 x < 256:=by
  show 0≤x % 256∧x % 256 < 256
  omega
 unfold byteOf
 rw [UInt8.toNat_ofNat']
 omega
def nodeByte (n:Int):UInt8:=if n < 0 then byteOf (IntKind.wrap .i64 (31 - n)) else byteOf (IntKind.wrap .i64 (n+1))
def packT (t:List Int):List UInt8:=t.map nodeByte
theorem impl_packed (t:List Int) (ht:t.length≤4294967296):Call F.impl_packed [slc t] (slc (packT t)):=by
 refine call_of rfl (t.length+1) ((impl_packed.ev _ _).trans ?_)
 simp only [evz,Nat.reduceLT]
 have key:=run_loop (n:=t.length) (f:=t.length+1) (S:=fun m k (o:List UInt8)=>impl_packed.at0 (t.length+1) m (impl_packed.st0 (cells t) t.length (k:Nat) (cells o))) (st:=fun k=>packT (t.take k)) (z:=some (slc (packT t),[]))
  (fun m k h => ?_) (fun m => ?_) (by omega)
 · simpa [packT] using key
 · have hlk:t[k]?=some t[k]:=List.getElem?_eq_getElem h
   have e:packT (t.take (k+1))=packT (t.take k)++[nodeByte t[k]]:=by
    have hk:t.take (k+1)=t.take k++[t[k]]:=(List.take_append_getElem h).symm
    unfold packT
    rw [hk,List.map_append]; rfl
   rw [e]
   have hl:(cells (packT (t.take k))).length+1≤4294967297:=by rw [cells_length]; simp [packT,show Enc.sz UInt8=1 from rfl]; omega
   simp only [impl_packed.next0,impl_packed.round0,evz,Nat.reduceLT,h,hlk,enc_int,nodeByte]
   rw [wrap_succ (by omega),wrap_u8,cells_snoc_u8,wrap_u8,cells_snoc_u8]
   by_cases hn:t[k] < 0
   · rw [if_pos hn,if_pos hn,cond_pos (ble_ok (by omega))]
   · rw [if_neg hn,if_neg hn,cond_pos (ble_ok (by omega))]
 · simp only [impl_packed.next0,impl_packed.round0,evz,Nat.reduceLT,Nat.lt_irrefl,List.take_length]
theorem spec_l5Pack (t:List Int) (ht:t.length≤4294967296):Call F.spec_l5Pack [slc t] (slc (packT t)):=by
 refine call_of rfl (t.length+1) ((spec_l5Pack.ev _ _).trans ?_)
 have key:=run_loop (n:=t.length) (f:=t.length+1) (S:=fun m k (o:List UInt8)=>spec_l5Pack.at0 (t.length+1) m (spec_l5Pack.st0 (cells t) (k:Nat) (cells o))) (st:=fun k=>packT (t.take k)) (z:=some (slc (packT t),[]))
  (fun m k h => ?_) (fun m => ?_) (by omega)
 · simpa [packT] using key
 · have hlk:t[k]?=some t[k]:=List.getElem?_eq_getElem h
   have e:packT (t.take (k+1))=packT (t.take k)++[nodeByte t[k]]:=by
    have hk:t.take (k+1)=t.take k++[t[k]]:=(List.take_append_getElem h).symm
    unfold packT
    rw [hk,List.map_append]; rfl
   rw [e]
   have hl:(cells (packT (t.take k))).length+1≤4294967297:=by rw [cells_length]; simp [packT,show Enc.sz UInt8=1 from rfl]; omega
   simp only [spec_l5Pack.next0,spec_l5Pack.round0,evz,Nat.reduceLT,h,hlk,enc_int,nodeByte]
   rw [wrap_succ (by omega),wrap_u8,cells_snoc_u8,wrap_u8,cells_snoc_u8]
   by_cases hn:t[k] < 0
   · rw [if_pos hn,if_pos hn,cond_pos (ble_ok (by omega))]
   · rw [if_neg hn,if_neg hn,cond_pos (ble_ok (by omega))]
 · simp only [spec_l5Pack.next0,spec_l5Pack.round0,evz,Nat.reduceLT,Nat.lt_irrefl,List.take_length]
end Ev.Ty
end
section
namespace Ev.Ty
open Go Ev
open Enc (enc)
open Sm (sm)
set_option linter.unusedSimpArgs false
set_option linter.unusedVariables false
section
variable {l:List Symbol} {z:Nat} {tb:List (List Int)} (al:AlgOk l z tb)
include al
end
end Ev.Ty
end
section
namespace Ev.Ty
open Go Ev
open Enc (enc)
open Sm (sm)
set_option linter.unusedSimpArgs false
set_option linter.unusedVariables false
section
variable (l:List Symbol) (z:Int) (tb:List (List Int)) (hs:l.length≤4294967296) (ht:sm 4294967296 tb)
include hs ht
end
end Ev.Ty
end
section
namespace Ev.Ty
open Go Ev
open Enc (enc)
open Sm (sm)
set_option linter.unusedSimpArgs false
set_option linter.unusedVariables false
theorem cells_int_scalar (l:List Int):(cells l).all T.scalar=true:=by
 rw [← intsT_cells,List.all_eq_true]
 intro x hx
 obtain ⟨n,_,rfl⟩:=List.mem_map.1 hx
 rfl
theorem spec_l1Ints (l:List Int) (h:l.length≤4294967296):Call F.spec_l1Ints [slc l] (slc l):=by
 refine call_of rfl 0 ((spec_l1Ints.ev _ _).trans ?_)
 have hb:Nat.ble ((0+(cells l).length)*8) (140737488355328*1)=true:=by
  rw [Nat.ble_eq,cells_length,sz_int]; omega
 rw [cells_int_scalar,hb]
 rfl
def eqOf (e:Entry):Equation:=⟨e.left,e.right⟩
section
variable (l:List Symbol) (z:Int) (tb:List (List Int)) (hs:l.length≤4294967296) (ht:sm 4294967296 tb)
include hs ht
end
end Ev.Ty
end
section
namespace Ev.Ty
open Go Ev
open Enc (enc)
open Sm (sm)
set_option linter.unusedSimpArgs false
set_option linter.unusedVariables false
def two (e:Entry):Bool:=decide (e.kind=4)||decide (e.kind=5)
structure NumsOk (eqn enn:Nat) (e:Entry):Prop where
 kind:e.kind=1∨e.kind=2∨e.kind=3∨e.kind=4∨e.kind=5
 a0:0≤e.a
 given:e.kind=1→e.a.toNat < eqn
 other:e.kind≠1→e.a.toNat < enn
 b:e.kind=4∨e.kind=5→0≤e.b∧e.b.toNat < enn
 side:e.side=0∨(e.kind=4∧e.side=1)
 zero:e.kind≠4→e.kind≠5→e.b=0∧e.place=0
theorem nodup_sub:∀ {s t:List Int},s.Nodup→s ⊆ t→s.length≤t.length
 | [],t,_,_=>Nat.zero_le _
 | x::s,t,h,hs=>by
   have hx:x∈t:=hs (by simp)
   rw [List.nodup_cons] at h
   have h1:s ⊆ t.erase x:=fun y hy=>by
    refine (List.mem_erase_of_ne (fun (e:y=x)=>h.1 (by rw [← e]; exact hy))).2 (hs (List.mem_cons_of_mem _ hy))
   have h2:=nodup_sub h.2 h1
   rw [List.length_erase_of_mem hx] at h2
   have:=List.length_pos_of_mem hx
   rw [List.length_cons]
   omega
theorem six {s:List Int} (h1:s.Nodup) (h2:∀ m∈s,-6≤m∧m < 0):s.length≤6:=by
 have:s ⊆ [-6,-5,-4,-3,-2,-1]:=fun m hm=>by
  have:=h2 m hm
  simp only [List.mem_cons,List.not_mem_nil,or_false]
  omega
 exact nodup_sub h1 this
end Ev.Ty
end
section
namespace Ev.Ty
open Go Ev
open Enc (enc)
open Sm (sm)
set_option linter.unusedSimpArgs false
set_option linter.unusedVariables false
theorem EqOk.small {l:List Symbol} {e:Equation} (h:EqOk l e):sm 1048576 e:=⟨⟨by have:=h.left.le; omega,fun _ _=>trivial⟩,⟨by have:=h.right.le; omega,fun _ _=>trivial⟩⟩
section
variable {l:List Symbol} (ok:SigOk ⟨l⟩) (hs:sm 1048576 (Signature.mk l)) {eqs:List Equation} {ents:List Entry} (hq:∀ x∈eqs,EqOk l x) (he:∀ x∈ents,EqOk l (eqOf x)) (hql:eqs.length≤12) (hel:ents.length≤500)
include ok hs hq he hql hel
end
theorem win_guard {k n:Nat} (h:k≤n):(decide (0≤(0:Int))&&decide ((0:Int)≤(k:Nat))&&decide ((k:Int)≤(n:Nat)))=true:=by
 simp; omega
section
variable {l:List Symbol} (ok:SigOk ⟨l⟩) (hs:sm 1048576 (Signature.mk l)) {eqs:List Equation} (hq:∀ x∈eqs,EqOk l x) (hql:eqs.length≤12) {ents:List Entry} (hel:ents.length≤500)
include ok hs hq hql hel
end
end Ev.Ty
end
section
namespace Ev.Ty
open Go Ev
open Enc (enc)
open Sm (sm)
set_option linter.unusedSimpArgs false
set_option linter.unusedVariables false
theorem oU8s_cells:∀ a:List UInt8,oU8s (cells a)=some (a.map fun b=>(b.toNat:Int))
 | []=>rfl
 | x::a=>by
   rw [cells_cons]
   show oU8s (.int .u8 x.toNat::cells a)=_
   rw [oU8s,oU8s_cells a]
   rfl
theorem bytesOf_nat (a:List UInt8):Lib.bytesOf (a.map fun b=>(b.toNat:Int))=a:=by
 unfold Lib.bytesOf
 rw [List.map_map]
 conv=>rhs; rw [← List.map_id a]
 exact List.map_congr_left fun b _=>by simp
theorem bytes_Compare (a b:List UInt8):Call F.bytes_Compare [slc a,slc b] (.int .i64 (Lib.compareBytes a b)):=by
 refine lim_ext (e:=compareE) rfl (Ev.of fun m => ?_)
 show ((oU8s (cells a)).bind fun x=>(oU8s (cells b)).bind fun y=>some (T.int .i64 (Lib.compareBytes (Lib.bytesOf x) (Lib.bytesOf y)),([]:List T)))=_
 rw [oU8s_cells,oU8s_cells]
 simp only [Option.bind_some,bytesOf_nat]
theorem order_loop (a b:List UInt8) (ha:a.length≤4294967296) {N:Nat}:∀ n k f,k+n=a.length→n < f→k≤b.length →
 spec_l1Order.at0 N f (spec_l1Order.st0 (cells a) (cells b) (k:Nat))=some (.int .i64 (Lib.compareBytes (a.drop k) (b.drop k)),[])
 | n,k,0,hk,hf,hb=>by omega
 | 0,k,f+1,hk,hf,hb=>by
   have h1:a.drop k=[]:=List.drop_eq_nil_of_le (by omega)
   simp only [spec_l1Order.next0,spec_l1Order.round0,evz,Nat.reduceLT,show ¬ k < a.length by omega,h1]
   by_cases h2:k < b.length
   · rw [List.drop_eq_getElem_cons h2]
     have h3:(a.length:Int) < b.length:=by omega
     simp only [evz,Nat.reduceLT,h3,Lib.compareBytes,show a.length < b.length by omega]
   · have h3:b.drop k=[]:=List.drop_eq_nil_of_le (by omega)
     have h4:¬ (a.length:Int) < b.length:=by omega
     have h5:¬ (a.length:Int) > b.length:=by omega
     rw [h3]
     simp only [evz,Nat.reduceLT,h4,h5,Lib.compareBytes,show ¬ a.length < b.length by omega,gt_iff_lt,show ¬ b.length < a.length by omega]
 | n+1,k,f+1,hk,hf,hb=>by
   have h:k < a.length:=by omega
   have hlk:a[k]?=some a[k]:=List.getElem?_eq_getElem h
   simp only [spec_l1Order.next0,spec_l1Order.round0,evz,Nat.reduceLT,h]
   rw [List.drop_eq_getElem_cons h]
   by_cases h2:k < b.length
   · have hbk:b[k]?=some b[k]:=List.getElem?_eq_getElem h2
     rw [List.drop_eq_getElem_cons h2]
     simp only [evz,Nat.reduceLT,h2,hlk,hbk,enc_u8,gt_iff_lt]
     rw [wrap_succ (by omega)]
     by_cases c1:a[k] < b[k]
     · have c1':=UInt8.lt_iff_toNat_lt.1 c1
       simp only [c1,c1',evz,Nat.reduceLT,Lib.compareBytes]
     · have c1':¬ a[k].toNat < b[k].toNat:=fun q=>c1 (UInt8.lt_iff_toNat_lt.2 q)
       by_cases c2:b[k] < a[k]
       · have c2':=UInt8.lt_iff_toNat_lt.1 c2
         simp only [c1,c2,c1',c2',evz,Nat.reduceLT,Lib.compareBytes]
       · have c2':¬ b[k].toNat < a[k].toNat:=fun q=>c2 (UInt8.lt_iff_toNat_lt.2 q)
         simp only [c1,c2,c1',c2',evz,Nat.reduceLT,Lib.compareBytes]
         exact order_loop a b ha n (k+1) f (by omega) (by omega) (by omega)
   · have h3:b.drop k=[]:=List.drop_eq_nil_of_le (by omega)
     have h4:¬ (a.length:Int) < b.length:=by omega
     have h5:(b.length:Int) < a.length:=by omega
     rw [h3]
     simp only [evz,Nat.reduceLT,h2,h4,h5,gt_iff_lt,Lib.compareBytes,show ¬ a.length < b.length by omega,show b.length < a.length by omega]
theorem spec_l1Order (a b:List UInt8) (ha:a.length≤4294967296):Call F.spec_l1Order [slc a,slc b] (.int .i64 (Lib.compareBytes a b)):=by
 refine call_of rfl (a.length+1) ((spec_l1Order.ev _ _ _).trans ?_)
 exact order_loop a b ha a.length 0 _ (by omega) (by omega) (by omega)
theorem cmp_Or_int (l:List Int) (hl:l.length≤4294967296):Call F.cmp_Or_int [slc l] (.int .i64 ((l.findSome? fun n=>if n≠0 then some n else none).getD 0)):=by
 refine call_of rfl (l.length+1) ((cmp_Or_int.ev _ _).trans ?_)
 have:=scan_loop (l:=l) (g:=fun n=>if n≠0 then some (some (.int .i64 n,[])) else none) (z:=some (.int .i64 0,[])) (S:=fun m k=>cmp_Or_int.at0 (l.length+1) m (cmp_Or_int.st0 0 (cells l) l.length (k:Nat)))
  (fun m k h=>by
   have hlk:l[k]?=some l[k]:=List.getElem?_eq_getElem h
   simp only [cmp_Or_int.next0,cmp_Or_int.round0,evz,Nat.reduceLT,h,hlk,enc_int]
   rw [wrap_succ (by omega)]
   by_cases e:l[k]=0 <;> simp [e])
  (fun m=>by simp only [cmp_Or_int.next0,cmp_Or_int.round0,evz,Nat.reduceLT,Nat.lt_irrefl]) (Nat.lt_succ_self _)
 simp only [cells_div,sz_int]
 refine this.trans ?_
 have h2:=findSome_map (fun n:Int=>if n≠0 then some n else none) (fun n=>(some (T.int .i64 n,[]):R)) l
 rw [show (fun n:Int=>(if n≠0 then some n else none).map fun n=>(some (T.int .i64 n,[]):R))=fun n=>if n≠0 then some (some (T.int .i64 n,[])) else none from funext fun n=>by by_cases h:n=0 <;> simp [h]] at h2
 rw [h2]
 cases l.findSome? fun n=>if n≠0 then some n else none <;> rfl
theorem cmp_Or2 (x y:Int):Call F.cmp_Or_int [.sl 1 [.int .i64 x,.int .i64 y]] (.int .i64 (if x=0 then y else x)):=by
 have:=cmp_Or_int [x,y] (by simp)
 have e:([x,y].findSome? fun n:Int=>if n≠0 then some n else none).getD 0=if x=0 then y else x:=by
  by_cases h:x=0
  · by_cases h':y=0 <;> simp [h,h']
  · simp [h]
 rw [e] at this
 exact this
def cmpRules (a b:Equation):Int:=if Lib.compareBytes (packT a.left) (packT b.left)=0 then Lib.compareBytes (packT a.right) (packT b.right) else Lib.compareBytes (packT a.left) (packT b.left)
theorem packT_length (t:List Int):(packT t).length=t.length:=by unfold packT; rw [List.length_map]
theorem impl_compareRules {l:List Symbol} {a b:Equation} (ha:EqOk l a) (hb:EqOk l b):Call F.impl_compareRules [.agg [slc a.left,slc a.right],.agg [slc b.left,slc b.right]] (.int .i64 (cmpRules a b)):=by
 have h1:=ha.left.le
 have h2:=ha.right.le
 have h3:=hb.left.le
 have h4:=hb.right.le
 refine call_of rfl 0 ((impl_compareRules.ev _ _ _ _ _).trans ?_)
 simp only [evz,Nat.reduceLT,(impl_packed a.left (by omega)).eq,(impl_packed a.right (by omega)).eq,(impl_packed b.left (by omega)).eq,(impl_packed b.right (by omega)).eq,(bytes_Compare _ _).eq,(cmp_Or2 _ _).eq]
 rfl
theorem spec_l12Ahead {l:List Symbol} {a b:Equation} (ha:EqOk l a) (hb:EqOk l b):Call F.spec_l12Ahead [.rref [slc a.left,slc a.right] 0,.rref [slc b.left,slc b.right] 0] (.bool (decide (cmpRules a b < 0))):=by
 have h1:=ha.left.le
 have h2:=ha.right.le
 have h3:=hb.left.le
 have h4:=hb.right.le
 refine call_of rfl 0 ((spec_l12Ahead.ev _ _ _ _ _).trans ?_)
 simp only [evz,Nat.reduceLT,(spec_l5Pack a.left (by omega)).eq,(spec_l5Pack a.right (by omega)).eq,(spec_l5Pack b.left (by omega)).eq,(spec_l5Pack b.right (by omega)).eq,
  (spec_l1Order (packT a.left) (packT b.left) (by rw [packT_length]; omega)).eq,(spec_l1Order (packT a.right) (packT b.right) (by rw [packT_length]; omega)).eq,cmpRules]
 by_cases h:Lib.compareBytes (packT a.left) (packT b.left)=0 <;> simp only [h,evz,Nat.reduceLT]
theorem redex_none {l:List Symbol} {rs:List Equation} {t:List Int}:(redex l rs t).1 < 0↔∀ e∈rs,∀ a,a < t.length→(matchAt l e.left t a).isSome=false:=by
 rcases down_best (endAt l t) (fits l rs t) t.length t.length (-1,-1) (Nat.le_refl _) (.inl ⟨rfl,fun a _ h=>by omega⟩) with ⟨h,h2⟩ | ⟨a,_,h2,h3,h4,_⟩
 · have h:redex l rs t=(-1,-1):=h
   rw [h]
   refine ⟨fun _ e he a ha => ?_,fun _=>by decide⟩
   have h5:=h2 a (Nat.zero_le _) ha
   rcases idx_spec (fun e:Equation=>(matchAt l e.left t a).isSome) rs with ⟨_,h6⟩ | ⟨k,hk,h6,_⟩
   · exact h6 e he
   · have:fits l rs t a=(k:Nat):=h6
     omega
 · have h3:redex l rs t=((a:Int),fits l rs t a):=h3
   rw [h3]
   refine ⟨fun h=>by simp at h; omega,fun h => ?_⟩
   rcases idx_spec (fun e:Equation=>(matchAt l e.left t a).isSome) rs with ⟨h6,_⟩ | ⟨k,hk,h6,h7,_⟩
   · have:fits l rs t a = -1:=h6
     omega
   · have:=h rs[k] (List.getElem_mem hk) a h2
     simp only [this] at h7
     cases h7
theorem redex_others {l:List Symbol} {rs:List Equation} {t:List Int} {i:Nat}:(redex l (rs.take i++rs.drop (i+1)) t).1 < 0↔∀ k (h:k < rs.length),k≠i→(redex l [rs[k]] t).1 < 0:=by
 rw [redex_none]
 constructor
 · intro h k hk hki
   rw [redex_none]
   intro e he
   rw [List.mem_singleton.1 he]
   refine h _ (List.mem_append.2 ?_)
   rcases Nat.lt_or_ge k i with q | q
   · left
     rw [List.mem_take_iff_getElem]
     exact ⟨k,by omega,rfl⟩
   · right
     rw [List.mem_drop_iff_getElem]
     exact ⟨k - (i+1),by omega,by congr 1; omega⟩
 · intro h e he
   rcases List.mem_append.1 he with he | he
   · rw [List.mem_take_iff_getElem] at he
     obtain ⟨k,hk,rfl⟩:=he
     exact redex_none.1 (h k (by omega) (by omega)) _ (by simp)
   · rw [List.mem_drop_iff_getElem] at he
     obtain ⟨k,hk,rfl⟩:=he
     exact redex_none.1 (h (i+1+k) (by omega) (by omega)) _ (by simp)
def others (l:List Symbol) (rs:List Equation) (i:Nat):Bool:=(List.range rs.length).any fun k=>decide (k≠i)&&decide ((redex l [rs.getD k ⟨[],[]⟩] (rs.getD i ⟨[],[]⟩).left).1 ≥ 0)
def reducedAt (l:List Symbol) (rs:List Equation) (i:Nat):Bool :=
 (decide (i=0)||decide (cmpRules (rs.getD (i - 1) ⟨[],[]⟩) (rs.getD i ⟨[],[]⟩) < 0))&&decide ((redex l rs (rs.getD i ⟨[],[]⟩).right).1 < 0) && !others l rs i
def reducedB (l:List Symbol) (rs:List Equation):Bool := !(List.range rs.length).any fun i => !reducedAt l rs i
theorem others_eq {l:List Symbol} {rs:List Equation} {i:Nat}:(redex l (rs.take i++rs.drop (i+1)) (rs.getD i ⟨[],[]⟩).left).1 ≥ 0↔others l rs i=true:=by
 unfold others
 rw [List.any_eq_true]
 constructor
 · intro h
   have h1:¬ (redex l (rs.take i++rs.drop (i+1)) (rs.getD i ⟨[],[]⟩).left).1 < 0:=by omega
   rw [redex_others] at h1
   refine Classical.byContradiction fun hc=>h1 fun k hk hki => ?_
   refine Classical.byContradiction fun h2=>hc ⟨k,List.mem_range.2 hk,?_⟩
   rw [getE hk]
   simp only [Bool.and_eq_true,decide_eq_true_eq]
   exact ⟨hki,by omega⟩
 · rintro ⟨k,hk,h2⟩
   rw [List.mem_range] at hk
   rw [getE hk] at h2
   simp only [Bool.and_eq_true,decide_eq_true_eq] at h2
   refine Classical.byContradiction fun h => ?_
   have:=redex_others.1 (Int.not_le.1 h:(redex l (rs.take i++rs.drop (i+1)) (rs.getD i ⟨[],[]⟩).left).1 < 0) k hk h2.1
   omega
theorem cells_append_slc (a b:List Equation):slc (a++b) = .sl 2 (cells a++cells b):=by rw [← cells_append]; rfl
section
variable {l:List Symbol} (ok:SigOk ⟨l⟩) (hs:sm 1048576 (Signature.mk l)) {rs:List Equation} (hr:∀ e∈rs,EqOk l e) (hn:rs.length≤12) (hrs:sm 1048576 rs) (hf:rulesFault ⟨l⟩ rs=0)
include ok hs hr hn hrs hf
theorem isNormal_eq {t:List Int} (ht:TermOk l t):isNormalR ⟨l⟩ rs t=decide ((redex l rs t).1 < 0):=by
 have h0:rewriteFault ⟨l⟩ rs t=0:=by
  unfold rewriteFault
  rw [if_neg (by simpa using hf)]
  exact (termOk_iff _ _).2 ht
 unfold isNormalR findRedexR
 rw [if_neg (by simpa using h0)]
 by_cases h:(redex l rs t).1 < 0 <;> simp [h]
theorem impl_matchesIn {e:Equation} (he:EqOk l e) {t:List Int} (ht:TermOk l t):Call F.impl_matchesIn [.agg [slc l],.agg [slc e.left,slc e.right],slc t] (.bool (decide ((redex l [e] t).1 ≥ 0))):=by
 have h:=(impl_findRedex ok (rs:=[e]) (fun x hx=>by rw [List.mem_singleton.1 hx]; exact he) (by simp) ht).eq
 have h:LIM F.impl_findRedex [.agg [slc l],.sl 2 [slc e.left,slc e.right],slc t]=some (.tup [.int .i64 (redex l [e] t).1,.int .i64 (redex l [e] t).2,.bool (decide ((redex l [e] t).1 ≥ 0))],[]):=h
 refine call_of rfl 0 ((impl_matchesIn.ev _ _ _ _ _).trans ?_)
 simp only [evz,Nat.reduceLT,h]
theorem impl_areReduced:Call F.impl_areReduced [.agg [slc l],slc rs] (.bool (reducedB l rs)):=by
 refine call_of rfl 20 ((impl_areReduced.ev _ _ _).trans ?_)
 simp only [evz,Nat.reduceLT]
 have inner:∀ (k m:Nat) (h:k < rs.length),impl_areReduced.at2 20 (impl_areReduced.at0 20 m) 20 (impl_areReduced.st2 (cells rs) (cells rs) rs.length (k:Nat) (k:Nat) (cells rs) rs.length ((0:Nat):Int) (cells l) (cells rs[k].left) (cells rs[k].right))
  = if others l rs k=true then some (.bool false,[]) else impl_areReduced.at0 20 m (impl_areReduced.st0 (cells rs) (cells rs) rs.length ((k+1:Nat):Int) (cells l)):=fun k m h=>by
  have hek:=hr _ (List.getElem_mem h)
  refine any_loop (n:=rs.length) (bad:=fun j=>decide (j≠k)&&decide ((redex l [rs.getD j ⟨[],[]⟩] (rs.getD k ⟨[],[]⟩).left).1 ≥ 0)) (r:=some (.bool false,[])) (z:=impl_areReduced.at0 20 m (impl_areReduced.st0 (cells rs) (cells rs) rs.length ((k+1:Nat):Int) (cells l)))
   (S:=fun f j=>impl_areReduced.at2 20 (impl_areReduced.at0 20 m) f (impl_areReduced.st2 (cells rs) (cells rs) rs.length (k:Nat) (k:Nat) (cells rs) rs.length (j:Nat) (cells l) (cells rs[k].left) (cells rs[k].right))) (fun f j hj => ?_) (fun f => ?_) (by omega)
  · have hlj:rs[j]?=some rs[j]:=List.getElem?_eq_getElem hj
    have hej:=hr _ (List.getElem_mem hj)
    simp only [impl_areReduced.next2,impl_areReduced.round2,evz,Nat.reduceLT,hj,hlj,enc_Equation,(impl_matchesIn ok hs hr hn hrs hf hej hek.left).eq,getE hj,getE h]
    rw [wrap_succ (by omega)]
    by_cases c:j=k
    · simp only [c,evz,Nat.reduceLT]
      simp
    · have c':¬ (j:Int)=k:=by omega
      by_cases d:(redex l [rs[j]] rs[k].left).1 ≥ 0 <;> simp [c,c',d]
  · simp only [impl_areReduced.next2,impl_areReduced.round2,evz,Nat.reduceLT,Nat.lt_irrefl]
    rw [wrap_succ (by omega)]
 refine (any_loop (n:=rs.length) (bad:=fun k => !reducedAt l rs k) (r:=some (.bool false,[])) (z:=some (.bool true,[]))
  (S:=fun m k=>impl_areReduced.at0 20 m (impl_areReduced.st0 (cells rs) (cells rs) rs.length (k:Nat) (cells l))) (fun m k h => ?_) (fun m => ?_) (by omega)).trans ?_
 · have hlk:rs[k]?=some rs[k]:=List.getElem?_eq_getElem h
   have hek:=hr _ (List.getElem_mem h)
   have hnorm:LIM F.impl_IsNormal [.agg [slc l],slc rs,slc rs[k].right]=some (.bool (decide ((redex l rs rs[k].right).1 < 0)),[]):=by
    have:=(impl_IsNormal ⟨l⟩ rs rs[k].right hs hrs hek.small.2).eq
    rw [isNormal_eq ok hs hr hn hrs hf hek.right] at this
    exact this
   have hin:=inner k m h
   rw [show ((0:Nat):Int)=0 from rfl] at hin
   by_cases k0:k=0
   · have e2:¬ (k:Int) > 0:=by omega
     have d0:decide (k=0)=true:=by simp [k0]
     simp only [impl_areReduced.next0,impl_areReduced.round0,evz,Nat.reduceLT,h,hlk,enc_Equation,hnorm,reducedAt,getE h,e2,d0,Bool.true_or,Bool.true_and]
     by_cases c:(redex l rs rs[k].right).1 < 0
     · simp only [c,evz,Nat.reduceLT,decide_true,Bool.not_true,Bool.true_and,Bool.not_not]
       exact hin
     · simp only [c,evz,Nat.reduceLT,decide_false,Bool.not_false,Bool.false_and]
   · have hp:k - 1 < rs.length:=by omega
     have hlp:rs[k - 1]?=some rs[k - 1]:=List.getElem?_eq_getElem hp
     have hep:=hr _ (List.getElem_mem hp)
     have e1:IntKind.wrap .i64 ((k:Int) - 1)=((k - 1:Nat):Int):=by rw [wrap64 (by omega)]; omega
     have e2:(k:Int) > 0:=by omega
     simp only [impl_areReduced.next0,impl_areReduced.round0,evz,Nat.reduceLT,h,hlk,enc_Equation,hnorm,reducedAt,getE h,getE hp,e1,e2,hp,hlp,(impl_compareRules hep hek).eq,k0,decide_false,Bool.false_or]
     by_cases c0:cmpRules rs[k - 1] rs[k] < 0
     case neg =>
      have c0':cmpRules rs[k - 1] rs[k] ≥ 0:=by omega
      simp only [c0,c0',evz,Nat.reduceLT,decide_false,Bool.false_and,Bool.not_false]
     have c0':¬ cmpRules rs[k - 1] rs[k] ≥ 0:=by omega
     by_cases c:(redex l rs rs[k].right).1 < 0
     · simp only [c,c0,c0',evz,Nat.reduceLT,decide_true,Bool.not_true,Bool.true_and,Bool.not_not]
       exact hin
     · simp only [c,c0,c0',evz,Nat.reduceLT,decide_false,decide_true,Bool.not_false,Bool.false_and,Bool.and_false]
 · simp only [impl_areReduced.next0,impl_areReduced.round0,evz,Nat.reduceLT,Nat.lt_irrefl]
 · unfold reducedB
   cases (List.range rs.length).any fun i => !reducedAt l rs i <;> rfl
theorem spec_l13Reduced:Call F.spec_l13Reduced [.rref [slc l] 0,slc rs] (.bool (reducedB l rs)):=by
 refine call_of rfl 20 ((spec_l13Reduced.ev _ _ _).trans ?_)
 refine (any_loop (n:=rs.length) (bad:=fun k => !reducedAt l rs k) (r:=some (.bool false,[])) (z:=some (.bool true,[]))
  (S:=fun m k=>spec_l13Reduced.at0 20 m (spec_l13Reduced.st0 (cells l) (cells rs) (k:Nat))) (fun m k h => ?_) (fun m => ?_) (by omega)).trans ?_
 · have hlk:rs[k]?=some rs[k]:=List.getElem?_eq_getElem h
   have hek:=hr _ (List.getElem_mem h)
   have w1:((cells rs).take (k*2)).drop (0*2)=cells (rs.take k):=by rw [Nat.zero_mul,List.drop_zero,cells_take rs 2 k rfl]
   have w2:((cells rs).take (rs.length*2)).drop ((k+1)*2)=cells (rs.drop (k+1)):=by rw [List.take_of_length_le (by rw [cells_length,sz_Equation]; omega),cells_drop rs 2 (k+1) rfl]
   have hf1:=(spec_l8Find ok hr hn hek.right).eq
   have hoth:∀ e∈rs.take k++rs.drop (k+1),EqOk l e:=fun e he=>by
    rcases List.mem_append.1 he with he | he
    · exact hr _ (List.mem_of_mem_take he)
    · exact hr _ (List.mem_of_mem_drop he)
   have hol:(rs.take k++rs.drop (k+1)).length≤12:=by rw [List.length_append,List.length_take,List.length_drop]; omega
   have hf2:=(spec_l8Find ok hoth hol hek.left).eq
   have oeq:=others_eq (l:=l) (rs:=rs) (i:=k)
   rw [getE h] at oeq
   have g1:(decide (0≤(0:Int))&&decide ((0:Int)≤(k:Nat))&&decide ((k:Int)≤(rs.length:Nat)))=true:=win_guard (Nat.le_of_lt h)
   have g2:(decide ((0:Int)≤((k+1:Nat):Int))&&decide (((k+1:Nat):Int)≤(rs.length:Nat))&&decide ((rs.length:Int)≤rs.length))=true:=by simp; omega
   have b1:Nat.ble ((0+(cells (rs.take k)).length)*48) (140737488355328*2)=true:=ble_ok (by rw [cells_length,sz_Equation,List.length_take]; omega)
   have b2:Nat.ble (((cells (rs.take k)).length+(cells (rs.drop (k+1))).length)*48) (140737488355328*2)=true:=ble_ok (by rw [cells_length,cells_length,sz_Equation,List.length_take,List.length_drop]; omega)
   rw [cells_append_slc] at hf2
   simp only [spec_l13Reduced.next0,spec_l13Reduced.round0,evz,Nat.reduceLT,h]
   rw [wrap_succ (by omega)]
   by_cases k0:k=0
   · have e2:¬ (k:Int) > 0:=by omega
     have d0:decide (k=0)=true:=by simp [k0]
     simp only [evz,Nat.reduceLT,h,hlk,enc_Equation,hf1,reducedAt,getE h,e2,d0,Bool.true_or,Bool.true_and,w1,w2,g1,g2,b1,b2,hf2]
     by_cases c:(redex l rs rs[k].right).1 < 0
     · have c':¬ (redex l rs rs[k].right).1 ≥ 0:=by omega
       cases ho:others l rs k with
       | true =>
         have:=oeq.2 ho
         simp only [c,c',this,evz,Nat.reduceLT,decide_true,Bool.not_true,Bool.and_false,Bool.not_false]
       | false =>
         have:¬ (redex l (rs.take k++rs.drop (k+1)) rs[k].left).1 ≥ 0:=fun h=>by rw [oeq.1 h] at ho; cases ho
         simp only [c,c',this,evz,Nat.reduceLT,decide_true,Bool.not_false,Bool.and_true,Bool.not_true,reduceCtorEq]
     · have c':(redex l rs rs[k].right).1 ≥ 0:=by omega
       simp only [c,c',evz,Nat.reduceLT,decide_false,Bool.false_and,Bool.and_false,Bool.not_false]
   · have hp:k - 1 < rs.length:=by omega
     have hlp:rs[k - 1]?=some rs[k - 1]:=List.getElem?_eq_getElem hp
     have hep:=hr _ (List.getElem_mem hp)
     have e1:IntKind.wrap .i64 ((k:Int) - 1)=((k - 1:Nat):Int):=by rw [wrap64 (by omega)]; omega
     have e2:(k:Int) > 0:=by omega
     have wa:=cells_window (l:=rs) (k:=2) (i:=k - 1) rfl hlp
     have wb:=cells_window (l:=rs) (k:=2) (i:=k) rfl hlk
     have d0:decide (k=0)=false:=by simp [k0]
     rw [enc_Equation] at wa wb
     simp only [evz,Nat.reduceLT,h,hlk,enc_Equation,hf1,reducedAt,getE h,getE hp,hp,e1,e2,d0,Bool.false_or,wa,wb,(spec_l12Ahead hep hek).eq,w1,w2,g1,g2,b1,b2,hf2]
     by_cases c0:cmpRules rs[k - 1] rs[k] < 0
     case neg=>simp only [c0,evz,Nat.reduceLT,decide_false,Bool.false_and,Bool.not_false]
     simp only [c0,evz,Nat.reduceLT,decide_true,Bool.true_and,Bool.not_true,reduceCtorEq]
     by_cases c:(redex l rs rs[k].right).1 < 0
     · have c':¬ (redex l rs rs[k].right).1 ≥ 0:=by omega
       cases ho:others l rs k with
       | true =>
         have:=oeq.2 ho
         simp only [c,c',this,evz,Nat.reduceLT,decide_true,Bool.not_true,Bool.and_false,Bool.not_false]
       | false =>
         have:¬ (redex l (rs.take k++rs.drop (k+1)) rs[k].left).1 ≥ 0:=fun h=>by rw [oeq.1 h] at ho; cases ho
         simp only [c,c',this,evz,Nat.reduceLT,decide_true,Bool.not_false,Bool.and_true,Bool.not_true,reduceCtorEq]
     · have c':(redex l rs rs[k].right).1 ≥ 0:=by omega
       simp only [c,c',evz,Nat.reduceLT,decide_false,Bool.false_and,Bool.and_false,Bool.not_false]
 · simp only [spec_l13Reduced.next0,spec_l13Reduced.round0,evz,Nat.reduceLT,Nat.lt_irrefl]
 · unfold reducedB
   cases (List.range rs.length).any fun i => !reducedAt l rs i <;> rfl
end
def joinedB (l:List Symbol) (rs:List Equation) (e:Equation):Bool:=decide ((joinR l rs 200 e).code=0)&&decide ((joinR l rs 200 e).value=1)
noncomputable def certR (s:Signature) (t:Theory):Int :=
 if theoryFault s t≠0 then theoryFault s t else if reducedB s.symbols t.rules=false then 1
 else match unjR s.symbols t.rules 200 with
  | .inr _=>8
  | .inl ps=>if 0 < ps.length then 8 else if (t.equations.any fun e => !joinedB s.symbols t.rules e)=true then 4 else 0
theorem theory_rules {l:List Symbol} {o:List Int} {es rs:List Equation} (h:theoryFault ⟨l⟩ ⟨o,es,rs⟩=0):rulesFault ⟨l⟩ rs=0:=by
 obtain ⟨ok,_,_,h3⟩:=theoryOk h
 unfold rulesFault
 rw [if_neg (by simpa using (sigOk_iff _).2 ok)]
 exact h3
theorem spec_CertifyTheory (s:Signature) (t:Theory) (hs:sm 1048576 s) (ht:sm 1048576 t):Call F.spec_CertifyTheory [.agg (enc s),.agg (enc t)] (.int .i64 (certR s t)):=by
 have hth:=(spec_TheoryFault s t hs ht).eq
 obtain ⟨l⟩:=s
 obtain ⟨o,es,rs⟩:=t
 obtain ⟨ho,hes,hrs⟩:=ht
 have hel:es.length≤1048576:=hes.1
 have hth:LIM F.spec_TheoryFault [.agg [slc l],.agg [slc o,slc es,slc rs]]=some (.int .i64 (theoryFault ⟨l⟩ ⟨o,es,rs⟩),[]):=hth
 show Call F.spec_CertifyTheory [.agg [slc l],.agg [slc o,slc es,slc rs]] _
 refine call_of rfl (es.length+1) ((spec_CertifyTheory.ev _ _ _ _ _).trans ?_)
 simp only [evz,Nat.reduceLT,hth,certR]
 by_cases h1:theoryFault ⟨l⟩ ⟨o,es,rs⟩=0
 case neg=>simp only [h1,evz,Nat.reduceLT,ne_eq,not_false_eq_true]
 have hrf:=theory_rules h1
 obtain ⟨_,ok,q1,q2⟩:=rulesFault_ok hrf
 have he:=(eqsOk_iff.1 (theoryOk h1).2.2.1).2
 have hun:=spec_l9Unjoined hrf hs hrs (fuel:=200) (by omega)
 have hun:LIM F.spec_l9Unjoined [.rref [slc l] 0,slc rs,.int .i64 200]=apT (unjR l rs 200):=hun
 simp only [h1,evz,Nat.reduceLT,ne_eq,not_true_eq_false,(spec_l13Reduced ok hs q2 q1 hrs hrf).eq]
 cases hrd:reducedB l rs with
 | false=>simp only [evz,Nat.reduceLT,Bool.not_false]
 | true =>
   simp only [evz,Nat.reduceLT,Bool.not_true,hun,reduceCtorEq]
   cases hu:unjR l rs 200 with
   | inr c =>
     have hc:=unjR_code hu
     simp only [apT,evz,Nat.reduceLT,hc,ne_eq,not_false_eq_true,show oSl 2 (T.sl 2 [])=some [] from rfl]
   | inl ps =>
     simp only [apT,evz,Nat.reduceLT,ne_eq,not_true_eq_false,gt_iff_lt]
     by_cases hp:0 < ps.length
     · have hp':(0:Int) < ps.length:=by omega
       simp only [hp,hp',evz,Nat.reduceLT]
     · have hp':¬ (0:Int) < ps.length:=by omega
       simp only [hp,hp',evz,Nat.reduceLT]
       refine (any_loopL (l:=es) (p:=fun e => !joinedB l rs e) (r:=some (.int .i64 4,[])) (z:=some (.int .i64 0,[])) (S:=fun m k=>spec_CertifyTheory.at0 (es.length+1) m (spec_CertifyTheory.st0 (k:Nat) (cells l) (cells o) (cells es) (cells rs))) (fun m k h => ?_) (fun m => ?_) (Nat.lt_succ_self _)).trans ?_
       · have hlk:es[k]?=some es[k]:=List.getElem?_eq_getElem h
         have hj:=(spec_joined hrf (fuel:=200) (by omega) (he _ (List.getElem_mem h))).eq
         have hj:LIM F.spec_l8Joined [.rref [slc l] 0,slc rs,slc es[k].left,slc es[k].right,.int .i64 200]=some (.tup [.int .i64 (joinR l rs 200 es[k]).value,.int .i64 (joinR l rs 200 es[k]).code],[]):=hj
         simp only [spec_CertifyTheory.next0,spec_CertifyTheory.round0,evz,Nat.reduceLT,h,hlk,enc_Equation,hj]
         rw [wrap_succ (by omega)]
         unfold joinedB
         by_cases c1:(joinR l rs 200 es[k]).code=0 <;> by_cases c2:(joinR l rs 200 es[k]).value=1 <;> simp [c1,c2]
       · simp only [spec_CertifyTheory.next0,spec_CertifyTheory.round0,evz,Nat.reduceLT,Nat.lt_irrefl]
       · split <;> rfl
theorem impl_CertifyTheory (s:Signature) (t:Theory) (hs:sm 1048576 s) (ht:sm 1048576 t):Call F.impl_CertifyTheory [.agg (enc s),.agg (enc t)] (.int .i64 (certR s t)):=by
 have hth:=(impl_TheoryFault s t hs ht).eq
 obtain ⟨l⟩:=s
 obtain ⟨o,es,rs⟩:=t
 obtain ⟨ho,hes,hrs⟩:=ht
 have hel:es.length≤1048576:=hes.1
 have hth:LIM F.impl_TheoryFault [.agg [slc l],.agg [slc o,slc es,slc rs]]=some (.int .i64 (theoryFault ⟨l⟩ ⟨o,es,rs⟩),[]):=hth
 show Call F.impl_CertifyTheory [.agg [slc l],.agg [slc o,slc es,slc rs]] _
 refine call_of rfl (es.length+1) ((impl_CertifyTheory.ev _ _ _ _ _).trans ?_)
 simp only [evz,Nat.reduceLT,hth,certR]
 by_cases h1:theoryFault ⟨l⟩ ⟨o,es,rs⟩=0
 case neg=>simp only [h1,evz,Nat.reduceLT,ne_eq,not_false_eq_true]
 have hrf:=theory_rules h1
 obtain ⟨_,ok,q1,q2⟩:=rulesFault_ok hrf
 have he:=(eqsOk_iff.1 (theoryOk h1).2.2.1).2
 have hun:LIM F.impl_UnjoinedOf [.agg [slc l],slc rs,.int .i64 200]=some (.agg (enc (unjoinedOfR ⟨l⟩ rs 200)),[]):=(impl_UnjoinedOf ⟨l⟩ rs 200 hs hrs).eq
 rw [enc_EquationsResult] at hun
 have hur:unjoinedOfR ⟨l⟩ rs 200=match unjR l rs 200 with
  | .inl ps=>⟨0,ps⟩
  | .inr c=>⟨c,[]⟩:=by
  unfold unjoinedOfR
  rw [if_neg (by simpa using hrf),if_neg (by decide)]
  rfl
 simp only [h1,evz,Nat.reduceLT,ne_eq,not_true_eq_false,(impl_areReduced ok hs q2 q1 hrs hrf).eq]
 cases hrd:reducedB l rs with
 | false=>simp only [evz,Nat.reduceLT,Bool.not_false]
 | true =>
   simp only [evz,Nat.reduceLT,Bool.not_true,hun,hur,reduceCtorEq]
   cases hu:unjR l rs 200 with
   | inr c =>
     have hc:=unjR_code hu
     simp only [evz,Nat.reduceLT,hc,ne_eq,not_false_eq_true]
   | inl ps =>
     simp only [evz,Nat.reduceLT,ne_eq,not_true_eq_false,gt_iff_lt]
     by_cases hp:0 < ps.length
     · have hp':(0:Int) < ps.length:=by omega
       simp only [hp,hp',evz,Nat.reduceLT]
     · have hp':¬ (0:Int) < ps.length:=by omega
       simp only [hp,hp',evz,Nat.reduceLT]
       refine (any_loopL (l:=es) (p:=fun e => !joinedB l rs e) (r:=some (.int .i64 4,[])) (z:=some (.int .i64 0,[])) (S:=fun m k=>impl_CertifyTheory.at0 (es.length+1) m (impl_CertifyTheory.st0 (cells es) es.length (k:Nat) (cells l) (cells o) (cells es) (cells rs))) (fun m k h => ?_) (fun m => ?_) (Nat.lt_succ_self _)).trans ?_
       · have hlk:es[k]?=some es[k]:=List.getElem?_eq_getElem h
         have hj:=(impl_joined hrf hs hrs (fuel:=200) (by omega) (he _ (List.getElem_mem h))).eq
         have hj:LIM F.impl_AreJoined [.agg [slc l],slc rs,slc es[k].left,slc es[k].right,.int .i64 200]=some (.agg [.int .i64 (joinR l rs 200 es[k]).code,.int .i64 (joinR l rs 200 es[k]).value],[]):=hj
         simp only [impl_CertifyTheory.next0,impl_CertifyTheory.round0,evz,Nat.reduceLT,h,hlk,enc_Equation,hj]
         rw [wrap_succ (by omega)]
         unfold joinedB
         by_cases c1:(joinR l rs 200 es[k]).code=0 <;> by_cases c2:(joinR l rs 200 es[k]).value=1 <;> simp [c1,c2]
       · simp only [impl_CertifyTheory.next0,impl_CertifyTheory.round0,evz,Nat.reduceLT,Nat.lt_irrefl]
       · split <;> rfl
end Ev.Ty
end
section
namespace Ev.Ty
open Go Ev
open Enc (enc)
open Sm (sm)
set_option linter.unusedSimpArgs false
set_option linter.unusedVariables false
set_option maxRecDepth 100000
set_option maxHeartbeats 2000000
theorem laws_FnExactCertifyTheory (s:Signature) (t:Theory) (h_s:sm maxLen s) (h_t:sm maxLen t):Call F.laws_FnExactCertifyTheory [.agg (enc s),.agg (enc t)] (.bool true):=by
 obtain ⟨r0,c0,g0,p0⟩:=laws_szSignature s.symbols 1048576 (by omega) (by omega) h_s
 by_cases n0:r0 < 0
 · exact call_of rfl 0 ((laws_FnExactCertifyTheory.ev _ _ _ _ _ ).trans (by simp only [evz,Nat.reduceLT,c0.eq,n0]))
 obtain ⟨r1,c1,g1,p1⟩:=laws_szTheory t.order t.equations t.rules r0 (by omega) (by omega) h_t
 by_cases n1:r1 < 0
 · exact call_of rfl 0 ((laws_FnExactCertifyTheory.ev _ _ _ _ _ ).trans (by simp only [evz,Nat.reduceLT,c0.eq,n0,c1.eq,n1]))
 have q_s:=p0 (by omega)
 have s_s:=sm_mono (show 1048576≤4294967296 by omega) q_s
 have m_s:=sm_mono (show 1048576≤67108864 by omega) q_s
 have q_t:=p1 (by omega)
 have s_t:=sm_mono (show 1048576≤4294967296 by omega) q_t
 have m_t:=sm_mono (show 1048576≤67108864 by omega) q_t
 have hi:Call F.impl_CertifyTheory [.agg [slc s.symbols],.agg [slc t.order,slc t.equations,slc t.rules]] (.int .i64 (certR s t)):=impl_CertifyTheory s t q_s q_t
 have hp:Call F.spec_CertifyTheory [.agg [slc s.symbols],.agg [slc t.order,slc t.equations,slc t.rules]] (.int .i64 (certR s t)):=spec_CertifyTheory s t q_s q_t
 exact call_of rfl 0 ((laws_FnExactCertifyTheory.ev _ _ _ _ _ ).trans (by simp only [evz,Nat.reduceLT,c0.eq,n0,c1.eq,n1,hi.eq,hp.eq,(laws_toSignature s.symbols s_s).eq,(laws_eqSignature s.symbols _  s_s).eq,(laws_toTheory t.order t.equations t.rules s_t).eq,(laws_eqTheory t.order t.equations t.rules _ _ _  s_t).eq,decide_true,Bool.not_true,cond_false]))
end Ev.Ty
end
