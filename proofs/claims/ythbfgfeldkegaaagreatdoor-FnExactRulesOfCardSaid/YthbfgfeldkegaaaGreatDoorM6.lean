/- Steps on the way to RowRulesOf: TyCompl, TyBytes, TySortP, TyRulesOf, TyLRulesOf. -/
import Derived.Test.YthbfgfeldkegaaaGreatDoorM5
set_option linter.unusedSectionVars false
set_option linter.unusedVariables false
set_option linter.unusedSimpArgs false
section
namespace Ev.Ty
open Go Ev
open Enc (enc)
open Sm (sm)
set_option linter.unusedSimpArgs false
set_option linter.unusedVariables false
def q42 (ents:List Entry) (rs:List Int):List Equation:=rs.map fun n=>eqOf (ents.getD n.toNat ⟨0,0,0,0,0,[],[]⟩)
def outs (k:Nat) (ns:List Int):Bool:=ns.any fun n => !inR n 0 (k - 1)
noncomputable def q67 (s:Signature) (c:Completion):Int :=
 if q74 s c.order≠0 then q74 s c.order else if qac s c.equations c.entries≠0 then qac s c.equations c.entries
 else if 12 < c.rules.length∨100 < c.waiting.length then 2
 else if outs c.entries.length c.rules=true∨outs c.entries.length c.waiting=true∨inR c.rounds 0 150=false then 3
 else if falling s.symbols c.order (q42 c.entries c.rules)=false then 10 else 0
theorem outs_in {k:Nat} {ns:List Int} (h:outs k ns=false):∀ n∈ns,0≤n∧n.toNat < k:=fun n hn=>by
 unfold outs at h
 rw [List.any_eq_false] at h
 have:=h n hn
 have:=q7k.1 (by simpa using this:inR n 0 ((k:Int) - 1)=true)
 omega
theorem q8z {l:List Symbol} {ents:List Entry} {rs:List Int} (he:∀ x∈ents,EqOk l (eqOf x)) (hr:∀ n∈rs,0≤n∧n.toNat < ents.length):∀ e∈q42 ents rs,EqOk l e:=fun e h=>by
 obtain ⟨n,hn,rfl⟩:=List.mem_map.1 h
 rw [getN (hr n hn).2]
 exact he _ (List.getElem_mem _)
theorem rulesOfC_step {ents:List Entry} {rs:List Int} {k:Nat} (h:k < rs.length):q42 ents (rs.take (k+1))=q42 ents (rs.take k)++[eqOf (ents.getD rs[k].toNat ⟨0,0,0,0,0,[],[]⟩)]:=by
 unfold q42
 rw [List.take_add_one,List.getElem?_eq_getElem h,List.map_append]
 rfl
section
variable {l:List Symbol} (o:List Int) (es:List Equation) {ents:List Entry} {rs:List Int} (ws:List Int) (rd:Int)
variable (he:∀ x∈ents,EqOk l (eqOf x)) (hel:ents.length≤500) (hr:∀ n∈rs,0≤n∧n.toNat < ents.length) (hrl:rs.length≤12)
include he hel hr hrl
theorem q1v:Call F.q1v [.rref [slc o,slc es,slc ents,slc rs,slc ws,.int .i64 rd] 0] (slc (q42 ents rs)):=by
 refine q0m rfl (rs.length+1) ((q1v.ev _ _ _ _ _ _ _).trans ?_)
 have key:=q86 (n:=rs.length) (f:=rs.length+1) (S:=fun m k (q:List Equation)=>q1v.at0 (rs.length+1) m (q1v.st0 (cells o) (cells es) (cells ents) (cells rs) (cells ws) rd (k:Nat) (cells q)))
  (st:=fun k=>q42 ents (rs.take k)) (z:=some (slc (q42 ents rs),[])) (fun m k h => ?_) (fun m => ?_) (Nat.lt_succ_self _)
 · rw [List.take_zero] at key
   exact key
 · have hlk:rs[k]?=some rs[k]:=List.getElem?_eq_getElem h
   obtain ⟨h0,h1⟩:=hr _ (List.getElem_mem h)
   obtain ⟨a,ha⟩:∃ a:Nat,rs[k]=a:=⟨rs[k].toNat,by omega⟩
   rw [ha,Int.toNat_natCast] at h1
   have hla:ents[a]?=some ents[a]:=List.getElem?_eq_getElem h1
   have hea:=he _ (List.getElem_mem h1)
   have hc:Call F.q92 [.rref [slc o,slc es,slc ents,slc rs,slc ws,.int .i64 rd] 0,.int .i64 k] (.agg [slc ents[a].left,slc ents[a].right]):=by
    refine q0m rfl 0 ((q92.ev _ _ _ _ _ _ _ _).trans ?_)
    simp only [evz,Nat.reduceLT,h,hlk,q1x,ha,h1,q52 (k:=7) (i:=a) rfl hla,(q44 ents[a] (ent_small hea)).eq]
   have hst:cells (q42 ents (rs.take (k+1)))=cells (q42 ents (rs.take k))++[slc ents[a].left,slc ents[a].right]:=by
    rw [rulesOfC_step h,ha,Int.toNat_natCast,getN h1,q35]
    rfl
   have hlen:(q42 ents (rs.take k)).length≤12:=by unfold q42; rw [List.length_map,List.length_take]; omega
   simp only [q1v.next0,q1v.round0,evz,Nat.reduceLT,h,hc.eq]
   rw [q16 (q4p (by rw [q0s,q39]; omega)),q0o (by omega),hst]
 · simp only [q1v.next0,q1v.round0,evz,Nat.reduceLT,Nat.lt_irrefl,List.take_length]
theorem q0r:Call F.q0r [.agg [slc o,slc es,slc ents,slc rs,slc ws,.int .i64 rd]] (slc (q42 ents rs)):=by
 refine q0m rfl (rs.length+1) ((q0r.ev _ _ _ _ _ _ _).trans ?_)
 simp only [evz,Nat.reduceLT]
 have key:=q86 (n:=rs.length) (f:=rs.length+1) (S:=fun m k (q:List Equation)=>q0r.at0 (rs.length+1) m (q0r.st0 (cells rs) rs.length (k:Nat) (cells o) (cells es) (cells ents) (cells rs) (cells ws) rd (cells q)))
  (st:=fun k=>q42 ents (rs.take k)) (z:=some (slc (q42 ents rs),[])) (fun m k h => ?_) (fun m => ?_) (Nat.lt_succ_self _)
 · rw [List.take_zero] at key
   exact key
 · have hlk:rs[k]?=some rs[k]:=List.getElem?_eq_getElem h
   obtain ⟨h0,h1⟩:=hr _ (List.getElem_mem h)
   obtain ⟨a,ha⟩:∃ a:Nat,rs[k]=a:=⟨rs[k].toNat,by omega⟩
   rw [ha,Int.toNat_natCast] at h1
   have hla:ents[a]?=some ents[a]:=List.getElem?_eq_getElem h1
   have hea:=he _ (List.getElem_mem h1)
   have hee:=entry_eqn ents[a]
   rw [q57] at hee
   have hst:cells (q42 ents (rs.take (k+1)))=cells (q42 ents (rs.take k))++[slc ents[a].left,slc ents[a].right]:=by
    rw [rulesOfC_step h,ha,Int.toNat_natCast,getN h1,q35]
    rfl
   have hlen:(q42 ents (rs.take k)).length≤12:=by unfold q42; rw [List.length_map,List.length_take]; omega
   simp only [q0r.next0,q0r.round0,evz,Nat.reduceLT,h,hlk,q1x,ha,h1,hla,q57,hee.eq]
   rw [q16 (q4p (by rw [q0s,q39]; omega)),q0o (by omega),hst]
 · simp only [q0r.next0,q0r.round0,evz,Nat.reduceLT,Nat.lt_irrefl,List.take_length]
end
theorem impl_areEntries (o:List Int) (es:List Equation) {ents:List Entry} (rs ws:List Int) (rd:Int) (hel:ents.length≤500) (ns:List Int) (hn:ns.length≤4294967296) :
 Call F.q49 [.agg [slc o,slc es,slc ents,slc rs,slc ws,.int .i64 rd],slc ns] (.bool (!outs ents.length ns)):=by
 have hi:Call F.q0j [slc ns,.clo F.q2j [.rref [slc o,slc es,slc ents,slc rs,slc ws,.int .i64 rd] 0]] (.int .i64 (idx (fun n => !inR n 0 ((ents.length:Int) - 1)) ns)):=by
  refine q0m rfl (ns.length+1) ((q03.ev _ _ _ _ _ _ _ _).trans ?_)
  simp only [evz,Nat.reduceLT]
  refine q85 (S:=fun m k=>q03.at0 (ns.length+1) m (q03.st0 (cells ns) (cells o) (cells es) (cells ents) (cells rs) (cells ws) rd ns.length (k:Nat))) (fun m k h => ?_) (fun m => ?_) (Nat.lt_succ_self _)
  · have hlk:ns[k]?=some ns[k]:=List.getElem?_eq_getElem h
    have hc:Call F.q2j [.int .i64 ns[k],.rref [slc o,slc es,slc ents,slc rs,slc ws,.int .i64 rd] 0] (.bool (!inR ns[k] 0 ((ents.length:Int) - 1))):=by
     refine q0m rfl 0 ((q2j.ev _ _ _ _ _ _ _ _).trans ?_)
     simp only [evz,Nat.reduceLT,q3e (x:=(ents.length:Int) - 1) (by omega),(q36 _ _ _).eq]
    simp only [q03.next0,q03.round0,evz,Nat.reduceLT,h,hlk,q1x,hc.eq]
    rw [q0o (by omega)]
    cases inR ns[k] 0 ((ents.length:Int) - 1) <;> rfl
  · simp only [q03.next0,q03.round0,evz,Nat.reduceLT,Nat.lt_irrefl]
 have hc:Call F.q1y [slc ns,.clo F.q2j [.rref [slc o,slc es,slc ents,slc rs,slc ws,.int .i64 rd] 0]] (.bool (outs ents.length ns)):=by
  refine q0m rfl 0 ((q5g.ev _ _ _ _ _ _ _ _).trans ?_)
  simp only [evz,Nat.reduceLT,hi.eq,q7y]
  rfl
 refine q0m rfl 0 ((q49.ev _ _ _ _ _ _ _ _).trans ?_)
 simp only [evz,Nat.reduceLT,hc.eq]
theorem q43 (s:Signature) (c:Completion) (hs:sm 1048576 s) (hc:sm 1048576 c):Call F.q43 [.agg (enc s),.agg (enc c)] (.int .i64 (q67 s c)):=by
 obtain ⟨l⟩:=s
 obtain ⟨o,es,ents,rs,ws,rd⟩:=c
 obtain ⟨ho,hes,hen,hrs,hws⟩:=hc
 have hsl:l.length≤4294967296:=Nat.le_trans hs.1 (by omega)
 have hol:o.length≤4294967296:=Nat.le_trans ho.1 (by omega)
 have hrl:rs.length≤1048576:=hrs.1
 have hwl:ws.length≤1048576:=hws.1
 have hck:LIM F.q12 [.agg [slc l],slc es,slc ents]=some (.int .i64 (qac ⟨l⟩ es ents),[]):=(q12 ⟨l⟩ es ents hs hes hen).eq
 show Call F.q43 [.agg [slc l],.agg [slc o,slc es,slc ents,slc rs,slc ws,.int .i64 rd]] _
 refine q0m rfl 0 ((q43.ev _ _ _ _ _ _ _ _).trans ?_)
 simp only [evz,Nat.reduceLT,(q1h l hsl o hol).eq,hck,(firstCode2 _ _).eq,q67,gt_iff_lt]
 by_cases h1:q74 ⟨l⟩ o=0
 case neg=>simp only [h1,evz,Nat.reduceLT,ne_eq,not_false_eq_true]
 by_cases h2:qac ⟨l⟩ es ents=0
 case neg=>simp only [h1,h2,evz,Nat.reduceLT,ne_eq,not_false_eq_true,not_true_eq_false]
 obtain ⟨ok,q1,q2,q3,q4⟩:=checkR_ok h2
 obtain ⟨_,hof⟩:=orderFault_ok h1
 simp only [h1,h2,evz,Nat.reduceLT,ne_eq,not_true_eq_false]
 by_cases h3:12 < rs.length
 · have h3':(12:Int) < rs.length:=by omega
   simp only [h3,h3',evz,Nat.reduceLT,true_or]
 have h3':¬ (12:Int) < rs.length:=by omega
 by_cases h4:100 < ws.length
 · have h4':(100:Int) < ws.length:=by omega
   simp only [h3,h3',h4,h4',evz,Nat.reduceLT,or_true]
 have h4':¬ (100:Int) < ws.length:=by omega
 simp only [h3,h3',h4,h4',evz,Nat.reduceLT,or_self,(impl_areEntries o es rs ws rd q3 rs (by omega)).eq,(impl_areEntries o es rs ws rd q3 ws (by omega)).eq,(q36 _ _ _).eq]
 cases h5:outs ents.length rs with
 | true=>simp only [evz,Nat.reduceLT,Bool.not_true,Bool.not_false,true_or]
 | false =>
   cases h6:outs ents.length ws with
   | true=>simp only [evz,Nat.reduceLT,Bool.not_true,Bool.not_false,true_or,or_true]
   | false =>
     cases h7:inR rd 0 150 with
     | false=>simp only [evz,Nat.reduceLT,Bool.not_true,Bool.not_false,or_true]
     | true =>
       have hri:=outs_in h5
       have hre:=q8z q4 hri
       have hrul:=(q0r o es ws rd q4 q3 hri (by omega)).eq
       obtain ⟨p1,p2⟩:=orderOk hof
       have hls:l.length≤6:=ok.le
       obtain ⟨R,hR⟩:∃ R,R=q42 ents rs:=⟨_,rfl⟩
       have hRl:R.length≤12:=by rw [hR]; unfold q42; rw [List.length_map]; omega
       rw [← hR] at hre hrul ⊢
       have hi:Call F.q1o [slc R,.clo F.q34 [.rref [slc l] 0,.rref [slc o,slc es,slc ents,slc rs,slc ws,.int .i64 rd] 0]] (.int .i64 (idx (fun e => !gt l o e.left e.right 0 0) R)):=by
        refine q0m rfl (R.length+1) ((q05.ev _ _ _ _ _ _ _ _ _).trans ?_)
        simp only [evz,Nat.reduceLT]
        refine q85 (S:=fun m k=>q05.at0 (R.length+1) m (q05.st0 (cells R) (cells l) (cells o) (cells es) (cells ents) (cells rs) (cells ws) rd R.length (k:Nat))) (fun m k h => ?_) (fun m => ?_) (Nat.lt_succ_self _)
        · have hlk:R[k]?=some R[k]:=List.getElem?_eq_getElem h
          have he:=hre _ (List.getElem_mem h)
          have hc:Call F.q34 [.agg [slc R[k].left,slc R[k].right],.rref [slc l] 0,.rref [slc o,slc es,slc ents,slc rs,slc ws,.int .i64 rd] 0] (.bool (!gt l o R[k].left R[k].right 0 0)):=by
           refine q0m rfl 0 ((q34.ev _ _ _ _ _ _ _ _ _ _).trans ?_)
           simp only [evz,Nat.reduceLT,(q6z ok he.left he.right (by omega) p2).eq]
          simp only [q05.next0,q05.round0,evz,Nat.reduceLT,h,hlk,q3d,hc.eq]
          rw [q0o (by omega)]
          cases gt l o R[k].left R[k].right 0 0 <;> rfl
        · simp only [q05.next0,q05.round0,evz,Nat.reduceLT,Nat.lt_irrefl]
       have hc:Call F.q3s [slc R,.clo F.q34 [.rref [slc l] 0,.rref [slc o,slc es,slc ents,slc rs,slc ws,.int .i64 rd] 0]] (.bool (R.any fun e => !gt l o e.left e.right 0 0)):=by
        refine q0m rfl 0 ((q5q.ev _ _ _ _ _ _ _ _ _).trans ?_)
        simp only [evz,Nat.reduceLT,hi.eq,q7y]
       simp only [evz,Nat.reduceLT,Bool.not_true,Bool.not_false,or_self,hrul,hc.eq,falling,reduceCtorEq]
       by_cases hx:(R.any fun e => !gt l o e.left e.right 0 0)=true
       · simp only [hx,cond_true,Bool.not_true,if_true]
       · simp only [Bool.not_eq_true] at hx
         simp only [hx,cond_false,Bool.not_false,reduceCtorEq,if_false]
theorem q07 (s:Signature) (c:Completion) (hs:sm 1048576 s) (hc:sm 1048576 c):Call F.q07 [.agg (enc s),.agg (enc c)] (.int .i64 (q67 s c)):=by
 obtain ⟨l⟩:=s
 obtain ⟨o,es,ents,rs,ws,rd⟩:=c
 obtain ⟨ho,hes,hen,hrs,hws⟩:=hc
 have hsl:l.length≤4294967296:=Nat.le_trans hs.1 (by omega)
 have hol:o.length≤4294967296:=Nat.le_trans ho.1 (by omega)
 have hrl:rs.length≤1048576:=hrs.1
 have hwl:ws.length≤1048576:=hws.1
 have hck:LIM F.q4o [.agg [slc l],slc es,slc ents]=some (.int .i64 (qac ⟨l⟩ es ents),[]):=(q4o ⟨l⟩ es ents hs hes hen).eq
 show Call F.q07 [.agg [slc l],.agg [slc o,slc es,slc ents,slc rs,slc ws,.int .i64 rd]] _
 refine q0m rfl 200 ((q07.ev _ _ _ _ _ _ _ _).trans ?_)
 simp only [evz,Nat.reduceLT,(q6h l hsl o hol).eq,hck,q67,gt_iff_lt]
 by_cases h1:q74 ⟨l⟩ o=0
 case neg=>simp only [h1,evz,Nat.reduceLT,ne_eq,not_false_eq_true]
 by_cases h2:qac ⟨l⟩ es ents=0
 case neg=>simp only [h1,h2,evz,Nat.reduceLT,ne_eq,not_false_eq_true,not_true_eq_false]
 obtain ⟨ok,q1,q2,q3,q4⟩:=checkR_ok h2
 obtain ⟨_,hof⟩:=orderFault_ok h1
 simp only [h1,h2,evz,Nat.reduceLT,ne_eq,not_true_eq_false]
 by_cases h3:12 < rs.length
 · have h3':(12:Int) < rs.length:=by omega
   simp only [h3,h3',evz,Nat.reduceLT,true_or]
 have h3':¬ (12:Int) < rs.length:=by omega
 by_cases h4:100 < ws.length
 · have h4':(100:Int) < ws.length:=by omega
   simp only [h3,h3',h4,h4',evz,Nat.reduceLT,or_true]
 have h4':¬ (100:Int) < ws.length:=by omega
 simp only [h3,h3',h4,h4',evz,Nat.reduceLT,or_self,q3e (x:=(ents.length:Int) - 1) (by omega)]
 refine (q82 (l:=rs) (p:=fun n => !inR n 0 ((ents.length:Int) - 1)) (r:=some (.int .i64 3,[])) (z:=q07.at2 200 200 (q07.st2 ((ents.length:Int) - 1) (0:Nat) (cells l) (cells o) (cells es) (cells ents) (cells rs) (cells ws) rd))
  (S:=fun m k=>q07.at0 200 m (q07.st0 ((ents.length:Int) - 1) (k:Nat) (cells l) (cells o) (cells es) (cells ents) (cells rs) (cells ws) rd)) (fun m k h => ?_) (fun m => ?_) (by omega)).trans ?_
 · have hlk:rs[k]?=some rs[k]:=List.getElem?_eq_getElem h
   simp only [q07.next0,q07.round0,evz,Nat.reduceLT,h,hlk,q1x,(q1j _ _ _).eq]
   rw [q0o (by omega)]
   cases inR rs[k] 0 ((ents.length:Int) - 1) <;> rfl
 · simp only [q07.next0,q07.round0,evz,Nat.reduceLT,Nat.lt_irrefl]
   rfl
 show (if outs ents.length rs=true then _ else _)=_
 cases h5:outs ents.length rs with
 | true=>simp only [evz,Nat.reduceLT,true_or]
 | false =>
   simp only [evz,Nat.reduceLT,false_or,reduceCtorEq]
   have hri:=outs_in h5
   have hre:=q8z q4 hri
   have hrul:=(q1v o es ws rd q4 q3 hri (by omega)).eq
   have hRl:(q42 ents rs).length≤12:=by unfold q42; rw [List.length_map]; omega
   have hfl:=(q2m ok hof hre (by omega)).eq
   refine (q82 (l:=ws) (p:=fun n => !inR n 0 ((ents.length:Int) - 1)) (r:=some (.int .i64 3,[])) (z:=if inR rd 0 150=false then some (.int .i64 3,[]) else if falling l o (q42 ents rs)=false then some (.int .i64 10,[]) else some (.int .i64 0,[]))
    (S:=fun m k=>q07.at2 200 m (q07.st2 ((ents.length:Int) - 1) (k:Nat) (cells l) (cells o) (cells es) (cells ents) (cells rs) (cells ws) rd)) (fun m k h => ?_) (fun m => ?_) (by omega)).trans ?_
   · have hlk:ws[k]?=some ws[k]:=List.getElem?_eq_getElem h
     simp only [q07.next2,q07.round2,evz,Nat.reduceLT,h,hlk,q1x,(q1j _ _ _).eq]
     rw [q0o (by omega)]
     cases inR ws[k] 0 ((ents.length:Int) - 1) <;> rfl
   · simp only [q07.next2,q07.round2,evz,Nat.reduceLT,Nat.lt_irrefl,(q1j _ _ _).eq,hrul,hfl]
     cases inR rd 0 150 <;> cases falling l o (q42 ents rs) <;> rfl
   show (if outs ents.length ws=true then _ else _)=_
   cases h6:outs ents.length ws <;> cases inR rd 0 150 <;> cases falling l o (q42 ents rs) <;> simp
end Ev.Ty
end
section
namespace Ev.Ty
open Go Ev
open Enc (enc)
open Sm (sm)
set_option linter.unusedSimpArgs false
set_option linter.unusedVariables false
theorem oU8s_cells:∀ a:List UInt8,oU8s (cells a)=some (a.map fun b=>(b.toNat:Int))
 | []=>rfl
 | x::a=>by
   rw [q5t]
   show oU8s (.int .u8 x.toNat::cells a)=_
   rw [oU8s,oU8s_cells a]
   rfl
theorem bytesOf_nat (a:List UInt8):Lib.bytesOf (a.map fun b=>(b.toNat:Int))=a:=by
 unfold Lib.bytesOf
 rw [List.map_map]
 conv=>rhs; rw [← List.map_id a]
 exact List.map_congr_left fun b _=>by simp
theorem q8p (a b:List UInt8):Call F.q8p [slc a,slc b] (.int .i64 (Lib.compareBytes a b)):=by
 refine lim_ext (e:=compareE) rfl (Ev.of fun m => ?_)
 show ((oU8s (cells a)).bind fun x=>(oU8s (cells b)).bind fun y=>some (T.int .i64 (Lib.compareBytes (Lib.bytesOf x) (Lib.bytesOf y)),([]:List T)))=_
 rw [oU8s_cells,oU8s_cells]
 simp only [Option.bind_some,bytesOf_nat]
theorem order_loop (a b:List UInt8) (ha:a.length≤4294967296) {N:Nat}:∀ n k f,k+n=a.length→n < f→k≤b.length →
 q2c.at0 N f (q2c.st0 (cells a) (cells b) (k:Nat))=some (.int .i64 (Lib.compareBytes (a.drop k) (b.drop k)),[])
 | n,k,0,hk,hf,hb=>by omega
 | 0,k,f+1,hk,hf,hb=>by
   have h1:a.drop k=[]:=List.drop_eq_nil_of_le (by omega)
   simp only [q2c.next0,q2c.round0,evz,Nat.reduceLT,show ¬ k < a.length by omega,h1]
   by_cases h2:k < b.length
   · rw [List.drop_eq_getElem_cons h2]
     have h3:(a.length:Int) < b.length:=by omega
     simp only [evz,Nat.reduceLT,h3,Lib.compareBytes,show a.length < b.length by omega]
   · have h3:b.drop k=[]:=List.drop_eq_nil_of_le (by omega)
     have h4:¬ (a.length:Int) < b.length:=by omega
     have h5:¬ (a.length:Int) > b.length:=by omega
     rw [h3]
     simp only [evz,Nat.reduceLT,h4,h5,Lib.compareBytes,show ¬ a.length < b.length by omega,gt_iff_lt,show ¬ b.length < a.length by omega]
 | n+1,k,f+1,hk,hf,hb=>by
   have h:k < a.length:=by omega
   have hlk:a[k]?=some a[k]:=List.getElem?_eq_getElem h
   simp only [q2c.next0,q2c.round0,evz,Nat.reduceLT,h]
   rw [List.drop_eq_getElem_cons h]
   by_cases h2:k < b.length
   · have hbk:b[k]?=some b[k]:=List.getElem?_eq_getElem h2
     rw [List.drop_eq_getElem_cons h2]
     simp only [evz,Nat.reduceLT,h2,hlk,hbk,enc_u8,gt_iff_lt]
     rw [q0o (by omega)]
     by_cases c1:a[k] < b[k]
     · have c1':=UInt8.lt_iff_toNat_lt.1 c1
       simp only [c1,c1',evz,Nat.reduceLT,Lib.compareBytes]
     · have c1':¬ a[k].toNat < b[k].toNat:=fun q=>c1 (UInt8.lt_iff_toNat_lt.2 q)
       by_cases c2:b[k] < a[k]
       · have c2':=UInt8.lt_iff_toNat_lt.1 c2
         simp only [c1,c2,c1',c2',evz,Nat.reduceLT,Lib.compareBytes]
       · have c2':¬ b[k].toNat < a[k].toNat:=fun q=>c2 (UInt8.lt_iff_toNat_lt.2 q)
         simp only [c1,c2,c1',c2',evz,Nat.reduceLT,Lib.compareBytes]
         exact order_loop a b ha n (k+1) f (by omega) (by omega) (by omega)
   · have h3:b.drop k=[]:=List.drop_eq_nil_of_le (by omega)
     have h4:¬ (a.length:Int) < b.length:=by omega
     have h5:(b.length:Int) < a.length:=by omega
     rw [h3]
     simp only [evz,Nat.reduceLT,h2,h4,h5,gt_iff_lt,Lib.compareBytes,show ¬ a.length < b.length by omega,show b.length < a.length by omega]
theorem q2c (a b:List UInt8) (ha:a.length≤4294967296):Call F.q2c [slc a,slc b] (.int .i64 (Lib.compareBytes a b)):=by
 refine q0m rfl (a.length+1) ((q2c.ev _ _ _).trans ?_)
 exact order_loop a b ha a.length 0 _ (by omega) (by omega) (by omega)
theorem q32 (l:List Int) (hl:l.length≤4294967296):Call F.q32 [slc l] (.int .i64 ((l.findSome? fun n=>if n≠0 then some n else none).getD 0)):=by
 refine q0m rfl (l.length+1) ((q32.ev _ _).trans ?_)
 have:=q9m (l:=l) (g:=fun n=>if n≠0 then some (some (.int .i64 n,[])) else none) (z:=some (.int .i64 0,[])) (S:=fun m k=>q32.at0 (l.length+1) m (q32.st0 0 (cells l) l.length (k:Nat)))
  (fun m k h=>by
   have hlk:l[k]?=some l[k]:=List.getElem?_eq_getElem h
   simp only [q32.next0,q32.round0,evz,Nat.reduceLT,h,hlk,q1x]
   rw [q0o (by omega)]
   by_cases e:l[k]=0 <;> simp [e])
  (fun m=>by simp only [q32.next0,q32.round0,evz,Nat.reduceLT,Nat.lt_irrefl]) (Nat.lt_succ_self _)
 simp only [q3y,q3r]
 refine this.trans ?_
 have h2:=q8j (fun n:Int=>if n≠0 then some n else none) (fun n=>(some (T.int .i64 n,[]):R)) l
 rw [show (fun n:Int=>(if n≠0 then some n else none).map fun n=>(some (T.int .i64 n,[]):R))=fun n=>if n≠0 then some (some (T.int .i64 n,[])) else none from funext fun n=>by by_cases h:n=0 <;> simp [h]] at h2
 rw [h2]
 cases l.findSome? fun n=>if n≠0 then some n else none <;> rfl
theorem cmp_Or2 (x y:Int):Call F.q32 [.sl 1 [.int .i64 x,.int .i64 y]] (.int .i64 (if x=0 then y else x)):=by
 have:=q32 [x,y] (by simp)
 have e:([x,y].findSome? fun n:Int=>if n≠0 then some n else none).getD 0=if x=0 then y else x:=by
  by_cases h:x=0
  · by_cases h':y=0 <;> simp [h,h']
  · simp [h]
 rw [e] at this
 exact this
def qas (a b:Equation):Int:=if Lib.compareBytes (packT a.left) (packT b.left)=0 then Lib.compareBytes (packT a.right) (packT b.right) else Lib.compareBytes (packT a.left) (packT b.left)
theorem packT_length (t:List Int):(packT t).length=t.length:=by unfold packT; rw [List.length_map]
theorem q2u {l:List Symbol} {a b:Equation} (ha:EqOk l a) (hb:EqOk l b):Call F.q2u [.agg [slc a.left,slc a.right],.agg [slc b.left,slc b.right]] (.int .i64 (qas a b)):=by
 have h1:=ha.left.le
 have h2:=ha.right.le
 have h3:=hb.left.le
 have h4:=hb.right.le
 refine q0m rfl 0 ((q2u.ev _ _ _ _ _).trans ?_)
 simp only [evz,Nat.reduceLT,(q2a a.left (by omega)).eq,(q2a a.right (by omega)).eq,(q2a b.left (by omega)).eq,(q2a b.right (by omega)).eq,(q8p _ _).eq,(cmp_Or2 _ _).eq]
 rfl
theorem q7f {l:List Symbol} {a b:Equation} (ha:EqOk l a) (hb:EqOk l b):Call F.q7f [.rref [slc a.left,slc a.right] 0,.rref [slc b.left,slc b.right] 0] (.bool (decide (qas a b < 0))):=by
 have h1:=ha.left.le
 have h2:=ha.right.le
 have h3:=hb.left.le
 have h4:=hb.right.le
 refine q0m rfl 0 ((q7f.ev _ _ _ _ _).trans ?_)
 simp only [evz,Nat.reduceLT,(q2b a.left (by omega)).eq,(q2b a.right (by omega)).eq,(q2b b.left (by omega)).eq,(q2b b.right (by omega)).eq,
  (q2c (packT a.left) (packT b.left) (by rw [packT_length]; omega)).eq,(q2c (packT a.right) (packT b.right) (by rw [packT_length]; omega)).eq,qas]
 by_cases h:Lib.compareBytes (packT a.left) (packT b.left)=0 <;> simp only [h,evz,Nat.reduceLT]
end Ev.Ty
end
section
namespace Ev.Ty
section
variable {α:Type} (lt:α→α→Bool)
def insL (x:α):List α→List α
 | []=>[x]
 | p::r=>if lt x p then x::p::r else p::insL x r
def insR (x:α):List α→List α
 | []=>[x]
 | p::r=>if lt x p then p::insR x r else x::p::r
def sortL (xs:List α):List α:=xs.foldl (fun o x=>insL lt x o) []
def sortR (xs:List α):List α:=(xs.foldl (fun r x=>insR lt x r) []).reverse
theorem insL_split {x:α} {B:List α} (hB:∀ p∈B,lt x p=true):∀ A:List α,(∀ p∈A,lt x p=false)→insL lt x (A++B)=A++x::B
 | [],_=>by
   cases B with
   | nil=>rfl
   | cons p r=>show (if lt x p then x::p::r else p::insL lt x r)=_; rw [hB p (List.mem_cons_self ..)]; rfl
 | a::A,h=>by
   show (if lt x a then x::a::(A++B) else a::insL lt x (A++B))=_
   rw [h a (List.mem_cons_self ..),insL_split hB A fun p hp=>h p (List.mem_cons_of_mem _ hp)]
   rfl
theorem insR_split {x:α} {A:List α} (hA:∀ p∈A,lt x p=false):∀ B:List α,(∀ p∈B,lt x p=true)→insR lt x (B++A)=B++x::A
 | [],_=>by
   cases A with
   | nil=>rfl
   | cons p r=>show (if lt x p then p::insR lt x r else x::p::r)=_; rw [hA p (List.mem_cons_self ..)]; rfl
 | b::B,h=>by
   show (if lt x b then b::insR lt x (B++A) else x::b::(B++A))=_
   rw [h b (List.mem_cons_self ..),insR_split hA B fun p hp=>h p (List.mem_cons_of_mem _ hp)]
   rfl
theorem insL_length (x:α):∀ l,(insL lt x l).length=l.length+1
 | []=>rfl
 | p::r=>by
   show (if lt x p then x::p::r else p::insL lt x r).length=_
   cases lt x p
   · show (insL lt x r).length+1=_; rw [insL_length x r]; rfl
   · rfl
theorem insR_length (x:α):∀ l,(insR lt x l).length=l.length+1
 | []=>rfl
 | p::r=>by
   show (if lt x p then p::insR lt x r else x::p::r).length=_
   cases lt x p
   · rfl
   · show (insR lt x r).length+1=_; rw [insR_length x r]; rfl
theorem insR_mem {x y:α}:∀ {l},y∈insR lt x l→y=x∨y∈l
 | [],h=>Or.inl (List.mem_singleton.1 h)
 | p::r,h=>by
   have h:y∈(if lt x p then p::insR lt x r else x::p::r):=h
   cases e:lt x p <;> rw [e] at h
   · rcases List.mem_cons.1 h with h | h
     · exact Or.inl h
     · exact Or.inr h
   · rcases List.mem_cons.1 h with h | h
     · exact Or.inr (h ▸ List.mem_cons_self ..)
     · rcases insR_mem h with h | h
       · exact Or.inl h
       · exact Or.inr (List.mem_cons_of_mem _ h)
theorem insL_mem {x y:α}:∀ {l},y∈insL lt x l→y=x∨y∈l
 | [],h=>Or.inl (List.mem_singleton.1 h)
 | p::r,h=>by
   have h:y∈(if lt x p then x::p::r else p::insL lt x r):=h
   cases e:lt x p <;> rw [e] at h
   · rcases List.mem_cons.1 h with h | h
     · exact Or.inr (h ▸ List.mem_cons_self ..)
     · rcases insL_mem h with h | h
       · exact Or.inl h
       · exact Or.inr (List.mem_cons_of_mem _ h)
   · rcases List.mem_cons.1 h with h | h
     · exact Or.inl h
     · exact Or.inr h
variable {lt}
theorem split_at {x:α}:∀ {l:List α},l.Pairwise (fun p q=>lt x p=true→lt x q=true)→∃ A B,l=A++B∧(∀ p∈A,lt x p=false)∧∀ p∈B,lt x p=true
 | [],_=>⟨[],[],rfl,(fun _ h=>by cases h),(fun _ h=>by cases h)⟩
 | p::r,h=>by
   obtain ⟨h1,h2⟩:=List.pairwise_cons.1 h
   cases e:lt x p
   · obtain ⟨A,B,rfl,hA,hB⟩:=split_at h2
     refine ⟨p::A,B,rfl,fun q hq => ?_,hB⟩
     rcases List.mem_cons.1 hq with rfl | hq
     · exact e
     · exact hA q hq
   · refine ⟨[],p::r,rfl,(fun _ h=>by cases h),fun q hq => ?_⟩
     rcases List.mem_cons.1 hq with rfl | hq
     · exact e
     · exact h1 q hq e
theorem sort_eq {S:α→Prop} (h1:∀ a b c,S a→S b→S c→lt a b=true→lt b c=true→lt a c=true) (h2:∀ a b c,S a→S b→S c→lt a b=true→lt c b=false→lt a c=true)
 {xs:List α} (hx:∀ x∈xs,S x):sortL lt xs=sortR lt xs:=by
 have main:∀ (xs r:List α),(∀ x∈xs,S x)→(∀ x∈r,S x)→r.reverse.Pairwise (fun p q=>∀ y,S y→lt y p=true→lt y q=true)→xs.foldl (fun o x=>insL lt x o) r.reverse=(xs.foldl (fun r x=>insR lt x r) r).reverse:=by
  intro xs
  induction xs with
  | nil=>intro r _ _ _; rfl
  | cons x xs ih =>
    intro r hxs hr hp
    have hSx:=hxs x (List.mem_cons_self ..)
    obtain ⟨A,B,e,hA,hB⟩:=split_at (x:=x) (hp.imp fun {p q} h=>h x hSx)
    have er:r=B.reverse++A.reverse:=by rw [← List.reverse_append,← e,List.reverse_reverse]
    have hA':∀ p∈A.reverse,lt x p=false:=fun p hp=>hA p (List.mem_reverse.1 hp)
    have hB':∀ p∈B.reverse,lt x p=true:=fun p hp=>hB p (List.mem_reverse.1 hp)
    have e1:insL lt x r.reverse=(insR lt x r).reverse:=by
     rw [e,insL_split lt hB A hA,er,insR_split lt hA' _ hB',List.reverse_append,List.reverse_cons,List.reverse_reverse,List.reverse_reverse,List.append_assoc]
     rfl
    have e2:(insR lt x r).reverse=A++x::B:=by rw [← e1,e,insL_split lt hB A hA]
    have hSA:∀ p∈A,S p:=fun p hp=>hr p (by rw [er]; exact List.mem_append_right _ (List.mem_reverse.2 hp))
    have hSB:∀ p∈B,S p:=fun p hp=>hr p (by rw [er]; exact List.mem_append_left _ (List.mem_reverse.2 hp))
    rw [List.foldl_cons,List.foldl_cons,e1]
    refine ih _ (fun y hy=>hxs y (List.mem_cons_of_mem _ hy)) (fun y hy => ?_) ?_
    · rcases insR_mem lt hy with rfl | hy
      · exact hSx
      · exact hr y hy
    · rw [e2]
      rw [e] at hp
      obtain ⟨p1,p2,p3⟩:=List.pairwise_append.1 hp
      refine List.pairwise_append.2 ⟨p1,List.pairwise_cons.2 ⟨fun q hq y hy h=>h1 y x q hy hSx (hSB q hq) h (hB q hq),p2⟩,fun p hp q hq => ?_⟩
      rcases List.mem_cons.1 hq with rfl | hq
      · exact fun y hy h=>h2 y p q hy (hSA p hp) hSx h (hA p hp)
      · exact p3 p hp q hq
 exact main xs [] hx (fun _ h=>by cases h) List.Pairwise.nil
theorem sortL_mem {y:α} {xs:List α} (h:y∈sortL lt xs):y∈xs:=by
 have:∀ (xs o:List α),y∈xs.foldl (fun o x=>insL lt x o) o→y∈xs∨y∈o:=by
  intro xs
  induction xs with
  | nil=>exact fun o h=>Or.inr h
  | cons x xs ih =>
    intro o h
    rcases ih _ h with h | h
    · exact Or.inl (List.mem_cons_of_mem _ h)
    · rcases insL_mem lt h with rfl | h
      · exact Or.inl (List.mem_cons_self ..)
      · exact Or.inr h
 rcases this xs [] h with h | h
 · exact h
 · cases h
theorem sortL_length (xs:List α):(sortL lt xs).length=xs.length:=by
 have:∀ (xs o:List α),(xs.foldl (fun o x=>insL lt x o) o).length=xs.length+o.length:=by
  intro xs
  induction xs with
  | nil=>intro o; simp
  | cons x xs ih=>intro o; rw [List.foldl_cons,ih,insL_length,List.length_cons]; omega
 exact (this xs []).trans (by simp)
end
end Ev.Ty
end
section
namespace Ev.Ty
open Go Ev
open Enc (enc)
open Sm (sm)
set_option linter.unusedSimpArgs false
set_option linter.unusedVariables false
theorem cb_trans:∀ {a b c:List UInt8},Lib.compareBytes a b < 0→Lib.compareBytes b c < 0→Lib.compareBytes a c < 0
 | [],[],c,h,_=>by simp [Lib.compareBytes] at h
 | x::a,[],c,h,_=>by simp [Lib.compareBytes] at h
 | _,y::b,[],_,h=>by simp [Lib.compareBytes] at h
 | [],y::b,z::c,_,_=>by simp [Lib.compareBytes]
 | x::a,y::b,z::c,h1,h2=>by
   simp only [Lib.compareBytes,UInt8.lt_iff_toNat_lt] at h1 h2 ⊢
   by_cases c1:x.toNat < y.toNat
   · by_cases c2:y.toNat < z.toNat
     · rw [if_pos (by omega)]; decide
     · by_cases c3:z.toNat < y.toNat
       · rw [if_neg c2,if_pos c3] at h2; omega
       · rw [if_pos (by omega)]; decide
   · by_cases c4:y.toNat < x.toNat
     · rw [if_neg c1,if_pos c4] at h1; omega
     · rw [if_neg c1,if_neg c4] at h1
       by_cases c2:y.toNat < z.toNat
       · rw [if_pos (by omega)]; decide
       · by_cases c3:z.toNat < y.toNat
         · rw [if_neg c2,if_pos c3] at h2; omega
         · rw [if_neg c2,if_neg c3] at h2
           rw [if_neg (by omega),if_neg (by omega)]
           exact cb_trans h1 h2
theorem cb_eq:∀ {a b:List UInt8},Lib.compareBytes a b=0→a=b
 | [],[],_=>rfl
 | x::a,[],h=>by simp [Lib.compareBytes] at h
 | [],y::b,h=>by simp [Lib.compareBytes] at h
 | x::a,y::b,h=>by
   simp only [Lib.compareBytes,UInt8.lt_iff_toNat_lt] at h
   by_cases c1:x.toNat < y.toNat
   · rw [if_pos c1] at h; omega
   · by_cases c2:y.toNat < x.toNat
     · rw [if_neg c1,if_pos c2] at h; omega
     · rw [if_neg c1,if_neg c2] at h
       rw [cb_eq h,show x=y from UInt8.toNat_inj.1 (by omega)]
theorem cb_self:∀ a:List UInt8,Lib.compareBytes a a=0
 | []=>rfl
 | x::a=>by
   simp only [Lib.compareBytes,UInt8.lt_iff_toNat_lt]
   rw [if_neg (by omega),if_neg (by omega),cb_self a]
theorem cb_flip:∀ {a b:List UInt8},Lib.compareBytes a b > 0→Lib.compareBytes b a < 0
 | [],[],h=>by simp [Lib.compareBytes] at h
 | x::a,[],h=>by simp [Lib.compareBytes]
 | [],y::b,h=>by simp [Lib.compareBytes] at h
 | x::a,y::b,h=>by
   simp only [Lib.compareBytes,UInt8.lt_iff_toNat_lt] at h ⊢
   by_cases c1:x.toNat < y.toNat
   · rw [if_pos c1] at h; omega
   · by_cases c2:y.toNat < x.toNat
     · rw [if_pos c2]; decide
     · rw [if_neg c1,if_neg c2] at h
       rw [if_neg c2,if_neg c1]
       exact cb_flip h
def q6e (a b:Equation):Bool:=decide (qas a b < 0)
theorem ruleLt_iff {a b:Equation}:q6e a b=true↔Lib.compareBytes (packT a.left) (packT b.left) < 0∨packT a.left=packT b.left∧Lib.compareBytes (packT a.right) (packT b.right) < 0:=by
 unfold q6e qas
 rw [decide_eq_true_iff]
 by_cases h:Lib.compareBytes (packT a.left) (packT b.left)=0
 · rw [if_pos h]
   exact ⟨fun q => .inr ⟨cb_eq h,q⟩,fun q=>q.elim (fun q=>by omega) fun q=>q.2⟩
 · rw [if_neg h]
   exact ⟨fun q => .inl q,fun q=>q.elim id fun q=>absurd (by rw [q.1,cb_self]) h⟩
theorem ruleLt_trans {a b c:Equation} (h1:q6e a b=true) (h2:q6e b c=true):q6e a c=true:=by
 rw [ruleLt_iff] at *
 rcases h1 with h1 | ⟨e1,h1⟩
 · rcases h2 with h2 | ⟨e2,h2⟩
   · exact .inl (cb_trans h1 h2)
   · exact .inl (e2 ▸ h1)
 · rcases h2 with h2 | ⟨e2,h2⟩
   · exact .inl (e1 ▸ h2)
   · exact .inr ⟨e1.trans e2,cb_trans h1 h2⟩
theorem cb_cases (a b:List UInt8) (h:¬ Lib.compareBytes a b < 0):a=b∨Lib.compareBytes b a < 0:=by
 rcases Int.lt_or_eq_of_le (Int.not_lt.1 h) with h | h
 · exact .inr (cb_flip h)
 · exact .inl (cb_eq h.symm)
theorem ruleLt_other {a b c:Equation} (h1:q6e a b=true) (h2:q6e c b=false):q6e a c=true:=by
 have h2:¬ q6e c b=true:=by rw [h2]; decide
 rw [ruleLt_iff] at h1 h2 ⊢
 have q1:¬ Lib.compareBytes (packT c.left) (packT b.left) < 0:=fun q=>h2 (.inl q)
 rcases cb_cases _ _ q1 with e | q
 · have q2:¬ Lib.compareBytes (packT c.right) (packT b.right) < 0:=fun q=>h2 (.inr ⟨e,q⟩)
   rw [e]
   rcases h1 with h1 | ⟨e1,h1⟩
   · exact .inl h1
   · refine .inr ⟨e1,?_⟩
     rcases cb_cases _ _ q2 with e3 | q3
     · rw [e3]; exact h1
     · exact cb_trans h1 q3
 · rcases h1 with h1 | ⟨e1,h1⟩
   · exact .inl (cb_trans h1 q)
   · exact .inl (e1 ▸ q)
def q8m (rs:List Equation):List Equation:=sortL q6e rs
theorem sortRules_eq (rs:List Equation):q8m rs=sortR q6e rs:=sort_eq (lt:=q6e) (S:=fun _=>True) (fun _ _ _ _ _ _ h1 h2=>ruleLt_trans h1 h2) (fun _ _ _ _ _ _ h1 h2=>ruleLt_other h1 h2) fun _ _=>trivial
theorem nbf {a b:Nat} (h:a≠b):Nat.beq a b=false:=by
 cases e:Nat.beq a b
 · rfl
 · exact absurd (Nat.eq_of_beq_eq_true e) h
theorem nbt (a:Nat):Nat.beq a a=true:=Nat.beq_refl a
theorem set_app {A:List T} {m:Nat} (h:A.length=m) (c:List T) (j:Nat) (v:T):(A++c).set (m+j) v=A++c.set j v:=by
 subst h
 rw [List.set_append_right _ _ (Nat.le_add_right _ _),Nat.add_sub_cancel_left]
theorem wrap_pred (k:Nat) (h:k < 4294967296):IntKind.wrap .i64 (((k+1:Nat):Int) - 1)=(k:Int):=by
 rw [q3e (by omega)]
 omega
section
variable {l:List Symbol}
theorem swap_cells {A S:List Equation} {p x:Equation} {k:Nat} (hA:A.length=k) (v1 v2 v3 v4:T) :
 List.set (List.set (List.set (List.set (List.set (List.set (List.set (List.set (cells (A++p::x::S)) ((k+1)*2) v1) ((k+1)*2+1) v2) (k*2) v3) (k*2+1) v4)
  ((k+1)*2+1) (slc p.right)) ((k+1)*2) (slc p.left)) (k*2+1) (slc x.right)) (k*2) (slc x.left)=cells (A++x::p::S):=by
 have hl:(cells A).length=k*2:=by rw [q0s,hA,q39]
 have e1:(k+1)*2=k*2+2:=by omega
 have e2:(k+1)*2+1=k*2+3:=by omega
 have s0:∀ c v,(cells A++c).set (k*2) v=cells A++c.set 0 v:=fun c v=>set_app hl c 0 v
 have s1:∀ c v,(cells A++c).set (k*2+1) v=cells A++c.set 1 v:=fun c v=>set_app hl c 1 v
 have s2:∀ c v,(cells A++c).set (k*2+2) v=cells A++c.set 2 v:=fun c v=>set_app hl c 2 v
 have s3:∀ c v,(cells A++c).set (k*2+3) v=cells A++c.set 3 v:=fun c v=>set_app hl c 3 v
 rw [e2,e1,q35,q35,q5t,q5t,q5t,q5t,s2,s3,s0,s1,s3,s2,s1,s0]
 rfl
theorem ins_inner {N i n:Nat} {L:St→R}:∀ (r:List Equation) (x:Equation) (S:List Equation) (f:Nat),(∀ e∈r,EqOk l e)→EqOk l x→r.length < f→r.length < 4294967295 →
 q00.at2 N L f (q00.st2 0 n i (r.length:Nat) (cells (r.reverse++x::S)))
  = L (q00.st0 0 n (IntKind.wrap .i64 ((i:Int)+1)) (cells ((insR q6e x r).reverse++S)))
 | r,x,S,0,_,_,h,_=>by omega
 | [],x,S,f+1,_,_,_,_=>by
   simp only [q00.next2,q00.round2,evz,Nat.reduceLT,List.length_nil,gt_iff_lt,show ¬ (0:Int) < ((0:Nat):Int) by decide,if_false]
   rfl
 | p::r,x,S,f+1,hr,hx,hf,hb=>by
   have hp:=hr p (List.mem_cons_self ..)
   have ih:=ins_inner (N:=N) (i:=i) (n:=n) (L:=L) r x (p::S) f (fun e he=>hr e (List.mem_cons_of_mem _ he)) hx (by simp only [List.length_cons] at hf; omega) (by simp only [List.length_cons] at hb; omega)
   have eX:(p::r).reverse++x::S=r.reverse++p::x::S:=by rw [List.reverse_cons,List.append_assoc]; rfl
   have hk:(r.reverse++p::x::S)[r.length]?=some p:=by simp
   have hj:(r.reverse++p::x::S)[r.length+1]?=some x:=by rw [List.getElem?_append_right (by simp)]; simp
   have hlen:(r.reverse++p::x::S).length=r.length+S.length+2:=by simp; omega
   have hsw:=fun v1 v2 v3 v4=>swap_cells (A:=r.reverse) (S:=S) (p:=p) (x:=x) (k:=r.length) (by simp) v1 v2 v3 v4
   rw [eX,List.length_cons]
   generalize hXe:r.reverse++p::x::S=X at *
   generalize hkk:r.length=k at *
   simp only [List.length_cons] at hb
   have hcl:(cells X).length=X.length*2:=by rw [q0s,q39]
   have hd:X.length*2 / 2=X.length:=by omega
   have p0:((k+1:Nat):Int) > 0:=by omega
   have g0:=wrap_pred k (by omega)
   have k1:k < X.length:=by omega
   have k2:k+1 < X.length:=by omega
   have b1:Nat.beq ((k+1)*2) ((k+1)*2+1)=false:=nbf (by omega)
   have b2:Nat.beq ((k+1)*2+1) (k*2)=false:=nbf (by omega)
   have b3:Nat.beq ((k+1)*2) (k*2)=false:=nbf (by omega)
   have b4:Nat.beq (k*2) (k*2+1)=false:=nbf (by omega)
   have b5:Nat.beq ((k+1)*2+1) (k*2+1)=false:=nbf (by omega)
   have b6:Nat.beq ((k+1)*2) (k*2+1)=false:=nbf (by omega)
   have b7:Nat.beq (k*2+1) (k*2)=false:=nbf (by omega)
   have b8:Nat.beq ((k+1)*2+1) ((k+1)*2)=false:=nbf (by omega)
   have b9:Nat.beq (k*2) ((k+1)*2)=false:=nbf (by omega)
   have b10:Nat.beq (k*2+1) ((k+1)*2)=false:=nbf (by omega)
   have b11:Nat.beq (k*2) ((k+1)*2+1)=false:=nbf (by omega)
   have b12:Nat.beq (k*2+1) ((k+1)*2+1)=false:=nbf (by omega)
   have d1:(k+1)*2+1 < X.length*2:=by omega
   have d2:k*2+1 < X.length*2:=by omega
   have q0:=get0 (l:=X) (k:=2) (i:=k) q39
   have q1:=get1 (l:=X) (k:=2) (i:=k) q39 (by decide)
   have q2:=get0 (l:=X) (k:=2) (i:=k+1) q39
   have q3:=get1 (l:=X) (k:=2) (i:=k+1) q39 (by decide)
   rw [hk] at q0 q1
   rw [hj] at q2 q3
   rw [q00.next2,q00.round2]
   simp only [g0,Int.toNat_natCast,q0,q1,q2,q3,q8c,q3y q39,hcl]
   simp only [evz,Nat.reduceLT,p0,k1,k2,q3d,(q2u hx hp).eq,b1,b2,b3,b4,b5,b6,b7,b8,b9,b10,b11,b12,nbt,d1,d2,List.length_set]
   by_cases c:qas x p < 0
   · have e:insR q6e x (p::r)=p::insR q6e x r:=by
      show (if q6e x p then _ else _)=_
      rw [show q6e x p=true from decide_eq_true c]; rfl
     simp only [c,evz,Nat.reduceLT]
     rw [hsw,e,List.reverse_cons,List.append_assoc]
     simp only [hd,k1,k2,Bool.not_false,Bool.and_true,Bool.true_and,cond_true,if_true]
     exact ih
   · have e:insR q6e x (p::r)=x::p::r:=by
      show (if q6e x p then _ else _)=_
      rw [show q6e x p=false from decide_eq_false c]; rfl
     simp only [c,evz,Nat.reduceLT]
     rw [e]
     simp only [hd,k1,k2,if_true,List.reverse_cons,List.append_assoc,List.singleton_append]
     rw [show r.reverse++([p,x]++S)=X from hXe]
theorem ins_outer {N:Nat} {n:Nat} (hn:n < N) (hN:N < 4294967295):∀ (S r:List Equation) (f:Nat),(∀ e∈r,EqOk l e)→(∀ e∈S,EqOk l e)→r.length+S.length=n→S.length < f →
 q00.at0 N f (q00.st0 0 n (r.length:Nat) (cells (r.reverse++S)))
  = some (.tup [],[slc (S.foldl (fun r x=>insR q6e x r) r).reverse])
 | S,r,0,_,_,_,h=>by omega
 | [],r,f+1,hr,_,h,_=>by
   have e:¬ ((r.length:Nat):Int) < (n:Int):=by simp only [List.length_nil] at h; omega
   simp only [q00.next0,q00.round0,evz,Nat.reduceLT,e,if_false,List.append_nil]
   rfl
 | x::S,r,f+1,hr,hS,h,hf=>by
   simp only [List.length_cons] at h hf
   have e:((r.length:Nat):Int) < (n:Int):=by omega
   have hx:=hS x (List.mem_cons_self ..)
   have ih:=ins_outer hn hN S (insR q6e x r) f (fun y hy=>by
    rcases insR_mem q6e hy with rfl | hy
    · exact hx
    · exact hr y hy) (fun y hy=>hS y (List.mem_cons_of_mem _ hy)) (by rw [insR_length]; omega) (by omega)
   have hi:=ins_inner (N:=N) (i:=r.length) (n:=n) (L:=q00.at0 N f) r x S N hr hx (by omega) (by omega)
   rw [insR_length,← q0o (by omega)] at ih
   rw [q00.next0,q00.round0]
   rw [q16 (decide_eq_true e),hi,ih]
   rfl
theorem ins_sort {rs:List Equation} (hr:∀ e∈rs,EqOk l e) (hl:rs.length≤4294967200):LIM F.q1e [slc rs,.int .i64 0,.int .i64 rs.length,.clo F.q2u []]=some (.tup [],[slc (q8m rs)]):=by
 refine lim_of rfl (rs.length+2) ((q00.ev _ _ _ _).trans ?_)
 rw [sortRules_eq]
 cases rs with
 | nil =>
   rw [q00.next0,q00.round0]
   rfl
 | cons x S =>
   have:=ins_outer (l:=l) (N:=(x::S).length+2) (n:=(x::S).length) (by omega) (by omega) S [x] ((x::S).length+2) (fun y hy=>hr y (by rw [List.mem_singleton.1 hy]; exact List.mem_cons_self ..)) (fun y hy=>hr y (List.mem_cons_of_mem _ hy)) (by simp; omega) (by simp; omega)
   rw [show IntKind.wrap .i64 ((0:Int)+1)=((1:Nat):Int) by decide]
   exact this
theorem pdq_sort {rs:List Equation} (hr:∀ e∈rs,EqOk l e) (hl:rs.length≤12) (k:Int):LIM F.q1t [slc rs,.int .i64 0,.int .i64 rs.length,.int .i64 k,.clo F.q2u []]=some (.tup [],[slc (q8m rs)]):=by
 refine lim_of rfl 1 ((q0b.ev _ _ _ _ _).trans ?_)
 rw [q0b.next0,q0b.round0]
 rw [Int.sub_zero,q3e (by omega),q16 (decide_eq_true (by omega:(rs.length:Int)≤12))]
 have:=ins_sort hr (by omega)
 simp only [slc,q39] at this ⊢
 rw [this]
 rfl
set_option maxRecDepth 100000 in
theorem bits_Len64 (k:Nat) (h:k≤12):∃ v,Call F.q1u [.int .u64 k] (.int .i64 v):=by
 have h0:¬ ((k:Int) ≥ 4294967296):=by omega
 have h1:¬ ((k:Int) ≥ 65536):=by omega
 have h2:¬ ((k:Int) ≥ 256):=by omega
 have h3:IntKind.wrap .u8 (k:Int)=k:=wrap8 (by omega)
 have:∃ v,callK prog A H LIM 0 F.q1u [.int .u64 k]=some (.int .i64 v,[]):=by
  rw [q1u.ev,q7n (decide_eq_false h0),q7n (decide_eq_false h1),q7n (decide_eq_false h2),h3,q8c,q16 (decide_eq_true (Nat.lt_of_le_of_lt h (by decide)))]
  exact ⟨_,rfl⟩
 obtain ⟨v,hv⟩:=this
 exact ⟨v,q0m rfl 0 hv⟩
theorem sort_func {rs:List Equation} (hr:∀ e∈rs,EqOk l e) (hl:rs.length≤12):LIM F.q71 [slc rs,.clo F.q2u []]=some (.tup [],[slc (q8m rs)]):=by
 obtain ⟨v,hv⟩:=bits_Len64 rs.length hl
 have hb:Call F.q8k [.int .u64 rs.length] (.int .i64 v):=by
  refine q0m rfl 0 ((q8k.ev _ _).trans ?_)
  simp only [evz,Nat.reduceLT,hv.eq]
 have hw:IntKind.wrap .u64 (rs.length:Int)=rs.length:=by
  unfold IntKind.wrap
  simp [IntKind.signed,IntKind.bits]
  omega
 refine lim_of rfl 0 ((q70.ev _ _).trans ?_)
 simp only [evz,Nat.reduceLT,hw,hb.eq,pdq_sort hr hl]
theorem sortRules_ok {rs:List Equation} (hr:∀ e∈rs,EqOk l e):∀ e∈q8m rs,EqOk l e:=fun e h=>hr e (sortL_mem h)
theorem sortRules_length (rs:List Equation):(q8m rs).length=rs.length:=sortL_length rs
theorem sorted_inner {rs out:List Equation} (ho:∀ e∈out,EqOk l e) (hol:out.length≤12) {i:Nat} (hi:i < rs.length) (hx:EqOk l rs[i]) (hl:rs.length≤12) {N:Nat} {L:St→R}:∀ (B A:List Equation) (f:Nat),out=A++B→B.length < f →
 q0p.at2 N L f (q0p.st2 (cells rs) (cells out) i (A.length:Nat))=L (q0p.st0 (cells rs) (cells (A++insL q6e rs[i] B)) ((i+1:Nat):Int))
 | B,A,0,_,h=>by omega
 | [],A,f+1,e,_=>by
   have hlk:rs[i]?=some rs[i]:=List.getElem?_eq_getElem hi
   have hA:out.length=A.length:=by rw [e,List.append_nil]
   have w1:((cells out).take (A.length*2)).drop (0*2)=cells A:=by rw [Nat.zero_mul,List.drop_zero,q7i out 2 _ rfl,e,List.append_nil,List.take_length]
   have w2:((cells out).take (A.length*2)).drop (A.length*2)=[]:=by rw [q7i out 2 _ rfl,q9e _ 2 _ rfl,List.drop_of_length_le (by rw [List.length_take]; omega)]; rfl
   have c0:¬ ((A.length:Nat):Int) < (out.length:Int):=by omega
   rw [q0p.next2,q0p.round2]
   have hin:insL q6e rs[i] []=[rs[i]]:=rfl
   simp only [evz,Nat.reduceLT,hA,Nat.lt_irrefl,hi,hlk,q3d,w1,w2,List.append_nil,Nat.zero_add,hin,q35,q98]
   rw [q16 (by simp),q16 (q4p (by rw [q0s,q39]; omega)),q16 (q4p (by rw [q0s,q39]; omega)),q16 (by simp),q16 (q4p (by simp only [List.length_append,q0s,q39,List.length_cons,List.length_nil]; omega)),q0o (by omega)]
 | p::B,A,f+1,e,hf=>by
   have hlk:rs[i]?=some rs[i]:=List.getElem?_eq_getElem hi
   have hA:A.length < out.length:=by rw [e]; simp
   have hAl:out.length=A.length+B.length+1:=by rw [e]; simp; omega
   have hp:EqOk l p:=ho p (by rw [e]; simp)
   have hop:out[A.length]?=some p:=by rw [e]; simp
   have ih:=sorted_inner ho hol hi hx hl (N:=N) (L:=L) B (A++[p]) f (by rw [e,List.append_assoc]; rfl) (by simp only [List.length_cons] at hf; omega)
   have w1:((cells out).take (A.length*2)).drop (0*2)=cells A:=by rw [Nat.zero_mul,List.drop_zero,q7i out 2 _ rfl,e,List.take_left]
   have w2:((cells out).take (out.length*2)).drop (A.length*2)=cells (p::B):=by rw [q7i out 2 _ rfl,List.take_length,q9e _ 2 _ rfl,e,List.drop_left]
   have hin:insL q6e rs[i] (p::B)=if q6e rs[i] p then rs[i]::p::B else p::insL q6e rs[i] B:=rfl
   rw [q0p.next2,q0p.round2]
   simp only [evz,Nat.reduceLT,hA,hi,hlk,q3d,q52 (k:=2) (i:=i) rfl hlk,q52 (k:=2) (i:=A.length) rfl hop,(q7f hx hp).eq,w1,w2,Nat.zero_add,hin,q6e]
   by_cases c:qas rs[i] p < 0
   · simp only [c,evz,Nat.reduceLT,q3d]
     rw [q16 (by simp; omega),q16 (q4p (by rw [q0s,q39]; omega)),q16 (q4p (by rw [q0s,q39]; omega)),q16 (by simp; omega),q16 (q4p (by simp only [List.length_append,q0s,q39,List.length_cons,List.length_nil]; omega)),q0o (by omega)]
     simp only [q35,q5t,q3d,if_true,List.append_assoc]
   · simp only [c,evz,Nat.reduceLT]
     rw [q0o (by omega)]
     rw [List.length_append,List.append_assoc] at ih
     exact ih
theorem spec_sorted {rs:List Equation} (hr:∀ e∈rs,EqOk l e) (hl:rs.length≤12):Call F.q0p [slc rs] (slc (q8m rs)):=by
 refine q0m rfl (rs.length+1) ((q0p.ev _ _).trans ?_)
 have key:=fold_loop (l:=rs) (f:=rs.length+1) (S:=fun m k (q:List Equation)=>q0p.at0 (rs.length+1) m (q0p.st0 (cells rs) (cells q) (k:Nat))) (g:=fun o x=>insL q6e x o) (z:=fun q=>some (slc q,[]))
  (fun k q=>q.length=k∧∀ e∈q,EqOk l e) (fun m k q h I => ?_) (fun k q h I => ?_) (fun m q I => ?_) [] ⟨rfl,fun _ h=>by cases h⟩ (Nat.lt_succ_self _)
 · exact key
 · have:=sorted_inner I.2 (by have:=I.1; omega) h (hr _ (List.getElem_mem h)) hl (N:=rs.length+1) (L:=q0p.at0 (rs.length+1) m) q [] (rs.length+1) rfl (by have:=I.1; omega)
   rw [List.nil_append] at this
   simp only [q0p.next0,q0p.round0,evz,Nat.reduceLT,h]
   exact this
 · refine ⟨by rw [insL_length,I.1],fun e he => ?_⟩
   rcases insL_mem q6e he with rfl | he
   · exact hr _ (List.getElem_mem h)
   · exact I.2 e he
 · simp only [q0p.next0,q0p.round0,evz,Nat.reduceLT,Nat.lt_irrefl]
end
theorem qaq {l:List Symbol} {o:List Int} {es:List Equation} {ents:List Entry} {rs ws:List Int} {rd:Int} (h:q67 ⟨l⟩ ⟨o,es,ents,rs,ws,rd⟩=0) :
 (∀ x∈ents,EqOk l (eqOf x))∧ents.length≤500∧(∀ n∈rs,0≤n∧n.toNat < ents.length)∧rs.length≤12:=by
 unfold q67 at h
 by_cases h1:q74 ⟨l⟩ o=0
 · rw [if_neg (by simpa using h1)] at h
   by_cases h2:qac ⟨l⟩ es ents=0
   · rw [if_neg (by simpa using h2)] at h
     by_cases h3:12 < rs.length∨100 < ws.length
     · rw [if_pos h3] at h; omega
     · rw [if_neg h3] at h
       by_cases h4:outs ents.length rs=true∨outs ents.length ws=true∨inR rd 0 150=false
       · rw [if_pos h4] at h; omega
       · obtain ⟨ok,q1,q2,q3,q4⟩:=checkR_ok h2
         refine ⟨q4,q3,outs_in ?_,by omega⟩
         cases e:outs ents.length rs
         · rfl
         · exact absurd (.inl e) h4
   · rw [if_pos (by simpa using h2)] at h; exact absurd h h2
 · rw [if_pos (by simpa using h1)] at h; exact absurd h h1
noncomputable def q9a (s:Signature) (c:Completion):EquationsResult :=
 if q67 s c=0 then ⟨0,q8m (q42 c.entries c.rules)⟩ else ⟨q67 s c,[]⟩
theorem ruleEq_sm {l:List Symbol} {e:Equation} (h:EqOk l e):sm 67108864 e:=q3a (by omega) h.small
theorem rulesOfR_sm (s:Signature) (c:Completion) (_:sm 1048576 s) (_:sm 1048576 c):sm 67108864 (q9a s c):=by
 obtain ⟨l⟩:=s
 obtain ⟨o,es,ents,rs,ws,rd⟩:=c
 unfold q9a
 by_cases h:q67 ⟨l⟩ ⟨o,es,ents,rs,ws,rd⟩=0
 · rw [if_pos h]
   obtain ⟨h1,h2,h3,h4⟩:=qaq h
   have hr:=q8z h1 h3
   refine ⟨?_,fun e he=>ruleEq_sm (sortRules_ok hr e he)⟩
   rw [sortRules_length]
   unfold q42
   rw [List.length_map]
   show rs.length≤_
   omega
 · rw [if_neg h]
   exact nil_sm _
theorem q61 (s:Signature) (c:Completion) (hs:sm 1048576 s) (hc:sm 1048576 c):Call F.q61 [.agg (enc s),.agg (enc c)] (.agg (enc (q9a s c))):=by
 have hf:=(q43 s c hs hc).eq
 obtain ⟨l⟩:=s
 obtain ⟨o,es,ents,rs,ws,rd⟩:=c
 show Call F.q61 [.agg [slc l],.agg [slc o,slc es,slc ents,slc rs,slc ws,.int .i64 rd]] _
 have hf:LIM F.q43 [.agg [slc l],.agg [slc o,slc es,slc ents,slc rs,slc ws,.int .i64 rd]]=some (.int .i64 (q67 ⟨l⟩ ⟨o,es,ents,rs,ws,rd⟩),[]):=hf
 refine q0m rfl 0 ((q61.ev _ _ _ _ _ _ _ _).trans ?_)
 simp only [evz,Nat.reduceLT,hf,q9a]
 by_cases h:q67 ⟨l⟩ ⟨o,es,ents,rs,ws,rd⟩=0
 · obtain ⟨h1,h2,h3,h4⟩:=qaq h
   have hr:=q8z h1 h3
   have hrl:(q42 ents rs).length≤12:=by unfold q42; rw [List.length_map]; omega
   have hcp:=(impl_copies (eqs:=q42 ents rs) ⟨by omega,fun e he=>(hr e he).small⟩).eq
   have hso:Call F.q4j [.agg [slc o,slc es,slc ents,slc rs,slc ws,.int .i64 rd]] (slc (q8m (q42 ents rs))):=by
    refine q0m rfl 0 ((q4j.ev _ _ _ _ _ _ _).trans ?_)
    simp only [evz,Nat.reduceLT,(q0r o es ws rd h1 h2 h3 h4).eq,hcp,sort_func hr hrl]
   simp only [h,evz,Nat.reduceLT,hso.eq,ne_eq,not_true_eq_false,q6g]
 · simp only [h,evz,Nat.reduceLT,ne_eq,not_false_eq_true,q6g,q4q,q39]
theorem q6t (s:Signature) (c:Completion) (hs:sm 1048576 s) (hc:sm 1048576 c):Call F.q6t [.agg (enc s),.agg (enc c)] (.agg (enc (q9a s c))):=by
 have hf:=(q07 s c hs hc).eq
 obtain ⟨l⟩:=s
 obtain ⟨o,es,ents,rs,ws,rd⟩:=c
 show Call F.q6t [.agg [slc l],.agg [slc o,slc es,slc ents,slc rs,slc ws,.int .i64 rd]] _
 have hf:LIM F.q07 [.agg [slc l],.agg [slc o,slc es,slc ents,slc rs,slc ws,.int .i64 rd]]=some (.int .i64 (q67 ⟨l⟩ ⟨o,es,ents,rs,ws,rd⟩),[]):=hf
 refine q0m rfl 0 ((q6t.ev _ _ _ _ _ _ _ _).trans ?_)
 simp only [evz,Nat.reduceLT,hf,q9a]
 by_cases h:q67 ⟨l⟩ ⟨o,es,ents,rs,ws,rd⟩=0
 · obtain ⟨h1,h2,h3,h4⟩:=qaq h
   have hr:=q8z h1 h3
   have hrl:(q42 ents rs).length≤12:=by unfold q42; rw [List.length_map]; omega
   simp only [h,evz,Nat.reduceLT,(q1v o es ws rd h1 h2 h3 h4).eq,(spec_sorted hr hrl).eq,ne_eq,not_true_eq_false,q6g]
 · simp only [h,evz,Nat.reduceLT,ne_eq,not_false_eq_true,q6g,q4q,q39]
end Ev.Ty
end
section
namespace Ev.Ty
open Go Ev
open Enc (enc)
open Sm (sm)
set_option linter.unusedSimpArgs false
set_option linter.unusedVariables false
set_option maxRecDepth 100000
set_option maxHeartbeats 2000000
theorem laws_FnExactRulesOf (s:Signature) (c:Completion) (h_s:sm maxLen s) (h_c:sm maxLen c):Call F.laws_FnExactRulesOf [.agg (enc s),.agg (enc c)] (.bool true):=by
 obtain ⟨r0,c0,g0,p0⟩:=q5d s.symbols 1048576 (by omega) (by omega) h_s
 by_cases n0:r0 < 0
 · exact q0m rfl 0 ((laws_FnExactRulesOf.ev _ _ _ _ _ _ _ _ ).trans (by simp only [evz,Nat.reduceLT,c0.eq,n0]))
 obtain ⟨r1,c1,g1,p1⟩:=q3u c.order c.equations c.entries c.rules c.waiting c.rounds r0 (by omega) (by omega) h_c
 by_cases n1:r1 < 0
 · exact q0m rfl 0 ((laws_FnExactRulesOf.ev _ _ _ _ _ _ _ _ ).trans (by simp only [evz,Nat.reduceLT,c0.eq,n0,c1.eq,n1]))
 have q_s:=p0 (by omega)
 have s_s:=q3a (show 1048576≤4294967296 by omega) q_s
 have m_s:=q3a (show 1048576≤67108864 by omega) q_s
 have q_c:=p1 (by omega)
 have s_c:=q3a (show 1048576≤4294967296 by omega) q_c
 have m_c:=q3a (show 1048576≤67108864 by omega) q_c
 have hi:Call F.q61 [.agg [slc s.symbols],.agg [slc c.order,slc c.equations,slc c.entries,slc c.rules,slc c.waiting,.int .i64 c.rounds]] (.agg (enc (q9a s c))):=q61 s c q_s q_c
 have hp:Call F.q6t [.agg [slc s.symbols],.agg [slc c.order,slc c.equations,slc c.entries,slc c.rules,slc c.waiting,.int .i64 c.rounds]] (.agg (enc (q9a s c))):=q6t s c q_s q_c
 have hv:=rulesOfR_sm s c q_s q_c
 generalize q9a s c=r at hi hp hv
 obtain ⟨w_code,w_list⟩:=r
 have hv2:=q3a (show 67108864≤4294967296 by omega) hv
 obtain ⟨x0_0,k0,f0,a0,b0⟩:=q59 s.symbols 1 (by omega) (by omega) m_s
 have l0:¬ k0 < 0:=by omega
 obtain ⟨x1_0,x1_1,x1_2,x1_3,x1_4,k1,f1,a1,b1⟩:=q51 c.order c.equations c.entries c.rules c.waiting c.rounds k0 (by omega) (by omega) m_c
 have l1:¬ k1 < 0:=by omega
 obtain ⟨y0,kr,fr,ar,br,zr⟩:=q47 w_code w_list 1 (by omega) (by omega) hv
 have lr:¬ kr < 0:=by omega
 exact q0m rfl 0 ((laws_FnExactRulesOf.ev _ _ _ _ _ _ _ _ ).trans (by simp only [evz,Nat.reduceLT,c0.eq,n0,c1.eq,n1,hi.eq,hp.eq,(q4n s.symbols s_s).eq,(q5v s.symbols _  s_s).eq,(q4e c.order c.equations c.entries c.rules c.waiting c.rounds s_c).eq,(q5f c.order c.equations c.entries c.rules c.waiting c.rounds _ _ _ _ _ _  s_c).eq,(q3p w_code w_list _ _  hv2).eq,f0,l0,f1,l1,fr,zr,lr,q6g,decide_true,Bool.not_true,cond_false]))
end Ev.Ty
end
