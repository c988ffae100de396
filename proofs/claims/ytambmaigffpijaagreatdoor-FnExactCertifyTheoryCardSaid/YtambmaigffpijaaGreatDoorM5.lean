/- Steps on the way to RowCertifyTheory: TyBind, TyWalk, TyMatchP, TyNormP, TyRules, TyCmp, TyOrd, TyUnifyP, TyPeakP, TyMatch, TyNorm, TyUnify, TyUnify2, TyNormL, TyPeak, TyPeak2, TyPeaks. -/
import Derived.Test.YtambmaigffpijaaGreatDoorM4
set_option linter.unusedSectionVars false
section
namespace Ev.Ty
open Go Ev
open Enc (enc)
open Sm (sm)
set_option linter.unusedSimpArgs false
set_option linter.unusedVariables false
theorem firstCode2 (a b:Int):Call F.impl_firstCode [.sl 1 [.int .i64 a,.int .i64 b]] (.int .i64 (if a=0 then b else a)):=impl_firstCode2 a b
theorem skip_inner {a:Int→Nat}:∀ {t r:List Int} {k p:Nat},skip a k t=some r→p+r.length < t.length→∃ q,skip a 1 (t.drop p)=some q
 | [],r,k,p,h,hp=>by simp at hp
 | n::t,r,0,p,h,hp=>by
   rw [skip_zero] at h; cases h; omega
 | n::t,r,k+1,0,h,hp=>by
   rw [show k+1=1+k by omega,skip_add] at h
   cases h1:skip a 1 (n::t) with
   | none=>rw [h1] at h; cases h
   | some q=>exact ⟨q,by simpa using h1⟩
 | n::t,r,k+1,p+1,h,hp=>by
   rw [skip] at h
   obtain ⟨q,hq⟩:=skip_inner (p:=p) h (by simp at hp; omega)
   exact ⟨q,by simpa using hq⟩
def endAt (l:List Symbol) (t:List Int) (p:Nat):Nat:=match skip (ar l) 1 (t.drop p) with
 | some r=>t.length - r.length
 | none=>t.length
theorem endAt_spec {l:List Symbol} {t:List Int} (ok:TermOk l t) {p:Nat} (hp:p < t.length) :
 p < endAt l t p∧endAt l t p≤t.length∧∀ z,endRes z t (skip (ar l) 1 (t.drop p))=(endAt l t p:Nat):=by
 obtain ⟨q,hq⟩:=skip_inner (p:=p) ok.skip (by simpa using hp)
 have h:=skip_at hq
 unfold endAt
 rw [hq]
 refine ⟨?_,by simp only; omega,fun z=>rfl⟩
 have:=h.2.2 (by omega)
 simp only
 omega
section
variable {l:List Symbol} (ok:SigOk ⟨l⟩)
include ok
theorem endOf_at {t:List Int} (ht:TermOk l t) {p:Nat} (hp:p < t.length):Call F.impl_endOf [.agg [slc l],slc t,.int .i64 p] (.int .i64 (endAt l t p:Nat)):=by
 have h:=impl_endOf ok t ht.node (by have:=ht.le; omega) p (Nat.le_of_lt hp)
 rwa [(endAt_spec ht hp).2.2] at h
theorem l3End_at {t:List Int} (ht:TermOk l t) {p:Nat} (hp:p < t.length):Call F.spec_l3End [.rref [slc l] 0,slc t,.int .i64 p] (.int .i64 (endAt l t p:Nat)):=by
 have h:=spec_l3End ok t ht.node (by have:=ht.le; omega) p (Nat.le_of_lt hp)
 rwa [(endAt_spec ht hp).2.2] at h
end
theorem cells_cut (t:List Int) (i j:Nat):((cells t).take (j*1)).drop (i*1)=cells ((t.take j).drop i):=by
 rw [cells_take t 1 j rfl,cells_drop _ 1 i rfl]
def subAt (l:List Symbol) (t:List Int) (p:Nat):List Int:=(t.take (endAt l t p)).drop p
theorem slc_cut (t:List Int) (i j:Nat):T.sl 1 (((cells t).take (j*1)).drop (i*1))=slc ((t.take j).drop i):=by rw [cells_cut]; rfl
theorem spec_l1Ints' (l:List Int) (h:l.length≤4294967296):Call F.spec_l1Ints [slc l] (slc l):=by
 refine call_of rfl 0 ((spec_l1Ints.ev _ _).trans ?_)
 rw [scalars_int,cond_pos rfl,cond_pos (ble_ok (by rw [cells_length,sz_int]; omega))]
 rfl
theorem slices_Clone_Sint64 (l:List Int) (h:l.length≤4294967296):Call F.slices_Clone_Sint64 [slc l] (slc l):=by
 refine lim_ext (e:=cloneE) rfl (Ev.of fun m => ?_)
 show (intsOf (cells l)).bind _=_
 rw [← intsT_cells,intsOf_intsT]
 show (bif _ then _ else _)=_
 rw [cond_pos (by rw [decide_eq_true_iff]; omega),intsT_cells]
 rfl
section
variable {l:List Symbol} (ok:SigOk ⟨l⟩)
include ok
theorem impl_subterm {t:List Int} (ht:TermOk l t) {p:Nat} (hp:p < t.length):Call F.impl_subterm [.agg [slc l],slc t,.int .i64 p] (slc (subAt l t p)):=by
 refine call_of rfl 0 ((impl_subterm.ev _ _ _ _).trans ?_)
 obtain ⟨h1,h2,_⟩:=endAt_spec ht hp
 simp only [evz,Nat.reduceLT,(endOf_at ok ht hp).eq]
 rw [cond_pos (by simp; omega),slc_cut]
 rfl
theorem spec_l3Sub {t:List Int} (ht:TermOk l t) {p:Nat} (hp:p < t.length):Call F.spec_l3Sub [.rref [slc l] 0,slc t,.int .i64 p] (slc (subAt l t p)):=by
 refine call_of rfl 0 ((spec_l3Sub.ev _ _ _ _).trans ?_)
 obtain ⟨h1,h2,_⟩:=endAt_spec ht hp
 have hle:=ht.le
 simp only [evz,Nat.reduceLT,(l3End_at ok ht hp).eq]
 rw [cond_pos (by simp; omega),slc_cut,(spec_l1Ints' _ (by simp; omega)).eq]
 simp only [evz,Nat.reduceLT]
 rfl
def replAt (l:List Symbol) (t:List Int) (p:Nat) (by_:List Int):List Int:=(t.take p++by_)++t.drop (endAt l t p)
theorem impl_replaced {t:List Int} (ht:TermOk l t) {p:Nat} (hp:p < t.length) (by_:List Int) (hb:by_.length≤1048576):Call F.impl_replaced [.agg [slc l],slc t,.int .i64 p,slc by_] (slc (replAt l t p by_)):=by
 refine call_of rfl 0 ((impl_replaced.ev _ _ _ _ _).trans ?_)
 obtain ⟨h1,h2,_⟩:=endAt_spec ht hp
 have hle:=ht.le
 simp only [cells_div,sz_int,Int.toNat_natCast]
 rw [cond_pos (by simp; omega),slc_cut,(slices_Clone_Sint64 _ (by simp; omega)).eq]
 simp only [evz,Nat.reduceLT,scalars_int,(endOf_at ok ht hp).eq,cells_cut,← cells_append,cells_div,sz_int,Int.toNat_natCast]
 rw [cond_pos (ble_ok (by rw [cells_length,cells_length,sz_int]; simp; omega)),cond_pos (by simp; omega),cond_pos (ble_ok (by rw [cells_length,cells_length,sz_int]; simp; omega))]
 simp [replAt,slc]
theorem spec_l3Replace {t:List Int} (ht:TermOk l t) {p:Nat} (hp:p < t.length) (by_:List Int) (hb:by_.length≤1048576):Call F.spec_l3Replace [.rref [slc l] 0,slc t,.int .i64 p,slc by_] (slc (replAt l t p by_)):=by
 refine call_of rfl 0 ((spec_l3Replace.ev _ _ _ _ _).trans ?_)
 obtain ⟨h1,h2,_⟩:=endAt_spec ht hp
 have hle:=ht.le
 simp only [cells_div,sz_int,Int.toNat_natCast]
 rw [cond_pos (by simp; omega),slc_cut,(spec_l1Ints' _ (by simp; omega)).eq]
 simp only [evz,Nat.reduceLT,scalars_int,(l3End_at ok ht hp).eq,cells_cut,← cells_append,cells_div,sz_int,Int.toNat_natCast]
 rw [cond_pos (ble_ok (by rw [cells_length,cells_length,sz_int]; simp; omega)),cond_pos (by simp; omega),cond_pos (ble_ok (by rw [cells_length,cells_length,sz_int]; simp; omega))]
 simp [replAt,slc]
end
theorem replAt_length {l:List Symbol} {t:List Int} {p:Nat} {by_:List Int}:(replAt l t p by_).length≤t.length+by_.length+t.length:=by simp [replAt]; omega
def bindOf (vs:List Int) (ts:List (List Int)) (v:Int):Option (List Int):=if idx (fun x=>decide (x=v)) vs < 0 then none else ts[(idx (fun x=>decide (x=v)) vs).toNat]?
theorem slices_Index_Sint64 (l:List Int) (x:Int) (hl:l.length≤4294967296):Call F.slices_Index_Sint64 [slc l,.int .i64 x] (.int .i64 (idx (fun y=>decide (y=x)) l)):=by
 refine call_of rfl (l.length+1) ((slices_Index_Sint64.ev _ _ _).trans ?_)
 simp only [evz,Nat.reduceLT]
 refine idx_loop (S:=fun m k=>slices_Index_Sint64.at0 (l.length+1) m (slices_Index_Sint64.st0 (cells l) x l.length (k:Nat))) (fun m k h => ?_) (fun m => ?_) (Nat.lt_succ_self _)
 · have hlk:l[k]?=some l[k]:=List.getElem?_eq_getElem h
   simp only [slices_Index_Sint64.next0,slices_Index_Sint64.round0,evz,Nat.reduceLT,h,hlk,enc_int]
   rw [wrap_succ (by omega)]
   by_cases e:x=l[k]
   · simp [e]
   · have e':¬ l[k]=x:=fun h=>e h.symm
     simp [e,e']
 · simp only [slices_Index_Sint64.next0,slices_Index_Sint64.round0,evz,Nat.reduceLT,Nat.lt_irrefl]
def ofT:Option (List Int)→T
 | some t => .tup [slc t,.bool true]
 | none => .tup [slc ([]:List Int),.bool false]
theorem impl_Binding_of (vs:List Int) (ts:List (List Int)) (v:Int) (hl:vs.length=ts.length) (hs:vs.length≤4294967296):Call F.impl_Binding_of [.agg [slc vs,slc ts],.int .i64 v] (ofT (bindOf vs ts v)):=by
 refine call_of rfl 0 ((impl_Binding_of.ev _ _ _ _).trans ?_)
 simp only [evz,Nat.reduceLT,(slices_Index_Sint64 vs v hs).eq,bindOf]
 rcases idx_spec (fun x:Int=>decide (x=v)) vs with ⟨h,_⟩ | ⟨i,hi,h,_,_⟩
 · simp only [h,evz,Nat.reduceLT,ofT,slc_nil,show ((-1:Int) < 0)=True from by simp]
 · have hn:¬ ((i:Nat):Int) < 0:=by omega
   have hit:i < ts.length:=by omega
   simp only [h,hn,evz,Nat.reduceLT,hit,List.getElem?_eq_getElem,enc_list,ofT]
theorem spec_l6Term (vs:List Int) (ts:List (List Int)) (v:Int) (hl:vs.length=ts.length) (hs:vs.length≤4294967296):Call F.spec_l6Term [.rref [slc vs,slc ts] 0,.int .i64 v] (slc ((bindOf vs ts v).getD [])):=by
 refine call_of rfl (vs.length+1) ((spec_l6Term.ev _ _ _ _).trans ?_)
 have loop:=scan_loop (l:=List.range vs.length) (g:=fun k=>if vs[k]?=some v then some (some (slc (ts[k]?.getD []),[])) else none) (z:=some (slc ([]:List Int),[]))
  (S:=fun m k=>spec_l6Term.at0 (vs.length+1) m (spec_l6Term.st0 (cells vs) (cells ts) v (k:Nat))) (fun m k h => ?_) (fun m => ?_) (f:=vs.length+1) (by simp)
 · refine loop.trans ?_
   unfold bindOf
   rcases idx_spec (fun x:Int=>decide (x=v)) vs with ⟨h,hno⟩ | ⟨i,hi,h,hyes,hno⟩
   · rw [h,if_pos (by omega)]
     have:(List.range vs.length).findSome? (fun k=>if vs[k]?=some v then some ((some (slc (ts[k]?.getD []),[]):R)) else none)=none:=by
      rw [List.findSome?_eq_none_iff]
      intro k hk
      rw [List.mem_range] at hk
      rw [if_neg]
      rw [List.getElem?_eq_getElem hk]
      intro e
      have:=hno _ (List.getElem_mem hk)
      simp at this e
      exact this e
     rw [this]; rfl
   · rw [h,if_neg (by omega)]
     have hit:i < ts.length:=by omega
     have:(List.range vs.length).findSome? (fun k=>if vs[k]?=some v then some ((some (slc (ts[k]?.getD []),[]):R)) else none)=some (some (slc ts[i],[])):=by
      rw [List.findSome?_eq_some_iff]
      refine ⟨List.range i,i,(List.range' (i+1) (vs.length - i - 1)),?_,?_,?_⟩
      · rw [List.range_eq_range',List.range_eq_range',← List.range'_succ,show vs.length - i - 1+1=vs.length - i by omega]
        have:=List.range'_append (s:=0) (m:=i) (n:=vs.length - i) (step:=1)
        simp only [Nat.one_mul,Nat.zero_add] at this
        rw [this,Nat.add_sub_cancel' (Nat.le_of_lt hi)]
      · have e1:vs[i]?=some v:=(List.getElem?_eq_getElem hi).trans (congrArg some (of_decide_eq_true hyes))
        have e2:ts[i]?=some ts[i]:=List.getElem?_eq_getElem hit
        simp only [e1,e2,if_true,Option.getD_some]
      · intro k hk
        rw [List.mem_range] at hk
        rw [if_neg]
        rw [List.getElem?_eq_getElem (by omega)]
        intro e
        have:=hno k hk
        simp at this e
        exact this e
     rw [this,Int.toNat_natCast,List.getElem?_eq_getElem hit]; rfl
 · rw [List.length_range] at h
   have hlk:vs[k]?=some vs[k]:=List.getElem?_eq_getElem h
   have hkt:k < ts.length:=by omega
   simp only [spec_l6Term.next0,spec_l6Term.round0,evz,Nat.reduceLT,h,hkt,hlk,List.getElem?_eq_getElem,enc_int,enc_list,List.getElem_range,Option.getD_some,Option.some.injEq]
   rw [wrap_succ (by omega)]
   by_cases e:vs[k]=v <;> simp [e]
 · rw [List.length_range]
   simp only [spec_l6Term.next0,spec_l6Term.round0,evz,Nat.reduceLT,Nat.lt_irrefl,slc_nil]
def applied (vs:List Int) (ts:List (List Int)) (t:List Int):List Int:=t.flatMap fun n=>(bindOf vs ts (-1 - n)).getD [n]
structure BindOk (vs:List Int) (ts:List (List Int)):Prop where
 len:vs.length=ts.length
 le:vs.length≤1000
 nn:∀ v∈vs,0≤v
 tm:∀ t∈ts,1≤t.length∧t.length≤4096
theorem bindOf_neg {vs:List Int} {ts:List (List Int)} (ok:BindOk vs ts) {v:Int} (hv:v < 0):bindOf vs ts v=none:=by
 unfold bindOf
 rcases idx_spec (fun x:Int=>decide (x=v)) vs with ⟨h,_⟩ | ⟨i,hi,h,hy,_⟩
 · rw [if_pos (by omega)]
 · have:=ok.nn _ (List.getElem_mem hi)
   simp at hy; omega
theorem bindOf_mem {vs:List Int} {ts:List (List Int)} {v:Int} {t:List Int} (h:bindOf vs ts v=some t):t∈ts:=by
 unfold bindOf at h
 split at h
 · cases h
 · exact List.mem_of_getElem? h
def appStep (vs:List Int) (ts:List (List Int)) (o:List Int) (n:Int):List Int:=o++(bindOf vs ts (-1 - n)).getD [n]
theorem app_fold (vs:List Int) (ts:List (List Int)):∀ (t o:List Int),t.foldl (appStep vs ts) o=o++applied vs ts t
 | [],o=>by simp [applied]
 | n::t,o=>by
   rw [List.foldl_cons,app_fold vs ts t]
   simp [appStep,applied]
def appI (k:Nat) (o:List Int):Prop:=o.length≤k*4096
theorem appI_step {vs:List Int} {ts:List (List Int)} (ok:BindOk vs ts) {k:Nat} {o:List Int} {n:Int} (h:appI k o):appI (k+1) (appStep vs ts o n):=by
 unfold appI appStep at *
 rw [List.length_append]
 cases hb:bindOf vs ts (-1 - n) with
 | none=>simp; omega
 | some t=>have:=(ok.tm t (bindOf_mem hb)).2; simp; omega
theorem applied_length {vs:List Int} {ts:List (List Int)} (ok:BindOk vs ts) (t:List Int):(applied vs ts t).length≤t.length*4096:=by
 have:=fold_inv (l:=t) (g:=appStep vs ts) appI (fun k o _ h=>appI_step ok h) [] (by simp [appI])
 rw [app_fold] at this
 simpa [appI] using this
theorem impl_Binding_applied (vs:List Int) (ts:List (List Int)) (ok:BindOk vs ts) (t:List Int) (ht:t.length≤4096) (hr:∀ n∈t,-4611686018427387904≤n∧n≤4611686018427387904):Call F.impl_Binding_applied [.agg [slc vs,slc ts],slc t] (slc (applied vs ts t)):=by
 have hle:=ok.le
 refine call_of rfl (t.length+1) ((impl_Binding_applied.ev _ _ _ _).trans ?_)
 simp only [cells_div,sz_int]
 have key:=fold_loop (l:=t) (f:=t.length+1) (S:=fun m k (o:List Int)=>impl_Binding_applied.at0 (t.length+1) m (impl_Binding_applied.st0 (cells t) t.length (k:Nat) (cells vs) (cells ts) (cells o))) (g:=appStep vs ts) (z:=fun (o:List Int)=>some (slc o,[])) appI
  (fun m k o h ho => ?_) (fun k o h ho=>appI_step ok ho) (fun m o ho => ?_) [] (by simp [appI]) (by omega)
 · rw [app_fold] at key; exact key
 · have hn:=hr _ (List.getElem_mem h)
   have ho:o.length≤k*4096:=ho
   simp only [impl_Binding_applied.next0,impl_Binding_applied.round0,evz,Nat.reduceLT,h,List.getElem?_eq_getElem,enc_int,wrap64 (x := -1 - t[k]) (by omega),(impl_Binding_of vs ts (-1 - t[k]) ok.len (by omega)).eq,appStep]
   cases hb:bindOf vs ts (-1 - t[k]) with
   | none =>
     simp only [ofT,evz,Nat.reduceLT,scalars_int,Option.getD_none,← cells_append]
     rw [cond_pos (ble_ok (by rw [cells_length,sz_int]; omega)),cells_snoc_int,wrap_succ (by omega)]
   | some x =>
     have hx:=(ok.tm x (bindOf_mem hb)).2
     simp only [ofT,evz,Nat.reduceLT,scalars_int,Option.getD_some,← cells_append]
     rw [cond_pos (ble_ok (by rw [cells_length,cells_length,sz_int]; omega)),wrap_succ (by omega)]
 · simp only [impl_Binding_applied.next0,impl_Binding_applied.round0,evz,Nat.reduceLT,Nat.lt_irrefl]
theorem spec_l6Apply (vs:List Int) (ts:List (List Int)) (ok:BindOk vs ts) (t:List Int) (ht:t.length≤4096) (hr:∀ n∈t,-4611686018427387904≤n∧n≤4611686018427387904):Call F.spec_l6Apply [.rref [slc vs,slc ts] 0,slc t] (slc (applied vs ts t)):=by
 have hle:=ok.le
 refine call_of rfl (t.length+1) ((spec_l6Apply.ev _ _ _ _).trans ?_)
 have key:=fold_loop (l:=t) (f:=t.length+1) (S:=fun m k (o:List Int)=>spec_l6Apply.at0 (t.length+1) m (spec_l6Apply.st0 (cells vs) (cells ts) (cells t) (k:Nat) (cells o))) (g:=appStep vs ts) (z:=fun (o:List Int)=>some (slc o,[])) appI
  (fun m k o h ho => ?_) (fun k o h ho=>appI_step ok ho) (fun m o ho => ?_) [] (by simp [appI]) (by omega)
 · rw [app_fold] at key; exact key
 · have hn:=hr _ (List.getElem_mem h)
   have ho:o.length≤k*4096:=ho
   by_cases hneg:t[k] < 0
   · simp only [spec_l6Apply.next0,spec_l6Apply.round0,evz,Nat.reduceLT,h,List.getElem?_eq_getElem,enc_int,hneg,wrap64 (x := -1 - t[k]) (by omega),(spec_l6Term vs ts (-1 - t[k]) ok.len (by omega)).eq,appStep]
     cases hb:bindOf vs ts (-1 - t[k]) with
     | none =>
       simp only [slc_nil,evz,Nat.reduceLT,List.all_nil,Option.getD_none,cells_nil,List.length_nil,← cells_append,Int.natCast_zero,Nat.zero_div,Int.ofNat_zero]
       rw [cond_pos (ble_ok (by rw [cells_length,sz_int]; omega)),cells_snoc_int,wrap_succ (by omega)]
     | some x =>
       have hx:=ok.tm x (bindOf_mem hb)
       have hx0:¬ ((x.length:Int)=0):=by omega
       simp only [evz,Nat.reduceLT,scalars_int,Option.getD_some,hx0,← cells_append]
       rw [cond_pos (ble_ok (by rw [cells_length,cells_length,sz_int]; omega)),wrap_succ (by omega)]
   · simp only [spec_l6Apply.next0,spec_l6Apply.round0,evz,Nat.reduceLT,h,List.getElem?_eq_getElem,enc_int,hneg,appStep,bindOf_neg ok (v := -1 - t[k]) (by omega),Option.getD_none]
     rw [cond_pos (ble_ok (by rw [cells_length,sz_int]; omega)),cells_snoc_int,wrap_succ (by omega)]
 · simp only [spec_l6Apply.next0,spec_l6Apply.round0,evz,Nat.reduceLT,Nat.lt_irrefl]
theorem getD_at {vs:List Int} {k:Nat} (h:k < vs.length):vs.getD k 0=vs[k]:=by rw [List.getD_eq_getElem?_getD,List.getElem?_eq_getElem h]; rfl
end Ev.Ty
end
section
namespace Ev.Ty
open Go Ev
open Enc (enc)
open Sm (sm)
set_option linter.unusedSimpArgs false
set_option linter.unusedVariables false
theorem TermOk.range {l:List Symbol} (ok:SigOk ⟨l⟩) {t:List Int} (h:TermOk l t):∀ n∈t,-4611686018427387904≤n∧n≤4611686018427387904:=fun n hn=>by
 have:=nodeOk_iff.1 (h.node n hn)
 have hle:l.length≤6:=ok.le
 omega
theorem impl_fitting (t:List Int):Call F.impl_fitting [slc t] (.agg (enc (if 24 < t.length then (⟨2,[]⟩:TermResult) else ⟨0,t⟩))):=by
 refine call_of rfl 0 ((impl_fitting.ev _ _).trans ?_)
 simp only [evz,Nat.reduceLT,gt_iff_lt]
 by_cases h:24 < t.length
 · have h':(24:Int) < t.length:=by omega
   simp only [h,h',evz,Nat.reduceLT,enc_TermResult,slc_nil]
 · have h':¬ (24:Int) < t.length:=by omega
   simp only [h,h',evz,Nat.reduceLT,enc_TermResult]
theorem getE {es:List Equation} {k:Nat} (h:k < es.length):es.getD k ⟨[],[]⟩=es[k]:=by rw [List.getD_eq_getElem?_getD,List.getElem?_eq_getElem h]; rfl
end Ev.Ty
end
section
namespace Ev.Ty
open Go Ev
open Enc (enc)
open Sm (sm)
set_option linter.unusedSimpArgs false
set_option linter.unusedVariables false
theorem skip_append {a:Int→Nat}:∀ {x r q:List Int} {k:Nat},skip a k x=some q→skip a k (x++r)=some (q++r)
 | x,r,q,0,h=>by rw [skip_zero] at h; cases h; rw [skip_zero]
 | [],r,q,k+1,h=>by cases h
 | n::x,r,q,k+1,h=>by
   rw [skip] at h
   rw [List.cons_append,skip]
   exact skip_append h
theorem skip_cut {a:Int→Nat}:∀ {x r:List Int} {k:Nat},skip a k (x++r)=some r→skip a k x=some []
 | x,r,0,h=>by
   rw [skip_zero] at h
   have:=congrArg List.length (Option.some.inj h)
   rw [List.length_append] at this
   have:x=[]:=List.eq_nil_of_length_eq_zero (by omega)
   subst this; rfl
 | [],r,k+1,h=>by
   obtain ⟨p,hp,hk⟩:=skip_suffix h
   have h1:=congrArg List.length hp
   rw [List.nil_append,List.length_append] at h1
   have h2:=hk (by omega)
   omega
 | n::x,r,k+1,h=>by
   rw [List.cons_append,skip] at h
   rw [skip]
   exact skip_cut h
theorem skip_nil {a:Int→Nat} {m:Nat} {r:List Int} (h:skip a m []=some r):m=0∧r=[]:=by
 cases m with
 | zero=>rw [skip_zero] at h; cases h; exact ⟨rfl,rfl⟩
 | succ m=>cases h
theorem sub_split {l:List Symbol} {t:List Int} (ht:TermOk l t) {p:Nat} (hp:p < t.length):t.drop p=subAt l t p++t.drop (endAt l t p)∧(subAt l t p).length=endAt l t p - p∧skip (ar l) 1 (t.drop p)=some (t.drop (endAt l t p)):=by
 obtain ⟨h1,h2,_⟩:=endAt_spec ht hp
 have hl:(subAt l t p).length=endAt l t p - p:=by simp [subAt]; omega
 refine ⟨?_,hl,?_⟩
 · have e:t.drop (endAt l t p)=(t.drop p).drop (endAt l t p - p):=by rw [List.drop_drop]; congr 1; omega
   have e2:subAt l t p=(t.drop p).take (endAt l t p - p):=by unfold subAt; rw [List.drop_take]
   rw [e,e2,List.take_append_drop]
 · obtain ⟨q,hq⟩:=skip_inner (p:=p) ht.skip (by simpa using hp)
   have:=(skip_at hq).1
   rw [hq]
   unfold endAt
   rw [hq]
   exact congrArg some this
theorem subAt_ok {l:List Symbol} {t:List Int} (ht:TermOk l t) {p:Nat} (hp:p < t.length):TermOk l (subAt l t p):=by
 obtain ⟨h1,h2,h3⟩:=sub_split ht hp
 obtain ⟨h4,h5,_⟩:=endAt_spec ht hp
 have:=ht.le
 refine ⟨by omega,by omega,fun n hn=>ht.node n ?_,?_⟩
 · exact List.mem_of_mem_drop (h1 ▸ List.mem_append_left _ hn)
 · rw [h1] at h3; exact skip_cut h3
theorem sub_place {l:List Symbol} {t:List Int} (ht:TermOk l t) {p:Nat} (hp:p < t.length) {i:Nat} (hi:i < (subAt l t p).length) :
 p+i < t.length∧(subAt l t p).getD i 0=t.getD (p+i) 0∧endAt l t (p+i)=p+endAt l (subAt l t p) i∧subAt l (subAt l t p) i=subAt l t (p+i):=by
 obtain ⟨h1,h2,h3⟩:=sub_split ht hp
 obtain ⟨h4,h5,_⟩:=endAt_spec ht hp
 have hu:=subAt_ok ht hp
 have hpi:p+i < t.length:=by omega
 obtain ⟨h6,h7,h8⟩:=sub_split hu hi
 obtain ⟨k1,k2,k3⟩:=sub_split ht hpi
 obtain ⟨h9,h10,_⟩:=endAt_spec hu hi
 obtain ⟨k4,k5,_⟩:=endAt_spec ht hpi
 have hd:t.drop (p+i)=(subAt l t p).drop i++t.drop (endAt l t p):=by
  rw [← List.drop_drop,h1,List.drop_append_of_le_length (by omega)]
 have e1:endAt l t (p+i)=p+endAt l (subAt l t p) i:=by
  have h:=skip_append (r:=t.drop (endAt l t p)) h8
  rw [← hd,k3] at h
  have:=congrArg List.length (Option.some.inj h)
  simp only [List.length_drop,List.length_append] at this
  omega
 refine ⟨hpi,?_,e1,?_⟩
 · have:=congrArg (fun x=>x[0]?) hd
   simp only [List.getElem?_drop,Nat.add_zero] at this
   rw [List.getD_eq_getElem?_getD,List.getD_eq_getElem?_getD,this,List.getElem?_append_left (by simp; omega),List.getElem?_drop,Nat.add_zero]
 · have q1:subAt l t (p+i)=(t.drop (p+i)).take (endAt l t (p+i) - (p+i)):=by unfold subAt; rw [List.drop_take]
   have q2:subAt l (subAt l t p) i=((subAt l t p).drop i).take (endAt l (subAt l t p) i - i):=by
    show ((subAt l t p).take (endAt l (subAt l t p) i)).drop i=_
    rw [List.drop_take]
   rw [q1,q2,hd,e1,List.take_append_of_le_length (by simp; omega)]
   congr 1; omega
abbrev Bnd:=List Int × List (List Int)
def insAt (vs:List Int) (v:Int):Nat:=(vs.takeWhile fun x=>decide (x < v)).length
def ins {α:Type} (l:List α) (i:Nat) (x:α):List α:=l.take i++x::l.drop i
def bput (b:Bnd) (v:Int) (t:List Int):Bnd:=(ins b.1 (insAt b.1 v) v,ins b.2 (insAt b.1 v) t)
theorem insAt_le (vs:List Int) (v:Int):insAt vs v≤vs.length:=by
 have:=(List.takeWhile_sublist (l:=vs) (p:=fun x=>decide (x < v))).length_le
 exact this
theorem insAt_lt:∀ (vs:List Int) (v:Int) (i:Nat) (h:i < insAt vs v) (h':i < vs.length),vs[i] < v
 | [],v,i,h,h'=>by simp at h'
 | x::vs,v,i,h,h'=>by
   unfold insAt at h
   rw [List.takeWhile_cons] at h
   by_cases hx:x < v
   · rw [if_pos (by simpa using hx)] at h
     cases i with
     | zero=>exact hx
     | succ i=>exact insAt_lt vs v i (by simpa [insAt] using h) (by simpa using h')
   · rw [if_neg (by simpa using hx)] at h; simp at h
theorem insAt_stop:∀ (vs:List Int) (v:Int) (h':insAt vs v < vs.length),¬ vs[insAt vs v] < v
 | [],v,h'=>by simp at h'
 | x::vs,v,h'=>by
   by_cases hx:x < v
   · have e:insAt (x::vs) v=insAt vs v+1:=by unfold insAt; rw [List.takeWhile_cons,if_pos (by simpa using hx)]; rfl
     have:=insAt_stop vs v (by rw [e] at h'; simpa using h')
     simpa [e] using this
   · have e:insAt (x::vs) v=0:=by unfold insAt; rw [List.takeWhile_cons,if_neg (by simpa using hx)]; rfl
     simpa [e] using hx
theorem ins_length {α:Type} (l:List α) (i:Nat) (x:α) (h:i≤l.length):(ins l i x).length=l.length+1:=by simp [ins]; omega
theorem mem_ins {α:Type} {l:List α} {i:Nat} {x y:α} (h:y∈ins l i x):y=x∨y∈l:=by
 unfold ins at h
 rcases List.mem_append.1 h with h | h
 · exact .inr (List.mem_of_mem_take h)
 · rcases List.mem_cons.1 h with h | h
   · exact .inl h
   · exact .inr (List.mem_of_mem_drop h)
structure MB (l:List Symbol) (b:Bnd) (k:Nat):Prop where
 len:b.1.length=b.2.length
 le:b.1.length≤k
 var:∀ v∈b.1,0≤v∧v≤11
 tm:∀ t∈b.2,TermOk l t
theorem MB.nil (l:List Symbol):MB l ([],[]) 0:=⟨rfl,Nat.le_refl _,by simp,by simp⟩
theorem MB.up {l:List Symbol} {b:Bnd} {k k':Nat} (h:MB l b k) (hk:k≤k'):MB l b k':=⟨h.len,Nat.le_trans h.le hk,h.var,h.tm⟩
theorem MB.put {l:List Symbol} {b:Bnd} {k:Nat} (h:MB l b k) {v:Int} (hv:0≤v∧v≤11) {t:List Int} (ht:TermOk l t):MB l (bput b v t) (k+1):=by
 have hi:=insAt_le b.1 v
 have hlen:=h.len
 have:=h.le
 refine ⟨?_,?_,fun x hx => ?_,fun x hx => ?_⟩
 · unfold bput; rw [ins_length _ _ _ hi,ins_length _ _ _ (by omega)]; omega
 · unfold bput; rw [ins_length _ _ _ hi]; omega
 · rcases mem_ins hx with rfl | hx
   · exact hv
   · exact h.var x hx
 · rcases mem_ins hx with rfl | hx
   · exact ht
   · exact h.tm x hx
theorem MB.ok {l:List Symbol} {b:Bnd} {k:Nat} (h:MB l b k) (hk:k≤24):BindOk b.1 b.2 :=
 ⟨h.len,by have:=h.le; omega,fun v hv=>(h.var v hv).1,fun t ht=>⟨(h.tm t ht).pos,by have:=(h.tm t ht).le; omega⟩⟩
theorem bindOf_none {vs:List Int} {ts:List (List Int)} (hl:vs.length=ts.length) {v:Int} (h:bindOf vs ts v=none):v∉vs:=fun hv=>by
 unfold bindOf at h
 rcases idx_spec (fun x:Int=>decide (x=v)) vs with ⟨h1,hno⟩ | ⟨i,hi,h1,_,_⟩
 · have:=hno v hv; simp at this
 · rw [h1,if_neg (by omega),Int.toNat_natCast,List.getElem?_eq_getElem (by omega)] at h
   cases h
def mgo (l:List Symbol) (t:List Int):List Int→Bnd→Nat→Option (Bnd × Nat)
 | [],b,p=>some (b,p)
 | n::q,b,p =>
   if t.length≤p then none
   else if 0≤n then (if t.getD p 0=n then mgo l t q b (p+1) else none)
   else match bindOf b.1 b.2 (-1 - n) with
    | none=>mgo l t q (bput b (-1 - n) (subAt l t p)) (p+(subAt l t p).length)
    | some o=>if o=subAt l t p then mgo l t q b (p+(subAt l t p).length) else none
structure Both (l:List Symbol) (t q:List Int) (p:Nat) (r:List Int):Prop where
 both:∃ m,skip (ar l) m q=some []∧skip (ar l) m (t.drop p)=some r
theorem Both.start {l:List Symbol} {t q:List Int} (ht:TermOk l t) (hq:TermOk l q) {p:Nat} (hp:p < t.length):Both l t q p (t.drop (endAt l t p)):=⟨1,hq.skip,(sub_split ht hp).2.2⟩
theorem Both.stop {l:List Symbol} {t:List Int} {p:Nat} {r:List Int} (h:Both l t [] p r):t.drop p=r:=by
 obtain ⟨m,h1,h2⟩:=h.both
 obtain ⟨rfl,_⟩:=skip_nil h1
 rw [skip_zero] at h2
 exact Option.some.inj h2
theorem Both.lt {l:List Symbol} {t q:List Int} {n:Int} {p:Nat} {r:List Int} (h:Both l t (n::q) p r):p < t.length:=by
 obtain ⟨m,h1,h2⟩:=h.both
 cases m with
 | zero=>rw [skip_zero] at h1; cases h1
 | succ m =>
   rcases Nat.lt_or_ge p t.length with h | h
   · exact h
   · rw [List.drop_of_length_le h] at h2; cases h2
theorem Both.node {l:List Symbol} {t q:List Int} {n:Int} {p:Nat} {r:List Int} (h:Both l t (n::q) p r) (hn:t.getD p 0=n):Both l t q (p+1) r:=by
 have hp:=h.lt
 obtain ⟨m,h1,h2⟩:=h.both
 cases m with
 | zero=>rw [skip_zero] at h1; cases h1
 | succ m =>
   rw [List.drop_eq_getElem_cons hp,skip,← getD_at hp,hn] at h2
   rw [skip] at h1
   exact ⟨_,h1,h2⟩
theorem Both.var {l:List Symbol} {t q:List Int} {n:Int} {p:Nat} {r:List Int} (ht:TermOk l t) (h:Both l t (n::q) p r) (hn:n < 0):Both l t q (p+(subAt l t p).length) r:=by
 have hp:=h.lt
 obtain ⟨h3,h4,h5⟩:=sub_split ht hp
 obtain ⟨h6,h7,_⟩:=endAt_spec ht hp
 obtain ⟨m,h1,h2⟩:=h.both
 cases m with
 | zero=>rw [skip_zero] at h1; cases h1
 | succ m =>
   rw [skip,ar_neg l hn,Nat.add_zero] at h1
   rw [show m+1=1+m by omega,skip_add,h5] at h2
   refine ⟨m,h1,?_⟩
   rw [h4,show p+(endAt l t p - p)=endAt l t p by omega]
   exact h2
theorem mgo_sub {l:List Symbol} {t:List Int} (ht:TermOk l t) {p:Nat} (hp:p < t.length):∀ (q:List Int) (b:Bnd) (i:Nat),Both l (subAt l t p) q i [] →
 mgo l t q b (p+i)=(mgo l (subAt l t p) q b i).map fun x=>(x.1,p+x.2)
 | [],b,i,h=>rfl
 | n::q,b,i,h=>by
   have hu:=subAt_ok ht hp
   have hi:=h.lt
   obtain ⟨h1,h2,h3,h4⟩:=sub_place ht hp hi
   have n1:¬ t.length≤p+i:=by omega
   have n2:¬ (subAt l t p).length≤i:=by omega
   rw [mgo,mgo,if_neg n1,if_neg n2,h2,h4]
   by_cases hn:0≤n
   · rw [if_pos hn,if_pos hn]
     by_cases e:t.getD (p+i) 0=n
     · rw [if_pos e,if_pos e]
       exact mgo_sub ht hp q b (i+1) (h.node (by rw [h2,e]))
     · rw [if_neg e,if_neg e]; rfl
   · rw [if_neg hn,if_neg hn]
     have hv:=h.var hu (by omega)
     rw [h4] at hv
     cases bindOf b.1 b.2 (-1 - n) with
     | none =>
       have:=mgo_sub ht hp q (bput b (-1 - n) (subAt l t (p+i))) _ hv
       rw [← Nat.add_assoc] at this
       exact this
     | some o =>
       show (if o=_ then _ else none)=Option.map _ (if o=_ then _ else none)
       by_cases e:o=subAt l t (p+i)
       · rw [if_pos e,if_pos e]
         have:=mgo_sub ht hp q b _ hv
         rw [← Nat.add_assoc] at this
         exact this
       · rw [if_neg e,if_neg e]; rfl
theorem mgo_end {l:List Symbol} {t:List Int} (ht:TermOk l t) {r:List Int}:∀ (q:List Int) (b:Bnd) (p k:Nat),Both l t q p r→p≤t.length→MB l b k→k+q.length≤24→(∀ n∈q,nodeOk l n=true)→∀ x,mgo l t q b p=some x→t.drop x.2=r∧x.2≤t.length∧MB l x.1 (k+q.length)
 | [],b,p,k,h,hp,hb,hk,hq,x,hx=>by
   cases hx
   exact ⟨h.stop,hp,by simpa using hb⟩
 | n::q,b,p,k,h,hp,hb,hk,hq,x,hx=>by
   have hlt:=h.lt
   obtain ⟨h6,h7,_⟩:=endAt_spec ht hlt
   have hs:=(sub_split ht hlt).2.1
   rw [mgo,if_neg (by omega)] at hx
   rw [List.length_cons] at hk ⊢
   have e0:k+1+q.length=k+(q.length+1):=by omega
   by_cases hn:0≤n
   · rw [if_pos hn] at hx
     split at hx
     · rename_i e
       have:=mgo_end ht q b (p+1) (k+1) (h.node e) (by omega) (hb.up (by omega)) (by omega) (fun n hn=>hq n (List.mem_cons_of_mem _ hn)) x hx
       rw [e0] at this; exact this
     · cases hx
   · rw [if_neg hn] at hx
     have hnode:=nodeOk_iff.1 (hq n (by simp))
     split at hx
     · have:=mgo_end ht q _ _ (k+1) (h.var ht (by omega)) (by omega) (hb.put (v := -1 - n) (by omega) (subAt_ok ht hlt)) (by omega) (fun n hn=>hq n (List.mem_cons_of_mem _ hn)) x hx
       rw [e0] at this; exact this
     · split at hx
       · have:=mgo_end ht q b _ (k+1) (h.var ht (by omega)) (by omega) (hb.up (by omega)) (by omega) (fun n hn=>hq n (List.mem_cons_of_mem _ hn)) x hx
         rw [e0] at this; exact this
       · cases hx
def matchAt (l:List Symbol) (q t:List Int) (p:Nat):Option Bnd:=(mgo l t q ([],[]) p).map (·.1)
theorem matchAt_sub {l:List Symbol} {q t:List Int} (hq:TermOk l q) (ht:TermOk l t) {p:Nat} (hp:p < t.length):matchAt l q (subAt l t p) 0=matchAt l q t p:=by
 have hu:=subAt_ok ht hp
 have hb:=Both.start hu hq (p:=0) (by have:=hu.pos; omega)
 have he:t.drop p=subAt l t p++t.drop (endAt l t p):=(sub_split ht hp).1
 have e0:(subAt l t p).drop (endAt l (subAt l t p) 0)=[]:=by
  have:=(sub_split hu (p:=0) (by have:=hu.pos; omega)).2.2
  rw [List.drop_zero,hu.skip] at this
  exact (Option.some.inj this).symm
 rw [e0] at hb
 have:=mgo_sub ht hp q ([],[]) 0 hb
 unfold matchAt
 rw [Nat.add_zero] at this
 rw [this]
 cases mgo l (subAt l t p) q ([],[]) 0 <;> rfl
theorem matchAt_ok {l:List Symbol} {q t:List Int} (hq:TermOk l q) (ht:TermOk l t) {p:Nat} (hp:p < t.length) {b:Bnd} (h:matchAt l q t p=some b):MB l b q.length:=by
 unfold matchAt at h
 rw [Option.map_eq_some_iff] at h
 obtain ⟨x,hx,rfl⟩:=h
 have:=(mgo_end ht q ([],[]) p 0 (Both.start ht hq hp) (by omega) (MB.nil l) (by have:=hq.le; omega) hq.node x hx).2.2
 simpa using this
end Ev.Ty
end
section
namespace Ev.Ty
open Go Ev
open Enc (enc)
open Sm (sm)
set_option linter.unusedSimpArgs false
set_option linter.unusedVariables false
section
variable (e:Nat→Nat) (f:Nat→Int)
def downStep (k:Nat) (s:Int × Int):Int × Int:=if s.1 ≥ 0∧e k ≥ e s.1.toNat then s else if f k ≥ 0 then ((k:Int),f k) else s
def down:Nat→Int × Int→Int × Int
 | 0,s=>s
 | k+1,s=>down k (downStep e f k s)
def upStep (s:Int × Int × Int) (k:Nat):Int × Int × Int:=if (e k:Int) > s.2.2 then s else if f k ≥ 0 then ((k:Int),f k,(e k:Int)) else s
def IsBest (lo hi:Nat) (s:Int × Int):Prop :=
 (s=(-1,-1)∧∀ a,lo≤a→a < hi→f a < 0) ∨
  ∃ a,lo≤a∧a < hi∧s=((a:Int),f a)∧f a ≥ 0∧∀ a',lo≤a'→a' < hi→f a' ≥ 0→e a < e a'∨(e a=e a'∧a'≤a)
theorem IsBest.down {k n:Nat} {s:Int × Int} (h:IsBest e f (k+1) n s) (hk:k < n):IsBest e f k n (downStep e f k s):=by
 unfold downStep
 rcases h with ⟨rfl,h⟩ | ⟨a,h1,h2,rfl,h3,h4⟩
 · rw [if_neg (by simp)]
   by_cases hf:f k ≥ 0
   · rw [if_pos hf]
     refine .inr ⟨k,Nat.le_refl _,hk,rfl,hf,fun a' q1 q2 q3 => ?_⟩
     by_cases hak:a'=k
     · subst hak; exact .inr ⟨rfl,Nat.le_refl _⟩
     · have:=h a' (by omega) q2; omega
   · rw [if_neg hf]
     refine .inl ⟨rfl,fun a' q1 q2 => ?_⟩
     by_cases hak:a'=k
     · subst hak; omega
     · exact h a' (by omega) q2
 · by_cases hc:e k ≥ e a
   · rw [if_pos ⟨by simp,by simpa using hc⟩]
     refine .inr ⟨a,by omega,h2,rfl,h3,fun a' q1 q2 q3 => ?_⟩
     by_cases hak:a'=k
     · subst hak
       rcases Nat.lt_or_ge (e a) (e a') with q | q
       · exact .inl q
       · exact .inr ⟨by omega,by omega⟩
     · exact h4 a' (by omega) q2 q3
   · rw [if_neg (by simp only [Int.toNat_natCast]; exact fun h=>hc h.2)]
     by_cases hf:f k ≥ 0
     · rw [if_pos hf]
       refine .inr ⟨k,Nat.le_refl _,hk,rfl,hf,fun a' q1 q2 q3 => ?_⟩
       by_cases hak:a'=k
       · subst hak; exact .inr ⟨rfl,Nat.le_refl _⟩
       · rcases h4 a' (by omega) q2 q3 with q | q <;> exact .inl (by omega)
     · rw [if_neg hf]
       refine .inr ⟨a,by omega,h2,rfl,h3,fun a' q1 q2 q3 => ?_⟩
       by_cases hak:a'=k
       · subst hak; omega
       · exact h4 a' (by omega) q2 q3
theorem down_best (n:Nat):∀ (k:Nat) (s:Int × Int),k≤n→IsBest e f k n s→IsBest e f 0 n (down e f k s)
 | 0,s,_,h=>h
 | k+1,s,hk,h=>down_best n k _ (by omega) (h.down e f (by omega))
theorem IsBest.up {k:Nat} {s:Int × Int × Int} (he:∀ a,e a≤24) (h:IsBest e f 0 k (s.1,s.2.1)) (hs:(s.1 = -1∧s.2.2=25)∨∃ a:Nat,s.1=a∧s.2.2=e a) :
 IsBest e f 0 (k+1) ((upStep e f s k).1,(upStep e f s k).2.1)∧(((upStep e f s k).1 = -1∧(upStep e f s k).2.2=25)∨∃ a:Nat,(upStep e f s k).1=a∧(upStep e f s k).2.2=e a):=by
 have hek:=he k
 obtain ⟨p,r,d⟩:=s
 unfold upStep
 simp only at h hs ⊢
 rcases h with ⟨hp,h⟩ | ⟨a,h1,h2,hp,h3,h4⟩
 · simp only [Prod.mk.injEq] at hp
   obtain ⟨rfl,rfl⟩:=hp
   have hd:d=25:=by
    rcases hs with ⟨_,h⟩ | ⟨a,h,_⟩
    · exact h
    · omega
   subst hd
   rw [if_neg (by omega)]
   by_cases hf:f k ≥ 0
   · rw [if_pos hf]
     refine ⟨.inr ⟨k,by omega,by omega,rfl,hf,fun a' q1 q2 q3 => ?_⟩,.inr ⟨k,rfl,rfl⟩⟩
     by_cases hak:a'=k
     · subst hak; exact .inr ⟨rfl,Nat.le_refl _⟩
     · have:=h a' (by omega) (by omega); omega
   · rw [if_neg hf]
     refine ⟨.inl ⟨rfl,fun a' q1 q2 => ?_⟩,.inl ⟨rfl,rfl⟩⟩
     by_cases hak:a'=k
     · subst hak; omega
     · exact h a' (by omega) (by omega)
 · simp only [Prod.mk.injEq] at hp
   obtain ⟨rfl,rfl⟩:=hp
   have hd:d=e a:=by
    rcases hs with ⟨h,_⟩ | ⟨a',h,h'⟩
    · omega
    · have:a=a':=by omega
      rw [this]; exact h'
   subst hd
   by_cases hc:(e k:Int) > e a
   · rw [if_pos hc]
     refine ⟨.inr ⟨a,by omega,by omega,rfl,h3,fun a' q1 q2 q3 => ?_⟩,.inr ⟨a,rfl,rfl⟩⟩
     by_cases hak:a'=k
     · subst hak; exact .inl (by omega)
     · exact h4 a' (by omega) (by omega) q3
   · rw [if_neg hc]
     by_cases hf:f k ≥ 0
     · rw [if_pos hf]
       refine ⟨.inr ⟨k,by omega,by omega,rfl,hf,fun a' q1 q2 q3 => ?_⟩,.inr ⟨k,rfl,rfl⟩⟩
       by_cases hak:a'=k
       · subst hak; exact .inr ⟨rfl,Nat.le_refl _⟩
       · rcases h4 a' (by omega) (by omega) q3 with q | ⟨q,_⟩
         · exact .inl (by omega)
         · rcases Nat.lt_or_ge (e k) (e a') with q' | q'
           · exact .inl q'
           · exact .inr ⟨by omega,by omega⟩
     · rw [if_neg hf]
       refine ⟨.inr ⟨a,by omega,by omega,rfl,h3,fun a' q1 q2 q3 => ?_⟩,.inr ⟨a,rfl,rfl⟩⟩
       by_cases hak:a'=k
       · subst hak; omega
       · exact h4 a' (by omega) (by omega) q3
theorem IsBest.unique {n:Nat} {s s':Int × Int} (h:IsBest e f 0 n s) (h':IsBest e f 0 n s'):s=s':=by
 rcases h with ⟨rfl,h⟩ | ⟨a,h1,h2,rfl,h3,h4⟩ <;> rcases h' with ⟨rfl,h'⟩ | ⟨b,k1,k2,rfl,k3,k4⟩
 · rfl
 · have:=h b (by omega) k2; omega
 · have:=h' a (by omega) h2; omega
 · have q1:=h4 b (by omega) k2 k3
   have q2:=k4 a (by omega) h2 h3
   have:a=b:=by omega
   rw [this]
def upAll (n:Nat):Int × Int × Int:=(List.range n).foldl (upStep e f) (-1,-1,25)
theorem upAll_best (he:∀ a,e a≤24):∀ n,IsBest e f 0 n ((upAll e f n).1,(upAll e f n).2.1)∧(((upAll e f n).1 = -1∧(upAll e f n).2.2=25)∨∃ a:Nat,(upAll e f n).1=a∧(upAll e f n).2.2=e a)
 | 0=>⟨.inl ⟨rfl,fun a _ h=>by omega⟩,.inl ⟨rfl,rfl⟩⟩
 | n+1=>by
   have ih:=upAll_best he n
   have e0:upAll e f (n+1)=upStep e f (upAll e f n) n:=by unfold upAll; rw [List.range_succ,List.foldl_append]; rfl
   rw [e0]
   exact ih.1.up e f he ih.2
theorem down_up (he:∀ a,e a≤24) (n:Nat):down e f n (-1,-1)=((upAll e f n).1,(upAll e f n).2.1) :=
 (down_best e f n n (-1,-1) (Nat.le_refl _) (.inl ⟨rfl,fun a _ h=>by omega⟩)).unique e f (upAll_best e f he n).1
end
def fits (l:List Symbol) (rs:List Equation) (t:List Int) (p:Nat):Int:=idx (fun e=>(matchAt l e.left t p).isSome) rs
def redex (l:List Symbol) (rs:List Equation) (t:List Int):Int × Int:=down (endAt l t) (fits l rs t) t.length (-1,-1)
theorem endAt_le (l:List Symbol) (t:List Int) (p:Nat):endAt l t p≤t.length:=by
 unfold endAt
 split <;> omega
theorem redex_up {l:List Symbol} {rs:List Equation} {t:List Int} (ht:TermOk l t):redex l rs t=((upAll (endAt l t) (fits l rs t) t.length).1,(upAll (endAt l t) (fits l rs t) t.length).2.1) :=
 down_up _ _ (fun a=>Nat.le_trans (endAt_le l t a) ht.le) _
theorem redex_at {l:List Symbol} {rs:List Equation} {t:List Int}:redex l rs t=(-1,-1)∨∃ a k:Nat,∃ h:k < rs.length,a < t.length∧redex l rs t=((a:Int),(k:Int))∧(matchAt l rs[k].left t a).isSome=true:=by
 rcases down_best (endAt l t) (fits l rs t) t.length t.length (-1,-1) (Nat.le_refl _) (.inl ⟨rfl,fun a _ h=>by omega⟩) with ⟨h,_⟩ | ⟨a,_,h2,h3,h4,_⟩
 · exact .inl h
 · rcases idx_spec (fun e:Equation=>(matchAt l e.left t a).isSome) rs with ⟨h5,_⟩ | ⟨k,hk,h5,h6,_⟩
   · have:fits l rs t a = -1:=h5
     omega
   · have e1:fits l rs t a=(k:Nat):=h5
     exact .inr ⟨a,k,hk,h2,by unfold redex; rw [h3,e1],h6⟩
theorem skip_applied {l:List Symbol} {b:Bnd} {k:Nat} (hb:MB l b k) (hk:k≤24):∀ (q x:List Int) (m:Nat),skip (ar l) m q=some []→skip (ar l) m (applied b.1 b.2 q++x)=some x
 | [],x,m,h=>by
   obtain ⟨rfl,_⟩:=skip_nil h
   rw [skip_zero]; rfl
 | n::q,x,m,h=>by
   cases m with
   | zero=>rw [skip_zero] at h; cases h
   | succ m =>
     rw [skip] at h
     have ih:=skip_applied hb hk q x _ h
     have e:applied b.1 b.2 (n::q)=(bindOf b.1 b.2 (-1 - n)).getD [n]++applied b.1 b.2 q:=by simp [applied]
     rw [e,List.append_assoc]
     cases ho:bindOf b.1 b.2 (-1 - n) with
     | none =>
       show skip (ar l) (m+1) (n::(applied b.1 b.2 q++x))=_
       rw [skip]; exact ih
     | some o =>
       have hn:n < 0:=by
        rcases Int.lt_or_le n 0 with h | h
        · exact h
        · rw [bindOf_neg (hb.ok hk) (by omega)] at ho; cases ho
       rw [ar_neg l hn,Nat.add_zero] at ih
       have ht:=hb.tm o (bindOf_mem ho)
       show skip (ar l) (m+1) (o++(applied b.1 b.2 q++x))=_
       rw [show m+1=1+m by omega,skip_add,skip_append ht.skip]
       exact ih
theorem skip_repl {a:Int→Nat} {y y' z:List Int} (hy:skip a 1 (y++z)=some z) (hy':skip a 1 (y'++z)=some z):∀ (x:List Int) (k:Nat),skip a k (x++(y++z))=some []→skip a k (x++(y'++z))=some []
 | [],0,h=>by
   rw [skip_zero] at h
   rw [List.nil_append] at h
   rw [Option.some.inj h] at hy
   cases hy
 | [],k+1,h=>by
   rw [List.nil_append,show k+1=1+k by omega,skip_add] at h ⊢
   rw [hy] at h
   rw [hy']
   exact h
 | n::x,0,h=>by rw [skip_zero] at h; cases h
 | n::x,k+1,h=>by
   rw [List.cons_append,skip] at h ⊢
   exact skip_repl hy hy' x _ h
theorem applied_node {l:List Symbol} {b:Bnd} {k:Nat} (hb:MB l b k) {q:List Int} (hq:∀ n∈q,nodeOk l n=true):∀ n∈applied b.1 b.2 q,nodeOk l n=true:=fun n hn=>by
 unfold applied at hn
 obtain ⟨m,hm,hn⟩:=List.mem_flatMap.1 hn
 cases ho:bindOf b.1 b.2 (-1 - m) with
 | none=>rw [ho] at hn; rw [List.mem_singleton.1 hn]; exact hq m hm
 | some o=>rw [ho] at hn; exact (hb.tm o (bindOf_mem ho)).node n hn
theorem repl_ok {l:List Symbol} {t q:List Int} (ht:TermOk l t) (hq:TermOk l q) {p:Nat} (hp:p < t.length) {b:Bnd} {k:Nat} (hb:MB l b k) (hk:k≤24) (h:(replAt l t p (applied b.1 b.2 q)).length≤24) :
 TermOk l (replAt l t p (applied b.1 b.2 q)):=by
 obtain ⟨h1,h2,h3⟩:=sub_split ht hp
 have hs:skip (ar l) 1 (replAt l t p (applied b.1 b.2 q))=some []:=by
  unfold replAt
  rw [List.append_assoc]
  refine skip_repl (y:=subAt l t p) (by rw [← h1]; exact h3) (skip_applied hb hk q _ 1 hq.skip) (t.take p) 1 ?_
  rw [← h1,List.take_append_drop]
  exact ht.skip
 refine ⟨?_,h,fun n hn => ?_,hs⟩
 · rcases Nat.eq_zero_or_pos (replAt l t p (applied b.1 b.2 q)).length with h | h
   · rw [List.eq_nil_of_length_eq_zero h] at hs; cases hs
   · exact h
 · unfold replAt at hn
   rcases List.mem_append.1 hn with hn | hn
   · rcases List.mem_append.1 hn with hn | hn
     · exact ht.node n (List.mem_of_mem_take hn)
     · exact applied_node hb hq.node n hn
   · exact ht.node n (List.mem_of_mem_drop hn)
def stepAt (l:List Symbol) (e:Equation) (t:List Int) (p:Nat):TermResult:=match matchAt l e.left t p with
 | none=>⟨4,[]⟩
 | some b=>if 24 < (replAt l t p (applied b.1 b.2 e.right)).length then ⟨2,[]⟩ else ⟨0,replAt l t p (applied b.1 b.2 e.right)⟩
theorem stepAt_ok {l:List Symbol} {e:Equation} {t:List Int} (he:EqOk l e) (ht:TermOk l t) {p:Nat} (hp:p < t.length) (h:(stepAt l e t p).code=0):TermOk l (stepAt l e t p).term:=by
 unfold stepAt at h ⊢
 cases hm:matchAt l e.left t p with
 | none=>rw [hm] at h; cases h
 | some b =>
   rw [hm] at h
   simp only at h ⊢
   split at h
   · cases h
   · rename_i h24
     rw [if_neg h24]
     have hb:=matchAt_ok he.left ht hp hm
     exact repl_ok ht he.right hp hb he.left.le (by omega)
def norm (l:List Symbol) (rs:List Equation):Nat→Nat→List Int→NormalResult
 | 0,k,t=>if (redex l rs t).1 < 0 then ⟨0,t,k⟩ else ⟨9,[],0⟩
 | m+1,k,t=>if (redex l rs t).1 < 0 then ⟨0,t,k⟩ else
   if (stepAt l (rs.getD (redex l rs t).2.toNat ⟨[],[]⟩) t (redex l rs t).1.toNat).code≠0 then ⟨(stepAt l (rs.getD (redex l rs t).2.toNat ⟨[],[]⟩) t (redex l rs t).1.toNat).code,[],0⟩
   else norm l rs m (k+1) (stepAt l (rs.getD (redex l rs t).2.toNat ⟨[],[]⟩) t (redex l rs t).1.toNat).term
def rewriteFault (s:Signature) (rs:List Equation) (t:List Int):Int:=if rulesFault s rs≠0 then rulesFault s rs else termFault0 s.symbols t
def findRedexR (s:Signature) (rs:List Equation) (t:List Int):RedexResult :=
 if rewriteFault s rs t≠0 then ⟨rewriteFault s rs t,0,0⟩ else if (redex s.symbols rs t).1 < 0 then ⟨4,0,0⟩ else ⟨0,(redex s.symbols rs t).1,(redex s.symbols rs t).2⟩
def normalFormR (s:Signature) (rs:List Equation) (t:List Int) (fuel:Int):NormalResult :=
 if rewriteFault s rs t≠0 then ⟨rewriteFault s rs t,[],0⟩ else if inR fuel 0 200=false then ⟨3,[],0⟩ else norm s.symbols rs fuel.toNat 0 t
def areJoinedR (s:Signature) (rs:List Equation) (a b:List Int) (fuel:Int):IntResult :=
 if (normalFormR s rs a fuel).code≠0 then ⟨(normalFormR s rs a fuel).code,0⟩ else if (normalFormR s rs b fuel).code≠0 then ⟨(normalFormR s rs b fuel).code,0⟩ else
  if (normalFormR s rs a fuel).term=(normalFormR s rs b fuel).term then ⟨0,1⟩ else ⟨0,0⟩
end Ev.Ty
end
section
namespace Ev.Ty
open Go Ev
open Enc (enc)
open Sm (sm)
set_option linter.unusedSimpArgs false
set_option linter.unusedVariables false
theorem slices_ContainsFunc_Sint64_at1_impl_isRule_1 (t v:List Int) (hs:t.length≤4294967296) (hv:v.length≤4294967296) :
 Call F.slices_ContainsFunc_Sint64 [slc t,.clo F.impl_isRule_1 [.rref [slc v] 0]] (.bool (t.any fun n=>decide (n∉v))):=by
 have hi:Call F.slices_IndexFunc_Sint64 [slc t,.clo F.impl_isRule_1 [.rref [slc v] 0]] (.int .i64 (idx (fun n=>decide (n∉v)) t)):=by
  refine call_of rfl (t.length+1) ((slices_IndexFunc_Sint64_at1_impl_isRule_1.ev _ _ _).trans ?_)
  refine idx_loop (S:=fun m k=>slices_IndexFunc_Sint64_at1_impl_isRule_1.at0 (t.length+1) m (slices_IndexFunc_Sint64_at1_impl_isRule_1.st0 (cells t) _ _ (k:Nat))) (fun m k h => ?_) (fun m => ?_) (Nat.lt_succ_self _)
  · have hlk:t[k]?=some t[k]:=List.getElem?_eq_getElem h
    have hc:Call F.impl_isRule_1 [.int .i64 t[k],.rref [slc v] 0] (.bool (decide (t[k]∉v))):=by
     refine call_of rfl 0 ((impl_isRule_1.ev _ _ _).trans ?_)
     simp only [evz,Nat.reduceLT,(slices_Contains_Sint64 v t[k] hv).eq,decide_not]
    simp only [slices_IndexFunc_Sint64_at1_impl_isRule_1.next0,slices_IndexFunc_Sint64_at1_impl_isRule_1.round0,evz,Nat.reduceLT,h,hlk,enc_int,hc.eq]
    rw [wrap_succ (by omega)]
    by_cases e:t[k]∈v <;> simp [e]
  · simp only [slices_IndexFunc_Sint64_at1_impl_isRule_1.next0,slices_IndexFunc_Sint64_at1_impl_isRule_1.round0,evz,Nat.reduceLT,Nat.lt_irrefl]
 refine call_of rfl 0 ((slices_ContainsFunc_Sint64_at1_impl_isRule_1.ev _ _ _).trans ?_)
 simp only [evz,Nat.reduceLT,hi.eq,idx_nonneg]
theorem varsOf_term {l:List Symbol} {t:List Int} (h:TermOk l t):Call F.impl_varsOf [.sl 1 [slc t]] (slc (varsOf [t]))∧(varsOf [t]).length≤24:=by
 have hle:=h.le
 have hvl:=varsOf_length [t]
 refine ⟨impl_varsOf [t] (by simp) (fun x hx => ?_) (by simp; omega),by simp at hvl; omega⟩
 simp only [List.mem_cons,List.not_mem_nil,or_false] at hx
 subst hx
 exact ⟨by omega,h.ge⟩
theorem head0 {l:List Symbol} {t:List Int} (h:TermOk l t):t[0]?=some (t.headD 0):=by
 have:=h.pos
 cases t with
 | nil=>simp at this
 | cons x r=>rfl
theorem impl_isRule {l:List Symbol} {a b:List Int} (ha:TermOk l a) (hb:TermOk l b):Call F.impl_isRule [.agg [slc a,slc b]] (.bool (ruleOk ⟨a,b⟩)):=by
 refine call_of rfl 0 ((impl_isRule.ev _ _ _).trans ?_)
 obtain ⟨ca,la⟩:=varsOf_term ha
 obtain ⟨cb,lb⟩:=varsOf_term hb
 have h0:(cells a)[0]?=some (.int .i64 (a.headD 0)):=by
  have:=get0 (l:=a) (k:=1) (i:=0) sz_int
  rw [Nat.zero_mul] at this
  rw [this,head0 ha]; rfl
 have hin:inB 0 ((cells a).length / 1)=true:=by
  rw [cells_div sz_int]
  have:=inB_nat 0 a.length
  have hp:=ha.pos
  rw [show (0:Int)=((0:Nat):Int) from rfl,this]
  exact decide_eq_true hp
 have hc:=slices_ContainsFunc_Sint64_at1_impl_isRule_1 (varsOf [b]) (varsOf [a]) (by omega) (by omega)
 rw [hin,cond_true,h0]
 simp only [evz,Nat.reduceLT,ruleOk]
 have e:((varsOf [b]).any fun n=>decide (n∉varsOf [a]))=b.any fun n=>decide (n < 0∧n∉a):=by
  rw [Bool.eq_iff_iff,List.any_eq_true,List.any_eq_true]
  constructor
  · rintro ⟨v,hv,h⟩
    rw [decide_eq_true_eq] at h
    obtain ⟨v0,t,ht,hm⟩:=mem_varsOf.1 hv
    simp only [List.mem_cons,List.not_mem_nil,or_false] at ht
    subst ht
    refine ⟨-1 - v,hm,?_⟩
    rw [decide_eq_true_eq]
    exact ⟨by omega,fun hn=>h (mem_varsOf.2 ⟨v0,a,by simp,hn⟩)⟩
  · rintro ⟨n,hn,h⟩
    rw [decide_eq_true_eq] at h
    refine ⟨-1 - n,mem_varsOf.2 ⟨by omega,b,by simp,by rw [show -1 - (-1 - n)=n by omega]; exact hn⟩,?_⟩
    rw [decide_eq_true_eq]
    intro hm
    obtain ⟨_,t,ht,hm'⟩:=mem_varsOf.1 hm
    simp only [List.mem_cons,List.not_mem_nil,or_false] at ht
    subst ht
    rw [show -1 - (-1 - n)=n by omega] at hm'
    exact h.2 hm'
 by_cases h1:a.headD 0 < 0
 · have h2:¬ 0≤a.headD 0:=by omega
   simp only [h1,h2,evz,Nat.reduceLT,Bool.false_and]
 · have h2:0≤a.headD 0:=by omega
   simp only [h1,h2,evz,Nat.reduceLT,ca.eq,cb.eq,hc.eq,e,Bool.true_and]
theorem impl_RulesFault (l:List Symbol) (hs:l.length≤4294967296) (es:List Equation) (he:sm 4294967296 es):Call F.impl_RulesFault [.agg [slc l],slc es] (.int .i64 (rulesFault ⟨l⟩ es)):=by
 refine call_of rfl 0 ((impl_RulesFault.ev _ _ _).trans ?_)
 simp only [evz,Nat.reduceLT,(impl_EquationsFault l hs es he).eq,rulesFault,rulesFault0]
 by_cases h1:sigFault ⟨l⟩=0
 case neg=>simp only [h1,evz,Nat.reduceLT,ne_eq,not_false_eq_true]
 simp only [h1,evz,Nat.reduceLT,ne_eq,not_true_eq_false]
 by_cases h2:eqsFault l es=0
 case neg=>simp only [h2,evz,Nat.reduceLT,not_false_eq_true]
 obtain ⟨hlen,hok⟩:=eqsOk_iff.1 h2
 have hi:Call F.slices_IndexFunc_SEquation [slc es,.clo F.impl_RulesFault_1 []] (.int .i64 (idx (fun e => !ruleOk e) es)):=by
  refine call_of rfl (es.length+1) ((slices_IndexFunc_SEquation_at1_impl_RulesFault_1.ev _ _).trans ?_)
  simp only [evz,Nat.reduceLT]
  refine idx_loop (S:=fun m k=>slices_IndexFunc_SEquation_at1_impl_RulesFault_1.at0 (es.length+1) m (slices_IndexFunc_SEquation_at1_impl_RulesFault_1.st0 (cells es) es.length (k:Nat))) (fun m k h => ?_) (fun m => ?_) (Nat.lt_succ_self _)
  · have hlk:es[k]?=some es[k]:=List.getElem?_eq_getElem h
    have ho:=hok es[k] (List.getElem_mem h)
    have hc:Call F.impl_RulesFault_1 [.agg [slc es[k].left,slc es[k].right]] (.bool (!ruleOk es[k])):=by
     refine call_of rfl 0 ((impl_RulesFault_1.ev _ _ _).trans ?_)
     simp only [evz,Nat.reduceLT,(impl_isRule ho.left ho.right).eq]
    simp only [slices_IndexFunc_SEquation_at1_impl_RulesFault_1.next0,slices_IndexFunc_SEquation_at1_impl_RulesFault_1.round0,evz,Nat.reduceLT,h,hlk,enc_Equation,hc.eq]
    rw [wrap_succ (by omega)]
    cases ruleOk es[k] <;> rfl
  · simp only [slices_IndexFunc_SEquation_at1_impl_RulesFault_1.next0,slices_IndexFunc_SEquation_at1_impl_RulesFault_1.round0,evz,Nat.reduceLT,Nat.lt_irrefl]
 have hc:Call F.slices_ContainsFunc_SEquation [slc es,.clo F.impl_RulesFault_1 []] (.bool (es.any fun e => !ruleOk e)):=by
  refine call_of rfl 0 ((slices_ContainsFunc_SEquation_at1_impl_RulesFault_1.ev _ _).trans ?_)
  simp only [evz,Nat.reduceLT,hi.eq,idx_nonneg]
 simp only [h2,evz,Nat.reduceLT,not_true_eq_false,hc.eq]
 cases es.any fun e => !ruleOk e <;> rfl
theorem spec_l3Count (t:List Int) (x:Int) (hl:t.length≤4294967296):Call F.spec_l3Count [slc t,.int .i64 x] (.int .i64 (t.count x:Nat)):=by
 have loop:∀ m k (c:Nat),k≤t.length→t.length < m+k→c≤k →
  spec_l3Count.at0 (t.length+1) m (spec_l3Count.st0 (cells t) x (c:Nat) (k:Nat))=some (.int .i64 ((c+(t.drop k).count x:Nat):Int),[]):=by
  intro m
  induction m with
  | zero=>intros; omega
  | succ m ih =>
    intro k c hk hm hc
    by_cases h:k < t.length
    · have hlk:t[k]?=some t[k]:=List.getElem?_eq_getElem h
      simp only [spec_l3Count.next0,spec_l3Count.round0,evz,Nat.reduceLT,h,hlk,enc_int]
      rw [wrap_succ (by omega),wrap_succ (by omega),List.drop_eq_getElem_cons h,List.count_cons]
      by_cases e:t[k]=x
      · simp only [e,evz,Nat.reduceLT]
        rw [ih (k+1) (c+1) (by omega) (by omega) (by omega)]
        simp
        omega
      · simp only [e,evz,Nat.reduceLT]
        rw [ih (k+1) c (by omega) (by omega) (by omega)]
        simp [e]
    · obtain rfl:k=t.length:=by omega
      simp only [spec_l3Count.next0,spec_l3Count.round0,evz,Nat.reduceLT,Nat.lt_irrefl,List.drop_length,List.count_nil,Nat.add_zero]
 refine call_of rfl (t.length+1) ((spec_l3Count.ev _ _ _).trans ?_)
 have:=loop (t.length+1) 0 0 (by omega) (by omega) (by omega)
 rw [List.drop_zero,Nat.zero_add] at this
 exact this
theorem spec_l8Fault (l:List Symbol) (ok:SigOk ⟨l⟩) (es:List Equation) (he:sm 4294967296 es):Call F.spec_l8Fault [.rref [slc l] 0,slc es] (.int .i64 (rulesFault0 l es)):=by
 refine call_of rfl 25 ((spec_l8Fault.ev _ _ _).trans ?_)
 simp only [evz,Nat.reduceLT,(spec_l5Fault l ok es he).eq,rulesFault0]
 by_cases h2:eqsFault l es=0
 case neg=>simp only [h2,evz,Nat.reduceLT,ne_eq,not_false_eq_true]
 obtain ⟨hlen,hok⟩:=eqsOk_iff.1 h2
 simp only [h2,evz,Nat.reduceLT,ne_eq,not_true_eq_false]
 have inner:∀ (L0:St→R) (k:Nat) (h:k < es.length), 
  spec_l8Fault.at2 25 L0 25 (spec_l8Fault.st2 (cells es) (k:Nat) ((0:Nat):Int))=if (es[k].right.any fun n=>decide (n < 0∧n∉es[k].left))=true then some (.int .i64 1,[]) else L0 (spec_l8Fault.st0 (cells es) ((k+1:Nat):Int)):=fun L0 k h=>by
  have hlk:es[k]?=some es[k]:=List.getElem?_eq_getElem h
  have ho:=hok es[k] (List.getElem_mem h)
  have hle:=ho.right.le
  have hle':=ho.left.le
  refine any_loopL (l:=es[k].right) (p:=fun n=>decide (n < 0∧n∉es[k].left)) (r:=some (.int .i64 1,[])) (S:=fun m j=>spec_l8Fault.at2 25 L0 m (spec_l8Fault.st2 (cells es) (k:Nat) (j:Nat))) (fun m j hj => ?_) (fun m => ?_) (by omega)
  · have hlj:es[k].right[j]?=some es[k].right[j]:=List.getElem?_eq_getElem hj
    simp only [spec_l8Fault.next2,spec_l8Fault.round2,evz,Nat.reduceLT,h,hlk,hj,hlj,enc_Equation,enc_int,(spec_l3Count es[k].left es[k].right[j] (by omega)).eq]
    rw [wrap_succ (by omega)]
    by_cases q1:es[k].right[j] < 0
    · by_cases q2:es[k].right[j]∈es[k].left
      · have q3:0 < es[k].left.count es[k].right[j]:=List.count_pos_iff.2 q2
        have q4:¬ ((es[k].left.count es[k].right[j]:Nat):Int)=0:=by omega
        simp only [q1,q2,q4,evz,Nat.reduceLT,not_true_eq_false,and_false,Bool.false_eq_true]
      · have q3:es[k].left.count es[k].right[j]=0:=List.count_eq_zero.2 q2
        simp only [q1,q2,q3,evz,Nat.reduceLT,not_false_eq_true,and_true,Int.natCast_zero]
    · simp only [q1,evz,Nat.reduceLT,false_and,Bool.false_eq_true]
  · simp only [spec_l8Fault.next2,spec_l8Fault.round2,evz,Nat.reduceLT,h,hlk,enc_Equation,Nat.lt_irrefl]
    rw [wrap_succ (by omega)]
 refine (any_loopL (l:=es) (p:=fun e => !ruleOk e) (r:=some (.int .i64 1,[])) (z:=some (.int .i64 0,[])) (S:=fun m k=>spec_l8Fault.at0 25 m (spec_l8Fault.st0 (cells es) (k:Nat))) (fun m k h => ?_) (fun m => ?_) (show es.length < 25 by omega)).trans ?_
 · have hlk:es[k]?=some es[k]:=List.getElem?_eq_getElem h
   have ho:=hok es[k] (List.getElem_mem h)
   have h0:(cells es[k].left)[0]?=some (.int .i64 (es[k].left.headD 0)):=by
    have:=get0 (l:=es[k].left) (k:=1) (i:=0) sz_int
    rw [Nat.zero_mul] at this
    rw [this,head0 ho.left]; rfl
   have hin:inB 0 es[k].left.length=true:=by
    have:=inB_nat 0 es[k].left.length
    have hp:=ho.left.pos
    rw [show (0:Int)=((0:Nat):Int) from rfl,this]
    exact decide_eq_true hp
   simp only [spec_l8Fault.next0,spec_l8Fault.round0,evz,Nat.reduceLT,h,hlk,enc_Equation,hin,h0,ruleOk]
   by_cases q1:es[k].left.headD 0 < 0
   · have q2:¬ 0≤es[k].left.headD 0:=by omega
     simp only [q1,q2,evz,Nat.reduceLT,Bool.false_and,Bool.not_false]
   · have q2:0≤es[k].left.headD 0:=by omega
     simp only [q1,q2,evz,Nat.reduceLT,Bool.true_and,Bool.not_not]
     exact inner _ k h
 · simp only [spec_l8Fault.next0,spec_l8Fault.round0,evz,Nat.reduceLT,Nat.lt_irrefl]
 · cases es.any fun e => !ruleOk e <;> rfl
end Ev.Ty
end
section
namespace Ev.Ty
open Go Ev
open Enc (enc)
open Sm (sm)
set_option linter.unusedSimpArgs false
set_option linter.unusedVariables false
def startsN (l:List Symbol) (t:List Int):Nat→Nat→List Nat
 | 0,_=>[]
 | n+1,p=>p::startsN l t n (endAt l t p)
def starts (l:List Symbol) (t:List Int) (p:Nat):List Nat:=startsN l t (ar l (t.getD p 0)) (p+1)
theorem startsN_length (l:List Symbol) (t:List Int):∀ n p,(startsN l t n p).length=n
 | 0,_=>rfl
 | n+1,p=>by rw [startsN,List.length_cons,startsN_length l t n]
theorem skip_one {l:List Symbol} {t:List Int} {p n:Nat} {r:List Int} (h:skip (ar l) (n+1) (t.drop p)=some r):p < t.length∧skip (ar l) n (t.drop (endAt l t p))=some r∧p < endAt l t p∧endAt l t p≤t.length:=by
 have hp:p < t.length:=by
  rcases Nat.lt_or_ge p t.length with h1 | h1
  · exact h1
  · rw [List.drop_of_length_le h1] at h; cases h
 rw [show n+1=1+n by omega,skip_add] at h
 cases h1:skip (ar l) 1 (t.drop p) with
 | none=>rw [h1] at h; cases h
 | some q =>
   rw [h1] at h
   have h2:=skip_at h1
   have e:endAt l t p=t.length - q.length:=by unfold endAt; rw [h1]
   have h3:=h2.2.2 (by omega)
   refine ⟨hp,?_,by rw [e]; omega,by rw [e]; omega⟩
   rw [e,← h2.1]
   exact h
theorem startsN_mem {l:List Symbol} {t:List Int}:∀ {n p:Nat} {r:List Int},skip (ar l) n (t.drop p)=some r→∀ q∈startsN l t n p,p≤q∧q < t.length
 | 0,p,r,h,q,hq=>by cases hq
 | n+1,p,r,h,q,hq=>by
   obtain ⟨h1,h2,h3,h4⟩:=skip_one h
   rcases List.mem_cons.1 hq with rfl | hq
   · exact ⟨Nat.le_refl _,h1⟩
   · have:=startsN_mem h2 q hq
     exact ⟨by omega,this.2⟩
theorem args_skip {l:List Symbol} {t:List Int} (ok:TermOk l t) {p:Nat} (hp:p < t.length):∃ r,skip (ar l) (ar l t[p]) (t.drop (p+1))=some r:=by
 obtain ⟨q,hq⟩:=skip_inner (p:=p) ok.skip (by simpa using hp)
 rw [List.drop_eq_getElem_cons hp,skip] at hq
 exact ⟨q,by simpa using hq⟩
theorem starts_mem {l:List Symbol} {t:List Int} (ok:TermOk l t) {p:Nat} (hp:p < t.length) {q:Nat} (hq:q∈starts l t p):p < q∧q < t.length:=by
 obtain ⟨r,hr⟩:=args_skip ok hp
 have hd:t.getD p 0=t[p]:=getD_at hp
 unfold starts at hq
 rw [hd] at hq
 have:=startsN_mem hr q hq
 exact ⟨by omega,this.2⟩
def rank (o:List Int) (n:Int):Int:=idx (fun x=>decide (x=n)) o
def cell (l:List Symbol) (o a b:List Int) (above:Nat→Nat→Bool) (i j:Nat):Bool :=
 if b.getD j 0 < 0 then decide (0≤a.getD i 0)&&decide (b.getD j 0∈subAt l a i)
 else if a.getD i 0 < 0 then false
 else if (starts l a i).any (fun p=>decide (subAt l a p=subAt l b j)||above p j) then true
 else if rank o (a.getD i 0) < rank o (b.getD j 0) then false
 else if (starts l b j).any (fun q => !above i q) then false
 else if rank o (b.getD j 0) < rank o (a.getD i 0) then true
 else match ((starts l a i).zip (starts l b j)).find? fun x => !decide (subAt l a x.1=subAt l b x.2) with
  | some x=>above x.1 x.2
  | none=>false
theorem cell_congr {l:List Symbol} {o a b:List Int} (ha:TermOk l a) (hb:TermOk l b) {f g:Nat→Nat→Bool} {i j:Nat} (hi:i < a.length) (hj:j < b.length)
 (h:∀ p q,i≤p→j≤q→p < a.length→q < b.length→(i < p∨j < q)→f p q=g p q):cell l o a b f i j=cell l o a b g i j:=by
 have h1:(starts l a i).any (fun p=>decide (subAt l a p=subAt l b j)||f p j)=(starts l a i).any (fun p=>decide (subAt l a p=subAt l b j)||g p j):=by
  rw [Bool.eq_iff_iff,List.any_eq_true,List.any_eq_true]
  constructor
  · rintro ⟨p,hp,h1⟩
    have:=starts_mem ha hi hp
    exact ⟨p,hp,by rw [← h p j (by omega) (Nat.le_refl _) this.2 hj (.inl this.1)]; exact h1⟩
  · rintro ⟨p,hp,h1⟩
    have:=starts_mem ha hi hp
    exact ⟨p,hp,by rw [h p j (by omega) (Nat.le_refl _) this.2 hj (.inl this.1)]; exact h1⟩
 have h2:(starts l b j).any (fun q => !f i q)=(starts l b j).any (fun q => !g i q):=by
  rw [Bool.eq_iff_iff,List.any_eq_true,List.any_eq_true]
  constructor
  · rintro ⟨p,hp,h1⟩
    have:=starts_mem hb hj hp
    exact ⟨p,hp,by rw [← h i p (Nat.le_refl _) (by omega) hi this.2 (.inr this.1)]; exact h1⟩
  · rintro ⟨p,hp,h1⟩
    have:=starts_mem hb hj hp
    exact ⟨p,hp,by rw [h i p (Nat.le_refl _) (by omega) hi this.2 (.inr this.1)]; exact h1⟩
 unfold cell
 rw [h1,h2]
 cases hf:((starts l a i).zip (starts l b j)).find? fun x => !decide (subAt l a x.1=subAt l b x.2) with
 | none=>rfl
 | some x =>
   have hm:=List.mem_of_find?_eq_some hf
   have hm1:=starts_mem ha hi (List.of_mem_zip hm).1
   have hm2:=starts_mem hb hj (List.of_mem_zip hm).2
   simp only [h x.1 x.2 (by omega) (by omega) hm1.2 hm2.2 (.inl hm1.1)]
def gtN (l:List Symbol) (o a b:List Int):Nat→Nat→Nat→Bool
 | 0,_,_=>false
 | n+1,i,j=>cell l o a b (gtN l o a b n) i j
def gt (l:List Symbol) (o a b:List Int) (i j:Nat):Bool:=gtN l o a b (a.length+b.length+1) i j
theorem gtN_stable {l:List Symbol} {o a b:List Int} (ha:TermOk l a) (hb:TermOk l b):∀ (d n m i j:Nat),i < a.length→j < b.length→(a.length - i)+(b.length - j)≤d→d < n→d < m→gtN l o a b n i j=gtN l o a b m i j:=by
 intro d
 induction d with
 | zero=>intros; omega
 | succ d ih =>
   intro n m i j hi hj hd hn hm
   obtain ⟨n,rfl⟩:∃ q,n=q+1:=⟨n - 1,by omega⟩
   obtain ⟨m,rfl⟩:∃ q,m=q+1:=⟨m - 1,by omega⟩
   rw [gtN,gtN]
   exact cell_congr ha hb hi hj fun p q h1 h2 h3 h4 h5=>ih n m p q h3 h4 (by omega) (by omega) (by omega)
theorem gt_eq {l:List Symbol} {o a b:List Int} (ha:TermOk l a) (hb:TermOk l b) {i j:Nat} (hi:i < a.length) (hj:j < b.length):gt l o a b i j=cell l o a b (gt l o a b) i j:=by
 show gtN l o a b (a.length+b.length+1) i j=_
 rw [gtN]
 exact cell_congr ha hb hi hj fun p q h1 h2 h3 h4 h5=>gtN_stable ha hb ((a.length - p)+(b.length - q)) _ _ p q h3 h4 (Nat.le_refl _) (by omega) (by omega)
def ints (l:List Nat):List Int:=l.map fun (n:Nat)=>(n:Int)
section
variable {l:List Symbol} (ok:SigOk ⟨l⟩)
include ok
theorem impl_argumentsOf {t:List Int} (ht:TermOk l t) {p:Nat} (hp:p < t.length):Call F.impl_argumentsOf [.agg [slc l],slc t,.int .i64 p] (slc (ints (starts l t p))):=by
 have hle:=ht.le
 have har:=ar_le (l:=l) ok t[p]
 refine call_of rfl 4 ((impl_argumentsOf.ev _ _ _ _).trans ?_)
 simp only [evz,Nat.reduceLT,hp,List.getElem?_eq_getElem,enc_int,(impl_arityOf ok t[p] (ht.node _ (List.getElem_mem hp))).eq]
 rw [wrap_succ (by omega)]
 have loop:∀ n k q f (out:List Int) r,k+n=ar l t[p]→n < f→skip (ar l) n (t.drop q)=some r→out.length=k →
  impl_argumentsOf.at0 4 f (impl_argumentsOf.st0 (cells t) (q:Nat) (ar l t[p]:Nat) (k:Nat) (cells l) (cells out))=some (slc (out++ints (startsN l t n q)),[]):=by
  intro n
  induction n with
  | zero =>
    intro k q f out r hk hf hs ho
    obtain ⟨f,rfl⟩:∃ x,f=x+1:=⟨f - 1,by omega⟩
    have:¬ k < ar l t[p]:=by omega
    simp only [impl_argumentsOf.next0,impl_argumentsOf.round0,evz,Nat.reduceLT,this,startsN,ints,List.map_nil,List.append_nil]
  | succ n ih =>
    intro k q f out r hk hf hs ho
    obtain ⟨f,rfl⟩:∃ x,f=x+1:=⟨f - 1,by omega⟩
    obtain ⟨h1,h2,h3,h4⟩:=skip_one hs
    have hlt:k < ar l t[p]:=by omega
    simp only [impl_argumentsOf.next0,impl_argumentsOf.round0,evz,Nat.reduceLT,hlt,(endOf_at ok ht h1).eq,cells_snoc_int]
    rw [cond_pos (ble_ok (by rw [cells_length,sz_int]; omega)),wrap_succ (by omega)]
    by_cases hn:n=0
    · subst hn
      obtain ⟨f,rfl⟩:∃ x,f=x+1:=⟨f - 1,by omega⟩
      have:¬ k+1 < ar l t[p]:=by omega
      simp only [impl_argumentsOf.next0,impl_argumentsOf.round0,evz,Nat.reduceLT,this,startsN,ints,List.map_nil,List.map_cons]
    · rw [ih (k+1) (endAt l t q) f (out++[(q:Int)]) r (by omega) (by omega) h2 (by simp [ho])]
      simp [startsN,ints]
 obtain ⟨r,hr⟩:=args_skip ht hp
 have hd:t.getD p 0=t[p]:=getD_at hp
 have:=loop (ar l t[p]) 0 (p+1) 4 [] r (by omega) (by omega) hr (by simp)
 unfold starts
 rw [hd]
 simpa using this
end
theorem mpAt_map:∀ (l:List (Int × Int × Bool)) (a b:Int) (i j:Nat),(mpAt l a b i).map (·.2)=(mpAt l a b j).map (·.2)
 | [],_,_,_,_=>rfl
 | (x,y,v)::r,a,b,i,j=>by
   rw [mpAt,mpAt]
   cases (a == x&&b == y) with
   | true=>rfl
   | false=>exact mpAt_map r a b (i+1) (j+1)
theorem mpFind_cons (x y:Int) (v:Bool) (r:List (Int × Int × Bool)) (a b:Int):mpFind ((x,y,v)::r) a b=bif a == x&&b == y then some v else mpFind r a b:=by
 unfold mpFind
 rw [mpAt]
 cases (a == x&&b == y) with
 | true=>rfl
 | false=>exact mpAt_map r a b 1 0
theorem mpFind_put:∀ (l:List (Int × Int × Bool)) (x y:Int) (v:Bool) (a b:Int),mpFind (mpPut l x y v) a b=bif a == x&&b == y then some v else mpFind l a b
 | [],x,y,v,a,b=>by rw [mpPut,mpFind_cons]
 | (x',y',v')::r,x,y,v,a,b=>by
   rw [mpPut]
   cases h:(x == x'&&y == y') with
   | true =>
     simp only [Bool.and_eq_true,beq_iff_eq] at h
     obtain ⟨rfl,rfl⟩:=h
     rw [cond_true,mpFind_cons,mpFind_cons]
     cases (a == x&&b == y) <;> rfl
   | false =>
     rw [cond_false,mpFind_cons,mpFind_cons,mpFind_put r]
     cases h1:(a == x'&&b == y') with
     | false=>rfl
     | true =>
       cases h2:(a == x&&b == y) with
       | false=>rfl
       | true =>
         simp only [Bool.and_eq_true,beq_iff_eq] at h1 h2
         obtain ⟨rfl,rfl⟩:=h1
         obtain ⟨rfl,rfl⟩:=h2
         simp at h
def Good (l:List Symbol) (o a b:List Int) (m:List (Int × Int × Bool)):Prop:=∀ (p q:Nat) (v:Bool),mpFind m p q=some v→v=gt l o a b p q
theorem Good.put {l:List Symbol} {o a b:List Int} {m:List (Int × Int × Bool)} (h:Good l o a b m) (i j:Nat):Good l o a b (mpPut m i j (gt l o a b i j)):=fun p q v hv=>by
 rw [mpFind_put] at hv
 cases hc:(((p:Int) == (i:Int))&&((q:Int) == (j:Int))) with
 | true =>
   rw [hc,cond_true] at hv
   simp only [Bool.and_eq_true,beq_iff_eq,Int.ofNat_inj] at hc
   obtain ⟨rfl,rfl⟩:=hc
   exact (Option.some.inj hv).symm
 | false=>rw [hc,cond_false] at hv; exact h p q v hv
abbrev boxI (l:List Symbol) (o a b:List Int) (m:List (Int × Int × Bool)):T := .rref [slc l,slc o,slc a,slc b,.mp m] 0
abbrev boxO (l:List Symbol) (o a b:List Int) (m:List (Int × Int × Bool)):T := .agg [slc l,slc o,slc a,slc b,.mp m]
theorem subAt_length (l:List Symbol) (t:List Int) (p:Nat):(subAt l t p).length≤t.length:=by simp [subAt]; omega
section
variable {l:List Symbol} (ok:SigOk ⟨l⟩) {o a b:List Int} (ha:TermOk l a) (hb:TermOk l b)
include ok ha hb
theorem impl_comparer_same (m:List (Int × Int × Bool)) {p q:Nat} (hp:p < a.length) (hq:q < b.length) :
 LIM F.impl_comparer_same [boxI l o a b m,.int .i64 p,.int .i64 q]=some (.bool (decide (subAt l a p=subAt l b q)),[boxO l o a b m]):=by
 refine call2_of rfl 0 ((impl_comparer_same.ev _ _ _ _ _ _ _ _).trans ?_)
 have h1:=subAt_length l a p
 have h2:=ha.le
 simp only [evz,Nat.reduceLT,(impl_subterm ok ha hp).eq,(impl_subterm ok hb hq).eq,(slices_Equal_Sint64 (subAt l a p) (subAt l b q) (⟨by omega,fun _ _=>trivial⟩)).eq]
omit ok ha hb in
theorem idx_bound (p:Int→Bool) (l:List Int) : -1≤idx p l∧idx p l≤l.length:=by
 rcases idx_spec p l with ⟨h,_⟩ | ⟨i,hi,h,_⟩ <;> omega
def Knows (l:List Symbol) (o a b:List Int) (i j:Nat):Prop:=∀ m,Good l o a b m→∃ m',Good l o a b m' ∧
 LIM F.impl_comparer_greater [boxI l o a b m,.int .i64 i,.int .i64 j]=some (.bool (gt l o a b i j),[boxO l o a b m'])
omit ok ha hb in
theorem ints_get {A:List Nat} {k:Nat} (h:k < A.length):(ints A)[k]?=some ((A[k]:Nat):Int):=by simp [ints,h]
omit ok ha hb in
theorem ints_length (A:List Nat):(ints A).length=A.length:=by simp [ints]
theorem loop4 {A B:List Nat} (hA:∀ p∈A,p < a.length) (hB:∀ q∈B,q < b.length) (hAB:A.length=B.length) (hle:A.length≤2) (ih:∀ p∈A,∀ q∈B,Knows l o a b p q) :
 ∀ n k f m,k+n=A.length→n < f→Good l o a b m→∃ m',Good l o a b m' ∧
  impl_comparer_isGreater.at4 8 f (impl_comparer_isGreater.st4 (A.length:Nat) (k:Nat) (cells l) (cells o) (cells a) (cells b) m (cells (ints A)) (cells (ints B))) =
   some (.bool (match ((A.drop k).zip (B.drop k)).find? fun x => !decide (subAt l a x.1=subAt l b x.2) with | some x=>gt l o a b x.1 x.2 | none=>false),[boxO l o a b m']):=by
 intro n
 induction n with
 | zero =>
   intro k f m hk hf hm
   obtain ⟨f,rfl⟩:∃ x,f=x+1:=⟨f - 1,by omega⟩
   have:¬ k < A.length:=by omega
   refine ⟨m,hm,?_⟩
   simp only [impl_comparer_isGreater.next4,impl_comparer_isGreater.round4,evz,Nat.reduceLT,this,List.drop_of_length_le (show A.length≤k by omega),List.zip_nil_left,List.find?_nil]
 | succ n ihn =>
   intro k f m hk hf hm
   obtain ⟨f,rfl⟩:∃ x,f=x+1:=⟨f - 1,by omega⟩
   have hkA:k < A.length:=by omega
   have hkB:k < B.length:=by omega
   have hs:=impl_comparer_same ok ha hb (o:=o) m (hA _ (List.getElem_mem hkA)) (hB _ (List.getElem_mem hkB))
   rw [List.drop_eq_getElem_cons hkA,List.drop_eq_getElem_cons hkB,List.zip_cons_cons,List.find?_cons]
   by_cases e:subAt l a A[k]=subAt l b B[k]
   · obtain ⟨m',hm',h'⟩:=ihn (k+1) f m (by omega) (by omega) hm
     refine ⟨m',hm',?_⟩
     simp only [impl_comparer_isGreater.next4,impl_comparer_isGreater.round4,evz,Nat.reduceLT,hkA,hkB,ints_get,ints_length,enc_int,hs,e,T.isMp,T.mpL,Bool.not_true]
     rw [wrap_succ (by omega)]
     exact h'
   · obtain ⟨m',hm',h'⟩:=ih _ (List.getElem_mem hkA) _ (List.getElem_mem hkB) m hm
     refine ⟨m',hm',?_⟩
     simp only [impl_comparer_isGreater.next4,impl_comparer_isGreater.round4,evz,Nat.reduceLT,hkA,hkB,ints_get,ints_length,enc_int,hs,e,T.isMp,T.mpL,Bool.not_false,h']
omit ok ha hb in
theorem loop2 {i:Nat} {A B:List Nat} {above:Int} {Rest:List (Int × Int × Bool)→R} (hle:B.length≤2) (ih:∀ q∈B,Knows l o a b i q)
 (hrest:∀ f m,impl_comparer_isGreater.at2 8 (f+1) (impl_comparer_isGreater.st2 (i:Nat) above (B.length:Nat) (B.length:Nat) (cells l) (cells o) (cells a) (cells b) m (cells (ints A)) (cells (ints B)))=Rest m) :
 ∀ n k f m,k+n=B.length→n < f→Good l o a b m→∃ m',Good l o a b m' ∧
  impl_comparer_isGreater.at2 8 f (impl_comparer_isGreater.st2 (i:Nat) above (B.length:Nat) (k:Nat) (cells l) (cells o) (cells a) (cells b) m (cells (ints A)) (cells (ints B))) =
   if (B.drop k).any (fun q => !gt l o a b i q) then some (.bool false,[boxO l o a b m']) else Rest m':=by
 intro n
 induction n with
 | zero =>
   intro k f m hk hf hm
   obtain ⟨f,rfl⟩:∃ x,f=x+1:=⟨f - 1,by omega⟩
   obtain rfl:k=B.length:=by omega
   refine ⟨m,hm,?_⟩
   rw [hrest,List.drop_of_length_le (Nat.le_refl _)]; rfl
 | succ n ihn =>
   intro k f m hk hf hm
   obtain ⟨f,rfl⟩:∃ x,f=x+1:=⟨f - 1,by omega⟩
   have hkB:k < B.length:=by omega
   obtain ⟨m1,hm1,h1⟩:=ih _ (List.getElem_mem hkB) m hm
   rw [List.drop_eq_getElem_cons hkB,List.any_cons]
   cases e:gt l o a b i B[k] with
   | false =>
     refine ⟨m1,hm1,?_⟩
     simp only [impl_comparer_isGreater.next2,impl_comparer_isGreater.round2,evz,Nat.reduceLT,hkB,ints_get,ints_length,enc_int,h1,e,T.isMp,T.mpL,Bool.not_false,Bool.true_or]
   | true =>
     obtain ⟨m',hm',h'⟩:=ihn (k+1) f m1 (by omega) (by omega) hm1
     refine ⟨m',hm',?_⟩
     simp only [impl_comparer_isGreater.next2,impl_comparer_isGreater.round2,evz,Nat.reduceLT,hkB,ints_get,ints_length,enc_int,h1,e,T.isMp,T.mpL,Bool.not_true,Bool.false_or]
     rw [wrap_succ (by omega)]
     exact h'
theorem loop0 {i j:Nat} {x y:Int} {A B:List Nat} {Rest:List (Int × Int × Bool)→R} (hj:j < b.length) (hA:∀ p∈A,p < a.length) (hle:A.length≤2) (ih:∀ p∈A,Knows l o a b p j)
 (hrest:∀ f m,impl_comparer_isGreater.at0 8 (f+1) (impl_comparer_isGreater.st0 (i:Nat) (j:Nat) x y (A.length:Nat) (A.length:Nat) (cells l) (cells o) (cells a) (cells b) m (cells (ints A)) (cells (ints B)))=Rest m) :
 ∀ n k f m,k+n=A.length→n < f→Good l o a b m→∃ m',Good l o a b m' ∧
  impl_comparer_isGreater.at0 8 f (impl_comparer_isGreater.st0 (i:Nat) (j:Nat) x y (A.length:Nat) (k:Nat) (cells l) (cells o) (cells a) (cells b) m (cells (ints A)) (cells (ints B))) =
   if (A.drop k).any (fun p=>decide (subAt l a p=subAt l b j)||gt l o a b p j) then some (.bool true,[boxO l o a b m']) else Rest m':=by
 intro n
 induction n with
 | zero =>
   intro k f m hk hf hm
   obtain ⟨f,rfl⟩:∃ x,f=x+1:=⟨f - 1,by omega⟩
   obtain rfl:k=A.length:=by omega
   refine ⟨m,hm,?_⟩
   rw [hrest,List.drop_of_length_le (Nat.le_refl _)]; rfl
 | succ n ihn =>
   intro k f m hk hf hm
   obtain ⟨f,rfl⟩:∃ x,f=x+1:=⟨f - 1,by omega⟩
   have hkA:k < A.length:=by omega
   have hs:=impl_comparer_same ok ha hb (o:=o) m (hA _ (List.getElem_mem hkA)) hj
   rw [List.drop_eq_getElem_cons hkA,List.any_cons]
   by_cases e:subAt l a A[k]=subAt l b j
   · refine ⟨m,hm,?_⟩
     simp only [impl_comparer_isGreater.next0,impl_comparer_isGreater.round0,evz,Nat.reduceLT,hkA,ints_get,ints_length,enc_int,hs,e,T.isMp,T.mpL,Bool.true_or]
   · obtain ⟨m1,hm1,h1⟩:=ih _ (List.getElem_mem hkA) m hm
     cases e2:gt l o a b A[k] j with
     | true =>
       refine ⟨m1,hm1,?_⟩
       simp only [impl_comparer_isGreater.next0,impl_comparer_isGreater.round0,evz,Nat.reduceLT,hkA,ints_get,ints_length,enc_int,hs,e,h1,e2,T.isMp,T.mpL,Bool.true_or,Bool.or_true]
     | false =>
       obtain ⟨m',hm',h'⟩:=ihn (k+1) f m1 (by omega) (by omega) hm1
       refine ⟨m',hm',?_⟩
       simp only [impl_comparer_isGreater.next0,impl_comparer_isGreater.round0,evz,Nat.reduceLT,hkA,ints_get,ints_length,enc_int,hs,e,h1,e2,T.isMp,T.mpL,Bool.false_or,Bool.or_false]
       rw [wrap_succ (by omega)]
       exact h'
omit ok ha hb in
theorem rank_inj {x y:Int} (hx:x∈o) (h:rank o x=rank o y):x=y:=by
 unfold rank at h
 rcases idx_spec (fun z:Int=>decide (z=x)) o with ⟨h1,hno⟩ | ⟨i,hi,h1,hy1,_⟩
 · have:=hno x hx; simp at this
 · rcases idx_spec (fun z:Int=>decide (z=y)) o with ⟨h2,_⟩ | ⟨i',hi',h2,hy2,_⟩
   · omega
   · have:i=i':=by omega
     subst this
     simp at hy1 hy2
     rw [← hy1,← hy2]
omit ok ha hb in
theorem starts_le (ok:SigOk ⟨l⟩) (t:List Int) (p:Nat):(starts l t p).length≤2:=by
 unfold starts; rw [startsN_length]; exact ar_le ok _
theorem impl_comparer_isGreater (hol:o.length≤1048576) (ho:∀ n:Int,0≤n→n < l.length→n∈o) {i j:Nat} (hi:i < a.length) (hj:j < b.length)
 (ih:∀ p q,i≤p→j≤q→p < a.length→q < b.length→(i < p∨j < q)→Knows l o a b p q) (m:List (Int × Int × Bool)) (hm:Good l o a b m):∃ m',Good l o a b m' ∧
  LIM F.impl_comparer_isGreater [boxI l o a b m,.int .i64 i,.int .i64 j]=some (.bool (cell l o a b (gt l o a b) i j),[boxO l o a b m']):=by
 have hai:a.getD i 0=a[i]:=getD_at hi
 have hbj:b.getD j 0=b[j]:=getD_at hj
 have hla:=ha.le
 have hlb:=hb.le
 have hsl:=subAt_length l a i
 unfold cell
 rw [hai,hbj]
 by_cases hy:b[j] < 0
 · refine ⟨m,hm,call2_of rfl 8 ((impl_comparer_isGreater.ev _ _ _ _ _ _ _ _).trans ?_)⟩
   by_cases hx:0≤a[i]
   · have hx':a[i] ≥ 0:=hx
     simp only [evz,Nat.reduceLT,hi,hj,List.getElem?_eq_getElem,enc_int,hy,hx',hx,(impl_subterm ok ha hi).eq,(slices_Contains_Sint64 (subAt l a i) b[j] (by omega)).eq,Bool.true_and]
   · have hx':¬ a[i] ≥ 0:=hx
     simp only [evz,Nat.reduceLT,hi,hj,List.getElem?_eq_getElem,enc_int,hy,hx',hx,Bool.false_and]
 by_cases hx:a[i] < 0
 · refine ⟨m,hm,call2_of rfl 8 ((impl_comparer_isGreater.ev _ _ _ _ _ _ _ _).trans ?_)⟩
   simp only [evz,Nat.reduceLT,hi,hj,List.getElem?_eq_getElem,enc_int,hy,hx]
 have hA:∀ p∈starts l a i,i < p∧p < a.length:=fun p hp=>starts_mem ha hi hp
 have hB:∀ q∈starts l b j,j < q∧q < b.length:=fun q hq=>starts_mem hb hj hq
 have hAl:=starts_le ok a i
 have hBl:=starts_le ok b j
 have rx : -1≤rank o a[i]∧rank o a[i]≤o.length:=idx_bound _ o
 have ry : -1≤rank o b[j]∧rank o b[j]≤o.length:=idx_bound _ o
 have ix:Call F.slices_Index_Sint64 [slc o,.int .i64 a[i]] (.int .i64 (rank o a[i])):=slices_Index_Sint64 o a[i] (by omega)
 have iy:Call F.slices_Index_Sint64 [slc o,.int .i64 b[j]] (.int .i64 (rank o b[j])):=slices_Index_Sint64 o b[j] (by omega)
 have hw:IntKind.wrap .i64 (rank o a[i] - rank o b[j])=rank o a[i] - rank o b[j]:=wrap64 (by omega)
 generalize hAA:starts l a i=A at hA hAl
 generalize hBB:starts l b j=B at hB hBl
 let Rest2:List (Int × Int × Bool)→R:=fun m=>if rank o b[j] < rank o a[i] then some (.bool true,[boxO l o a b m]) else
  impl_comparer_isGreater.at4 8 8 (impl_comparer_isGreater.st4 (A.length:Nat) 0 (cells l) (cells o) (cells a) (cells b) m (cells (ints A)) (cells (ints B)))
 let Rest0:List (Int × Int × Bool)→R:=fun m=>if rank o a[i] < rank o b[j] then some (.bool false,[boxO l o a b m]) else
  impl_comparer_isGreater.at2 8 8 (impl_comparer_isGreater.st2 (i:Nat) (rank o a[i] - rank o b[j]) (B.length:Nat) 0 (cells l) (cells o) (cells a) (cells b) m (cells (ints A)) (cells (ints B)))
 obtain ⟨m0,hm0,e0⟩:=loop0 ok ha hb (o:=o) (i:=i) (j:=j) (x:=a[i]) (y:=b[j]) (A:=A) (B:=B) (Rest:=Rest0) hj (fun p hp=>(hA p hp).2) hAl
  (fun p hp=>ih p j (by have:=hA p hp; omega) (Nat.le_refl _) (hA p hp).2 hj (.inl (hA p hp).1)) (fun f m=>by
   simp only [impl_comparer_isGreater.next0,impl_comparer_isGreater.round0,evz,Nat.reduceLT,Nat.lt_irrefl,ix.eq,iy.eq,hw,ints_length,Rest0]
   by_cases hr:rank o a[i] < rank o b[j]
   · rw [if_pos (by omega),if_pos hr]
   · rw [if_neg (by omega),if_neg hr]) A.length 0 8 m (by omega) (by omega) hm
 have hmain:callK prog Ev.A H LIM 8 F.impl_comparer_isGreater [boxI l o a b m,.int .i64 i,.int .i64 j]=if A.any (fun p=>decide (subAt l a p=subAt l b j)||gt l o a b p j)=true then some (.bool true,[boxO l o a b m0]) else Rest0 m0:=by
  refine (impl_comparer_isGreater.ev _ _ _ _ _ _ _ _).trans ?_
  simp only [evz,Nat.reduceLT,hi,hj,List.getElem?_eq_getElem,enc_int,hy,hx,(impl_argumentsOf ok ha hi).eq,(impl_argumentsOf ok hb hj).eq,hAA,hBB,ints_length]
  simpa using e0
 by_cases c1:A.any (fun p=>decide (subAt l a p=subAt l b j)||gt l o a b p j)=true
 · refine ⟨m0,hm0,call2_of rfl 8 (hmain.trans ?_)⟩
   simp only [c1,hy,hx,if_true,if_false]
 rw [if_neg c1] at hmain
 by_cases c2:rank o a[i] < rank o b[j]
 · refine ⟨m0,hm0,call2_of rfl 8 (hmain.trans ?_)⟩
   simp only [Rest0,c1,c2,hy,hx,if_true,if_false]
   rfl
 obtain ⟨m2,hm2,e2⟩:=loop2 (o:=o) (a:=a) (b:=b) (l:=l) (i:=i) (A:=A) (B:=B) (above:=rank o a[i] - rank o b[j]) (Rest:=Rest2) hBl
  (fun q hq=>ih i q (Nat.le_refl _) (by have:=hB q hq; omega) hi (hB q hq).2 (.inr (hB q hq).1)) (fun f m=>by
   simp only [impl_comparer_isGreater.next2,impl_comparer_isGreater.round2,evz,Nat.reduceLT,Nat.lt_irrefl,ints_length,Rest2]
   by_cases hr:rank o b[j] < rank o a[i]
   · rw [if_pos (by omega),if_pos hr]
   · rw [if_neg (by omega),if_neg hr]) B.length 0 8 m0 (by omega) (by omega) hm0
 have hmain2:callK prog Ev.A H LIM 8 F.impl_comparer_isGreater [boxI l o a b m,.int .i64 i,.int .i64 j]=if B.any (fun q => !gt l o a b i q)=true then some (.bool false,[boxO l o a b m2]) else Rest2 m2:=by
  rw [hmain]
  simp only [Rest0,if_neg c2]
  simpa using e2
 by_cases c3:B.any (fun q => !gt l o a b i q)=true
 · refine ⟨m2,hm2,call2_of rfl 8 (hmain2.trans ?_)⟩
   simp only [c1,c2,c3,hy,hx,if_true,if_false]
   rfl
 rw [if_neg c3] at hmain2
 by_cases c4:rank o b[j] < rank o a[i]
 · refine ⟨m2,hm2,call2_of rfl 8 (hmain2.trans ?_)⟩
   simp only [Rest2,c1,c2,c3,c4,hy,hx,if_true,if_false]
   rfl
 have hxy:a[i]=b[j]:=by
  have n1:=nodeOk_iff.1 (ha.node _ (List.getElem_mem hi))
  have n2:=nodeOk_iff.1 (hb.node _ (List.getElem_mem hj))
  exact rank_inj (ho _ (by omega) (by omega)) (by omega)
 have hAB:A.length=B.length:=by
  rw [← hAA,← hBB]; unfold starts
  rw [startsN_length,startsN_length,hai,hbj,hxy]
 obtain ⟨m4,hm4,e4⟩:=loop4 ok ha hb (o:=o) (A:=A) (B:=B) (fun p hp=>(hA p hp).2) (fun q hq=>(hB q hq).2) hAB hAl
  (fun p hp q hq=>ih p q (by have:=hA p hp; omega) (by have:=hB q hq; omega) (hA p hp).2 (hB q hq).2 (.inl (hA p hp).1)) A.length 0 8 m2 (by omega) (by omega) hm2
 refine ⟨m4,hm4,call2_of rfl 8 (hmain2.trans ?_)⟩
 simp only [Rest2,c1,c2,c3,c4,hy,hx,if_true,if_false]
 simpa using e4
theorem knows (hol:o.length≤1048576) (ho:∀ n:Int,0≤n→n < l.length→n∈o):∀ (d i j:Nat),i < a.length→j < b.length→(a.length - i)+(b.length - j)≤d→Knows l o a b i j:=by
 intro d
 induction d with
 | zero=>intros; omega
 | succ d ihd =>
   intro i j hi hj hd m hm
   cases hf:mpFind m (i:Int) (j:Int) with
   | some v =>
     refine ⟨m,hm,call2_of rfl 0 ((impl_comparer_greater.ev _ _ _ _ _ _ _ _).trans ?_)⟩
     have:=hm i j v hf
     simp only [hf,Option.isSome_some,Option.getD_some,cond_true,this,sl_cells,sz_Symbol,sz_int]
   | none =>
     obtain ⟨m',hm',h'⟩:=impl_comparer_isGreater ok ha hb hol ho hi hj (fun p q h1 h2 h3 h4 h5=>ihd p q h3 h4 (by omega)) m hm
     rw [← gt_eq ha hb hi hj] at h'
     refine ⟨_,hm'.put i j,call2_of rfl 0 ((impl_comparer_greater.ev _ _ _ _ _ _ _ _).trans ?_)⟩
     simp only [evz,Nat.reduceLT,hf,Option.isSome_none,h',T.isMp,T.mpL]
theorem impl_isGreater (hol:o.length≤1048576) (ho:∀ n:Int,0≤n→n < l.length→n∈o):Call F.impl_isGreater [.agg [slc l],slc o,slc a,slc b] (.bool (gt l o a b 0 0)):=by
 have h1:=ha.pos
 have h2:=hb.pos
 obtain ⟨m',_,h'⟩:=knows ok ha hb hol ho (a.length+b.length) 0 0 (by omega) (by omega) (by omega) [] (fun p q v hv=>by simp [mpFind,mpAt] at hv)
 refine call_of rfl 0 ((impl_isGreater.ev _ _ _ _ _).trans ?_)
 have h':LIM F.impl_comparer_greater [boxI l o a b [],.int .i64 0,.int .i64 0]=some (.bool (gt l o a b 0 0),[boxO l o a b m']):=h'
 simp only [evz,Nat.reduceLT,h',T.isMp,T.mpL]
end
theorem spec_l2Rank (o:List Int) (x:Int) (hl:o.length≤4294967296):Call F.spec_l2Rank [slc o,.int .i64 x] (.int .i64 (rank o x)):=by
 refine call_of rfl (o.length+1) ((spec_l2Rank.ev _ _ _).trans ?_)
 refine idx_loop (S:=fun m k=>spec_l2Rank.at0 (o.length+1) m (spec_l2Rank.st0 (cells o) x (k:Nat))) (fun m k h => ?_) (fun m => ?_) (Nat.lt_succ_self _)
 · have hlk:o[k]?=some o[k]:=List.getElem?_eq_getElem h
   simp only [spec_l2Rank.next0,spec_l2Rank.round0,evz,Nat.reduceLT,h,hlk,enc_int,decide_eq_true_eq]
   rw [wrap_succ (by omega)]
 · simp only [spec_l2Rank.next0,spec_l2Rank.round0,evz,Nat.reduceLT,Nat.lt_irrefl]
section
variable {l:List Symbol} (ok:SigOk ⟨l⟩)
include ok
theorem spec_l7Starts {t:List Int} (ht:TermOk l t) {p:Nat} (hp:p < t.length) (hn:0≤t[p]):Call F.spec_l7Starts [.rref [slc l] 0,slc t,.int .i64 p] (slc (ints (starts l t p))):=by
 have hle:=ht.le
 have har:=ar_le (l:=l) ok t[p]
 have hnode:=nodeOk_iff.1 (ht.node _ (List.getElem_mem hp))
 have hls:l.length≤6:=ok.le
 obtain ⟨u,hu⟩:∃ u:Nat,t[p]=u:=⟨t[p].toNat,by omega⟩
 have hul:u < l.length:=by omega
 have hare:(l[u]).arity=(ar l t[p]:Nat):=by
  have:=ar_eq ok (n:=t[p]) hn (by rw [hu]; simpa using hul)
  simpa [hu] using this
 refine call_of rfl 4 ((spec_l7Starts.ev _ _ _ _).trans ?_)
 rw [wrap_succ (by omega)]
 have loop:∀ n k q f (out:List Int) r,k+n=ar l t[p]→n < f→skip (ar l) n (t.drop q)=some r→out.length=k →
  spec_l7Starts.at0 4 f (spec_l7Starts.st0 (cells l) (cells t) (p:Nat) (q:Nat) (k:Nat) (cells out))=some (slc (out++ints (startsN l t n q)),[]):=by
  intro n
  induction n with
  | zero =>
    intro k q f out r hk hf hs ho
    obtain ⟨f,rfl⟩:∃ x,f=x+1:=⟨f - 1,by omega⟩
    have:¬ k < ar l t[p]:=by omega
    simp only [spec_l7Starts.next0,spec_l7Starts.round0,evz,Nat.reduceLT,hp,List.getElem?_eq_getElem,enc_int,hu,hul,enc_Symbol,hare,startsN,ints,List.map_nil,List.append_nil]
    rw [← hu,if_neg this]
  | succ n ih =>
    intro k q f out r hk hf hs ho
    obtain ⟨f,rfl⟩:∃ x,f=x+1:=⟨f - 1,by omega⟩
    obtain ⟨h1,h2,h3,h4⟩:=skip_one hs
    have hlt:k < ar l t[p]:=by omega
    simp only [spec_l7Starts.next0,spec_l7Starts.round0,evz,Nat.reduceLT,hp,List.getElem?_eq_getElem,enc_int,hu,hul,enc_Symbol,hare,(l3End_at ok ht h1).eq,cells_snoc_int]
    rw [← hu,if_pos hlt,cond_pos (ble_ok (by rw [cells_length,sz_int]; omega)),wrap_succ (by omega),ih (k+1) (endAt l t q) f (out++[(q:Int)]) r (by omega) (by omega) h2 (by simp [ho])]
    simp [startsN,ints]
 obtain ⟨r,hr⟩:=args_skip ht hp
 have hd:t.getD p 0=t[p]:=getD_at hp
 have:=loop (ar l t[p]) 0 (p+1) 4 [] r (by omega) (by omega) hr (by simp)
 unfold starts
 rw [hd]
 simpa using this
theorem spec_l7Equal {a b:List Int} (ha:TermOk l a) (hb:TermOk l b) {i j:Nat} (hi:i < a.length) (hj:j < b.length):Call F.spec_l7Equal [.rref [slc l] 0,slc a,.int .i64 i,slc b,.int .i64 j] (.bool (decide (subAt l a i=subAt l b j))):=by
 refine call_of rfl 0 ((spec_l7Equal.ev _ _ _ _ _ _).trans ?_)
 obtain ⟨h1,h2,_⟩:=endAt_spec ha hi
 obtain ⟨h3,h4,_⟩:=endAt_spec hb hj
 have h5:=subAt_length l a i
 have h6:=ha.le
 have hs:=(spec_l1Same (subAt l a i) (subAt l b j) ⟨by omega,fun _ _=>trivial⟩).eq
 simp only [evz,Nat.reduceLT,(l3End_at ok ha hi).eq,(l3End_at ok hb hj).eq]
 rw [cond_pos (by simp; omega),cond_pos (by simp; omega),slc_cut,slc_cut]
 unfold subAt at hs ⊢
 simp only [hs,evz,Nat.reduceLT]
omit ok in
theorem sz_bool:Enc.sz Bool=1:=rfl
omit ok in
theorem enc_bool (b:Bool):enc b=[.bool b]:=rfl
omit ok in
theorem bget {T:List Bool} {k:Nat} (h:k < T.length):(cells T)[k*1]?=some (.bool (T.getD k false)):=by
 rw [get0 (l:=T) (k:=1) (i:=k) rfl,List.getElem?_eq_getElem h,List.getD_eq_getElem?_getD,List.getElem?_eq_getElem h]; rfl
omit ok in
theorem bgetD {T:List Bool} {k:Nat} (h:k < T.length):T[k]?=some (T.getD k false):=by
 rw [List.getElem?_eq_getElem h,List.getD_eq_getElem?_getD,List.getElem?_eq_getElem h]; rfl
omit ok in
theorem at_bound {i j la lb:Nat} (hi:i < la) (hj:j < lb):i*lb+j < la*lb:=by
 have:i*lb+lb≤la*lb:=by rw [← Nat.succ_mul]; exact Nat.mul_le_mul_right _ hi
 omega
omit ok in
theorem at_wrap {i j la lb:Nat} (hi:i < la) (hj:j < lb) (ha:la≤24) (hb:lb≤24):IntKind.wrap .i64 (IntKind.wrap .i64 ((i:Int)*(lb:Int))+(j:Int))=((i*lb+j:Nat):Int):=by
 have h1:=at_bound hi hj
 have h2:la*lb≤24*24:=Nat.mul_le_mul ha hb
 have e1:IntKind.wrap .i64 ((i:Int)*(lb:Int))=((i*lb:Nat):Int):=by rw [← Int.natCast_mul]; exact wrap64 (by omega)
 rw [e1,← Int.natCast_add]; exact wrap64 (by omega)
section
variable {o a b:List Int} (ha:TermOk l a) (hb:TermOk l b) {T:List Bool} (hT:T.length=a.length*b.length)
include ha hb hT
theorem cell4 {A B:List Nat} (hAl:A.length≤2) (hA:∀ p∈A,p < a.length) (hB:∀ q∈B,q < b.length) :
 ∀ n k f,k+n=A.length→n < f →
  spec_l7Cell.at4 8 f (spec_l7Cell.st4 (cells l) (cells a) (cells b) (cells T) (b.length:Nat) (k:Nat) (cells (ints A)) (cells (ints B))) =
   some (.bool (match ((A.drop k).zip (B.drop k)).find? fun x => !decide (subAt l a x.1=subAt l b x.2) with | some x=>T.getD (x.1*b.length+x.2) false | none=>false),[]):=by
 have hla:=ha.le
 have hlb:=hb.le
 intro n
 induction n with
 | zero =>
   intro k f hk hf
   obtain ⟨f,rfl⟩:∃ x,f=x+1:=⟨f - 1,by omega⟩
   have:¬ k < A.length:=by omega
   simp only [spec_l7Cell.next4,spec_l7Cell.round4,evz,Nat.reduceLT,ints_length,this,List.drop_of_length_le (show A.length≤k by omega),List.zip_nil_left,List.find?_nil]
 | succ n ihn =>
   intro k f hk hf
   obtain ⟨f,rfl⟩:∃ x,f=x+1:=⟨f - 1,by omega⟩
   have hkA:k < A.length:=by omega
   by_cases hkB:k < B.length
   · have hp:=hA _ (List.getElem_mem hkA)
     have hq:=hB _ (List.getElem_mem hkB)
     have hs:=(spec_l7Equal ok ha hb hp hq).eq
     rw [List.drop_eq_getElem_cons hkA,List.drop_eq_getElem_cons hkB,List.zip_cons_cons,List.find?_cons]
     by_cases e:subAt l a A[k]=subAt l b B[k]
     · have:=ihn (k+1) f (by omega) (by omega)
       simp only [spec_l7Cell.next4,spec_l7Cell.round4,evz,Nat.reduceLT,hkA,hkB,ints_get,ints_length,enc_int,hs,e,Bool.not_true]
       rw [wrap_succ (by omega)]
       exact this
     · have hin:A[k]*b.length+B[k] < T.length:=by rw [hT]; exact at_bound hp hq
       simp only [spec_l7Cell.next4,spec_l7Cell.round4,evz,Nat.reduceLT,hkA,hkB,ints_get,ints_length,enc_int,hs,e,Bool.not_false,at_wrap hp hq hla hlb,hin,bgetD hin,enc_bool,sz_bool]
   · simp only [spec_l7Cell.next4,spec_l7Cell.round4,evz,Nat.reduceLT,hkA,hkB,ints_get,ints_length,List.drop_of_length_le (show B.length≤k by omega),List.zip_nil_right,List.find?_nil]
omit ok in
theorem cell2 {i j:Nat} {A B:List Nat} {Rest:R} (hi:i < a.length) (hB:∀ q∈B,q < b.length) (hBl:B.length≤2)
 (hrest:∀ f,spec_l7Cell.at2 8 (f+1) (spec_l7Cell.st2 (cells l) (cells a) (cells b) (i:Nat) (j:Nat) (cells T) (b.length:Nat) (B.length:Nat) (cells (ints A)) (cells (ints B)))=Rest) :
 ∀ n k f,k+n=B.length→n < f →
  spec_l7Cell.at2 8 f (spec_l7Cell.st2 (cells l) (cells a) (cells b) (i:Nat) (j:Nat) (cells T) (b.length:Nat) (k:Nat) (cells (ints A)) (cells (ints B))) =
   if (B.drop k).any (fun q => !T.getD (i*b.length+q) false) then some (.bool false,[]) else Rest:=by
 have hla:=ha.le
 have hlb:=hb.le
 intro n
 induction n with
 | zero =>
   intro k f hk hf
   obtain ⟨f,rfl⟩:∃ x,f=x+1:=⟨f - 1,by omega⟩
   obtain rfl:k=B.length:=by omega
   rw [hrest,List.drop_of_length_le (Nat.le_refl _)]; rfl
 | succ n ihn =>
   intro k f hk hf
   obtain ⟨f,rfl⟩:∃ x,f=x+1:=⟨f - 1,by omega⟩
   have hkB:k < B.length:=by omega
   have hq:=hB _ (List.getElem_mem hkB)
   have hin:i*b.length+B[k] < T.length:=by rw [hT]; exact at_bound hi hq
   have:=ihn (k+1) f (by omega) (by omega)
   rw [List.drop_eq_getElem_cons hkB,List.any_cons]
   simp only [spec_l7Cell.next2,spec_l7Cell.round2,evz,Nat.reduceLT,hkB,ints_get,ints_length,enc_int,at_wrap hi hq hla hlb,hin,bgetD hin,enc_bool,sz_bool]
   cases T.getD (i*b.length+B[k]) false with
   | false=>simp
   | true =>
     rw [wrap_succ (by omega)]
     simp only [evz,Nat.reduceLT,Bool.not_true,Bool.false_or]
     exact this
theorem cell0 {o:List Int} {i j:Nat} {A:List Nat} {Rest:R} (hj:j < b.length) (hA:∀ p∈A,p < a.length) (hAl:A.length≤2)
 (hrest:∀ f,spec_l7Cell.at0 8 (f+1) (spec_l7Cell.st0 (cells l) (cells o) (cells a) (cells b) (i:Nat) (j:Nat) (cells T) (b.length:Nat) (A.length:Nat) (cells (ints A)))=Rest) :
 ∀ n k f,k+n=A.length→n < f →
  spec_l7Cell.at0 8 f (spec_l7Cell.st0 (cells l) (cells o) (cells a) (cells b) (i:Nat) (j:Nat) (cells T) (b.length:Nat) (k:Nat) (cells (ints A))) =
   if (A.drop k).any (fun p=>decide (subAt l a p=subAt l b j)||T.getD (p*b.length+j) false) then some (.bool true,[]) else Rest:=by
 have hla:=ha.le
 have hlb:=hb.le
 intro n
 induction n with
 | zero =>
   intro k f hk hf
   obtain ⟨f,rfl⟩:∃ x,f=x+1:=⟨f - 1,by omega⟩
   obtain rfl:k=A.length:=by omega
   rw [hrest,List.drop_of_length_le (Nat.le_refl _)]; rfl
 | succ n ihn =>
   intro k f hk hf
   obtain ⟨f,rfl⟩:∃ x,f=x+1:=⟨f - 1,by omega⟩
   have hkA:k < A.length:=by omega
   have hp:=hA _ (List.getElem_mem hkA)
   have hin:A[k]*b.length+j < T.length:=by rw [hT]; exact at_bound hp hj
   have:=ihn (k+1) f (by omega) (by omega)
   rw [List.drop_eq_getElem_cons hkA,List.any_cons]
   simp only [spec_l7Cell.next0,spec_l7Cell.round0,evz,Nat.reduceLT,hkA,ints_get,ints_length,enc_int,at_wrap hp hj hla hlb,hin,bgetD hin,enc_bool,sz_bool,(spec_l7Equal ok ha hb hp hj).eq]
   cases T.getD (A[k]*b.length+j) false with
   | true=>simp
   | false =>
     by_cases e:subAt l a A[k]=subAt l b j
     · simp [e]
     · rw [wrap_succ (by omega)]
       simp only [evz,Nat.reduceLT,e,Bool.or_false,Bool.false_or]
       exact this
theorem spec_l7Cell (hol:o.length≤1048576) (ho:∀ n:Int,0≤n→n < l.length→n∈o) {i j:Nat} (hi:i < a.length) (hj:j < b.length) :
 Call F.spec_l7Cell [.rref [slc l] 0,slc o,slc a,slc b,.int .i64 i,.int .i64 j,slc T] (.bool (cell l o a b (fun p q=>T.getD (p*b.length+q) false) i j)):=by
 have hai:a.getD i 0=a[i]:=getD_at hi
 have hbj:b.getD j 0=b[j]:=getD_at hj
 have hla:=ha.le
 have hlb:=hb.le
 have hsl:=subAt_length l a i
 obtain ⟨h1,h2,_⟩:=endAt_spec ha hi
 unfold cell
 rw [hai,hbj]
 refine call_of rfl 8 ((spec_l7Cell.ev _ _ _ _ _ _ _ _).trans ?_)
 by_cases hy:b[j] < 0
 · by_cases hx:0≤a[i]
   · have hx':a[i] ≥ 0:=hx
     have hc:=(spec_l3Count (subAt l a i) b[j] (by omega)).eq
     have hm:decide (((List.count b[j] (subAt l a i):Nat):Int) > 0)=decide (b[j]∈subAt l a i):=by
      rw [decide_eq_decide,← List.count_pos_iff]; omega
     simp only [evz,Nat.reduceLT,hi,hj,List.getElem?_eq_getElem,enc_int,hy,hx',hx,(l3End_at ok ha hi).eq,Bool.true_and]
     rw [cond_pos (by simp; omega),slc_cut]
     unfold subAt at hc hm ⊢
     simp only [hc,evz,Nat.reduceLT,hm]
   · have hx':¬ a[i] ≥ 0:=hx
     simp only [evz,Nat.reduceLT,hi,hj,List.getElem?_eq_getElem,enc_int,hy,hx',hx,Bool.false_and]
 by_cases hx:a[i] < 0
 · simp only [evz,Nat.reduceLT,hi,hj,List.getElem?_eq_getElem,enc_int,hy,hx]
 have hA:∀ p∈starts l a i,i < p∧p < a.length:=fun p hp=>starts_mem ha hi hp
 have hB:∀ q∈starts l b j,j < q∧q < b.length:=fun q hq=>starts_mem hb hj hq
 have hAl:=starts_le ok a i
 have hBl:=starts_le ok b j
 have ix:=(spec_l2Rank o a[i] (by omega)).eq
 have iy:=(spec_l2Rank o b[j] (by omega)).eq
 have sa:=(spec_l7Starts ok ha hi (by omega)).eq
 have sb:=(spec_l7Starts ok hb hj (by omega)).eq
 have hne:(rank o b[j] < rank o a[i])↔(¬ rank o a[i] < rank o b[j])∧a[i]≠b[j]:=by
  have n1:=nodeOk_iff.1 (ha.node _ (List.getElem_mem hi))
  constructor
  · intro h
    refine ⟨by omega,fun e => ?_⟩
    rw [e] at h; omega
  · rintro ⟨h1,h2⟩
    rcases Int.lt_or_le (rank o b[j]) (rank o a[i]) with h | h
    · exact h
    · exact absurd (rank_inj (ho _ (by omega) (by omega)) (by omega)) h2
 generalize hAA:starts l a i=A at hA hAl sa
 generalize hBB:starts l b j=B at hB hBl sb
 have e4:=cell4 ok ha hb hT (A:=A) (B:=B) hAl (fun p hp=>(hA p hp).2) (fun q hq=>(hB q hq).2) A.length 0 8 (by omega) (by omega)
 let Rest2:R:=if a[i]≠b[j] then some (.bool true,[]) else some (.bool (match ((A.drop 0).zip (B.drop 0)).find? fun x => !decide (subAt l a x.1=subAt l b x.2) with | some x=>T.getD (x.1*b.length+x.2) false | none=>false),[])
 have e2:=cell2 (l:=l) ha hb hT (i:=i) (j:=j) (A:=A) (B:=B) (Rest:=Rest2) hi (fun q hq=>(hB q hq).2) hBl (fun f=>by
  simp only [spec_l7Cell.next2,spec_l7Cell.round2,evz,Nat.reduceLT,Nat.lt_irrefl,ints_length,hi,hj,List.getElem?_eq_getElem,enc_int,Rest2]
  by_cases e:a[i]=b[j]
  · simp only [e,evz,Nat.reduceLT]
    rw [if_neg (fun h=>h rfl)]
    exact e4
  · simp [e]) B.length 0 8 (by omega) (by omega)
 let Rest0:R:=if rank o a[i] < rank o b[j] then some (.bool false,[]) else if (B.drop 0).any (fun q => !T.getD (i*b.length+q) false) then some (.bool false,[]) else Rest2
 have e0:=cell0 ok ha hb hT (o:=o) (i:=i) (j:=j) (A:=A) (Rest:=Rest0) hj (fun p hp=>(hA p hp).2) hAl (fun f=>by
  simp only [spec_l7Cell.next0,spec_l7Cell.round0,evz,Nat.reduceLT,Nat.lt_irrefl,ints_length,hi,hj,List.getElem?_eq_getElem,enc_int,ix,iy,sb,Rest0]
  by_cases hr:rank o a[i] < rank o b[j]
  · rw [if_pos hr,if_pos hr]
  · rw [if_neg hr,if_neg hr]
    exact e2) A.length 0 8 (by omega) (by omega)
 simp only [evz,Nat.reduceLT,hi,hj,List.getElem?_eq_getElem,enc_int,hy,hx,sa]
 refine Eq.trans e0 ?_
 simp only [Rest0,Rest2,List.drop_zero]
 by_cases c1:A.any (fun p=>decide (subAt l a p=subAt l b j)||T.getD (p*b.length+j) false)=true
 · rw [if_pos c1,if_pos c1]
 rw [if_neg c1,if_neg c1]
 by_cases c2:rank o a[i] < rank o b[j]
 · rw [if_pos c2,if_pos c2]
 rw [if_neg c2,if_neg c2]
 by_cases c3:B.any (fun q => !T.getD (i*b.length+q) false)=true
 · rw [if_pos c3,if_pos c3]
 rw [if_neg c3,if_neg c3]
 by_cases c4:rank o b[j] < rank o a[i]
 · rw [if_pos c4,if_pos (hne.1 c4).2]
 · rw [if_neg c4,if_neg (fun h=>c4 (hne.2 ⟨c2,h⟩))]
end
omit ok in
theorem set_Bool {T:List Bool} {k:Nat} (h:k < T.length) (v:Bool):setCells (cells T) (k*1) [.bool v]=cells (T.set k v):=cells_set T 1 k rfl v h
omit ok in
theorem rep_Bool (n:Nat):repT n [.bool false]=cells (List.replicate n false):=cells_rep n false
def Done (l:List Symbol) (o a b:List Int) (T:List Bool) (n:Nat):Prop :=
 T.length=a.length*b.length∧∀ p q,p < a.length→q < b.length→n≤p*b.length+q→T.getD (p*b.length+q) false=gt l o a b p q
omit ok in
theorem at_inj {n p q i j:Nat} (hq:q < n) (hj:j < n) (h:p*n+q=i*n+j):p=i∧q=j:=by
 rcases Nat.lt_trichotomy p i with h1 | h1 | h1
 · have:(p+1)*n≤i*n:=Nat.mul_le_mul_right _ h1
   rw [Nat.succ_mul] at this; omega
 · subst h1; exact ⟨rfl,by omega⟩
 · have:(i+1)*n≤p*n:=Nat.mul_le_mul_right _ h1
   rw [Nat.succ_mul] at this; omega
omit ok in
theorem Done.cell {o a b:List Int} (ha:TermOk l a) (hb:TermOk l b) {T:List Bool} {i j:Nat} (hi:i < a.length) (hj:j < b.length) (h:Done l o a b T (i*b.length+(j+1))) :
 cell l o a b (fun p q=>T.getD (p*b.length+q) false) i j=gt l o a b i j:=by
 rw [gt_eq ha hb hi hj]
 refine cell_congr ha hb hi hj fun p q h1 h2 h3 h4 h5=>h.2 p q h3 h4 ?_
 have h6:i*b.length≤p*b.length:=Nat.mul_le_mul_right _ h1
 rcases h5 with h5 | h5
 · have:(i+1)*b.length≤p*b.length:=Nat.mul_le_mul_right _ h5
   rw [Nat.succ_mul] at this; omega
 · omega
omit ok in
theorem Done.set {o a b:List Int} {T:List Bool} {i j:Nat} (hi:i < a.length) (hj:j < b.length) (h:Done l o a b T (i*b.length+(j+1))):Done l o a b (T.set (i*b.length+j) (gt l o a b i j)) (i*b.length+j):=by
 have hin:=at_bound hi hj
 refine ⟨by rw [List.length_set]; exact h.1,fun p q hp hq hle => ?_⟩
 by_cases e:i*b.length+j=p*b.length+q
 · obtain ⟨rfl,rfl⟩:=at_inj hq hj e.symm
   simp [List.getD_eq_getElem?_getD,h.1,hin]
 · have:=h.2 p q hp hq (by omega)
   rw [← this,List.getD_eq_getElem?_getD,List.getD_eq_getElem?_getD,List.getElem?_set_ne e]
theorem table2 {o a b:List Int} (ha:TermOk l a) (hb:TermOk l b) (hol:o.length≤1048576) (ho:∀ n:Int,0≤n→n < l.length→n∈o) (L0:St→R) {i:Nat} (hi:i < a.length) :
 ∀ (k f:Nat) (T:List Bool),k≤b.length→k < f→Done l o a b T (i*b.length+k)→∃ T',Done l o a b T' (i*b.length) ∧
  spec_l7Table.at2 25 L0 f (spec_l7Table.st2 (cells l) (cells o) (cells a) (cells b) (b.length:Nat) (i:Nat) ((k:Int) - 1) (cells T)) =
   L0 (spec_l7Table.st0 (cells l) (cells o) (cells a) (cells b) (b.length:Nat) ((i:Int) - 1) (cells T')):=by
 have hla:=ha.le
 have hlb:=hb.le
 intro k
 induction k with
 | zero =>
   intro f T hk hf hd
   obtain ⟨f,rfl⟩:∃ x,f=x+1:=⟨f - 1,by omega⟩
   refine ⟨T,by simpa using hd,?_⟩
   have h1:¬ (((0:Nat):Int) - 1 ≥ 0):=by omega
   simp only [spec_l7Table.next2,spec_l7Table.round2,cond_dec]
   rw [if_neg h1,wrap64 (by omega)]
 | succ k ih =>
   intro f T hk hf hd
   obtain ⟨f,rfl⟩:∃ x,f=x+1:=⟨f - 1,by omega⟩
   have hj:k < b.length:=by omega
   have hin:i*b.length+k < T.length:=by rw [hd.1]; exact at_bound hi hj
   obtain ⟨T',hd',h'⟩:=ih f (T.set (i*b.length+k) (gt l o a b i k)) (by omega) (by omega) (hd.set hi hj)
   refine ⟨T',hd',?_⟩
   have e:((k+1:Nat):Int) - 1=(k:Int):=by omega
   have hc:=spec_l7Cell ok ha hb hd.1 hol ho hi hj
   rw [hd.cell ha hb hi hj] at hc
   have h1:(k:Int) ≥ 0:=by omega
   rw [e]
   simp only [spec_l7Table.next2,spec_l7Table.round2,evz,Nat.reduceLT,h1,hc.eq,at_wrap hi hj hla hlb,hin,sz_bool]
   rw [wrap64 (by omega),if_pos (by rw [cells_length,sz_bool]; omega),set_Bool hin]
   exact h'
theorem spec_l7Table {o a b:List Int} (ha:TermOk l a) (hb:TermOk l b) (hol:o.length≤1048576) (ho:∀ n:Int,0≤n→n < l.length→n∈o) :
 ∃ T,Done l o a b T 0∧Call F.spec_l7Table [.rref [slc l] 0,slc o,slc a,slc b] (slc T):=by
 have hla:=ha.le
 have hlb:=hb.le
 have outer:∀ (m f:Nat) (T:List Bool),m≤a.length→m < f→Done l o a b T (m*b.length)→∃ T',Done l o a b T' 0 ∧
  spec_l7Table.at0 25 f (spec_l7Table.st0 (cells l) (cells o) (cells a) (cells b) (b.length:Nat) ((m:Int) - 1) (cells T))=some (slc T',[]):=by
  intro m
  induction m with
  | zero =>
    intro f T hm hf hd
    obtain ⟨f,rfl⟩:∃ x,f=x+1:=⟨f - 1,by omega⟩
    refine ⟨T,by simpa using hd,?_⟩
    have h1:¬ (((0:Nat):Int) - 1 ≥ 0):=by omega
    simp only [spec_l7Table.next0,spec_l7Table.round0,cond_dec]
    rw [if_neg h1]; rfl
  | succ m ih =>
    intro f T hm hf hd
    obtain ⟨f,rfl⟩:∃ x,f=x+1:=⟨f - 1,by omega⟩
    have e:((m+1:Nat):Int) - 1=(m:Int):=by omega
    have h1:(m:Int) ≥ 0:=by omega
    obtain ⟨T1,hd1,h1'⟩:=table2 ok ha hb hol ho (spec_l7Table.at0 25 f) (i:=m) (by omega) b.length 25 T (Nat.le_refl _) (by omega) (by rw [← Nat.succ_mul]; exact hd)
    obtain ⟨T',hd',h'⟩:=ih f T1 (by omega) (by omega) hd1
    refine ⟨T',hd',?_⟩
    rw [e]
    simp only [spec_l7Table.next0,spec_l7Table.round0,cond_dec]
    rw [if_pos h1,wrap64 (by omega),h1',h']
 have hmul:a.length*b.length≤24*24:=Nat.mul_le_mul hla hlb
 obtain ⟨T,hd,h⟩:=outer a.length 25 (List.replicate (a.length*b.length) false) (Nat.le_refl _) (by omega) ⟨by simp,fun p q hp hq hle=>by have:=at_bound hp hq; omega⟩
 refine ⟨T,hd,call_of rfl 25 ((spec_l7Table.ev _ _ _ _ _).trans ?_)⟩
 have hw:IntKind.wrap .i64 ((a.length:Int)*(b.length:Int))=((a.length*b.length:Nat):Int):=by rw [← Int.natCast_mul]; exact wrap64 (by omega)
 simp only [cells_div,sz_int,hw,Int.toNat_natCast,rep_Bool]
 rw [cond_pos (by simp; omega),wrap64 (by omega)]
 exact h
theorem spec_l7Over {o a b:List Int} (ha:TermOk l a) (hb:TermOk l b) (hol:o.length≤1048576) (ho:∀ n:Int,0≤n→n < l.length→n∈o) :
 Call F.spec_l7Over [.rref [slc l] 0,slc o,slc a,slc b] (.bool (gt l o a b 0 0)):=by
 obtain ⟨T,hd,h⟩:=spec_l7Table ok ha hb hol ho
 have h1:=ha.pos
 have h2:=hb.pos
 have hT:0 < T.length:=by rw [hd.1]; exact Nat.mul_pos h1 h2
 have h3:=hd.2 0 0 h1 h2 (Nat.zero_le _)
 simp only [Nat.zero_mul,Nat.add_zero] at h3
 refine call_of rfl 0 ((spec_l7Over.ev _ _ _ _ _).trans ?_)
 have hg:=bget (T:=T) (k:=0) hT
 rw [Nat.zero_mul,h3] at hg
 simp only [evz,Nat.reduceLT,h.eq,sz_bool,hg]
 rw [show inB (0:Int) T.length=true from (inB_nat 0 T.length).trans (by simpa using hT)]
 rfl
end
end Ev.Ty
end
section
namespace Ev.Ty
open Go Ev
open Enc (enc)
open Sm (sm)
set_option linter.unusedSimpArgs false
set_option linter.unusedVariables false
def orderF (l:List Symbol) (o:List Int):Int:=if o.length≠l.length then 2 else if (o.any fun n => !inR n 0 (l.length - 1))=true then 3 else if twice o=true then 6 else 0
def orderFault (s:Signature) (o:List Int):Int:=if sigFault s≠0 then sigFault s else orderF s.symbols o
theorem pigeon:∀ (k:Nat) (o:List Int),o.Nodup→(∀ n∈o,0≤n∧n < k)→o.length≤k
 | 0,o,_,h=>by
   cases o with
   | nil=>simp
   | cons x o=>have:=h x (by simp); omega
 | k+1,o,hn,h=>by
   by_cases hk:(k:Int)∈o
   · have h1:=List.length_erase_of_mem hk
     have:=pigeon k (o.erase (k:Int)) (hn.erase _) fun n hm=>by
      have hm':=(hn.mem_erase_iff).1 hm
      have:=h n hm'.2
      omega
     omega
   · have:=pigeon k o hn fun n hm=>by
      have:=h n hm
      have:n≠(k:Int):=fun e=>hk (e ▸ hm)
      omega
     omega
theorem orderOk {l:List Symbol} {o:List Int} (h:orderF l o=0):o.length=l.length∧∀ n:Int,0≤n→n < l.length→n∈o:=by
 unfold orderF at h
 split at h
 · cases h
 rename_i h1
 split at h
 · cases h
 rename_i h2
 split at h
 · cases h
 rename_i h3
 have h1:o.length=l.length:=by omega
 refine ⟨h1,fun n hn hl=>Classical.byContradiction fun hno => ?_⟩
 have hnd:o.Nodup:=by
  unfold twice at h3
  simpa using h3
 have hr:∀ m∈o,0≤m∧m < l.length:=fun m hm=>by
  simp only [List.any_eq_true,not_exists,not_and,Bool.not_eq_true',Bool.not_eq_false] at h2
  have:=inR_iff.1 (h2 m hm)
  omega
 have:=pigeon l.length (n::o) (List.nodup_cons.2 ⟨hno,hnd⟩) fun m hm=>by
  rcases List.mem_cons.1 hm with rfl | hm
  · exact ⟨hn,hl⟩
  · exact hr m hm
 simp at this
 omega
theorem impl_isSymbol {l:List Symbol} (hs:l.length≤4294967296) (n:Int):Call F.impl_isSymbol [.agg [slc l],.int .i64 n] (.bool (inR n 0 (l.length - 1))):=by
 refine call_of rfl 0 ((impl_isSymbol.ev _ _ _).trans ?_)
 simp only [evz,Nat.reduceLT,wrap64 (x:=(l.length:Int) - 1) (by omega),(impl_within _ _ _).eq]
theorem spec_l2Symbol {l:List Symbol} (hs:l.length≤4294967296) (n:Int):Call F.spec_l2Symbol [.rref [slc l] 0,.int .i64 n] (.bool (inR n 0 (l.length - 1))):=by
 refine call_of rfl 0 ((spec_l2Symbol.ev _ _ _).trans ?_)
 simp only [evz,Nat.reduceLT,wrap64 (x:=(l.length:Int) - 1) (by omega),(spec_l1In _ _ _).eq]
theorem take_mem_pairs (o:List Int):((List.range o.length).any fun k=>o[k]?.any fun x=>decide (x∈o.take k))=twice o:=by
 have:=twice_pairs (fun x:Int=>x) o
 rw [List.map_id'] at this
 rw [← this,Bool.eq_iff_iff]
 simp only [List.any_eq_true,List.mem_range]
 constructor
 · rintro ⟨k,hk,h⟩
   rw [List.getElem?_eq_getElem hk,Option.any_some,decide_eq_true_iff] at h
   obtain ⟨j,hj,he⟩:=List.getElem_of_mem h
   rw [List.length_take] at hj
   rw [List.getElem_take] at he
   refine ⟨k,hk,j,by omega,?_⟩
   rw [List.getElem?_eq_getElem hk,List.getElem?_eq_getElem (show j < o.length by omega)]
   simp [he]
 · rintro ⟨i,hi,j,hj,h⟩
   rw [List.getElem?_eq_getElem hi,List.getElem?_eq_getElem (show j < o.length by omega)] at h
   refine ⟨i,hi,?_⟩
   rw [List.getElem?_eq_getElem hi,Option.any_some,decide_eq_true_iff]
   have he:o[i]=o[j]:=by simpa using h
   rw [he]
   exact List.mem_take_iff_getElem.2 ⟨j,by omega,rfl⟩
theorem impl_OrderFault (l:List Symbol) (hs:l.length≤4294967296) (o:List Int) (ho:o.length≤4294967296):Call F.impl_OrderFault [.agg [slc l],slc o] (.int .i64 (orderFault ⟨l⟩ o)):=by
 have hi:Call F.slices_IndexFunc_Sint64 [slc o,.clo F.impl_OrderFault_1 [.rref [slc l] 0]] (.int .i64 (idx (fun n => !inR n 0 (l.length - 1)) o)):=by
  refine call_of rfl (o.length+1) ((slices_IndexFunc_Sint64_at1_impl_OrderFault_1.ev _ _ _).trans ?_)
  simp only [evz,Nat.reduceLT]
  refine idx_loop (S:=fun m k=>slices_IndexFunc_Sint64_at1_impl_OrderFault_1.at0 (o.length+1) m (slices_IndexFunc_Sint64_at1_impl_OrderFault_1.st0 (cells o) (cells l) o.length (k:Nat))) (fun m k h => ?_) (fun m => ?_) (Nat.lt_succ_self _)
  · have hlk:o[k]?=some o[k]:=List.getElem?_eq_getElem h
    have hc:Call F.impl_OrderFault_1 [.int .i64 o[k],.rref [slc l] 0] (.bool (!inR o[k] 0 (l.length - 1))):=by
     refine call_of rfl 0 ((impl_OrderFault_1.ev _ _ _).trans ?_)
     simp only [evz,Nat.reduceLT,(impl_isSymbol hs _).eq]
    simp only [slices_IndexFunc_Sint64_at1_impl_OrderFault_1.next0,slices_IndexFunc_Sint64_at1_impl_OrderFault_1.round0,evz,Nat.reduceLT,h,hlk,enc_int,hc.eq]
    rw [wrap_succ (by omega)]
    cases inR o[k] 0 (l.length - 1) <;> rfl
  · simp only [slices_IndexFunc_Sint64_at1_impl_OrderFault_1.next0,slices_IndexFunc_Sint64_at1_impl_OrderFault_1.round0,evz,Nat.reduceLT,Nat.lt_irrefl]
 have hc:Call F.slices_ContainsFunc_Sint64 [slc o,.clo F.impl_OrderFault_1 [.rref [slc l] 0]] (.bool (o.any fun n => !inR n 0 (l.length - 1))):=by
  refine call_of rfl 0 ((slices_ContainsFunc_Sint64_at1_impl_OrderFault_1.ev _ _ _).trans ?_)
  simp only [evz,Nat.reduceLT,hi.eq,idx_nonneg]
 refine call_of rfl (o.length+1) ((impl_OrderFault.ev _ _ _).trans ?_)
 simp only [evz,Nat.reduceLT,(impl_SignatureFault l hs).eq,orderFault,orderF]
 by_cases h1:sigFault ⟨l⟩=0
 case neg=>simp only [h1,evz,Nat.reduceLT,ne_eq,not_false_eq_true]
 by_cases h2:o.length=l.length
 case neg =>
  have h2':¬ ((o.length:Int)=(l.length:Int)):=by omega
  simp only [h1,h2,h2',evz,Nat.reduceLT,ne_eq,not_true_eq_false,not_false_eq_true]
 have h2':((o.length:Int)=(l.length:Int)):=by omega
 cases h3:o.any fun n => !inR n 0 (l.length - 1) with
 | true =>
   rw [h3] at hc
   simp only [h1,h2',h2,evz,Nat.reduceLT,ne_eq,not_true_eq_false,hc.eq]
 | false =>
   rw [h3] at hc
   simp only [h1,h2',h2,evz,Nat.reduceLT,ne_eq,not_true_eq_false,hc.eq]
   rw [← h2',← h2]
   refine (any_loop (n:=o.length) (bad:=fun k=>o[k]?.any fun x=>decide (x∈o.take k)) (r:=some (.int .i64 6,[])) (z:=some (.int .i64 0,[]))
    (S:=fun m k=>impl_OrderFault.at0 (o.length+1) m (impl_OrderFault.st0 (cells o) (cells o) o.length (k:Nat))) (fun m k h => ?_) (fun m => ?_) (Nat.lt_succ_self _)).trans ?_
   · have hlk:o[k]?=some o[k]:=List.getElem?_eq_getElem h
     have hm:=(slices_Contains_Sint64 (o.take k) o[k] (by simp; omega)).eq
     simp only [impl_OrderFault.next0,impl_OrderFault.round0,evz,Nat.reduceLT,h,hlk,enc_int]
     rw [cond_pos (by simp; omega),Nat.zero_mul,List.drop_zero,cells_take o 1 k rfl,sl_cells (k:=1) (l:=o.take k) rfl,hm,wrap_succ (by omega)]
     by_cases e:o[k]∈o.take k <;> simp [e,evz,Nat.reduceLT]
   · simp only [impl_OrderFault.next0,impl_OrderFault.round0,evz,Nat.reduceLT,Nat.lt_irrefl]
   · rw [take_mem_pairs]
     cases twice o <;> rfl
theorem spec_l2Order (l:List Symbol) (hs:l.length≤4294967296) (o:List Int) (ho:o.length≤4294967296):Call F.spec_l2Order [.rref [slc l] 0,slc o] (.int .i64 (orderF l o)):=by
 obtain ⟨n,hn⟩:∃ n,n=o.length+1:=⟨_,rfl⟩
 refine call_of rfl n ((spec_l2Order.ev _ _ _).trans ?_)
 simp only [evz,Nat.reduceLT,orderF]
 by_cases h2:o.length=l.length
 case neg =>
  have h2':¬ ((o.length:Int)=(l.length:Int)):=by omega
  simp only [h2,h2',evz,Nat.reduceLT,ne_eq,not_true_eq_false,not_false_eq_true]
 have h2':((o.length:Int)=(l.length:Int)):=by omega
 simp only [h2',h2,evz,Nat.reduceLT,ne_eq,not_true_eq_false]
 have two:=any_loop (n:=o.length) (bad:=fun i=>(List.range i).any fun j=>o[i]?.any fun x=>o[j]?.any fun y=>decide (x=y))
  (S:=fun m i=>spec_l2Order.at2 n m (spec_l2Order.st2 (cells o) (i:Nat))) (r:=some (.int .i64 6,[])) (z:=some (.int .i64 0,[]))
  (fun m i h=>by
   have hlk:o[i]?=some o[i]:=List.getElem?_eq_getElem h
   simp only [spec_l2Order.next2,spec_l2Order.round2,evz,Nat.reduceLT,h]
   refine any_loop (n:=i) (f:=n) (bad:=fun j=>o[i]?.any fun x=>o[j]?.any fun y=>decide (x=y))
    (S:=fun m' j=>spec_l2Order.at4 n (spec_l2Order.at2 n m) m' (spec_l2Order.st4 (cells o) (i:Nat) (j:Nat))) (fun m' j hj => ?_) (fun m' => ?_) (by omega)
   · have hj':j < o.length:=by omega
     have hjk:o[j]?=some o[j]:=List.getElem?_eq_getElem hj'
     simp only [spec_l2Order.next4,spec_l2Order.round4,evz,Nat.reduceLT,h,hj,hj',hlk,hjk,enc_int]
     rw [wrap_succ (by omega)]
     by_cases e:o[i]=o[j] <;> simp [e]
   · simp only [spec_l2Order.next4,spec_l2Order.round4,evz,Nat.reduceLT,Nat.lt_irrefl]
     rw [wrap_succ (by omega)])
  (fun m=>by simp only [spec_l2Order.next2,spec_l2Order.round2,evz,Nat.reduceLT,Nat.lt_irrefl]) (show o.length < n by omega)
 have tp:=twice_pairs (fun x:Int=>x) o
 rw [List.map_id'] at tp
 rw [tp] at two
 refine (any_loopL (l:=o) (p:=fun x => !inR x 0 (l.length - 1)) (S:=fun m k=>spec_l2Order.at0 n m (spec_l2Order.st0 (cells l) (cells o) (k:Nat))) (r:=some (.int .i64 3,[])) (z:=if twice o=true then some (.int .i64 6,[]) else some (.int .i64 0,[])) (fun m k h => ?_) (fun m => ?_) (show o.length < n by omega)).trans ?_
 · have hlk:o[k]?=some o[k]:=List.getElem?_eq_getElem h
   simp only [spec_l2Order.next0,spec_l2Order.round0,evz,Nat.reduceLT,h,hlk,enc_int,(spec_l2Symbol hs _).eq]
   rw [wrap_succ (by omega)]
   cases inR o[k] 0 (l.length - 1) <;> rfl
 · simp only [spec_l2Order.next0,spec_l2Order.round0,evz,Nat.reduceLT,Nat.lt_irrefl]
   exact two
 · cases o.any fun x => !inR x 0 (l.length - 1) <;> cases twice o <;> rfl
def falling (l:List Symbol) (o:List Int) (rs:List Equation):Bool := !rs.any fun e => !gt l o e.left e.right 0 0
def isDecreasingR (s:Signature) (o:List Int) (rs:List Equation):Bool:=decide (orderFault s o=0)&&decide (eqsFault s.symbols rs=0)&&falling s.symbols o rs
theorem sigOk_of {l:List Symbol} (h:sigFault ⟨l⟩=0):SigOk ⟨l⟩:=(sigOk_iff _).1 h
theorem spec_l7Falls {l:List Symbol} (ok:SigOk ⟨l⟩) {o:List Int} (ho:orderF l o=0) {rs:List Equation} (hr:∀ e∈rs,EqOk l e) (hn:rs.length≤4294967296) :
 Call F.spec_l7Falls [.rref [slc l] 0,slc o,slc rs] (.bool (falling l o rs)):=by
 obtain ⟨h1,h2⟩:=orderOk ho
 have hls:l.length≤6:=ok.le
 refine call_of rfl (rs.length+1) ((spec_l7Falls.ev _ _ _ _).trans ?_)
 refine (any_loopL (l:=rs) (p:=fun e => !gt l o e.left e.right 0 0) (r:=some (.bool false,[])) (z:=some (.bool true,[])) (S:=fun m k=>spec_l7Falls.at0 (rs.length+1) m (spec_l7Falls.st0 (cells l) (cells o) (cells rs) (k:Nat))) (fun m k h => ?_) (fun m => ?_) (Nat.lt_succ_self _)).trans ?_
 · have hlk:rs[k]?=some rs[k]:=List.getElem?_eq_getElem h
   have he:=hr _ (List.getElem_mem h)
   simp only [spec_l7Falls.next0,spec_l7Falls.round0,evz,Nat.reduceLT,h,hlk,enc_Equation,(spec_l7Over ok he.left he.right (by omega) h2).eq]
   rw [wrap_succ (by omega)]
   cases gt l o rs[k].left rs[k].right 0 0 <;> rfl
 · simp only [spec_l7Falls.next0,spec_l7Falls.round0,evz,Nat.reduceLT,Nat.lt_irrefl]
 · unfold falling
   cases rs.any fun e => !gt l o e.left e.right 0 0 <;> rfl
theorem impl_IsDecreasing (s:Signature) (o:List Int) (rs:List Equation) (hs:sm 1048576 s) (ho:sm 1048576 o) (hr:sm 1048576 rs):Call F.impl_IsDecreasing [.agg (enc s),slc o,slc rs] (.bool (isDecreasingR s o rs)):=by
 obtain ⟨l⟩:=s
 have hsl:l.length≤4294967296:=Nat.le_trans hs.1 (by omega)
 have hol:o.length≤4294967296:=Nat.le_trans ho.1 (by omega)
 have hrl:rs.length≤4294967296:=Nat.le_trans hr.1 (by omega)
 show Call F.impl_IsDecreasing [.agg [slc l],slc o,slc rs] _
 refine call_of rfl 0 ((impl_IsDecreasing.ev _ _ _ _).trans ?_)
 simp only [evz,Nat.reduceLT,(impl_OrderFault l hsl o hol).eq,isDecreasingR]
 by_cases h1:orderFault ⟨l⟩ o=0
 case neg=>simp only [h1,evz,Nat.reduceLT,Bool.false_and]
 have h0:sigFault ⟨l⟩=0:=by
  unfold orderFault at h1
  split at h1
  · rename_i h; exact absurd h1 h
  · rename_i h; simpa using h
 have hf:orderF l o=0:=by unfold orderFault at h1; rw [if_neg (by simpa using h0)] at h1; exact h1
 have ok:=sigOk_of h0
 have heq:=impl_EquationsFault l hsl rs (sm_mono (by omega) hr)
 rw [if_neg (by simpa using h0)] at heq
 simp only [h1,evz,Nat.reduceLT,heq.eq,Bool.true_and]
 by_cases h2:eqsFault l rs=0
 case neg=>simp only [h2,evz,Nat.reduceLT,Bool.false_and]
 obtain ⟨h3,h4⟩:=orderOk hf
 have hls:l.length≤6:=ok.le
 have hre:=(eqsOk_iff.1 h2).2
 have hi:Call F.slices_IndexFunc_SEquation [slc rs,.clo F.impl_IsDecreasing_1 [.rref [slc l] 0,.rref [slc o] 0]] (.int .i64 (idx (fun e => !gt l o e.left e.right 0 0) rs)):=by
  refine call_of rfl (rs.length+1) ((slices_IndexFunc_SEquation_at1_impl_IsDecreasing_1.ev _ _ _ _).trans ?_)
  simp only [evz,Nat.reduceLT]
  refine idx_loop (S:=fun m k=>slices_IndexFunc_SEquation_at1_impl_IsDecreasing_1.at0 (rs.length+1) m (slices_IndexFunc_SEquation_at1_impl_IsDecreasing_1.st0 (cells rs) (cells l) (cells o) rs.length (k:Nat))) (fun m k h => ?_) (fun m => ?_) (Nat.lt_succ_self _)
  · have hlk:rs[k]?=some rs[k]:=List.getElem?_eq_getElem h
    have he:=hre _ (List.getElem_mem h)
    have hc:Call F.impl_IsDecreasing_1 [.agg [slc rs[k].left,slc rs[k].right],.rref [slc l] 0,.rref [slc o] 0] (.bool (!gt l o rs[k].left rs[k].right 0 0)):=by
     refine call_of rfl 0 ((impl_IsDecreasing_1.ev _ _ _ _ _).trans ?_)
     simp only [evz,Nat.reduceLT,(impl_isGreater ok he.left he.right (by omega) h4).eq]
    simp only [slices_IndexFunc_SEquation_at1_impl_IsDecreasing_1.next0,slices_IndexFunc_SEquation_at1_impl_IsDecreasing_1.round0,evz,Nat.reduceLT,h,hlk,enc_Equation,hc.eq]
    rw [wrap_succ (by omega)]
    cases gt l o rs[k].left rs[k].right 0 0 <;> rfl
  · simp only [slices_IndexFunc_SEquation_at1_impl_IsDecreasing_1.next0,slices_IndexFunc_SEquation_at1_impl_IsDecreasing_1.round0,evz,Nat.reduceLT,Nat.lt_irrefl]
 have hc:Call F.slices_ContainsFunc_SEquation [slc rs,.clo F.impl_IsDecreasing_1 [.rref [slc l] 0,.rref [slc o] 0]] (.bool (rs.any fun e => !gt l o e.left e.right 0 0)):=by
  refine call_of rfl 0 ((slices_ContainsFunc_SEquation_at1_impl_IsDecreasing_1.ev _ _ _ _).trans ?_)
  simp only [evz,Nat.reduceLT,hi.eq,idx_nonneg]
 simp only [h2,evz,Nat.reduceLT,hc.eq,Bool.true_and]
 rfl
end Ev.Ty
end
section
namespace Ev.Ty
open Go Ev
open Enc (enc)
open Sm (sm)
set_option linter.unusedSimpArgs false
set_option linter.unusedVariables false
def Free (b:Bnd) (t:List Int):Prop:=∀ n∈t,(-1 - n)∉b.1
theorem bindOf_notMem {vs:List Int} {ts:List (List Int)} {v:Int} (h:v∉vs):bindOf vs ts v=none:=by
 unfold bindOf
 rcases idx_spec (fun x:Int=>decide (x=v)) vs with ⟨h1,_⟩ | ⟨i,hi,h1,hy,_⟩
 · rw [if_pos (by omega)]
 · have:vs[i]=v:=by simpa using hy
   exact absurd (this ▸ List.getElem_mem hi) h
theorem applied_free {b:Bnd}:∀ {t:List Int},Free b t→applied b.1 b.2 t=t
 | [],_=>rfl
 | n::t,h=>by
   have ih:=applied_free (b:=b) (t:=t) fun m hm=>h m (List.mem_cons_of_mem _ hm)
   have e:applied b.1 b.2 (n::t)=(bindOf b.1 b.2 (-1 - n)).getD [n]++applied b.1 b.2 t:=by simp [applied]
   rw [e,bindOf_notMem (h n (by simp)),ih]; rfl
theorem applied_nodes {vs:List Int} {ts:List (List Int)} {P:Int→Prop} (ht:∀ x∈ts,∀ n∈x,P n) {t:List Int} (h:∀ n∈t,bindOf vs ts (-1 - n)=none→P n):∀ n∈applied vs ts t,P n:=fun n hn=>by
 unfold applied at hn
 obtain ⟨m,hm,hn⟩:=List.mem_flatMap.1 hn
 cases ho:bindOf vs ts (-1 - m) with
 | none=>rw [ho] at hn; rw [List.mem_singleton.1 hn]; exact h m hm ho
 | some o=>rw [ho] at hn; exact ht o (bindOf_mem ho) n hn
structure UB (l:List Symbol) (b:Bnd):Prop where
 mb:MB l b 12
 nd:b.1.Nodup
 free:∀ t∈b.2,Free b t
theorem UB.nil (l:List Symbol):UB l ([],[]):=⟨(MB.nil l).up (by omega),List.nodup_nil,by simp⟩
theorem UB.le {l:List Symbol} {b:Bnd} (h:UB l b):b.1.length≤12:=h.mb.le
theorem UB.applied_free {l:List Symbol} {b:Bnd} (h:UB l b) (t:List Int):Free b (applied b.1 b.2 t):=applied_nodes h.free fun n _ hn=>bindOf_none h.mb.len hn
theorem UB.applied_ok {l:List Symbol} {b:Bnd} (h:UB l b) {t:List Int} (ht:TermOk l t) (hl:(applied b.1 b.2 t).length≤24):TermOk l (applied b.1 b.2 t):=by
 have hs:=skip_applied h.mb (by omega) t [] 1 ht.skip
 rw [List.append_nil] at hs
 refine ⟨?_,hl,applied_node h.mb ht.node,hs⟩
 rcases Nat.eq_zero_or_pos (applied b.1 b.2 t).length with h0 | h0
 · rw [List.eq_nil_of_length_eq_zero h0] at hs; cases hs
 · exact h0
def one (v:Int) (t:List Int):Bnd:=([v],[t])
def bindAll (b:Bnd) (v:Int) (t:List Int):Option Bnd :=
 if (b.2.any fun x=>decide (24 < (applied [v] [t] x).length))=true then none else some (bput (b.1,b.2.map (applied [v] [t])) v t)
theorem bindOf_one (v:Int) (t:List Int) (w:Int):bindOf [v] [t] w=if v=w then some t else none:=by
 by_cases h:v=w
 · subst h; simp [bindOf,idx]
 · rw [if_neg h]; exact bindOf_notMem (by simpa using fun e=>h e.symm)
theorem one_mb {l:List Symbol} {v:Int} (hv:0≤v∧v≤11) {t:List Int} (ht:TermOk l t):MB l (one v t) 1:=⟨rfl,Nat.le_refl _,fun x hx=>by rw [List.mem_singleton.1 hx]; exact hv,fun x hx=>by rw [List.mem_singleton.1 hx]; exact ht⟩
theorem ins_nodup {l:List Int} {i:Nat} {x:Int} (h:l.Nodup) (hx:x∉l):(ins l i x).Nodup:=by
 unfold ins
 have hp:(l.take i++x::l.drop i).Perm (x::l):=by
  refine List.perm_middle.trans ?_
  rw [List.take_append_drop]
 exact hp.nodup_iff.2 (List.nodup_cons.2 ⟨hx,h⟩)
theorem mem_ins_iff {l:List Int} {i:Nat} {x y:Int}:y∈ins l i x↔y=x∨y∈l:=by
 unfold ins
 constructor
 · intro h
   rcases List.mem_append.1 h with h | h
   · exact .inr (List.mem_of_mem_take h)
   · rcases List.mem_cons.1 h with h | h
     · exact .inl h
     · exact .inr (List.mem_of_mem_drop h)
 · rintro (rfl | h)
   · simp
   · rw [← List.take_append_drop i l,List.mem_append] at h
     rcases h with h | h
     · exact List.mem_append_left _ h
     · exact List.mem_append_right _ (List.mem_cons_of_mem _ h)
theorem pigeon_ub {vs:List Int} (h:vs.Nodup) (hv:∀ v∈vs,0≤v∧v≤11):vs.length≤12:=pigeon 12 vs h fun v hm=>by have:=hv v hm; omega
theorem bindAll_ub {l:List Symbol} {b:Bnd} (h:UB l b) {v:Int} (hv:0≤v∧v≤11) (hnb:v∉b.1) {t:List Int} (ht:TermOk l t) (hf:Free b t) (hvt:(-1 - v)∉t) {b':Bnd} (hb:bindAll b v t=some b') :
 UB l b'∧b'.1.length=b.1.length+1:=by
 unfold bindAll at hb
 split at hb
 · cases hb
 rename_i hany
 cases hb
 have hi:=insAt_le b.1 v
 have hlen:=h.mb.len
 have hmem:∀ w,w∈(bput (b.1,b.2.map (applied [v] [t])) v t).1↔w=v∨w∈b.1:=fun w=>mem_ins_iff
 have hnd:(bput (b.1,b.2.map (applied [v] [t])) v t).1.Nodup:=ins_nodup h.nd hnb
 have hvar:∀ w∈(bput (b.1,b.2.map (applied [v] [t])) v t).1,0≤w∧w≤11:=fun w hw=>by
  rcases (hmem w).1 hw with rfl | hw
  · exact hv
  · exact h.mb.var w hw
 have hl1:(bput (b.1,b.2.map (applied [v] [t])) v t).1.length=b.1.length+1:=ins_length _ _ _ hi
 have hone:=one_mb hv ht
 have tm:∀ x∈(bput (b.1,b.2.map (applied [v] [t])) v t).2,TermOk l x∧Free (bput (b.1,b.2.map (applied [v] [t])) v t) x:=fun x hx=>by
  rcases mem_ins hx with rfl | hx
  · refine ⟨ht,fun n hn hm => ?_⟩
    rcases (hmem _).1 hm with e | hm
    · exact hvt (by have:n = -1 - v:=by omega
                    exact this ▸ hn)
    · exact hf n hn hm
  · obtain ⟨y,hy,rfl⟩:=List.mem_map.1 hx
    have hyo:=h.mb.tm y hy
    have hle:(applied [v] [t] y).length≤24:=by
     rcases Nat.lt_or_ge 24 (applied [v] [t] y).length with h24 | h24
     · exact absurd (List.any_eq_true.2 ⟨y,hy,decide_eq_true h24⟩) hany
     · exact h24
    refine ⟨?_,?_⟩
    · have hs:=skip_applied hone (by omega) y [] 1 hyo.skip
      rw [List.append_nil] at hs
      refine ⟨?_,hle,applied_node hone hyo.node,hs⟩
      rcases Nat.eq_zero_or_pos (applied [v] [t] y).length with h0 | h0
      · have hs:skip (ar l) 1 (applied [v] [t] y)=some []:=hs
        rw [List.eq_nil_of_length_eq_zero h0] at hs; cases hs
      · exact h0
    · refine applied_nodes (P:=fun n=>(-1 - n)∉(bput (b.1,b.2.map (applied [v] [t])) v t).1) (fun z hz n hn hm => ?_) (fun n hn hno hm => ?_)
      · rw [List.mem_singleton.1 hz] at hn
        rcases (hmem _).1 hm with e | hm
        · exact hvt (by have:n = -1 - v:=by omega
                        exact this ▸ hn)
        · exact hf n hn hm
      · rcases (hmem _).1 hm with e | hm
        · rw [bindOf_one,if_pos e.symm] at hno; cases hno
        · exact h.free y hy n hn hm
 refine ⟨⟨⟨?_,?_,hvar,fun x hx=>(tm x hx).1⟩,hnd,fun x hx=>(tm x hx).2⟩,hl1⟩
 · rw [hl1]
   show _=(ins (b.2.map (applied [v] [t])) (insAt b.1 v) t).length
   rw [ins_length _ _ _ (by simp; omega)]; simp; omega
 · exact pigeon_ub hnd hvar
abbrev Pr:=Equation
def argsOf (l:List Symbol) (x y:List Int):List Pr:=((starts l x 0).zip (starts l y 0)).map fun p=>⟨subAt l x p.1,subAt l y p.2⟩
def psize (b:Bnd) (ps:List Pr):Nat:=(ps.map fun p=>(applied b.1 b.2 p.left).length+(applied b.1 b.2 p.right).length).sum
theorem sum_starts {l:List Symbol} {t:List Int} (ht:TermOk l t):∀ {n p:Nat} {r:List Int},skip (ar l) n (t.drop p)=some r→((startsN l t n p).map fun q=>(subAt l t q).length).sum+r.length=t.length - p
 | 0,p,r,h=>by
   rw [skip_zero] at h
   rw [← Option.some.inj h]
   simp [startsN]
 | n+1,p,r,h=>by
   obtain ⟨h1,h2,h3,h4⟩:=skip_one h
   have ih:=sum_starts ht h2
   have hs:=(sub_split ht h1).2.1
   rw [startsN,List.map_cons,List.sum_cons]
   omega
theorem sum_args {l:List Symbol} {t:List Int} (ht:TermOk l t):((starts l t 0).map fun q=>(subAt l t q).length).sum+1=t.length:=by
 have hp:=ht.pos
 obtain ⟨r,hr⟩:=args_skip ht (p:=0) (by omega)
 have hd:t.getD 0 0=t[0]:=getD_at (by omega)
 have h:=sum_starts ht hr
 have hw:=ht.skip
 have e:t=t[0]::t.drop 1:=by
  have:=List.drop_eq_getElem_cons (l:=t) (i:=0) (by omega)
  rwa [List.drop_zero] at this
 rw [e,skip,Nat.zero_add] at hw
 rw [Nat.zero_add,hw] at hr
 have:r=[]:=(Option.some.inj hr).symm
 subst this
 unfold starts
 rw [hd]
 simp at h ⊢
 omega
theorem zip_sum {α β:Type} (f:α→Nat) (g:β→Nat):∀ (A:List α) (B:List β),A.length=B.length→((A.zip B).map fun p=>f p.1+g p.2).sum=(A.map f).sum+(B.map g).sum
 | [],[],_=>rfl
 | a::A,b::B,h=>by
   have ih:=zip_sum f g A B (by simpa using h)
   simp only [List.zip_cons_cons,List.map_cons,List.sum_cons] at ih ⊢
   omega
 | [],_::_,h=>by simp at h
 | _::_,[],h=>by simp at h
theorem subAt_sub {l:List Symbol} {t:List Int} {p:Nat}:∀ n∈subAt l t p,n∈t:=fun n hn=>List.mem_of_mem_take (List.mem_of_mem_drop hn)
theorem args_size {l:List Symbol} {b:Bnd} {x y:List Int} (hx:TermOk l x) (hy:TermOk l y) (fx:Free b x) (fy:Free b y) (he:x.getD 0 0=y.getD 0 0):psize b (argsOf l x y)+2=x.length+y.length:=by
 have e:(argsOf l x y).map (fun p=>(applied b.1 b.2 p.left).length+(applied b.1 b.2 p.right).length)=((starts l x 0).zip (starts l y 0)).map fun p=>(subAt l x p.1).length+(subAt l y p.2).length:=by
  unfold argsOf
  rw [List.map_map]
  refine List.map_congr_left fun p hp => ?_
  show (applied b.1 b.2 (subAt l x p.1)).length+(applied b.1 b.2 (subAt l y p.2)).length=_
  rw [applied_free fun n hn=>fx n (subAt_sub n hn),applied_free fun n hn=>fy n (subAt_sub n hn)]
 have hl:(starts l x 0).length=(starts l y 0).length:=by unfold starts; rw [startsN_length,startsN_length,he]
 unfold psize
 rw [e,zip_sum (fun p=>(subAt l x p).length) (fun q=>(subAt l y q).length) _ _ hl]
 have:=sum_args hx
 have:=sum_args hy
 omega
theorem args_ok {l:List Symbol} {x y:List Int} (hx:TermOk l x) (hy:TermOk l y):∀ p∈argsOf l x y,TermOk l p.left∧TermOk l p.right:=fun p hp=>by
 unfold argsOf at hp
 obtain ⟨q,hq,rfl⟩:=List.mem_map.1 hp
 have h1:=starts_mem hx (p:=0) (by have:=hx.pos; omega) (List.of_mem_zip hq).1
 have h2:=starts_mem hy (p:=0) (by have:=hy.pos; omega) (List.of_mem_zip hq).2
 exact ⟨subAt_ok hx h1.2,subAt_ok hy h2.2⟩
def unif (l:List Symbol):Nat→Bnd→List Pr→Option (Bnd ⊕ Int)
 | 0,_,_=>none
 | _+1,b,[]=>some (.inl b)
 | n+1,b,p::ps =>
   if 24 < (applied b.1 b.2 p.left).length∨24 < (applied b.1 b.2 p.right).length then some (.inr 2)
   else if applied b.1 b.2 p.left=applied b.1 b.2 p.right then unif l n b ps
   else if (applied b.1 b.2 p.left).getD 0 0 < 0 then
    if (applied b.1 b.2 p.left).getD 0 0∈applied b.1 b.2 p.right then some (.inr 4) else match bindAll b (-1 - (applied b.1 b.2 p.left).getD 0 0) (applied b.1 b.2 p.right) with
     | none=>some (.inr 2)
     | some b'=>unif l n b' ps
   else if (applied b.1 b.2 p.right).getD 0 0 < 0 then
    if (applied b.1 b.2 p.right).getD 0 0∈applied b.1 b.2 p.left then some (.inr 4) else match bindAll b (-1 - (applied b.1 b.2 p.right).getD 0 0) (applied b.1 b.2 p.left) with
     | none=>some (.inr 2)
     | some b'=>unif l n b' ps
   else if (applied b.1 b.2 p.left).getD 0 0≠(applied b.1 b.2 p.right).getD 0 0 then some (.inr 4)
   else unif l n b (argsOf l (applied b.1 b.2 p.left) (applied b.1 b.2 p.right)++ps)
theorem unif_mono {l:List Symbol}:∀ {n m:Nat} {b:Bnd} {ps:List Pr} {r:Bnd ⊕ Int},unif l n b ps=some r→n≤m→unif l m b ps=some r
 | 0,m,b,ps,r,h,hm=>by cases h
 | n+1,m,b,ps,r,h,hm=>by
   obtain ⟨m,rfl⟩:∃ q,m=q+1:=⟨m - 1,by omega⟩
   have ih:∀ {b:Bnd} {ps:List Pr} {r:Bnd ⊕ Int},unif l n b ps=some r→unif l m b ps=some r:=fun h=>unif_mono h (by omega)
   cases ps with
   | nil=>exact h
   | cons p ps =>
     rw [unif] at h ⊢
     split at h
     · rename_i c; rw [if_pos c]; exact h
     rename_i c
     rw [if_neg c]
     split at h
     · rename_i c; rw [if_pos c]; exact ih h
     rename_i c
     rw [if_neg c]
     split at h
     · rename_i c
       rw [if_pos c]
       split at h
       · rename_i c; rw [if_pos c]; exact h
       rename_i c
       rw [if_neg c]
       split at h
       · exact h
       · exact ih h
     rename_i c
     rw [if_neg c]
     split at h
     · rename_i c
       rw [if_pos c]
       split at h
       · rename_i c; rw [if_pos c]; exact h
       rename_i c
       rw [if_neg c]
       split at h
       · exact h
       · exact ih h
     rename_i c
     rw [if_neg c]
     split at h
     · rename_i c; rw [if_pos c]; exact h
     rename_i c
     rw [if_neg c]
     exact ih h
theorem UB.head_var {l:List Symbol} {b:Bnd} (h:UB l b) {t:List Int} (hx:TermOk l (applied b.1 b.2 t)) (hn:(applied b.1 b.2 t).getD 0 0 < 0) :
 (0 ≤ -1 - (applied b.1 b.2 t).getD 0 0 ∧ -1 - (applied b.1 b.2 t).getD 0 0≤11) ∧ -1 - (applied b.1 b.2 t).getD 0 0∉b.1:=by
 have hp:=hx.pos
 have hd:(applied b.1 b.2 t).getD 0 0=(applied b.1 b.2 t)[0]:=getD_at (by omega)
 have hm:(applied b.1 b.2 t).getD 0 0∈applied b.1 b.2 t:=by rw [hd]; exact List.getElem_mem _
 have:=nodeOk_iff.1 (hx.node _ hm)
 exact ⟨by omega,h.applied_free t _ hm⟩
theorem unif_ends {l:List Symbol}:∀ (d k:Nat) (b:Bnd) (ps:List Pr),UB l b→(∀ p∈ps,TermOk l p.left∧TermOk l p.right)→12 - b.1.length≤d→psize b ps≤k →
 ∃ n r,unif l n b ps=some r∧∀ b',r = .inl b'→UB l b':=by
 intro d
 induction d with
 | zero =>
   intro k
   induction k using Nat.strongRecOn with
   | _ k ihk=>exact fun b ps=>unif_step 0 k (fun d' hd'=>by omega) ihk b ps
 | succ d ihd =>
   intro k
   induction k using Nat.strongRecOn with
   | _ k ihk=>exact fun b ps=>unif_step (d+1) k (fun d' hd' k b ps h1 h2 h3 h4=>ihd k b ps h1 h2 (by omega) h4) ihk b ps
where
 unif_step {l:List Symbol} (d k:Nat)
  (ihd:∀ d',d' < d→∀ (k:Nat) (b:Bnd) (ps:List Pr),UB l b→(∀ p∈ps,TermOk l p.left∧TermOk l p.right)→12 - b.1.length≤d'→psize b ps≤k→∃ n r,unif l n b ps=some r∧∀ b',r = .inl b'→UB l b')
  (ihk:∀ k',k' < k→∀ (b:Bnd) (ps:List Pr),UB l b→(∀ p∈ps,TermOk l p.left∧TermOk l p.right)→12 - b.1.length≤d→psize b ps≤k'→∃ n r,unif l n b ps=some r∧∀ b',r = .inl b'→UB l b')
  (b:Bnd) (ps:List Pr) (hb:UB l b) (hps:∀ p∈ps,TermOk l p.left∧TermOk l p.right) (hd:12 - b.1.length≤d) (hk:psize b ps≤k):∃ n r,unif l n b ps=some r∧∀ b',r = .inl b'→UB l b':=by
  cases ps with
  | nil=>exact ⟨1,.inl b,rfl,fun b' e=>by cases e; exact hb⟩
  | cons p ps =>
    have hp:=hps p (by simp)
    have hps':∀ q∈ps,TermOk l q.left∧TermOk l q.right:=fun q hq=>hps q (List.mem_cons_of_mem _ hq)
    have hsz:psize b (p::ps)=(applied b.1 b.2 p.left).length+(applied b.1 b.2 p.right).length+psize b ps:=by simp [psize]
    by_cases c1:24 < (applied b.1 b.2 p.left).length∨24 < (applied b.1 b.2 p.right).length
    · exact ⟨1,.inr 2,by rw [unif,if_pos c1],fun _ e=>by cases e⟩
    have hx:=hb.applied_ok hp.1 (by omega)
    have hy:=hb.applied_ok hp.2 (by omega)
    have hxp:=hx.pos
    by_cases c2:applied b.1 b.2 p.left=applied b.1 b.2 p.right
    · obtain ⟨n,r,h1,h2⟩:=ihk (psize b ps) (by omega) b ps hb hps' hd (Nat.le_refl _)
      exact ⟨n+1,r,by rw [unif,if_neg c1,if_pos c2]; exact h1,h2⟩
    have bindcase:∀ (u t:List Int),TermOk l (applied b.1 b.2 u)→TermOk l (applied b.1 b.2 t)→(applied b.1 b.2 u).getD 0 0 < 0→(applied b.1 b.2 u).getD 0 0∉applied b.1 b.2 t→∀ b',bindAll b (-1 - (applied b.1 b.2 u).getD 0 0) (applied b.1 b.2 t)=some b' →
     ∃ n r,unif l n b' ps=some r∧∀ b',r = .inl b'→UB l b':=fun u t hu ht hneg hno b' hb'=>by
     obtain ⟨hv,hnb⟩:=hb.head_var hu hneg
     obtain ⟨q1,q2⟩:=bindAll_ub hb hv hnb ht (hb.applied_free t) (by rw [show -1 - (-1 - (applied b.1 b.2 u).getD 0 0)=(applied b.1 b.2 u).getD 0 0 by omega]; exact hno) hb'
     have:=q1.le
     exact ihd (d - 1) (by omega) (psize b' ps) b' ps q1 hps' (by omega) (Nat.le_refl _)
    by_cases c3:(applied b.1 b.2 p.left).getD 0 0 < 0
    · by_cases c4:(applied b.1 b.2 p.left).getD 0 0∈applied b.1 b.2 p.right
      · exact ⟨1,.inr 4,by rw [unif,if_neg c1,if_neg c2,if_pos c3,if_pos c4],fun _ e=>by cases e⟩
      cases hb':bindAll b (-1 - (applied b.1 b.2 p.left).getD 0 0) (applied b.1 b.2 p.right) with
      | none=>exact ⟨1,.inr 2,by rw [unif,if_neg c1,if_neg c2,if_pos c3,if_neg c4,hb'],fun _ e=>by cases e⟩
      | some b' =>
        obtain ⟨n,r,h1,h2⟩:=bindcase p.left p.right hx hy c3 c4 b' hb'
        exact ⟨n+1,r,by rw [unif,if_neg c1,if_neg c2,if_pos c3,if_neg c4,hb']; exact h1,h2⟩
    by_cases c5:(applied b.1 b.2 p.right).getD 0 0 < 0
    · by_cases c4:(applied b.1 b.2 p.right).getD 0 0∈applied b.1 b.2 p.left
      · exact ⟨1,.inr 4,by rw [unif,if_neg c1,if_neg c2,if_neg c3,if_pos c5,if_pos c4],fun _ e=>by cases e⟩
      cases hb':bindAll b (-1 - (applied b.1 b.2 p.right).getD 0 0) (applied b.1 b.2 p.left) with
      | none=>exact ⟨1,.inr 2,by rw [unif,if_neg c1,if_neg c2,if_neg c3,if_pos c5,if_neg c4,hb'],fun _ e=>by cases e⟩
      | some b' =>
        obtain ⟨n,r,h1,h2⟩:=bindcase p.right p.left hy hx c5 c4 b' hb'
        exact ⟨n+1,r,by rw [unif,if_neg c1,if_neg c2,if_neg c3,if_pos c5,if_neg c4,hb']; exact h1,h2⟩
    by_cases c6:(applied b.1 b.2 p.left).getD 0 0=(applied b.1 b.2 p.right).getD 0 0
    · have ha:=args_size (b:=b) hx hy (hb.applied_free _) (hb.applied_free _) c6
      have happ:psize b (argsOf l (applied b.1 b.2 p.left) (applied b.1 b.2 p.right)++ps)=psize b (argsOf l (applied b.1 b.2 p.left) (applied b.1 b.2 p.right))+psize b ps:=by simp [psize]
      obtain ⟨n,r,h1,h2⟩:=ihk _ (show psize b (argsOf l (applied b.1 b.2 p.left) (applied b.1 b.2 p.right)++ps) < k by omega) b _ hb (fun q hq=>by
       rcases List.mem_append.1 hq with hq | hq
       · exact args_ok hx hy q hq
       · exact hps' q hq) hd (Nat.le_refl _)
      exact ⟨n+1,r,by rw [unif,if_neg c1,if_neg c2,if_neg c3,if_neg c5,if_neg (by simpa using c6)]; exact h1,h2⟩
    · exact ⟨1,.inr 4,by rw [unif,if_neg c1,if_neg c2,if_neg c3,if_neg c5,if_pos c6],fun _ e=>by cases e⟩
end Ev.Ty
end
section
namespace Ev.Ty
open Go Ev
open Enc (enc)
open Sm (sm)
set_option linter.unusedSimpArgs false
set_option linter.unusedVariables false
def shiftT (t:List Int) (by_:Int):List Int:=t.map fun n=>if n < 0 then n - by_ else n
theorem skip_map {a:Int→Nat} {f:Int→Int}:∀ {t:List Int} {k:Nat} {r:List Int},(∀ n∈t,a (f n)=a n)→skip a k t=some r→skip a k (t.map f)=some (r.map f)
 | t,0,r,_,h=>by rw [skip_zero] at h; cases h; rw [skip_zero]
 | [],k+1,r,_,h=>by cases h
 | n::t,k+1,r,hf,h=>by
   rw [skip] at h
   rw [List.map_cons,skip,hf n (by simp)]
   exact skip_map (fun m hm=>hf m (List.mem_cons_of_mem _ hm)) h
theorem shift_ok {l:List Symbol} {t:List Int} (ht:TermOk l t) (hlow:∀ n∈t,-6≤n):TermOk l (shiftT t 6):=by
 refine ⟨by unfold shiftT; rw [List.length_map]; exact ht.pos,by unfold shiftT; rw [List.length_map]; exact ht.le,fun n hn => ?_,?_⟩
 · unfold shiftT at hn
   obtain ⟨m,hm,rfl⟩:=List.mem_map.1 hn
   have h1:=nodeOk_iff.1 (ht.node m hm)
   have h2:=hlow m hm
   rw [nodeOk_iff]
   split <;> omega
 · refine skip_map (fun n hn => ?_) ht.skip
   by_cases h:n < 0
   · rw [if_pos h,ar_neg l h,ar_neg l (by omega)]
   · rw [if_neg h]
theorem applied_ge {b:Bnd} {l:List Symbol} {k:Nat} (hb:MB l b k):∀ t:List Int,t.length≤(applied b.1 b.2 t).length
 | []=>by simp [applied]
 | n::t=>by
   have ih:=applied_ge hb t
   have e:applied b.1 b.2 (n::t)=(bindOf b.1 b.2 (-1 - n)).getD [n]++applied b.1 b.2 t:=by simp [applied]
   rw [e,List.length_append,List.length_cons]
   cases ho:bindOf b.1 b.2 (-1 - n) with
   | none=>simp; omega
   | some o =>
     have:=(hb.tm o (bindOf_mem ho)).pos
     simp; omega
def pstep (seen:List Int) (n:Int):Int × List Int :=
 if 0≤n then (n,seen) else if idx (fun x=>decide (x=n)) seen < 0 then (-1 - (seen.length:Int),seen++[n]) else (-1 - idx (fun x=>decide (x=n)) seen,seen)
def plainL:List Int→List Int→List Int × List Int
 | seen,[]=>([],seen)
 | seen,n::t=>((pstep seen n).1::(plainL (pstep seen n).2 t).1,(plainL (pstep seen n).2 t).2)
theorem plainL_append:∀ (seen a b:List Int),plainL seen (a++b)=((plainL seen a).1++(plainL (plainL seen a).2 b).1,(plainL (plainL seen a).2 b).2)
 | seen,[],b=>rfl
 | seen,n::a,b=>by
   rw [List.cons_append,plainL,plainL_append,plainL]; rfl
theorem plainL_length:∀ (seen t:List Int),(plainL seen t).1.length=t.length∧(plainL seen t).2.length≤seen.length+t.length∧seen.length≤(plainL seen t).2.length
 | seen,[]=>⟨rfl,by simp [plainL],by simp [plainL]⟩
 | seen,n::t=>by
   have ih:=plainL_length (pstep seen n).2 t
   have hp:(pstep seen n).2.length≤seen.length+1∧seen.length≤(pstep seen n).2.length:=by
    unfold pstep
    split
    · exact ⟨by simp,by simp⟩
    split
    · simp
    · exact ⟨by simp,by simp⟩
   rw [plainL]
   simp only [List.length_cons]
   omega
theorem plainL_node:∀ (seen t:List Int),∀ m∈(plainL seen t).1,(0≤m∧m∈t)∨(m < 0 ∧ -((plainL seen t).2.length:Int)≤m)
 | seen,[],m,h=>by cases h
 | seen,n::t,m,h=>by
   rw [plainL] at h ⊢
   have hl:=(plainL_length (pstep seen n).2 t).2.2
   rcases List.mem_cons.1 h with rfl | h
   · unfold pstep at hl ⊢
     split
     · exact .inl ⟨by assumption,by simp⟩
     rename_i h0
     rw [if_neg h0] at hl
     split
     · rename_i h1
       rw [if_pos h1] at hl
       simp only [List.length_append,List.length_singleton] at hl
       exact .inr ⟨by simp only; omega,by simp only; omega⟩
     · rename_i h1
       rw [if_neg h1] at hl
       rcases idx_spec (fun x:Int=>decide (x=n)) seen with ⟨h2,_⟩ | ⟨i,hi,h2,_⟩
       · omega
       · simp only at hl ⊢
         exact .inr ⟨by omega,by omega⟩
   · rcases plainL_node (pstep seen n).2 t m h with h | h
     · exact .inl ⟨h.1,List.mem_cons_of_mem _ h.2⟩
     · exact .inr h
def plainE (e:Equation):Equation:=⟨(plainL [] e.left).1,(plainL (plainL [] e.left).2 e.right).1⟩
def seenE (e:Equation):List Int:=(plainL (plainL [] e.left).2 e.right).2
theorem plainL_skip {l:List Symbol}:∀ (t seen r:List Int) (k:Nat),skip (ar l) k t=some r→∃ r',skip (ar l) k (plainL seen t).1=some r'∧r'.length=r.length
 | [],seen,r,k,h=>by
   obtain ⟨rfl,rfl⟩:=skip_nil h
   exact ⟨[],by rw [skip_zero]; rfl,rfl⟩
 | n::t,seen,r,0,h=>by
   rw [skip_zero] at h
   cases h
   exact ⟨_,skip_zero _,(plainL_length seen (n::t)).1⟩
 | n::t,seen,r,k+1,h=>by
   rw [skip] at h
   obtain ⟨r',h1,h2⟩:=plainL_skip t (pstep seen n).2 r _ h
   refine ⟨r',?_,h2⟩
   rw [plainL,skip]
   have e:ar l (pstep seen n).1=ar l n:=by
    unfold pstep
    split
    · rfl
    rename_i h0
    split
    · rw [ar_neg l (by simp only; omega),ar_neg l (by omega)]
    · rename_i h1
      rw [ar_neg l (by simp only; omega),ar_neg l (by omega)]
   rw [e]
   exact h1
theorem plain_term {l:List Symbol} {t seen:List Int} (ht:TermOk l t) (h6:(plainL seen t).2.length≤6):TermOk l (plainL seen t).1∧∀ n∈(plainL seen t).1,-6≤n:=by
 have hl:=(plainL_length seen t).1
 obtain ⟨r',h1,h2⟩:=plainL_skip (l:=l) t seen [] 1 ht.skip
 have:r'=[]:=List.eq_nil_of_length_eq_zero h2
 subst this
 refine ⟨⟨by rw [hl]; exact ht.pos,by rw [hl]; exact ht.le,fun n hn => ?_,h1⟩,fun n hn => ?_⟩
 · rcases plainL_node seen t n hn with ⟨q1,q2⟩ | ⟨q1,q2⟩
   · exact ht.node n q2
   · rw [nodeOk_iff]; omega
 · rcases plainL_node seen t n hn with ⟨q1,_⟩ | ⟨_,q2⟩ <;> omega
theorem plain_ok {l:List Symbol} {e:Equation} (hl:TermOk l e.left) (hr:TermOk l e.right) (h6:(seenE e).length≤6):EqOk l (plainE e):=by
 have h1:=(plainL_length (plainL [] e.left).2 e.right).2.2
 have h2:(plainL (plainL [] e.left).2 e.right).2.length≤6:=h6
 obtain ⟨q1,q2⟩:=plain_term (seen:=[]) hl (by omega)
 obtain ⟨q3,q4⟩:=plain_term (seen:=(plainL [] e.left).2) hr h2
 exact ⟨q1,q3,q2,q4⟩
open Classical in
noncomputable def unifR (l:List Symbol) (a b:List Int):Bnd ⊕ Int:=if h:∃ n r,unif l n ([],[]) [⟨a,b⟩]=some r then Classical.choose (Classical.choose_spec h) else .inr 0
theorem unifR_spec {l:List Symbol} {a b:List Int} (ha:TermOk l a) (hb:TermOk l b):(∃ n,unif l n ([],[]) [⟨a,b⟩]=some (unifR l a b))∧∀ x,unifR l a b = .inl x→UB l x:=by
 obtain ⟨n,r,h1,h2⟩:=unif_ends (l:=l) 12 _ ([],[]) [⟨a,b⟩] (UB.nil l) (fun p hp=>by rw [List.mem_singleton.1 hp]; exact ⟨ha,hb⟩) (by simp) (Nat.le_refl _)
 have h:∃ n r,unif l n ([],[]) [⟨a,b⟩]=some r:=⟨n,r,h1⟩
 have e:unifR l a b=Classical.choose (Classical.choose_spec h):=by unfold unifR; rw [dif_pos h]
 have hs:=Classical.choose_spec (Classical.choose_spec h)
 rw [← e] at hs
 refine ⟨⟨_,hs⟩,fun x hx => ?_⟩
 have:unifR l a b=r:=by
  have q1:=unif_mono hs (Nat.le_max_left _ n)
  have q2:=unif_mono h1 (Nat.le_max_right (Classical.choose h) n)
  rw [q1] at q2
  exact Option.some.inj q2
 exact h2 x (this ▸ hx)
noncomputable def peakR (l:List Symbol) (o i:Equation) (p:Nat):EquationResult:=match unifR l (subAt l o.left p) (shiftT i.left 6) with
 | .inr c=>⟨c,⟨[],[]⟩⟩
 | .inl b =>
   if 24 < (applied b.1 b.2 o.right).length∨24 < (applied b.1 b.2 (replAt l o.left p (shiftT i.right 6))).length then ⟨2,⟨[],[]⟩⟩
   else if 6 < (seenE ⟨applied b.1 b.2 o.right,applied b.1 b.2 (replAt l o.left p (shiftT i.right 6))⟩).length then ⟨2,⟨[],[]⟩⟩
   else ⟨0,plainE ⟨applied b.1 b.2 o.right,applied b.1 b.2 (replAt l o.left p (shiftT i.right 6))⟩⟩
end Ev.Ty
end
section
namespace Ev.Ty
open Go Ev
open Enc (enc)
open Sm (sm)
set_option linter.unusedSimpArgs false
set_option linter.unusedVariables false
theorem ins_take {α:Type} {l:List α} {i k:Nat} (x:α) (hi:i≤k) (hk:k < l.length):(ins l i x).take (k+2)=(ins l i x).take (k+1)++[l[k]]:=by
 have hlen:=ins_length l i x (by omega)
 have h:k+1 < (ins l i x).length:=by omega
 have e:(ins l i x)[k+1]=l[k]:=by
  have:=ins_get l x i (by omega) (k+1)
  rw [if_neg (by omega),if_neg (by omega),Nat.add_sub_cancel,List.getElem?_eq_getElem hk] at this
  have h2:(ins l i x)[k+1]?=some l[k]:=this
  rw [List.getElem?_eq_getElem h] at h2
  exact Option.some.inj h2
 rw [← e]
 exact (List.take_append_getElem h).symm
theorem ins_take_eq {α:Type} {l:List α} {i:Nat} (x:α) (hi:i≤l.length):(ins l i x).take (i+1)=l.take i++[x]:=by
 unfold ins
 rw [List.take_append,List.take_of_length_le (by simp; omega)]
 simp [Nat.min_eq_left hi]
theorem ins_end {α:Type} (l:List α) (x:α):ins l l.length x=l++[x]:=by simp [ins]
theorem slices_Insert_Sint64 (vs:List Int) (i:Nat) (v:Int) (hi:i≤vs.length) (hl:vs.length < 4294967296):Call F.slices_Insert_Sint64 [slc vs,.int .i64 i,.sl 1 [.int .i64 v]] (slc (ins vs i v)):=by
 refine lim_ext (e:=insE 8) rfl (Ev.of fun m => ?_)
 have hc:(cells vs).length=vs.length:=by rw [cells_length,sz_int,Nat.mul_one]
 show (bif _ then _ else _)=_
 rw [cond_pos (by simp [hc,hl,Nat.ble_eq]; omega)]
 have e1:=cells_take vs 1 i rfl
 have e2:=cells_drop vs 1 i rfl
 rw [Nat.mul_one] at e1 e2
 rw [Int.toNat_natCast,e1,e2]
 show some (T.sl 1 (cells (vs.take i)++T.int .i64 v::cells (vs.drop i)),[])=_
 unfold ins slc
 rw [cells_append,cells_cons]
 rfl
theorem slices_Insert_SSint64 (ts:List (List Int)) (i:Nat) (t:List Int) (hi:i≤ts.length) (hl:ts.length < 4294967296):Call F.slices_Insert_SSint64 [slc ts,.int .i64 i,.sl 1 [slc t]] (slc (ins ts i t)):=by
 refine lim_ext (e:=insE 24) rfl (Ev.of fun m => ?_)
 have hc:(cells ts).length=ts.length:=by rw [cells_length,show Enc.sz (List Int)=1 from rfl,Nat.mul_one]
 show (bif _ then _ else _)=_
 rw [cond_pos (by simp [hc,hl,Nat.ble_eq]; omega)]
 have e1:=cells_take ts 1 i rfl
 have e2:=cells_drop ts 1 i rfl
 rw [Nat.mul_one] at e1 e2
 rw [Int.toNat_natCast,e1,e2]
 show some (T.sl 1 (cells (ts.take i)++slc t::cells (ts.drop i)),[])=_
 unfold ins
 show _=some (T.sl 1 (cells (ts.take i++t::ts.drop i)),[])
 rw [cells_append,cells_cons]
 rfl
theorem impl_Binding_bind (vs:List Int) (ts:List (List Int)) (v:Int) (t:List Int) (hl:vs.length=ts.length) (hs:vs.length≤1000) (ht:t.length≤4294967296) :
 LIM F.impl_Binding_bind [.rref [slc vs,slc ts] 0,.int .i64 v,slc t]=some (.tup [],[.agg [slc (bput (vs,ts) v t).1,slc (bput (vs,ts) v t).2]]):=by
 have hi:=insAt_le vs v
 refine call2_of rfl 1002 ((impl_Binding_bind.ev _ _ _ _ _).trans ?_)
 have loop:∀ n k f,k+n=insAt vs v→n < f→impl_Binding_bind.at0 1002 f (impl_Binding_bind.st0 v (cells t) (k:Nat) (cells vs) (cells ts))=some (.tup [],[.agg [slc (bput (vs,ts) v t).1,slc (bput (vs,ts) v t).2]]):=by
  intro n
  induction n with
  | zero =>
    intro k f hk hf
    obtain ⟨f,rfl⟩:∃ x,f=x+1:=⟨f - 1,by omega⟩
    obtain rfl:k=insAt vs v:=by omega
    have q1:=(slices_Insert_Sint64 vs (insAt vs v) v hi (by omega)).eq
    have q2:=(slices_Insert_SSint64 ts (insAt vs v) t (by omega) (by omega)).eq
    by_cases h:insAt vs v < vs.length
    · have hs:=insAt_stop vs v h
      have hlk:vs[insAt vs v]?=some vs[insAt vs v]:=List.getElem?_eq_getElem h
      simp only [impl_Binding_bind.next0,impl_Binding_bind.round0,evz,Nat.reduceLT,h,hlk,enc_int,hs,q1,(slices_Clone_Sint64 t ht).eq,q2]
      rfl
    · simp only [impl_Binding_bind.next0,impl_Binding_bind.round0,evz,Nat.reduceLT,h,q1,(slices_Clone_Sint64 t ht).eq,q2]
      rfl
  | succ n ih =>
    intro k f hk hf
    obtain ⟨f,rfl⟩:∃ x,f=x+1:=⟨f - 1,by omega⟩
    have h:k < vs.length:=by omega
    have hlt:=insAt_lt vs v k (by omega) h
    have hlk:vs[k]?=some vs[k]:=List.getElem?_eq_getElem h
    simp only [impl_Binding_bind.next0,impl_Binding_bind.round0,evz,Nat.reduceLT,h,hlk,enc_int,hlt]
    rw [wrap_succ (by omega)]
    exact ih (k+1) f (by omega) (by omega)
 exact loop (insAt vs v) 0 1002 (by omega) (by omega)
def withSt (vs:List Int) (ts:List (List Int)) (v:Int) (t:List Int) (k:Nat):Bool × List Int × List (List Int) :=
 if k≤insAt vs v then (false,vs.take k,ts.take k) else (true,(ins vs (insAt vs v) v).take (k+1),(ins ts (insAt vs v) t).take (k+1))
theorem spec_l6With (vs:List Int) (ts:List (List Int)) (v:Int) (t:List Int) (hl:vs.length=ts.length) (hs:vs.length≤1000) (ht:t.length≤4096) (hv:v∉vs) (htm:∀ x∈ts,x.length≤4096) :
 Call F.spec_l6With [.rref [slc vs,slc ts] 0,.int .i64 v,slc t] (.agg [slc (bput (vs,ts) v t).1,slc (bput (vs,ts) v t).2]):=by
 have hi:=insAt_le vs v
 refine call_of rfl 1002 ((spec_l6With.ev _ _ _ _ _).trans ?_)
 have key:=run_loop (n:=vs.length) (f:=1002) (S:=fun m k (s:Bool × List Int × List (List Int))=>spec_l6With.at0 1002 m (spec_l6With.st0 (cells vs) (cells ts) v (cells t) s.1 (k:Nat) (cells s.2.1) (cells s.2.2)))
  (st:=withSt vs ts v t) (z:=some (.agg [slc (bput (vs,ts) v t).1,slc (bput (vs,ts) v t).2],[])) (fun m k h => ?_) (fun m => ?_) (by omega)
 · have e0:withSt vs ts v t 0=(false,[],[]):=by unfold withSt; rw [if_pos (Nat.zero_le _)]; rfl
   rw [e0] at key
   exact key
 · have h':k < ts.length:=by omega
   have hlk:vs[k]?=some vs[k]:=List.getElem?_eq_getElem h
   have htk:ts[k]?=some ts[k]:=List.getElem?_eq_getElem h'
   have hx:=(spec_l1Ints' ts[k] (by have:=htm _ (List.getElem_mem h'); omega)).eq
   have hx2:=(spec_l1Ints' t (by omega)).eq
   have hne:vs[k]≠v:=fun e=>hv (e ▸ List.getElem_mem h)
   have len1:∀ q,((cells (vs.take q)).length)≤1000:=fun q=>by rw [cells_length,sz_int]; simp; omega
   have len2:∀ q,((cells (ts.take q)).length)≤1000:=fun q=>by rw [cells_length,show Enc.sz (List Int)=1 from rfl]; simp; omega
   have len3:∀ q,((cells ((ins vs (insAt vs v) v).take q)).length)≤1001:=fun q=>by rw [cells_length,sz_int,List.length_take,ins_length _ _ _ hi]; omega
   have len4:∀ q,((cells ((ins ts (insAt vs v) t).take q)).length)≤1001:=fun q=>by rw [cells_length,show Enc.sz (List Int)=1 from rfl,List.length_take,ins_length _ _ _ (by omega)]; omega
   have tk1:vs.take (k+1)=vs.take k++[vs[k]]:=(List.take_append_getElem h).symm
   have tk2:ts.take (k+1)=ts.take k++[ts[k]]:=(List.take_append_getElem h').symm
   rcases Nat.lt_trichotomy k (insAt vs v) with c | c | c
   · have hlt:=insAt_lt vs v k c h
     have hgt:¬ vs[k] > v:=by omega
     have e1:withSt vs ts v t k=(false,vs.take k,ts.take k):=if_pos (by omega)
     have e2:withSt vs ts v t (k+1)=(false,vs.take k++[vs[k]],ts.take k++[ts[k]]):=by unfold withSt; rw [if_pos (by omega),tk1,tk2]
     rw [e1,e2]
     simp only [spec_l6With.next0,spec_l6With.round0,evz,Nat.reduceLT,h,h',hlk,htk,enc_int,enc_list,hgt,hx,cells_snoc_int,cells_snoc_list]
     rw [cond_pos (ble_ok (by have:=len1 k; omega)),cond_pos (ble_ok (by have:=len2 k; omega)),wrap_succ (by omega)]
   · have hs:=insAt_stop vs v (by omega)
     have hs:¬ vs[k] < v:=by
      have:vs[insAt vs v]'(by omega)=vs[k]:=by congr 1; omega
      rw [this] at hs; exact hs
     have hgt:vs[k] > v:=by omega
     have e1:withSt vs ts v t k=(false,vs.take k,ts.take k):=if_pos (by omega)
     have e2:withSt vs ts v t (k+1)=(true,(vs.take k++[v])++[vs[k]],(ts.take k++[t])++[ts[k]]):=by
      unfold withSt
      rw [if_neg (by omega),← c,ins_take v (Nat.le_refl _) h,ins_take t (Nat.le_refl _) h',ins_take_eq v (by omega),ins_take_eq t (by omega)]
     rw [e1,e2]
     simp only [spec_l6With.next0,spec_l6With.round0,evz,Nat.reduceLT,h,h',hlk,htk,enc_int,enc_list,hgt,hx,hx2,cells_snoc_int,cells_snoc_list]
     have l1:=len1 k
     have l2:=len2 k
     have l3:(cells (vs.take k++[v])).length≤1001:=by rw [cells_append,List.length_append,cells_length [v]]; simp; omega
     have l4:(cells (ts.take k++[t])).length≤1001:=by rw [cells_append,List.length_append,cells_length [t]]; simp [show Enc.sz (List Int)=1 from rfl]; omega
     rw [cond_pos (ble_ok (by omega)),cond_pos (ble_ok (by omega)),cond_pos (ble_ok (by omega)),cond_pos (ble_ok (by omega)),wrap_succ (by omega)]
   · have e1:withSt vs ts v t k=(true,(ins vs (insAt vs v) v).take (k+1),(ins ts (insAt vs v) t).take (k+1)):=if_neg (by omega)
     have e2:withSt vs ts v t (k+1)=(true,(ins vs (insAt vs v) v).take (k+1)++[vs[k]],(ins ts (insAt vs v) t).take (k+1)++[ts[k]]):=by
      unfold withSt
      rw [if_neg (by omega),ins_take v (by omega) h,ins_take t (by omega) h']
     rw [e1,e2]
     simp only [spec_l6With.next0,spec_l6With.round0,evz,Nat.reduceLT,h,h',hlk,htk,enc_int,enc_list,hx,cells_snoc_int,cells_snoc_list]
     rw [cond_pos (ble_ok (by have:=len3 (k+1); omega)),cond_pos (ble_ok (by have:=len4 (k+1); omega)),wrap_succ (by omega)]
 · have hx2:=(spec_l1Ints' t (by omega)).eq
   by_cases c:insAt vs v=vs.length
   · have e1:withSt vs ts v t vs.length=(false,vs,ts):=by
      unfold withSt
      rw [if_pos (by omega),List.take_length,hl,List.take_length]
     have e2:bput (vs,ts) v t=(vs++[v],ts++[t]):=by
      unfold bput
      rw [c,ins_end]
      simp only [Prod.mk.injEq,true_and]
      rw [hl,ins_end]
     rw [e1,e2]
     simp only [spec_l6With.next0,spec_l6With.round0,evz,Nat.reduceLT,Nat.lt_irrefl,hx2,cells_snoc_int,cells_snoc_list]
     rw [cond_pos (ble_ok (by rw [cells_length,sz_int]; omega)),cond_pos (ble_ok (by rw [cells_length,show Enc.sz (List Int)=1 from rfl]; omega))]
   · have e1:withSt vs ts v t vs.length=(true,ins vs (insAt vs v) v,ins ts (insAt vs v) t):=by
      unfold withSt
      rw [if_neg (by omega),List.take_of_length_le (by rw [ins_length _ _ _ hi]; omega),List.take_of_length_le (by rw [ins_length _ _ _ (by omega)]; omega)]
     rw [e1]
     simp only [spec_l6With.next0,spec_l6With.round0,evz,Nat.reduceLT,Nat.lt_irrefl]
     rfl
def mT:Option Bnd→T
 | none => .tup [.agg [.sl 1 [],.sl 1 []],.bool false]
 | some b => .tup [.agg [slc b.1,slc b.2],.bool true]
section
variable {l:List Symbol} (ok:SigOk ⟨l⟩)
include ok
theorem impl_match {pat u:List Int} (hq:TermOk l pat) (hu:TermOk l u):Call F.impl_match [.agg [slc l],slc pat,slc u] (mT (matchAt l pat u 0)):=by
 have hul:=hu.le
 have hpl:=hq.le
 refine call_of rfl 25 ((impl_match.ev _ _ _ _).trans ?_)
 simp only [cells_div,sz_int]
 have loop:∀ (q:List Int) (b:Bnd) (p k f:Nat),pat.drop k=q→q.length < f→Both l u q p []→MB l b k→k+q.length=pat.length →
  impl_match.at0 25 f (impl_match.st0 (cells u) (p:Nat) (cells pat) pat.length (k:Nat) (cells l) (cells b.1) (cells b.2)) =
   some (match mgo l u q b p with | none=>T.tup [.agg [.sl 1 [],.sl 1 []],.bool false] | some x => .tup [.agg [slc x.1.1,slc x.1.2],.bool (decide (x.2=u.length))],[]):=by
  intro q
  induction q with
  | nil =>
    intro b p k f hd hf hB hb hk
    obtain ⟨f,rfl⟩:∃ x,f=x+1:=⟨f - 1,by omega⟩
    have h:¬ k < pat.length:=by simp at hk; omega
    simp only [impl_match.next0,impl_match.round0,evz,Nat.reduceLT,h,mgo,Int.ofNat_inj]
  | cons n q ih =>
    intro b p k f hd hf hB hb hk
    rw [List.length_cons] at hf hk
    obtain ⟨f,rfl⟩:∃ x,f=x+1:=⟨f - 1,by omega⟩
    have h:k < pat.length:=by omega
    have hn:pat[k]=n:=by
     have:=congrArg (fun x=>x[0]?) hd
     simp only [List.getElem?_drop,Nat.add_zero,List.getElem?_cons_zero] at this
     rw [List.getElem?_eq_getElem h] at this
     exact Option.some.inj this
    have hd':pat.drop (k+1)=q:=by rw [← List.drop_drop,hd]; rfl
    have hlk:pat[k]?=some n:=by rw [List.getElem?_eq_getElem h,hn]
    have hp:=hB.lt
    have hpk:u[p]?=some u[p]:=List.getElem?_eq_getElem hp
    have hnode:=nodeOk_iff.1 (hq.node n (hn ▸ List.getElem_mem h))
    have hp':¬ ((p:Int) ≥ (u.length:Int)):=by omega
    have hls:l.length≤6:=ok.le
    obtain ⟨h3,h4,_⟩:=endAt_spec hu hp
    have hsl:=(sub_split hu hp).2.1
    rw [mgo,if_neg (by omega)]
    by_cases c:0≤n
    · have c':n ≥ 0:=c
      rw [if_pos c,getD_at hp]
      by_cases e:u[p]=n
      · simp only [impl_match.next0,impl_match.round0,evz,Nat.reduceLT,h,hlk,hp,hpk,hp',enc_int,c',e]
        rw [wrap_succ (by omega),wrap_succ (by omega)]
        exact ih b (p+1) (k+1) f hd' (by omega) (hB.node (by rw [getD_at hp,e])) (hb.up (by omega)) (by omega)
      · simp only [impl_match.next0,impl_match.round0,evz,Nat.reduceLT,h,hlk,hp,hpk,hp',enc_int,c',e]
    · have c':¬ n ≥ 0:=c
      rw [if_neg c]
      have hof:=(impl_Binding_of b.1 b.2 (-1 - n) hb.len (by have:=hb.le; omega)).eq
      have hB':=hB.var hu (by omega)
      have hw:IntKind.wrap .i64 (-1 - n) = -1 - n:=wrap64 (by omega)
      have hw2:IntKind.wrap .i64 ((p:Int)+((subAt l u p).length:Nat))=((p+(subAt l u p).length:Nat):Int):=by rw [wrap64 (by omega)]; omega
      have hsub:=(impl_subterm ok hu hp).eq
      have hbl:=hb.le
      cases hbo:bindOf b.1 b.2 (-1 - n) with
      | none =>
        rw [hbo] at hof
        have hbind:=impl_Binding_bind b.1 b.2 (-1 - n) (subAt l u p) hb.len (by omega) (by omega)
        simp only [impl_match.next0,impl_match.round0,evz,Nat.reduceLT,h,hlk,hp',enc_int,c',hsub,hw,hof,ofT,scalars_int,hbind,hw2]
        rw [wrap_succ (by omega)]
        exact ih (bput b (-1 - n) (subAt l u p)) _ (k+1) f hd' (by omega) hB' (hb.put (by omega) (subAt_ok hu hp)) (by omega)
      | some o =>
        rw [hbo] at hof
        have ho:=hb.tm o (bindOf_mem hbo)
        have hol:=ho.le
        have heq:=(slices_Equal_Sint64 o (subAt l u p) ⟨by omega,fun _ _=>trivial⟩).eq
        show _=some (match (if o=subAt l u p then mgo l u q b (p+(subAt l u p).length) else none) with | none=>_ | some x=>_,[])
        by_cases e:o=subAt l u p
        · rw [if_pos e]
          rw [e] at heq
          simp only [impl_match.next0,impl_match.round0,evz,Nat.reduceLT,h,hlk,hp',enc_int,c',hsub,hw,hof,ofT,scalars_int,heq,e,hw2]
          rw [wrap_succ (by omega)]
          exact ih b _ (k+1) f hd' (by omega) hB' (hb.up (by omega)) (by omega)
        · rw [if_neg e]
          simp only [impl_match.next0,impl_match.round0,evz,Nat.reduceLT,h,hlk,hp',enc_int,c',hsub,hw,hof,ofT,scalars_int,heq,e]
 have hpos:=hu.pos
 have e0:u.drop (endAt l u 0)=[]:=by
  have:=(sub_split hu (p:=0) (by omega)).2.2
  rw [List.drop_zero,hu.skip] at this
  exact (Option.some.inj this).symm
 have hB:=Both.start hu hq (p:=0) (by omega)
 rw [e0] at hB
 have hmain:=loop pat ([],[]) 0 0 25 rfl (by omega) hB (MB.nil l) (by omega)
 have hen:=mgo_end hu pat ([],[]) 0 0 hB (by omega) (MB.nil l) (by omega) hq.node
 unfold matchAt
 cases hm:mgo l u pat ([],[]) 0 with
 | none=>rw [hm] at hmain; exact hmain
 | some x =>
   rw [hm] at hmain
   obtain ⟨h1,h2,_⟩:=hen x hm
   have hx:x.2=u.length:=by
    have:=congrArg List.length h1
    rw [List.length_drop] at this
    simp at this
    omega
   have hmain:impl_match.at0 25 25 (impl_match.st0 (cells u) (0:Nat) (cells pat) pat.length (0:Nat) (cells l) (cells ([]:List Int)) (cells ([]:List (List Int))))=some (T.tup [.agg [slc x.1.1,slc x.1.2],.bool (decide (x.2=u.length))],[]):=hmain
   rw [hx,decide_eq_true rfl] at hmain
   exact hmain
theorem spec_l6Match {pat u:List Int} (hq:TermOk l pat) (hu:TermOk l u) {p0:Nat} (hp0:p0 < u.length):Call F.spec_l6Match [.rref [slc l] 0,slc pat,slc u,.int .i64 p0] (mT (matchAt l pat u p0)):=by
 have hul:=hu.le
 have hpl:=hq.le
 refine call_of rfl 25 ((spec_l6Match.ev _ _ _ _ _).trans ?_)
 have loop:∀ (q:List Int) (b:Bnd) (p k f:Nat),pat.drop k=q→q.length < f→Both l u q p (u.drop (endAt l u p0))→MB l b k→k+q.length=pat.length →
  spec_l6Match.at0 25 f (spec_l6Match.st0 (cells l) (cells pat) (cells u) (p:Nat) (k:Nat) (cells b.1) (cells b.2))=some (mT ((mgo l u q b p).map (·.1)),[]):=by
  intro q
  induction q with
  | nil =>
    intro b p k f hd hf hB hb hk
    obtain ⟨f,rfl⟩:∃ x,f=x+1:=⟨f - 1,by omega⟩
    have h:¬ k < pat.length:=by simp at hk; omega
    simp only [spec_l6Match.next0,spec_l6Match.round0,evz,Nat.reduceLT,h,mgo,Option.map_some,mT]
  | cons n q ih =>
    intro b p k f hd hf hB hb hk
    rw [List.length_cons] at hf hk
    obtain ⟨f,rfl⟩:∃ x,f=x+1:=⟨f - 1,by omega⟩
    have h:k < pat.length:=by omega
    have hn:pat[k]=n:=by
     have:=congrArg (fun x=>x[0]?) hd
     simp only [List.getElem?_drop,Nat.add_zero,List.getElem?_cons_zero] at this
     rw [List.getElem?_eq_getElem h] at this
     exact Option.some.inj this
    have hd':pat.drop (k+1)=q:=by rw [← List.drop_drop,hd]; rfl
    have hlk:pat[k]?=some n:=by rw [List.getElem?_eq_getElem h,hn]
    have hp:=hB.lt
    have hpk:u[p]?=some u[p]:=List.getElem?_eq_getElem hp
    have hnode:=nodeOk_iff.1 (hq.node n (hn ▸ List.getElem_mem h))
    have hp':¬ ((p:Int) ≥ (u.length:Int)):=by omega
    have hls:l.length≤6:=ok.le
    obtain ⟨h3,h4,_⟩:=endAt_spec hu hp
    have hsl:=(sub_split hu hp).2.1
    rw [mgo,if_neg (by omega)]
    by_cases c:0≤n
    · have c':n ≥ 0:=c
      rw [if_pos c,getD_at hp]
      by_cases e:u[p]=n
      · simp only [spec_l6Match.next0,spec_l6Match.round0,evz,Nat.reduceLT,h,hlk,hp,hpk,hp',enc_int,c',e]
        rw [wrap_succ (by omega),wrap_succ (by omega)]
        exact ih b (p+1) (k+1) f hd' (by omega) (hB.node (by rw [getD_at hp,e])) (hb.up (by omega)) (by omega)
      · simp only [spec_l6Match.next0,spec_l6Match.round0,evz,Nat.reduceLT,h,hlk,hp,hpk,hp',enc_int,c',e,Option.map_none,mT]
    · have c':¬ n ≥ 0:=c
      rw [if_neg c]
      have hof:=(spec_l6Term b.1 b.2 (-1 - n) hb.len (by have:=hb.le; omega)).eq
      have hB':=hB.var hu (by omega)
      have hw:IntKind.wrap .i64 (-1 - n) = -1 - n:=wrap64 (by omega)
      have hw2:IntKind.wrap .i64 ((p:Int)+((subAt l u p).length:Nat))=((p+(subAt l u p).length:Nat):Int):=by rw [wrap64 (by omega)]; omega
      have hsub:=(spec_l3Sub ok hu hp).eq
      have hbl:=hb.le
      cases hbo:bindOf b.1 b.2 (-1 - n) with
      | none =>
        rw [hbo] at hof
        have hbind:=(spec_l6With b.1 b.2 (-1 - n) (subAt l u p) hb.len (by omega) (by omega) (bindOf_none hb.len hbo) fun x hx=>by have:=(hb.tm x hx).le; omega).eq
        simp only [spec_l6Match.next0,spec_l6Match.round0,evz,Nat.reduceLT,h,hlk,hp',enc_int,c',hsub,hw,hof,Option.getD_none,scalars_int,hbind,hw2,List.length_nil,Int.natCast_zero,Int.ofNat_zero]
        rw [wrap_succ (by omega)]
        exact ih (bput b (-1 - n) (subAt l u p)) _ (k+1) f hd' (by omega) hB' (hb.put (by omega) (subAt_ok hu hp)) (by omega)
      | some o =>
        rw [hbo] at hof
        have ho:=hb.tm o (bindOf_mem hbo)
        have hol:=ho.le
        have hop:=ho.pos
        have ho0:¬ ((o.length:Int)=0):=by omega
        have heq:=(spec_l1Same o (subAt l u p) ⟨by omega,fun _ _=>trivial⟩).eq
        show _=some (mT ((if o=subAt l u p then mgo l u q b (p+(subAt l u p).length) else none).map (·.1)),[])
        by_cases e:o=subAt l u p
        · rw [if_pos e]
          have ho1:¬ (((subAt l u p).length:Int)=0):=by omega
          rw [e] at heq
          simp only [spec_l6Match.next0,spec_l6Match.round0,evz,Nat.reduceLT,h,hlk,hp',enc_int,c',hsub,hw,hof,Option.getD_some,scalars_int,heq,e,ho0,ho1,hw2]
          rw [wrap_succ (by omega)]
          exact ih b _ (k+1) f hd' (by omega) hB' (hb.up (by omega)) (by omega)
        · rw [if_neg e]
          simp only [spec_l6Match.next0,spec_l6Match.round0,evz,Nat.reduceLT,h,hlk,hp',enc_int,c',hsub,hw,hof,Option.getD_some,scalars_int,heq,e,ho0,Option.map_none,mT]
 exact loop pat ([],[]) p0 0 25 rfl (by omega) (Both.start hu hq hp0) (MB.nil l) (by omega)
end
end Ev.Ty
end
section
namespace Ev.Ty
open Go Ev
open Enc (enc)
open Sm (sm)
set_option linter.unusedSimpArgs false
set_option linter.unusedVariables false
section
variable {l:List Symbol} (ok:SigOk ⟨l⟩) {rs:List Equation} (hr:∀ e∈rs,EqOk l e) (hn:rs.length≤12)
include ok hr hn
theorem impl_ruleAt {t:List Int} (ht:TermOk l t) {p:Nat} (hp:p < t.length):Call F.impl_ruleAt [.agg [slc l],slc rs,slc t,.int .i64 p] (.int .i64 (fits l rs t p)):=by
 have hu:=subAt_ok ht hp
 have hi:Call F.slices_IndexFunc_SEquation [slc rs,.clo F.impl_ruleAt_1 [.rref [slc l] 0,.rref [slc (subAt l t p)] 0]] (.int .i64 (fits l rs t p)):=by
  refine call_of rfl (rs.length+1) ((slices_IndexFunc_SEquation_at1_impl_ruleAt_1.ev _ _ _ _).trans ?_)
  simp only [evz,Nat.reduceLT]
  refine idx_loop (S:=fun m k=>slices_IndexFunc_SEquation_at1_impl_ruleAt_1.at0 (rs.length+1) m (slices_IndexFunc_SEquation_at1_impl_ruleAt_1.st0 (cells rs) (cells l) (cells (subAt l t p)) rs.length (k:Nat))) (fun m k h => ?_) (fun m => ?_) (Nat.lt_succ_self _)
  · have hlk:rs[k]?=some rs[k]:=List.getElem?_eq_getElem h
    have he:=hr _ (List.getElem_mem h)
    have hc:Call F.impl_ruleAt_1 [.agg [slc rs[k].left,slc rs[k].right],.rref [slc l] 0,.rref [slc (subAt l t p)] 0] (.bool (matchAt l rs[k].left t p).isSome):=by
     refine call_of rfl 0 ((impl_ruleAt_1.ev _ _ _ _ _).trans ?_)
     have hm:=(impl_match ok he.left hu).eq
     rw [matchAt_sub he.left ht hp] at hm
     cases hmm:matchAt l rs[k].left t p with
     | none=>rw [hmm] at hm; simp only [evz,Nat.reduceLT,hm,mT]; rfl
     | some b=>rw [hmm] at hm; simp only [evz,Nat.reduceLT,hm,mT]; rfl
    simp only [slices_IndexFunc_SEquation_at1_impl_ruleAt_1.next0,slices_IndexFunc_SEquation_at1_impl_ruleAt_1.round0,evz,Nat.reduceLT,h,hlk,enc_Equation,hc.eq]
    rw [wrap_succ (by omega)]
    cases (matchAt l rs[k].left t p).isSome <;> rfl
  · simp only [slices_IndexFunc_SEquation_at1_impl_ruleAt_1.next0,slices_IndexFunc_SEquation_at1_impl_ruleAt_1.round0,evz,Nat.reduceLT,Nat.lt_irrefl]
 refine call_of rfl 0 ((impl_ruleAt.ev _ _ _ _ _).trans ?_)
 simp only [evz,Nat.reduceLT,(impl_subterm ok ht hp).eq,hi.eq]
theorem spec_l8Fits {t:List Int} (ht:TermOk l t) {p:Nat} (hp:p < t.length):Call F.spec_l8Fits [.rref [slc l] 0,slc rs,slc t,.int .i64 p] (.int .i64 (fits l rs t p)):=by
 refine call_of rfl (rs.length+1) ((spec_l8Fits.ev _ _ _ _ _).trans ?_)
 refine idx_loop (S:=fun m k=>spec_l8Fits.at0 (rs.length+1) m (spec_l8Fits.st0 (cells l) (cells rs) (cells t) (p:Nat) (k:Nat))) (fun m k h => ?_) (fun m => ?_) (Nat.lt_succ_self _)
 · have hlk:rs[k]?=some rs[k]:=List.getElem?_eq_getElem h
   have he:=hr _ (List.getElem_mem h)
   have hm:=(spec_l6Match ok he.left ht hp).eq
   cases hmm:matchAt l rs[k].left t p with
   | none =>
     rw [hmm] at hm
     simp only [spec_l8Fits.next0,spec_l8Fits.round0,evz,Nat.reduceLT,h,hlk,enc_Equation,hm,mT]
     rw [wrap_succ (by omega)]
     rfl
   | some b =>
     rw [hmm] at hm
     simp only [spec_l8Fits.next0,spec_l8Fits.round0,evz,Nat.reduceLT,h,hlk,enc_Equation,hm,mT]
     rfl
 · simp only [spec_l8Fits.next0,spec_l8Fits.round0,evz,Nat.reduceLT,Nat.lt_irrefl]
theorem impl_findRedex {t:List Int} (ht:TermOk l t):Call F.impl_findRedex [.agg [slc l],slc rs,slc t] (.tup [.int .i64 (redex l rs t).1,.int .i64 (redex l rs t).2,.bool (decide ((redex l rs t).1 ≥ 0))]):=by
 have hle:=ht.le
 have hpos:=ht.pos
 have loop:∀ (k f:Nat) (s:Int × Int),k≤t.length→k < f→IsBest (endAt l t) (fits l rs t) k t.length s →
  impl_findRedex.at0 25 f (impl_findRedex.st0 (cells rs) (cells t) s.1 s.2 ((k:Int) - 1) (cells l)) =
   some (.tup [.int .i64 (down (endAt l t) (fits l rs t) k s).1,.int .i64 (down (endAt l t) (fits l rs t) k s).2,.bool (decide ((down (endAt l t) (fits l rs t) k s).1 ≥ 0))],[]):=by
  intro k
  induction k with
  | zero =>
    intro f s hk hf hb
    obtain ⟨f,rfl⟩:∃ x,f=x+1:=⟨f - 1,by omega⟩
    have h1:¬ (((0:Nat):Int) - 1 ≥ 0):=by omega
    simp only [impl_findRedex.next0,impl_findRedex.round0,cond_dec]
    rw [if_neg h1]
    rfl
  | succ k ih =>
    intro f s hk hf hb
    obtain ⟨f,rfl⟩:∃ x,f=x+1:=⟨f - 1,by omega⟩
    have e:((k+1:Nat):Int) - 1=(k:Int):=by omega
    have h1:(k:Int) ≥ 0:=by omega
    have hkt:k < t.length:=by omega
    have hw:IntKind.wrap .i64 ((k:Int) - 1)=(k:Int) - 1:=wrap64 (by omega)
    have hb':=hb.down _ _ hkt
    have next:=ih f _ (by omega) (by omega) hb'
    have hra:=(impl_ruleAt ok hr hn ht hkt).eq
    have hek:=(endOf_at ok ht hkt).eq
    rw [e,down]
    unfold downStep at next ⊢
    rcases hb with ⟨rfl,hno⟩ | ⟨a,ha1,ha2,rfl,ha3,ha4⟩
    · have hneg:¬ ((-1:Int) ≥ 0):=by omega
      rw [if_neg (fun h=>hneg h.1)] at next ⊢
      by_cases hf0:fits l rs t k ≥ 0
      · rw [if_pos hf0] at next ⊢
        simp only [impl_findRedex.next0,impl_findRedex.round0,evz,Nat.reduceLT,h1,hneg,hra,hf0,hw]
        exact next
      · rw [if_neg hf0] at next ⊢
        simp only [impl_findRedex.next0,impl_findRedex.round0,evz,Nat.reduceLT,h1,hneg,hra,hf0,hw]
        exact next
    · have hpa:((a:Int)) ≥ 0:=by omega
      have hea:=(endOf_at ok ht ha2).eq
      by_cases hc:endAt l t k ≥ endAt l t a
      · have hc':((endAt l t k:Nat):Int) ≥ ((endAt l t a:Nat):Int):=by omega
        have hcc:((a:Int),fits l rs t a).1 ≥ 0∧endAt l t k ≥ endAt l t (((a:Int),fits l rs t a).1).toNat:=⟨hpa,by simpa using hc⟩
        rw [if_pos hcc] at next ⊢
        simp only [impl_findRedex.next0,impl_findRedex.round0,evz,Nat.reduceLT,h1,hpa,hek,hea,hc',hw]
        exact next
      · have hc':¬ ((endAt l t k:Nat):Int) ≥ ((endAt l t a:Nat):Int):=by omega
        have hcc:¬ (((a:Int),fits l rs t a).1 ≥ 0∧endAt l t k ≥ endAt l t (((a:Int),fits l rs t a).1).toNat):=fun h=>hc (by simpa using h.2)
        rw [if_neg hcc] at next ⊢
        by_cases hf0:fits l rs t k ≥ 0
        · rw [if_pos hf0] at next ⊢
          simp only [impl_findRedex.next0,impl_findRedex.round0,evz,Nat.reduceLT,h1,hpa,hek,hea,hc',hra,hf0,hw]
          exact next
        · rw [if_neg hf0] at next ⊢
          simp only [impl_findRedex.next0,impl_findRedex.round0,evz,Nat.reduceLT,h1,hpa,hek,hea,hc',hra,hf0,hw]
          exact next
 refine call_of rfl 25 ((impl_findRedex.ev _ _ _ _).trans ?_)
 simp only [cells_div,sz_int]
 rw [wrap64 (by omega)]
 exact loop t.length 25 (-1,-1) (Nat.le_refl _) (by omega) (.inl ⟨rfl,fun a h1 h2=>by omega⟩)
theorem spec_l8Find {t:List Int} (ht:TermOk l t):Call F.spec_l8Find [.rref [slc l] 0,slc rs,slc t] (.tup [.int .i64 (redex l rs t).1,.int .i64 (redex l rs t).2]):=by
 have hle:=ht.le
 refine call_of rfl 25 ((spec_l8Find.ev _ _ _ _).trans ?_)
 have key:=run_loop (n:=t.length) (f:=25) (S:=fun m k (s:Int × Int × Int)=>spec_l8Find.at0 25 m (spec_l8Find.st0 (cells l) (cells rs) (cells t) s.1 s.2.1 s.2.2 (k:Nat)))
  (st:=upAll (endAt l t) (fits l rs t)) (z:=some (.tup [.int .i64 (redex l rs t).1,.int .i64 (redex l rs t).2],[])) (fun m k h => ?_) (fun m => ?_) (by omega)
 · exact key
 · have e0:upAll (endAt l t) (fits l rs t) (k+1)=upStep (endAt l t) (fits l rs t) (upAll (endAt l t) (fits l rs t) k) k:=by unfold upAll; rw [List.range_succ,List.foldl_append]; rfl
   rw [e0]
   unfold upStep
   have hek:=(l3End_at ok ht h).eq
   have hra:=(spec_l8Fits ok hr hn ht h).eq
   by_cases hc:((endAt l t k:Nat):Int) > (upAll (endAt l t) (fits l rs t) k).2.2
   · rw [if_pos hc]
     simp only [spec_l8Find.next0,spec_l8Find.round0,evz,Nat.reduceLT,h,hek,hc]
     rw [wrap_succ (by omega)]
   · rw [if_neg hc]
     by_cases hf0:fits l rs t k ≥ 0
     · rw [if_pos hf0]
       simp only [spec_l8Find.next0,spec_l8Find.round0,evz,Nat.reduceLT,h,hek,hc,hra,hf0]
       rw [wrap_succ (by omega)]
     · rw [if_neg hf0]
       simp only [spec_l8Find.next0,spec_l8Find.round0,evz,Nat.reduceLT,h,hek,hc,hra,hf0]
       rw [wrap_succ (by omega)]
 · rw [redex_up ht]
   simp only [spec_l8Find.next0,spec_l8Find.round0,evz,Nat.reduceLT,Nat.lt_irrefl]
omit hr hn in
theorem impl_rewritten {e:Equation} (he:EqOk l e) {t:List Int} (ht:TermOk l t) {p:Nat} (hp:p < t.length):Call F.impl_rewritten [.agg [slc l],.agg [slc e.left,slc e.right],slc t,.int .i64 p] (.agg (enc (stepAt l e t p))):=by
 have hu:=subAt_ok ht hp
 have hm:=(impl_match ok he.left hu).eq
 rw [matchAt_sub he.left ht hp] at hm
 refine call_of rfl 0 ((impl_rewritten.ev _ _ _ _ _ _).trans ?_)
 unfold stepAt
 cases hmm:matchAt l e.left t p with
 | none=>rw [hmm] at hm; simp only [evz,Nat.reduceLT,(impl_subterm ok ht hp).eq,hm,mT]; rfl
 | some b =>
   rw [hmm] at hm
   have hb:=matchAt_ok he.left ht hp hmm
   have hbo:=hb.ok he.left.le
   have hrl:=he.right.le
   have hal:=applied_length hbo e.right
   simp only [evz,Nat.reduceLT,(impl_subterm ok ht hp).eq,hm,mT,(impl_Binding_applied b.1 b.2 hbo e.right (by omega) (he.right.range ok)).eq,(impl_replaced ok ht hp (applied b.1 b.2 e.right) (by omega)).eq]
   have hfit:=(impl_fitting (replAt l t p (applied b.1 b.2 e.right))).eq
   by_cases h24:24 < (replAt l t p (applied b.1 b.2 e.right)).length
   · rw [if_pos h24] at hfit ⊢
     simp only [evz,Nat.reduceLT,hfit,enc_TermResult]
   · rw [if_neg h24] at hfit ⊢
     simp only [evz,Nat.reduceLT,hfit,enc_TermResult]
omit hr hn in
theorem spec_l8Rewrite {e:Equation} (he:EqOk l e) {t:List Int} (ht:TermOk l t) {p:Nat} (hp:p < t.length):Call F.spec_l8Rewrite [.rref [slc l] 0,.rref [slc e.left,slc e.right] 0,.int .i64 p,slc t] (.tup [slc (stepAt l e t p).term,.int .i64 (stepAt l e t p).code]):=by
 have hm:=(spec_l6Match ok he.left ht hp).eq
 refine call_of rfl 0 ((spec_l8Rewrite.ev _ _ _ _ _ _).trans ?_)
 unfold stepAt
 cases hmm:matchAt l e.left t p with
 | none=>rw [hmm] at hm; simp only [evz,Nat.reduceLT,hm,mT]; rfl
 | some b =>
   rw [hmm] at hm
   have hb:=matchAt_ok he.left ht hp hmm
   have hbo:=hb.ok he.left.le
   have hrl:=he.right.le
   have hal:=applied_length hbo e.right
   simp only [evz,Nat.reduceLT,hm,mT,(spec_l6Apply b.1 b.2 hbo e.right (by omega) (he.right.range ok)).eq,(spec_l3Replace ok ht hp (applied b.1 b.2 e.right) (by omega)).eq]
   by_cases h24:24 < (replAt l t p (applied b.1 b.2 e.right)).length
   · have h24':((replAt l t p (applied b.1 b.2 e.right)).length:Int) > 24:=by omega
     rw [if_pos h24]
     simp only [evz,Nat.reduceLT,h24']
     rfl
   · have h24':¬ ((replAt l t p (applied b.1 b.2 e.right)).length:Int) > 24:=by omega
     rw [if_neg h24]
     simp only [evz,Nat.reduceLT,h24']
omit ok hr hn in
theorem redex_range {l:List Symbol} {rs:List Equation} (t:List Int):(redex l rs t).1 < 0∨∃ a k:Nat,∃ h:k < rs.length,a < t.length∧(redex l rs t).1=a∧(redex l rs t).2=k:=by
 rcases redex_at (l:=l) (rs:=rs) (t:=t) with h | ⟨a,k,h,ha,e,_⟩
 · rw [h]; exact .inl (by simp)
 · rw [e]; exact .inr ⟨a,k,h,ha,rfl,rfl⟩
theorem impl_normalForm {t:List Int} (ht:TermOk l t) {fuel:Nat} (hfu:fuel≤200):Call F.impl_normalForm [.agg [slc l],slc rs,slc t,.int .i64 fuel] (.agg (enc (norm l rs fuel 0 t))):=by
 have hle:=ht.le
 have loop:∀ (m k f:Nat) (t:List Int),m+k=fuel→m < f→TermOk l t →
  impl_normalForm.at0 202 f (impl_normalForm.st0 (cells rs) (fuel:Nat) (k:Nat) (cells l) 0 0 (cells t))=some (.agg (enc (norm l rs m k t)),[]):=by
  intro m
  induction m with
  | zero =>
    intro k f t hk hf ht
    obtain ⟨f,rfl⟩:∃ x,f=x+1:=⟨f - 1,by omega⟩
    obtain rfl:k=fuel:=by omega
    have hfr:=(impl_findRedex ok hr hn ht).eq
    rw [norm]
    by_cases h0:(redex l rs t).1 < 0
    · have h0':¬ (redex l rs t).1 ≥ 0:=by omega
      rw [if_pos h0]
      simp only [impl_normalForm.next0,impl_normalForm.round0,evz,Nat.reduceLT,hfr,h0',Bool.not_false,enc_NormalResult]
    · have h0':(redex l rs t).1 ≥ 0:=by omega
      rw [if_neg h0]
      simp only [impl_normalForm.next0,impl_normalForm.round0,evz,Nat.reduceLT,hfr,h0',Bool.not_true,enc_NormalResult]
      rfl
  | succ m ih =>
    intro k f t hk hf ht
    obtain ⟨f,rfl⟩:∃ x,f=x+1:=⟨f - 1,by omega⟩
    have hfr:=(impl_findRedex ok hr hn ht).eq
    rw [norm]
    rcases redex_range (l:=l) (rs:=rs) t with h0 | ⟨a,q,hq,ha,e1,e2⟩
    · have h0':¬ (redex l rs t).1 ≥ 0:=by omega
      rw [if_pos h0]
      simp only [impl_normalForm.next0,impl_normalForm.round0,evz,Nat.reduceLT,hfr,h0',Bool.not_false,enc_NormalResult]
    · have h0:¬ (redex l rs t).1 < 0:=by omega
      rw [e1,e2] at hfr
      have h0':((a:Nat):Int) ≥ 0:=by omega
      have hkf:¬ ((k:Int)=(fuel:Int)):=by omega
      have hlk:rs[q]?=some rs[q]:=List.getElem?_eq_getElem hq
      have he:=hr _ (List.getElem_mem hq)
      have hrw:=(impl_rewritten ok he ht ha).eq
      have hg:rs.getD (redex l rs t).2.toNat ⟨[],[]⟩=rs[q]:=by rw [e2,Int.toNat_natCast]; exact getE hq
      have hga:(redex l rs t).1.toNat=a:=by rw [e1,Int.toNat_natCast]
      rw [if_neg h0,hg,hga]
      have hsok:=stepAt_ok he ht ha
      rw [enc_TermResult] at hrw
      by_cases hcode:(stepAt l rs[q] t a).code=0
      · rw [if_neg (by simpa using hcode)]
        simp only [impl_normalForm.next0,impl_normalForm.round0,evz,Nat.reduceLT,hfr,h0',hkf,Bool.not_true,hq,hlk,enc_Equation,hrw,hcode]
        rw [wrap_succ (by omega)]
        exact ih (k+1) f _ (by omega) (by omega) (hsok hcode)
      · rw [if_pos hcode]
        simp only [impl_normalForm.next0,impl_normalForm.round0,evz,Nat.reduceLT,hfr,h0',hkf,Bool.not_true,hq,hlk,enc_Equation,hrw,hcode,enc_NormalResult]
        rfl
 refine call_of rfl 202 ((impl_normalForm.ev _ _ _ _ _).trans ?_)
 simp only [evz,Nat.reduceLT,(slices_Clone_Sint64 t (by omega)).eq]
 exact loop fuel 0 202 t (by omega) (by omega) ht
theorem spec_l8Normal {t:List Int} (ht:TermOk l t) {fuel:Nat} (hfu:fuel≤200):Call F.spec_l8Normal [.rref [slc l] 0,slc rs,slc t,.int .i64 fuel] (.agg (enc (norm l rs fuel 0 t))):=by
 have hle:=ht.le
 have loop:∀ (m k f:Nat) (t:List Int),m+k=fuel→m < f→TermOk l t →
  spec_l8Normal.at0 202 f (spec_l8Normal.st0 (cells l) (cells rs) (fuel:Nat) (k:Nat) 0 0 (cells t))=some (.agg (enc (norm l rs m k t)),[]):=by
  intro m
  induction m with
  | zero =>
    intro k f t hk hf ht
    obtain ⟨f,rfl⟩:∃ x,f=x+1:=⟨f - 1,by omega⟩
    obtain rfl:k=fuel:=by omega
    have hfr:=(spec_l8Find ok hr hn ht).eq
    rw [norm]
    have hge:((k:Int)) ≥ (k:Int):=Int.le_refl _
    by_cases h0:(redex l rs t).1 < 0
    · rw [if_pos h0]
      simp only [spec_l8Normal.next0,spec_l8Normal.round0,evz,Nat.reduceLT,hfr,h0,enc_NormalResult]
    · rw [if_neg h0]
      simp only [spec_l8Normal.next0,spec_l8Normal.round0,evz,Nat.reduceLT,hfr,h0,hge,enc_NormalResult]
      rfl
  | succ m ih =>
    intro k f t hk hf ht
    obtain ⟨f,rfl⟩:∃ x,f=x+1:=⟨f - 1,by omega⟩
    have hfr:=(spec_l8Find ok hr hn ht).eq
    rw [norm]
    rcases redex_range (l:=l) (rs:=rs) t with h0 | ⟨a,q,hq,ha,e1,e2⟩
    · rw [if_pos h0]
      simp only [spec_l8Normal.next0,spec_l8Normal.round0,evz,Nat.reduceLT,hfr,h0,enc_NormalResult]
    · have h0:¬ (redex l rs t).1 < 0:=by omega
      rw [e1,e2] at hfr
      have h0':¬ ((a:Nat):Int) < 0:=by omega
      have hkf:¬ ((k:Int) ≥ (fuel:Int)):=by omega
      have hlk:rs[q]?=some rs[q]:=List.getElem?_eq_getElem hq
      have he:=hr _ (List.getElem_mem hq)
      have hrw:=(spec_l8Rewrite ok he ht ha).eq
      have hg:rs.getD (redex l rs t).2.toNat ⟨[],[]⟩=rs[q]:=by rw [e2,Int.toNat_natCast]; exact getE hq
      have hga:(redex l rs t).1.toNat=a:=by rw [e1,Int.toNat_natCast]
      rw [if_neg h0,hg,hga]
      have hsok:=stepAt_ok he ht ha
      have hwin:=cells_window (k:=2) (i:=q) rfl hlk
      by_cases hcode:(stepAt l rs[q] t a).code=0
      · rw [if_neg (by simpa using hcode)]
        simp only [spec_l8Normal.next0,spec_l8Normal.round0,evz,Nat.reduceLT,hfr,h0',hkf,hq,hwin,enc_Equation,hrw,hcode]
        rw [wrap_succ (by omega)]
        exact ih (k+1) f _ (by omega) (by omega) (hsok hcode)
      · rw [if_pos hcode]
        simp only [spec_l8Normal.next0,spec_l8Normal.round0,evz,Nat.reduceLT,hfr,h0',hkf,hq,hwin,enc_Equation,hrw,hcode,enc_NormalResult]
        rfl
 refine call_of rfl 202 ((spec_l8Normal.ev _ _ _ _ _).trans ?_)
 simp only [evz,Nat.reduceLT,(spec_l1Ints' t (by omega)).eq]
 exact loop fuel 0 202 t (by omega) (by omega) ht
end
end Ev.Ty
end
section
namespace Ev.Ty
open Go Ev
open Enc (enc)
open Sm (sm)
set_option linter.unusedSimpArgs false
set_option linter.unusedVariables false
def ustep (l:List Symbol) {α:Type} (b:Bnd) (p:Pr) (ps:List Pr) (out:Bnd ⊕ Int→α) (next:Bnd→List Pr→α):α :=
 if 24 < (applied b.1 b.2 p.left).length∨24 < (applied b.1 b.2 p.right).length then out (.inr 2)
 else if applied b.1 b.2 p.left=applied b.1 b.2 p.right then next b ps
 else if (applied b.1 b.2 p.left).getD 0 0 < 0 then
  if (applied b.1 b.2 p.left).getD 0 0∈applied b.1 b.2 p.right then out (.inr 4) else match bindAll b (-1 - (applied b.1 b.2 p.left).getD 0 0) (applied b.1 b.2 p.right) with
   | none=>out (.inr 2)
   | some b'=>next b' ps
 else if (applied b.1 b.2 p.right).getD 0 0 < 0 then
  if (applied b.1 b.2 p.right).getD 0 0∈applied b.1 b.2 p.left then out (.inr 4) else match bindAll b (-1 - (applied b.1 b.2 p.right).getD 0 0) (applied b.1 b.2 p.left) with
   | none=>out (.inr 2)
   | some b'=>next b' ps
 else if (applied b.1 b.2 p.left).getD 0 0≠(applied b.1 b.2 p.right).getD 0 0 then out (.inr 4)
 else next b (argsOf l (applied b.1 b.2 p.left) (applied b.1 b.2 p.right)++ps)
def StackOk (b:Bnd) (ps:List Pr):Prop:=∃ new old:List Pr,ps=new++old∧psize b new≤46∧old.length≤24*b.1.length+1
theorem psize_len {l:List Symbol} {b:Bnd} (hb:UB l b):∀ {ps:List Pr},(∀ p∈ps,TermOk l p.left∧TermOk l p.right)→2*ps.length≤psize b ps
 | [],_=>by simp [psize]
 | p::ps,h=>by
   have ih:=psize_len hb (ps:=ps) fun q hq=>h q (List.mem_cons_of_mem _ hq)
   have hp:=h p (by simp)
   have h1:=applied_ge hb.mb p.left
   have h2:=applied_ge hb.mb p.right
   have:=hp.1.pos
   have:=hp.2.pos
   simp only [psize,List.map_cons,List.sum_cons,List.length_cons] at ih ⊢
   omega
theorem StackOk.len {l:List Symbol} {b:Bnd} (hb:UB l b) {ps:List Pr} (hps:∀ p∈ps,TermOk l p.left∧TermOk l p.right) (h:StackOk b ps):ps.length≤400:=by
 obtain ⟨new,old,rfl,h1,h2⟩:=h
 have:=psize_len hb (ps:=new) fun q hq=>hps q (List.mem_append_left _ hq)
 have:=hb.le
 rw [List.length_append]
 omega
theorem psize_cons (b:Bnd) (p:Pr) (ps:List Pr):psize b (p::ps)=(applied b.1 b.2 p.left).length+(applied b.1 b.2 p.right).length+psize b ps:=by simp [psize]
theorem psize_append (b:Bnd) (ps qs:List Pr):psize b (ps++qs)=psize b ps+psize b qs:=by simp [psize]
theorem StackOk.tail {b:Bnd} {p:Pr} {ps:List Pr} (h:StackOk b (p::ps)):StackOk b ps:=by
 obtain ⟨new,old,e,h1,h2⟩:=h
 cases new with
 | nil =>
   rw [List.nil_append] at e
   subst e
   exact ⟨[],ps,rfl,by simp [psize],by simp at h2; omega⟩
 | cons q new =>
   rw [List.cons_append] at e
   injection e with e1 e2
   rw [psize_cons] at h1
   exact ⟨new,old,e2,by omega,h2⟩
theorem StackOk.bind {l:List Symbol} {b b':Bnd} (hb:UB l b) {p:Pr} {ps:List Pr} (hps:∀ q∈p::ps,TermOk l q.left∧TermOk l q.right) (h:StackOk b (p::ps)) (hl:b'.1.length=b.1.length+1):StackOk b' ps:=by
 obtain ⟨new,old,e,h1,h2⟩:=h.tail
 have:=psize_len hb (ps:=new) fun q hq=>hps q (List.mem_cons_of_mem _ (e ▸ List.mem_append_left _ hq))
 exact ⟨[],ps,rfl,by simp [psize],by rw [e,List.length_append]; omega⟩
theorem StackOk.args {b:Bnd} {p:Pr} {ps qs:List Pr} (h:StackOk b (p::ps)) (hq:psize b qs+2=(applied b.1 b.2 p.left).length+(applied b.1 b.2 p.right).length) (h1:(applied b.1 b.2 p.left).length≤24) (h2:(applied b.1 b.2 p.right).length≤24):StackOk b (qs++ps):=by
 obtain ⟨new,old,e,h3,h4⟩:=h
 cases new with
 | nil =>
   rw [List.nil_append] at e
   subst e
   exact ⟨qs,ps,rfl,by omega,by simp at h4; omega⟩
 | cons q new =>
   rw [List.cons_append] at e
   injection e with e1 e2
   subst e1
   rw [psize_cons] at h3
   exact ⟨qs++new,old,by rw [e2,List.append_assoc],by rw [psize_append]; omega,h4⟩
theorem unif_loop {l:List Symbol} {α:Type} {S:Nat→Bnd→List Pr→α} {out:Bnd ⊕ Int→α} (hnil:∀ f b,S (f+1) b []=out (.inl b))
 (hstep:∀ f b p ps,UB l b→TermOk l p.left→TermOk l p.right→(∀ q∈ps,TermOk l q.left∧TermOk l q.right)→ps.length≤400→S (f+1) b (p::ps)=ustep l b p ps out (S f)) :
 ∀ (n f:Nat) (b:Bnd) (ps:List Pr) (r:Bnd ⊕ Int),n≤f→UB l b→(∀ p∈ps,TermOk l p.left∧TermOk l p.right)→StackOk b ps→unif l n b ps=some r→S f b ps=out r
 | 0,f,b,ps,r,hf,hb,hps,hst,h=>by cases h
 | n+1,f,b,ps,r,hf,hb,hps,hst,h=>by
   obtain ⟨f,rfl⟩:∃ q,f=q+1:=⟨f - 1,by omega⟩
   have ih:=unif_loop hnil hstep n f
   cases ps with
   | nil=>cases h; exact hnil f b
   | cons p ps =>
     have hp:=hps p (by simp)
     have hps':∀ q∈ps,TermOk l q.left∧TermOk l q.right:=fun q hq=>hps q (List.mem_cons_of_mem _ hq)
     have hlen:=hst.len hb hps
     rw [hstep f b p ps hb hp.1 hp.2 hps' (by simp at hlen; omega)]
     unfold ustep
     rw [unif] at h
     split at h
     · rename_i c; rw [if_pos c]; cases h; rfl
     rename_i c1
     rw [if_neg c1]
     have hx:=hb.applied_ok hp.1 (by omega)
     have hy:=hb.applied_ok hp.2 (by omega)
     have bindcase:∀ (u t:List Int),TermOk l (applied b.1 b.2 u)→TermOk l (applied b.1 b.2 t)→(applied b.1 b.2 u).getD 0 0 < 0→(applied b.1 b.2 u).getD 0 0∉applied b.1 b.2 t→∀ b',bindAll b (-1 - (applied b.1 b.2 u).getD 0 0) (applied b.1 b.2 t)=some b' →
      unif l n b' ps=some r→S f b' ps=out r:=fun u t hu ht hneg hno b' hb' hr=>by
      obtain ⟨hv,hnb⟩:=hb.head_var hu hneg
      obtain ⟨q1,q2⟩:=bindAll_ub hb hv hnb ht (hb.applied_free t) (by rw [show -1 - (-1 - (applied b.1 b.2 u).getD 0 0)=(applied b.1 b.2 u).getD 0 0 by omega]; exact hno) hb'
      exact ih b' ps r (by omega) q1 hps' (hst.bind hb hps q2) hr
     split at h
     · rename_i c; rw [if_pos c]; exact ih b ps r (by omega) hb hps' hst.tail h
     rename_i c2
     rw [if_neg c2]
     split at h
     · rename_i c3
       rw [if_pos c3]
       split at h
       · rename_i c; rw [if_pos c]; cases h; rfl
       rename_i c4
       rw [if_neg c4]
       cases hb':bindAll b (-1 - (applied b.1 b.2 p.left).getD 0 0) (applied b.1 b.2 p.right) with
       | none=>rw [hb'] at h; cases h; rfl
       | some b'=>rw [hb'] at h; exact bindcase p.left p.right hx hy c3 c4 b' hb' h
     rename_i c3
     rw [if_neg c3]
     split at h
     · rename_i c5
       rw [if_pos c5]
       split at h
       · rename_i c; rw [if_pos c]; cases h; rfl
       rename_i c4
       rw [if_neg c4]
       cases hb':bindAll b (-1 - (applied b.1 b.2 p.right).getD 0 0) (applied b.1 b.2 p.left) with
       | none=>rw [hb'] at h; cases h; rfl
       | some b'=>rw [hb'] at h; exact bindcase p.right p.left hy hx c5 c4 b' hb' h
     rename_i c5
     rw [if_neg c5]
     split at h
     · rename_i c; rw [if_pos c]; cases h; rfl
     rename_i c6
     rw [if_neg c6]
     have ha:=args_size (b:=b) hx hy (hb.applied_free _) (hb.applied_free _) (by simpa using c6)
     exact ih b _ r (by omega) hb (fun q hq=>by
      rcases List.mem_append.1 hq with hq | hq
      · exact args_ok hx hy q hq
      · exact hps' q hq) (hst.args ha hx.le hy.le) h
theorem cells_tail (p:Pr) (ps:List Pr):((cells (p::ps)).take ((p::ps).length*2)).drop (1*2)=cells ps:=by
 rw [cells_take (p::ps) 2 _ rfl,List.take_length,cells_drop _ 2 1 rfl]; rfl
def uT:Bnd ⊕ Int→R
 | .inl b=>some (.tup [.agg [slc b.1,slc b.2],.int .i64 0],[])
 | .inr c=>some (.tup [.agg [.sl 1 [],.sl 1 []],.int .i64 c],[])
theorem cells_head {l:List Symbol} {t:List Int} (h:TermOk l t):(cells t)[0]?=some (.int .i64 (t.getD 0 0)):=by
 have hp:=h.pos
 have:=get0 (l:=t) (k:=1) (i:=0) rfl
 rw [Nat.zero_mul] at this
 rw [this,List.getElem?_eq_getElem (by omega),getD_at (by omega)]; rfl
section
variable {l:List Symbol} (ok:SigOk ⟨l⟩)
include ok
theorem impl_unify5 {b:Bnd} (hb:UB l b) {ps:List Pr} {u t:List Int} (hu:TermOk l u) (ht:TermOk l t) (hv:0 ≤ -1 - u.getD 0 0 ∧ -1 - u.getD 0 0≤11) {N:Nat} (hN:20≤N) (L0:St→R) :
 impl_unify.at5 N L0 N (impl_unify.st5 (cells ps) (cells u) (cells t) b.2.length (0:Nat) (cells l) (cells b.1) (cells b.2) [.int .i64 (-1 - u.getD 0 0)] [slc t]) =
  match bindAll b (-1 - u.getD 0 0) t with
  | none=>uT (.inr 2)
  | some b'=>L0 (impl_unify.st0 (cells ps) (cells l) (cells b'.1) (cells b'.2)):=by
 have hbl:=hb.le
 have hlen:=hb.mb.len
 have htl:=ht.le
 have hpu:=hu.pos
 have hone:=one_mb (l:=l) hv ht
 have hbo:=hone.ok (by omega)
 obtain ⟨v,hve⟩:∃ v,v = -1 - u.getD 0 0:=⟨_,rfl⟩
 have hwr:IntKind.wrap .i64 (-1 - u.getD 0 0)=v:=by rw [wrap64 (by omega),hve]
 rw [← hve] at hv hone hbo ⊢
 have loop:∀ n k f,k+n=b.2.length→n < f →
  impl_unify.at5 N L0 f (impl_unify.st5 (cells ps) (cells u) (cells t) b.2.length (k:Nat) (cells l) (cells b.1) (cells ((b.2.take k).map (applied [v] [t])++b.2.drop k)) [.int .i64 v] [slc t]) =
   if ((b.2.drop k).any fun x=>decide (24 < (applied [v] [t] x).length))=true then uT (.inr 2) else
    L0 (impl_unify.st0 (cells ps) (cells l) (cells (bput (b.1,b.2.map (applied [v] [t])) v t).1) (cells (bput (b.1,b.2.map (applied [v] [t])) v t).2)):=by
  intro n
  induction n with
  | zero =>
    intro k f hk hf
    obtain ⟨f,rfl⟩:∃ x,f=x+1:=⟨f - 1,by omega⟩
    obtain rfl:k=b.2.length:=by omega
    rw [List.take_length,List.drop_of_length_le (Nat.le_refl _),List.append_nil]
    have hbind:=impl_Binding_bind b.1 (b.2.map (applied [v] [t])) v t (by simp; omega) (by omega) (by omega)
    have hu0:=cells_head hu
    have hpu':(0:Int) < u.length:=by omega
    simp only [impl_unify.next5,impl_unify.round5,evz,Nat.reduceLT,Nat.lt_irrefl,hu0,hwr,sl_cells (k:=1) (l:=t) rfl,hbind,List.any_nil,Bool.false_eq_true]
    rw [show inB (0:Int) u.length=true from (inB_nat 0 u.length).trans (by simp; omega)]
    rfl
  | succ n ih =>
    intro k f hk hf
    obtain ⟨f,rfl⟩:∃ x,f=x+1:=⟨f - 1,by omega⟩
    have hkl:k < b.2.length:=by omega
    have hto:=hb.mb.tm _ (List.getElem_mem hkl)
    have htol:=hto.le
    have happ:LIM F.impl_Binding_applied [.agg [.sl 1 [.int .i64 v],.sl 1 [slc t]],slc b.2[k]]=some (slc (applied [v] [t] b.2[k]),[]):=(impl_Binding_applied [v] [t] hbo b.2[k] (by omega) (hto.range ok)).eq
    obtain ⟨M,hM⟩:∃ M,M=(b.2.take k).map (applied [v] [t])++b.2.drop k:=⟨_,rfl⟩
    have hMl:M.length=b.2.length:=by rw [hM]; simp; omega
    have hMk:M[k]?=some b.2[k]:=by
     rw [hM,List.getElem?_append_right (by simp; omega)]
     simp [Nat.min_eq_left (Nat.le_of_lt hkl),List.getElem?_eq_getElem hkl]
    have hkM:k < M.length:=by omega
    have hget:(cells M)[k*1]?=some (slc b.2[k]):=by
     rw [get0 (l:=M) (k:=1) (i:=k) rfl,hMk]; rfl
    have hkc:k*1 < (cells M).length:=by rw [cells_length]; simp [show Enc.sz (List Int)=1 from rfl]; omega
    have hset:(cells M).set (k*1) (slc (applied [v] [t] b.2[k]))=cells (M.set k (applied [v] [t] b.2[k])):=by
     have:=set_List (l:=M) hkM (applied [v] [t] b.2[k])
     simpa [setCells] using this
    have hnext:M.set k (applied [v] [t] b.2[k])=(b.2.take (k+1)).map (applied [v] [t])++b.2.drop (k+1):=by
     have e1:b.2.take (k+1)=b.2.take k++[b.2[k]]:=(List.take_append_getElem hkl).symm
     rw [hM,e1,List.map_append,List.set_append_right _ _ (by simp; omega)]
     rw [show k - ((b.2.take k).map (applied [v] [t])).length=0 by simp; omega,List.drop_eq_getElem_cons hkl,List.set_cons_zero]
     simp
    rw [← hM,List.drop_eq_getElem_cons hkl,List.any_cons]
    have hin:inB (k:Int) ((cells M).length / 1)=true:=by rw [inB_nat]; simp [cells_length,show Enc.sz (List Int)=1 from rfl]; omega
    by_cases h24:24 < (applied [v] [t] b.2[k]).length
    · have h24':((applied [v] [t] b.2[k]).length:Int) > 24:=by omega
      simp only [impl_unify.next5,impl_unify.round5,Int.toNat_natCast,hget,hin,List.set_set,List.length_set,List.getElem?_set_self hkc,hkc,evz,Nat.reduceLT,hkl,happ,hkM,h24',h24,Bool.true_or]
      rfl
    · have h24':¬ ((applied [v] [t] b.2[k]).length:Int) > 24:=by omega
      simp only [impl_unify.next5,impl_unify.round5,Int.toNat_natCast,hget,hin,List.set_set,List.length_set,List.getElem?_set_self hkc,hkc,evz,Nat.reduceLT,hkl,happ,hkM,h24',h24,Bool.false_or,sl_cells (k:=1) (l:=applied [v] [t] b.2[k]) rfl,hset,hnext]
      rw [wrap_succ (by omega)]
      exact ih (k+1) f (by omega) (by omega)
 have:=loop b.2.length 0 N (by omega) (by omega)
 rw [List.take_zero,List.map_nil,List.nil_append,List.drop_zero] at this
 rw [this]
 unfold bindAll
 by_cases h:(b.2.any fun x=>decide (24 < (applied [v] [t] x).length))=true
 · rw [if_pos h,if_pos h]
 · rw [if_neg h,if_neg h]
theorem impl_unify3 {b:Bnd} {ps:List Pr} (hps:ps.length≤400) {x y:List Int} (hx:TermOk l x) (hy:TermOk l y) (he:x.getD 0 0=y.getD 0 0) {N:Nat} (hN:20≤N) (L0:St→R) :
 impl_unify.at3 N L0 N (impl_unify.st3 (cells ps) (cells x) (cells y) (starts l x 0).length (0:Nat) (cells l) (cells b.1) (cells b.2) (cells (ints (starts l y 0))) (cells (ints (starts l x 0))) (cells ([]:List Pr))) =
  L0 (impl_unify.st0 (cells (argsOf l x y++ps)) (cells l) (cells b.1) (cells b.2)):=by
 have hl:(starts l x 0).length=(starts l y 0).length:=by unfold starts; rw [startsN_length,startsN_length,he]
 have h2:=starts_le ok x 0
 have hmx:∀ q∈starts l x 0,q < x.length:=fun q hq=>(starts_mem hx (p:=0) (by have:=hx.pos; omega) hq).2
 have hmy:∀ q∈starts l y 0,q < y.length:=fun q hq=>(starts_mem hy (p:=0) (by have:=hy.pos; omega) hq).2
 have hzl:((starts l x 0).zip (starts l y 0)).length=(starts l x 0).length:=by rw [List.length_zip]; omega
 have key:=run_loop (n:=(starts l x 0).length) (f:=N) (S:=fun m k (o:List Pr)=>impl_unify.at3 N L0 m (impl_unify.st3 (cells ps) (cells x) (cells y) (starts l x 0).length (k:Nat) (cells l) (cells b.1) (cells b.2) (cells (ints (starts l y 0))) (cells (ints (starts l x 0))) (cells o)))
  (st:=fun k=>(argsOf l x y).take k) (z:=L0 (impl_unify.st0 (cells (argsOf l x y++ps)) (cells l) (cells b.1) (cells b.2))) (fun m k h => ?_) (fun m => ?_) (by omega)
 · exact key
 · have hky:k < (starts l y 0).length:=by omega
   have hax:(ints (starts l x 0))[k]?=some (((starts l x 0)[k]:Nat):Int):=ints_get h
   have hay:(ints (starts l y 0))[k]?=some (((starts l y 0)[k]:Nat):Int):=ints_get hky
   have hsx:=(impl_subterm ok hx (hmx _ (List.getElem_mem h))).eq
   have hsy:=(impl_subterm ok hy (hmy _ (List.getElem_mem hky))).eq
   have hal:k < (argsOf l x y).length:=by unfold argsOf; rw [List.length_map,hzl]; exact h
   have hak:(argsOf l x y)[k]=⟨subAt l x (starts l x 0)[k],subAt l y (starts l y 0)[k]⟩:=by simp [argsOf]
   have e1:(argsOf l x y).take (k+1)=(argsOf l x y).take k++[⟨subAt l x (starts l x 0)[k],subAt l y (starts l y 0)[k]⟩]:=by rw [← hak]; exact (List.take_append_getElem hal).symm
   have e2:∀ (A:List Pr) (p q:List Int),cells A++[slc p,slc q]=cells (A++[⟨p,q⟩]):=fun A p q=>by rw [cells_append]; rfl
   rw [e1]
   simp only [impl_unify.next3,impl_unify.round3,evz,Nat.reduceLT,h,hky,ints_length,hax,hay,enc_int,hsx,hsy,e2]
   rw [wrap_succ (by omega),cond_pos (ble_ok (by rw [cells_length,sz_Equation]; simp; omega))]
 · rw [List.take_of_length_le (by unfold argsOf; rw [List.length_map,hzl]; exact Nat.le_refl _)]
   have hal:(argsOf l x y).length≤2:=by unfold argsOf; rw [List.length_map,hzl]; exact h2
   simp only [impl_unify.next3,impl_unify.round3,evz,Nat.reduceLT,Nat.lt_irrefl,← cells_append]
   rw [cond_pos (ble_ok (by rw [cells_length,cells_length,sz_Equation]; omega))]
theorem impl_unify {a b:List Int} (ha:TermOk l a) (hb:TermOk l b):LIM F.impl_unify [.agg [slc l],slc a,slc b]=uT (unifR l a b):=by
 obtain ⟨⟨n,hn⟩,_⟩:=unifR_spec ha hb
 have hcall:∀ r,callK prog Ev.A H LIM (n+20) F.impl_unify [.agg [slc l],slc a,slc b]=uT r→LIM F.impl_unify [.agg [slc l],slc a,slc b]=uT r:=fun r h=>by
  cases r with
  | inl x=>exact call_of rfl _ h
  | inr x=>exact call_of rfl _ h
 refine hcall _ ((impl_unify.ev _ _ _ _).trans ?_)
 have loop:=unif_loop (l:=l) (S:=fun f (b:Bnd) (ps:List Pr)=>impl_unify.at0 (n+20) f (impl_unify.st0 (cells ps) (cells l) (cells b.1) (cells b.2))) (out:=uT)
  (fun f b=>by
   simp only [impl_unify.next0,impl_unify.round0,cells_nil,List.length_nil]
   rfl)
  (fun f b p ps hb h1 h2 hps hl => ?_) n (n+20) ([],[]) [⟨a,b⟩] _ (by omega) (UB.nil l) (fun p hp=>by rw [List.mem_singleton.1 hp]; exact ⟨ha,hb⟩) ⟨[],_,rfl,by simp [psize],by simp⟩ hn
 · exact loop
 · have hbo:=hb.mb.ok (by omega)
   have hl1:=h1.le
   have hl2:=h2.le
   have a1:=(impl_Binding_applied b.1 b.2 hbo p.left (by omega) (h1.range ok)).eq
   have a2:=(impl_Binding_applied b.1 b.2 hbo p.right (by omega) (h2.range ok)).eq
   have g0:(cells (p::ps))[0]?=some (slc p.left):=rfl
   have g1:(cells (p::ps))[1]?=some (slc p.right):=rfl
   have hpl:((p::ps).length:Int) > 0:=by simp
   have hin:inB (0:Int) (p::ps).length=true:=(inB_nat 0 _).trans (by simp)
   have hfx:=hb.applied_free p.left
   have hfy:=hb.applied_free p.right
   have hox:=fun h=>hb.applied_ok h1 h
   have hoy:=fun h=>hb.applied_ok h2 h
   have hhx:=fun h h'=>hb.head_var (hox h) h'
   have hhy:=fun h h'=>hb.head_var (hoy h) h'
   have hb1:decide (0≤(1:Int))=true:=rfl
   have hb2:(1:Int)≤((p::ps).length:Int):=by simp only [List.length_cons]; omega
   have hlx:=applied_length hbo p.left
   have hly:=applied_length hbo p.right
   obtain ⟨Z,hZ⟩:∃ Z,Z=ustep l b p ps uT (fun (b:Bnd) (ps:List Pr)=>impl_unify.at0 (n+20) f (impl_unify.st0 (cells ps) (cells l) (cells b.1) (cells b.2))):=⟨_,rfl⟩
   show _=ustep l b p ps uT (fun (b:Bnd) (ps:List Pr)=>impl_unify.at0 (n+20) f (impl_unify.st0 (cells ps) (cells l) (cells b.1) (cells b.2)))
   rw [← hZ]
   unfold ustep at hZ
   simp only [impl_unify.next0,impl_unify.round0,evz,Nat.reduceLT,hpl,hin,g0,g1,a1,a2,hb1,hb2,Int.le_refl,Bool.and_self,cells_tail]
   generalize applied b.1 b.2 p.left=x at *
   generalize applied b.1 b.2 p.right=y at *
   by_cases c1:24 < x.length
   · have c1':(x.length:Int) > 24:=by omega
     rw [if_pos (.inl c1)] at hZ
     simp only [c1',evz,Nat.reduceLT]
     rw [hZ]
     rfl
   by_cases c1b:24 < y.length
   · have c1':¬ (x.length:Int) > 24:=by omega
     have c1b':(y.length:Int) > 24:=by omega
     rw [if_pos (.inr c1b)] at hZ
     simp only [c1',c1b',evz,Nat.reduceLT]
     rw [hZ]
     rfl
   have c1':¬ (x.length:Int) > 24:=by omega
   have c1b':¬ (y.length:Int) > 24:=by omega
   have hx:=hox (by omega)
   have hy:=hoy (by omega)
   have hxp:=hx.pos
   have hyp:=hy.pos
   have heq:=(slices_Equal_Sint64 x y ⟨by omega,fun _ _=>trivial⟩).eq
   rw [if_neg (by omega)] at hZ
   by_cases c2:x=y
   · rw [if_pos c2] at hZ
     rw [decide_eq_true c2] at heq
     simp only [c1',c1b',evz,Nat.reduceLT,heq]
     rw [hZ]
   rw [if_neg c2] at hZ
   rw [decide_eq_false c2] at heq
   have x0:=cells_head hx
   have y0:=cells_head hy
   have inx:inB (0:Int) x.length=true:=(inB_nat 0 _).trans (by simp; omega)
   have iny:inB (0:Int) y.length=true:=(inB_nat 0 _).trans (by simp; omega)
   by_cases c3:x.getD 0 0 < 0
   · have c3':¬ x.getD 0 0 ≥ 0:=by omega
     obtain ⟨hv,_⟩:=hhx (by omega) c3
     have hct:=(slices_Contains_Sint64 y (x.getD 0 0) (by omega)).eq
     have h5:=impl_unify5 ok hb (ps:=ps) hx hy hv (N:=n+20) (by omega) (impl_unify.at0 (n+20) f)
     rw [if_pos c3] at hZ
     by_cases c4:x.getD 0 0∈y
     · rw [if_pos c4] at hZ
       rw [decide_eq_true c4] at hct
       simp only [c1',c1b',evz,Nat.reduceLT,heq,inx,x0,c3,c3',hct]
       rw [hZ]
       rfl
     · rw [if_neg c4] at hZ
       rw [decide_eq_false c4] at hct
       simp only [c1',c1b',evz,Nat.reduceLT,heq,inx,x0,c3,c3',hct,wrap64 (x := -1 - x.getD 0 0) (by omega),sl_cells (k:=1) (l:=y) rfl]
       rw [hZ]
       exact h5
   rw [if_neg c3] at hZ
   have c3':x.getD 0 0 ≥ 0:=by omega
   by_cases c5:y.getD 0 0 < 0
   · obtain ⟨hv,_⟩:=hhy (by omega) c5
     have hct:=(slices_Contains_Sint64 x (y.getD 0 0) (by omega)).eq
     have h5:=impl_unify5 ok hb (ps:=ps) hy hx hv (N:=n+20) (by omega) (impl_unify.at0 (n+20) f)
     rw [if_pos c5] at hZ
     by_cases c4:y.getD 0 0∈x
     · rw [if_pos c4] at hZ
       rw [decide_eq_true c4] at hct
       simp only [c1',c1b',evz,Nat.reduceLT,heq,inx,iny,x0,y0,c3,c3',c5,hct]
       rw [hZ]
       rfl
     · rw [if_neg c4] at hZ
       rw [decide_eq_false c4] at hct
       simp only [c1',c1b',evz,Nat.reduceLT,heq,inx,iny,x0,y0,c3,c3',c5,hct,wrap64 (x := -1 - y.getD 0 0) (by omega),sl_cells (k:=1) (l:=x) rfl]
       rw [hZ]
       exact h5
   rw [if_neg c5] at hZ
   by_cases c6:x.getD 0 0=y.getD 0 0
   · rw [if_neg (by simpa using c6)] at hZ
     have h3:=impl_unify3 ok (b:=b) (ps:=ps) hl hx hy c6 (N:=n+20) (by omega) (impl_unify.at0 (n+20) f)
     have sx:=(impl_argumentsOf ok hx (p:=0) (by omega)).eq
     have sy:=(impl_argumentsOf ok hy (p:=0) (by omega)).eq
     simp only [c1',c1b',evz,Nat.reduceLT,heq,inx,iny,x0,y0,c3,c5,c6]
     rw [c6] at c3
     have sx':LIM F.impl_argumentsOf [.agg [slc l],slc x,.int .i64 0]=some (slc (ints (starts l x 0)),[]):=sx
     have sy':LIM F.impl_argumentsOf [.agg [slc l],slc y,.int .i64 0]=some (slc (ints (starts l y 0)),[]):=sy
     simp only [c5,evz,Nat.reduceLT,sx',sy',ints_length]
     rw [hZ]
     exact h3
   · rw [if_pos c6] at hZ
     simp only [c1',c1b',evz,Nat.reduceLT,heq,inx,iny,x0,y0,c3,c5,c6]
     rw [hZ]
     rfl
end
end Ev.Ty
end
section
namespace Ev.Ty
open Go Ev
open Enc (enc)
open Sm (sm)
set_option linter.unusedSimpArgs false
set_option linter.unusedVariables false
def sbindR (b:Bnd) (v:Int) (t:List Int):Bnd ⊕ Int:=if -1 - v∈t then .inr 4 else match bindAll b v t with
 | none => .inr 2
 | some b' => .inl b'
section
variable {l:List Symbol} (ok:SigOk ⟨l⟩)
include ok
theorem spec_l6Bind {b:Bnd} (hb:UB l b) {v:Int} (hv:0≤v∧v≤11) (hnb:v∉b.1) {t:List Int} (ht:TermOk l t) :
 LIM F.spec_l6Bind [.rref [slc b.1,slc b.2] 0,.int .i64 v,slc t]=uT (sbindR b v t):=by
 have hcall:∀ r,callK prog Ev.A H LIM 20 F.spec_l6Bind [.rref [slc b.1,slc b.2] 0,.int .i64 v,slc t]=uT r→LIM F.spec_l6Bind [.rref [slc b.1,slc b.2] 0,.int .i64 v,slc t]=uT r:=fun r h=>by
  cases r with
  | inl x=>exact call_of rfl _ h
  | inr x=>exact call_of rfl _ h
 have hbl:=hb.le
 have hlen:=hb.mb.len
 have htl:=ht.le
 have hone:=one_mb (l:=l) hv ht
 have hbo:=hone.ok (by omega)
 refine hcall _ ((spec_l6Bind.ev _ _ _ _ _).trans ?_)
 have hc:=(spec_l3Count t (-1 - v) (by omega)).eq
 have hi:=(spec_l1Ints' b.1 (by omega)).eq
 unfold sbindR
 by_cases hm : -1 - v∈t
 · have h0:((t.count (-1 - v):Nat):Int) > 0:=by have:=List.count_pos_iff.2 hm; omega
   rw [if_pos hm]
   simp only [evz,Nat.reduceLT,wrap64 (x := -1 - v) (by omega),hc,h0]
   rfl
 have h0:¬ ((t.count (-1 - v):Nat):Int) > 0:=by rw [List.count_eq_zero.2 hm]; omega
 rw [if_neg hm]
 simp only [evz,Nat.reduceLT,wrap64 (x := -1 - v) (by omega),hc,h0,hi]
 have loop:∀ n k f,k+n=b.2.length→n < f→(∀ x∈b.2.take k,(applied [v] [t] x).length≤24) →
  spec_l6Bind.at0 20 f (spec_l6Bind.st0 (cells b.1) (cells b.2) v (cells t) (k:Nat) [.int .i64 v] [slc t] (cells b.1) (cells ((b.2.take k).map (applied [v] [t])))) =
   if ((b.2.drop k).any fun x=>decide (24 < (applied [v] [t] x).length))=true then uT (.inr 2) else uT (.inl (bput (b.1,b.2.map (applied [v] [t])) v t)):=by
  intro n
  induction n with
  | zero =>
    intro k f hk hf hq
    obtain ⟨f,rfl⟩:∃ x,f=x+1:=⟨f - 1,by omega⟩
    obtain rfl:k=b.2.length:=by omega
    rw [List.take_length] at hq ⊢
    rw [List.drop_of_length_le (Nat.le_refl _)]
    have hw:=(spec_l6With b.1 (b.2.map (applied [v] [t])) v t (by simp; omega) (by omega) (by omega) hnb (fun x hx=>by
     obtain ⟨y,hy,rfl⟩:=List.mem_map.1 hx
     have:=hq y hy
     omega)).eq
    simp only [spec_l6Bind.next0,spec_l6Bind.round0,evz,Nat.reduceLT,Nat.lt_irrefl,hw,List.any_nil,Bool.false_eq_true,if_false]
    rfl
  | succ n ih =>
    intro k f hk hf hq
    obtain ⟨f,rfl⟩:∃ x,f=x+1:=⟨f - 1,by omega⟩
    have hkl:k < b.2.length:=by omega
    have hto:=hb.mb.tm _ (List.getElem_mem hkl)
    have htol:=hto.le
    have happ:LIM F.spec_l6Apply [.rref [.sl 1 [.int .i64 v],.sl 1 [slc t]] 0,slc b.2[k]]=some (slc (applied [v] [t] b.2[k]),[]):=(spec_l6Apply [v] [t] hbo b.2[k] (by omega) (hto.range ok)).eq
    have hg:b.2[k]?=some b.2[k]:=List.getElem?_eq_getElem hkl
    have he:∀ x:List Int,(enc x)[0]?=some (slc x):=fun _=>rfl
    rw [List.drop_eq_getElem_cons hkl,List.any_cons]
    have e1:(b.2.take (k+1)).map (applied [v] [t])=(b.2.take k).map (applied [v] [t])++[applied [v] [t] b.2[k]]:=by rw [← List.take_append_getElem hkl,List.map_append]; rfl
    by_cases h24:24 < (applied [v] [t] b.2[k]).length
    · have h24':((applied [v] [t] b.2[k]).length:Int) > 24:=by omega
      simp only [spec_l6Bind.next0,spec_l6Bind.round0,evz,Nat.reduceLT,hkl,hg,he,happ,h24',h24,Bool.true_or]
      rfl
    · have h24':¬ ((applied [v] [t] b.2[k]).length:Int) > 24:=by omega
      simp only [spec_l6Bind.next0,spec_l6Bind.round0,evz,Nat.reduceLT,hkl,hg,he,happ,h24',h24,Bool.false_or]
      rw [wrap_succ (by omega),cond_pos (ble_ok (by rw [cells_length,show Enc.sz (List Int)=1 from rfl]; simp; omega))]
      have:=ih (k+1) f (by omega) (by omega) (fun x hx=>by
       rw [← List.take_append_getElem hkl] at hx
       rcases List.mem_append.1 hx with hx | hx
       · exact hq x hx
       · rw [List.mem_singleton.1 hx]; omega)
      rw [e1,cells_append] at this
      exact this
 have:=loop b.2.length 0 20 (by omega) (by omega) (by simp)
 rw [List.take_zero,List.map_nil,List.drop_zero] at this
 refine this.trans ?_
 unfold bindAll
 by_cases h:(b.2.any fun x=>decide (24 < (applied [v] [t] x).length))=true
 · rw [if_pos h,if_pos h]
 · rw [if_neg h,if_neg h]
theorem spec_l6Args {x y:List Int} (hx:TermOk l x) (hy:TermOk l y) (h0:0≤x.getD 0 0) (he:x.getD 0 0=y.getD 0 0):Call F.spec_l6Args [.rref [slc l] 0,slc x,slc y] (slc (argsOf l x y)):=by
 have hlx:=hx.le
 have hly:=hy.le
 have hxp:=hx.pos
 have hyp:=hy.pos
 have hdx:x.getD 0 0=x[0]:=getD_at (by omega)
 have hdy:y.getD 0 0=y[0]:=getD_at (by omega)
 have har:=ar_le (l:=l) ok x[0]
 have hnode:=nodeOk_iff.1 (hx.node _ (List.getElem_mem (n:=0) (by omega)))
 have hls:l.length≤6:=ok.le
 obtain ⟨u,hu⟩:∃ u:Nat,x[0]=u:=⟨x[0].toNat,by omega⟩
 have hul:u < l.length:=by omega
 have hare:(l[u]).arity=(ar l x[0]:Nat):=by
  have:=ar_eq ok (n:=x[0]) (by omega) (by rw [hu]; simpa using hul)
  simpa [hu] using this
 have hin:inB (0:Int) x.length=true:=(inB_nat 0 _).trans (by simp; omega)
 have hx0:=cells_head hx
 rw [hdx,hu] at hx0
 have hlu:l[u]?=some l[u]:=List.getElem?_eq_getElem hul
 refine call_of rfl 4 ((spec_l6Args.ev _ _ _ _).trans ?_)
 have loop:∀ n k q r f (out:List Pr) rx ry,k+n=ar l x[0]→n < f→skip (ar l) n (x.drop q)=some rx→skip (ar l) n (y.drop r)=some ry→out.length=k →
  spec_l6Args.at0 4 f (spec_l6Args.st0 (cells l) (cells x) (cells y) (q:Nat) (r:Nat) (k:Nat) (cells out)) =
   some (slc (out++((startsN l x n q).zip (startsN l y n r)).map fun p=>(⟨subAt l x p.1,subAt l y p.2⟩:Pr)),[]):=by
  intro n
  induction n with
  | zero =>
    intro k q r f out rx ry hk hf h1 h2 ho
    obtain ⟨f,rfl⟩:∃ x,f=x+1:=⟨f - 1,by omega⟩
    have:¬ k < ar l x[0]:=by omega
    rw [hu] at this
    simp only [spec_l6Args.next0,spec_l6Args.round0,evz,Nat.reduceLT,hin,hx0,hlu,hul,enc_Symbol,hare,startsN,List.zip_nil_left,List.map_nil,List.append_nil,hu,this]
  | succ n ih =>
    intro k q r f out rx ry hk hf h1 h2 ho
    obtain ⟨f,rfl⟩:∃ x,f=x+1:=⟨f - 1,by omega⟩
    obtain ⟨a1,a2,a3,a4⟩:=skip_one h1
    obtain ⟨b1,b2,b3,b4⟩:=skip_one h2
    have hlt:k < ar l x[0]:=by omega
    rw [hu] at hlt
    have sx:=(spec_l3Sub ok hx a1).eq
    have sy:=(spec_l3Sub ok hy b1).eq
    have ex:q+(subAt l x q).length=endAt l x q:=by unfold subAt; simp; omega
    have ey:r+(subAt l y r).length=endAt l y r:=by unfold subAt; simp; omega
    have ic:=ih (k+1) (endAt l x q) (endAt l y r) f (out++[⟨subAt l x q,subAt l y r⟩]) rx ry (by omega) (by omega) a2 b2 (by simp [ho])
    simp only [spec_l6Args.next0,spec_l6Args.round0,evz,Nat.reduceLT,hin,hx0,hlu,hul,enc_Symbol,hare,hu,hlt,sx,sy]
    rw [wrap64 (x:=(q:Int)+_) (by omega),wrap64 (x:=(r:Int)+_) (by omega),wrap_succ (by omega),cond_pos (ble_ok (by rw [cells_length,sz_Equation]; omega))]
    rw [show (q:Int)+((subAt l x q).length:Nat)=(endAt l x q:Nat) by omega,show (r:Int)+((subAt l y r).length:Nat)=(endAt l y r:Nat) by omega]
    rw [cells_append] at ic
    refine Eq.trans ?_ (ic.trans ?_)
    · rfl
    · rw [startsN,startsN,List.zip_cons_cons,List.map_cons,List.append_assoc]; rfl
 obtain ⟨rx,hrx⟩:=args_skip hx (p:=0) (by omega)
 obtain ⟨ry,hry⟩:=args_skip hy (p:=0) (by omega)
 have hay:ar l y[0]=ar l x[0]:=by rw [← hdx,← hdy,he]
 rw [hay] at hry
 have:=loop (ar l x[0]) 0 1 1 4 [] rx ry (by omega) (by omega) hrx hry rfl
 unfold argsOf starts
 rw [hdx,hdy,hay]
 exact this
theorem spec_l6Unify {a b:List Int} (ha:TermOk l a) (hb:TermOk l b):LIM F.spec_l6Unify [.rref [slc l] 0,slc a,slc b]=uT (unifR l a b):=by
 obtain ⟨⟨n,hn⟩,_⟩:=unifR_spec ha hb
 have hal:=ha.le
 have hbl:=hb.le
 have hcall:∀ r,callK prog Ev.A H LIM (n+20) F.spec_l6Unify [.rref [slc l] 0,slc a,slc b]=uT r→LIM F.spec_l6Unify [.rref [slc l] 0,slc a,slc b]=uT r:=fun r h=>by
  cases r with
  | inl x=>exact call_of rfl _ h
  | inr x=>exact call_of rfl _ h
 refine hcall _ ((spec_l6Unify.ev _ _ _ _).trans ?_)
 have i1:=(spec_l1Ints' a (by omega)).eq
 have i2:=(spec_l1Ints' b (by omega)).eq
 simp only [evz,Nat.reduceLT,i1,i2]
 have loop:=unif_loop (l:=l) (S:=fun f (b:Bnd) (ps:List Pr)=>spec_l6Unify.at0 (n+20) f (spec_l6Unify.st0 (cells l) (cells ps) (cells b.1) (cells b.2))) (out:=uT)
  (fun f b=>by
   simp only [spec_l6Unify.next0,spec_l6Unify.round0,cells_nil,List.length_nil]
   rfl)
  (fun f b p ps hb h1 h2 hps hl => ?_) n (n+20) ([],[]) [⟨a,b⟩] _ (by omega) (UB.nil l) (fun p hp=>by rw [List.mem_singleton.1 hp]; exact ⟨ha,hb⟩) ⟨[],_,rfl,by simp [psize],by simp⟩ hn
 · exact loop
 · have hbo:=hb.mb.ok (by omega)
   have hl1:=h1.le
   have hl2:=h2.le
   have a1:=(spec_l6Apply b.1 b.2 hbo p.left (by omega) (h1.range ok)).eq
   have a2:=(spec_l6Apply b.1 b.2 hbo p.right (by omega) (h2.range ok)).eq
   have g0:(cells (p::ps))[0]?=some (slc p.left):=rfl
   have g1:(cells (p::ps))[1]?=some (slc p.right):=rfl
   have hpl:((p::ps).length:Int) > 0:=by simp
   have hin:inB (0:Int) (p::ps).length=true:=(inB_nat 0 _).trans (by simp)
   have hfx:=hb.applied_free p.left
   have hfy:=hb.applied_free p.right
   have hox:=fun h=>hb.applied_ok h1 h
   have hoy:=fun h=>hb.applied_ok h2 h
   have hhx:=fun h h'=>hb.head_var (hox h) h'
   have hhy:=fun h h'=>hb.head_var (hoy h) h'
   have hb1:decide (0≤(1:Int))=true:=rfl
   have hb2:(1:Int)≤((p::ps).length:Int):=by simp only [List.length_cons]; omega
   have hlx:=applied_length hbo p.left
   have hly:=applied_length hbo p.right
   obtain ⟨Z,hZ⟩:∃ Z,Z=ustep l b p ps uT (fun (b:Bnd) (ps:List Pr)=>spec_l6Unify.at0 (n+20) f (spec_l6Unify.st0 (cells l) (cells ps) (cells b.1) (cells b.2))):=⟨_,rfl⟩
   show _=ustep l b p ps uT (fun (b:Bnd) (ps:List Pr)=>spec_l6Unify.at0 (n+20) f (spec_l6Unify.st0 (cells l) (cells ps) (cells b.1) (cells b.2)))
   rw [← hZ]
   unfold ustep at hZ
   simp only [spec_l6Unify.next0,spec_l6Unify.round0,evz,Nat.reduceLT,hpl,hin,g0,g1,a1,a2,hb1,hb2,Int.le_refl,Bool.and_self,cells_tail]
   generalize applied b.1 b.2 p.left=x at *
   generalize applied b.1 b.2 p.right=y at *
   by_cases c1:24 < x.length
   · have c1':(x.length:Int) > 24:=by omega
     rw [if_pos (.inl c1)] at hZ
     simp only [c1',evz,Nat.reduceLT]
     rw [hZ]
     rfl
   by_cases c1b:24 < y.length
   · have c1':¬ (x.length:Int) > 24:=by omega
     have c1b':(y.length:Int) > 24:=by omega
     rw [if_pos (.inr c1b)] at hZ
     simp only [c1',c1b',evz,Nat.reduceLT]
     rw [hZ]
     rfl
   have c1':¬ (x.length:Int) > 24:=by omega
   have c1b':¬ (y.length:Int) > 24:=by omega
   have hx:=hox (by omega)
   have hy:=hoy (by omega)
   have hxp:=hx.pos
   have hyp:=hy.pos
   have heq:=(spec_l1Same x y ⟨by omega,fun _ _=>trivial⟩).eq
   rw [if_neg (by omega)] at hZ
   by_cases c2:x=y
   · rw [if_pos c2] at hZ
     rw [decide_eq_true c2] at heq
     simp only [c1',c1b',evz,Nat.reduceLT,heq]
     rw [hZ]
   rw [if_neg c2] at hZ
   rw [decide_eq_false c2] at heq
   have x0:=cells_head hx
   have y0:=cells_head hy
   have inx:inB (0:Int) x.length=true:=(inB_nat 0 _).trans (by simp; omega)
   have iny:inB (0:Int) y.length=true:=(inB_nat 0 _).trans (by simp; omega)
   by_cases c3:x.getD 0 0 < 0
   · obtain ⟨hv,hnb⟩:=hhx (by omega) c3
     have h5:=spec_l6Bind ok hb hv hnb hy
     unfold sbindR at h5
     rw [show -1 - (-1 - x.getD 0 0)=x.getD 0 0 by omega] at h5
     rw [if_pos c3] at hZ
     by_cases c4:x.getD 0 0∈y
     · rw [if_pos c4] at hZ h5
       simp only [c1',c1b',evz,Nat.reduceLT,heq,inx,x0,c3,wrap64 (x := -1 - x.getD 0 0) (by omega),h5]
       rw [hZ]
       rfl
     · rw [if_neg c4] at hZ h5
       simp only [c1',c1b',evz,Nat.reduceLT,heq,inx,x0,c3,wrap64 (x := -1 - x.getD 0 0) (by omega),h5]
       rw [hZ]
       cases bindAll b (-1 - x.getD 0 0) y with
       | none=>rfl
       | some b'=>rfl
   rw [if_neg c3] at hZ
   by_cases c5:y.getD 0 0 < 0
   · obtain ⟨hv,hnb⟩:=hhy (by omega) c5
     have h5:=spec_l6Bind ok hb hv hnb hx
     unfold sbindR at h5
     rw [show -1 - (-1 - y.getD 0 0)=y.getD 0 0 by omega] at h5
     rw [if_pos c5] at hZ
     by_cases c4:y.getD 0 0∈x
     · rw [if_pos c4] at hZ h5
       simp only [c1',c1b',evz,Nat.reduceLT,heq,inx,iny,x0,y0,c3,c5,wrap64 (x := -1 - y.getD 0 0) (by omega),h5]
       rw [hZ]
       rfl
     · rw [if_neg c4] at hZ h5
       simp only [c1',c1b',evz,Nat.reduceLT,heq,inx,iny,x0,y0,c3,c5,wrap64 (x := -1 - y.getD 0 0) (by omega),h5]
       rw [hZ]
       cases bindAll b (-1 - y.getD 0 0) x with
       | none=>rfl
       | some b'=>rfl
   rw [if_neg c5] at hZ
   by_cases c6:x.getD 0 0=y.getD 0 0
   · rw [if_neg (by simpa using c6)] at hZ
     have h3:=(spec_l6Args ok hx hy (by omega) c6).eq
     have hal:(argsOf l x y).length≤2:=by
      have:=starts_le ok x 0
      unfold argsOf; rw [List.length_map,List.length_zip]; omega
     rw [c6] at x0 c3
     simp only [c1',c1b',evz,Nat.reduceLT,heq,inx,iny,x0,y0,c3,c5,eq_self,h3]
     rw [cond_pos (ble_ok (by rw [cells_length,cells_length,sz_Equation]; omega)),← cells_append]
     rw [hZ]
   · rw [if_pos c6] at hZ
     simp only [c1',c1b',evz,Nat.reduceLT,heq,inx,iny,x0,y0,c3,c5,c6]
     rw [hZ]
     rfl
end
end Ev.Ty
end
section
namespace Ev.Ty
open Go Ev
open Enc (enc)
open Sm (sm)
set_option linter.unusedSimpArgs false
set_option linter.unusedVariables false
theorem rulesFault_ok {l:List Symbol} {rs:List Equation} (h:rulesFault ⟨l⟩ rs=0):sigFault ⟨l⟩=0∧SigOk ⟨l⟩∧rs.length≤12∧∀ e∈rs,EqOk l e:=by
 unfold rulesFault at h
 split at h
 · rename_i h1; exact absurd h h1
 rename_i h1
 have h1:sigFault ⟨l⟩=0:=by simpa using h1
 unfold rulesFault0 at h
 split at h
 · rename_i h2; exact absurd h h2
 rename_i h2
 obtain ⟨q1,q2⟩:=eqsOk_iff.1 (show eqsFault l rs=0 by simpa using h2)
 exact ⟨h1,(sigOk_iff _).1 h1,q1,q2⟩
theorem rewriteFault_ok {l:List Symbol} {rs:List Equation} {t:List Int} (h:rewriteFault ⟨l⟩ rs t=0):SigOk ⟨l⟩∧rs.length≤12∧(∀ e∈rs,EqOk l e)∧TermOk l t:=by
 unfold rewriteFault at h
 split at h
 · rename_i h1; exact absurd h h1
 rename_i h1
 obtain ⟨_,q1,q2,q3⟩:=rulesFault_ok (l:=l) (rs:=rs) (by simpa using h1)
 exact ⟨q1,q2,q3,(termOk_iff _ _).1 h⟩
theorem impl_rewriteFault (l:List Symbol) (hs:l.length≤4294967296) (rs:List Equation) (hr:sm 4294967296 rs) (t:List Int) (ht:t.length≤4294967296) :
 Call F.impl_rewriteFault [.agg [slc l],slc rs,slc t] (.int .i64 (rewriteFault ⟨l⟩ rs t)):=by
 refine call_of rfl 0 ((impl_rewriteFault.ev _ _ _ _).trans ?_)
 simp only [evz,Nat.reduceLT,(impl_RulesFault l hs rs hr).eq,(impl_TermFault l hs t ht).eq,(firstCode2 _ _).eq,rewriteFault]
 by_cases h:rulesFault ⟨l⟩ rs=0
 · have h0:=(rulesFault_ok h).1
   simp only [h,evz,Nat.reduceLT,ne_eq,not_true_eq_false,termFault,h0]
 · simp only [h,evz,Nat.reduceLT,ne_eq,not_false_eq_true]
theorem impl_FindRedex (s:Signature) (rs:List Equation) (t:List Int) (hs:sm 1048576 s) (hr:sm 1048576 rs) (ht:sm 1048576 t):Call F.impl_FindRedex [.agg (enc s),slc rs,slc t] (.agg (enc (findRedexR s rs t))):=by
 obtain ⟨l⟩:=s
 have hsl:l.length≤4294967296:=Nat.le_trans hs.1 (by omega)
 have htl:t.length≤4294967296:=Nat.le_trans ht.1 (by omega)
 show Call F.impl_FindRedex [.agg [slc l],slc rs,slc t] _
 refine call_of rfl 0 ((impl_FindRedex.ev _ _ _ _).trans ?_)
 simp only [evz,Nat.reduceLT,(impl_rewriteFault l hsl rs (sm_mono (by omega) hr) t htl).eq,findRedexR]
 by_cases h:rewriteFault ⟨l⟩ rs t=0
 case neg=>simp only [h,evz,Nat.reduceLT,ne_eq,not_false_eq_true,enc_RedexResult]
 obtain ⟨ok,q1,q2,q3⟩:=rewriteFault_ok h
 simp only [h,evz,Nat.reduceLT,ne_eq,not_true_eq_false,(impl_findRedex ok q2 q1 q3).eq]
 by_cases h0:(redex l rs t).1 < 0
 · have h0':¬ (redex l rs t).1 ≥ 0:=by omega
   simp only [h0,h0',evz,Nat.reduceLT,Bool.not_false,enc_RedexResult]
 · have h0':(redex l rs t).1 ≥ 0:=by omega
   simp only [h0,h0',evz,Nat.reduceLT,Bool.not_true,enc_RedexResult]
def isNormalR (s:Signature) (rs:List Equation) (t:List Int):Bool:=decide ((findRedexR s rs t).code=4)
theorem impl_IsNormal (s:Signature) (rs:List Equation) (t:List Int) (hs:sm 1048576 s) (hr:sm 1048576 rs) (ht:sm 1048576 t):Call F.impl_IsNormal [.agg (enc s),slc rs,slc t] (.bool (isNormalR s rs t)):=by
 have hf:=(impl_FindRedex s rs t hs hr ht).eq
 obtain ⟨l⟩:=s
 have hf:LIM F.impl_FindRedex [.agg [slc l],slc rs,slc t]=some (.agg (enc (findRedexR ⟨l⟩ rs t)),[]):=hf
 show Call F.impl_IsNormal [.agg [slc l],slc rs,slc t] _
 refine call_of rfl 0 ((impl_IsNormal.ev _ _ _ _).trans ?_)
 simp only [evz,Nat.reduceLT,hf,enc_RedexResult]
 rfl
theorem norm_sm {l:List Symbol} {rs:List Equation} (hr:∀ e∈rs,EqOk l e):∀ (m k:Nat) (t:List Int),TermOk l t→sm 67108864 (norm l rs m k t)∧((norm l rs m k t).code=0→TermOk l (norm l rs m k t).term)
 | 0,k,t,ht=>by
   have:=ht.le
   rw [norm]
   split
   · exact ⟨⟨by simp only; omega,fun _ _=>trivial⟩,fun _=>ht⟩
   · exact ⟨⟨by simp,by simp⟩,fun h=>by cases h⟩
 | m+1,k,t,ht=>by
   have:=ht.le
   rw [norm]
   split
   · exact ⟨⟨by simp only; omega,fun _ _=>trivial⟩,fun _=>ht⟩
   rename_i h0
   split
   · rename_i hc
     exact ⟨⟨by simp,by simp⟩,fun h=>absurd h hc⟩
   · rename_i hc
     rcases redex_range (l:=l) (rs:=rs) t with h | ⟨a,q,hq,ha,e1,e2⟩
     · exact absurd h h0
     · have hg:rs.getD (redex l rs t).2.toNat ⟨[],[]⟩=rs[q]:=by rw [e2,Int.toNat_natCast]; exact getE hq
       have hga:(redex l rs t).1.toNat=a:=by rw [e1,Int.toNat_natCast]
       rw [hg,hga] at hc ⊢
       exact norm_sm hr m (k+1) _ (stepAt_ok (hr _ (List.getElem_mem hq)) ht ha (by simpa using hc))
theorem impl_NormalForm (s:Signature) (rs:List Equation) (t:List Int) (fuel:Int) (hs:sm 1048576 s) (hr:sm 1048576 rs) (ht:sm 1048576 t):Call F.impl_NormalForm [.agg (enc s),slc rs,slc t,.int .i64 fuel] (.agg (enc (normalFormR s rs t fuel))):=by
 obtain ⟨l⟩:=s
 have hsl:l.length≤4294967296:=Nat.le_trans hs.1 (by omega)
 have htl:t.length≤4294967296:=Nat.le_trans ht.1 (by omega)
 show Call F.impl_NormalForm [.agg [slc l],slc rs,slc t,.int .i64 fuel] _
 refine call_of rfl 0 ((impl_NormalForm.ev _ _ _ _ _).trans ?_)
 simp only [evz,Nat.reduceLT,(impl_rewriteFault l hsl rs (sm_mono (by omega) hr) t htl).eq,normalFormR,(impl_within _ _ _).eq]
 by_cases h:rewriteFault ⟨l⟩ rs t=0
 case neg=>simp only [h,evz,Nat.reduceLT,ne_eq,not_false_eq_true,enc_NormalResult,slc_nil]
 obtain ⟨ok,q1,q2,q3⟩:=rewriteFault_ok h
 cases h1:inR fuel 0 200 with
 | false=>simp only [h,evz,Nat.reduceLT,ne_eq,not_true_eq_false,Bool.not_false,enc_NormalResult,slc_nil]
 | true =>
   have hf1:=inR_iff.1 h1
   obtain ⟨k,rfl⟩:∃ k:Nat,fuel=k:=⟨fuel.toNat,by omega⟩
   have hnf:=(impl_normalForm ok q2 q1 q3 (fuel:=k) (by omega)).eq
   rw [enc_NormalResult] at hnf
   simp only [h,evz,Nat.reduceLT,ne_eq,not_true_eq_false,Bool.not_true,hnf,enc_NormalResult,reduceCtorEq]
theorem normalFormR_term {l:List Symbol} {rs:List Equation} {t:List Int} {fuel:Int} (h:(normalFormR ⟨l⟩ rs t fuel).code=0):rewriteFault ⟨l⟩ rs t=0∧inR fuel 0 200=true∧normalFormR ⟨l⟩ rs t fuel=norm l rs fuel.toNat 0 t∧(normalFormR ⟨l⟩ rs t fuel).term.length≤24:=by
 unfold normalFormR at h ⊢
 by_cases h1:rewriteFault ⟨l⟩ rs t=0
 case neg=>rw [if_pos h1] at h; exact absurd h h1
 rw [if_neg (by simpa using h1)] at h ⊢
 cases h2:inR fuel 0 200 with
 | false=>rw [h2,if_pos rfl] at h; cases h
 | true =>
   rw [h2,if_neg (by simp)] at h
   rw [if_neg (by simp)]
   obtain ⟨ok,q1,q2,q3⟩:=rewriteFault_ok h1
   exact ⟨h1,rfl,rfl,((norm_sm q2 _ _ _ q3).2 h).le⟩
theorem impl_AreJoined (s:Signature) (rs:List Equation) (a b:List Int) (fuel:Int) (hs:sm 1048576 s) (hr:sm 1048576 rs) (ha:sm 1048576 a) (hb:sm 1048576 b):Call F.impl_AreJoined [.agg (enc s),slc rs,slc a,slc b,.int .i64 fuel] (.agg (enc (areJoinedR s rs a b fuel))):=by
 have ca:=impl_NormalForm s rs a fuel hs hr ha
 have cb:=impl_NormalForm s rs b fuel hs hr hb
 obtain ⟨l⟩:=s
 have ca:Call F.impl_NormalForm [.agg [slc l],slc rs,slc a,.int .i64 fuel] (.agg (enc (normalFormR ⟨l⟩ rs a fuel))):=ca
 have cb:Call F.impl_NormalForm [.agg [slc l],slc rs,slc b,.int .i64 fuel] (.agg (enc (normalFormR ⟨l⟩ rs b fuel))):=cb
 show Call F.impl_AreJoined [.agg [slc l],slc rs,slc a,slc b,.int .i64 fuel] _
 refine call_of rfl 0 ((impl_AreJoined.ev _ _ _ _ _ _).trans ?_)
 simp only [evz,Nat.reduceLT,ca.eq,cb.eq,enc_NormalResult,areJoinedR]
 by_cases h1:(normalFormR ⟨l⟩ rs a fuel).code=0
 case neg=>simp only [h1,evz,Nat.reduceLT,ne_eq,not_false_eq_true,enc_IntResult]
 by_cases h2:(normalFormR ⟨l⟩ rs b fuel).code=0
 case neg=>simp only [h1,h2,evz,Nat.reduceLT,ne_eq,not_true_eq_false,not_false_eq_true,enc_IntResult]
 have l1:=(normalFormR_term h1).2.2.2
 have heq:=(slices_Equal_Sint64 (normalFormR ⟨l⟩ rs a fuel).term (normalFormR ⟨l⟩ rs b fuel).term ⟨by omega,fun _ _=>trivial⟩).eq
 by_cases h3:(normalFormR ⟨l⟩ rs a fuel).term=(normalFormR ⟨l⟩ rs b fuel).term
 · rw [decide_eq_true h3] at heq
   simp only [h1,h2,evz,Nat.reduceLT,ne_eq,not_true_eq_false,heq,enc_IntResult]
   rw [if_pos h3]
 · rw [decide_eq_false h3] at heq
   simp only [h1,h2,evz,Nat.reduceLT,ne_eq,not_true_eq_false,heq,enc_IntResult]
   rw [if_neg h3]
theorem spec_l8Joined {l:List Symbol} (ok:SigOk ⟨l⟩) {rs:List Equation} (hr:∀ e∈rs,EqOk l e) (hn:rs.length≤12) {a b:List Int} (ha:TermOk l a) (hb:TermOk l b) {fuel:Nat} (hf:fuel≤200) :
 Call F.spec_l8Joined [.rref [slc l] 0,slc rs,slc a,slc b,.int .i64 fuel]
  (if (norm l rs fuel 0 a).code≠0 then .tup [.int .i64 0,.int .i64 (norm l rs fuel 0 a).code] else if (norm l rs fuel 0 b).code≠0 then .tup [.int .i64 0,.int .i64 (norm l rs fuel 0 b).code]
   else if (norm l rs fuel 0 a).term=(norm l rs fuel 0 b).term then .tup [.int .i64 1,.int .i64 0] else .tup [.int .i64 0,.int .i64 0]):=by
 have ca:=(spec_l8Normal ok hr hn ha hf).eq
 have cb:=(spec_l8Normal ok hr hn hb hf).eq
 rw [enc_NormalResult] at ca cb
 refine call_of rfl 0 ((spec_l8Joined.ev _ _ _ _ _ _).trans ?_)
 simp only [evz,Nat.reduceLT,ca,cb]
 by_cases h1:(norm l rs fuel 0 a).code=0
 case neg=>simp only [h1,evz,Nat.reduceLT,ne_eq,not_false_eq_true]
 by_cases h2:(norm l rs fuel 0 b).code=0
 case neg=>simp only [h1,h2,evz,Nat.reduceLT,ne_eq,not_true_eq_false,not_false_eq_true]
 have l1:=((norm_sm hr _ _ _ ha).2 h1).le
 have heq:=(spec_l1Same (norm l rs fuel 0 a).term (norm l rs fuel 0 b).term ⟨by omega,fun _ _=>trivial⟩).eq
 by_cases h3:(norm l rs fuel 0 a).term=(norm l rs fuel 0 b).term
 · rw [decide_eq_true h3] at heq
   simp only [h1,h2,evz,Nat.reduceLT,ne_eq,not_true_eq_false,heq]
   rw [if_pos h3]
 · rw [decide_eq_false h3] at heq
   simp only [h1,h2,evz,Nat.reduceLT,ne_eq,not_true_eq_false,heq]
   rw [if_neg h3]
end Ev.Ty
end
section
namespace Ev.Ty
open Go Ev
open Enc (enc)
open Sm (sm)
set_option linter.unusedSimpArgs false
set_option linter.unusedVariables false
theorem shiftT_length (t:List Int) (b:Int):(shiftT t b).length=t.length:=by simp [shiftT]
theorem shiftT_succ {t:List Int} {b:Int} {k:Nat} (h:k < t.length):shiftT (t.take (k+1)) b=shiftT (t.take k) b++[if t[k] < 0 then t[k] - b else t[k]]:=by
 rw [← List.take_append_getElem h]; unfold shiftT; rw [List.map_append]; rfl
theorem impl_shifted (t:List Int) (ht:t.length≤4096) (hr:∀ n∈t,-4611686018427387904≤n):Call F.impl_shifted [slc t,.int .i64 6] (slc (shiftT t 6)):=by
 refine call_of rfl (t.length+1) ((impl_shifted.ev _ _ _).trans ?_)
 simp only [evz,Nat.reduceLT,(slices_Clone_Sint64 t (by omega)).eq]
 have key:=run_loop (n:=t.length) (f:=t.length+1) (S:=fun m k (o:List Int)=>impl_shifted.at0 (t.length+1) m (impl_shifted.st0 6 t.length (k:Nat) (cells o)))
  (st:=fun k=>shiftT (t.take k) 6++t.drop k) (z:=some (slc (shiftT t 6),[])) (fun m k h => ?_) (fun m => ?_) (by omega)
 · exact key
 · have hn:=hr t[k] (List.getElem_mem h)
   have e1:shiftT (t.take (k+1)) 6++t.drop (k+1)=(shiftT (t.take k) 6++t.drop k).set k (if t[k] < 0 then t[k] - 6 else t[k]):=by
    rw [shiftT_succ h,List.set_append_right _ _ (by rw [shiftT_length]; simp; omega),List.drop_eq_getElem_cons h]
    rw [show k - (shiftT (t.take k) 6).length=0 by rw [shiftT_length]; simp; omega,List.set_cons_zero]
    simp
   obtain ⟨M,hM⟩:∃ M,M=shiftT (t.take k) 6++t.drop k:=⟨_,rfl⟩
   have hMl:M.length=t.length:=by rw [hM]; simp [shiftT_length]; omega
   have hMk:M[k]?=some t[k]:=by
    rw [hM,List.getElem?_append_right (by rw [shiftT_length]; simp; omega)]
    simp [shiftT_length,Nat.min_eq_left (Nat.le_of_lt h),List.getElem?_eq_getElem h]
   rw [e1,← hM]
   have hkM:k < M.length:=by omega
   have hkc:k*1+1≤(cells M).length:=by rw [cells_length,sz_int]; omega
   simp only [impl_shifted.next0,impl_shifted.round0,evz,Nat.reduceLT,h,hMk,hkM,enc_int]
   by_cases hneg:t[k] < 0
   · rw [wrap64 (x:=t[k] - 6) (by omega)]
     have:=set_Int hkM (t[k] - 6)
     simp only [hneg,evz,Nat.reduceLT,this,hkc]
     rw [wrap_succ (by omega)]
   · have hs:M.set k t[k]=M:=set_same hMk
     simp only [hneg,evz,Nat.reduceLT,hs]
     rw [wrap_succ (by omega)]
 · rw [List.take_length,List.drop_of_length_le (Nat.le_refl _),List.append_nil]
   simp only [impl_shifted.next0,impl_shifted.round0,evz,Nat.reduceLT,Nat.lt_irrefl]
theorem spec_l6Shift (t:List Int) (ht:t.length≤4096) (hr:∀ n∈t,-4611686018427387904≤n):Call F.spec_l6Shift [slc t,.int .i64 6] (slc (shiftT t 6)):=by
 refine call_of rfl (t.length+1) ((spec_l6Shift.ev _ _ _).trans ?_)
 have key:=run_loop (n:=t.length) (f:=t.length+1) (S:=fun m k (o:List Int)=>spec_l6Shift.at0 (t.length+1) m (spec_l6Shift.st0 (cells t) 6 (k:Nat) (cells o)))
  (st:=fun k=>shiftT (t.take k) 6) (z:=some (slc (shiftT t 6),[])) (fun m k h => ?_) (fun m => ?_) (by omega)
 · exact key
 · have hn:=hr t[k] (List.getElem_mem h)
   have hlk:t[k]?=some t[k]:=List.getElem?_eq_getElem h
   have hb:Nat.ble (((cells (shiftT (t.take k) 6)).length+1)*8) (140737488355328*1)=true:=ble_ok (by rw [cells_length,sz_int,shiftT_length]; simp; omega)
   rw [shiftT_succ h]
   simp only [spec_l6Shift.next0,spec_l6Shift.round0,evz,Nat.reduceLT,h,hlk,enc_int]
   by_cases hneg:t[k] < 0
   · rw [wrap64 (x:=t[k] - 6) (by omega)]
     simp only [hneg,evz,Nat.reduceLT,cells_snoc_int]
     rw [wrap_succ (by omega),cond_pos hb]
   · simp only [hneg,evz,Nat.reduceLT,cells_snoc_int]
     rw [wrap_succ (by omega),cond_pos hb]
 · rw [List.take_length]
   simp only [spec_l6Shift.next0,spec_l6Shift.round0,evz,Nat.reduceLT,Nat.lt_irrefl]
theorem idx_neg_iff {s:List Int} {n:Int}:idx (fun x=>decide (x=n)) s < 0↔n∉s:=by
 rcases idx_spec (fun x:Int=>decide (x=n)) s with ⟨h1,h2⟩ | ⟨i,hi,h1,h2,_⟩
 · exact ⟨fun _ hm=>by have:=h2 n hm; simp at this,fun _=>by omega⟩
 · exact ⟨fun h=>by omega,fun h=>absurd ((show s[i]=n by simpa using h2) ▸ List.getElem_mem hi) h⟩
theorem idx_snoc {s:List Int} {n:Int} (h:n∉s):idx (fun x=>decide (x=n)) (s++[n])=s.length:=by
 unfold idx
 have:(s++[n]).findIdx? (fun x=>decide (x=n))=some s.length:=by
  rw [List.findIdx?_append]
  have h0:s.findIdx? (fun x=>decide (x=n))=none:=by
   rw [List.findIdx?_eq_none_iff]
   intro x hx
   have:x≠n:=fun e=>h (e ▸ hx)
   simpa using this
  rw [h0]
  simp [List.findIdx?_cons]
 rw [this]
theorem idx_range (s:List Int) (n:Int) : -1≤idx (fun x=>decide (x=n)) s∧idx (fun x=>decide (x=n)) s < s.length+1:=by
 rcases idx_spec (fun x:Int=>decide (x=n)) s with ⟨h1,_⟩ | ⟨i,hi,h1,_,_⟩ <;> omega
def plSt (seen t:List Int) (k:Nat):List Int × List Int:=((plainL seen (t.take k)).1++t.drop k,(plainL seen (t.take k)).2)
theorem plSt_len (seen t:List Int) {k:Nat} (hk:k≤t.length):(plSt seen t k).1.length=t.length:=by
 have:=(plainL_length seen (t.take k)).1
 unfold plSt; simp only [List.length_append,this]; simp; omega
theorem plSt_get (seen t:List Int) {k:Nat} (h:k < t.length):(plSt seen t k).1[k]?=some t[k]:=by
 have hl:=(plainL_length seen (t.take k)).1
 rw [List.length_take,Nat.min_eq_left (Nat.le_of_lt h)] at hl
 unfold plSt
 simp only
 rw [List.getElem?_append_right (by omega),hl,Nat.sub_self,List.drop_eq_getElem_cons h]; rfl
theorem plSt_seen (seen t:List Int) (k:Nat):(plSt seen t k).2.length≤seen.length+k:=by
 have:=(plainL_length seen (t.take k)).2.1
 unfold plSt
 simp at this ⊢
 omega
theorem plSt_succ (seen t:List Int) {k:Nat} (h:k < t.length):plSt seen t (k+1)=((plSt seen t k).1.set k (pstep (plSt seen t k).2 t[k]).1,(pstep (plSt seen t k).2 t[k]).2):=by
 have hl:=(plainL_length seen (t.take k)).1
 rw [List.length_take,Nat.min_eq_left (Nat.le_of_lt h)] at hl
 unfold plSt
 simp only
 rw [← List.take_append_getElem h,plainL_append,List.set_append_right _ _ (by omega),hl,Nat.sub_self,List.drop_eq_getElem_cons h,List.set_cons_zero]
 simp [plainL]
theorem plSt_zero (seen t:List Int):plSt seen t 0=(t,seen):=by simp [plSt,plainL]
theorem plSt_end (seen t:List Int):plSt seen t t.length=plainL seen t:=by simp [plSt]
theorem plSt_pos (seen t:List Int) {k:Nat} (h:k < t.length) (h0:0≤t[k]):plSt seen t (k+1)=plSt seen t k:=by
 have e:=plSt_succ seen t h
 have:pstep (plSt seen t k).2 t[k]=(t[k],(plSt seen t k).2):=by unfold pstep; rw [if_pos h0]
 rw [e,this,set_same (plSt_get seen t h)]
theorem plSt_new (seen t:List Int) {k:Nat} (h:k < t.length) (h0:¬ 0≤t[k]) (hn:t[k]∉(plSt seen t k).2) :
 plSt seen t (k+1)=((plSt seen t k).1.set k (-1 - ((plSt seen t k).2.length:Int)),(plSt seen t k).2++[t[k]]):=by
 rw [plSt_succ seen t h]
 unfold pstep
 rw [if_neg h0,if_pos (idx_neg_iff.2 hn)]
theorem plSt_old (seen t:List Int) {k:Nat} (h:k < t.length) (h0:¬ 0≤t[k]) (hn:t[k]∈(plSt seen t k).2) :
 plSt seen t (k+1)=((plSt seen t k).1.set k (-1 - idx (fun x=>decide (x=t[k])) (plSt seen t k).2),(plSt seen t k).2):=by
 rw [plSt_succ seen t h]
 unfold pstep
 rw [if_neg h0,if_neg (fun e=>idx_neg_iff.1 e hn)]
theorem impl_plain2 (seen t r:List Int) (hs:seen.length≤4096) (ht:t.length≤4096) {N:Nat} (hN:t.length < N) (L0:St→R) :
 impl_plain.at2 N L0 N (impl_plain.st2 2 (0:Nat) t.length (0:Nat) (cells seen) (cells t) (cells r))=L0 (impl_plain.st0 2 (1:Nat) (cells (plainL seen t).2) (cells (plainL seen t).1) (cells r)):=by
 have key:=run_loop (n:=t.length) (f:=N) (S:=fun m k (o:List Int × List Int)=>impl_plain.at2 N L0 m (impl_plain.st2 2 (0:Nat) t.length (k:Nat) (cells o.2) (cells o.1) (cells r)))
  (st:=fun k=>plSt seen t k) (z:=L0 (impl_plain.st0 2 (1:Nat) (cells (plainL seen t).2) (cells (plainL seen t).1) (cells r))) (fun m k h => ?_) (fun m => ?_) (by omega)
 · rw [plSt_zero] at key; exact key
 · have hl:=plSt_len seen t (Nat.le_of_lt h)
   have hg:=plSt_get seen t h
   have hsl:=plSt_seen seen t k
   have hp:=plSt_pos seen t h
   have hnw:=plSt_new seen t h
   have hod:=plSt_old seen t h
   generalize plSt seen t (k+1)=P at *
   generalize plSt seen t k=Q at *
   obtain ⟨M,s⟩:=Q
   simp only at hl hg hsl hp hnw hod
   have hkM:k < M.length:=by omega
   have hkc:k*1+1≤(cells M).length:=by rw [cells_length,sz_int]; omega
   have hct:=(slices_Contains_Sint64 s t[k] (by omega)).eq
   have hix:=(slices_Index_Sint64 s t[k] (by omega)).eq
   have hix':=(slices_Index_Sint64 (s++[t[k]]) t[k] (by simp; omega)).eq
   have hrg:=idx_range s t[k]
   by_cases h0:0≤t[k]
   · have h0':t[k] ≥ 0:=h0
     rw [hp h0]
     simp only [impl_plain.next2,impl_plain.round2,evz,Nat.reduceLT,h,hg,hkM,enc_int,h0']
     rw [wrap_succ (by omega)]
   · have h0':¬ t[k] ≥ 0:=h0
     by_cases hm:t[k]∈s
     · rw [hod h0 hm]
       rw [decide_eq_true hm] at hct
       have:=set_Int hkM (-1 - idx (fun x=>decide (x=t[k])) s)
       simp only [impl_plain.next2,impl_plain.round2,evz,Nat.reduceLT,h,hg,hkM,enc_int,h0',hct,hix,wrap64 (x := -1 - idx (fun x=>decide (x=t[k])) s) (by omega),this,hkc]
       rw [wrap_succ (by omega)]
     · rw [hnw h0 hm]
       rw [decide_eq_false hm] at hct
       rw [idx_snoc hm] at hix'
       have:=set_Int hkM (-1 - (s.length:Int))
       simp only [impl_plain.next2,impl_plain.round2,evz,Nat.reduceLT,h,hg,hkM,enc_int,h0',hct,cells_snoc_int,hix',wrap64 (x := -1 - (s.length:Int)) (by omega),this,hkc]
       rw [wrap_succ (by omega),cond_pos (ble_ok (by rw [cells_length,sz_int]; omega))]
 · rw [plSt_end]
   simp only [impl_plain.next2,impl_plain.round2,evz,Nat.reduceLT,Nat.lt_irrefl]
   rw [wrap_succ (by omega)]
theorem impl_plain3 (seen t r:List Int) (hs:seen.length≤4096) (ht:t.length≤4096) {N:Nat} (hN:t.length < N) (L0:St→R) :
 impl_plain.at1002 N L0 N (impl_plain.st1002 2 (1:Nat) t.length (0:Nat) (cells seen) (cells r) (cells t))=L0 (impl_plain.st0 2 (2:Nat) (cells (plainL seen t).2) (cells r) (cells (plainL seen t).1)):=by
 have key:=run_loop (n:=t.length) (f:=N) (S:=fun m k (o:List Int × List Int)=>impl_plain.at1002 N L0 m (impl_plain.st1002 2 (1:Nat) t.length (k:Nat) (cells o.2) (cells r) (cells o.1)))
  (st:=fun k=>plSt seen t k) (z:=L0 (impl_plain.st0 2 (2:Nat) (cells (plainL seen t).2) (cells r) (cells (plainL seen t).1))) (fun m k h => ?_) (fun m => ?_) (by omega)
 · rw [plSt_zero] at key; exact key
 · have hl:=plSt_len seen t (Nat.le_of_lt h)
   have hg:=plSt_get seen t h
   have hsl:=plSt_seen seen t k
   have hp:=plSt_pos seen t h
   have hnw:=plSt_new seen t h
   have hod:=plSt_old seen t h
   generalize plSt seen t (k+1)=P at *
   generalize plSt seen t k=Q at *
   obtain ⟨M,s⟩:=Q
   simp only at hl hg hsl hp hnw hod
   have hkM:k < M.length:=by omega
   have hkc:k*1+1≤(cells M).length:=by rw [cells_length,sz_int]; omega
   have hct:=(slices_Contains_Sint64 s t[k] (by omega)).eq
   have hix:=(slices_Index_Sint64 s t[k] (by omega)).eq
   have hix':=(slices_Index_Sint64 (s++[t[k]]) t[k] (by simp; omega)).eq
   have hrg:=idx_range s t[k]
   by_cases h0:0≤t[k]
   · have h0':t[k] ≥ 0:=h0
     rw [hp h0]
     simp only [impl_plain.next1002,impl_plain.round1002,evz,Nat.reduceLT,h,hg,hkM,enc_int,h0']
     rw [wrap_succ (by omega)]
   · have h0':¬ t[k] ≥ 0:=h0
     by_cases hm:t[k]∈s
     · rw [hod h0 hm]
       rw [decide_eq_true hm] at hct
       have:=set_Int hkM (-1 - idx (fun x=>decide (x=t[k])) s)
       simp only [impl_plain.next1002,impl_plain.round1002,evz,Nat.reduceLT,h,hg,hkM,enc_int,h0',hct,hix,wrap64 (x := -1 - idx (fun x=>decide (x=t[k])) s) (by omega),this,hkc]
       rw [wrap_succ (by omega)]
     · rw [hnw h0 hm]
       rw [decide_eq_false hm] at hct
       rw [idx_snoc hm] at hix'
       have:=set_Int hkM (-1 - (s.length:Int))
       simp only [impl_plain.next1002,impl_plain.round1002,evz,Nat.reduceLT,h,hg,hkM,enc_int,h0',hct,cells_snoc_int,hix',wrap64 (x := -1 - (s.length:Int)) (by omega),this,hkc]
       rw [wrap_succ (by omega),cond_pos (ble_ok (by rw [cells_length,sz_int]; omega))]
 · rw [plSt_end]
   simp only [impl_plain.next1002,impl_plain.round1002,evz,Nat.reduceLT,Nat.lt_irrefl]
   rw [wrap_succ (by omega)]
theorem impl_plain0 (a b:List Int) (ha:a.length≤1024) {N:Nat} (hN:1100≤N) (f:Nat) :
 impl_plain.at0 N (f+1) (impl_plain.st0 2 (0:Int) [] (cells a) (cells b))=impl_plain.at0 N f (impl_plain.st0 2 (1:Nat) (cells (plainL [] a).2) (cells (plainL [] a).1) (cells b)):=by
 have h2:=impl_plain2 [] a b (by simp) (by omega) (N:=N) (by omega) (impl_plain.at0 N f)
 rw [show ((0:Nat):Int)=0 from rfl,cells_nil] at h2
 rw [impl_plain.next0,impl_plain.round0]
 simp only [cells_div,sz_int]
 rw [cond_pos (by decide),cond_pos (by decide),cond_pos (by decide)]
 exact h2
theorem impl_plain1 (seen a b:List Int) (hs:seen.length≤4096) (hb:b.length≤1024) {N:Nat} (hN:1100≤N) (f:Nat) :
 impl_plain.at0 N (f+1) (impl_plain.st0 2 (1:Nat) (cells seen) (cells a) (cells b))=impl_plain.at0 N f (impl_plain.st0 2 (2:Nat) (cells (plainL seen b).2) (cells a) (cells (plainL seen b).1)):=by
 have h3:=impl_plain3 seen b a hs (by omega) (N:=N) (by omega) (impl_plain.at0 N f)
 rw [show ((0:Nat):Int)=0 from rfl] at h3
 rw [impl_plain.next0,impl_plain.round0]
 simp only [cells_div,sz_int]
 rw [cond_pos (by decide),cond_pos (by decide),cond_neg (by decide),cond_pos (by decide)]
 exact h3
theorem impl_plain4 (s a b:List Int) {N:Nat} (f:Nat):impl_plain.at0 N (f+1) (impl_plain.st0 2 (2:Nat) (cells s) (cells a) (cells b))=some (.tup [.agg [slc a,slc b],.bool (decide (s.length≤6))],[]):=by
 rw [impl_plain.next0,impl_plain.round0]
 simp only [cells_div,sz_int]
 rw [cond_neg (by decide),show decide (((s.length:Nat):Int)≤6)=decide (s.length≤6) from decide_eq_decide.2 (by omega)]
 rfl
theorem impl_plain (a b:List Int) (ha:a.length≤1024) (hb:b.length≤1024):Call F.impl_plain [.agg [slc a,slc b]] (.tup [.agg [slc (plainE ⟨a,b⟩).left,slc (plainE ⟨a,b⟩).right],.bool (decide ((seenE ⟨a,b⟩).length≤6))]):=by
 obtain ⟨m,hm⟩:∃ m,1100≤m:=⟨1100,Nat.le_refl _⟩
 refine call_of rfl (m+1+1+1) ((impl_plain.ev _ _ _).trans ?_)
 have ho:Call F.impl_ownEquation [.agg [slc a,slc b]] (.agg [slc a,slc b]):=by
  refine call_of rfl 0 ((impl_ownEquation.ev _ _ _).trans ?_)
  simp only [evz,Nat.reduceLT,(slices_Clone_Sint64 a (by omega)).eq,(slices_Clone_Sint64 b (by omega)).eq]
 simp only [evz,Nat.reduceLT,ho.eq]
 have hs1:=(plainL_length [] a).2.1
 have e0:=impl_plain0 a b ha (N:=m+1+1+1) (by omega) (m+1+1)
 have e1:=impl_plain1 (plainL [] a).2 (plainL [] a).1 b (by simp at hs1; omega) hb (N:=m+1+1+1) (by omega) (m+1)
 exact e0.trans (e1.trans (impl_plain4 _ _ _ m))
theorem spec_l4Plain (a b:List Int) (ha:a.length≤1024) (hb:b.length≤1024):Call F.spec_l4Plain [.rref [slc a,slc b] 0]
 (.tup [.agg [slc (if (seenE ⟨a,b⟩).length≤6 then (plainE ⟨a,b⟩).left else []),slc (if (seenE ⟨a,b⟩).length≤6 then (plainE ⟨a,b⟩).right else [])],.bool (decide ((seenE ⟨a,b⟩).length≤6))]):=by
 refine call_of rfl 3000 ((spec_l4Plain.ev _ _ _).trans ?_)
 simp only [evz,Nat.reduceLT,(spec_l1Ints' a (by omega)).eq,scalars_int,← cells_append]
 rw [cond_pos (ble_ok (by rw [cells_length,cells_length,sz_int]; omega))]
 have htl:(a++b).length≤2048:=by simp; omega
 obtain ⟨t,hte⟩:∃ t,t=a++b:=⟨_,rfl⟩
 rw [← hte] at htl ⊢
 have key:=run_loop (n:=t.length) (f:=3000) (S:=fun m k (o:List Int × List Int)=>spec_l4Plain.at0 3000 m (spec_l4Plain.st0 (cells a) (cells b) (k:Nat) (cells o.1) (cells o.2)))
  (st:=fun k=>plSt [] t k) (z:=some (.tup [.agg [slc (if (seenE ⟨a,b⟩).length≤6 then (plainE ⟨a,b⟩).left else []),slc (if (seenE ⟨a,b⟩).length≤6 then (plainE ⟨a,b⟩).right else [])],.bool (decide ((seenE ⟨a,b⟩).length≤6))],[])) (fun m k h => ?_) (fun m => ?_) (by omega)
 · rw [plSt_zero] at key; exact key
 · have hl:=plSt_len [] t (Nat.le_of_lt h)
   have hg:=plSt_get [] t h
   have hsl:=plSt_seen [] t k
   have hp:=plSt_pos [] t h
   have hnw:=plSt_new [] t h
   have hod:=plSt_old [] t h
   generalize plSt [] t (k+1)=P at *
   generalize plSt [] t k=Q at *
   obtain ⟨M,s⟩:=Q
   simp only at hl hg hsl hp hnw hod
   have hkM:k < M.length:=by omega
   have hkc:k*1+1≤(cells M).length:=by rw [cells_length,sz_int]; omega
   have hix:=(spec_l2Rank s t[k] (by simp at hsl; omega)).eq
   unfold rank at hix
   have hrg:=idx_range s t[k]
   have hsl':s.length≤2048:=by simp at hsl; omega
   by_cases h0:0≤t[k]
   · have h0':t[k] ≥ 0:=h0
     rw [hp h0]
     simp only [spec_l4Plain.next0,spec_l4Plain.round0,evz,Nat.reduceLT,h,hg,hkM,enc_int,h0']
     rw [wrap_succ (by omega)]
   · have h0':¬ t[k] ≥ 0:=h0
     by_cases hm:t[k]∈s
     · rw [hod h0 hm]
       have:=set_Int hkM (-1 - idx (fun x=>decide (x=t[k])) s)
       have hi:¬ idx (fun x=>decide (x=t[k])) s < 0:=fun e=>idx_neg_iff.1 e hm
       simp only [spec_l4Plain.next0,spec_l4Plain.round0,evz,Nat.reduceLT,h,hg,hkM,enc_int,h0',hix,hi,wrap64 (x := -1 - idx (fun x=>decide (x=t[k])) s) (by omega),this,hkc]
       rw [wrap_succ (by omega)]
     · rw [hnw h0 hm]
       have:=set_Int hkM (-1 - (s.length:Int))
       have hi:idx (fun x=>decide (x=t[k])) s < 0:=idx_neg_iff.2 hm
       simp only [spec_l4Plain.next0,spec_l4Plain.round0,evz,Nat.reduceLT,h,hg,hkM,enc_int,h0',hix,hi,cells_snoc_int,wrap64 (x := -1 - (s.length:Int)) (by omega),this,hkc]
       rw [wrap_succ (by omega),cond_pos (ble_ok (by rw [cells_length,sz_int]; omega))]
 · rw [plSt_end,hte,plainL_append]
   have hl1:=(plainL_length [] a).1
   have hl2:=(plainL_length (plainL [] a).2 b).1
   have es:seenE ⟨a,b⟩=(plainL (plainL [] a).2 b).2:=rfl
   simp only [spec_l4Plain.next0,spec_l4Plain.round0,evz,Nat.reduceLT,List.length_append,hl1,hl2,Nat.lt_irrefl,es]
   by_cases h6:(plainL (plainL [] a).2 b).2.length≤6
   · have h6':¬ (((plainL (plainL [] a).2 b).2.length:Nat):Int) > 6:=by omega
     have c1:((((plainL [] a).1++(plainL (plainL [] a).2 b).1).take a.length).drop 0)=(plainL [] a).1:=by rw [List.drop_zero,← hl1,List.take_left]
     have c2:((((plainL [] a).1++(plainL (plainL [] a).2 b).1).take (a.length+b.length)).drop a.length)=(plainL (plainL [] a).2 b).1:=by
      rw [List.take_of_length_le (by rw [List.length_append]; omega),← hl1,List.drop_left]
     simp only [h6,h6',evz,Nat.reduceLT]
     rw [cond_pos (by simp; omega),slc_cut,c1,(spec_l1Ints' _ (by omega)).eq]
     simp only [evz,Nat.reduceLT]
     rw [cond_pos (by simp; omega),slc_cut,c2,(spec_l1Ints' _ (by omega)).eq]
     simp only [evz,Nat.reduceLT]
     rfl
   · have h6':(((plainL (plainL [] a).2 b).2.length:Nat):Int) > 6:=by omega
     simp only [h6,h6',evz,Nat.reduceLT,slc_nil]
end Ev.Ty
end
section
namespace Ev.Ty
open Go Ev
open Enc (enc)
open Sm (sm)
set_option linter.unusedSimpArgs false
set_option linter.unusedVariables false
theorem unif_code {l:List Symbol}:∀ {n:Nat} {b:Bnd} {ps:List Pr} {c:Int},unif l n b ps=some (.inr c)→c=2∨c=4
 | 0,b,ps,c,h=>by cases h
 | n+1,b,[],c,h=>by cases h
 | n+1,b,p::ps,c,h=>by
   rw [unif] at h
   split at h
   · cases h; exact .inl rfl
   split at h
   · exact unif_code h
   split at h
   · split at h
     · cases h; exact .inr rfl
     split at h
     · cases h; exact .inl rfl
     · exact unif_code h
   split at h
   · split at h
     · cases h; exact .inr rfl
     split at h
     · cases h; exact .inl rfl
     · exact unif_code h
   split at h
   · cases h; exact .inr rfl
   · exact unif_code h
theorem unifR_code {l:List Symbol} {a b:List Int} (ha:TermOk l a) (hb:TermOk l b) {c:Int} (h:unifR l a b = .inr c):c=2∨c=4:=by
 obtain ⟨⟨n,hn⟩,_⟩:=unifR_spec ha hb
 rw [h] at hn
 exact unif_code hn
theorem replAt_range {l:List Symbol} (ok:SigOk ⟨l⟩) {t u:List Int} (ht:TermOk l t) (hu:TermOk l u) (p:Nat):∀ n∈replAt l t p u,-4611686018427387904≤n∧n≤4611686018427387904:=fun n hn=>by
 unfold replAt at hn
 rcases List.mem_append.1 hn with hn | hn
 · rcases List.mem_append.1 hn with hn | hn
   · exact ht.range ok n (List.mem_of_mem_take hn)
   · exact hu.range ok n hn
 · exact ht.range ok n (List.mem_of_mem_drop hn)
section
variable {l:List Symbol} (ok:SigOk ⟨l⟩)
include ok
theorem impl_peakOf {o i:Equation} (ho:EqOk l o) (hi:EqOk l i) {p:Nat} (hp:p < o.left.length):Call F.impl_peakOf [.agg [slc l],.agg [slc o.left,slc o.right],.agg [slc i.left,slc i.right],.int .i64 p] (.agg (enc (peakR l o i p))):=by
 refine call_of rfl 0 ((impl_peakOf.ev _ _ _ _ _ _ _).trans ?_)
 have l1:=ho.left.le
 have l2:=ho.right.le
 have l3:=hi.left.le
 have l4:=hi.right.le
 have s1:=(impl_shifted i.left (by omega) (fun n hn=>(hi.left.range ok n hn).1)).eq
 have s2:=(impl_shifted i.right (by omega) (fun n hn=>(hi.right.range ok n hn).1)).eq
 have o1:=shift_ok hi.left hi.lowL
 have o2:=shift_ok hi.right hi.lowR
 have os:=subAt_ok ho.left hp
 have hsub:=(impl_subterm ok ho.left hp).eq
 have hu:=impl_unify ok os o1
 have hrp:=(impl_replaced ok ho.left hp (shiftT i.right 6) (by rw [shiftT_length]; omega)).eq
 have hrl:=replAt_length (l:=l) (t:=o.left) (p:=p) (by_:=shiftT i.right 6)
 rw [shiftT_length] at hrl
 simp only [evz,Nat.reduceLT,s1,s2,hsub,hu,peakR]
 have hsp:=unifR_spec os o1
 have hcd:=fun c=>unifR_code os o1 (c:=c)
 generalize unifR l (subAt l o.left p) (shiftT i.left 6)=u at *
 cases u with
 | inr c =>
   have hc:¬ c=0:=by rcases hcd c rfl with h | h <;> omega
   simp only [uT,evz,Nat.reduceLT,hc,enc_EquationResult,slc_nil]
   rfl
 | inl b =>
   have hb:=hsp.2 b rfl
   have hbl:=hb.le
   have hbo:=hb.mb.ok (by omega)
   simp only [uT,evz,Nat.reduceLT,hrp]
   have hge:=applied_ge hb.mb (replAt l o.left p (shiftT i.right 6))
   have a1:=(impl_Binding_applied b.1 b.2 hbo o.right (by omega) (ho.right.range ok)).eq
   have a2:=(impl_Binding_applied b.1 b.2 hbo (replAt l o.left p (shiftT i.right 6)) (by omega) (replAt_range ok ho.left o2 p)).eq
   generalize replAt l o.left p (shiftT i.right 6)=w at *
   generalize applied b.1 b.2 o.right=x at *
   generalize applied b.1 b.2 w=y at *
   by_cases c1:24 < w.length
   · have c1':(w.length:Int) > 24:=by omega
     have c2:24 < x.length∨24 < y.length := .inr (by omega)
     simp only [c1',c2,evz,Nat.reduceLT,enc_EquationResult,slc_nil]
   have c1':¬ (w.length:Int) > 24:=by omega
   simp only [c1',evz,Nat.reduceLT,a1,a2]
   by_cases c2:24 < x.length
   · have c2':(x.length:Int) > 24:=by omega
     simp only [c2,c2',true_or,evz,Nat.reduceLT,enc_EquationResult,slc_nil]
   by_cases c3:24 < y.length
   · have c2':¬ (x.length:Int) > 24:=by omega
     have c3':(y.length:Int) > 24:=by omega
     simp only [c3,c2',c3',or_true,evz,Nat.reduceLT,enc_EquationResult,slc_nil]
   have c2':¬ (x.length:Int) > 24:=by omega
   have c3':¬ (y.length:Int) > 24:=by omega
   have hpl:=(impl_plain x y (by omega) (by omega)).eq
   simp only [c2,c3,c2',c3',or_self,evz,Nat.reduceLT,hpl]
   by_cases c4:(seenE ⟨x,y⟩).length≤6
   · have c4':¬ 6 < (seenE ⟨x,y⟩).length:=by omega
     simp only [c4,c4',evz,Nat.reduceLT,Bool.not_true,enc_EquationResult]
   · have c4':6 < (seenE ⟨x,y⟩).length:=by omega
     simp only [c4,c4',evz,Nat.reduceLT,Bool.not_false,enc_EquationResult,slc_nil]
theorem spec_l9Peak {o i:Equation} (ho:EqOk l o) (hi:EqOk l i) {p:Nat} (hp:p < o.left.length):Call F.spec_l9Peak [.rref [slc l] 0,.rref [slc o.left,slc o.right] 0,.rref [slc i.left,slc i.right] 0,.int .i64 p]
 (.tup [.agg [slc (peakR l o i p).equation.left,slc (peakR l o i p).equation.right],.int .i64 (peakR l o i p).code]):=by
 refine call_of rfl 0 ((spec_l9Peak.ev _ _ _ _ _ _ _).trans ?_)
 have l1:=ho.left.le
 have l2:=ho.right.le
 have l3:=hi.left.le
 have l4:=hi.right.le
 have s1:=(spec_l6Shift i.left (by omega) (fun n hn=>(hi.left.range ok n hn).1)).eq
 have s2:=(spec_l6Shift i.right (by omega) (fun n hn=>(hi.right.range ok n hn).1)).eq
 have o1:=shift_ok hi.left hi.lowL
 have o2:=shift_ok hi.right hi.lowR
 have os:=subAt_ok ho.left hp
 have hsub:=(spec_l3Sub ok ho.left hp).eq
 have hu:=spec_l6Unify ok os o1
 have hrp:=(spec_l3Replace ok ho.left hp (shiftT i.right 6) (by rw [shiftT_length]; omega)).eq
 have hrl:=replAt_length (l:=l) (t:=o.left) (p:=p) (by_:=shiftT i.right 6)
 rw [shiftT_length] at hrl
 simp only [evz,Nat.reduceLT,s1,s2,hsub,hu,peakR]
 have hsp:=unifR_spec os o1
 have hcd:=fun c=>unifR_code os o1 (c:=c)
 generalize unifR l (subAt l o.left p) (shiftT i.left 6)=u at *
 cases u with
 | inr c =>
   have hc:¬ c=0:=by rcases hcd c rfl with h | h <;> omega
   simp only [uT,evz,Nat.reduceLT,hc,enc_EquationResult,slc_nil]
   rfl
 | inl b =>
   have hb:=hsp.2 b rfl
   have hbl:=hb.le
   have hbo:=hb.mb.ok (by omega)
   simp only [uT,evz,Nat.reduceLT,hrp]
   have hge:=applied_ge hb.mb (replAt l o.left p (shiftT i.right 6))
   have a1:=(spec_l6Apply b.1 b.2 hbo o.right (by omega) (ho.right.range ok)).eq
   have a2:=(spec_l6Apply b.1 b.2 hbo (replAt l o.left p (shiftT i.right 6)) (by omega) (replAt_range ok ho.left o2 p)).eq
   generalize replAt l o.left p (shiftT i.right 6)=w at *
   generalize applied b.1 b.2 o.right=x at *
   generalize applied b.1 b.2 w=y at *
   simp only [evz,Nat.reduceLT,a1,a2]
   by_cases c2:24 < x.length
   · have c2':(x.length:Int) > 24:=by omega
     simp only [c2,c2',true_or,evz,Nat.reduceLT,enc_EquationResult,slc_nil]
   by_cases c3:24 < y.length
   · have c2':¬ (x.length:Int) > 24:=by omega
     have c3':(y.length:Int) > 24:=by omega
     simp only [c3,c2',c3',or_true,evz,Nat.reduceLT,enc_EquationResult,slc_nil]
   have c2':¬ (x.length:Int) > 24:=by omega
   have c3':¬ (y.length:Int) > 24:=by omega
   have hpl:=(spec_l4Plain x y (by omega) (by omega)).eq
   simp only [c2,c3,c2',c3',or_self,evz,Nat.reduceLT,hpl]
   by_cases c4:(seenE ⟨x,y⟩).length≤6
   · have c4':¬ 6 < (seenE ⟨x,y⟩).length:=by omega
     simp only [c4,c4',evz,Nat.reduceLT,Bool.not_true,enc_EquationResult]
   · have c4':6 < (seenE ⟨x,y⟩).length:=by omega
     simp only [c4,c4',evz,Nat.reduceLT,Bool.not_false,enc_EquationResult,slc_nil]
end
theorem peakR_sm {l:List Symbol} {o i:Equation} {p:Nat}:sm 67108864 (peakR l o i p):=by
 unfold peakR
 split
 · exact ⟨⟨by simp,by simp⟩,⟨by simp,by simp⟩⟩
 split
 · exact ⟨⟨by simp,by simp⟩,⟨by simp,by simp⟩⟩
 split
 · exact ⟨⟨by simp,by simp⟩,⟨by simp,by simp⟩⟩
 · rename_i b _ h _
   refine ⟨⟨?_,fun _ _=>trivial⟩,⟨?_,fun _ _=>trivial⟩⟩
   · show (plainL _ _).1.length≤_
     rw [(plainL_length _ _).1]
     show (applied _ _ _).length≤_
     omega
   · show (plainL _ _).1.length≤_
     rw [(plainL_length _ _).1]
     show (applied _ _ _).length≤_
     omega
end Ev.Ty
end
section
namespace Ev.Ty
open Go Ev
open Enc (enc)
open Sm (sm)
set_option linter.unusedSimpArgs false
set_option linter.unusedVariables false
noncomputable def placesN (l:List Symbol) (o i:Equation) (same:Bool):Nat→Nat→List Nat ⊕ Int
 | 0,_ => .inl []
 | n+1,k=>if o.left.getD k 0 < 0∨(same=true∧k=0) then placesN l o i same n (k+1) else if (peakR l o i k).code=4 then placesN l o i same n (k+1) else if (peakR l o i k).code=0 then
  match placesN l o i same n (k+1) with
  | .inl qs => .inl (k::qs)
  | .inr c => .inr c
   else .inr (peakR l o i k).code
noncomputable def peaksR (l:List Symbol) (o i:Equation) (same:Bool):List Equation ⊕ Int:=match placesN l o i same o.left.length 0 with
 | .inl qs => .inl (qs.map fun q=>(peakR l o i q).equation)
 | .inr c => .inr c
theorem placesN_mem {l:List Symbol} {o i:Equation} {same:Bool}:∀ {n k:Nat} {qs:List Nat},placesN l o i same n k = .inl qs→qs.length≤n∧∀ q∈qs,k≤q∧q < k+n
 | 0,k,qs,h=>by cases h; exact ⟨Nat.le_refl _,by simp⟩
 | n+1,k,qs,h=>by
   have next:∀ {qs},placesN l o i same n (k+1) = .inl qs→qs.length≤n∧∀ q∈qs,k≤q∧q < k+(n+1):=fun h=>by
    obtain ⟨h1,h2⟩:=placesN_mem h
    exact ⟨h1,fun q hq=>by have:=h2 q hq; omega⟩
   rw [placesN] at h
   split at h
   · obtain ⟨h1,h2⟩:=next h; exact ⟨by omega,h2⟩
   split at h
   · obtain ⟨h1,h2⟩:=next h; exact ⟨by omega,h2⟩
   split at h
   · split at h
     · rename_i ps hp
       obtain ⟨h1,h2⟩:=next hp
       cases h
       refine ⟨by simp; omega,fun q hq => ?_⟩
       rcases List.mem_cons.1 hq with rfl | hq
       · omega
       · exact h2 q hq
     · cases h
   · cases h
theorem placesN_code {l:List Symbol} {o i:Equation} {same:Bool}:∀ {n k:Nat} {c:Int},placesN l o i same n k = .inr c→c≠0
 | 0,k,c,h=>by cases h
 | n+1,k,c,h=>by
   rw [placesN] at h
   split at h
   · exact placesN_code h
   split at h
   · exact placesN_code h
   split at h
   · split at h
     · cases h
     · rename_i c' hp; cases h; exact placesN_code hp
   · rename_i h0; cases h; exact h0
def psT (out:List Equation):List Equation ⊕ Int→R
 | .inl ps=>some (.tup [slc (out++ps),.int .i64 0],[])
 | .inr c=>some (.tup [.sl 2 [],.int .i64 c],[])
section
variable {l:List Symbol} (ok:SigOk ⟨l⟩)
include ok
theorem impl_peaksOf {o i:Equation} (ho:EqOk l o) (hi:EqOk l i) (same:Bool):LIM F.impl_peaksOf [.agg [slc l],.agg [slc o.left,slc o.right],.agg [slc i.left,slc i.right],.bool same]=psT [] (peaksR l o i same):=by
 have hol:=ho.left.le
 have hcall:∀ r,callK prog Ev.A H LIM (o.left.length+1) F.impl_peaksOf [.agg [slc l],.agg [slc o.left,slc o.right],.agg [slc i.left,slc i.right],.bool same]=psT [] r→LIM F.impl_peaksOf [.agg [slc l],.agg [slc o.left,slc o.right],.agg [slc i.left,slc i.right],.bool same]=psT [] r:=fun r h=>by
  cases r with
  | inl x=>exact call_of rfl _ h
  | inr x=>exact call_of rfl _ h
 refine hcall _ ((impl_peaksOf.ev _ _ _ _ _ _ _).trans ?_)
 have loop:∀ n k f (out:List Equation),k+n=o.left.length→n < f→out.length≤k →
  impl_peaksOf.at0 (o.left.length+1) f (impl_peaksOf.st0 same (cells o.left) o.left.length (k:Nat) (cells l) (cells o.left) (cells o.right) (cells i.left) (cells i.right) (cells out)) =
   psT out (match placesN l o i same n k with
    | .inl qs => .inl (qs.map fun q=>(peakR l o i q).equation)
    | .inr c => .inr c):=by
  intro n
  induction n with
  | zero =>
    intro k f out hk hf hl
    obtain ⟨f,rfl⟩:∃ x,f=x+1:=⟨f - 1,by omega⟩
    obtain rfl:k=o.left.length:=by omega
    simp only [impl_peaksOf.next0,impl_peaksOf.round0,evz,Nat.reduceLT,Nat.lt_irrefl,placesN,List.map_nil,psT,List.append_nil]
  | succ n ih =>
    intro k f out hk hf hl
    obtain ⟨f,rfl⟩:∃ x,f=x+1:=⟨f - 1,by omega⟩
    have h:k < o.left.length:=by omega
    have hlk:o.left[k]?=some o.left[k]:=List.getElem?_eq_getElem h
    have hd:o.left.getD k 0=o.left[k]:=getD_at h
    have hpk:=(impl_peakOf ok ho hi h).eq
    rw [enc_EquationResult] at hpk
    have i1:=ih (k+1) f out (by omega) (by omega) (by omega)
    have i2:=ih (k+1) f (out++[(peakR l o i k).equation]) (by omega) (by omega) (by simp; omega)
    rw [placesN,hd]
    by_cases h1:o.left[k] < 0
    · rw [if_pos (.inl h1)]
      simp only [impl_peaksOf.next0,impl_peaksOf.round0,evz,Nat.reduceLT,h,hlk,enc_int,h1]
      rw [wrap_succ (by omega)]
      exact i1
    by_cases h2:same=true∧k=0
    · rw [if_pos (.inr h2)]
      have e0:∀ {α:Type} (a b:α),(bif ((k:Int) == 0) then (bif same then a else b) else b)=a:=fun a b=>by
       rw [h2.1,h2.2]; rfl
      rw [impl_peaksOf.next0,impl_peaksOf.round0,e0]
      simp only [evz,Nat.reduceLT,h,hlk,enc_int,h1]
      rw [wrap_succ (by omega)]
      exact i1
    rw [if_neg (by rintro (q | q); exact h1 q; exact h2 q)]
    have e0:∀ {α:Type} (a b:α),(bif ((k:Int) == 0) then (bif same then a else b) else b)=b:=fun a b=>by
     by_cases hk0:k=0
     · subst hk0
       have hs:same=false:=by cases same with
        | false=>rfl
        | true=>exact absurd ⟨rfl,rfl⟩ h2
       rw [hs]; rfl
     · rw [show ((k:Int) == 0)=false by simp; omega]; rfl
    rw [impl_peaksOf.next0,impl_peaksOf.round0,e0]
    simp only [evz,Nat.reduceLT,h,hlk,enc_int,h1,hpk]
    rw [wrap_succ (by omega)]
    by_cases c4:(peakR l o i k).code=4
    · simp only [c4,evz,Nat.reduceLT,show ¬ (4:Int)=0 by omega]
      exact i1
    by_cases c0:(peakR l o i k).code=0
    · simp only [c4,c0,evz,Nat.reduceLT]
      rw [cond_pos (ble_ok (by rw [cells_length,sz_Equation]; omega))]
      rw [cells_append] at i2
      refine Eq.trans ?_ (i2.trans ?_)
      · rfl
      · cases placesN l o i same n (k+1) with
        | inl qs=>simp [psT]
        | inr c=>simp [psT]
    · simp only [c4,c0,evz,Nat.reduceLT,psT]
 have:=loop o.left.length 0 (o.left.length+1) [] (by omega) (by omega) (by simp)
 refine Eq.trans ?_ this
 simp only [evz,Nat.reduceLT]
 rfl
theorem spec_l9Places {o i:Equation} (ho:EqOk l o) (hi:EqOk l i) (same:Bool):Call F.spec_l9Places [.rref [slc l] 0,.rref [slc o.left,slc o.right] 0,.rref [slc i.left,slc i.right] 0,.bool same]
 (match placesN l o i same o.left.length 0 with
  | .inl qs => .tup [slc (ints qs),.int .i64 0]
  | .inr c => .tup [.sl 1 [],.int .i64 c]):=by
 have hol:=ho.left.le
 refine call_of rfl (o.left.length+1) ((spec_l9Places.ev _ _ _ _ _ _ _).trans ?_)
 have loop:∀ n k f (out:List Nat),k+n=o.left.length→n < f→out.length≤k →
  spec_l9Places.at0 (o.left.length+1) f (spec_l9Places.st0 (cells l) (cells o.left) (cells o.right) (cells i.left) (cells i.right) same (k:Nat) (cells (ints out))) =
   some (match placesN l o i same n k with
    | .inl qs => .tup [slc (ints (out++qs)),.int .i64 0]
    | .inr c => .tup [.sl 1 [],.int .i64 c],[]):=by
  intro n
  induction n with
  | zero =>
    intro k f out hk hf hl
    obtain ⟨f,rfl⟩:∃ x,f=x+1:=⟨f - 1,by omega⟩
    obtain rfl:k=o.left.length:=by omega
    simp only [spec_l9Places.next0,spec_l9Places.round0,evz,Nat.reduceLT,Nat.lt_irrefl,placesN,List.append_nil]
  | succ n ih =>
    intro k f out hk hf hl
    obtain ⟨f,rfl⟩:∃ x,f=x+1:=⟨f - 1,by omega⟩
    have h:k < o.left.length:=by omega
    have hlk:o.left[k]?=some o.left[k]:=List.getElem?_eq_getElem h
    have hd:o.left.getD k 0=o.left[k]:=getD_at h
    have hpk:=(spec_l9Peak ok ho hi h).eq
    have i1:=ih (k+1) f out (by omega) (by omega) (by omega)
    have i2:=ih (k+1) f (out++[k]) (by omega) (by omega) (by simp; omega)
    rw [placesN,hd]
    by_cases h1:o.left[k] < 0
    · rw [if_pos (.inl h1)]
      simp only [spec_l9Places.next0,spec_l9Places.round0,evz,Nat.reduceLT,h,hlk,enc_int,h1]
      rw [wrap_succ (by omega)]
      exact i1
    by_cases h2:same=true∧k=0
    · rw [if_pos (.inr h2)]
      have e0:∀ {α:Type} (a b:α),(bif same then (bif ((k:Int) == 0) then a else b) else b)=a:=fun a b=>by
       rw [h2.1,h2.2]; rfl
      rw [spec_l9Places.next0,spec_l9Places.round0,e0]
      simp only [evz,Nat.reduceLT,h,hlk,enc_int,h1]
      rw [wrap_succ (by omega)]
      exact i1
    rw [if_neg (by rintro (q | q); exact h1 q; exact h2 q)]
    have e0:∀ {α:Type} (a b:α),(bif same then (bif ((k:Int) == 0) then a else b) else b)=b:=fun a b=>by
     by_cases hk0:k=0
     · subst hk0
       have hs:same=false:=by cases same with
        | false=>rfl
        | true=>exact absurd ⟨rfl,rfl⟩ h2
       rw [hs]; rfl
     · rw [show ((k:Int) == 0)=false by simp; omega]; cases same <;> rfl
    rw [spec_l9Places.next0,spec_l9Places.round0,e0]
    simp only [evz,Nat.reduceLT,h,hlk,enc_int,h1,hpk]
    rw [wrap_succ (by omega)]
    by_cases c4:(peakR l o i k).code=4
    · simp only [c4,evz,Nat.reduceLT,show ¬ (4:Int)=0 by omega]
      exact i1
    by_cases c0:(peakR l o i k).code=0
    · have e1:cells (ints out)++[.int .i64 (k:Int)]=cells (ints (out++[k])):=by rw [cells_snoc_int]; simp [ints]
      simp only [c4,c0,evz,Nat.reduceLT,show ¬ (0:Int)=4 by omega,e1]
      rw [cond_pos (ble_ok (by rw [cells_length,sz_int,ints_length]; omega))]
      refine i2.trans ?_
      cases placesN l o i same n (k+1) with
       | inl qs=>simp
       | inr c=>simp
    · simp only [c4,c0,evz,Nat.reduceLT]
 have:=loop o.left.length 0 (o.left.length+1) [] (by omega) (by omega) (by simp)
 exact this
theorem spec_l9Peaks {o i:Equation} (ho:EqOk l o) (hi:EqOk l i) (same:Bool):LIM F.spec_l9Peaks [.rref [slc l] 0,.rref [slc o.left,slc o.right] 0,.rref [slc i.left,slc i.right] 0,.bool same]=psT [] (peaksR l o i same):=by
 have hol:=ho.left.le
 have hcall:∀ r,callK prog Ev.A H LIM (o.left.length+1) F.spec_l9Peaks [.rref [slc l] 0,.rref [slc o.left,slc o.right] 0,.rref [slc i.left,slc i.right] 0,.bool same]=psT [] r→LIM F.spec_l9Peaks [.rref [slc l] 0,.rref [slc o.left,slc o.right] 0,.rref [slc i.left,slc i.right] 0,.bool same]=psT [] r:=fun r h=>by
  cases r with
  | inl x=>exact call_of rfl _ h
  | inr x=>exact call_of rfl _ h
 refine hcall _ ((spec_l9Peaks.ev _ _ _ _ _ _ _).trans ?_)
 have hp:=(spec_l9Places ok ho hi same).eq
 unfold peaksR
 cases hpl:placesN l o i same o.left.length 0 with
 | inr c =>
   rw [hpl] at hp
   simp only [evz,Nat.reduceLT,hp]
   simp only [spec_l9Peaks.next0,spec_l9Peaks.round0,evz,Nat.reduceLT,List.length_nil,psT,oSl]
   rfl
 | inl qs =>
   rw [hpl] at hp
   obtain ⟨hq1,hq2⟩:=placesN_mem hpl
   simp only [evz,Nat.reduceLT,hp]
   have key:=run_loop (n:=qs.length) (f:=o.left.length+1) (S:=fun m k (w:List Equation)=>spec_l9Peaks.at0 (o.left.length+1) m (spec_l9Peaks.st0 (cells l) (cells o.left) (cells o.right) (cells i.left) (cells i.right) 0 (k:Nat) (cells (ints qs)) (cells w)))
    (st:=fun k=>(qs.take k).map fun q=>(peakR l o i q).equation) (z:=psT [] (.inl (qs.map fun q=>(peakR l o i q).equation))) (fun m k h => ?_) (fun m => ?_) (by omega)
   · exact key
   · have hqk:=hq2 qs[k] (List.getElem_mem h)
     have hg:=ints_get h
     have hpk:=(spec_l9Peak ok ho hi (p:=qs[k]) (by omega)).eq
     have e1:(qs.take (k+1)).map (fun q=>(peakR l o i q).equation)=(qs.take k).map (fun q=>(peakR l o i q).equation)++[(peakR l o i qs[k]).equation]:=by
      rw [← List.take_append_getElem h,List.map_append]; rfl
     have e2:∀ (A:List Equation) (e:Equation),cells A++[slc e.left,slc e.right]=cells (A++[e]):=fun A e=>by rw [cells_append]; rfl
     rw [e1]
     simp only [spec_l9Peaks.next0,spec_l9Peaks.round0,evz,Nat.reduceLT,ints_length,h,hg,enc_int,hpk,e2]
     rw [wrap_succ (by omega),cond_pos (ble_ok (by rw [cells_length,sz_Equation]; simp; omega))]
   · rw [List.take_length]
     simp only [spec_l9Peaks.next0,spec_l9Peaks.round0,evz,Nat.reduceLT,ints_length,Nat.lt_irrefl,psT,List.nil_append]
end
theorem peaksR_code {l:List Symbol} {o i:Equation} {same:Bool} {c:Int} (h:peaksR l o i same = .inr c):c≠0:=by
 unfold peaksR at h
 split at h
 · cases h
 · rename_i c' hp; cases h; exact placesN_code hp
theorem peaksR_len {l:List Symbol} {o i:Equation} {same:Bool} {ps:List Equation} (h:peaksR l o i same = .inl ps):ps.length≤o.left.length∧∀ e∈ps,sm 67108864 e:=by
 unfold peaksR at h
 split at h
 · rename_i qs hp
   cases h
   refine ⟨by rw [List.length_map]; exact (placesN_mem hp).1,fun e he => ?_⟩
   obtain ⟨q,_,rfl⟩:=List.mem_map.1 he
   exact peakR_sm
 · cases h
end Ev.Ty
end
