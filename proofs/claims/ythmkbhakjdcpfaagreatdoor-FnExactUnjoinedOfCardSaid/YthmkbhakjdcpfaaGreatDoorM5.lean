/- Steps on the way to RowUnjoinedOf: TyPeak, TyPeak2, TyPeaks, TyAllPeaks, TyUnjoined, TyLUnjoinedOf. -/
import Derived.Test.YthmkbhakjdcpfaaGreatDoorM4
set_option linter.unusedSectionVars false
section
namespace Ev.Ty
open Go Ev
open Enc (enc)
open Sm (sm)
set_option linter.unusedSimpArgs false
set_option linter.unusedVariables false
theorem shiftT_length (t:List Int) (b:Int):(shiftT t b).length=t.length:=by simp [shiftT]
theorem shiftT_succ {t:List Int} {b:Int} {k:Nat} (h:k < t.length):shiftT (t.take (k+1)) b=shiftT (t.take k) b++[if t[k] < 0 then t[k] - b else t[k]]:=by
 rw [← List.take_append_getElem h]; unfold shiftT; rw [List.map_append]; rfl
theorem impl_shifted (t:List Int) (ht:t.length≤4096) (hr:∀ n∈t,-4611686018427387904≤n):Call F.impl_shifted [slc t,.int .i64 6] (slc (shiftT t 6)):=by
 refine call_of rfl (t.length+1) ((impl_shifted.ev _ _ _).trans ?_)
 simp only [evz,Nat.reduceLT,(slices_Clone_Sint64 t (by omega)).eq]
 have key:=run_loop (n:=t.length) (f:=t.length+1) (S:=fun m k (o:List Int)=>impl_shifted.at0 (t.length+1) m (impl_shifted.st0 6 t.length (k:Nat) (cells o)))
  (st:=fun k=>shiftT (t.take k) 6++t.drop k) (z:=some (slc (shiftT t 6),[])) (fun m k h => ?_) (fun m => ?_) (by omega)
 · exact key
 · have hn:=hr t[k] (List.getElem_mem h)
   have e1:shiftT (t.take (k+1)) 6++t.drop (k+1)=(shiftT (t.take k) 6++t.drop k).set k (if t[k] < 0 then t[k] - 6 else t[k]):=by
    rw [shiftT_succ h,List.set_append_right _ _ (by rw [shiftT_length]; simp; omega),List.drop_eq_getElem_cons h]
    rw [show k - (shiftT (t.take k) 6).length=0 by rw [shiftT_length]; simp; omega,List.set_cons_zero]
    simp
   obtain ⟨M,hM⟩:∃ M,M=shiftT (t.take k) 6++t.drop k:=⟨_,rfl⟩
   have hMl:M.length=t.length:=by rw [hM]; simp [shiftT_length]; omega
   have hMk:M[k]?=some t[k]:=by
    rw [hM,List.getElem?_append_right (by rw [shiftT_length]; simp; omega)]
    simp [shiftT_length,Nat.min_eq_left (Nat.le_of_lt h),List.getElem?_eq_getElem h]
   rw [e1,← hM]
   have hkM:k < M.length:=by omega
   have hkc:k*1+1≤(cells M).length:=by rw [cells_length,sz_int]; omega
   simp only [impl_shifted.next0,impl_shifted.round0,evz,Nat.reduceLT,h,hMk,hkM,enc_int]
   by_cases hneg:t[k] < 0
   · rw [wrap64 (x:=t[k] - 6) (by omega)]
     have:=set_Int hkM (t[k] - 6)
     simp only [hneg,evz,Nat.reduceLT,this,hkc]
     rw [wrap_succ (by omega)]
   · have hs:M.set k t[k]=M:=set_same hMk
     simp only [hneg,evz,Nat.reduceLT,hs]
     rw [wrap_succ (by omega)]
 · rw [List.take_length,List.drop_of_length_le (Nat.le_refl _),List.append_nil]
   simp only [impl_shifted.next0,impl_shifted.round0,evz,Nat.reduceLT,Nat.lt_irrefl]
theorem spec_l6Shift (t:List Int) (ht:t.length≤4096) (hr:∀ n∈t,-4611686018427387904≤n):Call F.spec_l6Shift [slc t,.int .i64 6] (slc (shiftT t 6)):=by
 refine call_of rfl (t.length+1) ((spec_l6Shift.ev _ _ _).trans ?_)
 have key:=run_loop (n:=t.length) (f:=t.length+1) (S:=fun m k (o:List Int)=>spec_l6Shift.at0 (t.length+1) m (spec_l6Shift.st0 (cells t) 6 (k:Nat) (cells o)))
  (st:=fun k=>shiftT (t.take k) 6) (z:=some (slc (shiftT t 6),[])) (fun m k h => ?_) (fun m => ?_) (by omega)
 · exact key
 · have hn:=hr t[k] (List.getElem_mem h)
   have hlk:t[k]?=some t[k]:=List.getElem?_eq_getElem h
   have hb:Nat.ble (((cells (shiftT (t.take k) 6)).length+1)*8) (140737488355328*1)=true:=ble_ok (by rw [cells_length,sz_int,shiftT_length]; simp; omega)
   rw [shiftT_succ h]
   simp only [spec_l6Shift.next0,spec_l6Shift.round0,evz,Nat.reduceLT,h,hlk,enc_int]
   by_cases hneg:t[k] < 0
   · rw [wrap64 (x:=t[k] - 6) (by omega)]
     simp only [hneg,evz,Nat.reduceLT,cells_snoc_int]
     rw [wrap_succ (by omega),cond_pos hb]
   · simp only [hneg,evz,Nat.reduceLT,cells_snoc_int]
     rw [wrap_succ (by omega),cond_pos hb]
 · rw [List.take_length]
   simp only [spec_l6Shift.next0,spec_l6Shift.round0,evz,Nat.reduceLT,Nat.lt_irrefl]
theorem idx_neg_iff {s:List Int} {n:Int}:idx (fun x=>decide (x=n)) s < 0↔n∉s:=by
 rcases idx_spec (fun x:Int=>decide (x=n)) s with ⟨h1,h2⟩ | ⟨i,hi,h1,h2,_⟩
 · exact ⟨fun _ hm=>by have:=h2 n hm; simp at this,fun _=>by omega⟩
 · exact ⟨fun h=>by omega,fun h=>absurd ((show s[i]=n by simpa using h2) ▸ List.getElem_mem hi) h⟩
theorem idx_snoc {s:List Int} {n:Int} (h:n∉s):idx (fun x=>decide (x=n)) (s++[n])=s.length:=by
 unfold idx
 have:(s++[n]).findIdx? (fun x=>decide (x=n))=some s.length:=by
  rw [List.findIdx?_append]
  have h0:s.findIdx? (fun x=>decide (x=n))=none:=by
   rw [List.findIdx?_eq_none_iff]
   intro x hx
   have:x≠n:=fun e=>h (e ▸ hx)
   simpa using this
  rw [h0]
  simp [List.findIdx?_cons]
 rw [this]
theorem idx_range (s:List Int) (n:Int) : -1≤idx (fun x=>decide (x=n)) s∧idx (fun x=>decide (x=n)) s < s.length+1:=by
 rcases idx_spec (fun x:Int=>decide (x=n)) s with ⟨h1,_⟩ | ⟨i,hi,h1,_,_⟩ <;> omega
def plSt (seen t:List Int) (k:Nat):List Int × List Int:=((plainL seen (t.take k)).1++t.drop k,(plainL seen (t.take k)).2)
theorem plSt_len (seen t:List Int) {k:Nat} (hk:k≤t.length):(plSt seen t k).1.length=t.length:=by
 have:=(plainL_length seen (t.take k)).1
 unfold plSt; simp only [List.length_append,this]; simp; omega
theorem plSt_get (seen t:List Int) {k:Nat} (h:k < t.length):(plSt seen t k).1[k]?=some t[k]:=by
 have hl:=(plainL_length seen (t.take k)).1
 rw [List.length_take,Nat.min_eq_left (Nat.le_of_lt h)] at hl
 unfold plSt
 simp only
 rw [List.getElem?_append_right (by omega),hl,Nat.sub_self,List.drop_eq_getElem_cons h]; rfl
theorem plSt_seen (seen t:List Int) (k:Nat):(plSt seen t k).2.length≤seen.length+k:=by
 have:=(plainL_length seen (t.take k)).2.1
 unfold plSt
 simp at this ⊢
 omega
theorem plSt_succ (seen t:List Int) {k:Nat} (h:k < t.length):plSt seen t (k+1)=((plSt seen t k).1.set k (pstep (plSt seen t k).2 t[k]).1,(pstep (plSt seen t k).2 t[k]).2):=by
 have hl:=(plainL_length seen (t.take k)).1
 rw [List.length_take,Nat.min_eq_left (Nat.le_of_lt h)] at hl
 unfold plSt
 simp only
 rw [← List.take_append_getElem h,plainL_append,List.set_append_right _ _ (by omega),hl,Nat.sub_self,List.drop_eq_getElem_cons h,List.set_cons_zero]
 simp [plainL]
theorem plSt_zero (seen t:List Int):plSt seen t 0=(t,seen):=by simp [plSt,plainL]
theorem plSt_end (seen t:List Int):plSt seen t t.length=plainL seen t:=by simp [plSt]
theorem plSt_pos (seen t:List Int) {k:Nat} (h:k < t.length) (h0:0≤t[k]):plSt seen t (k+1)=plSt seen t k:=by
 have e:=plSt_succ seen t h
 have:pstep (plSt seen t k).2 t[k]=(t[k],(plSt seen t k).2):=by unfold pstep; rw [if_pos h0]
 rw [e,this,set_same (plSt_get seen t h)]
theorem plSt_new (seen t:List Int) {k:Nat} (h:k < t.length) (h0:¬ 0≤t[k]) (hn:t[k]∉(plSt seen t k).2) :
 plSt seen t (k+1)=((plSt seen t k).1.set k (-1 - ((plSt seen t k).2.length:Int)),(plSt seen t k).2++[t[k]]):=by
 rw [plSt_succ seen t h]
 unfold pstep
 rw [if_neg h0,if_pos (idx_neg_iff.2 hn)]
theorem plSt_old (seen t:List Int) {k:Nat} (h:k < t.length) (h0:¬ 0≤t[k]) (hn:t[k]∈(plSt seen t k).2) :
 plSt seen t (k+1)=((plSt seen t k).1.set k (-1 - idx (fun x=>decide (x=t[k])) (plSt seen t k).2),(plSt seen t k).2):=by
 rw [plSt_succ seen t h]
 unfold pstep
 rw [if_neg h0,if_neg (fun e=>idx_neg_iff.1 e hn)]
theorem impl_plain2 (seen t r:List Int) (hs:seen.length≤4096) (ht:t.length≤4096) {N:Nat} (hN:t.length < N) (L0:St→R) :
 impl_plain.at2 N L0 N (impl_plain.st2 2 (0:Nat) t.length (0:Nat) (cells seen) (cells t) (cells r))=L0 (impl_plain.st0 2 (1:Nat) (cells (plainL seen t).2) (cells (plainL seen t).1) (cells r)):=by
 have key:=run_loop (n:=t.length) (f:=N) (S:=fun m k (o:List Int × List Int)=>impl_plain.at2 N L0 m (impl_plain.st2 2 (0:Nat) t.length (k:Nat) (cells o.2) (cells o.1) (cells r)))
  (st:=fun k=>plSt seen t k) (z:=L0 (impl_plain.st0 2 (1:Nat) (cells (plainL seen t).2) (cells (plainL seen t).1) (cells r))) (fun m k h => ?_) (fun m => ?_) (by omega)
 · rw [plSt_zero] at key; exact key
 · have hl:=plSt_len seen t (Nat.le_of_lt h)
   have hg:=plSt_get seen t h
   have hsl:=plSt_seen seen t k
   have hp:=plSt_pos seen t h
   have hnw:=plSt_new seen t h
   have hod:=plSt_old seen t h
   generalize plSt seen t (k+1)=P at *
   generalize plSt seen t k=Q at *
   obtain ⟨M,s⟩:=Q
   simp only at hl hg hsl hp hnw hod
   have hkM:k < M.length:=by omega
   have hkc:k*1+1≤(cells M).length:=by rw [cells_length,sz_int]; omega
   have hct:=(slices_Contains_Sint64 s t[k] (by omega)).eq
   have hix:=(slices_Index_Sint64 s t[k] (by omega)).eq
   have hix':=(slices_Index_Sint64 (s++[t[k]]) t[k] (by simp; omega)).eq
   have hrg:=idx_range s t[k]
   by_cases h0:0≤t[k]
   · have h0':t[k] ≥ 0:=h0
     rw [hp h0]
     simp only [impl_plain.next2,impl_plain.round2,evz,Nat.reduceLT,h,hg,hkM,enc_int,h0']
     rw [wrap_succ (by omega)]
   · have h0':¬ t[k] ≥ 0:=h0
     by_cases hm:t[k]∈s
     · rw [hod h0 hm]
       rw [decide_eq_true hm] at hct
       have:=set_Int hkM (-1 - idx (fun x=>decide (x=t[k])) s)
       simp only [impl_plain.next2,impl_plain.round2,evz,Nat.reduceLT,h,hg,hkM,enc_int,h0',hct,hix,wrap64 (x := -1 - idx (fun x=>decide (x=t[k])) s) (by omega),this,hkc]
       rw [wrap_succ (by omega)]
     · rw [hnw h0 hm]
       rw [decide_eq_false hm] at hct
       rw [idx_snoc hm] at hix'
       have:=set_Int hkM (-1 - (s.length:Int))
       simp only [impl_plain.next2,impl_plain.round2,evz,Nat.reduceLT,h,hg,hkM,enc_int,h0',hct,cells_snoc_int,hix',wrap64 (x := -1 - (s.length:Int)) (by omega),this,hkc]
       rw [wrap_succ (by omega),cond_pos (ble_ok (by rw [cells_length,sz_int]; omega))]
 · rw [plSt_end]
   simp only [impl_plain.next2,impl_plain.round2,evz,Nat.reduceLT,Nat.lt_irrefl]
   rw [wrap_succ (by omega)]
theorem impl_plain3 (seen t r:List Int) (hs:seen.length≤4096) (ht:t.length≤4096) {N:Nat} (hN:t.length < N) (L0:St→R) :
 impl_plain.at1002 N L0 N (impl_plain.st1002 2 (1:Nat) t.length (0:Nat) (cells seen) (cells r) (cells t))=L0 (impl_plain.st0 2 (2:Nat) (cells (plainL seen t).2) (cells r) (cells (plainL seen t).1)):=by
 have key:=run_loop (n:=t.length) (f:=N) (S:=fun m k (o:List Int × List Int)=>impl_plain.at1002 N L0 m (impl_plain.st1002 2 (1:Nat) t.length (k:Nat) (cells o.2) (cells r) (cells o.1)))
  (st:=fun k=>plSt seen t k) (z:=L0 (impl_plain.st0 2 (2:Nat) (cells (plainL seen t).2) (cells r) (cells (plainL seen t).1))) (fun m k h => ?_) (fun m => ?_) (by omega)
 · rw [plSt_zero] at key; exact key
 · have hl:=plSt_len seen t (Nat.le_of_lt h)
   have hg:=plSt_get seen t h
   have hsl:=plSt_seen seen t k
   have hp:=plSt_pos seen t h
   have hnw:=plSt_new seen t h
   have hod:=plSt_old seen t h
   generalize plSt seen t (k+1)=P at *
   generalize plSt seen t k=Q at *
   obtain ⟨M,s⟩:=Q
   simp only at hl hg hsl hp hnw hod
   have hkM:k < M.length:=by omega
   have hkc:k*1+1≤(cells M).length:=by rw [cells_length,sz_int]; omega
   have hct:=(slices_Contains_Sint64 s t[k] (by omega)).eq
   have hix:=(slices_Index_Sint64 s t[k] (by omega)).eq
   have hix':=(slices_Index_Sint64 (s++[t[k]]) t[k] (by simp; omega)).eq
   have hrg:=idx_range s t[k]
   by_cases h0:0≤t[k]
   · have h0':t[k] ≥ 0:=h0
     rw [hp h0]
     simp only [impl_plain.next1002,impl_plain.round1002,evz,Nat.reduceLT,h,hg,hkM,enc_int,h0']
     rw [wrap_succ (by omega)]
   · have h0':¬ t[k] ≥ 0:=h0
     by_cases hm:t[k]∈s
     · rw [hod h0 hm]
       rw [decide_eq_true hm] at hct
       have:=set_Int hkM (-1 - idx (fun x=>decide (x=t[k])) s)
       simp only [impl_plain.next1002,impl_plain.round1002,evz,Nat.reduceLT,h,hg,hkM,enc_int,h0',hct,hix,wrap64 (x := -1 - idx (fun x=>decide (x=t[k])) s) (by omega),this,hkc]
       rw [wrap_succ (by omega)]
     · rw [hnw h0 hm]
       rw [decide_eq_false hm] at hct
       rw [idx_snoc hm] at hix'
       have:=set_Int hkM (-1 - (s.length:Int))
       simp only [impl_plain.next1002,impl_plain.round1002,evz,Nat.reduceLT,h,hg,hkM,enc_int,h0',hct,cells_snoc_int,hix',wrap64 (x := -1 - (s.length:Int)) (by omega),this,hkc]
       rw [wrap_succ (by omega),cond_pos (ble_ok (by rw [cells_length,sz_int]; omega))]
 · rw [plSt_end]
   simp only [impl_plain.next1002,impl_plain.round1002,evz,Nat.reduceLT,Nat.lt_irrefl]
   rw [wrap_succ (by omega)]
theorem impl_plain0 (a b:List Int) (ha:a.length≤1024) {N:Nat} (hN:1100≤N) (f:Nat) :
 impl_plain.at0 N (f+1) (impl_plain.st0 2 (0:Int) [] (cells a) (cells b))=impl_plain.at0 N f (impl_plain.st0 2 (1:Nat) (cells (plainL [] a).2) (cells (plainL [] a).1) (cells b)):=by
 have h2:=impl_plain2 [] a b (by simp) (by omega) (N:=N) (by omega) (impl_plain.at0 N f)
 rw [show ((0:Nat):Int)=0 from rfl,cells_nil] at h2
 rw [impl_plain.next0,impl_plain.round0]
 simp only [cells_div,sz_int]
 rw [cond_pos (by decide),cond_pos (by decide),cond_pos (by decide)]
 exact h2
theorem impl_plain1 (seen a b:List Int) (hs:seen.length≤4096) (hb:b.length≤1024) {N:Nat} (hN:1100≤N) (f:Nat) :
 impl_plain.at0 N (f+1) (impl_plain.st0 2 (1:Nat) (cells seen) (cells a) (cells b))=impl_plain.at0 N f (impl_plain.st0 2 (2:Nat) (cells (plainL seen b).2) (cells a) (cells (plainL seen b).1)):=by
 have h3:=impl_plain3 seen b a hs (by omega) (N:=N) (by omega) (impl_plain.at0 N f)
 rw [show ((0:Nat):Int)=0 from rfl] at h3
 rw [impl_plain.next0,impl_plain.round0]
 simp only [cells_div,sz_int]
 rw [cond_pos (by decide),cond_pos (by decide),cond_neg (by decide),cond_pos (by decide)]
 exact h3
theorem impl_plain4 (s a b:List Int) {N:Nat} (f:Nat):impl_plain.at0 N (f+1) (impl_plain.st0 2 (2:Nat) (cells s) (cells a) (cells b))=some (.tup [.agg [slc a,slc b],.bool (decide (s.length≤6))],[]):=by
 rw [impl_plain.next0,impl_plain.round0]
 simp only [cells_div,sz_int]
 rw [cond_neg (by decide),show decide (((s.length:Nat):Int)≤6)=decide (s.length≤6) from decide_eq_decide.2 (by omega)]
 rfl
theorem impl_plain (a b:List Int) (ha:a.length≤1024) (hb:b.length≤1024):Call F.impl_plain [.agg [slc a,slc b]] (.tup [.agg [slc (plainE ⟨a,b⟩).left,slc (plainE ⟨a,b⟩).right],.bool (decide ((seenE ⟨a,b⟩).length≤6))]):=by
 obtain ⟨m,hm⟩:∃ m,1100≤m:=⟨1100,Nat.le_refl _⟩
 refine call_of rfl (m+1+1+1) ((impl_plain.ev _ _ _).trans ?_)
 have ho:Call F.impl_ownEquation [.agg [slc a,slc b]] (.agg [slc a,slc b]):=by
  refine call_of rfl 0 ((impl_ownEquation.ev _ _ _).trans ?_)
  simp only [evz,Nat.reduceLT,(slices_Clone_Sint64 a (by omega)).eq,(slices_Clone_Sint64 b (by omega)).eq]
 simp only [evz,Nat.reduceLT,ho.eq]
 have hs1:=(plainL_length [] a).2.1
 have e0:=impl_plain0 a b ha (N:=m+1+1+1) (by omega) (m+1+1)
 have e1:=impl_plain1 (plainL [] a).2 (plainL [] a).1 b (by simp at hs1; omega) hb (N:=m+1+1+1) (by omega) (m+1)
 exact e0.trans (e1.trans (impl_plain4 _ _ _ m))
theorem spec_l4Plain (a b:List Int) (ha:a.length≤1024) (hb:b.length≤1024):Call F.spec_l4Plain [.rref [slc a,slc b] 0]
 (.tup [.agg [slc (if (seenE ⟨a,b⟩).length≤6 then (plainE ⟨a,b⟩).left else []),slc (if (seenE ⟨a,b⟩).length≤6 then (plainE ⟨a,b⟩).right else [])],.bool (decide ((seenE ⟨a,b⟩).length≤6))]):=by
 refine call_of rfl 3000 ((spec_l4Plain.ev _ _ _).trans ?_)
 simp only [evz,Nat.reduceLT,(spec_l1Ints' a (by omega)).eq,scalars_int,← cells_append]
 rw [cond_pos (ble_ok (by rw [cells_length,cells_length,sz_int]; omega))]
 have htl:(a++b).length≤2048:=by simp; omega
 obtain ⟨t,hte⟩:∃ t,t=a++b:=⟨_,rfl⟩
 rw [← hte] at htl ⊢
 have key:=run_loop (n:=t.length) (f:=3000) (S:=fun m k (o:List Int × List Int)=>spec_l4Plain.at0 3000 m (spec_l4Plain.st0 (cells a) (cells b) (k:Nat) (cells o.1) (cells o.2)))
  (st:=fun k=>plSt [] t k) (z:=some (.tup [.agg [slc (if (seenE ⟨a,b⟩).length≤6 then (plainE ⟨a,b⟩).left else []),slc (if (seenE ⟨a,b⟩).length≤6 then (plainE ⟨a,b⟩).right else [])],.bool (decide ((seenE ⟨a,b⟩).length≤6))],[])) (fun m k h => ?_) (fun m => ?_) (by omega)
 · rw [plSt_zero] at key; exact key
 · have hl:=plSt_len [] t (Nat.le_of_lt h)
   have hg:=plSt_get [] t h
   have hsl:=plSt_seen [] t k
   have hp:=plSt_pos [] t h
   have hnw:=plSt_new [] t h
   have hod:=plSt_old [] t h
   generalize plSt [] t (k+1)=P at *
   generalize plSt [] t k=Q at *
   obtain ⟨M,s⟩:=Q
   simp only at hl hg hsl hp hnw hod
   have hkM:k < M.length:=by omega
   have hkc:k*1+1≤(cells M).length:=by rw [cells_length,sz_int]; omega
   have hix:=(spec_l2Rank s t[k] (by simp at hsl; omega)).eq
   unfold rank at hix
   have hrg:=idx_range s t[k]
   have hsl':s.length≤2048:=by simp at hsl; omega
   by_cases h0:0≤t[k]
   · have h0':t[k] ≥ 0:=h0
     rw [hp h0]
     simp only [spec_l4Plain.next0,spec_l4Plain.round0,evz,Nat.reduceLT,h,hg,hkM,enc_int,h0']
     rw [wrap_succ (by omega)]
   · have h0':¬ t[k] ≥ 0:=h0
     by_cases hm:t[k]∈s
     · rw [hod h0 hm]
       have:=set_Int hkM (-1 - idx (fun x=>decide (x=t[k])) s)
       have hi:¬ idx (fun x=>decide (x=t[k])) s < 0:=fun e=>idx_neg_iff.1 e hm
       simp only [spec_l4Plain.next0,spec_l4Plain.round0,evz,Nat.reduceLT,h,hg,hkM,enc_int,h0',hix,hi,wrap64 (x := -1 - idx (fun x=>decide (x=t[k])) s) (by omega),this,hkc]
       rw [wrap_succ (by omega)]
     · rw [hnw h0 hm]
       have:=set_Int hkM (-1 - (s.length:Int))
       have hi:idx (fun x=>decide (x=t[k])) s < 0:=idx_neg_iff.2 hm
       simp only [spec_l4Plain.next0,spec_l4Plain.round0,evz,Nat.reduceLT,h,hg,hkM,enc_int,h0',hix,hi,cells_snoc_int,wrap64 (x := -1 - (s.length:Int)) (by omega),this,hkc]
       rw [wrap_succ (by omega),cond_pos (ble_ok (by rw [cells_length,sz_int]; omega))]
 · rw [plSt_end,hte,plainL_append]
   have hl1:=(plainL_length [] a).1
   have hl2:=(plainL_length (plainL [] a).2 b).1
   have es:seenE ⟨a,b⟩=(plainL (plainL [] a).2 b).2:=rfl
   simp only [spec_l4Plain.next0,spec_l4Plain.round0,evz,Nat.reduceLT,List.length_append,hl1,hl2,Nat.lt_irrefl,es]
   by_cases h6:(plainL (plainL [] a).2 b).2.length≤6
   · have h6':¬ (((plainL (plainL [] a).2 b).2.length:Nat):Int) > 6:=by omega
     have c1:((((plainL [] a).1++(plainL (plainL [] a).2 b).1).take a.length).drop 0)=(plainL [] a).1:=by rw [List.drop_zero,← hl1,List.take_left]
     have c2:((((plainL [] a).1++(plainL (plainL [] a).2 b).1).take (a.length+b.length)).drop a.length)=(plainL (plainL [] a).2 b).1:=by
      rw [List.take_of_length_le (by rw [List.length_append]; omega),← hl1,List.drop_left]
     simp only [h6,h6',evz,Nat.reduceLT]
     rw [cond_pos (by simp; omega),slc_cut,c1,(spec_l1Ints' _ (by omega)).eq]
     simp only [evz,Nat.reduceLT]
     rw [cond_pos (by simp; omega),slc_cut,c2,(spec_l1Ints' _ (by omega)).eq]
     simp only [evz,Nat.reduceLT]
     rfl
   · have h6':(((plainL (plainL [] a).2 b).2.length:Nat):Int) > 6:=by omega
     simp only [h6,h6',evz,Nat.reduceLT,slc_nil]
end Ev.Ty
end
section
namespace Ev.Ty
open Go Ev
open Enc (enc)
open Sm (sm)
set_option linter.unusedSimpArgs false
set_option linter.unusedVariables false
theorem unif_code {l:List Symbol}:∀ {n:Nat} {b:Bnd} {ps:List Pr} {c:Int},unif l n b ps=some (.inr c)→c=2∨c=4
 | 0,b,ps,c,h=>by cases h
 | n+1,b,[],c,h=>by cases h
 | n+1,b,p::ps,c,h=>by
   rw [unif] at h
   split at h
   · cases h; exact .inl rfl
   split at h
   · exact unif_code h
   split at h
   · split at h
     · cases h; exact .inr rfl
     split at h
     · cases h; exact .inl rfl
     · exact unif_code h
   split at h
   · split at h
     · cases h; exact .inr rfl
     split at h
     · cases h; exact .inl rfl
     · exact unif_code h
   split at h
   · cases h; exact .inr rfl
   · exact unif_code h
theorem unifR_code {l:List Symbol} {a b:List Int} (ha:TermOk l a) (hb:TermOk l b) {c:Int} (h:unifR l a b = .inr c):c=2∨c=4:=by
 obtain ⟨⟨n,hn⟩,_⟩:=unifR_spec ha hb
 rw [h] at hn
 exact unif_code hn
theorem replAt_range {l:List Symbol} (ok:SigOk ⟨l⟩) {t u:List Int} (ht:TermOk l t) (hu:TermOk l u) (p:Nat):∀ n∈replAt l t p u,-4611686018427387904≤n∧n≤4611686018427387904:=fun n hn=>by
 unfold replAt at hn
 rcases List.mem_append.1 hn with hn | hn
 · rcases List.mem_append.1 hn with hn | hn
   · exact ht.range ok n (List.mem_of_mem_take hn)
   · exact hu.range ok n hn
 · exact ht.range ok n (List.mem_of_mem_drop hn)
section
variable {l:List Symbol} (ok:SigOk ⟨l⟩)
include ok
theorem impl_peakOf {o i:Equation} (ho:EqOk l o) (hi:EqOk l i) {p:Nat} (hp:p < o.left.length):Call F.impl_peakOf [.agg [slc l],.agg [slc o.left,slc o.right],.agg [slc i.left,slc i.right],.int .i64 p] (.agg (enc (peakR l o i p))):=by
 refine call_of rfl 0 ((impl_peakOf.ev _ _ _ _ _ _ _).trans ?_)
 have l1:=ho.left.le
 have l2:=ho.right.le
 have l3:=hi.left.le
 have l4:=hi.right.le
 have s1:=(impl_shifted i.left (by omega) (fun n hn=>(hi.left.range ok n hn).1)).eq
 have s2:=(impl_shifted i.right (by omega) (fun n hn=>(hi.right.range ok n hn).1)).eq
 have o1:=shift_ok hi.left hi.lowL
 have o2:=shift_ok hi.right hi.lowR
 have os:=subAt_ok ho.left hp
 have hsub:=(impl_subterm ok ho.left hp).eq
 have hu:=impl_unify ok os o1
 have hrp:=(impl_replaced ok ho.left hp (shiftT i.right 6) (by rw [shiftT_length]; omega)).eq
 have hrl:=replAt_length (l:=l) (t:=o.left) (p:=p) (by_:=shiftT i.right 6)
 rw [shiftT_length] at hrl
 simp only [evz,Nat.reduceLT,s1,s2,hsub,hu,peakR]
 have hsp:=unifR_spec os o1
 have hcd:=fun c=>unifR_code os o1 (c:=c)
 generalize unifR l (subAt l o.left p) (shiftT i.left 6)=u at *
 cases u with
 | inr c =>
   have hc:¬ c=0:=by rcases hcd c rfl with h | h <;> omega
   simp only [uT,evz,Nat.reduceLT,hc,enc_EquationResult,slc_nil]
   rfl
 | inl b =>
   have hb:=hsp.2 b rfl
   have hbl:=hb.le
   have hbo:=hb.mb.ok (by omega)
   simp only [uT,evz,Nat.reduceLT,hrp]
   have hge:=applied_ge hb.mb (replAt l o.left p (shiftT i.right 6))
   have a1:=(impl_Binding_applied b.1 b.2 hbo o.right (by omega) (ho.right.range ok)).eq
   have a2:=(impl_Binding_applied b.1 b.2 hbo (replAt l o.left p (shiftT i.right 6)) (by omega) (replAt_range ok ho.left o2 p)).eq
   generalize replAt l o.left p (shiftT i.right 6)=w at *
   generalize applied b.1 b.2 o.right=x at *
   generalize applied b.1 b.2 w=y at *
   by_cases c1:24 < w.length
   · have c1':(w.length:Int) > 24:=by omega
     have c2:24 < x.length∨24 < y.length := .inr (by omega)
     simp only [c1',c2,evz,Nat.reduceLT,enc_EquationResult,slc_nil]
   have c1':¬ (w.length:Int) > 24:=by omega
   simp only [c1',evz,Nat.reduceLT,a1,a2]
   by_cases c2:24 < x.length
   · have c2':(x.length:Int) > 24:=by omega
     simp only [c2,c2',true_or,evz,Nat.reduceLT,enc_EquationResult,slc_nil]
   by_cases c3:24 < y.length
   · have c2':¬ (x.length:Int) > 24:=by omega
     have c3':(y.length:Int) > 24:=by omega
     simp only [c3,c2',c3',or_true,evz,Nat.reduceLT,enc_EquationResult,slc_nil]
   have c2':¬ (x.length:Int) > 24:=by omega
   have c3':¬ (y.length:Int) > 24:=by omega
   have hpl:=(impl_plain x y (by omega) (by omega)).eq
   simp only [c2,c3,c2',c3',or_self,evz,Nat.reduceLT,hpl]
   by_cases c4:(seenE ⟨x,y⟩).length≤6
   · have c4':¬ 6 < (seenE ⟨x,y⟩).length:=by omega
     simp only [c4,c4',evz,Nat.reduceLT,Bool.not_true,enc_EquationResult]
   · have c4':6 < (seenE ⟨x,y⟩).length:=by omega
     simp only [c4,c4',evz,Nat.reduceLT,Bool.not_false,enc_EquationResult,slc_nil]
theorem spec_l9Peak {o i:Equation} (ho:EqOk l o) (hi:EqOk l i) {p:Nat} (hp:p < o.left.length):Call F.spec_l9Peak [.rref [slc l] 0,.rref [slc o.left,slc o.right] 0,.rref [slc i.left,slc i.right] 0,.int .i64 p]
 (.tup [.agg [slc (peakR l o i p).equation.left,slc (peakR l o i p).equation.right],.int .i64 (peakR l o i p).code]):=by
 refine call_of rfl 0 ((spec_l9Peak.ev _ _ _ _ _ _ _).trans ?_)
 have l1:=ho.left.le
 have l2:=ho.right.le
 have l3:=hi.left.le
 have l4:=hi.right.le
 have s1:=(spec_l6Shift i.left (by omega) (fun n hn=>(hi.left.range ok n hn).1)).eq
 have s2:=(spec_l6Shift i.right (by omega) (fun n hn=>(hi.right.range ok n hn).1)).eq
 have o1:=shift_ok hi.left hi.lowL
 have o2:=shift_ok hi.right hi.lowR
 have os:=subAt_ok ho.left hp
 have hsub:=(spec_l3Sub ok ho.left hp).eq
 have hu:=spec_l6Unify ok os o1
 have hrp:=(spec_l3Replace ok ho.left hp (shiftT i.right 6) (by rw [shiftT_length]; omega)).eq
 have hrl:=replAt_length (l:=l) (t:=o.left) (p:=p) (by_:=shiftT i.right 6)
 rw [shiftT_length] at hrl
 simp only [evz,Nat.reduceLT,s1,s2,hsub,hu,peakR]
 have hsp:=unifR_spec os o1
 have hcd:=fun c=>unifR_code os o1 (c:=c)
 generalize unifR l (subAt l o.left p) (shiftT i.left 6)=u at *
 cases u with
 | inr c =>
   have hc:¬ c=0:=by rcases hcd c rfl with h | h <;> omega
   simp only [uT,evz,Nat.reduceLT,hc,enc_EquationResult,slc_nil]
   rfl
 | inl b =>
   have hb:=hsp.2 b rfl
   have hbl:=hb.le
   have hbo:=hb.mb.ok (by omega)
   simp only [uT,evz,Nat.reduceLT,hrp]
   have hge:=applied_ge hb.mb (replAt l o.left p (shiftT i.right 6))
   have a1:=(spec_l6Apply b.1 b.2 hbo o.right (by omega) (ho.right.range ok)).eq
   have a2:=(spec_l6Apply b.1 b.2 hbo (replAt l o.left p (shiftT i.right 6)) (by omega) (replAt_range ok ho.left o2 p)).eq
   generalize replAt l o.left p (shiftT i.right 6)=w at *
   generalize applied b.1 b.2 o.right=x at *
   generalize applied b.1 b.2 w=y at *
   simp only [evz,Nat.reduceLT,a1,a2]
   by_cases c2:24 < x.length
   · have c2':(x.length:Int) > 24:=by omega
     simp only [c2,c2',true_or,evz,Nat.reduceLT,enc_EquationResult,slc_nil]
   by_cases c3:24 < y.length
   · have c2':¬ (x.length:Int) > 24:=by omega
     have c3':(y.length:Int) > 24:=by omega
     simp only [c3,c2',c3',or_true,evz,Nat.reduceLT,enc_EquationResult,slc_nil]
   have c2':¬ (x.length:Int) > 24:=by omega
   have c3':¬ (y.length:Int) > 24:=by omega
   have hpl:=(spec_l4Plain x y (by omega) (by omega)).eq
   simp only [c2,c3,c2',c3',or_self,evz,Nat.reduceLT,hpl]
   by_cases c4:(seenE ⟨x,y⟩).length≤6
   · have c4':¬ 6 < (seenE ⟨x,y⟩).length:=by omega
     simp only [c4,c4',evz,Nat.reduceLT,Bool.not_true,enc_EquationResult]
   · have c4':6 < (seenE ⟨x,y⟩).length:=by omega
     simp only [c4,c4',evz,Nat.reduceLT,Bool.not_false,enc_EquationResult,slc_nil]
end
theorem peakR_sm {l:List Symbol} {o i:Equation} {p:Nat}:sm 67108864 (peakR l o i p):=by
 unfold peakR
 split
 · exact ⟨⟨by simp,by simp⟩,⟨by simp,by simp⟩⟩
 split
 · exact ⟨⟨by simp,by simp⟩,⟨by simp,by simp⟩⟩
 split
 · exact ⟨⟨by simp,by simp⟩,⟨by simp,by simp⟩⟩
 · rename_i b _ h _
   refine ⟨⟨?_,fun _ _=>trivial⟩,⟨?_,fun _ _=>trivial⟩⟩
   · show (plainL _ _).1.length≤_
     rw [(plainL_length _ _).1]
     show (applied _ _ _).length≤_
     omega
   · show (plainL _ _).1.length≤_
     rw [(plainL_length _ _).1]
     show (applied _ _ _).length≤_
     omega
end Ev.Ty
end
section
namespace Ev.Ty
open Go Ev
open Enc (enc)
open Sm (sm)
set_option linter.unusedSimpArgs false
set_option linter.unusedVariables false
noncomputable def placesN (l:List Symbol) (o i:Equation) (same:Bool):Nat→Nat→List Nat ⊕ Int
 | 0,_ => .inl []
 | n+1,k=>if o.left.getD k 0 < 0∨(same=true∧k=0) then placesN l o i same n (k+1) else if (peakR l o i k).code=4 then placesN l o i same n (k+1) else if (peakR l o i k).code=0 then
  match placesN l o i same n (k+1) with
  | .inl qs => .inl (k::qs)
  | .inr c => .inr c
   else .inr (peakR l o i k).code
noncomputable def peaksR (l:List Symbol) (o i:Equation) (same:Bool):List Equation ⊕ Int:=match placesN l o i same o.left.length 0 with
 | .inl qs => .inl (qs.map fun q=>(peakR l o i q).equation)
 | .inr c => .inr c
theorem placesN_mem {l:List Symbol} {o i:Equation} {same:Bool}:∀ {n k:Nat} {qs:List Nat},placesN l o i same n k = .inl qs→qs.length≤n∧∀ q∈qs,k≤q∧q < k+n
 | 0,k,qs,h=>by cases h; exact ⟨Nat.le_refl _,by simp⟩
 | n+1,k,qs,h=>by
   have next:∀ {qs},placesN l o i same n (k+1) = .inl qs→qs.length≤n∧∀ q∈qs,k≤q∧q < k+(n+1):=fun h=>by
    obtain ⟨h1,h2⟩:=placesN_mem h
    exact ⟨h1,fun q hq=>by have:=h2 q hq; omega⟩
   rw [placesN] at h
   split at h
   · obtain ⟨h1,h2⟩:=next h; exact ⟨by omega,h2⟩
   split at h
   · obtain ⟨h1,h2⟩:=next h; exact ⟨by omega,h2⟩
   split at h
   · split at h
     · rename_i ps hp
       obtain ⟨h1,h2⟩:=next hp
       cases h
       refine ⟨by simp; omega,fun q hq => ?_⟩
       rcases List.mem_cons.1 hq with rfl | hq
       · omega
       · exact h2 q hq
     · cases h
   · cases h
theorem placesN_code {l:List Symbol} {o i:Equation} {same:Bool}:∀ {n k:Nat} {c:Int},placesN l o i same n k = .inr c→c≠0
 | 0,k,c,h=>by cases h
 | n+1,k,c,h=>by
   rw [placesN] at h
   split at h
   · exact placesN_code h
   split at h
   · exact placesN_code h
   split at h
   · split at h
     · cases h
     · rename_i c' hp; cases h; exact placesN_code hp
   · rename_i h0; cases h; exact h0
def psT (out:List Equation):List Equation ⊕ Int→R
 | .inl ps=>some (.tup [slc (out++ps),.int .i64 0],[])
 | .inr c=>some (.tup [.sl 2 [],.int .i64 c],[])
section
variable {l:List Symbol} (ok:SigOk ⟨l⟩)
include ok
theorem impl_peaksOf {o i:Equation} (ho:EqOk l o) (hi:EqOk l i) (same:Bool):LIM F.impl_peaksOf [.agg [slc l],.agg [slc o.left,slc o.right],.agg [slc i.left,slc i.right],.bool same]=psT [] (peaksR l o i same):=by
 have hol:=ho.left.le
 have hcall:∀ r,callK prog Ev.A H LIM (o.left.length+1) F.impl_peaksOf [.agg [slc l],.agg [slc o.left,slc o.right],.agg [slc i.left,slc i.right],.bool same]=psT [] r→LIM F.impl_peaksOf [.agg [slc l],.agg [slc o.left,slc o.right],.agg [slc i.left,slc i.right],.bool same]=psT [] r:=fun r h=>by
  cases r with
  | inl x=>exact call_of rfl _ h
  | inr x=>exact call_of rfl _ h
 refine hcall _ ((impl_peaksOf.ev _ _ _ _ _ _ _).trans ?_)
 have loop:∀ n k f (out:List Equation),k+n=o.left.length→n < f→out.length≤k →
  impl_peaksOf.at0 (o.left.length+1) f (impl_peaksOf.st0 same (cells o.left) o.left.length (k:Nat) (cells l) (cells o.left) (cells o.right) (cells i.left) (cells i.right) (cells out)) =
   psT out (match placesN l o i same n k with
    | .inl qs => .inl (qs.map fun q=>(peakR l o i q).equation)
    | .inr c => .inr c):=by
  intro n
  induction n with
  | zero =>
    intro k f out hk hf hl
    obtain ⟨f,rfl⟩:∃ x,f=x+1:=⟨f - 1,by omega⟩
    obtain rfl:k=o.left.length:=by omega
    simp only [impl_peaksOf.next0,impl_peaksOf.round0,evz,Nat.reduceLT,Nat.lt_irrefl,placesN,List.map_nil,psT,List.append_nil]
  | succ n ih =>
    intro k f out hk hf hl
    obtain ⟨f,rfl⟩:∃ x,f=x+1:=⟨f - 1,by omega⟩
    have h:k < o.left.length:=by omega
    have hlk:o.left[k]?=some o.left[k]:=List.getElem?_eq_getElem h
    have hd:o.left.getD k 0=o.left[k]:=getD_at h
    have hpk:=(impl_peakOf ok ho hi h).eq
    rw [enc_EquationResult] at hpk
    have i1:=ih (k+1) f out (by omega) (by omega) (by omega)
    have i2:=ih (k+1) f (out++[(peakR l o i k).equation]) (by omega) (by omega) (by simp; omega)
    rw [placesN,hd]
    by_cases h1:o.left[k] < 0
    · rw [if_pos (.inl h1)]
      simp only [impl_peaksOf.next0,impl_peaksOf.round0,evz,Nat.reduceLT,h,hlk,enc_int,h1]
      rw [wrap_succ (by omega)]
      exact i1
    by_cases h2:same=true∧k=0
    · rw [if_pos (.inr h2)]
      have e0:∀ {α:Type} (a b:α),(bif ((k:Int) == 0) then (bif same then a else b) else b)=a:=fun a b=>by
       rw [h2.1,h2.2]; rfl
      rw [impl_peaksOf.next0,impl_peaksOf.round0,e0]
      simp only [evz,Nat.reduceLT,h,hlk,enc_int,h1]
      rw [wrap_succ (by omega)]
      exact i1
    rw [if_neg (by rintro (q | q); exact h1 q; exact h2 q)]
    have e0:∀ {α:Type} (a b:α),(bif ((k:Int) == 0) then (bif same then a else b) else b)=b:=fun a b=>by
     by_cases hk0:k=0
     · subst hk0
       have hs:same=false:=by cases same with
        | false=>rfl
        | true=>exact absurd ⟨rfl,rfl⟩ h2
       rw [hs]; rfl
     · rw [show ((k:Int) == 0)=false by simp; omega]; rfl
    rw [impl_peaksOf.next0,impl_peaksOf.round0,e0]
    simp only [evz,Nat.reduceLT,h,hlk,enc_int,h1,hpk]
    rw [wrap_succ (by omega)]
    by_cases c4:(peakR l o i k).code=4
    · simp only [c4,evz,Nat.reduceLT,show ¬ (4:Int)=0 by omega]
      exact i1
    by_cases c0:(peakR l o i k).code=0
    · simp only [c4,c0,evz,Nat.reduceLT]
      rw [cond_pos (ble_ok (by rw [cells_length,sz_Equation]; omega))]
      rw [cells_append] at i2
      refine Eq.trans ?_ (i2.trans ?_)
      · rfl
      · cases placesN l o i same n (k+1) with
        | inl qs=>simp [psT]
        | inr c=>simp [psT]
    · simp only [c4,c0,evz,Nat.reduceLT,psT]
 have:=loop o.left.length 0 (o.left.length+1) [] (by omega) (by omega) (by simp)
 refine Eq.trans ?_ this
 simp only [evz,Nat.reduceLT]
 rfl
theorem spec_l9Places {o i:Equation} (ho:EqOk l o) (hi:EqOk l i) (same:Bool):Call F.spec_l9Places [.rref [slc l] 0,.rref [slc o.left,slc o.right] 0,.rref [slc i.left,slc i.right] 0,.bool same]
 (match placesN l o i same o.left.length 0 with
  | .inl qs => .tup [slc (ints qs),.int .i64 0]
  | .inr c => .tup [.sl 1 [],.int .i64 c]):=by
 have hol:=ho.left.le
 refine call_of rfl (o.left.length+1) ((spec_l9Places.ev _ _ _ _ _ _ _).trans ?_)
 have loop:∀ n k f (out:List Nat),k+n=o.left.length→n < f→out.length≤k →
  spec_l9Places.at0 (o.left.length+1) f (spec_l9Places.st0 (cells l) (cells o.left) (cells o.right) (cells i.left) (cells i.right) same (k:Nat) (cells (ints out))) =
   some (match placesN l o i same n k with
    | .inl qs => .tup [slc (ints (out++qs)),.int .i64 0]
    | .inr c => .tup [.sl 1 [],.int .i64 c],[]):=by
  intro n
  induction n with
  | zero =>
    intro k f out hk hf hl
    obtain ⟨f,rfl⟩:∃ x,f=x+1:=⟨f - 1,by omega⟩
    obtain rfl:k=o.left.length:=by omega
    simp only [spec_l9Places.next0,spec_l9Places.round0,evz,Nat.reduceLT,Nat.lt_irrefl,placesN,List.append_nil]
  | succ n ih =>
    intro k f out hk hf hl
    obtain ⟨f,rfl⟩:∃ x,f=x+1:=⟨f - 1,by omega⟩
    have h:k < o.left.length:=by omega
    have hlk:o.left[k]?=some o.left[k]:=List.getElem?_eq_getElem h
    have hd:o.left.getD k 0=o.left[k]:=getD_at h
    have hpk:=(spec_l9Peak ok ho hi h).eq
    have i1:=ih (k+1) f out (by omega) (by omega) (by omega)
    have i2:=ih (k+1) f (out++[k]) (by omega) (by omega) (by simp; omega)
    rw [placesN,hd]
    by_cases h1:o.left[k] < 0
    · rw [if_pos (.inl h1)]
      simp only [spec_l9Places.next0,spec_l9Places.round0,evz,Nat.reduceLT,h,hlk,enc_int,h1]
      rw [wrap_succ (by omega)]
      exact i1
    by_cases h2:same=true∧k=0
    · rw [if_pos (.inr h2)]
      have e0:∀ {α:Type} (a b:α),(bif same then (bif ((k:Int) == 0) then a else b) else b)=a:=fun a b=>by
       rw [h2.1,h2.2]; rfl
      rw [spec_l9Places.next0,spec_l9Places.round0,e0]
      simp only [evz,Nat.reduceLT,h,hlk,enc_int,h1]
      rw [wrap_succ (by omega)]
      exact i1
    rw [if_neg (by rintro (q | q); exact h1 q; exact h2 q)]
    have e0:∀ {α:Type} (a b:α),(bif same then (bif ((k:Int) == 0) then a else b) else b)=b:=fun a b=>by
     by_cases hk0:k=0
     · subst hk0
       have hs:same=false:=by cases same with
        | false=>rfl
        | true=>exact absurd ⟨rfl,rfl⟩ h2
       rw [hs]; rfl
     · rw [show ((k:Int) == 0)=false by simp; omega]; cases same <;> rfl
    rw [spec_l9Places.next0,spec_l9Places.round0,e0]
    simp only [evz,Nat.reduceLT,h,hlk,enc_int,h1,hpk]
    rw [wrap_succ (by omega)]
    by_cases c4:(peakR l o i k).code=4
    · simp only [c4,evz,Nat.reduceLT,show ¬ (4:Int)=0 by omega]
      exact i1
    by_cases c0:(peakR l o i k).code=0
    · have e1:cells (ints out)++[.int .i64 (k:Int)]=cells (ints (out++[k])):=by rw [cells_snoc_int]; simp [ints]
      simp only [c4,c0,evz,Nat.reduceLT,show ¬ (0:Int)=4 by omega,e1]
      rw [cond_pos (ble_ok (by rw [cells_length,sz_int,ints_length]; omega))]
      refine i2.trans ?_
      cases placesN l o i same n (k+1) with
       | inl qs=>simp
       | inr c=>simp
    · simp only [c4,c0,evz,Nat.reduceLT]
 have:=loop o.left.length 0 (o.left.length+1) [] (by omega) (by omega) (by simp)
 exact this
theorem spec_l9Peaks {o i:Equation} (ho:EqOk l o) (hi:EqOk l i) (same:Bool):LIM F.spec_l9Peaks [.rref [slc l] 0,.rref [slc o.left,slc o.right] 0,.rref [slc i.left,slc i.right] 0,.bool same]=psT [] (peaksR l o i same):=by
 have hol:=ho.left.le
 have hcall:∀ r,callK prog Ev.A H LIM (o.left.length+1) F.spec_l9Peaks [.rref [slc l] 0,.rref [slc o.left,slc o.right] 0,.rref [slc i.left,slc i.right] 0,.bool same]=psT [] r→LIM F.spec_l9Peaks [.rref [slc l] 0,.rref [slc o.left,slc o.right] 0,.rref [slc i.left,slc i.right] 0,.bool same]=psT [] r:=fun r h=>by
  cases r with
  | inl x=>exact call_of rfl _ h
  | inr x=>exact call_of rfl _ h
 refine hcall _ ((spec_l9Peaks.ev _ _ _ _ _ _ _).trans ?_)
 have hp:=(spec_l9Places ok ho hi same).eq
 unfold peaksR
 cases hpl:placesN l o i same o.left.length 0 with
 | inr c =>
   rw [hpl] at hp
   simp only [evz,Nat.reduceLT,hp]
   simp only [spec_l9Peaks.next0,spec_l9Peaks.round0,evz,Nat.reduceLT,List.length_nil,psT,oSl]
   rfl
 | inl qs =>
   rw [hpl] at hp
   obtain ⟨hq1,hq2⟩:=placesN_mem hpl
   simp only [evz,Nat.reduceLT,hp]
   have key:=run_loop (n:=qs.length) (f:=o.left.length+1) (S:=fun m k (w:List Equation)=>spec_l9Peaks.at0 (o.left.length+1) m (spec_l9Peaks.st0 (cells l) (cells o.left) (cells o.right) (cells i.left) (cells i.right) 0 (k:Nat) (cells (ints qs)) (cells w)))
    (st:=fun k=>(qs.take k).map fun q=>(peakR l o i q).equation) (z:=psT [] (.inl (qs.map fun q=>(peakR l o i q).equation))) (fun m k h => ?_) (fun m => ?_) (by omega)
   · exact key
   · have hqk:=hq2 qs[k] (List.getElem_mem h)
     have hg:=ints_get h
     have hpk:=(spec_l9Peak ok ho hi (p:=qs[k]) (by omega)).eq
     have e1:(qs.take (k+1)).map (fun q=>(peakR l o i q).equation)=(qs.take k).map (fun q=>(peakR l o i q).equation)++[(peakR l o i qs[k]).equation]:=by
      rw [← List.take_append_getElem h,List.map_append]; rfl
     have e2:∀ (A:List Equation) (e:Equation),cells A++[slc e.left,slc e.right]=cells (A++[e]):=fun A e=>by rw [cells_append]; rfl
     rw [e1]
     simp only [spec_l9Peaks.next0,spec_l9Peaks.round0,evz,Nat.reduceLT,ints_length,h,hg,enc_int,hpk,e2]
     rw [wrap_succ (by omega),cond_pos (ble_ok (by rw [cells_length,sz_Equation]; simp; omega))]
   · rw [List.take_length]
     simp only [spec_l9Peaks.next0,spec_l9Peaks.round0,evz,Nat.reduceLT,ints_length,Nat.lt_irrefl,psT,List.nil_append]
end
theorem peaksR_code {l:List Symbol} {o i:Equation} {same:Bool} {c:Int} (h:peaksR l o i same = .inr c):c≠0:=by
 unfold peaksR at h
 split at h
 · cases h
 · rename_i c' hp; cases h; exact placesN_code hp
theorem peaksR_len {l:List Symbol} {o i:Equation} {same:Bool} {ps:List Equation} (h:peaksR l o i same = .inl ps):ps.length≤o.left.length∧∀ e∈ps,sm 67108864 e:=by
 unfold peaksR at h
 split at h
 · rename_i qs hp
   cases h
   refine ⟨by rw [List.length_map]; exact (placesN_mem hp).1,fun e he => ?_⟩
   obtain ⟨q,_,rfl⟩:=List.mem_map.1 he
   exact peakR_sm
 · cases h
end Ev.Ty
end
section
namespace Ev.Ty
open Go Ev
open Enc (enc)
open Sm (sm)
set_option linter.unusedSimpArgs false
set_option linter.unusedVariables false
noncomputable def rowN (l:List Symbol) (rs:List Equation) (i:Nat):Nat→Nat→List Equation→List Equation ⊕ Int
 | 0,_,out => .inl out
 | n+1,j,out=>match peaksR l (rs.getD i ⟨[],[]⟩) (rs.getD j ⟨[],[]⟩) (decide (i=j)) with
   | .inr c => .inr c
   | .inl ps=>if 200 < (out++ps).length then .inr 2 else rowN l rs i n (j+1) (out++ps)
noncomputable def allN (l:List Symbol) (rs:List Equation):Nat→Nat→List Equation→List Equation ⊕ Int
 | 0,_,out => .inl out
 | n+1,i,out=>match rowN l rs i rs.length 0 out with
   | .inr c => .inr c
   | .inl out'=>allN l rs n (i+1) out'
theorem rowN_le {l:List Symbol} {rs:List Equation} {i:Nat}:∀ {n j:Nat} {out o':List Equation},out.length≤200→(∀ e∈out,sm 67108864 e)→rowN l rs i n j out = .inl o'→o'.length≤200∧∀ e∈o',sm 67108864 e
 | 0,j,out,o',h,h2,e=>by cases e; exact ⟨h,h2⟩
 | n+1,j,out,o',h,h2,e=>by
   rw [rowN] at e
   split at e
   · cases e
   · rename_i ps hp
     split at e
     · cases e
     · exact rowN_le (by omega) (fun e he=>by
        rcases List.mem_append.1 he with he | he
        · exact h2 e he
        · exact (peaksR_len hp).2 e he) e
theorem allN_le {l:List Symbol} {rs:List Equation}:∀ {n i:Nat} {out o':List Equation},out.length≤200→(∀ e∈out,sm 67108864 e)→allN l rs n i out = .inl o'→o'.length≤200∧∀ e∈o',sm 67108864 e
 | 0,i,out,o',h,h2,e=>by cases e; exact ⟨h,h2⟩
 | n+1,i,out,o',h,h2,e=>by
   rw [allN] at e
   split at e
   · cases e
   · rename_i o1 h1
     obtain ⟨q1,q2⟩:=rowN_le h h2 h1
     exact allN_le q1 q2 e
theorem cells_pick {rs:List Equation} {k:Nat} (h:k < rs.length):(((cells rs).drop (k*2)).take 2)=[slc rs[k].left,slc rs[k].right]:=by
 rw [cells_drop rs 2 k rfl,List.drop_eq_getElem_cons h]; rfl
def apT:List Equation ⊕ Int→R
 | .inl ps=>some (.tup [slc ps,.int .i64 0],[])
 | .inr c=>some (.tup [.sl 2 [],.int .i64 c],[])
section
variable {l:List Symbol} (ok:SigOk ⟨l⟩) {rs:List Equation} (hr:∀ e∈rs,EqOk l e) (hl:rs.length≤12)
include ok hr hl
theorem impl_allPeaks_row {N:Nat} (hN:20≤N) (L0:St→R) {i:Nat} (hi:i < rs.length):∀ n j f (out:List Equation),j+n=rs.length→n < f→out.length≤200 →
 impl_allPeaks.at2 N L0 f (impl_allPeaks.st2 (cells rs) (cells rs) rs.length (i:Nat) (i:Nat) (cells rs) rs.length (j:Nat) (cells l) (cells out) (cells rs[i].left) (cells rs[i].right)) =
  match rowN l rs i n j out with
  | .inr c=>apT (.inr c)
  | .inl o'=>L0 (impl_allPeaks.st0 (cells rs) (cells rs) rs.length ((i+1:Nat):Int) (cells l) (cells o')):=by
 intro n
 induction n with
 | zero =>
   intro j f out hj hf ho
   obtain ⟨f,rfl⟩:∃ x,f=x+1:=⟨f - 1,by omega⟩
   obtain rfl:j=rs.length:=by omega
   simp only [impl_allPeaks.next2,impl_allPeaks.round2,evz,Nat.reduceLT,Nat.lt_irrefl,rowN]
   rw [wrap_succ (by omega)]
 | succ n ih =>
   intro j f out hj hf ho
   obtain ⟨f,rfl⟩:∃ x,f=x+1:=⟨f - 1,by omega⟩
   have h:j < rs.length:=by omega
   have hlk:rs[j]?=some rs[j]:=List.getElem?_eq_getElem h
   have hpk:=impl_peaksOf ok (hr _ (List.getElem_mem hi)) (hr _ (List.getElem_mem h)) (decide (i=j))
   have hlo:=(hr _ (List.getElem_mem hi)).left.le
   have eb:decide ((i:Int)=(j:Int))=decide (i=j):=decide_eq_decide.2 (by omega)
   have on:oSl 2 (T.sl 2 [])=some []:=rfl
   rw [rowN,getE hi,getE h]
   cases hp:peaksR l rs[i] rs[j] (decide (i=j)) with
   | inr c =>
     rw [hp] at hpk
     have hc:=peaksR_code hp
     simp only [impl_allPeaks.next2,impl_allPeaks.round2,evz,Nat.reduceLT,h,hlk,enc_Equation,eb,hpk,psT,hc,on,apT]
   | inl ps =>
     rw [hp] at hpk
     have hpl:=(peaksR_len hp).1
     have i1:=ih (j+1) f (out++ps) (by omega) (by omega)
     rw [cells_append] at i1
     simp only [impl_allPeaks.next2,impl_allPeaks.round2,evz,Nat.reduceLT,h,hlk,enc_Equation,eb,hpk,psT,List.nil_append]
     rw [cond_pos (ble_ok (by rw [cells_length,cells_length,sz_Equation]; omega)),wrap_succ (by omega)]
     have hlen:(cells out++cells ps).length / 2=(out++ps).length:=by rw [← cells_append,cells_div]; rfl
     rw [hlen]
     by_cases h2:200 < (out++ps).length
     · have h2':(((out++ps).length:Nat):Int) > 200:=by omega
       simp only [h2,h2',evz,Nat.reduceLT,apT]
     · have h2':¬ (((out++ps).length:Nat):Int) > 200:=by omega
       simp only [h2,h2',evz,Nat.reduceLT]
       exact i1 (by omega)
theorem impl_allPeaks:LIM F.impl_allPeaks [.agg [slc l],slc rs]=apT (allN l rs rs.length 0 []):=by
 have hcall:∀ r,callK prog Ev.A H LIM 20 F.impl_allPeaks [.agg [slc l],slc rs]=apT r→LIM F.impl_allPeaks [.agg [slc l],slc rs]=apT r:=fun r h=>by
  cases r with
  | inl x=>exact call_of rfl _ h
  | inr x=>exact call_of rfl _ h
 refine hcall _ ((impl_allPeaks.ev _ _ _).trans ?_)
 have loop:∀ n i f (out:List Equation),i+n=rs.length→n < f→out.length≤200→(∀ e∈out,sm 67108864 e) →
  impl_allPeaks.at0 20 f (impl_allPeaks.st0 (cells rs) (cells rs) rs.length (i:Nat) (cells l) (cells out))=apT (allN l rs n i out):=by
  intro n
  induction n with
  | zero =>
    intro i f out hj hf ho hso
    obtain ⟨f,rfl⟩:∃ x,f=x+1:=⟨f - 1,by omega⟩
    obtain rfl:i=rs.length:=by omega
    simp only [impl_allPeaks.next0,impl_allPeaks.round0,evz,Nat.reduceLT,Nat.lt_irrefl,allN,apT]
  | succ n ih =>
    intro i f out hj hf ho hso
    obtain ⟨f,rfl⟩:∃ x,f=x+1:=⟨f - 1,by omega⟩
    have h:i < rs.length:=by omega
    have hlk:rs[i]?=some rs[i]:=List.getElem?_eq_getElem h
    have hrow:=impl_allPeaks_row ok hr hl (N:=20) (by omega) (impl_allPeaks.at0 20 f) h rs.length 0 20 out (by omega) (by omega) ho
    simp only [impl_allPeaks.next0,impl_allPeaks.round0,evz,Nat.reduceLT,h,hlk,enc_Equation]
    refine hrow.trans ?_
    rw [allN]
    cases hro:rowN l rs i rs.length 0 out with
    | inr c=>rfl
    | inl o' =>
      obtain ⟨q1,q2⟩:=rowN_le ho hso hro
      exact ih (i+1) f o' (by omega) (by omega) q1 q2
 have:=loop rs.length 0 20 [] (by omega) (by omega) (by simp) (by simp)
 simp only [evz,Nat.reduceLT]
 exact this
theorem spec_l9All_row {N:Nat} (hN:20≤N) (L0:St→R) {i:Nat} (hi:i < rs.length):∀ n j f (out:List Equation),j+n=rs.length→n < f→out.length≤200 →
 spec_l9All.at2 N L0 f (spec_l9All.st2 (cells l) (cells rs) (i:Nat) (j:Nat) (cells out)) =
  match rowN l rs i n j out with
  | .inr c=>apT (.inr c)
  | .inl o'=>L0 (spec_l9All.st0 (cells l) (cells rs) ((i+1:Nat):Int) (cells o')):=by
 intro n
 induction n with
 | zero =>
   intro j f out hj hf ho
   obtain ⟨f,rfl⟩:∃ x,f=x+1:=⟨f - 1,by omega⟩
   obtain rfl:j=rs.length:=by omega
   simp only [spec_l9All.next2,spec_l9All.round2,evz,Nat.reduceLT,Nat.lt_irrefl,rowN]
   rw [wrap_succ (by omega)]
 | succ n ih =>
   intro j f out hj hf ho
   obtain ⟨f,rfl⟩:∃ x,f=x+1:=⟨f - 1,by omega⟩
   have h:j < rs.length:=by omega
   have hpk:=spec_l9Peaks ok (hr _ (List.getElem_mem hi)) (hr _ (List.getElem_mem h)) (decide (i=j))
   have hlo:=(hr _ (List.getElem_mem hi)).left.le
   have eb:decide ((i:Int)=(j:Int))=decide (i=j):=decide_eq_decide.2 (by omega)
   have on:oSl 2 (T.sl 2 [])=some []:=rfl
   rw [rowN,getE hi,getE h]
   cases hp:peaksR l rs[i] rs[j] (decide (i=j)) with
   | inr c =>
     rw [hp] at hpk
     have hc:=peaksR_code hp
     simp only [spec_l9All.next2,spec_l9All.round2,evz,Nat.reduceLT,h,hi,cells_pick h,cells_pick hi,eb,hpk,psT,hc,on,apT]
   | inl ps =>
     rw [hp] at hpk
     have hpl:=(peaksR_len hp).1
     have i1:=ih (j+1) f (out++ps) (by omega) (by omega)
     rw [cells_append] at i1
     simp only [spec_l9All.next2,spec_l9All.round2,evz,Nat.reduceLT,h,hi,cells_pick h,cells_pick hi,eb,hpk,psT,List.nil_append]
     rw [cond_pos (ble_ok (by rw [cells_length,cells_length,sz_Equation]; omega)),wrap_succ (by omega)]
     have hlen:(cells out++cells ps).length / 2=(out++ps).length:=by rw [← cells_append,cells_div]; rfl
     rw [hlen]
     by_cases h2:200 < (out++ps).length
     · have h2':(((out++ps).length:Nat):Int) > 200:=by omega
       simp only [h2,h2',evz,Nat.reduceLT,apT]
     · have h2':¬ (((out++ps).length:Nat):Int) > 200:=by omega
       simp only [h2,h2',evz,Nat.reduceLT]
       exact i1 (by omega)
theorem spec_l9All:LIM F.spec_l9All [.rref [slc l] 0,slc rs]=apT (allN l rs rs.length 0 []):=by
 have hcall:∀ r,callK prog Ev.A H LIM 20 F.spec_l9All [.rref [slc l] 0,slc rs]=apT r→LIM F.spec_l9All [.rref [slc l] 0,slc rs]=apT r:=fun r h=>by
  cases r with
  | inl x=>exact call_of rfl _ h
  | inr x=>exact call_of rfl _ h
 refine hcall _ ((spec_l9All.ev _ _ _).trans ?_)
 have loop:∀ n i f (out:List Equation),i+n=rs.length→n < f→out.length≤200→(∀ e∈out,sm 67108864 e) →
  spec_l9All.at0 20 f (spec_l9All.st0 (cells l) (cells rs) (i:Nat) (cells out))=apT (allN l rs n i out):=by
  intro n
  induction n with
  | zero =>
    intro i f out hj hf ho hso
    obtain ⟨f,rfl⟩:∃ x,f=x+1:=⟨f - 1,by omega⟩
    obtain rfl:i=rs.length:=by omega
    simp only [spec_l9All.next0,spec_l9All.round0,evz,Nat.reduceLT,Nat.lt_irrefl,allN,apT]
  | succ n ih =>
    intro i f out hj hf ho hso
    obtain ⟨f,rfl⟩:∃ x,f=x+1:=⟨f - 1,by omega⟩
    have h:i < rs.length:=by omega
    have hrow:=spec_l9All_row ok hr hl (N:=20) (by omega) (spec_l9All.at0 20 f) h rs.length 0 20 out (by omega) (by omega) ho
    simp only [spec_l9All.next0,spec_l9All.round0,evz,Nat.reduceLT,h]
    refine hrow.trans ?_
    rw [allN]
    cases hro:rowN l rs i rs.length 0 out with
    | inr c=>rfl
    | inl o' =>
      obtain ⟨q1,q2⟩:=rowN_le ho hso hro
      exact ih (i+1) f o' (by omega) (by omega) q1 q2
 exact loop rs.length 0 20 [] (by omega) (by omega) (by simp) (by simp)
end
end Ev.Ty
end
section
namespace Ev.Ty
open Go Ev
open Enc (enc)
open Sm (sm)
set_option linter.unusedSimpArgs false
set_option linter.unusedVariables false
def joinR (l:List Symbol) (rs:List Equation) (fuel:Nat) (e:Equation):IntResult :=
 if (norm l rs fuel 0 e.left).code≠0 then ⟨(norm l rs fuel 0 e.left).code,0⟩ else if (norm l rs fuel 0 e.right).code≠0 then ⟨(norm l rs fuel 0 e.right).code,0⟩ else
  if (norm l rs fuel 0 e.left).term=(norm l rs fuel 0 e.right).term then ⟨0,1⟩ else ⟨0,0⟩
theorem joinR_eq {l:List Symbol} {rs:List Equation} (h:rulesFault ⟨l⟩ rs=0) {e:Equation} (ha:TermOk l e.left) (hb:TermOk l e.right) {fuel:Nat} (hf:fuel≤200):areJoinedR ⟨l⟩ rs e.left e.right fuel=joinR l rs fuel e:=by
 have e1:∀ t,TermOk l t→normalFormR ⟨l⟩ rs t fuel=norm l rs fuel 0 t:=fun t ht=>by
  unfold normalFormR
  have h0:rewriteFault ⟨l⟩ rs t=0:=by
   unfold rewriteFault
   rw [if_neg (by simpa using h)]
   exact (termOk_iff _ _).2 ht
  have hr:inR (fuel:Int) 0 200=true:=inR_iff.2 (by omega)
  rw [if_neg (by simpa using h0),if_neg (by simp [hr]),Int.toNat_natCast]
 unfold areJoinedR joinR
 rw [e1 _ ha,e1 _ hb]
def unjN (l:List Symbol) (rs:List Equation) (fuel:Nat):List Equation→List Equation→List Equation ⊕ Int
 | [],out => .inl out
 | e::es,out=>if (joinR l rs fuel e).code=0 then if (joinR l rs fuel e).value=0 then unjN l rs fuel es (out++[e]) else unjN l rs fuel es out else .inr (joinR l rs fuel e).code
theorem joinR_tup {l:List Symbol} {rs:List Equation} {fuel:Nat} {e:Equation}:(if (norm l rs fuel 0 e.left).code≠0 then T.tup [.int .i64 0,.int .i64 (norm l rs fuel 0 e.left).code] else if (norm l rs fuel 0 e.right).code≠0 then .tup [.int .i64 0,.int .i64 (norm l rs fuel 0 e.right).code]
 else if (norm l rs fuel 0 e.left).term=(norm l rs fuel 0 e.right).term then .tup [.int .i64 1,.int .i64 0] else .tup [.int .i64 0,.int .i64 0]) = .tup [.int .i64 (joinR l rs fuel e).value,.int .i64 (joinR l rs fuel e).code]:=by
 unfold joinR
 split
 · rfl
 split
 · rfl
 split <;> rfl
theorem unjN_sub {l:List Symbol} {rs:List Equation} {fuel:Nat}:∀ {es out o':List Equation},unjN l rs fuel es out = .inl o'→o'.length≤out.length+es.length∧∀ e∈o',e∈out∨e∈es
 | [],out,o',h=>by cases h; exact ⟨by simp,fun e he => .inl he⟩
 | e::es,out,o',h=>by
   rw [unjN] at h
   split at h
   · split at h
     · obtain ⟨q1,q2⟩:=unjN_sub h
       refine ⟨by simp at q1 ⊢; omega,fun x hx => ?_⟩
       rcases q2 x hx with hx | hx
       · rcases List.mem_append.1 hx with hx | hx
         · exact .inl hx
         · rw [List.mem_singleton.1 hx]; exact .inr (by simp)
       · exact .inr (List.mem_cons_of_mem _ hx)
     · obtain ⟨q1,q2⟩:=unjN_sub h
       refine ⟨by simp at q1 ⊢; omega,fun x hx => ?_⟩
       rcases q2 x hx with hx | hx
       · exact .inl hx
       · exact .inr (List.mem_cons_of_mem _ hx)
   · cases h
theorem replAt_ok {l:List Symbol} {t u:List Int} (ht:TermOk l t) {p:Nat} (hp:p < t.length) (hu:TermOk l u) (h:(replAt l t p u).length≤24):TermOk l (replAt l t p u):=by
 obtain ⟨h1,h2,h3⟩:=sub_split ht hp
 have hs:skip (ar l) 1 (replAt l t p u)=some []:=by
  unfold replAt
  rw [List.append_assoc]
  refine skip_repl (y:=subAt l t p) (by rw [← h1]; exact h3) (by have:=skip_append (r:=t.drop (endAt l t p)) hu.skip; simpa using this) (t.take p) 1 ?_
  rw [← h1,List.take_append_drop]
  exact ht.skip
 refine ⟨?_,h,fun n hn => ?_,hs⟩
 · rcases Nat.eq_zero_or_pos (replAt l t p u).length with h | h
   · rw [List.eq_nil_of_length_eq_zero h] at hs; cases hs
   · exact h
 · unfold replAt at hn
   rcases List.mem_append.1 hn with hn | hn
   · rcases List.mem_append.1 hn with hn | hn
     · exact ht.node n (List.mem_of_mem_take hn)
     · exact hu.node n hn
   · exact ht.node n (List.mem_of_mem_drop hn)
theorem peakR_ok {l:List Symbol} (ok:SigOk ⟨l⟩) {o i:Equation} (ho:EqOk l o) (hi:EqOk l i) {p:Nat} (hp:p < o.left.length) (h0:(peakR l o i p).code=0):EqOk l (peakR l o i p).equation:=by
 have o1:=shift_ok hi.left hi.lowL
 have o2:=shift_ok hi.right hi.lowR
 have os:=subAt_ok ho.left hp
 have hsp:=unifR_spec os o1
 have hcd:=fun c=>unifR_code os o1 (c:=c)
 unfold peakR at h0 ⊢
 split
 · rename_i c hc
   rw [hc] at h0
   have:=hcd c hc
   simp only at h0
   omega
 · rename_i b hb
   rw [hb] at h0
   simp only at h0
   split at h0
   · cases h0
   rename_i c1
   split at h0
   · cases h0
   rename_i c2
   rw [if_neg c1,if_neg c2]
   have hub:=hsp.2 b hb
   have hwl:=applied_ge hub.mb (replAt l o.left p (shiftT i.right 6))
   exact plain_ok (hub.applied_ok ho.right (by omega)) (hub.applied_ok (replAt_ok ho.left hp o2 (by omega)) (by omega)) (by omega)
theorem placesN_ok {l:List Symbol} {o i:Equation} {same:Bool}:∀ {n k:Nat} {qs:List Nat},placesN l o i same n k = .inl qs→∀ q∈qs,(peakR l o i q).code=0
 | 0,k,qs,h=>by cases h; simp
 | n+1,k,qs,h=>by
   rw [placesN] at h
   split at h
   · exact placesN_ok h
   split at h
   · exact placesN_ok h
   split at h
   · rename_i h0
     split at h
     · rename_i ps hp
       cases h
       intro q hq
       rcases List.mem_cons.1 hq with rfl | hq
       · exact h0
       · exact placesN_ok hp q hq
     · cases h
   · cases h
theorem peaksR_ok {l:List Symbol} (ok:SigOk ⟨l⟩) {o i:Equation} (ho:EqOk l o) (hi:EqOk l i) {same:Bool} {ps:List Equation} (h:peaksR l o i same = .inl ps):∀ e∈ps,EqOk l e:=by
 unfold peaksR at h
 split at h
 · rename_i qs hp
   cases h
   intro e he
   obtain ⟨q,hq,rfl⟩:=List.mem_map.1 he
   have:=(placesN_mem hp).2 q hq
   exact peakR_ok ok ho hi (by omega) (placesN_ok hp q hq)
 · cases h
theorem rowN_ok {l:List Symbol} (ok:SigOk ⟨l⟩) {rs:List Equation} (hr:∀ e∈rs,EqOk l e) {i:Nat} (hi:i < rs.length):∀ {n j:Nat} {out o':List Equation},j+n=rs.length→(∀ e∈out,EqOk l e)→rowN l rs i n j out = .inl o'→∀ e∈o',EqOk l e
 | 0,j,out,o',hj,h2,e=>by cases e; exact h2
 | n+1,j,out,o',hj,h2,e=>by
   have hjl:j < rs.length:=by omega
   rw [rowN,getE hi,getE hjl] at e
   split at e
   · cases e
   · rename_i ps hp
     split at e
     · cases e
     · exact rowN_ok ok hr hi (by omega) (fun e he=>by
        rcases List.mem_append.1 he with he | he
        · exact h2 e he
        · exact peaksR_ok ok (hr _ (List.getElem_mem hi)) (hr _ (List.getElem_mem hjl)) hp e he) e
theorem allN_ok {l:List Symbol} (ok:SigOk ⟨l⟩) {rs:List Equation} (hr:∀ e∈rs,EqOk l e):∀ {n i:Nat} {out o':List Equation},i+n=rs.length→(∀ e∈out,EqOk l e)→allN l rs n i out = .inl o'→∀ e∈o',EqOk l e
 | 0,i,out,o',hi,h2,e=>by cases e; exact h2
 | n+1,i,out,o',hi,h2,e=>by
   rw [allN] at e
   split at e
   · cases e
   · rename_i o1 h1
     exact allN_ok ok hr (by omega) (rowN_ok ok hr (by omega) (by omega) h2 h1) e
def unT:List Equation ⊕ Int→R
 | .inl ps=>some (.agg [.int .i64 0,slc ps],[])
 | .inr c=>some (.agg [.int .i64 c,.sl 2 []],[])
section
variable {l:List Symbol} {rs:List Equation} (hrf:rulesFault ⟨l⟩ rs=0) (hls:sm 1048576 (Signature.mk l)) (hrs:sm 1048576 rs) {fuel:Nat} (hf:fuel≤200)
include hrf hls hrs hf
theorem impl_joined {e:Equation} (he:EqOk l e):Call F.impl_AreJoined [.agg [slc l],slc rs,slc e.left,slc e.right,.int .i64 fuel] (.agg [.int .i64 (joinR l rs fuel e).code,.int .i64 (joinR l rs fuel e).value]):=by
 have l1:=he.left.le
 have l2:=he.right.le
 have h:=impl_AreJoined ⟨l⟩ rs e.left e.right fuel hls hrs ⟨by omega,fun _ _=>trivial⟩ ⟨by omega,fun _ _=>trivial⟩
 rw [joinR_eq hrf he.left he.right hf,enc_IntResult] at h
 exact h
omit hls hrs in
theorem spec_joined {e:Equation} (he:EqOk l e):Call F.spec_l8Joined [.rref [slc l] 0,slc rs,slc e.left,slc e.right,.int .i64 fuel] (.tup [.int .i64 (joinR l rs fuel e).value,.int .i64 (joinR l rs fuel e).code]):=by
 obtain ⟨_,ok,q1,q2⟩:=rulesFault_ok hrf
 have h:=spec_l8Joined ok q2 q1 he.left he.right hf
 rw [joinR_tup] at h
 exact h
theorem impl_unj {ps:List Equation} (hps:∀ e∈ps,EqOk l e) (hpl:ps.length≤200):∀ n k f (X:List T) (out:List Equation),k+n=ps.length→n < f→X.length=ps.length*2→(∀ j,k*2≤j→X[j]?=(cells ps)[j]?)→out.length≤k →
 impl_UnjoinedOf.at0 300 f (impl_UnjoinedOf.st0 (cells rs) fuel ps.length (k:Nat) (cells l) 0 X (cells out))=unT (unjN l rs fuel (ps.drop k) out):=by
 intro n
 induction n with
 | zero =>
   intro k f X out hk hfl hXl hX ho
   obtain ⟨f,rfl⟩:∃ x,f=x+1:=⟨f - 1,by omega⟩
   obtain rfl:k=ps.length:=by omega
   rw [List.drop_of_length_le (Nat.le_refl _)]
   simp only [impl_UnjoinedOf.next0,impl_UnjoinedOf.round0,evz,Nat.reduceLT,Nat.lt_irrefl,unjN,unT]
 | succ n ih =>
   intro k f X out hk hfl hXl hX ho
   obtain ⟨f,rfl⟩:∃ x,f=x+1:=⟨f - 1,by omega⟩
   have h:k < ps.length:=by omega
   have g0:X[k*2]?=some (slc ps[k].left):=by
    rw [hX _ (Nat.le_refl _),get0 (l:=ps) (k:=2) rfl,List.getElem?_eq_getElem h]; rfl
   have g1:X[k*2+1]?=some (slc ps[k].right):=by
    rw [hX _ (by omega),get1 (l:=ps) (k:=2) rfl (by decide),List.getElem?_eq_getElem h]; rfl
   have hj:=(impl_joined hrf hls hrs hf (hps _ (List.getElem_mem h))).eq
   have hin:inB (k:Int) (X.length / 2)=true:=by rw [hXl,Nat.mul_div_cancel _ (by omega),inB_nat]; simpa using h
   have next:∀ u v (out':List Equation),out'.length≤k+1→impl_UnjoinedOf.at0 300 f (impl_UnjoinedOf.st0 (cells rs) fuel ps.length ((k+1:Nat):Int) (cells l) 0 ((X.set (k*2) u).set (k*2+1) v) (cells out'))=unT (unjN l rs fuel (ps.drop (k+1)) out'):=fun u v out' ho' =>
    ih (k+1) f _ out' (by omega) (by omega) (by simp [hXl]) (fun j hj=>by
     rw [List.getElem?_set_ne (by omega),List.getElem?_set_ne (by omega)]
     exact hX j (by omega)) ho'
   rw [List.drop_eq_getElem_cons h,unjN]
   simp only [impl_UnjoinedOf.next0,impl_UnjoinedOf.round0,evz,Nat.reduceLT,h,hin,g0,g1,hj,Int.toNat_natCast]
   rw [wrap_succ (by omega)]
   by_cases c0:(joinR l rs fuel ps[k]).code=0
   case neg=>simp only [c0,evz,Nat.reduceLT,unT]
   by_cases c1:(joinR l rs fuel ps[k]).value=0
   · simp only [c0,c1,evz,Nat.reduceLT]
     rw [cond_pos (ble_ok (by rw [cells_length,sz_Equation]; omega))]
     have:=next .hole .hole (out++[ps[k]]) (by simp; omega)
     rw [cells_append] at this
     exact this
   · simp only [c0,c1,evz,Nat.reduceLT]
     exact next _ _ out (by omega)
theorem spec_unj {ps:List Equation} (hps:∀ e∈ps,EqOk l e) (hpl:ps.length≤200):∀ n k f (X:List T) (out:List Equation),k+n=ps.length→n < f→X.length=ps.length*2→(∀ j,k*2≤j→X[j]?=(cells ps)[j]?)→out.length≤k →
 spec_l9Unjoined.at0 300 f (spec_l9Unjoined.st0 (cells l) (cells rs) fuel (k:Nat) X (cells out))=apT (unjN l rs fuel (ps.drop k) out):=by
 intro n
 induction n with
 | zero =>
   intro k f X out hk hfl hXl hX ho
   obtain ⟨f,rfl⟩:∃ x,f=x+1:=⟨f - 1,by omega⟩
   obtain rfl:k=ps.length:=by omega
   have hXd:X.length / 2=ps.length:=by rw [hXl,Nat.mul_div_cancel _ (by omega)]
   rw [List.drop_of_length_le (Nat.le_refl _)]
   simp only [spec_l9Unjoined.next0,spec_l9Unjoined.round0,evz,Nat.reduceLT,hXd,Nat.lt_irrefl,unjN,apT]
 | succ n ih =>
   intro k f X out hk hfl hXl hX ho
   obtain ⟨f,rfl⟩:∃ x,f=x+1:=⟨f - 1,by omega⟩
   have h:k < ps.length:=by omega
   have hXd:X.length / 2=ps.length:=by rw [hXl,Nat.mul_div_cancel _ (by omega)]
   have g0:X[k*2]?=some (slc ps[k].left):=by
    rw [hX _ (Nat.le_refl _),get0 (l:=ps) (k:=2) rfl,List.getElem?_eq_getElem h]; rfl
   have g1:X[k*2+1]?=some (slc ps[k].right):=by
    rw [hX _ (by omega),get1 (l:=ps) (k:=2) rfl (by decide),List.getElem?_eq_getElem h]; rfl
   have hj:=(spec_joined hrf hf (hps _ (List.getElem_mem h))).eq
   have hin:inB (k:Int) ps.length=true:=by rw [inB_nat]; simpa using h
   have next:∀ Y (out':List Equation),Y.length=X.length→(∀ j,k*2+2≤j→Y[j]?=X[j]?)→out'.length≤k+1→spec_l9Unjoined.at0 300 f (spec_l9Unjoined.st0 (cells l) (cells rs) fuel ((k+1:Nat):Int) Y (cells out'))=apT (unjN l rs fuel (ps.drop (k+1)) out'):=fun Y out' hYl hY ho' =>
    ih (k+1) f _ out' (by omega) (by omega) (by omega) (fun j hj=>by
     rw [hY j (by omega)]
     exact hX j (by omega)) ho'
   rw [List.drop_eq_getElem_cons h,unjN]
   simp only [spec_l9Unjoined.next0,spec_l9Unjoined.round0,evz,Nat.reduceLT,hXd,h,hin,g0,g1,hj,Int.toNat_natCast]
   rw [wrap_succ (by omega)]
   by_cases c0:(joinR l rs fuel ps[k]).code=0
   case neg=>simp only [c0,evz,Nat.reduceLT,apT]
   by_cases c1:(joinR l rs fuel ps[k]).value=0
   · simp only [c0,c1,evz,Nat.reduceLT,g0,g1]
     rw [cond_pos (ble_ok (by rw [cells_length,sz_Equation]; omega))]
     have:=next ((X.set (k*2) .hole).set (k*2+1) .hole) (out++[ps[k]]) (by simp) (fun j hj=>by
      rw [List.getElem?_set_ne (by omega),List.getElem?_set_ne (by omega)]) (by simp; omega)
     rw [cells_append] at this
     exact this
   · simp only [c0,c1,evz,Nat.reduceLT]
     exact next _ out rfl (fun j hj=>rfl) (by omega)
end
noncomputable def unjR (l:List Symbol) (rs:List Equation) (fuel:Nat):List Equation ⊕ Int:=match allN l rs rs.length 0 [] with
 | .inl ps=>unjN l rs fuel ps []
 | .inr c => .inr c
theorem rowN_code {l:List Symbol} {rs:List Equation} {i:Nat}:∀ {n j:Nat} {out:List Equation} {c:Int},rowN l rs i n j out = .inr c→c≠0
 | 0,j,out,c,e=>by cases e
 | n+1,j,out,c,e=>by
   rw [rowN] at e
   split at e
   · rename_i c' hp; cases e; exact peaksR_code hp
   · split at e
     · cases e; omega
     · exact rowN_code e
theorem allN_code {l:List Symbol} {rs:List Equation}:∀ {n i:Nat} {out:List Equation} {c:Int},allN l rs n i out = .inr c→c≠0
 | 0,i,out,c,e=>by cases e
 | n+1,i,out,c,e=>by
   rw [allN] at e
   split at e
   · rename_i c' hp; cases e; exact rowN_code hp
   · exact allN_code e
theorem spec_l9Unjoined {l:List Symbol} {rs:List Equation} (hrf:rulesFault ⟨l⟩ rs=0) (hls:sm 1048576 (Signature.mk l)) (hrs:sm 1048576 rs) {fuel:Nat} (hf:fuel≤200) :
 LIM F.spec_l9Unjoined [.rref [slc l] 0,slc rs,.int .i64 fuel]=apT (unjR l rs fuel):=by
 have hcall:∀ r,callK prog Ev.A H LIM 300 F.spec_l9Unjoined [.rref [slc l] 0,slc rs,.int .i64 fuel]=apT r→LIM F.spec_l9Unjoined [.rref [slc l] 0,slc rs,.int .i64 fuel]=apT r:=fun r h=>by
  cases r with
  | inl x=>exact call_of rfl _ h
  | inr x=>exact call_of rfl _ h
 refine hcall _ ((spec_l9Unjoined.ev _ _ _ _).trans ?_)
 obtain ⟨_,ok,q1,q2⟩:=rulesFault_ok hrf
 have ha:=spec_l9All ok q2 q1
 unfold unjR
 cases hp:allN l rs rs.length 0 [] with
 | inr c =>
   have hc:=allN_code hp
   rw [hp] at ha
   simp only [evz,Nat.reduceLT,ha,apT,hc,show oSl 2 (T.sl 2 [])=some [] from rfl]
 | inl ps =>
   rw [hp] at ha
   have hl:=allN_le (by simp) (by simp) hp
   have hok:=allN_ok ok q2 (by omega) (by simp) hp
   simp only [evz,Nat.reduceLT,ha,apT]
   have:=spec_unj hrf hls hrs hf hok hl.1 ps.length 0 300 (cells ps) [] (by omega) (by omega) (by rw [cells_length,sz_Equation]) (fun j _=>rfl) (by simp)
   rw [List.drop_zero] at this
   exact this
noncomputable def unjoinedOfR (s:Signature) (rs:List Equation) (fuel:Int):EquationsResult :=
 if rulesFault s rs≠0 then ⟨rulesFault s rs,[]⟩ else if inR fuel 0 200=false then ⟨3,[]⟩ else match unjR s.symbols rs fuel.toNat with
  | .inl ps=>⟨0,ps⟩
  | .inr c=>⟨c,[]⟩
theorem unjoinedOfR_sm (s:Signature) (rs:List Equation) (fuel:Int) (_:sm 1048576 s) (_:sm 1048576 rs):sm 67108864 (unjoinedOfR s rs fuel):=by
 unfold unjoinedOfR
 split
 · exact ⟨by simp,by simp⟩
 split
 · exact ⟨by simp,by simp⟩
 split
 · rename_i o hp
   unfold unjR at hp
   split at hp
   · rename_i ps h1
     obtain ⟨a1,a2⟩:=allN_le (by simp) (by simp) h1
     obtain ⟨b1,b2⟩:=unjN_sub hp
     refine ⟨by show o.length≤_; simp at b1; omega,fun e he => ?_⟩
     rcases b2 e he with h | h
     · simp at h
     · exact a2 e h
   · cases hp
 · exact ⟨by simp,by simp⟩
theorem spec_UnjoinedOf (s:Signature) (rs:List Equation) (fuel:Int) (hs:sm 1048576 s) (hr:sm 1048576 rs):Call F.spec_UnjoinedOf [.agg (enc s),slc rs,.int .i64 fuel] (.agg (enc (unjoinedOfR s rs fuel))):=by
 obtain ⟨l⟩:=s
 have hsl:l.length≤4294967296:=Nat.le_trans hs.1 (by omega)
 have hf:=(spec_RulesFault l hsl rs (sm_mono (by omega) hr)).eq
 show Call F.spec_UnjoinedOf [.agg [slc l],slc rs,.int .i64 fuel] _
 refine call_of rfl 0 ((spec_UnjoinedOf.ev _ _ _ _).trans ?_)
 simp only [evz,Nat.reduceLT,hf,unjoinedOfR,(spec_l1In _ _ _).eq]
 by_cases h:rulesFault ⟨l⟩ rs=0
 case neg=>simp only [h,evz,Nat.reduceLT,ne_eq,not_false_eq_true,enc_EquationsResult,slc_nil,sz_Equation]
 cases h1:inR fuel 0 200 with
 | false=>simp only [h,evz,Nat.reduceLT,ne_eq,not_true_eq_false,Bool.not_false,enc_EquationsResult,slc_nil,sz_Equation]
 | true =>
   have hp1:=inR_iff.1 h1
   obtain ⟨k,rfl⟩:∃ k:Nat,fuel=k:=⟨fuel.toNat,by omega⟩
   have hu:=spec_l9Unjoined h hs hr (fuel:=k) (by omega)
   simp only [h,evz,Nat.reduceLT,ne_eq,not_true_eq_false,Bool.not_true,reduceCtorEq,hu,Int.toNat_natCast]
   cases unjR l rs k with
   | inl o=>simp only [apT,evz,Nat.reduceLT,enc_EquationsResult]
   | inr c=>simp only [apT,evz,Nat.reduceLT,enc_EquationsResult,slc_nil,sz_Equation]; rfl
theorem impl_UnjoinedOf (s:Signature) (rs:List Equation) (fuel:Int) (hs:sm 1048576 s) (hr:sm 1048576 rs):Call F.impl_UnjoinedOf [.agg (enc s),slc rs,.int .i64 fuel] (.agg (enc (unjoinedOfR s rs fuel))):=by
 obtain ⟨l⟩:=s
 have hsl:l.length≤4294967296:=Nat.le_trans hs.1 (by omega)
 have hf:=(impl_RulesFault l hsl rs (sm_mono (by omega) hr)).eq
 show Call F.impl_UnjoinedOf [.agg [slc l],slc rs,.int .i64 fuel] _
 refine call_of rfl 300 ((impl_UnjoinedOf.ev _ _ _ _).trans ?_)
 simp only [evz,Nat.reduceLT,hf,unjoinedOfR,(impl_within _ _ _).eq]
 by_cases h:rulesFault ⟨l⟩ rs=0
 case neg=>simp only [h,evz,Nat.reduceLT,ne_eq,not_false_eq_true,enc_EquationsResult,slc_nil,sz_Equation]
 cases h1:inR fuel 0 200 with
 | false=>simp only [h,evz,Nat.reduceLT,ne_eq,not_true_eq_false,Bool.not_false,enc_EquationsResult,slc_nil,sz_Equation]
 | true =>
   have hp1:=inR_iff.1 h1
   obtain ⟨k,rfl⟩:∃ k:Nat,fuel=k:=⟨fuel.toNat,by omega⟩
   obtain ⟨_,ok,q1,q2⟩:=rulesFault_ok h
   have ha:=impl_allPeaks ok q2 q1
   simp only [h,evz,Nat.reduceLT,ne_eq,not_true_eq_false,Bool.not_true,reduceCtorEq,ha,Int.toNat_natCast]
   unfold unjR
   cases hp:allN l rs rs.length 0 [] with
   | inr c =>
     have hc:=allN_code hp
     simp only [evz,Nat.reduceLT,apT,hc,enc_EquationsResult,slc_nil,sz_Equation,show oSl 2 (T.sl 2 [])=some [] from rfl]
   | inl ps =>
     have hl:=allN_le (by simp) (by simp) hp
     have hok:=allN_ok ok q2 (by omega) (by simp) hp
     simp only [evz,Nat.reduceLT,apT]
     have:=impl_unj h hs hr (fuel:=k) (by omega) hok hl.1 ps.length 0 300 (cells ps) [] (by omega) (by omega) (by rw [cells_length,sz_Equation]) (fun j _=>rfl) (by simp)
     rw [List.drop_zero] at this
     refine Eq.trans this ?_
     cases unjN l rs k ps [] with
     | inl o=>rfl
     | inr c=>rfl
end Ev.Ty
end
section
namespace Ev.Ty
open Go Ev
open Enc (enc)
open Sm (sm)
set_option linter.unusedSimpArgs false
set_option linter.unusedVariables false
set_option maxRecDepth 100000
set_option maxHeartbeats 2000000
theorem laws_FnExactUnjoinedOf (s:Signature) (rs:List Equation) (fuel:Int) (h_s:sm maxLen s) (h_rs:sm maxLen rs) (h_fuel:(Sh.int .i64).wf fuel):Call F.laws_FnExactUnjoinedOf [.agg (enc s),slc rs,.int .i64 fuel] (.bool true):=by
 obtain ⟨r0,c0,g0,p0⟩:=laws_szSignature s.symbols 1048576 (by omega) (by omega) h_s
 by_cases n0:r0 < 0
 · exact call_of rfl 0 ((laws_FnExactUnjoinedOf.ev _ _ _ _ ).trans (by simp only [evz,Nat.reduceLT,c0.eq,n0]))
 obtain ⟨r1,c1,g1,p1⟩:=laws_szEquationS rs r0 (by omega) (by omega) h_rs
 by_cases n1:r1 < 0
 · exact call_of rfl 0 ((laws_FnExactUnjoinedOf.ev _ _ _ _ ).trans (by simp only [evz,Nat.reduceLT,c0.eq,n0,c1.eq,n1]))
 have q_s:=p0 (by omega)
 have s_s:=sm_mono (show 1048576≤4294967296 by omega) q_s
 have m_s:=sm_mono (show 1048576≤67108864 by omega) q_s
 have q_rs:=p1 (by omega)
 have s_rs:=sm_mono (show 1048576≤4294967296 by omega) q_rs
 have m_rs:=sm_mono (show 1048576≤67108864 by omega) q_rs
 have hi:Call F.impl_UnjoinedOf [.agg [slc s.symbols],slc rs,.int .i64 fuel] (.agg (enc (unjoinedOfR s rs fuel))):=impl_UnjoinedOf s rs fuel q_s q_rs
 have hp:Call F.spec_UnjoinedOf [.agg [slc s.symbols],slc rs,.int .i64 fuel] (.agg (enc (unjoinedOfR s rs fuel))):=spec_UnjoinedOf s rs fuel q_s q_rs
 have hv:=unjoinedOfR_sm s rs fuel q_s q_rs
 generalize unjoinedOfR s rs fuel=r at hi hp hv
 obtain ⟨w_code,w_list⟩:=r
 have hv2:=sm_mono (show 67108864≤4294967296 by omega) hv
 obtain ⟨x0_0,k0,f0,a0,b0⟩:=laws_markSignature s.symbols 1 (by omega) (by omega) m_s
 have l0:¬ k0 < 0:=by omega
 obtain ⟨x1_0,k1,f1,a1,b1,z1⟩:=laws_markEquationS rs k0 (by omega) (by omega) m_rs
 have l1:¬ k1 < 0:=by omega
 obtain ⟨y0,kr,fr,ar,br,zr⟩:=laws_markEquationsResult w_code w_list 1 (by omega) (by omega) hv
 have lr:¬ kr < 0:=by omega
 exact call_of rfl 0 ((laws_FnExactUnjoinedOf.ev _ _ _ _ ).trans (by simp only [evz,Nat.reduceLT,c0.eq,n0,c1.eq,n1,hi.eq,hp.eq,(laws_toSignature s.symbols s_s).eq,(laws_eqSignature s.symbols _  s_s).eq,(laws_toEquationS rs s_rs).eq,(laws_eqEquationS rs _  s_rs).eq,(laws_eqEquationsResult w_code w_list _ _  hv2).eq,f0,l0,f1,l1,fr,zr,lr,enc_EquationsResult,decide_true,Bool.not_true,cond_false]))
end Ev.Ty
end
