/- Steps on the way to RowPeaks: TyPeak, TyPeak2, TyPeakV, TyDraw, TyDrawT, TyTheory, TyDrawG, TyRead, TyPool, TyDrawB, TyPeaks, TyAllPeaks, TyUnjoined, TyDeriveP, TyDerive, TyNewC, TyOrient, TyDraw8, TyLParts, TyLRedexes, TyLSteps, TyLHolds, TyLPeaks. -/
import Derived.Test.YtgmpnljofoadnaaGreatDoorM5
set_option linter.unusedSectionVars false
set_option linter.unusedVariables false
set_option linter.unusedSimpArgs false
section
namespace Ev.Ty
open Go Ev
open Enc (enc)
open Sm (sm)
theorem q4l (t:List Int) (b:Int):(q3o t b).length=t.length:=by simp [q3o]
theorem qfb {t:List Int} {b:Int} {k:Nat} (h:k < t.length):q3o (t.take (k+1)) b=q3o (t.take k) b++[if t[k] < 0 then t[k] - b else t[k]]:=by
 rw [← List.take_append_getElem h]; unfold q3o; rw [List.map_append]; rfl
theorem q1t (t:List Int) (ht:t.length≤4096) (hr:∀ n∈t,-4611686018427387904≤n):Call F.q1t [slc t,.int .i64 6] (slc (q3o t 6)):=by
 refine q0v rfl (t.length+1) ((q1t.ev _ _ _).trans ?_)
 simp only [evz,Nat.reduceLT,(q2q t (by omega)).eq]
 have key:=q9n (n:=t.length) (f:=t.length+1) (S:=fun m k (o:List Int)=>q1t.at0 (t.length+1) m (q1t.st0 6 t.length (k:Nat) (cells o)))
  (st:=fun k=>q3o (t.take k) 6++t.drop k) (z:=some (slc (q3o t 6),[])) (fun m k h => ?_) (fun m => ?_) (by omega)
 · exact key
 · have hn:=hr t[k] (List.getElem_mem h)
   have e1:q3o (t.take (k+1)) 6++t.drop (k+1)=(q3o (t.take k) 6++t.drop k).set k (if t[k] < 0 then t[k] - 6 else t[k]):=by
    rw [qfb h,List.set_append_right _ _ (by rw [q4l]; simp; omega),List.drop_eq_getElem_cons h]
    rw [show k - (q3o (t.take k) 6).length=0 by rw [q4l]; simp; omega,List.set_cons_zero]
    simp
   obtain ⟨M,hM⟩:∃ M,M=q3o (t.take k) 6++t.drop k:=⟨_,rfl⟩
   have hMl:M.length=t.length:=by rw [hM]; simp [q4l]; omega
   have hMk:M[k]?=some t[k]:=by
    rw [hM,List.getElem?_append_right (by rw [q4l]; simp; omega)]
    simp [q4l,Nat.min_eq_left (Nat.le_of_lt h),List.getElem?_eq_getElem h]
   rw [e1,← hM]
   have hkM:k < M.length:=by omega
   have hkc:k*1+1≤(cells M).length:=by rw [q0n,q3c]; omega
   simp only [q1t.next0,q1t.round0,evz,Nat.reduceLT,h,hMk,hkM,q1j]
   by_cases hneg:t[k] < 0
   · rw [q1z (x:=t[k] - 6) (by omega)]
     have:=q8r hkM (t[k] - 6)
     simp only [hneg,evz,Nat.reduceLT,this,hkc]
     rw [q0o (by omega)]
   · have hs:M.set k t[k]=M:=qf5 hMk
     simp only [hneg,evz,Nat.reduceLT,hs]
     rw [q0o (by omega)]
 · rw [List.take_length,List.drop_of_length_le (Nat.le_refl _),List.append_nil]
   simp only [q1t.next0,q1t.round0,evz,Nat.reduceLT,Nat.lt_irrefl]
theorem q1s (t:List Int) (ht:t.length≤4096) (hr:∀ n∈t,-4611686018427387904≤n):Call F.q1s [slc t,.int .i64 6] (slc (q3o t 6)):=by
 refine q0v rfl (t.length+1) ((q1s.ev _ _ _).trans ?_)
 have key:=q9n (n:=t.length) (f:=t.length+1) (S:=fun m k (o:List Int)=>q1s.at0 (t.length+1) m (q1s.st0 (cells t) 6 (k:Nat) (cells o)))
  (st:=fun k=>q3o (t.take k) 6) (z:=some (slc (q3o t 6),[])) (fun m k h => ?_) (fun m => ?_) (by omega)
 · exact key
 · have hn:=hr t[k] (List.getElem_mem h)
   have hlk:t[k]?=some t[k]:=List.getElem?_eq_getElem h
   have hb:Nat.ble (((cells (q3o (t.take k) 6)).length+1)*8) (140737488355328*1)=true:=q3t (by rw [q0n,q3c,q4l]; simp; omega)
   rw [qfb h]
   simp only [q1s.next0,q1s.round0,evz,Nat.reduceLT,h,hlk,q1j]
   by_cases hneg:t[k] < 0
   · rw [q1z (x:=t[k] - 6) (by omega)]
     simp only [hneg,evz,Nat.reduceLT,q2j]
     rw [q0o (by omega),q1h hb]
   · simp only [hneg,evz,Nat.reduceLT,q2j]
     rw [q0o (by omega),q1h hb]
 · rw [List.take_length]
   simp only [q1s.next0,q1s.round0,evz,Nat.reduceLT,Nat.lt_irrefl]
theorem q97 {s:List Int} {n:Int}:idx (fun x=>decide (x=n)) s < 0↔n∉s:=by
 rcases q7m (fun x:Int=>decide (x=n)) s with ⟨h1,h2⟩ | ⟨i,hi,h1,h2,_⟩
 · exact ⟨fun _ hm=>by have:=h2 n hm; simp at this,fun _=>by omega⟩
 · exact ⟨fun h=>by omega,fun h=>absurd ((show s[i]=n by simpa using h2) ▸ List.getElem_mem hi) h⟩
theorem qig {s:List Int} {n:Int} (h:n∉s):idx (fun x=>decide (x=n)) (s++[n])=s.length:=by
 unfold idx
 have:(s++[n]).findIdx? (fun x=>decide (x=n))=some s.length:=by
  rw [List.findIdx?_append]
  have h0:s.findIdx? (fun x=>decide (x=n))=none:=by
   rw [List.findIdx?_eq_none_iff]
   intro x hx
   have:x≠n:=fun e=>h (e ▸ hx)
   simpa using this
  rw [h0]
  simp [List.findIdx?_cons]
 rw [this]
theorem qfx (s:List Int) (n:Int) : -1≤idx (fun x=>decide (x=n)) s∧idx (fun x=>decide (x=n)) s < s.length+1:=by
 rcases q7m (fun x:Int=>decide (x=n)) s with ⟨h1,_⟩ | ⟨i,hi,h1,_,_⟩ <;> omega
def plSt (seen t:List Int) (k:Nat):List Int × List Int:=((q2h seen (t.take k)).1++t.drop k,(q2h seen (t.take k)).2)
theorem qim (seen t:List Int) {k:Nat} (hk:k≤t.length):(plSt seen t k).1.length=t.length:=by
 have:=(q3i seen (t.take k)).1
 unfold plSt; simp only [List.length_append,this]; simp; omega
theorem qey (seen t:List Int) {k:Nat} (h:k < t.length):(plSt seen t k).1[k]?=some t[k]:=by
 have hl:=(q3i seen (t.take k)).1
 rw [List.length_take,Nat.min_eq_left (Nat.le_of_lt h)] at hl
 unfold plSt
 simp only
 rw [List.getElem?_append_right (by omega),hl,Nat.sub_self,List.drop_eq_getElem_cons h]; rfl
theorem qfg (seen t:List Int) (k:Nat):(plSt seen t k).2.length≤seen.length+k:=by
 have:=(q3i seen (t.take k)).2.1
 unfold plSt
 simp at this ⊢
 omega
theorem qfi (seen t:List Int) {k:Nat} (h:k < t.length):plSt seen t (k+1)=((plSt seen t k).1.set k (q86 (plSt seen t k).2 t[k]).1,(q86 (plSt seen t k).2 t[k]).2):=by
 have hl:=(q3i seen (t.take k)).1
 rw [List.length_take,Nat.min_eq_left (Nat.le_of_lt h)] at hl
 unfold plSt
 simp only
 rw [← List.take_append_getElem h,qad,List.set_append_right _ _ (by omega),hl,Nat.sub_self,List.drop_eq_getElem_cons h,List.set_cons_zero]
 simp [q2h]
theorem qfu (seen t:List Int):plSt seen t 0=(t,seen):=by simp [plSt,q2h]
theorem qit (seen t:List Int):plSt seen t t.length=q2h seen t:=by simp [plSt]
theorem qji (seen t:List Int) {k:Nat} (h:k < t.length) (h0:0≤t[k]):plSt seen t (k+1)=plSt seen t k:=by
 have e:=qfi seen t h
 have:q86 (plSt seen t k).2 t[k]=(t[k],(plSt seen t k).2):=by unfold q86; rw [if_pos h0]
 rw [e,this,qf5 (qey seen t h)]
theorem qis (seen t:List Int) {k:Nat} (h:k < t.length) (h0:¬ 0≤t[k]) (hn:t[k]∉(plSt seen t k).2) :
 plSt seen t (k+1)=((plSt seen t k).1.set k (-1 - ((plSt seen t k).2.length:Int)),(plSt seen t k).2++[t[k]]):=by
 rw [qfi seen t h]
 unfold q86
 rw [if_neg h0,if_pos (q97.2 hn)]
theorem qje (seen t:List Int) {k:Nat} (h:k < t.length) (h0:¬ 0≤t[k]) (hn:t[k]∈(plSt seen t k).2) :
 plSt seen t (k+1)=((plSt seen t k).1.set k (-1 - idx (fun x=>decide (x=t[k])) (plSt seen t k).2),(plSt seen t k).2):=by
 rw [qfi seen t h]
 unfold q86
 rw [if_neg h0,if_neg (fun e=>q97.1 e hn)]
theorem qlo (seen t r:List Int) (hs:seen.length≤4096) (ht:t.length≤4096) {N:Nat} (hN:t.length < N) (L0:St→R) :
 q0c.at2 N L0 N (q0c.st2 2 (0:Nat) t.length (0:Nat) (cells seen) (cells t) (cells r))=L0 (q0c.st0 2 (1:Nat) (cells (q2h seen t).2) (cells (q2h seen t).1) (cells r)):=by
 have key:=q9n (n:=t.length) (f:=N) (S:=fun m k (o:List Int × List Int)=>q0c.at2 N L0 m (q0c.st2 2 (0:Nat) t.length (k:Nat) (cells o.2) (cells o.1) (cells r)))
  (st:=fun k=>plSt seen t k) (z:=L0 (q0c.st0 2 (1:Nat) (cells (q2h seen t).2) (cells (q2h seen t).1) (cells r))) (fun m k h => ?_) (fun m => ?_) (by omega)
 · rw [qfu] at key; exact key
 · have hl:=qim seen t (Nat.le_of_lt h)
   have hg:=qey seen t h
   have hsl:=qfg seen t k
   have hp:=qji seen t h
   have hnw:=qis seen t h
   have hod:=qje seen t h
   generalize plSt seen t (k+1)=P at *
   generalize plSt seen t k=Q at *
   obtain ⟨M,s⟩:=Q
   simp only at hl hg hsl hp hnw hod
   have hkM:k < M.length:=by omega
   have hkc:k*1+1≤(cells M).length:=by rw [q0n,q3c]; omega
   have hct:=(q1u s t[k] (by omega)).eq
   have hix:=(q0e s t[k] (by omega)).eq
   have hix':=(q0e (s++[t[k]]) t[k] (by simp; omega)).eq
   have hrg:=qfx s t[k]
   by_cases h0:0≤t[k]
   · have h0':t[k] ≥ 0:=h0
     rw [hp h0]
     simp only [q0c.next2,q0c.round2,evz,Nat.reduceLT,h,hg,hkM,q1j,h0']
     rw [q0o (by omega)]
   · have h0':¬ t[k] ≥ 0:=h0
     by_cases hm:t[k]∈s
     · rw [hod h0 hm]
       rw [decide_eq_true hm] at hct
       have:=q8r hkM (-1 - idx (fun x=>decide (x=t[k])) s)
       simp only [q0c.next2,q0c.round2,evz,Nat.reduceLT,h,hg,hkM,q1j,h0',hct,hix,q1z (x := -1 - idx (fun x=>decide (x=t[k])) s) (by omega),this,hkc]
       rw [q0o (by omega)]
     · rw [hnw h0 hm]
       rw [decide_eq_false hm] at hct
       rw [qig hm] at hix'
       have:=q8r hkM (-1 - (s.length:Int))
       simp only [q0c.next2,q0c.round2,evz,Nat.reduceLT,h,hg,hkM,q1j,h0',hct,q2j,hix',q1z (x := -1 - (s.length:Int)) (by omega),this,hkc]
       rw [q0o (by omega),q1h (q3t (by rw [q0n,q3c]; omega))]
 · rw [qit]
   simp only [q0c.next2,q0c.round2,evz,Nat.reduceLT,Nat.lt_irrefl]
   rw [q0o (by omega)]
theorem qn3 (seen t r:List Int) (hs:seen.length≤4096) (ht:t.length≤4096) {N:Nat} (hN:t.length < N) (L0:St→R) :
 q0c.at1002 N L0 N (q0c.st1002 2 (1:Nat) t.length (0:Nat) (cells seen) (cells r) (cells t))=L0 (q0c.st0 2 (2:Nat) (cells (q2h seen t).2) (cells r) (cells (q2h seen t).1)):=by
 have key:=q9n (n:=t.length) (f:=N) (S:=fun m k (o:List Int × List Int)=>q0c.at1002 N L0 m (q0c.st1002 2 (1:Nat) t.length (k:Nat) (cells o.2) (cells r) (cells o.1)))
  (st:=fun k=>plSt seen t k) (z:=L0 (q0c.st0 2 (2:Nat) (cells (q2h seen t).2) (cells r) (cells (q2h seen t).1))) (fun m k h => ?_) (fun m => ?_) (by omega)
 · rw [qfu] at key; exact key
 · have hl:=qim seen t (Nat.le_of_lt h)
   have hg:=qey seen t h
   have hsl:=qfg seen t k
   have hp:=qji seen t h
   have hnw:=qis seen t h
   have hod:=qje seen t h
   generalize plSt seen t (k+1)=P at *
   generalize plSt seen t k=Q at *
   obtain ⟨M,s⟩:=Q
   simp only at hl hg hsl hp hnw hod
   have hkM:k < M.length:=by omega
   have hkc:k*1+1≤(cells M).length:=by rw [q0n,q3c]; omega
   have hct:=(q1u s t[k] (by omega)).eq
   have hix:=(q0e s t[k] (by omega)).eq
   have hix':=(q0e (s++[t[k]]) t[k] (by simp; omega)).eq
   have hrg:=qfx s t[k]
   by_cases h0:0≤t[k]
   · have h0':t[k] ≥ 0:=h0
     rw [hp h0]
     simp only [q0c.next1002,q0c.round1002,evz,Nat.reduceLT,h,hg,hkM,q1j,h0']
     rw [q0o (by omega)]
   · have h0':¬ t[k] ≥ 0:=h0
     by_cases hm:t[k]∈s
     · rw [hod h0 hm]
       rw [decide_eq_true hm] at hct
       have:=q8r hkM (-1 - idx (fun x=>decide (x=t[k])) s)
       simp only [q0c.next1002,q0c.round1002,evz,Nat.reduceLT,h,hg,hkM,q1j,h0',hct,hix,q1z (x := -1 - idx (fun x=>decide (x=t[k])) s) (by omega),this,hkc]
       rw [q0o (by omega)]
     · rw [hnw h0 hm]
       rw [decide_eq_false hm] at hct
       rw [qig hm] at hix'
       have:=q8r hkM (-1 - (s.length:Int))
       simp only [q0c.next1002,q0c.round1002,evz,Nat.reduceLT,h,hg,hkM,q1j,h0',hct,q2j,hix',q1z (x := -1 - (s.length:Int)) (by omega),this,hkc]
       rw [q0o (by omega),q1h (q3t (by rw [q0n,q3c]; omega))]
 · rw [qit]
   simp only [q0c.next1002,q0c.round1002,evz,Nat.reduceLT,Nat.lt_irrefl]
   rw [q0o (by omega)]
theorem qmr (a b:List Int) (ha:a.length≤1024) {N:Nat} (hN:1100≤N) (f:Nat) :
 q0c.at0 N (f+1) (q0c.st0 2 (0:Int) [] (cells a) (cells b))=q0c.at0 N f (q0c.st0 2 (1:Nat) (cells (q2h [] a).2) (cells (q2h [] a).1) (cells b)):=by
 have h2:=qlo [] a b (by simp) (by omega) (N:=N) (by omega) (q0c.at0 N f)
 rw [show ((0:Nat):Int)=0 from rfl,qdf] at h2
 rw [q0c.next0,q0c.round0]
 simp only [q4r,q3c]
 rw [q1h (by decide),q1h (by decide),q1h (by decide)]
 exact h2
theorem qm5 (seen a b:List Int) (hs:seen.length≤4096) (hb:b.length≤1024) {N:Nat} (hN:1100≤N) (f:Nat) :
 q0c.at0 N (f+1) (q0c.st0 2 (1:Nat) (cells seen) (cells a) (cells b))=q0c.at0 N f (q0c.st0 2 (2:Nat) (cells (q2h seen b).2) (cells a) (cells (q2h seen b).1)):=by
 have h3:=qn3 seen b a hs (by omega) (N:=N) (by omega) (q0c.at0 N f)
 rw [show ((0:Nat):Int)=0 from rfl] at h3
 rw [q0c.next0,q0c.round0]
 simp only [q4r,q3c]
 rw [q1h (by decide),q1h (by decide),qd5 (by decide),q1h (by decide)]
 exact h3
theorem qm8 (s a b:List Int) {N:Nat} (f:Nat):q0c.at0 N (f+1) (q0c.st0 2 (2:Nat) (cells s) (cells a) (cells b))=some (.tup [.agg [slc a,slc b],.bool (decide (s.length≤6))],[]):=by
 rw [q0c.next0,q0c.round0]
 simp only [q4r,q3c]
 rw [qd5 (by decide),show decide (((s.length:Nat):Int)≤6)=decide (s.length≤6) from decide_eq_decide.2 (by omega)]
 rfl
theorem q0c (a b:List Int) (ha:a.length≤1024) (hb:b.length≤1024):Call F.q0c [.agg [slc a,slc b]] (.tup [.agg [slc (qa7 ⟨a,b⟩).left,slc (qa7 ⟨a,b⟩).right],.bool (decide ((qa6 ⟨a,b⟩).length≤6))]):=by
 obtain ⟨m,hm⟩:∃ m,1100≤m:=⟨1100,Nat.le_refl _⟩
 refine q0v rfl (m+1+1+1) ((q0c.ev _ _ _).trans ?_)
 have ho:Call F.q6k [.agg [slc a,slc b]] (.agg [slc a,slc b]):=by
  refine q0v rfl 0 ((q6k.ev _ _ _).trans ?_)
  simp only [evz,Nat.reduceLT,(q2q a (by omega)).eq,(q2q b (by omega)).eq]
 simp only [evz,Nat.reduceLT,ho.eq]
 have hs1:=(q3i [] a).2.1
 have e0:=qmr a b ha (N:=m+1+1+1) (by omega) (m+1+1)
 have e1:=qm5 (q2h [] a).2 (q2h [] a).1 b (by simp at hs1; omega) hb (N:=m+1+1+1) (by omega) (m+1)
 exact e0.trans (e1.trans (qm8 _ _ _ m))
theorem q1f (a b:List Int) (ha:a.length≤1024) (hb:b.length≤1024):Call F.q1f [.rref [slc a,slc b] 0]
 (.tup [.agg [slc (if (qa6 ⟨a,b⟩).length≤6 then (qa7 ⟨a,b⟩).left else []),slc (if (qa6 ⟨a,b⟩).length≤6 then (qa7 ⟨a,b⟩).right else [])],.bool (decide ((qa6 ⟨a,b⟩).length≤6))]):=by
 refine q0v rfl 3000 ((q1f.ev _ _ _).trans ?_)
 simp only [evz,Nat.reduceLT,(q4p a (by omega)).eq,q60,← q2t]
 rw [q1h (q3t (by rw [q0n,q0n,q3c]; omega))]
 have htl:(a++b).length≤2048:=by simp; omega
 obtain ⟨t,hte⟩:∃ t,t=a++b:=⟨_,rfl⟩
 rw [← hte] at htl ⊢
 have key:=q9n (n:=t.length) (f:=3000) (S:=fun m k (o:List Int × List Int)=>q1f.at0 3000 m (q1f.st0 (cells a) (cells b) (k:Nat) (cells o.1) (cells o.2)))
  (st:=fun k=>plSt [] t k) (z:=some (.tup [.agg [slc (if (qa6 ⟨a,b⟩).length≤6 then (qa7 ⟨a,b⟩).left else []),slc (if (qa6 ⟨a,b⟩).length≤6 then (qa7 ⟨a,b⟩).right else [])],.bool (decide ((qa6 ⟨a,b⟩).length≤6))],[])) (fun m k h => ?_) (fun m => ?_) (by omega)
 · rw [qfu] at key; exact key
 · have hl:=qim [] t (Nat.le_of_lt h)
   have hg:=qey [] t h
   have hsl:=qfg [] t k
   have hp:=qji [] t h
   have hnw:=qis [] t h
   have hod:=qje [] t h
   generalize plSt [] t (k+1)=P at *
   generalize plSt [] t k=Q at *
   obtain ⟨M,s⟩:=Q
   simp only at hl hg hsl hp hnw hod
   have hkM:k < M.length:=by omega
   have hkc:k*1+1≤(cells M).length:=by rw [q0n,q3c]; omega
   have hix:=(q22 s t[k] (by simp at hsl; omega)).eq
   unfold rank at hix
   have hrg:=qfx s t[k]
   have hsl':s.length≤2048:=by simp at hsl; omega
   by_cases h0:0≤t[k]
   · have h0':t[k] ≥ 0:=h0
     rw [hp h0]
     simp only [q1f.next0,q1f.round0,evz,Nat.reduceLT,h,hg,hkM,q1j,h0']
     rw [q0o (by omega)]
   · have h0':¬ t[k] ≥ 0:=h0
     by_cases hm:t[k]∈s
     · rw [hod h0 hm]
       have:=q8r hkM (-1 - idx (fun x=>decide (x=t[k])) s)
       have hi:¬ idx (fun x=>decide (x=t[k])) s < 0:=fun e=>q97.1 e hm
       simp only [q1f.next0,q1f.round0,evz,Nat.reduceLT,h,hg,hkM,q1j,h0',hix,hi,q1z (x := -1 - idx (fun x=>decide (x=t[k])) s) (by omega),this,hkc]
       rw [q0o (by omega)]
     · rw [hnw h0 hm]
       have:=q8r hkM (-1 - (s.length:Int))
       have hi:idx (fun x=>decide (x=t[k])) s < 0:=q97.2 hm
       simp only [q1f.next0,q1f.round0,evz,Nat.reduceLT,h,hg,hkM,q1j,h0',hix,hi,q2j,q1z (x := -1 - (s.length:Int)) (by omega),this,hkc]
       rw [q0o (by omega),q1h (q3t (by rw [q0n,q3c]; omega))]
 · rw [qit,hte,qad]
   have hl1:=(q3i [] a).1
   have hl2:=(q3i (q2h [] a).2 b).1
   have es:qa6 ⟨a,b⟩=(q2h (q2h [] a).2 b).2:=rfl
   simp only [q1f.next0,q1f.round0,evz,Nat.reduceLT,List.length_append,hl1,hl2,Nat.lt_irrefl,es]
   by_cases h6:(q2h (q2h [] a).2 b).2.length≤6
   · have h6':¬ (((q2h (q2h [] a).2 b).2.length:Nat):Int) > 6:=by omega
     have c1:((((q2h [] a).1++(q2h (q2h [] a).2 b).1).take a.length).drop 0)=(q2h [] a).1:=by rw [List.drop_zero,← hl1,List.take_left]
     have c2:((((q2h [] a).1++(q2h (q2h [] a).2 b).1).take (a.length+b.length)).drop a.length)=(q2h (q2h [] a).2 b).1:=by
      rw [List.take_of_length_le (by rw [List.length_append]; omega),← hl1,List.drop_left]
     simp only [h6,h6',evz,Nat.reduceLT]
     rw [q1h (by simp; omega),qaf,c1,(q4p _ (by omega)).eq]
     simp only [evz,Nat.reduceLT]
     rw [q1h (by simp; omega),qaf,c2,(q4p _ (by omega)).eq]
     simp only [evz,Nat.reduceLT]
     rfl
   · have h6':(((q2h (q2h [] a).2 b).2.length:Nat):Int) > 6:=by omega
     simp only [h6,h6',evz,Nat.reduceLT,q4q]
theorem qbh {l:List Symbol}:∀ {n:Nat} {b:Bnd} {ps:List Pr} {c:Int},unif l n b ps=some (.inr c)→c=2∨c=4
 | 0,b,ps,c,h=>by cases h
 | n+1,b,[],c,h=>by cases h
 | n+1,b,p::ps,c,h=>by
   rw [unif] at h
   split at h
   · cases h; exact .inl rfl
   split at h
   · exact qbh h
   split at h
   · split at h
     · cases h; exact .inr rfl
     split at h
     · cases h; exact .inl rfl
     · exact qbh h
   split at h
   · split at h
     · cases h; exact .inr rfl
     split at h
     · cases h; exact .inl rfl
     · exact qbh h
   split at h
   · cases h; exact .inr rfl
   · exact qbh h
theorem qc5 {l:List Symbol} {a b:List Int} (ha:TermOk l a) (hb:TermOk l b) {c:Int} (h:qcz l a b = .inr c):c=2∨c=4:=by
 obtain ⟨⟨n,hn⟩,_⟩:=q8e ha hb
 rw [h] at hn
 exact qbh hn
theorem qe7 {l:List Symbol} (ok:SigOk ⟨l⟩) {t u:List Int} (ht:TermOk l t) (hu:TermOk l u) (p:Nat):∀ n∈q4d l t p u,-4611686018427387904≤n∧n≤4611686018427387904:=fun n hn=>by
 unfold q4d at hn
 rcases List.mem_append.1 hn with hn | hn
 · rcases List.mem_append.1 hn with hn | hn
   · exact ht.range ok n (List.mem_of_mem_take hn)
   · exact hu.range ok n hn
 · exact ht.range ok n (List.mem_of_mem_drop hn)
section
variable {l:List Symbol} (ok:SigOk ⟨l⟩)
include ok
theorem q5z {o i:Equation} (ho:EqOk l o) (hi:EqOk l i) {p:Nat} (hp:p < o.left.length):Call F.q5z [.agg [slc l],.agg [slc o.left,slc o.right],.agg [slc i.left,slc i.right],.int .i64 p] (.agg (enc (q7f l o i p))):=by
 refine q0v rfl 0 ((q5z.ev _ _ _ _ _ _ _).trans ?_)
 have l1:=ho.left.le
 have l2:=ho.right.le
 have l3:=hi.left.le
 have l4:=hi.right.le
 have s1:=(q1t i.left (by omega) (fun n hn=>(hi.left.range ok n hn).1)).eq
 have s2:=(q1t i.right (by omega) (fun n hn=>(hi.right.range ok n hn).1)).eq
 have o1:=q8z hi.left hi.lowL
 have o2:=q8z hi.right hi.lowR
 have os:=qag ho.left hp
 have hsub:=(q4n ok ho.left hp).eq
 have hu:=q0g ok os o1
 have hrp:=(q6b ok ho.left hp (q3o i.right 6) (by rw [q4l]; omega)).eq
 have hrl:=qct (l:=l) (t:=o.left) (p:=p) (by_:=q3o i.right 6)
 rw [q4l] at hrl
 simp only [evz,Nat.reduceLT,s1,s2,hsub,hu,q7f]
 have hsp:=q8e os o1
 have hcd:=fun c=>qc5 os o1 (c:=c)
 generalize qcz l (q3e l o.left p) (q3o i.left 6)=u at *
 cases u with
 | inr c =>
   have hc:¬ c=0:=by rcases hcd c rfl with h | h <;> omega
   simp only [uT,evz,Nat.reduceLT,hc,q21,q4q]
   rfl
 | inl b =>
   have hb:=hsp.2 b rfl
   have hbl:=hb.le
   have hbo:=hb.mb.ok (by omega)
   simp only [uT,evz,Nat.reduceLT,hrp]
   have hge:=q8c hb.mb (q4d l o.left p (q3o i.right 6))
   have a1:=(q0k b.1 b.2 hbo o.right (by omega) (ho.right.range ok)).eq
   have a2:=(q0k b.1 b.2 hbo (q4d l o.left p (q3o i.right 6)) (by omega) (qe7 ok ho.left o2 p)).eq
   generalize q4d l o.left p (q3o i.right 6)=w at *
   generalize q03 b.1 b.2 o.right=x at *
   generalize q03 b.1 b.2 w=y at *
   by_cases c1:24 < w.length
   · have c1':(w.length:Int) > 24:=by omega
     have c2:24 < x.length∨24 < y.length := .inr (by omega)
     simp only [c1',c2,evz,Nat.reduceLT,q21,q4q]
   have c1':¬ (w.length:Int) > 24:=by omega
   simp only [c1',evz,Nat.reduceLT,a1,a2]
   by_cases c2:24 < x.length
   · have c2':(x.length:Int) > 24:=by omega
     simp only [c2,c2',true_or,evz,Nat.reduceLT,q21,q4q]
   by_cases c3:24 < y.length
   · have c2':¬ (x.length:Int) > 24:=by omega
     have c3':(y.length:Int) > 24:=by omega
     simp only [c3,c2',c3',or_true,evz,Nat.reduceLT,q21,q4q]
   have c2':¬ (x.length:Int) > 24:=by omega
   have c3':¬ (y.length:Int) > 24:=by omega
   have hpl:=(q0c x y (by omega) (by omega)).eq
   simp only [c2,c3,c2',c3',or_self,evz,Nat.reduceLT,hpl]
   by_cases c4:(qa6 ⟨x,y⟩).length≤6
   · have c4':¬ 6 < (qa6 ⟨x,y⟩).length:=by omega
     simp only [c4,c4',evz,Nat.reduceLT,Bool.not_true,q21]
   · have c4':6 < (qa6 ⟨x,y⟩).length:=by omega
     simp only [c4,c4',evz,Nat.reduceLT,Bool.not_false,q21,q4q]
theorem q4x {o i:Equation} (ho:EqOk l o) (hi:EqOk l i) {p:Nat} (hp:p < o.left.length):Call F.q4x [.rref [slc l] 0,.rref [slc o.left,slc o.right] 0,.rref [slc i.left,slc i.right] 0,.int .i64 p]
 (.tup [.agg [slc (q7f l o i p).equation.left,slc (q7f l o i p).equation.right],.int .i64 (q7f l o i p).code]):=by
 refine q0v rfl 0 ((q4x.ev _ _ _ _ _ _ _).trans ?_)
 have l1:=ho.left.le
 have l2:=ho.right.le
 have l3:=hi.left.le
 have l4:=hi.right.le
 have s1:=(q1s i.left (by omega) (fun n hn=>(hi.left.range ok n hn).1)).eq
 have s2:=(q1s i.right (by omega) (fun n hn=>(hi.right.range ok n hn).1)).eq
 have o1:=q8z hi.left hi.lowL
 have o2:=q8z hi.right hi.lowR
 have os:=qag ho.left hp
 have hsub:=(q64 ok ho.left hp).eq
 have hu:=q1d ok os o1
 have hrp:=(q5x ok ho.left hp (q3o i.right 6) (by rw [q4l]; omega)).eq
 have hrl:=qct (l:=l) (t:=o.left) (p:=p) (by_:=q3o i.right 6)
 rw [q4l] at hrl
 simp only [evz,Nat.reduceLT,s1,s2,hsub,hu,q7f]
 have hsp:=q8e os o1
 have hcd:=fun c=>qc5 os o1 (c:=c)
 generalize qcz l (q3e l o.left p) (q3o i.left 6)=u at *
 cases u with
 | inr c =>
   have hc:¬ c=0:=by rcases hcd c rfl with h | h <;> omega
   simp only [uT,evz,Nat.reduceLT,hc,q21,q4q]
   rfl
 | inl b =>
   have hb:=hsp.2 b rfl
   have hbl:=hb.le
   have hbo:=hb.mb.ok (by omega)
   simp only [uT,evz,Nat.reduceLT,hrp]
   have hge:=q8c hb.mb (q4d l o.left p (q3o i.right 6))
   have a1:=(q19 b.1 b.2 hbo o.right (by omega) (ho.right.range ok)).eq
   have a2:=(q19 b.1 b.2 hbo (q4d l o.left p (q3o i.right 6)) (by omega) (qe7 ok ho.left o2 p)).eq
   generalize q4d l o.left p (q3o i.right 6)=w at *
   generalize q03 b.1 b.2 o.right=x at *
   generalize q03 b.1 b.2 w=y at *
   simp only [evz,Nat.reduceLT,a1,a2]
   by_cases c2:24 < x.length
   · have c2':(x.length:Int) > 24:=by omega
     simp only [c2,c2',true_or,evz,Nat.reduceLT,q21,q4q]
   by_cases c3:24 < y.length
   · have c2':¬ (x.length:Int) > 24:=by omega
     have c3':(y.length:Int) > 24:=by omega
     simp only [c3,c2',c3',or_true,evz,Nat.reduceLT,q21,q4q]
   have c2':¬ (x.length:Int) > 24:=by omega
   have c3':¬ (y.length:Int) > 24:=by omega
   have hpl:=(q1f x y (by omega) (by omega)).eq
   simp only [c2,c3,c2',c3',or_self,evz,Nat.reduceLT,hpl]
   by_cases c4:(qa6 ⟨x,y⟩).length≤6
   · have c4':¬ 6 < (qa6 ⟨x,y⟩).length:=by omega
     simp only [c4,c4',evz,Nat.reduceLT,Bool.not_true,q21]
   · have c4':6 < (qa6 ⟨x,y⟩).length:=by omega
     simp only [c4,c4',evz,Nat.reduceLT,Bool.not_false,q21,q4q]
end
noncomputable def q6g (s:Signature) (o i:Equation) (p:Int):EquationResult :=
 if q3p s [o,i]≠0 then ⟨q3p s [o,i],⟨[],[]⟩⟩ else if inR p 0 (o.left.length - 1)=false then ⟨3,⟨[],[]⟩⟩ else if o.left.getD p.toNat 0 < 0 then ⟨1,⟨[],[]⟩⟩ else q7f s.symbols o i p.toNat
theorem qja {o i:Equation} (ho:sm 1048576 o) (hi:sm 1048576 i):sm 4294967296 [o,i]:=⟨by simp,fun x hx=>by
 rcases List.mem_cons.1 hx with rfl | hx
 · exact q38 (by omega) ho
 · rw [List.mem_singleton.1 hx]; exact q38 (by omega) hi⟩
theorem qu1 {l:List Symbol} {o i:Equation} {p:Nat}:sm 67108864 (q7f l o i p):=by
 unfold q7f
 split
 · exact ⟨⟨by simp,by simp⟩,⟨by simp,by simp⟩⟩
 split
 · exact ⟨⟨by simp,by simp⟩,⟨by simp,by simp⟩⟩
 split
 · exact ⟨⟨by simp,by simp⟩,⟨by simp,by simp⟩⟩
 · rename_i b _ h _
   refine ⟨⟨?_,fun _ _=>trivial⟩,⟨?_,fun _ _=>trivial⟩⟩
   · show (q2h _ _).1.length≤_
     rw [(q3i _ _).1]
     show (q03 _ _ _).length≤_
     omega
   · show (q2h _ _).1.length≤_
     rw [(q3i _ _).1]
     show (q03 _ _ _).length≤_
     omega
theorem q6c (s:Signature) (o i:Equation) (p:Int) (hs:sm 1048576 s) (ho:sm 1048576 o) (hi:sm 1048576 i):Call F.q6c [.agg (enc s),.agg (enc o),.agg (enc i),.int .i64 p] (.agg (enc (q6g s o i p))):=by
 obtain ⟨l⟩:=s
 have hsl:l.length≤4294967296:=Nat.le_trans hs.1 (by omega)
 have hol:o.left.length≤1048576:=ho.1.1
 have hf:LIM F.q41 [.agg [slc l],.sl 2 [slc o.left,slc o.right,slc i.left,slc i.right]]=some (.int .i64 (q3p ⟨l⟩ [o,i]),[]):=(q41 l hsl [o,i] (qja ho hi)).eq
 show Call F.q6c [.agg [slc l],.agg [slc o.left,slc o.right],.agg [slc i.left,slc i.right],.int .i64 p] _
 refine q0v rfl 0 ((q6c.ev _ _ _ _ _ _ _).trans ?_)
 simp only [evz,Nat.reduceLT,hf,q6g,q1z (x:=(o.left.length:Int) - 1) (by omega),(q3x _ _ _).eq]
 by_cases h:q3p ⟨l⟩ [o,i]=0
 case neg=>simp only [h,evz,Nat.reduceLT,ne_eq,not_false_eq_true,q21,q4q]
 obtain ⟨_,ok,_,q2⟩:=q85 h
 have q2o:=q2 o (by simp)
 have q2i:=q2 i (by simp)
 cases h1:inR p 0 (o.left.length - 1) with
 | false=>simp only [h,evz,Nat.reduceLT,ne_eq,not_true_eq_false,Bool.not_false,q21,q4q]
 | true =>
   have hp1:=q6y.1 h1
   obtain ⟨a,rfl⟩:∃ a:Nat,p=a:=⟨p.toNat,by omega⟩
   have ha:a < o.left.length:=by omega
   have hlk:o.left[a]?=some o.left[a]:=List.getElem?_eq_getElem ha
   have hd:o.left.getD a 0=o.left[a]:=q7p ha
   have hpk:=(q5z ok q2o q2i ha).eq
   rw [q21] at hpk
   simp only [h,evz,Nat.reduceLT,ne_eq,not_true_eq_false,Bool.not_true,ha,hlk,q1j,hd,reduceCtorEq,hpk]
   by_cases h3:o.left[a] < 0 <;> simp only [h3,evz,Nat.reduceLT,q21,q4q]
theorem q6h (s:Signature) (o i:Equation) (p:Int) (hs:sm 1048576 s) (ho:sm 1048576 o) (hi:sm 1048576 i):Call F.q6h [.agg (enc s),.agg (enc o),.agg (enc i),.int .i64 p] (.agg (enc (q6g s o i p))):=by
 obtain ⟨l⟩:=s
 have hsl:l.length≤4294967296:=Nat.le_trans hs.1 (by omega)
 have hol:o.left.length≤1048576:=ho.1.1
 have hf:LIM F.q45 [.agg [slc l],.sl 2 [slc o.left,slc o.right,slc i.left,slc i.right]]=some (.int .i64 (q3p ⟨l⟩ [o,i]),[]):=(q45 l hsl [o,i] (qja ho hi)).eq
 have h2:Call F.q7y [.rref [slc l] 0,.rref [slc o.left,slc o.right] 0,.rref [slc i.left,slc i.right] 0] (.int .i64 (q3p ⟨l⟩ [o,i])):=by
  refine q0v rfl 0 ((q7y.ev _ _ _ _ _ _).trans ?_)
  simp only [evz,Nat.reduceLT,hf]
 show Call F.q6h [.agg [slc l],.agg [slc o.left,slc o.right],.agg [slc i.left,slc i.right],.int .i64 p] _
 refine q0v rfl 0 ((q6h.ev _ _ _ _ _ _ _).trans ?_)
 simp only [evz,Nat.reduceLT,h2.eq,q6g,(q77 o.left p (by omega)).eq]
 by_cases h:q3p ⟨l⟩ [o,i]=0
 case neg=>simp only [h,evz,Nat.reduceLT,ne_eq,not_false_eq_true,q21,q4q]
 obtain ⟨_,ok,_,q2⟩:=q85 h
 have q2o:=q2 o (by simp)
 have q2i:=q2 i (by simp)
 cases h1:inR p 0 (o.left.length - 1) with
 | false=>simp only [h,evz,Nat.reduceLT,ne_eq,not_true_eq_false,Bool.not_false,q21,q4q]
 | true =>
   have hp1:=q6y.1 h1
   obtain ⟨a,rfl⟩:∃ a:Nat,p=a:=⟨p.toNat,by omega⟩
   have ha:a < o.left.length:=by omega
   have hlk:o.left[a]?=some o.left[a]:=List.getElem?_eq_getElem ha
   have hd:o.left.getD a 0=o.left[a]:=q7p ha
   have hpk:=(q4x ok q2o q2i ha).eq
   simp only [h,evz,Nat.reduceLT,ne_eq,not_true_eq_false,Bool.not_true,ha,hlk,q1j,hd,reduceCtorEq,hpk]
   by_cases h3:o.left[a] < 0 <;> simp only [h3,evz,Nat.reduceLT,q21,q4q]
end Ev.Ty
end
section
namespace Ev.Ty
open Go Ev
set_option maxHeartbeats 1000000
section
variable {l:List Symbol} {z:Int} {tb:List (List Int)} (al:AlgOk l z tb) {vs:List Int} (hr:∀ n∈vs,0≤n∧n≤z - 1)
include al hr
theorem qiz:∀ {x:Tm},x.ok (ar l)→x.syms l.length→0≤x.eval z tb vs∧x.eval z tb vs≤z - 1
 | .v n,ok,hs=>by
   have hz:=al.size
   show 0≤vs.getD (-1 - n).toNat 0∧vs.getD (-1 - n).toNat 0≤z - 1
   rw [List.getD_eq_getElem?_getD]
   rcases Nat.lt_or_ge (-1 - n).toNat vs.length with h | h
   · rw [List.getElem?_eq_getElem h]; exact hr _ (List.getElem_mem h)
   · rw [List.getElem?_eq_none h]; show 0≤(0:Int)∧(0:Int)≤z - 1; omega
 | .k n,ok,hs=>by
   obtain ⟨y,rfl,h,h',r1,r2,r3,r4⟩:=qb1 al ok.1 hs
   rw [ok.2,Nat.pow_zero] at r1
   have h0:0 < tb[y].length:=by omega
   show 0≤(tb.getD (y:Int).toNat []).getD 0 0∧(tb.getD (y:Int).toNat []).getD 0 0≤z - 1
   rw [r3,show tb[y].getD 0 0=tb[y][0] by simp [h0]]
   exact r2 _ (List.getElem_mem h0)
 | .u n x,ok,hs=>by
   obtain ⟨y,rfl,h,h',r1,r2,r3,r4⟩:=qb1 al ok.1 hs.1
   obtain ⟨i1,i2⟩:=qiz (x:=x) ok.2.2 hs.2
   rw [ok.2.1,Nat.pow_one] at r1
   have h0:(x.eval z tb vs).toNat < tb[y].length:=by omega
   show 0≤(tb.getD (y:Int).toNat []).getD (x.eval z tb vs).toNat 0∧(tb.getD (y:Int).toNat []).getD (x.eval z tb vs).toNat 0≤z - 1
   rw [r3,show tb[y].getD (x.eval z tb vs).toNat 0=tb[y][(x.eval z tb vs).toNat] by simp [h0]]
   exact r2 _ (List.getElem_mem h0)
 | .b n x w,ok,hs=>by
   obtain ⟨y,rfl,h,h',r1,r2,r3,r4⟩:=qb1 al ok.1 hs.1
   obtain ⟨i1,i2⟩:=qiz (x:=x) ok.2.2.1 hs.2.1
   obtain ⟨j1,j2⟩:=qiz (x:=w) ok.2.2.2 hs.2.2
   rw [ok.2.1] at r1
   have hz:=al.size
   have h0:(x.eval z tb vs*z+w.eval z tb vs).toNat < tb[y].length:=by
    rw [r1]
    have:z=1∨z=2∨z=3:=by omega
    rcases this with rfl | rfl | rfl <;> simp <;> omega
   show 0≤(tb.getD (y:Int).toNat []).getD (x.eval z tb vs*z+w.eval z tb vs).toNat 0∧(tb.getD (y:Int).toNat []).getD (x.eval z tb vs*z+w.eval z tb vs).toNat 0≤z - 1
   rw [r3,show tb[y].getD (x.eval z tb vs*z+w.eval z tb vs).toNat 0=tb[y][(x.eval z tb vs*z+w.eval z tb vs).toNat] by simp [h0]]
   exact r2 _ (List.getElem_mem h0)
end
theorem qb7 {z:Int} {tb:List (List Int)} {vs vs':List Int}:∀ {x:Tm},(∀ n∈x.flat,n < 0→vs.getD (-1 - n).toNat 0=vs'.getD (-1 - n).toNat 0)→(a:Int→Nat)→x.ok a→x.eval z tb vs=x.eval z tb vs'
 | .v n,h,a,hx=>h n (List.mem_singleton.2 rfl) hx
 | .k n,h,a,hx=>rfl
 | .u n x,h,a,hx=>by
   show (tb.getD n.toNat []).getD (x.eval z tb vs).toNat 0=(tb.getD n.toNat []).getD (x.eval z tb vs').toNat 0
   rw [qb7 (x:=x) (fun m hm=>h m (List.mem_cons_of_mem _ hm)) a hx.2.2]
 | .b n x y,h,a,hx=>by
   show (tb.getD n.toNat []).getD (x.eval z tb vs*z+y.eval z tb vs).toNat 0=(tb.getD n.toNat []).getD (x.eval z tb vs'*z+y.eval z tb vs').toNat 0
   rw [qb7 (x:=x) (fun m hm=>h m (List.mem_cons_of_mem _ (List.mem_append_left _ hm))) a hx.2.2.1,qb7 (x:=y) (fun m hm=>h m (List.mem_cons_of_mem _ (List.mem_append_right _ hm))) a hx.2.2.2]
theorem qc4 {ρ:Int→Int} (hρ:∀ n,0≤n→ρ n=n) {a:Int→Nat}:∀ x:Tm,x.ok a→(x.inst fun n => .v (ρ n)).flat=x.flat.map ρ
 | .v n,h=>rfl
 | .k n,h=>by show [n]=[ρ n]; rw [hρ n h.1]
 | .u n x,h=>by
   show n::(x.inst fun n => .v (ρ n)).flat=ρ n::x.flat.map ρ
   rw [hρ n h.1,qc4 hρ x h.2.2]
 | .b n x y,h=>by
   show n::((x.inst fun n => .v (ρ n)).flat++(y.inst fun n => .v (ρ n)).flat)=ρ n::(x.flat++y.flat).map ρ
   rw [hρ n h.1,qc4 hρ x h.2.2.1,qc4 hρ y h.2.2.2,List.map_append]
def ren (S:List Int) (n:Int):Int:=if 0≤n then n else -1 - idx (fun x=>decide (x=n)) S
theorem qi4 {s S:List Int} {n:Int} (h:s <+: S) (hn:¬ idx (fun x=>decide (x=n)) s < 0):idx (fun x=>decide (x=n)) S=idx (fun x=>decide (x=n)) s:=by
 obtain ⟨r,rfl⟩:=h
 unfold idx at hn ⊢
 cases e:s.findIdx? (fun x=>decide (x=n)) with
 | none=>rw [e] at hn; exact absurd (by decide) hn
 | some i=>rw [List.findIdx?_append,e]; rfl
theorem qaz:∀ (seen t:List Int),seen <+: (q2h seen t).2
 | seen,[]=>List.prefix_refl _
 | seen,n::t=>by
   have ih:=qaz (q86 seen n).2 t
   have h1:seen <+: (q86 seen n).2:=by
    unfold q86
    split
    · exact List.prefix_refl _
    · split
      · exact List.prefix_append _ _
      · exact List.prefix_refl _
   exact h1.trans ih
theorem qds:∀ (seen t S:List Int),(q2h seen t).2 <+: S→(q2h seen t).1=t.map (ren S)∧∀ n∈t,n < 0→¬ idx (fun x=>decide (x=n)) S < 0
 | seen,[],S,_=>⟨rfl,fun n hn=>by cases hn⟩
 | seen,n::t,S,h=>by
   obtain ⟨ih1,ih2⟩:=qds (q86 seen n).2 t S h
   have hp:(q86 seen n).2 <+: S:=(qaz _ t).trans h
   have here:(q86 seen n).1=ren S n∧(n < 0→¬ idx (fun x=>decide (x=n)) S < 0):=by
    unfold q86 at hp ⊢
    unfold ren
    by_cases h0:0≤n
    · rw [if_pos h0,if_pos h0]; exact ⟨rfl,fun h=>by omega⟩
    · rw [if_neg h0] at hp ⊢
      rw [if_neg h0]
      by_cases h1:idx (fun x=>decide (x=n)) seen < 0
      · rw [if_pos h1] at hp ⊢
        have hs:=qig (s:=seen) (n:=n) (q97.1 h1)
        have e:=qi4 hp (n:=n) (by rw [hs]; omega)
        rw [e,hs]
        exact ⟨rfl,fun _=>by omega⟩
      · rw [if_neg h1] at hp ⊢
        have e:=qi4 hp h1
        rw [e]
        exact ⟨rfl,fun _=>h1⟩
   refine ⟨by show (q86 seen n).1::(q2h (q86 seen n).2 t).1=ren S n::t.map (ren S); rw [here.1,ih1],fun m hm h0 => ?_⟩
   rcases List.mem_cons.1 hm with rfl | hm
   · exact here.2 h0
   · exact ih2 m hm h0
section
variable {l:List Symbol} (ok:SigOk ⟨l⟩)
include ok
theorem qlx {z:Nat} {tb:List (List Int)} (hz:0 < z) {L R:List Int} (hL:TermOk l L) (hR:TermOk l R) (h6:(qa6 ⟨L,R⟩).length≤6)
 (h:∀ vs:List Int,(∀ n∈vs,0≤n∧n≤(z:Int) - 1)→(q3v l L).eval z tb vs=(q3v l R).eval z tb vs):q6u l z tb (qa7 ⟨L,R⟩)=true:=by
 have hp:=qoe (e:=⟨L,R⟩) hL hR h6
 generalize hS:qa6 ⟨L,R⟩=S at *
 have hS2:(q2h (q2h [] L).2 R).2=S:=hS
 obtain ⟨r1,r2⟩:=qds [] L S (by rw [← hS2]; exact qaz _ _)
 obtain ⟨r3,r4⟩:=qds (q2h [] L).2 R S (by rw [hS2]; exact List.prefix_refl _)
 have hρ:∀ n,0≤n→ren S n=n:=fun n hn=>by unfold ren; rw [if_pos hn]
 obtain ⟨xL,eL⟩:=q43 ok hL
 obtain ⟨xR,eR⟩:=q43 ok hR
 have hrn:∀ n,n < 0→ren S n < 0∨idx (fun x=>decide (x=n)) S < 0:=fun n hn=>by
  unfold ren; rw [if_neg (by omega)]; omega
 have low:∀ (t:List Int) (x:Tm),x.ok (ar l)→t=x.flat→(∀ n∈t,n < 0→¬ idx (fun x=>decide (x=n)) S < 0)→(x.inst fun n => .v (ren S n)).ok (ar l):=fun t x hx ht hn=>by
  have:∀ x:Tm,x.ok (ar l)→(∀ n∈x.flat,n < 0→¬ idx (fun x=>decide (x=n)) S < 0)→(x.inst fun n => .v (ren S n)).ok (ar l):=by
   intro x
   induction x with
   | v n=>intro h1 h2; have:=hrn n h1; have:=h2 n (List.mem_singleton.2 rfl) h1; show ren S n < 0; omega
   | k n=>intro h1 _; exact h1
   | u n x ih=>intro h1 h2; exact ⟨h1.1,h1.2.1,ih h1.2.2 fun m hm=>h2 m (List.mem_cons_of_mem _ hm)⟩
   | b n x y ihx ihy=>intro h1 h2; exact ⟨h1.1,h1.2.1,ihx h1.2.2.1 fun m hm=>h2 m (List.mem_cons_of_mem _ (List.mem_append_left _ hm)),ihy h1.2.2.2 fun m hm=>h2 m (List.mem_cons_of_mem _ (List.mem_append_right _ hm))⟩
  exact this x hx (by rw [← ht]; exact hn)
 have tL:q3v l (q2h [] L).1=(q3v l L).inst fun n => .v (ren S n):=q99 ok hp.left (low L _ xL eL r2) (by show (q2h [] L).1=_; rw [r1,qc4 hρ _ xL,← eL])
 have tR:q3v l (q2h (q2h [] L).2 R).1=(q3v l R).inst fun n => .v (ren S n):=q99 ok hp.right (low R _ xR eR r4) (by show (q2h (q2h [] L).2 R).1=_; rw [r3,qc4 hρ _ xR,← eR])
 refine qoo hz fun vs hv6 hvr => ?_
 show (q3v l (q2h [] L).1).eval z tb vs=(q3v l (q2h (q2h [] L).2 R).1).eval z tb vs
 let W:List Int:=(List.range 12).map fun (i:Nat)=>vs.getD (-1 - ren S (-1 - (i:Int))).toNat 0
 have hW:∀ n∈W,0≤n∧n≤(z:Int) - 1:=fun n hn=>by
  obtain ⟨i,_,rfl⟩:=List.mem_map.1 hn
  rw [List.getD_eq_getElem?_getD]
  rcases Nat.lt_or_ge (-1 - ren S (-1 - (i:Int))).toNat vs.length with h | h
  · rw [List.getElem?_eq_getElem h]; exact hvr _ (List.getElem_mem h)
  · rw [List.getElem?_eq_none h]; show 0≤(0:Int)∧(0:Int)≤(z:Int) - 1; omega
 have hWat:∀ (t:List Int),TermOk l t→∀ n∈t,n < 0→W.getD (-1 - n).toNat 0=(Tm.v (ren S n)).eval z tb vs:=fun t ht n hn h0=>by
  have hb:=q4e.1 (ht.node n hn)
  have hi:(-1 - n).toNat < 12:=by omega
  show ((List.range 12).map _).getD _ 0=vs.getD (-1 - ren S n).toNat 0
  rw [List.getD_eq_getElem?_getD,List.getElem?_map,List.getElem?_range hi]
  show vs.getD (-1 - ren S (-1 - (((-1 - n).toNat:Nat):Int))).toNat 0=_
  rw [show -1 - (((-1 - n).toNat:Nat):Int)=n by omega]
 rw [tL,tR,q9a (vs':=W) _ (fun n hn h0=>hWat L hL n (by rw [eL]; exact hn) h0) (ar l) xL,q9a (vs':=W) _ (fun n hn h0=>hWat R hR n (by rw [eR]; exact hn) h0) (ar l) xR]
 exact h W hW
theorem qsj {t:List Int} (ht:TermOk l t):(q3v l t).syms l.length:=by
 obtain ⟨h1,h2⟩:=q43 ok ht
 exact Tm.syms_of h1 (by rw [← h2]; exact ht.node)
theorem qhg {z:Nat} {tb:List (List Int)} (al:AlgOk l z tb) (hz:0 < z) {o i:Equation} (ho:EqOk l o) (hi:EqOk l i) (hho:q6u l z tb o=true) (hhi:q6u l z tb i=true) {p:Nat} (hp:p < o.left.length)
 {b:Bnd} (hb:qcz l (q3e l o.left p) (q3o i.left 6) = .inl b) (h1:(q03 b.1 b.2 o.right).length≤24) (h2:(q03 b.1 b.2 (q4d l o.left p (q3o i.right 6))).length≤24) {vs:List Int} (hv:∀ n∈vs,0≤n∧n≤(z:Int) - 1) :
 (TermOk l (q03 b.1 b.2 o.right)∧TermOk l (q03 b.1 b.2 (q4d l o.left p (q3o i.right 6))))∧(q3v l (q03 b.1 b.2 o.right)).eval z tb vs=(q3v l (q03 b.1 b.2 (q4d l o.left p (q3o i.right 6)))).eval z tb vs:=by
 have hsl:=q8z hi.left hi.lowL
 have hsr:=q8z hi.right hi.lowR
 have hsub:=qag ho.left hp
 obtain ⟨ub,heq⟩:=qlf ok hsub hsl hb
 have hbt:BindOk b.1 b.2∧∀ t∈b.2,TermOk l t:=⟨ub.mb.ok (by omega),ub.mb.tm⟩
 have hge:=q8c ub.mb (q4d l o.left p (q3o i.right 6))
 have hrep:=qqz ok ho.left hsr hp (by omega)
 have hA:=ub.applied_ok ho.right h1
 have hB:=ub.applied_ok hrep h2
 refine ⟨⟨hA,hB⟩,?_⟩
 obtain ⟨ol,eol⟩:=q43 ok ho.left
 obtain ⟨orr,eor⟩:=q43 ok ho.right
 obtain ⟨il,eil⟩:=q43 ok hi.left
 obtain ⟨ir,eir⟩:=q43 ok hi.right
 obtain ⟨sl,esl⟩:=q43 ok hsl
 obtain ⟨sr,esr⟩:=q43 ok hsr
 have sok:=qrk ok hbt
 let V:List Int:=(List.range 12).map fun (j:Nat)=>(subB l b.1 b.2 (-1 - (j:Int))).eval z tb vs
 have hVat:∀ (t:List Int),(∀ n∈t,n < 0 → -12≤n)→∀ n∈t,n < 0→V.getD (-1 - n).toNat 0=(subB l b.1 b.2 n).eval z tb vs:=fun t ht n hn h0=>by
  have hb:=ht n hn h0
  have hi:(-1 - n).toNat < 12:=by omega
  show ((List.range 12).map _).getD _ 0=_
  rw [List.getD_eq_getElem?_getD,List.getElem?_map,List.getElem?_range hi]
  show (subB l b.1 b.2 (-1 - (((-1 - n).toNat:Nat):Int))).eval z tb vs=_
  rw [show -1 - (((-1 - n).toNat:Nat):Int)=n by omega]
 have hV:∀ n∈V,0≤n∧n≤(z:Int) - 1:=fun n hn=>by
  obtain ⟨j,_,rfl⟩:=List.mem_map.1 hn
  refine qiz al hv (sok _ (by omega)) ?_
  unfold subB
  cases e:q40 b.1 b.2 (-1 - (-1 - (j:Int))) with
  | none=>exact trivial
  | some t =>
    have ht:=ub.mb.tm t (q5g e)
    show (qp8 l t).syms l.length
    rw [qty ok ht]
    exact qsj ok ht
 have twelve:∀ {t:List Int},TermOk l t→∀ n∈t,n < 0 → -12≤n:=fun ht n hn h0=>by rcases q4e.1 (ht.node n hn) with h | h <;> omega
 have inst_val:∀ {x:Tm},x.ok (ar l)→(∀ n∈x.flat,n < 0 → -12≤n)→(x.inst (subB l b.1 b.2)).eval z tb vs=x.eval z tb V:=fun {x} hx h=>q9a x (fun n hn h0=>hVat x.flat h n hn h0) (ar l) hx
 have six:∀ (U:List Int) (W:List Int) (e:Equation),(∀ n∈W,0≤n∧n≤(z:Int) - 1)→W.length=6→EqOk l e→q6u l z tb e=true→(∀ j:Nat,j < 6→U.getD j 0=W.getD j 0)→(q3v l e.left).eval z tb U=(q3v l e.right).eval z tb U:=fun U W e hW h6 he hh hj=>by
  obtain ⟨a1,a2⟩:=q43 ok he.left
  obtain ⟨b1,b2⟩:=q43 ok he.right
  have:=qpw hz hh h6 hW
  rw [qb7 (vs':=W) (x:=q3v l e.left) (fun n hn h0=>hj _ (by have:=he.lowL n (by rw [a2]; exact hn); omega)) (ar l) a1,qb7 (vs':=W) (x:=q3v l e.right) (fun n hn h0=>hj _ (by have:=he.lowR n (by rw [b2]; exact hn); omega)) (ar l) b1]
  exact this
 have hVl:V.length=12:=by show ((List.range 12).map _).length=12; simp
 have v1:=six V (V.take 6) o (fun n hn=>hV n (List.mem_of_mem_take hn)) (by rw [List.length_take,hVl]; rfl) ho hho (fun j hj=>by rw [List.getD_eq_getElem?_getD,List.getD_eq_getElem?_getD,List.getElem?_take,if_pos hj])
 have v2:=six (V.drop 6) (V.drop 6) i (fun n hn=>hV n (List.mem_of_mem_drop hn)) (by rw [List.length_drop,hVl]) hi hhi (fun j hj=>rfl)
 have shv:∀ (t:List Int),TermOk l t→TermOk l (q3o t 6)→(q3v l (q3o t 6)).eval z tb V=(q3v l t).eval z tb (V.drop 6):=fun t ht hts=>by
  obtain ⟨a1,a2⟩:=q43 ok ht
  have hρ:∀ n:Int,0≤n→(if n < 0 then n - 6 else n)=n:=fun n hn=>by rw [if_neg (by omega)]
  have e:=q99 ok hts (x:=(q3v l t).inst fun n => .v (if n < 0 then n - 6 else n)) (Tm.inst_ok (fun n hn=>by show (if n < 0 then n - 6 else n) < 0; rw [if_pos hn]; omega) a1) (by
   rw [qc4 hρ _ a1,← a2]; rfl)
  rw [e]
  refine q9a _ (fun n hn h0 => ?_) (ar l) a1
  show (V.drop 6).getD (-1 - n).toNat 0=V.getD (-1 - (if n < 0 then n - 6 else n)).toNat 0
  rw [if_pos h0,List.getD_eq_getElem?_getD,List.getD_eq_getElem?_getD,List.getElem?_drop,show 6+(-1 - n).toNat=(-1 - (n - 6)).toNat by omega]
 obtain ⟨y,C,c1,⟨rest,c2⟩,c3,c4⟩:=qph (z:=(z:Int)) (tb:=tb) (vs:=V) (q3v l o.left) p ol (by rw [← eol]; exact hp)
 have hat:At l o.left p y:=⟨c1,rest,by rw [eol]; exact c2⟩
 obtain ⟨_,_,a3,a4⟩:=hat.facts
 have ey:q3v l o.left=C y:=by
  have:(C y).flat=o.left:=by
   rw [(c3 y c1).2,← eol,← a3,← a4]
   exact qne ho.left hp
  exact (qj2 ol (c3 y c1).1).1 (by rw [this,← eol])
 have er:q3v l (q4d l o.left p (q3o i.right 6))=C (q3v l (q3o i.right 6)):=q99 ok hrep (c3 _ sr).1 (by
  unfold q4d; rw [(c3 _ sr).2,a3,← eol,← esr])
 have iy:y.inst (subB l b.1 b.2)=(q3v l (q3o i.left 6)).inst (subB l b.1 b.2):=by
  refine (qj2 (Tm.inst_ok sok c1) (Tm.inst_ok sok sl)).1 ?_
  rw [← q8l ok hbt y c1,← q8l ok hbt _ sl,← esl,← a4]
  exact heq
 have vy:y.eval z tb V=(q3v l (q3o i.right 6)).eval z tb V:=by
  rw [← inst_val c1 (by rw [← a4]; exact twelve hsub),iy,inst_val sl (by rw [← esl]; exact twelve hsl),shv _ hi.left hsl,v2,← shv _ hi.right hsr]
 have tA:q3v l (q03 b.1 b.2 o.right)=(q3v l o.right).inst (subB l b.1 b.2):=q99 ok hA (Tm.inst_ok sok orr) (by rw [← q8l ok hbt _ orr,← eor])
 obtain ⟨pr,epr⟩:=q43 ok hrep
 have tB:q3v l (q03 b.1 b.2 (q4d l o.left p (q3o i.right 6)))=(q3v l (q4d l o.left p (q3o i.right 6))).inst (subB l b.1 b.2):=q99 ok hB (Tm.inst_ok sok pr) (by rw [← q8l ok hbt _ pr,← epr])
 rw [tA,tB,inst_val orr (by rw [← eor]; exact twelve ho.right),inst_val pr (by rw [← epr]; exact twelve hrep),er,← c4 y _ vy,← ey,v1]
theorem qou {z:Nat} {tb:List (List Int)} (al:AlgOk l z tb) (hz:0 < z) {o i:Equation} (ho:EqOk l o) (hi:EqOk l i) (hho:q6u l z tb o=true) (hhi:q6u l z tb i=true) {p:Nat} (hp:p < o.left.length) (h:(q7f l o i p).code=0) :
 q6u l z tb (q7f l o i p).equation=true:=by
 unfold q7f at h ⊢
 cases hb:qcz l (q3e l o.left p) (q3o i.left 6) with
 | inr c =>
   rw [hb] at h
   simp only at h
   have:=qc5 (qag ho.left hp) (q8z hi.left hi.lowL) hb
   omega
 | inl b =>
   rw [hb] at h
   simp only at h ⊢
   by_cases c1:24 < (q03 b.1 b.2 o.right).length∨24 < (q03 b.1 b.2 (q4d l o.left p (q3o i.right 6))).length
   · rw [if_pos c1] at h; cases h
   rw [if_neg c1] at h ⊢
   by_cases c2:6 < (qa6 ⟨q03 b.1 b.2 o.right,q03 b.1 b.2 (q4d l o.left p (q3o i.right 6))⟩).length
   · rw [if_pos c2] at h; cases h
   rw [if_neg c2]
   have hT:=(qhg ok al hz ho hi hho hhi hp hb (by omega) (by omega) (vs:=[]) (by simp)).1
   exact qlx ok hz hT.1 hT.2 (by omega) fun vs hv=>(qhg ok al hz ho hi hho hhi hp hb (by omega) (by omega) hv).2
end
end Ev.Ty
end
section
namespace Ev.Ty
open Go Ev
open Enc (enc)
open Sm (sm)
def Drawn (code:List UInt8) (p c:Int) (P:T→Prop) (r:R):Prop:=∃ x p',r=some (x,[.agg [slc code,.int .i64 p']])∧p≤p'∧p'≤p+c∧P x
theorem q8y {code:List UInt8} {p c:Int} {P:T→Prop} {g:FuncId} {args:List T} (hx:X g=none) (n:Nat) (h:Drawn code p c P (q1m prog A H LIM n g args)):Drawn code p c P (LIM g args):=by
 obtain ⟨x,p',e,h⟩:=h
 exact ⟨x,p',qeq hx n e,h⟩
theorem Drawn.more {code:List UInt8} {p p1 c c1:Int} {P P1:T→Prop} {r:R} (h:Drawn code p1 c1 P1 r) (h1:p≤p1) (h2:p1+c1≤p+c) (hP:∀ x,P1 x→P x):Drawn code p c P r:=by
 obtain ⟨x,p',e,a,b,q⟩:=h
 exact ⟨x,p',e,by omega,by omega,hP x q⟩
theorem q5c {code:List UInt8} {p p' c:Int} {P:T→Prop} {x:T} (h1:p≤p'∧p'≤p+c) (h:P x):Drawn code p c P (some (x,[.agg [slc code,.int .i64 p']])):=⟨x,p',rfl,h1.1,h1.2,h⟩
theorem q7e {Q:R→Prop} {code:List UInt8} {p c:Int} {P:T→Prop} {r:R} {K:T × List T→R} (h:Drawn code p c P r)
 (k:∀ x p',p≤p'→p'≤p+c→P x→Q (K (x,[.agg [slc code,.int .i64 p']]))):Q (r.bind K):=by
 obtain ⟨x,p',rfl,a,b,q⟩:=h
 exact k x p' a b q
theorem q6x {σ:Type} {S:Nat→σ→R} {Q:R→Prop} (I:σ→Prop) (μ:σ→Nat) (step:∀ m s,I s→Q (S (m+1) s)∨∃ s',S (m+1) s=S m s'∧I s'∧μ s' < μ s):∀ f s,I s→μ s < f→Q (S f s):=by
 intro f
 induction f with
 | zero=>intro s _ h; omega
 | succ f ih =>
   intro s hi hm
   rcases step f s hi with h | ⟨s',e,hi',hm'⟩
   · exact h
   · rw [e]; exact ih s' hi' (by omega)
@[simp] theorem qsa (c:List T):oBx (.bx c)=some c:=Eq.trans rfl rfl
theorem qcg {a b:Int} (ha:0≤a) (hb:0 < b):0≤Int.tmod a b∧Int.tmod a b < b:=⟨Int.tmod_nonneg b ha,Int.tmod_lt_of_pos a hb⟩
abbrev src (code:List UInt8) (p:Int):T := .rref [slc code,.int .i64 p] 0
theorem qf0 (b:UInt8):(0:Int)≤(b.toNat:Int)∧(b.toNat:Int) < 256:=⟨by omega,by have:=b.toNat_lt; omega⟩
section
variable {code:List UInt8} (hc:code.length≤2097152)
include hc
theorem qo0 {p:Int} (hp:0≤p) (hl:0 < code.length):∃ i:Nat,Int.tmod p (code.length:Int)=i∧i < code.length:=by
 obtain ⟨h1,h2⟩:=qcg hp (show (0:Int) < (code.length:Int) by omega)
 exact ⟨(Int.tmod p (code.length:Int)).toNat,by omega,by omega⟩
theorem q1p (p n:Int) (hp:0≤p∧p≤1099511627776) :
 ∃ v:Int,LIM F.q1p [.rref [slc code,.int .i64 p] 0,.int .i64 n]=some (.int .i64 v,[.agg [slc code,.int .i64 (p+1)]])∧0≤v∧(1≤n→v < n):=by
 have e1:IntKind.wrap .i64 (p+1)=p+1:=q1z (by omega)
 have e2:IntKind.wrap .i64 (p+1 - 1)=p:=by rw [q1z (by omega)]; omega
 by_cases hn:n < 1
 · refine ⟨0,q8v rfl 0 ((q1p.ev _ _ _ _).trans ?_),by omega,by omega⟩
   simp only [evz,Nat.reduceLT,hn,e1]
 rw [Int.not_lt] at hn
 have hn0:¬ n=0:=by omega
 by_cases hl:code.length=0
 · obtain ⟨q1,q2⟩:=qcg (a:=p*7) (b:=n) (by omega) (by omega)
   refine ⟨Int.tmod (p*7) n,q8v rfl 0 ((q1p.ev _ _ _ _).trans ?_),q1,fun _=>q2⟩
   have z:((code.length:Nat):Int)=0:=by omega
   have z1:¬ n < 1:=by omega
   simp only [evz,Nat.reduceLT,z1,z,hn0,e1,e2,q1z (x:=p*7) (by omega)]
 have z1:¬ n < 1:=by omega
 obtain ⟨i,hi,hil⟩:=qo0 hc hp.1 (by omega)
 obtain ⟨j,hj,hjl⟩:=qo0 (code:=code) hc (p:=p+1) (by omega) (by omega)
 have b1:=qf0 code[i]
 have b2:=qf0 code[j]
 have hd:0≤Int.tdiv p code.length∧Int.tdiv p code.length≤p:=⟨Int.tdiv_nonneg hp.1 (by omega),Int.tdiv_le_self _ hp.1⟩
 have d1:¬ ((code.length:Nat):Int)=0:=by omega
 generalize hk:Int.tdiv p code.length=d at hd
 have w1:IntKind.wrap .i64 d=d:=q1z (by omega)
 have w2:IntKind.wrap .i64 (d*37)=d*37:=q1z (by omega)
 have w3:IntKind.wrap .i64 (code[i].toNat:Int)=(code[i].toNat:Int):=q1z (by omega)
 have w4:IntKind.wrap .i64 (code[j].toNat:Int)=(code[j].toNat:Int):=q1z (by omega)
 have w5:IntKind.wrap .i64 ((code[i].toNat:Int)+d*37)=(code[i].toNat:Int)+d*37:=q1z (by omega)
 have w6:IntKind.wrap .i64 (((code[i].toNat:Int)+d*37)*251)=((code[i].toNat:Int)+d*37)*251:=q1z (by omega)
 have w7:IntKind.wrap .i64 ((code[j].toNat:Int)*13)=(code[j].toNat:Int)*13:=q1z (by omega)
 have w8:IntKind.wrap .i64 (((code[i].toNat:Int)+d*37)*251+(code[j].toNat:Int)*13)=((code[i].toNat:Int)+d*37)*251+(code[j].toNat:Int)*13:=q1z (by omega)
 have w9:IntKind.wrap .i64 (((code[i].toNat:Int)+d*37)*251+(code[j].toNat:Int)*13+p)=((code[i].toNat:Int)+d*37)*251+(code[j].toNat:Int)*13+p:=q1z (by omega)
 by_cases hbig:n > 200
 · obtain ⟨q1,q2⟩:=qcg (a:=((code[i].toNat:Int)+d*37)*251+(code[j].toNat:Int)*13+p) (b:=n) (by omega) (by omega)
   refine ⟨_,q8v rfl 0 ((q1p.ev _ _ _ _).trans ?_),q1,fun _=>q2⟩
   simp only [evz,Nat.reduceLT,z1,d1,hn0,e1,e2,hi,hil,hj,hjl,List.getElem?_eq_getElem,qi2,hbig,hk,w1,w2,w3,w4,w5,w6,w7,w8,w9]
 · obtain ⟨q1,q2⟩:=qcg (a:=(code[i].toNat:Int)+d*37) (b:=n) (by omega) (by omega)
   refine ⟨_,q8v rfl 0 ((q1p.ev _ _ _ _).trans ?_),q1,fun _=>q2⟩
   simp only [evz,Nat.reduceLT,z1,d1,hn0,e1,e2,hi,hil,hj,hjl,List.getElem?_eq_getElem,qi2,hbig,hk,w1,w2,w3,w4,w5,w6,w7,w8,w9]
theorem q9y {Q:R→Prop} {p n:Int} {K:T × List T→R} (hp:0≤p∧p≤1099511627776) (k:∀ v:Int,0≤v→(1≤n→v < n)→Q (K (.int .i64 v,[.agg [slc code,.int .i64 (p+1)]]))) :
 Q ((LIM F.q1p [.rref [slc code,.int .i64 p] 0,.int .i64 n]).bind K):=by
 obtain ⟨v,e,h1,h2⟩:=q1p hc p n hp
 rw [e]; exact k v h1 h2
theorem q34 (p n:Int) (hp:0≤p∧p≤1099511627776):∃ b:Bool,LIM F.q34 [.rref [slc code,.int .i64 p] 0,.int .i64 n]=some (.bool b,[.agg [slc code,.int .i64 (p+1)]]):=by
 obtain ⟨v,e,_⟩:=q1p hc p n hp
 exact ⟨decide (v=0),q8v rfl 0 ((q34.ev _ _ _ _).trans (by simp only [evz,Nat.reduceLT,e]))⟩
theorem q91 {Q:R→Prop} {p n:Int} {K:T × List T→R} (hp:0≤p∧p≤1099511627776) (k:∀ b:Bool,Q (K (.bool b,[.agg [slc code,.int .i64 (p+1)]]))) :
 Q ((LIM F.q34 [.rref [slc code,.int .i64 p] 0,.int .i64 n]).bind K):=by
 obtain ⟨b,e⟩:=q34 hc p n hp
 rw [e]; exact k b
theorem q3s (p:Int) (l:List Int) {ts:List T} (hts:cells l=ts) (hl:l≠[]) (hp:0≤p∧p≤1099511627776) :
 ∃ v∈l,LIM F.q3s [.rref [slc code,.int .i64 p] 0,.sl 1 ts]=some (.int .i64 v,[.agg [slc code,.int .i64 (p+1)]]):=by
 subst hts
 have h0:0 < l.length:=List.length_pos_iff.2 hl
 have hd:(cells l).length / 1=l.length:=q4r rfl
 obtain ⟨v,e,h1,h2⟩:=q1p hc p (l.length:Int) hp
 obtain ⟨i,rfl⟩:∃ i:Nat,v=i:=⟨v.toNat,by omega⟩
 have hi:i < l.length:=by have:=h2 (by omega); omega
 refine ⟨l[i],List.getElem_mem hi,q8v rfl 0 ((q3s.ev _ _ _ _).trans ?_)⟩
 simp only [evz,Nat.reduceLT,e,hi,List.getElem?_eq_getElem,q1j]
theorem qhd {Q:R→Prop} {p:Int} (l:List Int) {ts:List T} {K:T × List T→R} (hts:cells l=ts) (hl:l≠[]) (hp:0≤p∧p≤1099511627776) (k:∀ v:Int,v∈l→Q (K (.int .i64 v,[.agg [slc code,.int .i64 (p+1)]]))) :
 Q ((LIM F.q3s [.rref [slc code,.int .i64 p] 0,.sl 1 ts]).bind K):=by
 obtain ⟨v,hv,e⟩:=q3s hc p l hts hl hp
 rw [e]; exact k v hv
theorem q7l (i n:Int) (hi:0≤i∧i≤1099511627776):∃ v:Int,Call F.q7l [slc code,.int .i64 i,.int .i64 n] (.int .i64 v)∧0≤v∧(1≤n→v < n):=by
 by_cases hn:n≤1
 · exact ⟨0,q0v rfl 0 ((q7l.ev _ _ _ _).trans (by simp only [evz,Nat.reduceLT,hn])),by omega,by omega⟩
 have hn0:¬ n=0:=by omega
 by_cases hl:code.length=0
 · obtain ⟨q1,q2⟩:=qcg (a:=i*7) (b:=n) (by omega) (by omega)
   have z:((code.length:Nat):Int)=0:=by omega
   exact ⟨Int.tmod (i*7) n,q0v rfl 0 ((q7l.ev _ _ _ _).trans (by simp only [evz,Nat.reduceLT,hn,z,hn0,q1z (x:=i*7) (by omega)])),q1,fun _=>q2⟩
 obtain ⟨a,ha,hal⟩:=qo0 hc hi.1 (by omega)
 obtain ⟨j,hj,hjl⟩:=qo0 (code:=code) hc (p:=i+1) (by omega) (by omega)
 have b1:=qf0 code[a]
 have b2:=qf0 code[j]
 have hd:0≤Int.tdiv i code.length∧Int.tdiv i code.length≤i:=⟨Int.tdiv_nonneg hi.1 (by omega),Int.tdiv_le_self _ hi.1⟩
 have d1:¬ ((code.length:Nat):Int)=0:=by omega
 generalize hk:Int.tdiv i code.length=d at hd
 have e1:IntKind.wrap .i64 (i+1)=i+1:=q1z (by omega)
 have w1:IntKind.wrap .i64 d=d:=q1z (by omega)
 have w2:IntKind.wrap .i64 (d*3)=d*3:=q1z (by omega)
 have w3:IntKind.wrap .i64 (code[a].toNat:Int)=(code[a].toNat:Int):=q1z (by omega)
 have w4:IntKind.wrap .i64 (code[j].toNat:Int)=(code[j].toNat:Int):=q1z (by omega)
 have w5:IntKind.wrap .i64 ((code[a].toNat:Int)+d*3)=(code[a].toNat:Int)+d*3:=q1z (by omega)
 have w6:IntKind.wrap .i64 (((code[a].toNat:Int)+d*3)*251)=((code[a].toNat:Int)+d*3)*251:=q1z (by omega)
 have w7:IntKind.wrap .i64 (((code[a].toNat:Int)+d*3)*251+(code[j].toNat:Int))=((code[a].toNat:Int)+d*3)*251+(code[j].toNat:Int):=q1z (by omega)
 by_cases hbig:n > 200
 · obtain ⟨q1,q2⟩:=qcg (a:=((code[a].toNat:Int)+d*3)*251+(code[j].toNat:Int)) (b:=n) (by omega) (by omega)
   exact ⟨_,q0v rfl 0 ((q7l.ev _ _ _ _).trans (by simp only [evz,Nat.reduceLT,hn,d1,hn0,e1,ha,hal,hj,hjl,List.getElem?_eq_getElem,qi2,hbig,hk,w1,w2,w3,w4,w5,w6,w7])),q1,fun _=>q2⟩
 · obtain ⟨q1,q2⟩:=qcg (a:=(code[a].toNat:Int)+d*3) (b:=n) (by omega) (by omega)
   exact ⟨_,q0v rfl 0 ((q7l.ev _ _ _ _).trans (by simp only [evz,Nat.reduceLT,hn,d1,hn0,e1,ha,hal,hj,hjl,List.getElem?_eq_getElem,qi2,hbig,hk,w1,w2,w3,w5])),q1,fun _=>q2⟩
omit hc in
theorem q7c:Call F.q7c [slc code] (.bool (decide ((code.length:Int) > 1048576))):=q0v rfl 0 ((q7c.ev _ _).trans (by simp only [evz,Nat.reduceLT]))
omit hc in
theorem q5o:LIM F.q5o [slc code]=some (.bx [slc code,.int .i64 0],[]):=q8v rfl 0 (q5o.ev _ _)
end
set_option maxHeartbeats 1000000
structure Grown (l:List Symbol) (m:Nat) (vars:Int) (t:List Int):Prop where
 pos:1≤t.length
 le:t.length≤m
 node:∀ n∈t,(0≤n∧n < l.length)∨(-vars≤n∧n ≤ -1)
 tree:∃ x:Tm,x.ok (ar l)∧t=x.flat
theorem Grown.ok {l:List Symbol} {m:Nat} {vars:Int} {t:List Int} (h:Grown l m vars t) (hm:m≤24) (hv:vars≤12):TermOk l t:=by
 refine ⟨h.pos,Nat.le_trans h.le hm,fun n hn => ?_,?_⟩
 · rw [q4e]; rcases h.node n hn with h | h
   · exact .inl h
   · exact .inr (by omega)
 · obtain ⟨x,hx,rfl⟩:=h.tree
   have:=Tm.skip_flat (a:=ar l) (fun n hn=>q9k l hn) x [] 0 hx
   rwa [List.append_nil] at this
section
variable {code:List UInt8} (hc:code.length≤2097152) {l:List Symbol} (ok:SigOk ⟨l⟩)
def qh9 (code:List UInt8) (l:List Symbol) (p:Int) (m:Nat) (vars:Int) (r:R):Prop:=∃ t p',r=some (slc t,[.agg [slc code,.int .i64 p']])∧p≤p'∧p'≤p+3*(t.length:Int)∧Grown l m vars t
include hc ok
theorem qut (p q:Int) (m:Nat) (vars:Int) (hm:1≤m) (hv:1≤vars∧vars≤12) (hp:0≤p∧p≤q∧q≤p+2∧q≤1099511627776) :
 qh9 code l p m vars ((LIM F.q1p [.rref [slc code,.int .i64 q] 0,.int .i64 vars]).bind fun r=>(q0i r.2).bind fun p2=>(oNil p2.2).bind fun _=>(oAgg p2.1).bind fun c3=>(q0i c3).bind fun p4=>(oSl 1 p4.1).bind fun c5=>(q0i p4.2).bind fun p6=>(oInt .i64 p6.1).bind fun n7=>(oNil p6.2).bind fun _=>(oInt .i64 r.1).bind fun n8=>some (.sl 1 [.int .i64 (IntKind.wrap .i64 ((-1:Int) - n8))],[.agg [.sl 1 (cells code),.int .i64 n7]])):=by
 refine q9y hc (by omega) fun v h1 h2 => ?_
 have h2:=h2 hv.1
 simp only [evz,Nat.reduceLT]
 rw [q1z (by omega)]
 exact ⟨[-1 - v],q+1,rfl,by omega,by simp; omega,⟨by simp,by simp; omega,fun n hn => .inr (by rw [List.mem_singleton.1 hn]; omega),.v (-1 - v),by show -1 - v < 0; omega,rfl⟩⟩
noncomputable def qtu (l:List Symbol) (code:List UInt8) (m vars x4 p:Int):R :=
 (bif inB x4 ((cells l).length / 2) then (((cells l)[(((Int.toNat x4)*2)+1)]?).bind fun e71=>((oInt .i64 e71).bind fun n72=>(bif ((n72 == (1:Int))) then ((LIM F.q0f [(.rref [(.sl 1 (cells code)),(.int .i64 p)] 0),(.rref [(.sl 2 (cells l))] 0),(.int .i64 (IntKind.wrap .i64 (m - (1:Int)))),(.int .i64 vars)]).bind fun r73=>((q0i r73.2).bind fun p74=>((oNil p74.2).bind fun _=>((oAgg p74.1).bind fun c75=>((q0i c75).bind fun p76=>((oSl 1 p76.1).bind fun c77=>((q0i p76.2).bind fun p78=>((oInt .i64 p78.1).bind fun n79=>((oNil p78.2).bind fun _=>((oSl 1 r73.1).bind fun c80=>(bif (c80).all T.scalar then (bif Nat.ble ((1+(c80).length)*8) (140737488355328*1) then some ((.sl 1 ([(.int .i64 x4)]++c80:List T)),[(.agg [(.sl 1 (cells code)),(.int .i64 n79)])]) else none) else none))))))))))) else (bif ((n72 == (2:Int))) then ((LIM F.q0f [(.rref [(.sl 1 (cells code)),(.int .i64 p)] 0),(.rref [(.sl 2 (cells l))] 0),(.int .i64 (IntKind.wrap .i64 (m - (2:Int)))),(.int .i64 vars)]).bind fun r81=>((q0i r81.2).bind fun p82=>((oNil p82.2).bind fun _=>((oAgg p82.1).bind fun c83=>((q0i c83).bind fun p84=>((oSl 1 p84.1).bind fun c85=>((q0i p84.2).bind fun p86=>((oInt .i64 p86.1).bind fun n87=>((oNil p86.2).bind fun _=>((oSl 1 r81.1).bind fun c88=>(bif (c88).all T.scalar then (bif Nat.ble ((1+(c88).length)*8) (140737488355328*1) then ((LIM F.q0f [(.rref [(.sl 1 (cells code)),(.int .i64 n87)] 0),(.rref [(.sl 2 (cells l))] 0),(.int .i64 (IntKind.wrap .i64 ((IntKind.wrap .i64 (m - (1:Int))) - ((((c88).length / 1):Nat):Int)))),(.int .i64 vars)]).bind fun r89=>((q0i r89.2).bind fun p90=>((oNil p90.2).bind fun _=>((oAgg p90.1).bind fun c91=>((q0i c91).bind fun p92=>((oSl 1 p92.1).bind fun c93=>((q0i p92.2).bind fun p94=>((oInt .i64 p94.1).bind fun n95=>((oNil p94.2).bind fun _=>((oSl 1 r89.1).bind fun c96=>(bif (c96).all T.scalar then (bif Nat.ble (((([(.int .i64 x4)]++c88:List T)).length+(c96).length)*8) (140737488355328*1) then some ((.sl 1 (([(.int .i64 x4)]++c88:List T)++c96:List T)),[(.agg [(.sl 1 (cells code)),(.int .i64 n95)])]) else none) else none))))))))))) else none) else none))))))))))) else some ((.sl 1 [(.int .i64 x4)]),[(.agg [(.sl 1 (cells code)),(.int .i64 p)])]))))) else none)
theorem qx3 (p q:Int) (m:Nat) (vars:Int) (hm:1≤m∧m≤1000) (hv:0≤vars∧vars≤12) (hp:0≤p∧p≤q∧q≤p+3∧p+10*(m:Int)≤1099511020000)
 (ih:∀ k,1≤k→k < m→∀ p,0≤p∧p+10*(k:Int)≤1099511020000→qh9 code l p k vars (LIM F.q0f [.rref [slc code,.int .i64 p] 0,.rref [slc l] 0,.int .i64 k,.int .i64 vars]))
 (i:Nat) (hi:i < l.length) (ha:l[i].arity < m):qh9 code l p m vars (qtu l code m vars i q):=by
 obtain ⟨a1,a2⟩:=ok.arity l[i] (List.getElem_mem hi)
 have har:(ar l (i:Int):Int)=l[i].arity:=(qos ok (n:=(i:Int)) (by omega) (by simpa using hi)).symm
 unfold qtu
 have hn0:(0:Int)≤i∧(i:Int) < l.length:=by omega
 simp only [evz,Nat.reduceLT,hi,List.getElem?_eq_getElem,q2a]
 by_cases h1:l[i].arity=1
 · simp only [evz,Nat.reduceLT,h1]
   rw [q1z (by omega),show (m:Int) - 1=((m - 1:Nat):Int) by omega]
   obtain ⟨t,p',e,q1,q2,g⟩:=ih (m - 1) (by omega) (by omega) q (by omega)
   have hl:=g.le
   have e2:(cells t).length=t.length:=by rw [q0n]; simp
   simp only [evz,Nat.reduceLT,e,q60]
   rw [q1h (q3t (by rw [e2]; omega))]
   refine ⟨(i:Int)::t,p',rfl,by omega,by simp; omega,⟨by simp,by simp; omega,fun n hn => ?_,?_⟩⟩
   · rcases List.mem_cons.1 hn with rfl | hn
     · exact .inl hn0
     · exact g.node n hn
   · obtain ⟨x,hx,rfl⟩:=g.tree
     exact ⟨.u i x,⟨by omega,by omega,hx⟩,rfl⟩
 by_cases h2:l[i].arity=2
 · simp only [evz,Nat.reduceLT,h2,Int.reduceEq]
   rw [q1z (x:=(m:Int) - 2) (by omega),show (m:Int) - 2=((m - 2:Nat):Int) by omega]
   obtain ⟨t,p',e,q1,q2,g⟩:=ih (m - 2) (by omega) (by omega) q (by omega)
   have hl:=g.le
   have hl1:=g.pos
   have e2:(cells t).length=t.length:=by rw [q0n]; simp
   simp only [evz,Nat.reduceLT,e,q60]
   rw [q1h (q3t (by rw [e2]; omega)),q1z (x:=(m:Int) - 1) (by omega),q1z (by omega),show (m:Int) - 1 - (t.length:Int)=((m - 1 - t.length:Nat):Int) by omega]
   obtain ⟨t2,p2,e',q3,q4,g2⟩:=ih (m - 1 - t.length) (by omega) (by omega) p' (by omega)
   have hl2:=g2.le
   have e3:(cells t2).length=t2.length:=by rw [q0n]; simp
   simp only [evz,Nat.reduceLT,e',q60]
   rw [q1h (q3t (by simp only [List.length_append,List.length_singleton]; rw [e2,e3]; omega))]
   refine ⟨(i:Int)::(t++t2),p2,by rw [List.append_assoc,← q2t]; rfl,by omega,by simp; omega,⟨by simp,by simp; omega,fun n hn => ?_,?_⟩⟩
   · rcases List.mem_cons.1 hn with rfl | hn
     · exact .inl hn0
     · rcases List.mem_append.1 hn with hn | hn
       · exact g.node n hn
       · exact g2.node n hn
   · obtain ⟨x,hx,rfl⟩:=g.tree
     obtain ⟨y,hy,rfl⟩:=g2.tree
     exact ⟨.b i x y,⟨by omega,by omega,hx,hy⟩,rfl⟩
 simp only [evz,Nat.reduceLT,h1,h2]
 exact ⟨[(i:Int)],q,rfl,by omega,by simp; omega,⟨by simp,by simp; omega,fun n hn=>by rw [List.mem_singleton.1 hn]; exact .inl hn0,.k i,⟨by omega,by omega⟩,rfl⟩⟩
omit hc ok in
theorem qol {n d k c:Nat} (h:(n+(d+1)) % k=c):((n+1) % k+d) % k=c:=by
 rw [Nat.mod_add_mod,show n+1+d=n+(d+1) by omega]; exact h
omit hc ok in
theorem qv4 {n c k:Nat} (hn:n < k) (hc:c < k):∃ d,d < k∧(n+d) % k=c:=by
 by_cases h:n≤c
 · exact ⟨c - n,by omega,by rw [show n+(c - n)=c by omega,Nat.mod_eq_of_lt hc]⟩
 · exact ⟨c+k - n,by omega,by rw [show n+(c+k - n)=c+k by omega,Nat.add_mod_right,Nat.mod_eq_of_lt hc]⟩
theorem qub (p q:Int) (m:Nat) (vars:Int) (hm:1≤m∧m≤1000) (hv:0≤vars∧vars≤12) (hp:0≤p∧p≤q∧q≤p+3∧p+10*(m:Int)≤1099511020000)
 (ih:∀ k,1≤k→k < m→∀ p,0≤p∧p+10*(k:Int)≤1099511020000→qh9 code l p k vars (LIM F.q0f [.rref [slc code,.int .i64 p] 0,.rref [slc l] 0,.int .i64 k,.int .i64 vars]))
 (i:Nat) (hi:i < l.length):qh9 code l p m vars (q0f.at0 10 10 (q0f.st0 (cells l) m vars l.length i 0 (cells code) q)):=by
 have hle:=ok.le
 simp only at hle
 obtain ⟨y,hy,hy0⟩:=ok.const
 obtain ⟨c,hcl,hcy⟩:=List.getElem_of_mem hy
 have hcl:c < l.length:=hcl
 have hca:l[c].arity=0:=by
  have:l[c]=y:=hcy
  rw [this]; exact hy0
 have fin:=qx3 hc ok p q m vars hm hv hp ih
 have step2:∀ i,i < l.length→qh9 code l p m vars (q0f.at2 10 10 (q0f.st2 (cells l) m vars l.length (i:Nat) 0 (cells code) q)):=fun i hi=>by
  obtain ⟨d,hd,hdc⟩:=qv4 hi hcl
  refine q6x (σ:=Nat × Nat × Nat) (S:=fun k s=>q0f.at2 10 k (q0f.st2 (cells l) m vars l.length (s.1:Nat) (s.2.1:Nat) (cells code) q)) (fun s=>s.1 < l.length∧(s.1+s.2.2) % l.length=c∧s.2.1+s.2.2 < l.length) (fun s=>s.2.2) (fun k s hs => ?_) _ (i,0,d) ⟨hi,hdc,by simp only; omega⟩ (by simp only; omega)
  obtain ⟨n,j,d⟩:=s
  obtain ⟨h1,h2,h3⟩:=hs
  simp only at h1 h2 h3 ⊢
  have hj:j < l.length:=by omega
  have hl0:¬ ((l.length:Nat):Int)=0:=by omega
  by_cases ha:l[n].arity > 0
  · right
    cases d with
    | zero =>
      rw [Nat.add_zero,Nat.mod_eq_of_lt h1] at h2
      subst h2
      omega
    | succ d =>
      refine ⟨((n+1) % l.length,j+1,d),?_,⟨Nat.mod_lt _ (by omega),qol h2,by simp only; omega⟩,by simp only; omega⟩
      simp only [q0f.next2,q0f.round2,evz,Nat.reduceLT,hj,h1,List.getElem?_eq_getElem,q2a,ha,hl0]
      rw [q0o (by omega),q0o (by omega)]
      congr 2
  · left
    have hf:=fin n h1 (by omega)
    simp only [q0f.next2,q0f.round2,evz,Nat.reduceLT,hj,h1,List.getElem?_eq_getElem,q2a,ha]
    unfold qtu at hf
    simp only [evz,Nat.reduceLT,h1,List.getElem?_eq_getElem,q2a] at hf
    exact hf
 obtain ⟨d,hd,hdc⟩:=qv4 hi hcl
 refine q6x (σ:=Nat × Nat × Nat) (S:=fun k s=>q0f.at0 10 k (q0f.st0 (cells l) m vars l.length (s.1:Nat) (s.2.1:Nat) (cells code) q)) (fun s=>s.1 < l.length∧(s.1+s.2.2) % l.length=c∧s.2.1+s.2.2 < l.length) (fun s=>s.2.2) (fun k s hs => ?_) _ (i,0,d) ⟨hi,hdc,by simp only; omega⟩ (by simp only; omega)
 obtain ⟨n,j,d⟩:=s
 obtain ⟨h1,h2,h3⟩:=hs
 simp only at h1 h2 h3 ⊢
 have hj:j < l.length:=by omega
 have hl0:¬ ((l.length:Nat):Int)=0:=by omega
 by_cases ha:l[n].arity ≥ m
 · right
   cases d with
   | zero =>
     rw [Nat.add_zero,Nat.mod_eq_of_lt h1] at h2
     subst h2
     omega
   | succ d =>
     refine ⟨((n+1) % l.length,j+1,d),?_,⟨Nat.mod_lt _ (by omega),qol h2,by simp only; omega⟩,by simp only; omega⟩
     simp only [q0f.next0,q0f.round0,evz,Nat.reduceLT,hj,h1,List.getElem?_eq_getElem,q2a,ha,hl0]
     rw [q0o (by omega),q0o (by omega)]
     congr 2
 · left
   simp only [q0f.next0,q0f.round0,evz,Nat.reduceLT,hj,h1,List.getElem?_eq_getElem,q2a,ha]
   by_cases hm2:(m:Int) < 2
   · simp only [evz,Nat.reduceLT,hm2]
     exact step2 n h1
   · have hf:=fin n h1 (by omega)
     unfold qtu at hf
     simp only [evz,Nat.reduceLT,h1,List.getElem?_eq_getElem,q2a] at hf
     simp only [evz,Nat.reduceLT,hm2]
     exact hf
theorem qkh (vars:Int) (hv:0≤vars∧vars≤12):∀ (m:Nat),1≤m→m≤1000→∀ p,0≤p∧p+10*(m:Int)≤1099511020000→qh9 code l p m vars (LIM F.q0f [.rref [slc code,.int .i64 p] 0,.rref [slc l] 0,.int .i64 m,.int .i64 vars]):=by
 intro m
 induction m using Nat.strongRecOn with
 | ind m ih =>
   intro hm1 hm2 p hp
   have hle:=ok.le
   have hpos:=ok.pos
   simp only at hle hpos
   suffices h:qh9 code l p m vars (q1m prog A H LIM 10 F.q0f [.rref [slc code,.int .i64 p] 0,.rref [slc l] 0,.int .i64 m,.int .i64 vars]) by
    obtain ⟨t,p',e,r⟩:=h
    exact ⟨t,p',qeq rfl 10 e,r⟩
   rw [show q1m prog A H LIM 10 F.q0f [.rref [slc code,.int .i64 p] 0,.rref [slc l] 0,.int .i64 m,.int .i64 vars]=_ from q0f.ev _ _ _ _ _ _]
   have node:∀ q,p≤q→q≤p+2→qh9 code l p m vars ((LIM F.q1p [.rref [slc code,.int .i64 q] 0,.int .i64 (l.length:Int)]).bind fun r=>(q0i r.2).bind fun p2=>(oNil p2.2).bind fun _=>(oAgg p2.1).bind fun c3=>(q0i c3).bind fun p4=>(oSl 1 p4.1).bind fun c5=>(q0i p4.2).bind fun p6=>(oInt .i64 p6.1).bind fun n7=>(oNil p6.2).bind fun _=>(oInt .i64 r.1).bind fun n8=>q0f.at0 10 10 (q0f.st0 (cells l) m vars l.length n8 0 (cells code) n7)):=fun q q1 q2=>by
    refine q9y hc (by omega) fun v h1 h2 => ?_
    have h2:=h2 (by omega)
    obtain ⟨i,rfl⟩:∃ i:Nat,v=i:=⟨v.toNat,by omega⟩
    simp only [evz,Nat.reduceLT]
    exact qub hc ok p (q+1) m vars ⟨hm1,hm2⟩ hv (by omega) (fun k k1 k2 p hp=>ih k k2 k1 (by omega) p hp) i (by omega)
   by_cases hv0:vars > 0
   · simp only [evz,Nat.reduceLT,hv0]
     have rest:∀ q,p≤q→q≤p+1→qh9 code l p m vars ((LIM F.q34 [.rref [slc code,.int .i64 q] 0,.int .i64 4]).bind fun r=>(q0i r.2).bind fun p2=>(oNil p2.2).bind fun _=>(oAgg p2.1).bind fun c3=>(q0i c3).bind fun p4=>(oSl 1 p4.1).bind fun c5=>(q0i p4.2).bind fun p6=>(oInt .i64 p6.1).bind fun n7=>(oNil p6.2).bind fun _=>(q3h r.1).bind fun b8 =>
      bif b8 then ((LIM F.q1p [.rref [slc code,.int .i64 n7] 0,.int .i64 vars]).bind fun r=>(q0i r.2).bind fun p2=>(oNil p2.2).bind fun _=>(oAgg p2.1).bind fun c3=>(q0i c3).bind fun p4=>(oSl 1 p4.1).bind fun c5=>(q0i p4.2).bind fun p6=>(oInt .i64 p6.1).bind fun n7=>(oNil p6.2).bind fun _=>(oInt .i64 r.1).bind fun n8=>some (.sl 1 [.int .i64 (IntKind.wrap .i64 ((-1:Int) - n8))],[.agg [slc code,.int .i64 n7]]))
      else ((LIM F.q1p [.rref [slc code,.int .i64 n7] 0,.int .i64 (l.length:Int)]).bind fun r=>(q0i r.2).bind fun p2=>(oNil p2.2).bind fun _=>(oAgg p2.1).bind fun c3=>(q0i c3).bind fun p4=>(oSl 1 p4.1).bind fun c5=>(q0i p4.2).bind fun p6=>(oInt .i64 p6.1).bind fun n7=>(oNil p6.2).bind fun _=>(oInt .i64 r.1).bind fun n8=>q0f.at0 10 10 (q0f.st0 (cells l) m vars l.length n8 0 (cells code) n7))):=fun q q1 q2=>by
      refine q91 hc (by omega) fun b => ?_
      simp only [evz,Nat.reduceLT]
      cases b with
      | true=>exact qut hc ok p (q+1) m vars hm1 (by omega) (by omega)
      | false=>exact node (q+1) (by omega) (by omega)
     by_cases hm3:(m:Int) < 2
     · simp only [evz,Nat.reduceLT,hm3]
       refine q91 hc (by omega) fun b => ?_
       simp only [evz,Nat.reduceLT]
       cases b with
       | true=>exact qut hc ok p (p+1) m vars hm1 (by omega) (by omega)
       | false=>exact rest (p+1) (by omega) (by omega)
     · simp only [evz,Nat.reduceLT,hm3]
       exact rest p (by omega) (by omega)
   · simp only [evz,Nat.reduceLT,hv0]
     exact node p (by omega) (by omega)
theorem q0f (p most vars:Int) (hm:1≤most∧most≤1000) (hv:0≤vars∧vars≤12) (hp:0≤p∧p≤1099511000000) :
 Drawn code p 3000 (fun x=>∃ t,x=slc t∧Grown l most.toNat vars t) (LIM F.q0f [.rref [slc code,.int .i64 p] 0,.rref [slc l] 0,.int .i64 most,.int .i64 vars]):=by
 obtain ⟨t,p',e,h1,h2,g⟩:=qkh hc ok vars hv most.toNat (by omega) (by omega) p (by omega)
 rw [show ((most.toNat:Nat):Int)=most by omega] at e
 have:=g.le
 exact ⟨_,p',e,h1,by omega,t,rfl,g⟩
end
set_option maxHeartbeats 1000000
def ba (l:List UInt8):ByteArray:=ByteArray.mk l.toArray
def sigA:List Symbol:=[⟨ba [101],0⟩,⟨ba [105],1⟩,⟨ba [109],2⟩,⟨ba [97],0⟩]
def sigB:List Symbol:=[⟨ba [97],0⟩,⟨ba [115,117,99],1⟩,⟨ba [97,100,100],2⟩,⟨ba [98],0⟩]
def sigC:List Symbol:=[⟨ba [97],0⟩,⟨ba [102],1⟩,⟨ba [103],1⟩]
def sigD:List Symbol:=[⟨ba [97],0⟩,⟨ba [98],0⟩,⟨ba [101],0⟩,⟨ba [109],2⟩,⟨ba [105],1⟩,⟨ba [115,117,99],1⟩]
def sigE:List Symbol:=[⟨ba [97],0⟩]
theorem qvr:SigOk ⟨sigA⟩:=q8j (by decide)
theorem qwi:SigOk ⟨sigB⟩:=q8j (by decide)
theorem qvp:SigOk ⟨sigC⟩:=q8j (by decide)
theorem qw7:SigOk ⟨sigD⟩:=q8j (by decide)
theorem qvu:SigOk ⟨sigE⟩:=q8j (by decide)
theorem qht {b:ByteArray} (h:qbq b=true):b.size≤3:=by
 unfold qbq at h
 rw [Bool.and_eq_true,decide_eq_true_iff] at h
 exact h.1.2
theorem SigOk.small {l:List Symbol} (ok:SigOk ⟨l⟩):sm 7 (Signature.mk l):=⟨Nat.le_trans ok.le (by omega),fun x hx=>Nat.le_trans (qht (ok.name x hx)) (by omega)⟩
theorem qqm (o:List Int) {i:Nat} (h:i+1 < o.length):((o.set i o[i+1]).set (i+1) (o[i]'(by omega))).Perm o:=by
 obtain ⟨A,x,y,B,rfl,rfl⟩:∃ A x y B,o=A++x::y::B∧A.length=i:=by
  refine ⟨o.take i,o[i],o[i+1],o.drop (i+2),?_,by rw [List.length_take]; omega⟩
  rw [← List.drop_eq_getElem_cons h,← List.drop_eq_getElem_cons (by omega),List.take_append_drop]
 have e1:(A++x::y::B)[A.length+1]=y:=by simp [List.getElem_append_right]
 have e2:(A++x::y::B)[A.length]'(by simp)=x:=by simp [List.getElem_append_right]
 rw [e1,e2,List.set_append_right _ _ (Nat.le_refl _),List.set_append_right _ _ (by omega)]
 simp only [Nat.sub_self,List.set_cons_zero,show A.length+1 - A.length=1 by omega,List.set_cons_succ]
 exact (List.Perm.swap x y B).append_left A
def Places (l:List Symbol) (o:List Int):Prop:=o.Perm (rise l.length)
theorem Places.order {l:List Symbol} {o:List Int} (h:Places l o):qea l o=0:=by
 have hl:o.length=l.length:=by have:=h.length_eq; rwa [qak] at this
 have hm:∀ n∈o,0≤n∧n < l.length:=fun n hn=>by
  have:=(h.mem_iff).1 hn
  unfold rise at this
  obtain ⟨k,hk,rfl⟩:=List.mem_map.1 this
  have:=List.mem_range.1 hk
  omega
 have hd:o.Nodup:=by
  refine (h.nodup_iff).2 ?_
  unfold rise
  rw [List.Nodup,List.pairwise_map]
  exact List.nodup_range.imp fun {a b} hab e=>hab (Int.ofNat_inj.1 e)
 unfold qea
 rw [if_neg (by omega),if_neg,if_neg]
 · unfold qd4; simpa using hd
 · rw [Bool.not_eq_true,List.any_eq_false]
   intro n hn
   obtain ⟨a,b⟩:=hm n hn
   unfold inR
   simp; omega
section
variable {code:List UInt8} (hc:code.length≤2097152)
include hc
theorem q7z (p:Int) (hp:0≤p∧p≤1099511000000):Drawn code p 1 (fun x=>∃ l:List Symbol,x = .agg [slc l]∧SigOk ⟨l⟩) (LIM F.q7z [.rref [slc code,.int .i64 p] 0]):=by
 refine q8y rfl 0 ?_
 rw [show q1m prog A H LIM 0 F.q7z [.rref [slc code,.int .i64 p] 0]=_ from q7z.ev _ _ _]
 refine q9y hc (by omega) fun v h1 h2 => ?_
 simp only [evz,Nat.reduceLT]
 have leaf:∀ l:List Symbol,SigOk ⟨l⟩→Drawn code p 1 (fun x=>∃ l:List Symbol,x = .agg [slc l]∧SigOk ⟨l⟩) (some (.agg [slc l],[.agg [slc code,.int .i64 (p+1)]])):=fun l hl=>q5c (by omega) ⟨l,rfl,hl⟩
 repeat' split
 all_goals first | exact leaf sigA qvr | exact leaf sigB qwi | exact leaf sigC qvp | exact leaf sigD qw7 | exact leaf sigE qvu
omit hc in
theorem qs4 {l:List Symbol} {i:Nat} (hi:i < l.length) (n:ByteArray):setCells (cells l) (i*2) [.str n]=cells (l.set i ⟨n,l[i].arity⟩):=by
 have:=qnj (o:=l) (i:=i) (n:=2) (j:=0) (x:=l[i]) (x':=⟨n,l[i].arity⟩) (c := .str n) rfl hi (by decide) (by rw [q2a,q2a]; rfl)
 rwa [qf5 (List.getElem?_eq_getElem hi)] at this
omit hc in
theorem qux {l:List Symbol} {i:Nat} (hi:i < l.length) (n:Int):setCells (cells l) (i*2+1) [.int .i64 n]=cells (l.set i ⟨l[i].name,n⟩):=by
 have:=qnj (o:=l) (i:=i) (n:=2) (j:=1) (x:=l[i]) (x':=⟨l[i].name,n⟩) (c := .int .i64 n) rfl hi (by decide) (by rw [q2a,q2a]; rfl)
 rwa [qf5 (List.getElem?_eq_getElem hi)] at this
theorem q12 (p:Int) (hp:0≤p∧p≤1099511000000):Drawn code p 5 (fun x=>∃ l:List Symbol,x = .agg [slc l]∧sm 7 (Signature.mk l)) (LIM F.q12 [.rref [slc code,.int .i64 p] 0]):=by
 refine q8y rfl 10 ?_
 rw [show q1m prog A H LIM 10 F.q12 [.rref [slc code,.int .i64 p] 0]=_ from q12.ev _ _ _]
 refine q7e (q7z hc p (by omega)) ?_
 rintro _ p1 a1 b1 ⟨l,rfl,ok⟩
 have hle:=ok.le
 have hpos:=ok.pos
 simp only at hle hpos
 have sml:=ok.small
 have leaf:∀ (l:List Symbol) (p2:Int),p≤p2∧p2≤p+5→sm 7 (Signature.mk l)→Drawn code p 5 (fun x=>∃ l:List Symbol,x = .agg [slc l]∧sm 7 (Signature.mk l)) (some (.agg [slc l],[.agg [slc code,.int .i64 p2]])):=fun l p2 h hl=>q5c h ⟨l,rfl,hl⟩
 have setS:∀ (i:Nat) (y:Symbol),y.name.size≤7→sm 7 (Signature.mk (l.set i y)):=fun i y hy=>⟨by show (l.set i y).length≤7; rw [List.length_set]; omega,fun x hx=>by
  rcases List.mem_or_eq_of_mem_set hx with h | rfl
  · exact sml.2 x h
  · exact hy⟩
 simp only [evz,Nat.reduceLT]
 refine q91 hc (by omega) fun b => ?_
 simp only [evz,Nat.reduceLT]
 cases b with
 | false=>simp only [evz,Nat.reduceLT,Bool.not_false]; exact leaf l _ (by omega) sml
 | true =>
   simp only [evz,Nat.reduceLT,Bool.not_true]
   refine q9y hc (by omega) fun v h1 h2 => ?_
   simp only [evz,Nat.reduceLT]
   split
   · exact leaf [] _ (by omega) ⟨by simp,by simp⟩
   split
   · rw [q1z (by omega),show (l.length:Int) - 1=((l.length - 1:Nat):Int) by omega]
     have hi:l.length - 1 < l.length:=by omega
     have z:(l.length - 1)*2+1≤l.length*2:=by omega
     simp only [evz,Nat.reduceLT,hi,qbx,qa5,z,qs4 hi]
     exact leaf _ _ (by omega) (setS _ _ (show (ba [97,98,99,100]).size≤7 by decide))
   split
   · refine q9y hc (by omega) fun x k1 k2 => ?_
     obtain ⟨i,rfl⟩:∃ i:Nat,x=i:=⟨x.toNat,by omega⟩
     have hi:i < l.length:=by have:=k2 (by omega); omega
     have z:i*2+1≤l.length*2:=by omega
     simp only [evz,Nat.reduceLT,hi,qbx,qa5,z,qs4 hi]
     exact leaf _ _ (by omega) (setS _ _ (show (ba [97,66]).size≤7 by decide))
   split
   · refine q9y hc (by omega) fun x k1 k2 => ?_
     obtain ⟨i,rfl⟩:∃ i:Nat,x=i:=⟨x.toNat,by omega⟩
     have hi:i < l.length:=by have:=k2 (by omega); omega
     simp only [evz,Nat.reduceLT]
     refine qhd hc [3,-1] rfl (by simp) (by omega) fun y hy => ?_
     have z:i*2+1+1≤l.length*2:=by omega
     simp only [evz,Nat.reduceLT,hi,qbx,qa5,z,qux hi]
     exact leaf _ _ (by omega) (setS _ _ (sml.2 l[i] (List.getElem_mem hi)))
   split
   · have h0:0 < l.length:=by omega
     have e0:inB 0 l.length=true:=(q5f 0 _).trans (by simpa using h0)
     have g0:(cells l)[0]?=some (.str l[0].name):=by
      have:=get0 (l:=l) (k:=2) (i:=0) rfl
      rw [Nat.zero_mul] at this
      rw [this,List.getElem?_eq_getElem h0]; rfl
     have g1:(cells l)[1]?=some (.int .i64 l[0].arity):=by
      have:=get1 (l:=l) (k:=2) (i:=0) rfl (by decide)
      rw [Nat.zero_mul,Nat.zero_add] at this
      rw [this,List.getElem?_eq_getElem h0]; rfl
     simp only [evz,Nat.reduceLT,e0,g0,g1]
     rw [q1h (q3t (by rw [q0n]; simp only [qa5]; omega))]
     have e9:cells l++[.str l[0].name,.int .i64 l[0].arity]=cells (l++[l[0]]):=by rw [q2t,q8x]; rfl
     rw [e9]
     refine leaf _ _ (by omega) ⟨by show (l++[l[0]]).length≤7; simp; omega,fun x hx => ?_⟩
     rcases List.mem_append.1 hx with h | h
     · exact sml.2 x h
     · rw [List.mem_singleton.1 h]; exact sml.2 _ (List.getElem_mem h0)
   split
   · refine q6x (σ:=Nat × List Symbol) (S:=fun m s=>q12.at3 10 m (q12.st3 l.length (s.1:Nat) (cells code) (p1+1+1) (cells s.2))) (fun s=>s.1≤l.length∧s.2.length=l.length∧sm 7 (Signature.mk s.2)) (fun s=>l.length - s.1) (fun m s hs => ?_) _ (0,l) ⟨by simp,rfl,sml⟩ (by simp only; omega)
     obtain ⟨k,o⟩:=s
     obtain ⟨q1,q2,q3⟩:=hs
     simp only at q1 q2 q3 ⊢
     by_cases hk:k < l.length
     · right
       have hko:k < o.length:=by omega
       have z:k*2+1+1≤o.length*2:=by omega
       refine ⟨(k+1,o.set k ⟨o[k].name,1⟩),?_,⟨by simp only; omega,by simp [q2],⟨by show (o.set k _).length≤7; rw [List.length_set]; omega,fun x hx => ?_⟩⟩,by simp only; omega⟩
       · simp only [q12.next3,q12.round3,evz,Nat.reduceLT,hk,hko,qbx,qa5,z,qux hko]
         rw [q0o (by omega)]
       · rcases List.mem_or_eq_of_mem_set hx with h | rfl
         · exact q3.2 x h
         · exact q3.2 o[k] (List.getElem_mem hko)
     · left
       simp only [q12.next3,q12.round3,evz,Nat.reduceLT,hk]
       exact leaf _ _ (by omega) q3
   refine q6x (σ:=List Symbol) (S:=fun m s=>q12.at1 10 m (q12.st1 (cells code) (p1+1+1) (cells s))) (fun s=>s.length≤7∧sm 7 (Signature.mk s)) (fun s=>7 - s.length) (fun m s hs => ?_) _ l ⟨by omega,sml⟩ (by omega)
   obtain ⟨k1,k2⟩:=hs
   by_cases hk:s.length < 7
   · right
     have hk2:((s.length:Nat):Int) < 7:=by omega
     refine ⟨s++[⟨ba [122],0⟩],?_,⟨by simp; omega,⟨by show (s++_).length≤7; simp; omega,fun x hx => ?_⟩⟩,by simp; omega⟩
     · simp only [q12.next1,q12.round1,evz,Nat.reduceLT,hk2]
       rw [q1h (q3t (by rw [q0n]; simp only [qa5]; omega)),q2t,q8x]
       rfl
     · rcases List.mem_append.1 hx with h | h
       · exact k2.2 x h
       · rw [List.mem_singleton.1 h]; show (ba [122]).size≤7; decide
   · left
     have hk2:¬ ((s.length:Nat):Int) < 7:=by omega
     simp only [q12.next1,q12.round1,evz,Nat.reduceLT,hk2]
     exact leaf _ _ (by omega) k2
theorem q13 (p:Int) (hp:0≤p∧p≤1099511000000) (l:List Symbol) (hl:l.length≤1000):Drawn code p 4 (fun x=>∃ o,x=slc o∧Places l o) (LIM F.q13 [.rref [slc code,.int .i64 p] 0,.agg [slc l]]):=by
 refine q8y rfl 10 ?_
 rw [show q1m prog A H LIM 10 F.q13 [.rref [slc code,.int .i64 p] 0,.agg [slc l]]=_ from q13.ev _ _ _ _]
 simp only [evz,Nat.reduceLT,(q2g l.length (by omega)).eq]
 refine q9y hc (by omega) fun v h1 h2 => ?_
 simp only [evz,Nat.reduceLT]
 refine q6x (σ:=Int × Int × List Int) (S:=fun m s=>q13.at0 10 m (q13.st0 s.1 (cells code) s.2.1 (cells s.2.2))) (fun s=>0≤s.1∧s.1≤3∧p≤s.2.1∧s.2.1≤p+1+(3 - s.1)∧Places l s.2.2) (fun s=>s.1.toNat) (fun m s hs => ?_) _ (v,p+1,rise l.length) ⟨h1,by simp only; omega,by simp only; omega,by simp only; omega,List.Perm.refl _⟩ (by simp only; omega)
 obtain ⟨a,q,o⟩:=s
 obtain ⟨k1,k2,k3,k4,k5⟩:=hs
 simp only at k1 k2 k3 k4 k5 ⊢
 have hol:o.length=l.length:=by have:=k5.length_eq; rwa [qak] at this
 by_cases ha:a > 0
 · by_cases ho:((o.length:Nat):Int) > 1
   · right
     obtain ⟨x,e,x1,x2⟩:=q1p hc q ((o.length:Int) - 1) (by omega)
     obtain ⟨i,rfl⟩:∃ i:Nat,x=i:=⟨x.toNat,by omega⟩
     have hi:i+1 < o.length:=by have:=x2 (by omega); omega
     have hi0:i < o.length:=by omega
     refine ⟨(a - 1,q+1,(o.set i o[i+1]).set (i+1) o[i]),?_,⟨by simp only; omega,by simp only; omega,by simp only; omega,by simp only; omega,(qqm o hi).trans k5⟩,by simp only; omega⟩
     have z1:i*1+1≤o.length*1:=by omega
     have z2:(i+1)*1+1≤o.length*1:=by omega
     simp only [q13.next0,q13.round0,evz,Nat.reduceLT,ha,ho]
     rw [q1z (x:=(o.length:Int) - 1) (by omega)]
     have hi':i+1 < (o.set i o[i+1]).length:=by rw [List.length_set]; exact hi
     simp only [evz,Nat.reduceLT,e,q0o (show i < 9223372036854775807 by omega),hi,hi0,List.getElem?_eq_getElem,q1j,qbx,q3c,z1,q8r hi0,List.length_set,z2,q8r hi']
     rw [q1z (x:=a - 1) (by omega)]
   · left
     simp only [q13.next0,q13.round0,evz,Nat.reduceLT,ha,ho]
     exact q5c (by omega) ⟨o,rfl,k5⟩
 · left
   simp only [q13.next0,q13.round0,evz,Nat.reduceLT,ha]
   exact q5c (by omega) ⟨o,rfl,k5⟩
theorem q16 (p most vars:Int) (l:List Symbol) (hl:l.length≤1000) (hm:1≤most∧most≤1000) (hv:0≤vars∧vars≤12) (hp:0≤p∧p≤1099510000000) :
 Drawn code p 3200 (fun x=>∃ t:List Int,x=slc t∧t.length≤1001) (LIM F.q16 [.rref [slc code,.int .i64 p] 0,.rref [slc l] 0,.int .i64 most,.int .i64 vars]):=by
 have leaf:∀ (t:List Int) (p2:Int),p≤p2∧p2≤p+3200→t.length≤1001→Drawn code p 3200 (fun x=>∃ t:List Int,x=slc t∧t.length≤1001) (some (slc t,[.agg [slc code,.int .i64 p2]])):=fun t p2 h hl=>q5c h ⟨t,rfl,hl⟩
 refine q8y rfl 30 ?_
 rw [show q1m prog A H LIM 30 F.q16 [.rref [slc code,.int .i64 p] 0,.rref [slc l] 0,.int .i64 most,.int .i64 vars]=_ from q16.ev _ _ _ _ _ _]
 simp only [evz,Nat.reduceLT]
 split
 · exact leaf [0] p (by omega) (by simp)
 simp only [(q00 l (by omega)).eq,evz,Nat.reduceLT]
 split
 case isFalse=>exact leaf [0] p (by omega) (by simp)
 rename_i hs
 have ok:=q8j hs
 refine q7e (q0f hc ok p most vars hm hv (by omega)) ?_
 rintro _ p1 a1 b1 ⟨t,rfl,g⟩
 have tl:=g.le
 have tp:=g.pos
 simp only [evz,Nat.reduceLT]
 refine q91 hc (by omega) fun b => ?_
 simp only [evz,Nat.reduceLT]
 cases b with
 | false=>simp only [evz,Nat.reduceLT,Bool.not_false]; exact leaf t _ (by omega) (by omega)
 | true =>
   simp only [evz,Nat.reduceLT,Bool.not_true]
   refine q9y hc (by omega) fun v h1 h2 => ?_
   simp only [evz,Nat.reduceLT]
   split
   · rw [q1z (by omega),show (t.length:Int) - 1=((t.length - 1:Nat):Int) by omega]
     have z1:(0:Int)≤((t.length - 1:Nat):Int):=by omega
     have z2:((t.length - 1:Nat):Int)≤(t.length:Int):=by omega
     simp only [evz,Nat.reduceLT,z1,z2,Bool.and_self]
     rw [q92 t 1 _ rfl]
     exact leaf _ _ (by omega) (by rw [List.length_take]; omega)
   split
   · rw [q1h (q3t (by rw [q0n]; simp only [q3c]; omega)),q2j]
     exact leaf _ _ (by omega) (by simp; omega)
   split
   · refine q9y hc (by omega) fun x k1 k2 => ?_
     obtain ⟨i,rfl⟩:∃ i:Nat,x=i:=⟨x.toNat,by omega⟩
     have hi:i < t.length:=by have:=k2 (by omega); omega
     simp only [evz,Nat.reduceLT]
     refine qhd hc [(l.length:Int),-13,-12] rfl (by simp) (by omega) fun y hy => ?_
     have z:i*1+1≤t.length*1:=by omega
     simp only [evz,Nat.reduceLT,hi,qbx,q3c,z,q8r hi]
     exact leaf _ _ (by omega) (by rw [List.length_set]; omega)
   refine q6x (σ:=Nat × Int × List Int) (S:=fun m s=>q16.at1 30 m (q16.st1 (s.1:Nat) (cells code) s.2.1 (cells s.2.2))) (fun s=>s.1≤25∧s.2.2.length=s.1∧p≤s.2.1∧s.2.1=p1+1+1+2*(s.1:Int)) (fun s=>25 - s.1) (fun m s hs => ?_) _ (0,p1+1+1,[]) ⟨by simp,rfl,by simp only; omega,by simp⟩ (by simp)
   obtain ⟨k,q,o⟩:=s
   obtain ⟨q1,q2,q3,q4⟩:=hs
   simp only at q1 q2 q3 q4 ⊢
   obtain ⟨x,hx,e⟩:=q3s hc q [24,25] (ts:=[.int .i64 24,.int .i64 25]) rfl (by simp) (by omega)
   have hx':x≤25:=by simp only [List.mem_cons,List.not_mem_nil,or_false] at hx; omega
   by_cases hk:(k:Int) < x
   · right
     obtain ⟨y,hy,e'⟩:=q3s hc (q+1) [1,2,0] (ts:=[.int .i64 1,.int .i64 2,.int .i64 0]) rfl (by simp) (by omega)
     refine ⟨(k+1,q+1+1,o++[y]),?_,⟨by simp only; omega,by simp [q2],by simp only; omega,by simp only; omega⟩,by simp only; omega⟩
     simp only [q16.next1,q16.round1,evz,Nat.reduceLT,e,hk,e']
     rw [q1h (q3t (by rw [q0n]; simp only [q3c]; omega)),q0o (by omega),q2j]
   · left
     simp only [q16.next1,q16.round1,evz,Nat.reduceLT,e,hk]
     exact leaf o _ (by omega) (by omega)
end
set_option maxHeartbeats 1000000
theorem q1x (l:List Symbol) (hl:l.length≤1000) (s:ByteArray):∃ n:Int,Call F.q1x [.rref [slc l] 0,.str s] (.int .i64 n):=by
 suffices h:∃ r,q1m prog A H LIM (l.length+1) F.q1x [.rref [slc l] 0,.str s]=r∧∃ n:Int,r=some (.int .i64 n,[]) by
  obtain ⟨_,e,n,rfl⟩:=h
  exact ⟨n,q0v rfl _ e⟩
 refine ⟨_,q1x.ev _ _ _,?_⟩
 refine q6x (Q:=fun r=>∃ n:Int,r=some (.int .i64 n,[])) (σ:=Nat) (S:=fun m k=>q1x.at0 (l.length+1) m (q1x.st0 (cells l) s (k:Nat))) (fun k=>k≤l.length) (fun k=>l.length - k) (fun m k hk => ?_) _ 0 (by omega) (by omega)
 by_cases h:k < l.length
 · have g0:=get0 (l:=l) (k:=2) (i:=k) rfl
   have ek:l[k]?=some l[k]:=List.getElem?_eq_getElem h
   by_cases e:l[k].name=s
   · left
     exact ⟨(k:Int),by simp only [q1x.next0,q1x.round0,evz,Nat.reduceLT,h,g0,ek,e,beq_self_eq_true,q2a]⟩
   · right
     refine ⟨k+1,?_,by omega,by omega⟩
     simp only [q1x.next0,q1x.round0,evz,Nat.reduceLT,h,g0,ek,e,q2a]
     rw [q0o (by omega)]
 · left
   exact ⟨-1,by simp only [q1x.next0,q1x.round0,evz,Nat.reduceLT,h]⟩
def CutQ (s:ByteArray) (r:R):Prop:=∃ xs:List ByteArray,r=some (.sl 1 (xs.map .str),[])∧xs.length≤s.size+1∧∀ x∈xs,x.size≤s.size
theorem q29 (s:ByteArray) (hs:s.size≤1000) (c:Int):∃ xs:List ByteArray,Call F.q29 [.str s,.int .u8 c] (.sl 1 (xs.map .str))∧xs.length≤s.size+1∧∀ x∈xs,x.size≤s.size:=by
 suffices h:∃ r,q1m prog A H LIM (s.size+2) F.q29 [.str s,.int .u8 c]=r∧CutQ s r by
  obtain ⟨_,e,n,rfl,h⟩:=h
  exact ⟨n,q0v rfl _ e,h⟩
 refine ⟨_,q29.ev _ _ _,?_⟩
 have z:([]:List T)=([]:List ByteArray).map .str:=rfl
 rw [z]
 refine q6x (Q:=CutQ s) (σ:=Nat × Nat × List ByteArray) (S:=fun m q=>q29.at0 (s.size+2) m (q29.st0 s c (q.1:Nat) (q.2.1:Nat) (q.2.2.map .str))) (fun q=>q.1≤q.2.1∧q.2.1≤s.size+1∧q.2.2.length≤q.2.1∧∀ x∈q.2.2,x.size≤s.size) (fun q=>s.size+1 - q.2.1) (fun m q hq => ?_) _ (0,0,[]) ⟨by simp,by simp,by simp,by simp⟩ (by simp only; omega)
 obtain ⟨a,k,xs⟩:=q
 obtain ⟨h1,h2,h3,h4⟩:=hq
 simp only at h1 h2 h3 h4 ⊢
 by_cases hk:k≤s.size
 case neg =>
  left
  have hk':¬ (k:Int)≤(s.size:Int):=by omega
  exact ⟨xs,by simp only [q29.next0,q29.round0,evz,Nat.reduceLT,hk'],by omega,h4⟩
 right
 have hk':(k:Int)≤(s.size:Int):=by omega
 have ha':(0:Int)≤(a:Int):=by omega
 have hak:(a:Int)≤(k:Int):=by omega
 have put:∀ x∈xs++[s.extract a k],x.size≤s.size:=fun x hx=>by
  rcases List.mem_append.1 hx with h | h
  · exact h4 x h
  · rw [List.mem_singleton.1 h,ByteArray.size_extract]; omega
 have cell:(xs.map T.str)++[.str (s.extract a k)]=(xs++[s.extract a k]).map .str:=by rw [List.map_append]; rfl
 have blen:Nat.ble (((xs.map T.str).length+1)*16) (140737488355328*1)=true:=q3t (by rw [List.length_map]; omega)
 by_cases e:k=s.size
 · refine ⟨(k+1,k+1,xs++[s.extract a k]),?_,⟨by simp only; omega,by simp only; omega,by simp; omega,put⟩,by simp only; omega⟩
   have e':((k:Nat):Int)=(s.size:Int):=by omega
   simp only [q29.next0,q29.round0,evz,Nat.reduceLT,hk',e',beq_self_eq_true,ha',hak,Int.le_refl,decide_true,Bool.and_self,← cell]
   rw [← e] at *
   simp only [evz,Nat.reduceLT,hak,decide_true,Bool.and_self,blen]
   rw [q0o (by omega)]
 · have e':¬ ((k:Nat):Int)=(s.size:Int):=by omega
   have hlt:k < s.size:=by omega
   by_cases eb:((s.data.getD k 0).toNat:Int)=c
   · refine ⟨(k+1,k+1,xs++[s.extract a k]),?_,⟨by simp only; omega,by simp only; omega,by simp; omega,put⟩,by simp only; omega⟩
     simp only [q29.next0,q29.round0,evz,Nat.reduceLT,hk',e',hlt,eb,ha',hak,decide_true,Bool.and_self,blen,← cell]
     rw [q0o (by omega)]
   · refine ⟨(a,k+1,xs),?_,⟨by simp only; omega,by simp only; omega,by simp only; omega,h4⟩,by simp only; omega⟩
     simp only [q29.next0,q29.round0,evz,Nat.reduceLT,hk',e',hlt,eb]
     rw [q0o (by omega)]
def qdc (s:ByteArray) (r:R):Prop:=∃ (t:List Int) (b:Bool),r=some (.tup [slc t,.bool b],[])∧t.length≤s.size
theorem qm4 {l:List Symbol} (hl:l.length≤1000) (s:ByteArray) (hs:s.size≤1000) (N:Nat) (L:St→R) (a:Nat) (t:List Int) (ht:t.length≤a) (k0:Nat) (ha:a≤k0)
 (K:∀ (e:Nat) (n:Int),k0≤e→e≤s.size→qdc s (L (q0l.st0 (cells l) s (e:Nat) (cells (t++[n]))))):∀ (d k f:Nat),k+d=s.size→k0≤k→d < f →
 qdc s (q0l.at3 N L f (q0l.st3 (cells l) s (a:Nat) (k:Nat) (cells t))):=by
 intro d
 induction d with
 | zero =>
   intro k f hk h0 hf
   obtain ⟨f,rfl⟩:∃ g,f=g+1:=⟨f - 1,by omega⟩
   have n1:¬ (k:Int) < (s.size:Int):=by omega
   have c1:(0:Int)≤(a:Int):=by omega
   have c2:(a:Int)≤(k:Int):=by omega
   have c3:(k:Int)≤(s.size:Int):=by omega
   obtain ⟨n,en⟩:=q1x l hl (s.extract a k)
   have blen:Nat.ble (((cells t).length+1)*8) (140737488355328*1)=true:=q3t (by rw [q0n,q3c]; omega)
   simp only [q0l.next3,q0l.round3,n1,c1,c2,c3,decide_true,decide_false,Bool.and_self,cond_true,cond_false,Int.toNat_natCast,en.eq,evz,Nat.reduceLT]
   by_cases hn:n < 0
   · simp only [hn,evz,Nat.reduceLT]
     exact ⟨[],false,rfl,by simp⟩
   · simp only [hn,evz,Nat.reduceLT,blen]
     rw [q2j]
     exact K k n h0 (by omega)
 | succ d ih =>
   intro k f hk h0 hf
   obtain ⟨f,rfl⟩:∃ g,f=g+1:=⟨f - 1,by omega⟩
   have n1:(k:Int) < (s.size:Int):=by omega
   have n2:k < s.size:=by omega
   have c1:(0:Int)≤(a:Int):=by omega
   have c2:(a:Int)≤(k:Int):=by omega
   have c3:(k:Int)≤(s.size:Int):=by omega
   obtain ⟨n,en⟩:=q1x l hl (s.extract a k)
   have blen:Nat.ble (((cells t).length+1)*8) (140737488355328*1)=true:=q3t (by rw [q0n,q3c]; omega)
   have stop:qdc s (if n < 0 then some (.tup [.sl 1 [],.bool false],[]) else L (q0l.st0 (cells l) s (k:Nat) (cells t++[.int .i64 n]))):=by
    by_cases hn:n < 0
    · rw [if_pos hn]; exact ⟨[],false,rfl,by simp⟩
    · rw [if_neg hn,q2j]
      exact K k n h0 (by omega)
   have ih:=ih (k+1) f (by omega) (by omega) (by omega)
   simp only [q0l.next3,q0l.round3,n1,n2,c1,c2,c3,q5f,decide_true,decide_false,Bool.and_self,cond_true,cond_false,Int.toNat_natCast,en.eq,evz,Nat.reduceLT,blen,q0o (by omega:k < 9223372036854775807)]
   split
   · split
     · exact ih
     · exact stop
   · exact stop
theorem q0l {l:List Symbol} (hl:l.length≤1000) (s:ByteArray) (hs:s.size≤1000):∃ (t:List Int) (b:Bool),Call F.q0l [.rref [slc l] 0,.str s] (.tup [slc t,.bool b])∧t.length≤s.size:=by
 suffices h:∃ r,q1m prog A H LIM (s.size+1) F.q0l [.rref [slc l] 0,.str s]=r∧qdc s r by
  obtain ⟨_,e,t,b,rfl,h⟩:=h
  exact ⟨t,b,q0v rfl _ e,h⟩
 refine ⟨_,q0l.ev _ _ _,?_⟩
 have key:∀ (d k f:Nat) (t:List Int),k+d=s.size→t.length≤k→d < f→qdc s (q0l.at0 (s.size+1) f (q0l.st0 (cells l) s (k:Nat) (cells t))):=by
  intro d
  induction d using Nat.strongRecOn with
  | ind d ih =>
    intro k f t hk ht hf
    obtain ⟨f,rfl⟩:∃ g,f=g+1:=⟨f - 1,by omega⟩
    by_cases hk0:k < s.size
    case neg =>
     have n1:¬ (k:Int) < (s.size:Int):=by omega
     simp only [q0l.next0,q0l.round0,evz,Nat.reduceLT,n1]
     exact ⟨t,true,rfl,by omega⟩
    have n1:(k:Int) < (s.size:Int):=by omega
    have next:qdc s (q0l.at0 (s.size+1) f (q0l.st0 (cells l) s ((k+1:Nat):Int) (cells t))):=ih (d - 1) (by omega) (k+1) f t (by omega) (by omega) (by omega)
    have put:∀ n:Int,qdc s (q0l.at0 (s.size+1) f (q0l.st0 (cells l) s ((k+1:Nat):Int) (cells t++[.int .i64 n]))):=fun n=>by
     rw [q2j]
     exact ih (d - 1) (by omega) (k+1) f _ (by omega) (by simp; omega) (by omega)
    have bad:qdc s (some (.tup [.sl 1 [],.bool false],[])):=⟨[],false,rfl,by simp⟩
    have blen:Nat.ble (((cells t).length+1)*8) (140737488355328*1)=true:=q3t (by rw [q0n,q3c]; omega)
    have word:((s.data.getD k 0).toNat:Int) ≥ 97→((s.data.getD k 0).toNat:Int)≤122→qdc s (q0l.at3 (s.size+1) (q0l.at0 (s.size+1) f) (s.size+1) (q0l.st3 (cells l) s (k:Nat) (k:Nat) (cells t))):=fun w1 w2=>by
     have:=qm4 hl s hs (s.size+1) (q0l.at0 (s.size+1) f) k t ht (k+1) (by omega) (fun e n h1 h2=>ih (s.size - e) (by omega) e f _ (by omega) (by simp; omega) (by omega)) (d - 1) (k+1) s.size (by omega) (by omega) (by omega)
     simp only [q0l.next3,q0l.round3,n1,hk0,q5f,decide_true,cond_true,Int.toNat_natCast,w1,w2,q0o (by omega:k < 9223372036854775807)]
     exact this
    simp only [q0l.next0,q0l.round0,n1,hk0,q5f,decide_true,cond_true,Int.toNat_natCast,evz,Nat.reduceLT,blen,q0o (by omega:k < 9223372036854775807)]
    repeat' split
    all_goals first | with_reducible exact next | with_reducible exact bad | with_reducible exact put _ | (with_reducible apply word <;> assumption)
 exact key s.size 0 (s.size+1) [] (by omega) (by simp) (by omega)
section
variable {l:List Symbol} (ok:SigOk ⟨l⟩)
include ok
theorem qjh {t:List Int} (ht:TermOk l t) {i:Nat} (hi:i < t.length) (h0:0≤t[i]):∃ k:Nat,t[i]=k∧∃ h:k < l.length,ar l t[i]=l[k].arity.toNat∧0≤l[k].arity∧l[k].arity≤2∧l[k].name.size≤3:=by
 have hn:=ht.node _ (List.getElem_mem hi)
 unfold q5n inR at hn
 simp only [Bool.or_eq_true,Bool.and_eq_true,decide_eq_true_eq] at hn
 have hk:t[i].toNat < l.length:=by omega
 refine ⟨t[i].toNat,by omega,hk,?_,(ok.arity _ (List.getElem_mem hk)).1,(ok.arity _ (List.getElem_mem hk)).2,qht (ok.name _ (List.getElem_mem hk))⟩
 unfold ar
 rw [if_neg (by omega),List.getElem?_eq_getElem hk]
 rfl
def qxu (c:Nat) (r:R):Prop:=∃ s:ByteArray,r=some (.str s,[])∧s.size≤c
theorem qjc {t:List Int} (ht:TermOk l t):∀ (x:Tm) (i:Nat),At l t i x→qxu (6*x.flat.length) (LIM F.q24 [.rref [slc l] 0,slc t,.int .i64 i]):=by
 have lb:(ByteArray.mk #[40]).size=1:=rfl
 have rb:(ByteArray.mk #[41]).size=1:=rfl
 have cm:(ByteArray.mk #[44]).size=1:=rfl
 have hle:=ht.le
 intro x
 induction x with
 | v n =>
   intro i h
   obtain ⟨h1,h2,_,_⟩:=h.facts
   have hn:n < 0:=h.1
   have e:t[i]=n:=by rw [List.getD_eq_getElem?_getD,List.getElem?_eq_getElem h1] at h2; exact h2
   have ei:t[i]?=some n:=by rw [List.getElem?_eq_getElem h1,e]
   have ev:=q24.ev 0 (cells l) (cells t) i
   simp only [evz,Nat.reduceLT,h1,ei,q1j,hn] at ev
   refine ⟨_,qeq rfl 0 ev,?_⟩
   show ByteArray.size (ByteArray.push ByteArray.empty _)≤6*[n].length
   rw [ByteArray.size_push]; show 0+1≤6*1; decide
 | k n =>
   intro i h
   obtain ⟨h1,h2,_,_⟩:=h.facts
   have hn:0≤n∧ar l n=0:=h.1
   have e:t[i]=n:=by rw [List.getD_eq_getElem?_getD,List.getElem?_eq_getElem h1] at h2; exact h2
   subst e
   obtain ⟨q,eq,hq,q1,q2,q3,q4⟩:=qjh ok ht h1 hn.1
   have ei:t[i]?=some (q:Int):=by rw [List.getElem?_eq_getElem h1,eq]
   have e0:l[q].arity=0:=by omega
   have hn':¬ (q:Int) < 0:=by omega
   have ek:l[q]?=some l[q]:=List.getElem?_eq_getElem hq
   refine ⟨l[q].name,qeq rfl 0 ((q24.ev _ _ _ _).trans ?_),by show _≤6*1; omega⟩
   simp only [evz,Nat.reduceLT,h1,ei,q1j,hn',hq,get0 (l:=l) (k:=2) rfl,get1 (l:=l) (k:=2) rfl,ek,q2a,e0]
 | u n y ihy =>
   intro i h
   obtain ⟨h1,h2,_,_⟩:=h.facts
   have hn:0≤n∧ar l n=1:=⟨h.1.1,h.1.2.1⟩
   have e:t[i]=n:=by rw [List.getD_eq_getElem?_getD,List.getElem?_eq_getElem h1] at h2; exact h2
   have hy:At l t (i+1) y:=by
    obtain ⟨hx,r,hr⟩:=h
    exact At.next hx.2.2 hr
   obtain ⟨y1,_,y3,_⟩:=hy.facts
   have yl:y.flat.length≤24:=by
    have:=(q4s ht y1).2.1
    omega
   subst e
   obtain ⟨q,eq,hq,q1,q2,q3,q4⟩:=qjh ok ht h1 hn.1
   have ei:t[i]?=some (q:Int):=by rw [List.getElem?_eq_getElem h1,eq]
   have e0:l[q].arity=1:=by omega
   have hn':¬ (q:Int) < 0:=by omega
   have ek:l[q]?=some l[q]:=List.getElem?_eq_getElem hq
   obtain ⟨s,es,hs⟩:=ihy (i+1) hy
   have b1:l[q].name.size+1≤9223372036854775807:=by omega
   have ee:=(q8u ok ht y1).eq
   refine ⟨(l[q].name++ByteArray.mk #[40])++s++ByteArray.mk #[41],qeq rfl 2 ((q24.ev _ _ _ _).trans ?_),?_⟩
   · simp only [evz,Nat.reduceLT,h1,ei,q1j,hn',hq,get0 (l:=l) (k:=2) rfl,get1 (l:=l) (k:=2) rfl,ek,q2a,e0,lb,b1,q0o (by omega:i < 9223372036854775807)]
     have c1:(l[q].name++ByteArray.mk #[40]).size+s.size≤9223372036854775807:=by rw [ByteArray.size_append,lb]; omega
     have c2:((l[q].name++ByteArray.mk #[40])++s).size+1≤9223372036854775807:=by rw [ByteArray.size_append,ByteArray.size_append,lb]; omega
     simp only [q24.next0,q24.round0,evz,Nat.reduceLT,es,c1,ee,rb,c2]
     rfl
   · rw [ByteArray.size_append,ByteArray.size_append,ByteArray.size_append,lb,rb]
     show _≤6*(t[i]::y.flat).length
     rw [List.length_cons]; omega
 | b n y z ihy ihz =>
   intro i h
   obtain ⟨h1,h2,_,_⟩:=h.facts
   have hn:0≤n∧ar l n=2:=⟨h.1.1,h.1.2.1⟩
   have e:t[i]=n:=by rw [List.getD_eq_getElem?_getD,List.getElem?_eq_getElem h1] at h2; exact h2
   have hy:At l t (i+1) y:=by
    obtain ⟨hx,r,hr⟩:=h
    exact At.next (n:=n) hx.2.2.1 (r:=z.flat++r) (by rw [hr]; simp [Tm.flat])
   obtain ⟨y1,_,y3,_⟩:=hy.facts
   have hz:At l t (q6r l t (i+1)) z:=by
    obtain ⟨hx,r,hr⟩:=h
    refine ⟨hx.2.2.2,r,?_⟩
    rw [y3,← List.drop_drop,← List.drop_drop,hr]
    simp [Tm.flat]
   obtain ⟨z1,_,z3,_⟩:=hz.facts
   have el:=(q4s ht z1).2.1
   have yl:y.flat.length≤24:=by omega
   have zl:z.flat.length≤24:=by omega
   subst e
   obtain ⟨q,eq,hq,q1,q2,q3,q4⟩:=qjh ok ht h1 hn.1
   have ei:t[i]?=some (q:Int):=by rw [List.getElem?_eq_getElem h1,eq]
   have e0:l[q].arity=2:=by omega
   have hn':¬ (q:Int) < 0:=by omega
   have ek:l[q]?=some l[q]:=List.getElem?_eq_getElem hq
   obtain ⟨s,es,hs⟩:=ihy (i+1) hy
   obtain ⟨s2,es2,hs2⟩:=ihz _ hz
   have b1:l[q].name.size+1≤9223372036854775807:=by omega
   have ee:=(q8u ok ht y1).eq
   have ee2:=(q8u ok ht z1).eq
   refine ⟨(((l[q].name++ByteArray.mk #[40])++s)++ByteArray.mk #[44])++s2++ByteArray.mk #[41],qeq rfl 3 ((q24.ev _ _ _ _).trans ?_),?_⟩
   · simp only [evz,Nat.reduceLT,h1,ei,q1j,hn',hq,get0 (l:=l) (k:=2) rfl,get1 (l:=l) (k:=2) rfl,ek,q2a,e0,lb,b1,q0o (by omega:i < 9223372036854775807)]
     have c1:(l[q].name++ByteArray.mk #[40]).size+s.size≤9223372036854775807:=by rw [ByteArray.size_append,lb]; omega
     have c2:((l[q].name++ByteArray.mk #[40])++s).size+1≤9223372036854775807:=by rw [ByteArray.size_append,ByteArray.size_append,lb]; omega
     have c3:(((l[q].name++ByteArray.mk #[40])++s)++ByteArray.mk #[44]).size+s2.size≤9223372036854775807:=by rw [ByteArray.size_append,ByteArray.size_append,ByteArray.size_append,lb,cm]; omega
     have c4:((((l[q].name++ByteArray.mk #[40])++s)++ByteArray.mk #[44])++s2).size+1≤9223372036854775807:=by rw [ByteArray.size_append,ByteArray.size_append,ByteArray.size_append,ByteArray.size_append,lb,cm]; omega
     simp only [q24.next0,q24.round0,evz,Nat.reduceLT,es,c1,ee,rb,c2,es2,ee2,cm,c3,c4]
     rfl
   · rw [ByteArray.size_append,ByteArray.size_append,ByteArray.size_append,ByteArray.size_append,ByteArray.size_append,lb,rb,cm]
     show _≤6*(t[i]::(y.flat++z.flat)).length
     rw [List.length_cons,List.length_append]; omega
theorem q5w (s:ByteArray) (hs:s.size≤1000):∃ t:List Int,Call F.q5w [.rref [slc l] 0,.str s] (slc t)∧t.length≤168:=by
 have hle:=ok.le
 simp only at hle
 suffices h:∃ r,q1m prog A H LIM 0 F.q5w [.rref [slc l] 0,.str s]=r∧∃ t:List Int,r=some (slc t,[])∧t.length≤168 by
  obtain ⟨_,e,t,rfl,h⟩:=h
  exact ⟨t,q0v rfl _ e,h⟩
 refine ⟨_,q5w.ev _ _ _,?_⟩
 by_cases hb:(s.size:Int) > 168
 · simp only [evz,Nat.reduceLT,hb]; exact ⟨[],rfl,by simp⟩
 obtain ⟨t,b,en,ht⟩:=q0l (l:=l) (by omega) s hs
 simp only [evz,Nat.reduceLT,hb,en.eq,(q17 l ok t (by omega)).eq]
 cases b with
 | false=>exact ⟨[],rfl,by simp⟩
 | true =>
   simp only [evz,Nat.reduceLT,Bool.not_true]
   by_cases h0:q3k l t=0
   · have ok':=(q79 l t).1 h0
     obtain ⟨x,hx,_⟩:=TermOk.atZero ok ok'
     obtain ⟨w,ew,_⟩:=qjc ok ok' x 0 hx
     have ew:LIM F.q24 [.rref [slc l] 0,slc t,.int .i64 0]=some (.str w,[]):=ew
     simp only [h0,evz,Nat.reduceLT,ew,ne_eq,not_true_eq_false]
     split
     · exact ⟨t,rfl,by omega⟩
     · exact ⟨[],rfl,by simp⟩
   · simp only [h0,evz,Nat.reduceLT,ne_eq,not_false_eq_true]
     exact ⟨[],rfl,by simp⟩
theorem q4c (s:ByteArray) (hs:s.size≤1000):∃ (c:Int) (a b:List Int),Call F.q4c [.agg [slc l],.str s] (.agg [.int .i64 c,slc a,slc b])∧(c=0→EqOk l ⟨a,b⟩):=by
 have hle:=ok.le
 simp only at hle
 let Q:R→Prop:=fun r=>∃ (c:Int) (a b:List Int),r=some (.agg [.int .i64 c,slc a,slc b],[])∧(c=0→EqOk l ⟨a,b⟩)
 suffices h:∃ r,q1m prog A H LIM 0 F.q4c [.agg [slc l],.str s]=r∧Q r by
  obtain ⟨_,e,c,a,b,rfl,h⟩:=h
  exact ⟨c,a,b,q0v rfl _ e,h⟩
 refine ⟨_,q4c.ev _ _ _,?_⟩
 have bad:Q (some (.agg [.int .i64 5,.sl 1 [],.sl 1 []],[])):=⟨5,[],[],rfl,by omega⟩
 obtain ⟨xs,ex,x1,x2⟩:=q29 s hs 61
 have es:=(q00 l (by omega)).eq
 rw [(q7j _).2 ok] at es
 simp only [evz,Nat.reduceLT,es,ex.eq,List.length_map]
 by_cases hb:(s.size:Int) > 337
 · simp only [hb,evz,Nat.reduceLT]; exact bad
 simp only [hb,evz,Nat.reduceLT]
 match xs,x2 with
 | [x,y],x2 =>
   have hx:=x2 x (by simp)
   have hy:=x2 y (by simp)
   obtain ⟨a,ea,ha⟩:=q5w ok x (by omega)
   obtain ⟨b,eb,hb⟩:=q5w ok y (by omega)
   have ef:LIM F.q51 [.rref [slc l] 0,.rref [.sl 1 (cells a),.sl 1 (cells b)] 0]=_:=(q51 l ok a b (by omega) (by omega)).eq
   by_cases h0:q3b l ⟨a,b⟩=0
   · have r:Q (some (.agg [.int .i64 0,.sl 1 (cells a),.sl 1 (cells b)],[])):=⟨0,a,b,rfl,fun _=>qbt.1 h0⟩
     simpa [ea.eq,eb.eq,ef,h0,inB] using r
   · simpa [ea.eq,eb.eq,ef,h0,inB] using bad
 | [],_=>simpa using bad
 | [x],_=>simpa using bad
 | x::y::z::r,_ =>
   have hne:¬ ((r.length:Int)+1+1+1=2):=by omega
   simpa [hne] using bad
end
set_option maxHeartbeats 2000000
set_option maxRecDepth 10000
theorem Grown.eq {l:List Symbol} {m n:Nat} {v w:Int} {a b:List Int} (ha:Grown l m v a) (hb:Grown l n w b) (h1:m≤24) (h2:n≤24) (h3:v≤6) (h4:w≤6):EqOk l ⟨a,b⟩ :=
 ⟨ha.ok h1 (by omega),hb.ok h2 (by omega),fun n hn=>by rcases ha.node n hn with h | h <;> omega,fun n hn=>by rcases hb.node n hn with h | h <;> omega⟩
section
variable {code:List UInt8} (hc:code.length≤2097152)
include hc
theorem q25 {l:List Symbol} (ok:SigOk ⟨l⟩) (p:Int) (hp:0≤p∧p≤1099510000000) :
 Drawn code p 6100 (fun x=>∃ a b:List Int,x = .agg [slc a,slc b]∧EqOk l ⟨a,b⟩) (LIM F.q25 [.rref [slc code,.int .i64 p] 0,.rref [slc l] 0]):=by
 refine q8y rfl 20 ?_
 rw [show q1m prog A H LIM 20 F.q25 [.rref [slc code,.int .i64 p] 0,.rref [slc l] 0]=_ from q25.ev _ _ _ _]
 refine q9y hc (by omega) fun v h1 h2 => ?_
 have h2:=h2 (by omega)
 obtain ⟨v,rfl⟩:∃ n:Nat,v=n:=⟨v.toNat,by omega⟩
 simp only [evz,Nat.reduceLT]
 generalize hX:([.str _,.str _,.str _,.str _,.str _,.str _,.str _,.str _,.str _,.str _,.str _,.str _,.str _,.str _,.str _,.str _,.str _,.str _]:List T)=X
 have hlen:X.length=18:=by rw [← hX]; rfl
 have hX:∃ Y:List ByteArray,X=Y.map .str∧∀ y∈Y,y.size≤1000:=by
  subst hX
  refine ⟨[_,_,_,_,_,_,_,_,_,_,_,_,_,_,_,_,_,_],rfl,?_⟩
  intro y hy
  simp only [List.mem_cons,List.not_mem_nil,or_false] at hy
  rcases hy with rfl | rfl | rfl | rfl | rfl | rfl | rfl | rfl | rfl | rfl | rfl | rfl | rfl | rfl | rfl | rfl | rfl | rfl <;> decide
 obtain ⟨Y,rfl,hY⟩:=hX
 rw [List.length_map] at hlen
 refine q6x (σ:=Nat) (S:=fun m k=>q25.at0 20 m (q25.st0 (cells l) 18 (v:Nat) (k:Nat) (cells code) (p+1) (Y.map .str))) (fun k=>k≤18) (fun k=>18 - k) (fun m k hk => ?_) _ 0 (by omega) (by omega)
 by_cases h:k < 18
 · have hi:(v+k) % 18 < Y.length:=by omega
   have w:IntKind.wrap .i64 (((v:Nat):Int)+(k:Nat))=((v+k:Nat):Int):=by rw [q1z (by omega)]; omega
   have w2:Int.tmod ((v+k:Nat):Int) 18=(((v+k) % 18:Nat):Int):=by rw [Int.tmod_eq_emod_of_nonneg (by omega)]; omega
   have hk':((k:Nat):Int) < 18:=by omega
   have ei:Y[(v+k) % 18]?=some Y[(v+k) % 18]:=List.getElem?_eq_getElem hi
   obtain ⟨c,a,b,er,hr⟩:=q4c ok Y[(v+k) % 18] (hY _ (List.getElem_mem hi))
   by_cases h0:c=0
   · left
     subst h0
     simp only [q25.next0,q25.round0,evz,Nat.reduceLT,hk',w,w2,q5f,hi,List.length_map,List.getElem?_map,ei,Option.map_some,Option.bind_some,Int.toNat_natCast,Nat.mul_one,Nat.div_one,er.eq,show ¬ (18:Int)=0 by decide]
     exact q5c (by omega) ⟨a,b,rfl,hr rfl⟩
   · right
     refine ⟨k+1,?_,by omega,by omega⟩
     simp only [q25.next0,q25.round0,evz,Nat.reduceLT,hk',w,w2,q5f,hi,List.length_map,List.getElem?_map,ei,Option.map_some,Option.bind_some,Int.toNat_natCast,Nat.mul_one,Nat.div_one,er.eq,h0,show ¬ (18:Int)=0 by decide]
     rw [q0o (by omega)]
 · left
   have hk':¬ ((k:Nat):Int) < 18:=by omega
   simp only [q25.next0,q25.round0,evz,Nat.reduceLT,hk']
   refine q7e (q0f hc ok (p+1) 4 2 (by omega) (by omega) (by omega)) ?_
   rintro _ p1 a1 b1 ⟨a,rfl,ha⟩
   simp only [evz,Nat.reduceLT]
   refine q7e (q0f hc ok p1 2 2 (by omega) (by omega) (by omega)) ?_
   rintro _ p2 a2 b2 ⟨b,rfl,hb⟩
   simp only [evz,Nat.reduceLT]
   exact q5c (by omega) ⟨a,b,rfl,ha.eq hb (by decide) (by decide) (by decide) (by decide)⟩
theorem q5u {l:List Symbol} (ok:SigOk ⟨l⟩) (p:Int) (hp:0≤p∧p≤1099500000000) :
 Drawn code p 6200 (fun x=>∃ a b:List Int,x = .agg [slc a,slc b]∧EqOk l ⟨a,b⟩) (LIM F.q5u [.rref [slc code,.int .i64 p] 0,.rref [slc l] 0]):=by
 refine q8y rfl 0 ?_
 rw [show q1m prog A H LIM 0 F.q5u [.rref [slc code,.int .i64 p] 0,.rref [slc l] 0]=_ from q5u.ev _ _ _ _]
 refine q91 hc (by omega) fun b => ?_
 simp only [evz,Nat.reduceLT]
 cases b with
 | true =>
   simp only [evz,Nat.reduceLT]
   refine qhd hc [4,7,9] rfl (by simp) (by omega) fun v hv => ?_
   have hv':4≤v∧v≤9:=by
    simp only [List.mem_cons,List.not_mem_nil,or_false] at hv; omega
   simp only [evz,Nat.reduceLT]
   refine q7e (q0f hc ok _ v 3 (by omega) (by omega) (by omega)) ?_
   rintro _ p1 a1 b1 ⟨a,rfl,ha⟩
   simp only [evz,Nat.reduceLT]
   refine qhd hc [1,3,5] rfl (by simp) (by omega) fun w hw => ?_
   have hw':1≤w∧w≤5:=by
    simp only [List.mem_cons,List.not_mem_nil,or_false] at hw; omega
   simp only [evz,Nat.reduceLT]
   refine q7e (q0f hc ok _ w 3 (by omega) (by omega) (by omega)) ?_
   rintro _ p2 a2 b2 ⟨b,rfl,hb⟩
   simp only [evz,Nat.reduceLT]
   exact q5c (by omega) ⟨a,b,rfl,ha.eq hb (by omega) (by omega) (by decide) (by decide)⟩
 | false =>
   simp only [evz,Nat.reduceLT]
   refine q7e (q25 hc ok _ (by omega)) ?_
   rintro _ p1 a1 b1 ⟨a,b,rfl,h⟩
   simp only [evz,Nat.reduceLT]
   exact q5c (by omega) ⟨a,b,rfl,h⟩
theorem q3g {l:List Symbol} (hl:l.length≤1000) (p:Int) (hp:0≤p∧p≤1099490000000) :
 Drawn code p 6500 (fun x=>∃ a b:List Int,x = .agg [slc a,slc b]∧a.length≤1001∧b.length≤1001) (LIM F.q3g [.rref [slc code,.int .i64 p] 0,.rref [slc l] 0]):=by
 refine q8y rfl 0 ?_
 rw [show q1m prog A H LIM 0 F.q3g [.rref [slc code,.int .i64 p] 0,.rref [slc l] 0]=_ from q3g.ev _ _ _ _]
 simp only [evz,Nat.reduceLT,(q00 l (by omega)).eq]
 by_cases h0:q2z ⟨l⟩=0
 case neg =>
  simp only [h0,evz,Nat.reduceLT,ne_eq,not_false_eq_true]
  exact q5c (by omega) ⟨[0],[0],rfl,by simp,by simp⟩
 have ok:=q8j h0
 simp only [h0,evz,Nat.reduceLT,ne_eq,not_true_eq_false]
 refine q91 hc (by omega) fun b => ?_
 simp only [evz,Nat.reduceLT]
 cases b with
 | true =>
   simp only [evz,Nat.reduceLT]
   refine q7e (q16 hc _ 9 7 l hl (by omega) (by omega) (by omega)) ?_
   rintro _ p1 a1 b1 ⟨a,rfl,ha⟩
   simp only [evz,Nat.reduceLT]
   refine q7e (q16 hc _ 5 12 l hl (by omega) (by omega) (by omega)) ?_
   rintro _ p2 a2 b2 ⟨b,rfl,hb⟩
   simp only [evz,Nat.reduceLT]
   exact q5c (by omega) ⟨a,b,rfl,ha,hb⟩
 | false =>
   simp only [evz,Nat.reduceLT]
   refine q7e (q5u hc ok _ (by omega)) ?_
   rintro _ p1 a1 b1 ⟨a,b,rfl,h⟩
   simp only [evz,Nat.reduceLT]
   have h1:=h.left.le
   have h2:=h.right.le
   simp only at h1 h2
   exact q5c (by omega) ⟨a,b,rfl,by omega,by omega⟩
end
set_option maxHeartbeats 2000000
set_option maxRecDepth 10000
structure BindS (vs:List Int) (ts:List (List Int)):Prop where
 vlen:vs.length≤12
 tlen:ts.length≤12
 size:∀ t∈ts,t.length≤1001
section
variable {code:List UInt8} (hc:code.length≤2097152)
include hc
end
noncomputable def q5a (l:List Symbol) (o i:Equation) (same:Bool):Nat→Nat→List Nat ⊕ Int
 | 0,_ => .inl []
 | n+1,k=>if o.left.getD k 0 < 0∨(same=true∧k=0) then q5a l o i same n (k+1) else if (q7f l o i k).code=4 then q5a l o i same n (k+1) else if (q7f l o i k).code=0 then
  match q5a l o i same n (k+1) with
  | .inl qs => .inl (k::qs)
  | .inr c => .inr c
   else .inr (q7f l o i k).code
noncomputable def qb6 (l:List Symbol) (o i:Equation) (same:Bool):List Equation ⊕ Int:=match q5a l o i same o.left.length 0 with
 | .inl qs => .inl (qs.map fun q=>(q7f l o i q).equation)
 | .inr c => .inr c
theorem qax {l:List Symbol} {o i:Equation} {same:Bool}:∀ {n k:Nat} {qs:List Nat},q5a l o i same n k = .inl qs→qs.length≤n∧∀ q∈qs,k≤q∧q < k+n
 | 0,k,qs,h=>by cases h; exact ⟨Nat.le_refl _,by simp⟩
 | n+1,k,qs,h=>by
   have next:∀ {qs},q5a l o i same n (k+1) = .inl qs→qs.length≤n∧∀ q∈qs,k≤q∧q < k+(n+1):=fun h=>by
    obtain ⟨h1,h2⟩:=qax h
    exact ⟨h1,fun q hq=>by have:=h2 q hq; omega⟩
   rw [q5a] at h
   split at h
   · obtain ⟨h1,h2⟩:=next h; exact ⟨by omega,h2⟩
   split at h
   · obtain ⟨h1,h2⟩:=next h; exact ⟨by omega,h2⟩
   split at h
   · split at h
     · rename_i ps hp
       obtain ⟨h1,h2⟩:=next hp
       cases h
       refine ⟨by simp; omega,fun q hq => ?_⟩
       rcases List.mem_cons.1 hq with rfl | hq
       · omega
       · exact h2 q hq
     · cases h
   · cases h
theorem q8o {l:List Symbol} {o i:Equation} {same:Bool}:∀ {n k:Nat} {c:Int},q5a l o i same n k = .inr c→c≠0
 | 0,k,c,h=>by cases h
 | n+1,k,c,h=>by
   rw [q5a] at h
   split at h
   · exact q8o h
   split at h
   · exact q8o h
   split at h
   · split at h
     · cases h
     · rename_i c' hp; cases h; exact q8o hp
   · rename_i h0; cases h; exact h0
def psT (out:List Equation):List Equation ⊕ Int→R
 | .inl ps=>some (.tup [slc (out++ps),.int .i64 0],[])
 | .inr c=>some (.tup [.sl 2 [],.int .i64 c],[])
section
variable {l:List Symbol} (ok:SigOk ⟨l⟩)
include ok
theorem q1b {o i:Equation} (ho:EqOk l o) (hi:EqOk l i) (same:Bool):LIM F.q1b [.agg [slc l],.agg [slc o.left,slc o.right],.agg [slc i.left,slc i.right],.bool same]=psT [] (qb6 l o i same):=by
 have hol:=ho.left.le
 have hcall:∀ r,q1m prog Ev.A H LIM (o.left.length+1) F.q1b [.agg [slc l],.agg [slc o.left,slc o.right],.agg [slc i.left,slc i.right],.bool same]=psT [] r→LIM F.q1b [.agg [slc l],.agg [slc o.left,slc o.right],.agg [slc i.left,slc i.right],.bool same]=psT [] r:=fun r h=>by
  cases r with
  | inl x=>exact q0v rfl _ h
  | inr x=>exact q0v rfl _ h
 refine hcall _ ((q1b.ev _ _ _ _ _ _ _).trans ?_)
 have loop:∀ n k f (out:List Equation),k+n=o.left.length→n < f→out.length≤k →
  q1b.at0 (o.left.length+1) f (q1b.st0 same (cells o.left) o.left.length (k:Nat) (cells l) (cells o.left) (cells o.right) (cells i.left) (cells i.right) (cells out)) =
   psT out (match q5a l o i same n k with
    | .inl qs => .inl (qs.map fun q=>(q7f l o i q).equation)
    | .inr c => .inr c):=by
  intro n
  induction n with
  | zero =>
    intro k f out hk hf hl
    obtain ⟨f,rfl⟩:∃ x,f=x+1:=⟨f - 1,by omega⟩
    obtain rfl:k=o.left.length:=by omega
    simp only [q1b.next0,q1b.round0,evz,Nat.reduceLT,Nat.lt_irrefl,q5a,List.map_nil,psT,List.append_nil]
  | succ n ih =>
    intro k f out hk hf hl
    obtain ⟨f,rfl⟩:∃ x,f=x+1:=⟨f - 1,by omega⟩
    have h:k < o.left.length:=by omega
    have hlk:o.left[k]?=some o.left[k]:=List.getElem?_eq_getElem h
    have hd:o.left.getD k 0=o.left[k]:=q7p h
    have hpk:=(q5z ok ho hi h).eq
    rw [q21] at hpk
    have i1:=ih (k+1) f out (by omega) (by omega) (by omega)
    have i2:=ih (k+1) f (out++[(q7f l o i k).equation]) (by omega) (by omega) (by simp; omega)
    rw [q5a,hd]
    by_cases h1:o.left[k] < 0
    · rw [if_pos (.inl h1)]
      simp only [q1b.next0,q1b.round0,evz,Nat.reduceLT,h,hlk,q1j,h1]
      rw [q0o (by omega)]
      exact i1
    by_cases h2:same=true∧k=0
    · rw [if_pos (.inr h2)]
      have e0:∀ {α:Type} (a b:α),(bif ((k:Int) == 0) then (bif same then a else b) else b)=a:=fun a b=>by
       rw [h2.1,h2.2]; rfl
      rw [q1b.next0,q1b.round0,e0]
      simp only [evz,Nat.reduceLT,h,hlk,q1j,h1]
      rw [q0o (by omega)]
      exact i1
    rw [if_neg (by rintro (q | q); exact h1 q; exact h2 q)]
    have e0:∀ {α:Type} (a b:α),(bif ((k:Int) == 0) then (bif same then a else b) else b)=b:=fun a b=>by
     by_cases hk0:k=0
     · subst hk0
       have hs:same=false:=by cases same with
        | false=>rfl
        | true=>exact absurd ⟨rfl,rfl⟩ h2
       rw [hs]; rfl
     · rw [show ((k:Int) == 0)=false by simp; omega]; rfl
    rw [q1b.next0,q1b.round0,e0]
    simp only [evz,Nat.reduceLT,h,hlk,q1j,h1,hpk]
    rw [q0o (by omega)]
    by_cases c4:(q7f l o i k).code=4
    · simp only [c4,evz,Nat.reduceLT,show ¬ (4:Int)=0 by omega]
      exact i1
    by_cases c0:(q7f l o i k).code=0
    · simp only [c4,c0,evz,Nat.reduceLT]
      rw [q1h (q3t (by rw [q0n,q3y]; omega))]
      rw [q2t] at i2
      refine Eq.trans ?_ (i2.trans ?_)
      · rfl
      · cases q5a l o i same n (k+1) with
        | inl qs=>simp [psT]
        | inr c=>simp [psT]
    · simp only [c4,c0,evz,Nat.reduceLT,psT]
 have:=loop o.left.length 0 (o.left.length+1) [] (by omega) (by omega) (by simp)
 refine Eq.trans ?_ this
 simp only [evz,Nat.reduceLT]
 rfl
theorem q18 {o i:Equation} (ho:EqOk l o) (hi:EqOk l i) (same:Bool):Call F.q18 [.rref [slc l] 0,.rref [slc o.left,slc o.right] 0,.rref [slc i.left,slc i.right] 0,.bool same]
 (match q5a l o i same o.left.length 0 with
  | .inl qs => .tup [slc (ints qs),.int .i64 0]
  | .inr c => .tup [.sl 1 [],.int .i64 c]):=by
 have hol:=ho.left.le
 refine q0v rfl (o.left.length+1) ((q18.ev _ _ _ _ _ _ _).trans ?_)
 have loop:∀ n k f (out:List Nat),k+n=o.left.length→n < f→out.length≤k →
  q18.at0 (o.left.length+1) f (q18.st0 (cells l) (cells o.left) (cells o.right) (cells i.left) (cells i.right) same (k:Nat) (cells (ints out))) =
   some (match q5a l o i same n k with
    | .inl qs => .tup [slc (ints (out++qs)),.int .i64 0]
    | .inr c => .tup [.sl 1 [],.int .i64 c],[]):=by
  intro n
  induction n with
  | zero =>
    intro k f out hk hf hl
    obtain ⟨f,rfl⟩:∃ x,f=x+1:=⟨f - 1,by omega⟩
    obtain rfl:k=o.left.length:=by omega
    simp only [q18.next0,q18.round0,evz,Nat.reduceLT,Nat.lt_irrefl,q5a,List.append_nil]
  | succ n ih =>
    intro k f out hk hf hl
    obtain ⟨f,rfl⟩:∃ x,f=x+1:=⟨f - 1,by omega⟩
    have h:k < o.left.length:=by omega
    have hlk:o.left[k]?=some o.left[k]:=List.getElem?_eq_getElem h
    have hd:o.left.getD k 0=o.left[k]:=q7p h
    have hpk:=(q4x ok ho hi h).eq
    have i1:=ih (k+1) f out (by omega) (by omega) (by omega)
    have i2:=ih (k+1) f (out++[k]) (by omega) (by omega) (by simp; omega)
    rw [q5a,hd]
    by_cases h1:o.left[k] < 0
    · rw [if_pos (.inl h1)]
      simp only [q18.next0,q18.round0,evz,Nat.reduceLT,h,hlk,q1j,h1]
      rw [q0o (by omega)]
      exact i1
    by_cases h2:same=true∧k=0
    · rw [if_pos (.inr h2)]
      have e0:∀ {α:Type} (a b:α),(bif same then (bif ((k:Int) == 0) then a else b) else b)=a:=fun a b=>by
       rw [h2.1,h2.2]; rfl
      rw [q18.next0,q18.round0,e0]
      simp only [evz,Nat.reduceLT,h,hlk,q1j,h1]
      rw [q0o (by omega)]
      exact i1
    rw [if_neg (by rintro (q | q); exact h1 q; exact h2 q)]
    have e0:∀ {α:Type} (a b:α),(bif same then (bif ((k:Int) == 0) then a else b) else b)=b:=fun a b=>by
     by_cases hk0:k=0
     · subst hk0
       have hs:same=false:=by cases same with
        | false=>rfl
        | true=>exact absurd ⟨rfl,rfl⟩ h2
       rw [hs]; rfl
     · rw [show ((k:Int) == 0)=false by simp; omega]; cases same <;> rfl
    rw [q18.next0,q18.round0,e0]
    simp only [evz,Nat.reduceLT,h,hlk,q1j,h1,hpk]
    rw [q0o (by omega)]
    by_cases c4:(q7f l o i k).code=4
    · simp only [c4,evz,Nat.reduceLT,show ¬ (4:Int)=0 by omega]
      exact i1
    by_cases c0:(q7f l o i k).code=0
    · have e1:cells (ints out)++[.int .i64 (k:Int)]=cells (ints (out++[k])):=by rw [q2j]; simp [ints]
      simp only [c4,c0,evz,Nat.reduceLT,show ¬ (0:Int)=4 by omega,e1]
      rw [q1h (q3t (by rw [q0n,q3c,q4i]; omega))]
      refine i2.trans ?_
      cases q5a l o i same n (k+1) with
       | inl qs=>simp
       | inr c=>simp
    · simp only [c4,c0,evz,Nat.reduceLT]
 have:=loop o.left.length 0 (o.left.length+1) [] (by omega) (by omega) (by simp)
 exact this
theorem q1q {o i:Equation} (ho:EqOk l o) (hi:EqOk l i) (same:Bool):LIM F.q1q [.rref [slc l] 0,.rref [slc o.left,slc o.right] 0,.rref [slc i.left,slc i.right] 0,.bool same]=psT [] (qb6 l o i same):=by
 have hol:=ho.left.le
 have hcall:∀ r,q1m prog Ev.A H LIM (o.left.length+1) F.q1q [.rref [slc l] 0,.rref [slc o.left,slc o.right] 0,.rref [slc i.left,slc i.right] 0,.bool same]=psT [] r→LIM F.q1q [.rref [slc l] 0,.rref [slc o.left,slc o.right] 0,.rref [slc i.left,slc i.right] 0,.bool same]=psT [] r:=fun r h=>by
  cases r with
  | inl x=>exact q0v rfl _ h
  | inr x=>exact q0v rfl _ h
 refine hcall _ ((q1q.ev _ _ _ _ _ _ _).trans ?_)
 have hp:=(q18 ok ho hi same).eq
 unfold qb6
 cases hpl:q5a l o i same o.left.length 0 with
 | inr c =>
   rw [hpl] at hp
   simp only [evz,Nat.reduceLT,hp]
   simp only [q1q.next0,q1q.round0,evz,Nat.reduceLT,List.length_nil,psT,oSl]
   rfl
 | inl qs =>
   rw [hpl] at hp
   obtain ⟨hq1,hq2⟩:=qax hpl
   simp only [evz,Nat.reduceLT,hp]
   have key:=q9n (n:=qs.length) (f:=o.left.length+1) (S:=fun m k (w:List Equation)=>q1q.at0 (o.left.length+1) m (q1q.st0 (cells l) (cells o.left) (cells o.right) (cells i.left) (cells i.right) 0 (k:Nat) (cells (ints qs)) (cells w)))
    (st:=fun k=>(qs.take k).map fun q=>(q7f l o i q).equation) (z:=psT [] (.inl (qs.map fun q=>(q7f l o i q).equation))) (fun m k h => ?_) (fun m => ?_) (by omega)
   · exact key
   · have hqk:=hq2 qs[k] (List.getElem_mem h)
     have hg:=q9j h
     have hpk:=(q4x ok ho hi (p:=qs[k]) (by omega)).eq
     have e1:(qs.take (k+1)).map (fun q=>(q7f l o i q).equation)=(qs.take k).map (fun q=>(q7f l o i q).equation)++[(q7f l o i qs[k]).equation]:=by
      rw [← List.take_append_getElem h,List.map_append]; rfl
     have e2:∀ (A:List Equation) (e:Equation),cells A++[slc e.left,slc e.right]=cells (A++[e]):=fun A e=>by rw [q2t]; rfl
     rw [e1]
     simp only [q1q.next0,q1q.round0,evz,Nat.reduceLT,q4i,h,hg,q1j,hpk,e2]
     rw [q0o (by omega),q1h (q3t (by rw [q0n,q3y]; simp; omega))]
   · rw [List.take_length]
     simp only [q1q.next0,q1q.round0,evz,Nat.reduceLT,q4i,Nat.lt_irrefl,psT,List.nil_append]
end
theorem qn4 {l:List Symbol} {o i:Equation} {same:Bool} {c:Int} (h:qb6 l o i same = .inr c):c≠0:=by
 unfold qb6 at h
 split at h
 · cases h
 · rename_i c' hp; cases h; exact q8o hp
theorem qow {l:List Symbol} {o i:Equation} {same:Bool} {ps:List Equation} (h:qb6 l o i same = .inl ps):ps.length≤o.left.length∧∀ e∈ps,sm 67108864 e:=by
 unfold qb6 at h
 split at h
 · rename_i qs hp
   cases h
   refine ⟨by rw [List.length_map]; exact (qax hp).1,fun e he => ?_⟩
   obtain ⟨q,_,rfl⟩:=List.mem_map.1 he
   exact qu1
 · cases h
noncomputable def q81 (s:Signature) (o i:Equation) (same:Bool):EquationsResult :=
 if q3p s [o,i]≠0 then ⟨q3p s [o,i],[]⟩ else match qb6 s.symbols o i same with
  | .inl ps=>⟨0,ps⟩
  | .inr c=>⟨c,[]⟩
theorem qnd (s:Signature) (o i:Equation) (same:Bool) (_:sm 1048576 s) (ho:sm 1048576 o) (_:sm 1048576 i):sm 67108864 (q81 s o i same):=by
 unfold q81
 split
 · exact ⟨by simp,by simp⟩
 split
 · rename_i ps hp
   have h1:=qow hp
   have h2:o.left.length≤1048576:=ho.1.1
   exact ⟨by show ps.length≤_; omega,h1.2⟩
 · exact ⟨by simp,by simp⟩
theorem q5k (s:Signature) (o i:Equation) (same:Bool) (hs:sm 1048576 s) (ho:sm 1048576 o) (hi:sm 1048576 i):Call F.q5k [.agg (enc s),.agg (enc o),.agg (enc i),.bool same] (.agg (enc (q81 s o i same))):=by
 obtain ⟨l⟩:=s
 have hsl:l.length≤4294967296:=Nat.le_trans hs.1 (by omega)
 have hf:LIM F.q41 [.agg [slc l],.sl 2 [slc o.left,slc o.right,slc i.left,slc i.right]]=some (.int .i64 (q3p ⟨l⟩ [o,i]),[]):=(q41 l hsl [o,i] (qja ho hi)).eq
 show Call F.q5k [.agg [slc l],.agg [slc o.left,slc o.right],.agg [slc i.left,slc i.right],.bool same] _
 refine q0v rfl 0 ((q5k.ev _ _ _ _ _ _ _).trans ?_)
 simp only [evz,Nat.reduceLT,hf,q81]
 by_cases h:q3p ⟨l⟩ [o,i]=0
 case neg=>simp only [h,evz,Nat.reduceLT,ne_eq,not_false_eq_true,q49,q4q,q3y]
 obtain ⟨_,ok,_,q2⟩:=q85 h
 have hpk:=q1b ok (q2 o (by simp)) (q2 i (by simp)) same
 cases hp:qb6 l o i same with
 | inl ps =>
   rw [hp] at hpk
   simp only [h,evz,Nat.reduceLT,ne_eq,not_true_eq_false,hpk,psT,q49,List.nil_append]
 | inr c =>
   rw [hp] at hpk
   simp only [h,evz,Nat.reduceLT,ne_eq,not_true_eq_false,hpk,psT,q49,q4q,q3y]
   rfl
theorem q5t (s:Signature) (o i:Equation) (same:Bool) (hs:sm 1048576 s) (ho:sm 1048576 o) (hi:sm 1048576 i):Call F.q5t [.agg (enc s),.agg (enc o),.agg (enc i),.bool same] (.agg (enc (q81 s o i same))):=by
 obtain ⟨l⟩:=s
 have hsl:l.length≤4294967296:=Nat.le_trans hs.1 (by omega)
 have hf:LIM F.q45 [.agg [slc l],.sl 2 [slc o.left,slc o.right,slc i.left,slc i.right]]=some (.int .i64 (q3p ⟨l⟩ [o,i]),[]):=(q45 l hsl [o,i] (qja ho hi)).eq
 have h2:Call F.q7y [.rref [slc l] 0,.rref [slc o.left,slc o.right] 0,.rref [slc i.left,slc i.right] 0] (.int .i64 (q3p ⟨l⟩ [o,i])):=by
  refine q0v rfl 0 ((q7y.ev _ _ _ _ _ _).trans ?_)
  simp only [evz,Nat.reduceLT,hf]
 show Call F.q5t [.agg [slc l],.agg [slc o.left,slc o.right],.agg [slc i.left,slc i.right],.bool same] _
 refine q0v rfl 0 ((q5t.ev _ _ _ _ _ _ _).trans ?_)
 simp only [evz,Nat.reduceLT,h2.eq,q81]
 by_cases h:q3p ⟨l⟩ [o,i]=0
 case neg=>simp only [h,evz,Nat.reduceLT,ne_eq,not_false_eq_true,q49,q4q,q3y]
 obtain ⟨_,ok,_,q2⟩:=q85 h
 have hpk:=q1q ok (q2 o (by simp)) (q2 i (by simp)) same
 cases hp:qb6 l o i same with
 | inl ps =>
   rw [hp] at hpk
   simp only [h,evz,Nat.reduceLT,ne_eq,not_true_eq_false,hpk,psT,q49,List.nil_append]
 | inr c =>
   rw [hp] at hpk
   have hc:=qn4 hp
   simp only [h,evz,Nat.reduceLT,ne_eq,not_true_eq_false,hpk,psT,q49,q4q,q3y,hc,oSl]
   rfl
section
variable {l:List Symbol} (ok:SigOk ⟨l⟩) {rs:List Equation} (hr:∀ e∈rs,EqOk l e) (hl:rs.length≤12)
include ok hr hl
end
theorem qqg {l:List Symbol} {t u:List Int} (ht:TermOk l t) {p:Nat} (hp:p < t.length) (hu:TermOk l u) (h:(q4d l t p u).length≤24):TermOk l (q4d l t p u):=by
 obtain ⟨h1,h2,h3⟩:=qbk ht hp
 have hs:skip (ar l) 1 (q4d l t p u)=some []:=by
  unfold q4d
  rw [List.append_assoc]
  refine qko (y:=q3e l t p) (by rw [← h1]; exact h3) (by have:=qch (r:=t.drop (q6r l t p)) hu.skip; simpa using this) (t.take p) 1 ?_
  rw [← h1,List.take_append_drop]
  exact ht.skip
 refine ⟨?_,h,fun n hn => ?_,hs⟩
 · rcases Nat.eq_zero_or_pos (q4d l t p u).length with h | h
   · rw [List.eq_nil_of_length_eq_zero h] at hs; cases hs
   · exact h
 · unfold q4d at hn
   rcases List.mem_append.1 hn with hn | hn
   · rcases List.mem_append.1 hn with hn | hn
     · exact ht.node n (List.mem_of_mem_take hn)
     · exact hu.node n hn
   · exact ht.node n (List.mem_of_mem_drop hn)
theorem quc {l:List Symbol} (ok:SigOk ⟨l⟩) {o i:Equation} (ho:EqOk l o) (hi:EqOk l i) {p:Nat} (hp:p < o.left.length) (h0:(q7f l o i p).code=0):EqOk l (q7f l o i p).equation:=by
 have o1:=q8z hi.left hi.lowL
 have o2:=q8z hi.right hi.lowR
 have os:=qag ho.left hp
 have hsp:=q8e os o1
 have hcd:=fun c=>qc5 os o1 (c:=c)
 unfold q7f at h0 ⊢
 split
 · rename_i c hc
   rw [hc] at h0
   have:=hcd c hc
   simp only at h0
   omega
 · rename_i b hb
   rw [hb] at h0
   simp only at h0
   split at h0
   · cases h0
   rename_i c1
   split at h0
   · cases h0
   rename_i c2
   rw [if_neg c1,if_neg c2]
   have hub:=hsp.2 b hb
   have hwl:=q8c hub.mb (q4d l o.left p (q3o i.right 6))
   exact qoe (hub.applied_ok ho.right (by omega)) (hub.applied_ok (qqg ho.left hp o2 (by omega)) (by omega)) (by omega)
section
variable {l:List Symbol} {rs:List Equation} (hrf:q3p ⟨l⟩ rs=0) (hls:sm 1048576 (Signature.mk l)) (hrs:sm 1048576 rs) {fuel:Nat} (hf:fuel≤200)
include hrf hls hrs hf
end
def two (e:Entry):Bool:=decide (e.kind=4)||decide (e.kind=5)
structure NumsOk (eqn enn:Nat) (e:Entry):Prop where
 kind:e.kind=1∨e.kind=2∨e.kind=3∨e.kind=4∨e.kind=5
 a0:0≤e.a
 given:e.kind=1→e.a.toNat < eqn
 other:e.kind≠1→e.a.toNat < enn
 b:e.kind=4∨e.kind=5→0≤e.b∧e.b.toNat < enn
 side:e.side=0∨(e.kind=4∧e.side=1)
 zero:e.kind≠4→e.kind≠5→e.b=0∧e.place=0
theorem ql3 {l:List Symbol} (ok:SigOk ⟨l⟩) {o i:Equation} (ho:EqOk l o) (hi:EqOk l i) {p:Int} (h0:(q6g ⟨l⟩ o i p).code=0):EqOk l (q6g ⟨l⟩ o i p).equation:=by
 unfold q6g at h0 ⊢
 split at h0
 · rename_i h1; exact absurd h0 h1
 rename_i h1
 rw [if_neg h1]
 split at h0
 · cases h0
 rename_i h2
 rw [if_neg h2]
 split at h0
 · cases h0
 rename_i h3
 rw [if_neg h3]
 have h2:=q6y.1 (Bool.not_eq_false _ ▸ h2:inR p 0 (o.left.length - 1)=true)
 exact quc ok ho hi (by omega) h0
theorem qla:∀ {s t:List Int},s.Nodup→s ⊆ t→s.length≤t.length
 | [],t,_,_=>Nat.zero_le _
 | x::s,t,h,hs=>by
   have hx:x∈t:=hs (by simp)
   rw [List.nodup_cons] at h
   have h1:s ⊆ t.erase x:=fun y hy=>by
    refine (List.mem_erase_of_ne (fun (e:y=x)=>h.1 (by rw [← e]; exact hy))).2 (hs (List.mem_cons_of_mem _ hy))
   have h2:=qla h.2 h1
   rw [List.length_erase_of_mem hx] at h2
   have:=List.length_pos_of_mem hx
   rw [List.length_cons]
   omega
theorem six {s:List Int} (h1:s.Nodup) (h2:∀ m∈s,-6≤m∧m < 0):s.length≤6:=by
 have:s ⊆ [-6,-5,-4,-3,-2,-1]:=fun m hm=>by
  have:=h2 m hm
  simp only [List.mem_cons,List.not_mem_nil,or_false]
  omega
 exact qla h1 this
theorem EqOk.small {l:List Symbol} {e:Equation} (h:EqOk l e):sm 1048576 e:=⟨⟨by have:=h.left.le; omega,fun _ _=>trivial⟩,⟨by have:=h.right.le; omega,fun _ _=>trivial⟩⟩
section
variable {l:List Symbol} (ok:SigOk ⟨l⟩) (hs:sm 1048576 (Signature.mk l)) {eqs:List Equation} {ents:List Entry} (hq:∀ x∈eqs,EqOk l x) (he:∀ x∈ents,EqOk l (eqOf x)) (hql:eqs.length≤12) (hel:ents.length≤500)
include ok hs hq he hql hel
end
section
variable {l:List Symbol} (ok:SigOk ⟨l⟩) (hs:sm 1048576 (Signature.mk l)) {eqs:List Equation} (hq:∀ x∈eqs,EqOk l x) (hql:eqs.length≤12) {ents:List Entry} (hel:ents.length≤500)
include ok hs hq hql hel
end
section
variable {l:List Symbol} (ok:SigOk ⟨l⟩) (hs:sm 1048576 (Signature.mk l)) {eqs:List Equation} (hqs:sm 1048576 eqs) (hq:∀ x∈eqs,EqOk l x) (hql:eqs.length≤12) {o:List Int} (ho:sm 1048576 o)
include ok hs hqs hq hql ho
end
set_option maxHeartbeats 2000000
set_option maxRecDepth 10000
def qip (s:Signature) (o a b:List Int):Int:=if cmpF s o a b=0 then if cmpV s.symbols o a b=1∨cmpV s.symbols o a b=2 then 0 else 10 else cmpF s o a b
def qdo (s:Signature) (o a b:List Int):List Int:=if cmpF s o a b=0 then if cmpV s.symbols o a b=1 then a else if cmpV s.symbols o a b=2 then b else [] else []
def qdx (s:Signature) (o a b:List Int):List Int:=if cmpF s o a b=0 then if cmpV s.symbols o a b=1 then b else if cmpV s.symbols o a b=2 then a else [] else []
theorem qfe (x y:List Int) (h1:x.length≤4294967296) (h2:y.length≤4294967296):Call F.q6j [.rref [slc x,slc y] 0] (.agg [slc x,slc y]):=by
 refine q0v rfl 0 ((q6j.ev _ _ _).trans ?_)
 simp only [evz,Nat.reduceLT,(q2s x h1).eq,(q2s y h2).eq]
theorem q4b (l:List Symbol) (hsl:l.length≤4294967296) (o:List Int) (hol:o.length≤4294967296) (a b:List Int) (ha:a.length≤4294967296) (hb:b.length≤4294967296) :
 Call F.q4b [.agg [slc l],slc o,.agg [slc a,slc b]] (.agg [.int .i64 (qip ⟨l⟩ o a b),slc (qdo ⟨l⟩ o a b),slc (qdx ⟨l⟩ o a b)]):=by
 refine q0v rfl 0 ((q4b.ev _ _ _ _ _).trans ?_)
 simp only [evz,Nat.reduceLT,(q4f l hsl o hol).eq]
 have bad:∀ c:Int,cmpF ⟨l⟩ o a b=c→¬ c=0→qip ⟨l⟩ o a b=c∧qdo ⟨l⟩ o a b=[]∧qdx ⟨l⟩ o a b=[]:=fun c h1 h2=>by
  subst h1
  exact ⟨if_neg h2,if_neg h2,if_neg h2⟩
 by_cases h0:q6o ⟨l⟩ o=0
 case neg =>
  obtain ⟨b1,b2,b3⟩:=bad (q6o ⟨l⟩ o) (by unfold cmpF; rw [if_neg h0]) h0
  rw [b1,b2,b3]
  simp only [h0,evz,Nat.reduceLT,ne_eq,not_false_eq_true]
  rfl
 have h1:=(qg4 h0).1
 have ok:=q8j h1
 simp only [h0,evz,Nat.reduceLT,ne_eq,not_true_eq_false,(q17 l ok a ha).eq,(q17 l ok b hb).eq]
 by_cases h2:q3k l a=0
 case neg =>
  obtain ⟨b1,b2,b3⟩:=bad (q3k l a) (by unfold cmpF; rw [if_pos h0,q72 h1,q72 h1,if_neg h2]) h2
  rw [b1,b2,b3]
  simp only [h2,evz,Nat.reduceLT,ne_eq,not_false_eq_true]
  rfl
 by_cases h3:q3k l b=0
 case neg =>
  obtain ⟨b1,b2,b3⟩:=bad (q3k l b) (by unfold cmpF; rw [if_pos h0,q72 h1,q72 h1,if_pos h2]) h3
  rw [b1,b2,b3]
  simp only [h2,h3,evz,Nat.reduceLT,ne_eq,not_false_eq_true,not_true_eq_false]
  rfl
 have h:cmpF ⟨l⟩ o a b=0:=by unfold cmpF; rw [if_pos h0,q72 h1,q72 h1,if_pos h2,h3]
 obtain ⟨_,q1,q2,q3,q4⟩:=qwq h
 rw [qip,qdo,qdx]
 simp only [h,h2,h3,evz,Nat.reduceLT,ne_eq,not_true_eq_false,(q5y ok q1 q2 q3 q4).eq]
 by_cases v1:cmpV l o a b=1
 · simp only [v1,evz,Nat.reduceLT,(qfe a b ha hb).eq,true_or]
 · by_cases v2:cmpV l o a b=2
   · simp only [v1,v2,evz,Nat.reduceLT,(q2s a ha).eq,(q2s b hb).eq,or_true,show ¬ (2:Int)=1 by decide]
   · simp only [v1,v2,evz,Nat.reduceLT,or_self,not_false_eq_true]
     rfl
theorem qk7 (l:List Symbol) (o a b:List Int) {n:Nat} (ha:a.length≤n) (hb:b.length≤n):(qdo ⟨l⟩ o a b).length≤n∧(qdx ⟨l⟩ o a b).length≤n:=by
 unfold qdo qdx
 split
 · split
   · exact ⟨ha,hb⟩
   · split
     · exact ⟨hb,ha⟩
     · exact ⟨Nat.zero_le _,Nat.zero_le _⟩
 · exact ⟨Nat.zero_le _,Nat.zero_le _⟩
def EqS (n:Nat) (es:List Equation):Prop:=es.length≤n∧∀ e∈es,e.left.length≤1001∧e.right.length≤1001
theorem EqS.sm {n:Nat} {es:List Equation} (h:EqS n es) (hn:n≤1001):Sm.sm 1048576 es:=⟨by have:=h.1; omega,fun e he=>⟨⟨by have:=(h.2 e he).1; omega,fun _ _=>trivial⟩,⟨by have:=(h.2 e he).2; omega,fun _ _=>trivial⟩⟩⟩
theorem EqS.snoc {n:Nat} {es:List Equation} (h:EqS n es) {a b:List Int} (ha:a.length≤1001) (hb:b.length≤1001):EqS (n+1) (es++[⟨a,b⟩]):=⟨by have:=h.1; simp; omega,fun e he=>by
 rcases List.mem_append.1 he with h1 | h1
 · exact h.2 e h1
 · rw [List.mem_singleton.1 h1]; exact ⟨ha,hb⟩⟩
theorem qj6 (es:List Equation) (a b:List Int):cells es++[slc a,slc b]=cells (es++[⟨a,b⟩]):=by rw [q2t]; rfl
section
variable {code:List UInt8} (hc:code.length≤2097152)
include hc
theorem q1g {l:List Symbol} (ok:SigOk ⟨l⟩) (o:List Int) (ho:o.length≤1000) (p n:Int) (hn:0≤n∧n≤12) (hp:0≤p∧p≤1099400000000) :
 Drawn code p 100000 (fun x=>∃ es,x=slc es∧EqS n.toNat es) (LIM F.q1g [.rref [slc code,.int .i64 p] 0,.rref [slc l] 0,slc o,.int .i64 n]):=by
 have hll:l.length≤6:=ok.le
 refine q8y rfl 20 ?_
 rw [show q1m prog A H LIM 20 F.q1g [.rref [slc code,.int .i64 p] 0,.rref [slc l] 0,slc o,.int .i64 n]=_ from q1g.ev _ _ _ _ _ _]
 rw [show IntKind.wrap .i64 (n+1)=n+1 from q1z (by omega)]
 refine q9y hc (by omega) fun v h1 h2 => ?_
 have h2:=h2 (by omega)
 simp only [evz,Nat.reduceLT]
 refine q6x (σ:=Int × Int × List Equation) (S:=fun m s=>q1g.at0 20 m (q1g.st0 (cells l) (cells o) s.1 (cells code) s.2.1 (cells s.2.2))) (fun s=>0≤s.1∧s.1≤n∧p≤s.2.1∧s.2.1≤p+1+(n - s.1)*6300∧EqS (n - s.1).toNat s.2.2) (fun s=>s.1.toNat) (fun m s hs => ?_) _ (v,p+1,[]) ⟨h1,by simp only; omega,by simp only; omega,by simp only; omega,⟨by simp,by simp⟩⟩ (by simp only; omega)
 obtain ⟨k,q,es⟩:=s
 obtain ⟨g1,g2,g3,g4,g5⟩:=hs
 simp only at g1 g2 g3 g4 g5 ⊢
 have hes:=g5.1
 by_cases hk:k > 0
 case neg =>
  left
  simp only [q1g.next0,q1g.round0,evz,Nat.reduceLT,hk]
  exact q5c (by omega) ⟨es,rfl,by omega,g5.2⟩
 right
 have wk:IntKind.wrap .i64 (k - 1)=k - 1:=q1z (by omega)
 obtain ⟨_,q2,e1,c1,c2,a,b,rfl,heq⟩:=q5u hc ok q (by omega)
 have hal:=heq.left.le
 have hbl:=heq.right.le
 simp only at hal hbl
 have e2:=(q4b l (by omega) o (by omega) a b (by omega) (by omega)).eq
 obtain ⟨s1,s2⟩:=qk7 l o a b hal hbl
 have skip:EqS (n - (k - 1)).toNat es:=⟨by omega,g5.2⟩
 by_cases h0:qip ⟨l⟩ o a b=0
 · generalize hx:qdo ⟨l⟩ o a b=x at *
   generalize hy:qdx ⟨l⟩ o a b=y at *
   have e3:=(q1f x y (by omega) (by omega)).eq
   have l1:=(q3i [] x).1
   have l2:=(q3i (q2h [] x).2 y).1
   by_cases h6:(qa6 ⟨x,y⟩).length≤6
   · refine ⟨(k - 1,q2,es++[⟨(qa7 ⟨x,y⟩).left,(qa7 ⟨x,y⟩).right⟩]),?_,⟨by simp only; omega,by simp only; omega,by simp only; omega,by simp only; omega,?_⟩,by simp only; omega⟩
     · simp only [h6,if_true,decide_true] at e3
       simp only [q1g.next0,q1g.round0,evz,Nat.reduceLT,hk,wk,e1,e2,h0,e3]
       rw [q1h (q3t (by rw [q0n]; simp only [q3y]; omega)),qj6]
     · simp only
       have:=g5.snoc (a:=(qa7 ⟨x,y⟩).left) (b:=(qa7 ⟨x,y⟩).right) (by show (q2h [] x).1.length≤1001; omega) (by show (q2h (q2h [] x).2 y).1.length≤1001; omega)
       exact ⟨by have:=this.1; omega,this.2⟩
   · refine ⟨(k - 1,q2,es),?_,⟨by simp only; omega,by simp only; omega,by simp only; omega,by simp only; omega,skip⟩,by simp only; omega⟩
     simp only [h6,if_false,decide_false] at e3
     simp only [q1g.next0,q1g.round0,evz,Nat.reduceLT,hk,wk,e1,e2,h0,e3]
 · refine ⟨(k - 1,q2,es),?_,⟨by simp only; omega,by simp only; omega,by simp only; omega,by simp only; omega,skip⟩,by simp only; omega⟩
   simp only [q1g.next0,q1g.round0,evz,Nat.reduceLT,hk,wk,e1,e2,h0]
omit hc in
theorem qia (o:List Int) (p2 p n:Int) (hp:p≤p2∧p2≤p+200000) (hn:n≤13) (es:List Equation) (h0:0 < es.length) (he:EqS 13 es) :
 Drawn code p 200000 (fun x=>∃ es,x=slc es∧EqS 13 es) (q10.at0 20 20 (q10.st0 n (cells code) p2 (cells es))):=by
 refine q6x (σ:=List Equation) (S:=fun m s=>q10.at0 20 m (q10.st0 n (cells code) p2 (cells s))) (fun s=>0 < s.length∧EqS 13 s) (fun s=>13 - s.length) (fun m s hs => ?_) _ es ⟨h0,he⟩ (by omega)
 obtain ⟨g1,g2⟩:=hs
 have hs:=g2.1
 by_cases hk:((s.length:Nat):Int) < n
 case neg =>
  left
  simp only [q10.next0,q10.round0,evz,Nat.reduceLT,hk]
  exact q5c hp ⟨s,rfl,g2⟩
 right
 match s,g1 with
 | e::r,_ =>
   have hem:=g2.2 e (List.mem_cons_self ..)
   have e0:inB 0 (e::r).length=true:=(q5f 0 _).trans (by simp)
   have ew:((cells (e::r)).drop 0).take 2=[slc e.left,slc e.right]:=by rw [q7a]; rfl
   have ec:=(qfe e.left e.right (by omega) (by omega)).eq
   refine ⟨(e::r)++[⟨e.left,e.right⟩],?_,⟨by simp,?_⟩,by simp only [List.length_append,List.length_cons,List.length_nil] at hk ⊢; omega⟩
   · simp only [q10.next0,q10.round0,evz,Nat.reduceLT,hk,e0,ew,ec]
     rw [q1h (q3t (by rw [q0n]; simp only [q3y]; omega)),qj6]
   · exact ⟨by simp only [List.length_append,List.length_cons,List.length_nil] at hk ⊢; omega,fun x hx=>by
      rcases List.mem_append.1 hx with h | h
      · exact g2.2 x h
      · rw [List.mem_singleton.1 h]; exact hem⟩
theorem q10 {l:List Symbol} (hl:l.length≤1000) (o:List Int) (ho:o.length≤1000) (p:Int) (hp:0≤p∧p≤1099300000000) :
 Drawn code p 200000 (fun x=>∃ es,x=slc es∧EqS 13 es∧(0 < es.length→SigOk ⟨l⟩)) (LIM F.q10 [.rref [slc code,.int .i64 p] 0,.rref [slc l] 0,slc o]):=by
 refine q8y rfl 20 ?_
 rw [show q1m prog A H LIM 20 F.q10 [.rref [slc code,.int .i64 p] 0,.rref [slc l] 0,slc o]=_ from q10.ev _ _ _ _ _]
 have leaf:∀ (es:List Equation) (p2:Int),p≤p2∧p2≤p+200000→EqS 13 es→(0 < es.length→SigOk ⟨l⟩)→Drawn code p 200000 (fun x=>∃ es,x=slc es∧EqS 13 es∧(0 < es.length→SigOk ⟨l⟩)) (some (slc es,[.agg [slc code,.int .i64 p2]])):=fun es p2 h he hs=>q5c h ⟨es,rfl,he,hs⟩
 simp only [evz,Nat.reduceLT,(q4f l (by omega) o (by omega)).eq]
 by_cases h0:q6o ⟨l⟩ o=0
 case neg =>
  simp only [h0,evz,Nat.reduceLT,ne_eq,not_false_eq_true]
  exact leaf [] p (by omega) ⟨by simp,by simp⟩ (fun h=>absurd h (by simp))
 have ok:=q8j (qg4 h0).1
 simp only [h0,evz,Nat.reduceLT,ne_eq,not_true_eq_false]
 refine q7e (q1g hc ok o ho p 5 (by omega) (by omega)) ?_
 rintro _ p1 a1 b1 ⟨es,rfl,hes⟩
 have hes:EqS 5 es:=hes
 have hel:=hes.1
 simp only [evz,Nat.reduceLT]
 refine q91 hc (by omega) fun b => ?_
 simp only [evz,Nat.reduceLT]
 cases b with
 | true =>
   simp only [evz,Nat.reduceLT]
   refine q7e (q3g hc (l:=l) hl _ (by omega)) ?_
   rintro _ p2 a2 b2 ⟨a,b,rfl,ha,hb⟩
   simp only [evz,Nat.reduceLT]
   rw [q1h (q3t (by rw [q0n]; simp only [q3y]; omega))]
   refine q91 hc (by omega) fun b => ?_
   simp only [evz,Nat.reduceLT,qj6]
   have h6:=hes.snoc ha hb
   cases b with
   | false=>simp only [evz,Nat.reduceLT]; exact leaf _ _ (by omega) ⟨by have:=h6.1; omega,h6.2⟩ (fun _=>ok)
   | true =>
     simp only [evz,Nat.reduceLT]
     split
     · rename_i hpos
       refine qhd hc [12,13] rfl (by simp) (by omega) fun v hv => ?_
       have hv':v≤13:=by
        simp only [List.mem_cons,List.not_mem_nil,or_false] at hv; omega
       simp only [evz,Nat.reduceLT]
       exact (qia o _ p v (by omega) hv' _ (by omega) ⟨by have:=h6.1; omega,h6.2⟩).more (Int.le_refl _) (Int.le_refl _) fun x ⟨es,e,h⟩=>⟨es,e,h,fun _=>ok⟩
     · exact leaf _ _ (by omega) ⟨by have:=h6.1; omega,h6.2⟩ (fun _=>ok)
 | false =>
   simp only [evz,Nat.reduceLT]
   refine q91 hc (by omega) fun b => ?_
   simp only [evz,Nat.reduceLT]
   cases b with
   | false=>simp only [evz,Nat.reduceLT]; exact leaf es _ (by omega) ⟨by omega,hes.2⟩ (fun _=>ok)
   | true =>
     simp only [evz,Nat.reduceLT]
     split
     · rename_i hpos
       refine qhd hc [12,13] rfl (by simp) (by omega) fun v hv => ?_
       have hv':v≤13:=by
        simp only [List.mem_cons,List.not_mem_nil,or_false] at hv; omega
       simp only [evz,Nat.reduceLT]
       exact (qia o _ p v (by omega) hv' es (by omega) ⟨by omega,hes.2⟩).more (Int.le_refl _) (Int.le_refl _) fun x ⟨es,e,h⟩=>⟨es,e,h,fun _=>ok⟩
     · exact leaf es _ (by omega) ⟨by omega,hes.2⟩ (fun _=>ok)
end
set_option maxHeartbeats 4000000
set_option maxRecDepth 10000
section
variable {code:List UInt8} (hc:code.length≤2097152)
include hc
end
set_option maxHeartbeats 1000000
set_option maxHeartbeats 4000000
set_option maxRecDepth 10000
set_option maxHeartbeats 4000000
set_option maxRecDepth 10000
section
variable {code:List UInt8} (hc:code.length≤2097152)
include hc
theorem q9g (p:Int) (hp:0≤p∧p≤1099511000000) (t:List Int) (ht:t.length≤4294967296):∃ v:Int,LIM F.q9g [.rref [slc code,.int .i64 p] 0,slc t]=some (.int .i64 v,[.agg [slc code,.int .i64 (p+1+1+1+1)]]):=by
 obtain ⟨a,ea,_⟩:=q1p hc p (t.length:Int) (by omega)
 obtain ⟨b,eb,_⟩:=q1p hc (p+1) (t.length:Int) (by omega)
 obtain ⟨c,ec,_⟩:=q1p hc (p+1+1) (t.length:Int) (by omega)
 have w:IntKind.wrap .i64 (((t.length:Nat):Int) - 1)=((t.length:Nat):Int) - 1:=q1z (by omega)
 obtain ⟨v,_,ev⟩:=q3s hc (p+1+1+1) [0,(t.length:Int) - 1,a,b,c,(t.length:Int),-1] (ts:=[.int .i64 0,.int .i64 ((t.length:Int) - 1),.int .i64 a,.int .i64 b,.int .i64 c,.int .i64 (t.length:Int),.int .i64 (-1)]) rfl (by simp) (by omega)
 refine ⟨v,q8v rfl 0 ((q9g.ev _ _ _ _).trans ?_)⟩
 simp only [evz,Nat.reduceLT,ea,eb,ec,w,ev]
end
set_option maxHeartbeats 4000000
set_option maxRecDepth 10000
set_option maxHeartbeats 4000000
set_option maxRecDepth 10000
theorem qac {l:List Symbol} {o i:Equation} {q:Nat} (h0:0≤o.left.getD q 0) (hc:(q7f l o i q).code=0):∀ {n k:Nat} {qs:List Nat},q5a l o i false n k = .inl qs→k≤q→q < k+n→q∈qs
 | 0,k,qs,h,h1,h2=>by omega
 | n+1,k,qs,h,h1,h2=>by
   rw [q5a] at h
   by_cases hk:k=q
   · subst hk
     rw [if_neg (by intro hh; rcases hh with hh | hh; omega; cases hh.1),if_neg (by omega),if_pos hc] at h
     split at h
     · cases h; exact List.mem_cons_self ..
     · cases h
   · split at h
     · exact qac h0 hc h (by omega) (by omega)
     · split at h
       · exact qac h0 hc h (by omega) (by omega)
       · split at h
         · split at h
           · rename_i qs' hq
             cases h
             exact List.mem_cons_of_mem _ (qac h0 hc hq (by omega) (by omega))
           · cases h
         · cases h
section
variable {code:List UInt8} (hc:code.length≤2097152)
include hc
def qo5 (code:List UInt8) (r:R):Prop:=∃ (l:List Symbol) (o:List Int) (rs:List Equation) (p:Int),r=some (.tup [.agg [slc l],slc o,slc rs,.bx [slc code,.int .i64 p]],[])∧sm 7 (Signature.mk l)∧Places l o∧EqS 13 rs∧0≤p∧p≤400000
theorem q73:∃ (l:List Symbol) (o:List Int) (rs:List Equation) (p:Int),Call F.q73 [slc code] (.tup [.agg [slc l],slc o,slc rs,.bx [slc code,.int .i64 p]])∧sm 7 (Signature.mk l)∧Places l o∧EqS 13 rs∧0≤p∧p≤400000:=by
 suffices h:∃ r,q1m prog A H LIM 0 F.q73 [slc code]=r∧qo5 code r by
  obtain ⟨_,e,l,o,rs,p,rfl,h⟩:=h
  exact ⟨l,o,rs,p,q0v rfl 0 e,h⟩
 refine ⟨_,q73.ev _ _,?_⟩
 rw [show LIM F.q5o [.sl 1 (cells code)]=_ from q5o]
 simp only [evz,Nat.reduceLT,qsa]
 refine q7e (Q:=qo5 code) (q12 hc 0 (by omega)) ?_
 rintro _ p1 a1 b1 ⟨l,rfl,hl⟩
 have hll:l.length≤7:=hl.1
 simp only [evz,Nat.reduceLT]
 refine q7e (Q:=qo5 code) (q13 hc p1 (by omega) l (by omega)) ?_
 rintro _ p2 a2 b2 ⟨o,rfl,ho⟩
 have hol:o.length≤1000:=by have:=ho.length_eq; rw [qak] at this; omega
 simp only [evz,Nat.reduceLT]
 refine q7e (Q:=qo5 code) (q10 hc (l:=l) (by omega) o hol p2 (by omega)) ?_
 rintro _ p3 a3 b3 ⟨rs,rfl,hrs,hok⟩
 simp only [evz,Nat.reduceLT]
 exact ⟨l,o,rs,p3,rfl,hl,ho,hrs,by omega,by omega⟩
def qtb (code:List UInt8) (r:R):Prop:=∃ (l:List Symbol) (a b c d:List Int) (p:Int),r=some (.tup [.agg [slc l],.agg [slc a,slc b],.agg [slc c,slc d],.bx [slc code,.int .i64 p]],[])∧sm 7 (Signature.mk l)∧a.length≤1001∧b.length≤1001∧c.length≤1001∧d.length≤1001∧0≤p∧p≤500000
theorem q71:∃ (l:List Symbol) (a b c d:List Int) (p:Int),Call F.q71 [slc code] (.tup [.agg [slc l],.agg [slc a,slc b],.agg [slc c,slc d],.bx [slc code,.int .i64 p]])∧sm 7 (Signature.mk l)∧a.length≤1001∧b.length≤1001∧c.length≤1001∧d.length≤1001∧0≤p∧p≤500000:=by
 suffices h:∃ r,q1m prog A H LIM 0 F.q71 [slc code]=r∧qtb code r by
  obtain ⟨_,e,l,a,b,c,d,p,rfl,h⟩:=h
  exact ⟨l,a,b,c,d,p,q0v rfl 0 e,h⟩
 refine ⟨_,q71.ev _ _,?_⟩
 obtain ⟨l,o,rs,p,e,hl,_,hrs,hp1,hp2⟩:=q73 hc
 have hll:l.length≤7:=hl.1
 simp only [evz,Nat.reduceLT,e.eq,qsa]
 split
 · refine q7e (Q:=qtb code) (q3g hc (l:=l) (by omega) p (by omega)) ?_
   rintro _ p1 a1 b1 ⟨a,b,rfl,ha,hb⟩
   simp only [evz,Nat.reduceLT,(qfe a b (by omega) (by omega)).eq]
   exact ⟨l,a,b,a,b,p1,rfl,hl,ha,hb,ha,hb,by omega,by omega⟩
 · rename_i hne
   refine q9y (Q:=qtb code) hc (by omega) fun x hx1 hx2 => ?_
   simp only [evz,Nat.reduceLT]
   have hx2:=hx2 (by omega)
   obtain ⟨i,rfl⟩:∃ i:Nat,x=i:=⟨x.toNat,by omega⟩
   have hi:i < rs.length:=by omega
   have ei:rs[i]?=some rs[i]:=List.getElem?_eq_getElem hi
   have hb1:=hrs.2 _ (List.getElem_mem hi)
   simp only [evz,Nat.reduceLT,hi,ei,q52]
   refine q9y (Q:=qtb code) hc (by omega) fun y hy1 hy2 => ?_
   simp only [evz,Nat.reduceLT]
   have hy2:=hy2 (by omega)
   obtain ⟨j,rfl⟩:∃ j:Nat,y=j:=⟨y.toNat,by omega⟩
   have hj:j < rs.length:=by omega
   have ej:rs[j]?=some rs[j]:=List.getElem?_eq_getElem hj
   have hb2:=hrs.2 _ (List.getElem_mem hj)
   simp only [evz,Nat.reduceLT,hj,ej,q52]
   exact ⟨l,_,_,_,_,_,rfl,hl,hb1.1,hb1.2,hb2.1,hb2.2,by omega,by omega⟩
theorem q5b:∃ (l:List Symbol) (a b c d:List Int) (n:Int),Call F.q5b [slc code] (.tup [.agg [slc l],.agg [slc a,slc b],.agg [slc c,slc d],.int .i64 n])∧sm 7 (Signature.mk l)∧a.length≤1001∧b.length≤1001∧c.length≤1001∧d.length≤1001:=by
 obtain ⟨l,a,b,c,d,p,e,h1,h2,h3,h4,h5,h6,h7⟩:=q71 hc
 obtain ⟨v,ev⟩:=q9g hc p (by omega) a (by omega)
 refine ⟨l,a,b,c,d,v,q0v rfl 0 ((q5b.ev _ _).trans ?_),h1,h2,h3,h4,h5⟩
 simp only [evz,Nat.reduceLT,e.eq,qsa,(qfe a b (by omega) (by omega)).eq,(qfe c d (by omega) (by omega)).eq,ev]
end
theorem qlz {l:List Symbol} {o i:Equation} {n:Int} {z:Int} {tb:List (List Int)} (h0:(q6g ⟨l⟩ o i n).code=0) (hh:(qav ⟨l⟩ ⟨z,tb⟩ [o,i]).value=1):(qoa ⟨l⟩ ⟨z,tb⟩ (q6g ⟨l⟩ o i n).equation).value=1:=by
 have ha:q6f ⟨l⟩ ⟨z,tb⟩=0:=Classical.byContradiction fun hne=>by unfold qav at hh; rw [if_pos hne] at hh; cases hh
 have al:=qvs ha
 have ok:=al.sig
 have hq:q6d l [o,i]=0:=Classical.byContradiction fun hne=>by unfold qav at hh; rw [if_neg (by simpa using ha),if_pos hne] at hh; cases hh
 obtain ⟨_,q2⟩:=qbp.1 hq
 have ho:=q2 o (by simp)
 have hi:=q2 i (by simp)
 have hpo:=ql3 ok ho hi h0
 obtain ⟨k,rfl⟩:∃ k:Nat,z=k:=⟨z.toNat,by have:=al.size; omega⟩
 have hall:∀ e∈[o,i],q6u l k tb e=true:=fun e he=>by
  unfold qav at hh
  rw [if_neg (by simpa using ha),if_neg (by simpa using hq)] at hh
  simp only [Int.toNat_natCast] at hh
  split at hh
  · rename_i hq
    rw [Bool.not_eq_true',List.any_eq_false] at hq
    have:=hq e he
    simpa using this
  · cases hh
 have hb:q6u l k tb (q6g ⟨l⟩ o i n).equation=true:=by
  unfold q6g at h0 ⊢
  split at h0
  · rename_i h1; exact absurd h0 h1
  rename_i h1
  rw [if_neg h1]
  split at h0
  · cases h0
  rename_i h2
  rw [if_neg h2]
  split at h0
  · cases h0
  rename_i h3
  rw [if_neg h3]
  have h2:=q6y.1 (Bool.not_eq_false _ ▸ h2:inR n 0 (o.left.length - 1)=true)
  exact qou ok al (by have:=al.size; omega) ho hi (hall o (by simp)) (hall i (by simp)) (by omega) h0
 unfold qoa
 rw [if_neg (by simpa using ha),if_neg (by simpa using qbt.2 hpo)]
 show (if q6u l ((k:Int)).toNat tb _=true then (1:Int) else 0)=1
 rw [Int.toNat_natCast,if_pos hb]
theorem q0t (code:List UInt8) (h:sm maxLen code):Call F.q0t [slc code] (.bool true):=by
 by_cases hbig:(code.length:Int) > 1048576
 · exact q0v rfl 0 ((q0t.ev _ _).trans (by simp only [evz,Nat.reduceLT,(q7c (code:=code)).eq,hbig]))
 have hc:code.length≤2097152:=by omega
 obtain ⟨l,a,b,c,d,n,ed,hl,ha,hb,hc1,hd⟩:=q5b hc
 have hll:l.length≤7:=hl.1
 have s1:sm 1048576 (Signature.mk l):=q38 (by omega) hl
 have so:sm 1048576 (Equation.mk a b):=⟨⟨by show a.length≤_; omega,fun _ _=>trivial⟩,⟨by show b.length≤_; omega,fun _ _=>trivial⟩⟩
 have si:sm 1048576 (Equation.mk c d):=⟨⟨by show c.length≤_; omega,fun _ _=>trivial⟩,⟨by show d.length≤_; omega,fun _ _=>trivial⟩⟩
 have eP:LIM F.q6c [.agg [slc l],.agg [slc a,slc b],.agg [slc c,slc d],.int .i64 n]=_:=(q6c ⟨l⟩ ⟨a,b⟩ ⟨c,d⟩ n s1 so si).eq
 have eP':LIM F.q6h [.agg [slc l],.agg [slc a,slc b],.agg [slc c,slc d],.int .i64 n]=_:=(q6h ⟨l⟩ ⟨a,b⟩ ⟨c,d⟩ n s1 so si).eq
 rw [q21] at eP eP'
 by_cases h0:(q6g ⟨l⟩ ⟨a,b⟩ ⟨c,d⟩ n).code=0
 case neg =>
  refine q0v rfl 0 ((q0t.ev _ _).trans ?_)
  simp only [evz,Nat.reduceLT,(q7c (code:=code)).eq,hbig,ed.eq,eP,eP',bne_self_eq_false,ne_eq,not_true_eq_false,h0,not_false_eq_true]
 have hval:=fun (z:Int) (tb:List (List Int))=>qlz (z:=z) (tb:=tb) h0
 have hrf:q3p ⟨l⟩ [⟨a,b⟩,⟨c,d⟩]=0:=Classical.byContradiction fun hne=>by unfold q6g at h0; rw [if_pos hne] at h0; exact hne h0
 obtain ⟨hsf,ok,_,hrules⟩:=q85 hrf
 have ho:=hrules ⟨a,b⟩ (by simp)
 have hi:=hrules ⟨c,d⟩ (by simp)
 have hpe:=ql3 ok ho hi h0
 have hin:inR n 0 (a.length - 1)=true:=by
  cases e:inR n 0 (a.length - 1)
  · unfold q6g at h0; rw [if_neg (by simpa using hrf),if_pos e] at h0; cases h0
  · rfl
 have hn:0≤n∧n < a.length:=by unfold inR at hin; simp only [Bool.and_eq_true,decide_eq_true_eq] at hin; omega
 obtain ⟨q,rfl⟩:∃ q:Nat,n=q:=⟨n.toNat,by omega⟩
 have hnode:¬ a.getD q 0 < 0:=fun hlt=>by
  unfold q6g at h0; rw [if_neg (by simpa using hrf),if_neg (by rw [hin]; decide),if_pos (by rw [Int.toNat_natCast]; exact hlt)] at h0; cases h0
 have hR:q6g ⟨l⟩ ⟨a,b⟩ ⟨c,d⟩ q=q7f l ⟨a,b⟩ ⟨c,d⟩ q:=by
  unfold q6g; rw [if_neg (by simpa using hrf),if_neg (by rw [hin]; decide),if_neg (by rw [Int.toNat_natCast]; exact hnode),Int.toNat_natCast]
 have hmem:∀ qs,q5a l ⟨a,b⟩ ⟨c,d⟩ false a.length 0 = .inl qs→(q6g ⟨l⟩ ⟨a,b⟩ ⟨c,d⟩ q).equation∈qs.map fun r=>(q7f l ⟨a,b⟩ ⟨c,d⟩ r).equation:=fun qs hqs=>by
  rw [hR]
  exact List.mem_map.2 ⟨q,qac (by show 0≤a.getD q 0; omega) (by rw [← hR]; exact h0) hqs (by omega) (by omega),rfl⟩
 generalize hPE:q6g ⟨l⟩ ⟨a,b⟩ ⟨c,d⟩ (q:Int)=P at *
 obtain ⟨pc,⟨pl,pr⟩⟩:=P
 simp only at h0
 subst h0
 have hpl:pl.length≤24:=hpe.left.le
 have hpr:pr.length≤24:=hpe.right.le
 have eE:=(q3d l (by omega) pl pr (by omega) (by omega)).eq
 rw [if_neg (by simpa using hsf),show q3b l ⟨pl,pr⟩=0 from qbt.2 hpe] at eE
 have sp:sm 4294967296 (Equation.mk pl pr):=⟨⟨by show pl.length≤_; omega,fun _ _=>trivial⟩,⟨by show pr.length≤_; omega,fun _ _=>trivial⟩⟩
 have eL:LIM F.q5k [.agg [slc l],.agg [slc a,slc b],.agg [slc c,slc d],.bool false]=_:=(q5k ⟨l⟩ ⟨a,b⟩ ⟨c,d⟩ false s1 so si).eq
 have eL':LIM F.q5t [.agg [slc l],.agg [slc a,slc b],.agg [slc c,slc d],.bool false]=_:=(q5t ⟨l⟩ ⟨a,b⟩ ⟨c,d⟩ false s1 so si).eq
 have hsmL:=qnd ⟨l⟩ ⟨a,b⟩ ⟨c,d⟩ false s1 so si
 rw [q49] at eL eL'
 have hlist:(q81 ⟨l⟩ ⟨a,b⟩ ⟨c,d⟩ false).code=0→(⟨pl,pr⟩:Equation)∈(q81 ⟨l⟩ ⟨a,b⟩ ⟨c,d⟩ false).list∧(q81 ⟨l⟩ ⟨a,b⟩ ⟨c,d⟩ false).list.length≤24:=fun hz=>by
  unfold q81 qb6 at hz ⊢
  rw [if_neg (by simpa using hrf)] at hz ⊢
  simp only at hz ⊢
  cases hpn:q5a l ⟨a,b⟩ ⟨c,d⟩ false a.length 0 with
  | inl qs =>
    have:=hmem qs hpn
    have hql:=(qax hpn).1
    have hal:a.length≤24:=ho.left.le
    exact ⟨this,by show (qs.map _).length≤24; rw [List.length_map]; omega⟩
  | inr c =>
    rw [hpn] at hz
    simp only at hz
    subst hz
    exact absurd rfl (q8o hpn)
 generalize hPL:q81 ⟨l⟩ ⟨a,b⟩ ⟨c,d⟩ false=PL at *
 obtain ⟨lc,ls⟩:=PL
 simp only at hlist eL eL'
 have find:lc=0→∀ (dd k f:Nat),k+dd=ls.length→dd < f→(⟨pl,pr⟩:Equation)∈ls.drop k→q0t.at2 40 f (q0t.st2 (k:Nat) (cells pl) (cells pr) 0 (cells ls) lc)=some (.bool true,[]):=fun hz=>by
  have hll:=(hlist hz).2
  intro dd
  induction dd with
  | zero =>
    intro k f hk hf hm
    rw [List.drop_eq_nil_of_le (by omega)] at hm
    cases hm
  | succ dd ih =>
    intro k f hk hf hm
    obtain ⟨f,rfl⟩:∃ g,f=g+1:=⟨f - 1,by omega⟩
    have hlt:k < ls.length:=by omega
    have wk:IntKind.wrap .i64 (((k:Nat):Int)+1)=((k+1:Nat):Int):=by rw [q1z (by omega)]; omega
    have n1:((k:Nat):Int) < (ls.length:Int):=by omega
    have g0:(0:Int)≤((k:Nat):Int):=by omega
    have g1:((k:Nat):Int)≤((k+1:Nat):Int):=by omega
    have g2:((k+1:Nat):Int)≤(ls.length:Int):=by omega
    have win:((cells ls).take ((k+1)*2)).drop (k*2)=cells [ls[k]]:=by
     rw [q92 ls 2 (k+1) rfl,qa2 _ 2 k rfl,List.take_add_one,List.getElem?_eq_getElem hlt,List.drop_append_of_le_length (by rw [List.length_take]; omega),List.drop_eq_nil_of_le (by rw [List.length_take]; omega)]
     rfl
    have esm:sm 4294967296 [ls[k]]:=⟨by simp,fun x hx=>by rw [List.mem_singleton.1 hx]; exact q38 (by omega) (hsmL.2 _ (List.getElem_mem hlt))⟩
    have es:LIM F.q44 [slc [ls[k]],.sl 2 [slc pl,slc pr]]=some (.bool (decide ([ls[k]]=[(⟨pl,pr⟩:Equation)])),[]):=(q44 [ls[k]] [⟨pl,pr⟩] esm).eq
    have ih:=ih (k+1) f (by omega) (by omega)
    rw [List.drop_eq_getElem_cons hlt] at hm
    simp only [q0t.next2,q0t.round2,evz,Nat.reduceLT,n1,wk,g0,g1,g2,decide_true,Bool.and_self,win,es]
    by_cases e:ls[k]=⟨pl,pr⟩
    · simp only [e,decide_true,evz,Nat.reduceLT]
    · have e2:¬ [ls[k]]=[(⟨pl,pr⟩:Equation)]:=fun hh=>e (List.cons.inj hh).1
      simp only [e2,decide_false,evz,Nat.reduceLT]
      rcases List.mem_cons.1 hm with h | h
      · exact absurd h.symm e
      · exact ih h
 have key:∀ (dd k f:Nat),k+dd=6→dd < f→q0t.at0 40 f (q0t.st0 (cells code) (k:Nat) (cells l) (cells a) (cells b) (cells c) (cells d) (cells pl) (cells pr) 0 (cells [(⟨a,b⟩:Equation),⟨c,d⟩]))=some (.bool true,[]):=by
  intro dd
  induction dd with
  | zero =>
    intro k f hk hf
    obtain ⟨f,rfl⟩:∃ g,f=g+1:=⟨f - 1,by omega⟩
    have n1:¬ ((k:Nat):Int) < 6:=by omega
    by_cases hz:lc=0
    · have:=find hz ls.length 0 40 (by omega) (by have:=(hlist hz).2; omega) (by rw [List.drop_zero]; exact (hlist hz).1)
      subst hz
      simp only [q0t.next0,q0t.round0,evz,Nat.reduceLT,n1,eL,bne_self_eq_false,ne_eq,not_true_eq_false]
      exact this
    · simp only [q0t.next0,q0t.round0,evz,Nat.reduceLT,n1,eL,eL',hz,ne_eq,not_false_eq_true,decide_true]
  | succ dd ih =>
    intro k f hk hf
    obtain ⟨f,rfl⟩:∃ g,f=g+1:=⟨f - 1,by omega⟩
    have ih:=ih (k+1) f (by omega) (by omega)
    have n1:((k:Nat):Int) < 6:=by omega
    obtain ⟨v,ev,v1,v2⟩:=q7l (code:=code) hc (k:Nat) 90 (by omega)
    have v2:=v2 (by omega)
    have w0:Int.tmod ((k:Nat):Int) 3=((k % 3:Nat):Int):=by rw [Int.tmod_eq_emod_of_nonneg (by omega)]; omega
    have w1:IntKind.wrap .i64 (1+((k % 3:Nat):Int))=1+((k % 3:Nat):Int):=q1z (by omega)
    have w2:IntKind.wrap .i64 (100*((k:Nat):Int))=100*((k:Nat):Int):=q1z (by omega)
    have w3:IntKind.wrap .i64 (100*((k:Nat):Int)+v)=100*((k:Nat):Int)+v:=q1z (by omega)
    have eA:=(q5v ⟨l⟩ (1+((k % 3:Nat):Int)) (100*((k:Nat):Int)+v) s1).eq
    have hsA:=qjg ⟨l⟩ (1+((k % 3:Nat):Int)) (100*((k:Nat):Int)+v) s1
    generalize hAR:q9x ⟨l⟩ (1+((k % 3:Nat):Int)) (100*((k:Nat):Int)+v)=AR at *
    obtain ⟨ac,⟨z,tb⟩⟩:=AR
    have smt:sm 4294967296 tb:=q38 (by omega) hsA
    rw [q67] at eA
    have eh:=(q75 l z tb (by omega) smt [⟨a,b⟩,⟨c,d⟩] ⟨by simp,fun x hx=>by
     rcases List.mem_cons.1 hx with rfl | hx
     · exact q38 (by omega) so
     · rw [List.mem_singleton.1 hx]; exact q38 (by omega) si⟩).eq
    have ei:=(q8d l z tb (by omega) smt ⟨pl,pr⟩ sp).eq
    rw [q6i] at eh ei
    by_cases c2:(qav ⟨l⟩ ⟨z,tb⟩ [⟨a,b⟩,⟨c,d⟩]).value=1
    · rw [hval z tb c2] at ei
      simp only [q0t.next0,q0t.round0,evz,Nat.reduceLT,n1,ev.eq,w0,w1,w2,w3,eA,eh,c2,ei,ne_eq,not_true_eq_false]
      rw [q0o (by omega)]
      exact ih
    · simp only [q0t.next0,q0t.round0,evz,Nat.reduceLT,n1,ev.eq,w0,w1,w2,w3,eA,eh,c2]
      rw [q0o (by omega)]
      exact ih
 refine q0v rfl 40 ((q0t.ev _ _).trans ?_)
 simp only [evz,Nat.reduceLT,(q7c (code:=code)).eq,hbig,ed.eq,eP,eP',bne_self_eq_false,ne_eq,not_true_eq_false,eE]
 exact key 6 0 40 (by omega) (by omega)
end Ev.Ty
end
