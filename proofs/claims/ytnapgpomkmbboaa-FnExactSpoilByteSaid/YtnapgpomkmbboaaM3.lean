/- Steps on the way to RowSpoilByte: TyPlumb, TyNum, TyDisk, TyDisk2, TyFlush, TySpoil, TyLSpoilByte. -/
import Derived.Test.YtnapgpomkmbboaaM2
set_option linter.unusedSectionVars false
section
namespace Ev.Ty
open Go Ev
open Enc (enc)
open Sm (sm)
set_option linter.unusedVariables false
set_option linter.unusedSimpArgs false
theorem laws_toByteS (l:List UInt8) (hs:sm 4294967296 l):Call F.laws_toByteS [slc l] (slc l):=by
 have loop:=to_loop (l:=l) (S:=fun m k o=>laws_toByteS.at0 (l.length+1) m (laws_toByteS.st0 (cells l) (k:Nat) (cells o))) (z:=slc l)
  (fun m k o h ho=>by
   simp only [laws_toByteS.next0,laws_toByteS.round0,evz,Nat.reduceLT,List.length_replicate,h,ho,List.getElem?_eq_getElem,enc_int,enc_u8,enc_list]
   rw [set_UInt8 (by omega),wrap_succ (by have:=hs.1; omega)]
   simp only [cells_length,sz_int,sz_u8,sz_list,ho]
   rw [if_pos (by omega)])
  (fun m o ho=>by
   simp only [laws_toByteS.next0,laws_toByteS.round0,evz,Nat.reduceLT,Nat.lt_irrefl,ho])
 refine call_of rfl (l.length+1) ((laws_toByteS.ev _ _).trans ?_)
 simp only [cells_div,sz_int,sz_u8,sz_list,Int.toNat_natCast,rep_UInt8]
 rw [cond_pos (by have:=hs.1; simp; omega)]
 exact loop _ (by simp)
theorem laws_eqByteS (l r:List UInt8) (hs:sm 4294967296 l):Call F.laws_eqByteS [slc l,slc r] (.bool (decide (l=r))):=by
 refine call_of rfl (l.length+1) ((laws_eqByteS.ev _ _ _).trans ?_)
 simp only [cells_div,sz_int,sz_u8,sz_list]
 by_cases hl:l.length=r.length
 · have loop:=eq_loop hl (S:=fun m k=>laws_eqByteS.at0 (l.length+1) m (laws_eqByteS.st0 (cells l) (cells r) (k:Nat)))
    (fun m k h h'=>by
     simp only [laws_eqByteS.next0,laws_eqByteS.round0,evz,Nat.reduceLT,h,h',List.getElem?_eq_getElem,enc_int,enc_u8,enc_list]
     rw [wrap_succ (by have:=hs.1; omega)])
    (fun m=>by
     simp only [laws_eqByteS.next0,laws_eqByteS.round0,evz,Nat.reduceLT,Nat.lt_irrefl])
   rw [cond_neg (by rw [hl]; exact bne_self_eq_false _)]
   exact loop
 · rw [cond_pos (by simp; omega)]
   simp only [show (l=r)=False from eq_false fun e=>hl (e ▸ rfl),decide_false]
theorem laws_szByteS (l:List UInt8) (left:Int) (h0:0≤left) (h1:left≤1048576) (hs:sm maxLen l):∃ r,Call F.laws_szByteS [slc l,.int .i64 left] (.int .i64 r)∧r≤left∧(0≤r→sm 1048576 l):=by
 have hl:=hs.1
 have hw:IntKind.wrap .i64 (left - ((l.length:Nat):Int))=left - l.length:=wrap64 (by unfold maxLen at hl; omega)
 by_cases h:left - (l.length:Int) < 0
 · exact ⟨-1,call_of rfl 0 ((laws_szByteS.ev _ _ _).trans (by simp only [evz,Nat.reduceLT,hw,h])),by omega,by omega⟩
 · refine ⟨left - l.length,call_of rfl 0 ((laws_szByteS.ev _ _ _).trans (by simp only [evz,Nat.reduceLT,hw,h])),by omega,fun _=>⟨by omega,fun x hx=>trivial⟩⟩
theorem laws_markByteS (l:List UInt8) (k:Int) (h0:0≤k) (hk:k≤4611686018360279040) (hs:sm 67108864 l):∃ (l':List UInt8) (k':Int),LIM F.laws_markByteS [slc l,.int .i64 k]=some (.int .i64 k',[slc l'])∧k≤k'∧k'≤k+67108864∧LIM F.laws_heldByteS [slc l',.int .i64 k]=some (.int .i64 k',[]):=by
 obtain ⟨l',k',e,hl,hc,g,b⟩:=mark_loop (l:=l) (k:=k) (b:=1) (h:=fun (c:Int) (y:UInt8) (c':Int)=>(y.toNat:Int)=IntKind.wrap .u8 c∧c'=c+1∧0≤c∧c≤4611686018427387904) (S:=fun m c i o=>laws_markByteS.at0 (l.length+1) m (laws_markByteS.st0 c (i:Nat) (cells o))) (z:=fun c o=>some (.int .i64 c,[slc o]))
  (fun m c i o x hi ho hm hc1 hc2=>by
   have hx:=hs.2 x hm
   have hl:=hs.1
   have hio:i < l.length:=by omega
   skip
   obtain ⟨y0,v0⟩:∃ y:UInt8,IntKind.wrap .u8 c=(y.toNat:Int):=⟨_,u8_wrap _⟩
   have w0:IntKind.wrap .i64 (c+1)=c+1:=wrap64 (by omega)
   have hb0:i*1+1≤o.length*1:=by omega
   refine ⟨y0,c+1,?_,⟨v0.symm,rfl,by omega,by omega⟩,by omega,by omega⟩
   simp only [laws_markByteS.next0,laws_markByteS.round0,evz,Nat.reduceLT,List.length_set,List.getElem?_set_self hi,cells_le,hi,Nat.lt_irrefl,enc_int,enc_u8,enc_list,hb0,fset_UInt8 hi,w0,v0,List.set_set]
   rw [wrap_succ (by omega)])
  (fun m c o ho=>by simp only [laws_markByteS.next0,laws_markByteS.round0,evz,Nat.reduceLT,ho,Nat.lt_irrefl]) h0
  (l.length+1) (by omega)
 have hl1:=hs.1
 refine ⟨l',k',?_,by omega,by omega,?_⟩
 · refine call2_of rfl (l.length+1) ((laws_markByteS.ev _ _ _).trans ?_)
   exact e
 · refine call_of rfl (l'.length+1) ((laws_heldByteS.ev _ _ _).trans ?_)
   refine held_loop (l:=l') (S:=fun m c i=>laws_heldByteS.at0 (l'.length+1) m (laws_heldByteS.st0 (cells l') c (i:Nat))) (z:=fun c=>some (.int .i64 c,[]))
    (fun m c i c' hi => ?_)
    (fun m c=>by simp only [laws_heldByteS.next0,laws_heldByteS.round0,evz,Nat.reduceLT,Nat.lt_irrefl]) hc (by omega)
   rintro ⟨q0,qe,qa,qb⟩
   rw [qe]
   have w0:IntKind.wrap .i64 (c+1)=c+1:=wrap64 (by omega)
   simp only [laws_heldByteS.next0,laws_heldByteS.round0,evz,Nat.reduceLT,hi,List.getElem?_eq_getElem,enc_int,enc_u8,enc_list,q0,w0]
   rw [wrap_succ (by omega)]
theorem laws_toPut (v_sector:Int) (v_bytes:List UInt8) (hs:sm 4294967296 (Put.mk v_sector v_bytes)):Call F.laws_toPut [.agg [.int .i64 v_sector,slc v_bytes]] (.agg [.int .i64 v_sector,slc v_bytes]):=by
 refine call_of rfl 0 ((laws_toPut.ev _ _ _ ).trans ?_)
 simp only [evz,Nat.reduceLT,(laws_toByteS _ hs).eq]
theorem laws_eqPut (v_sector:Int) (v_bytes:List UInt8) (w_sector:Int) (w_bytes:List UInt8) (hs:sm 4294967296 (Put.mk v_sector v_bytes)):Call F.laws_eqPut [.agg [.int .i64 v_sector,slc v_bytes],.agg [.int .i64 w_sector,slc w_bytes]] (.bool (decide ((Put.mk v_sector v_bytes)=(Put.mk w_sector w_bytes)))):=by
 refine call_of rfl 0 ((laws_eqPut.ev _ _ _ _ _ ).trans ?_)
 simp only [evz,Nat.reduceLT,(laws_eqByteS _ _ hs).eq,Put.mk.injEq]
 by_cases h0:v_sector=w_sector
 case neg=>simp only [h0,  if_true,if_false,decide_false,cond_false,false_and,and_false]
 by_cases h1:v_bytes=w_bytes
 case neg=>simp only [h1,h0,  if_true,if_false,decide_false,cond_false,false_and,and_false]
 simp only [h0,h1,if_true,decide_true,cond_true,and_true,and_self]
theorem laws_szPut (v_sector:Int) (v_bytes:List UInt8) (left:Int) (h0:0≤left) (h1:left≤1048576) (hs:sm maxLen (Put.mk v_sector v_bytes)):∃ r,Call F.laws_szPut [.agg [.int .i64 v_sector,slc v_bytes],.int .i64 left] (.int .i64 r)∧r≤left∧(0≤r→sm 1048576 (Put.mk v_sector v_bytes)):=by
 obtain ⟨r0,c0,hr0,hp0⟩:=laws_szByteS v_bytes left h0 h1 (hs)
 by_cases n0:r0 < 0
 · exact ⟨-1,call_of rfl 0 ((laws_szPut.ev _ _ _ _ ).trans (by simp only [evz,Nat.reduceLT,c0.eq,n0])),by omega,by omega⟩
 exact ⟨r0,call_of rfl 0 ((laws_szPut.ev _ _ _ _ ).trans (by simp only [evz,Nat.reduceLT,c0.eq,n0])),by omega,fun _=>hp0 (by omega)⟩
theorem laws_toByteSS (l:List (List UInt8)) (hs:sm 4294967296 l):Call F.laws_toByteSS [slc l] (slc l):=by
 have loop:=to_loop (l:=l) (S:=fun m k o=>laws_toByteSS.at0 (l.length+1) m (laws_toByteSS.st0 (cells l) (k:Nat) (cells o))) (z:=slc l)
  (fun m k o h ho=>by
   simp only [laws_toByteSS.next0,laws_toByteSS.round0,evz,Nat.reduceLT,List.length_replicate,h,ho,(laws_toByteS l[k] (hs.2 _ (List.getElem_mem h))).eq,List.getElem?_eq_getElem,enc_int,enc_u8,enc_list]
   rw [set_List (by omega),wrap_succ (by have:=hs.1; omega)]
   simp only [cells_length,sz_int,sz_u8,sz_list,ho]
   rw [if_pos (by omega)])
  (fun m o ho=>by
   simp only [laws_toByteSS.next0,laws_toByteSS.round0,evz,Nat.reduceLT,Nat.lt_irrefl,ho])
 refine call_of rfl (l.length+1) ((laws_toByteSS.ev _ _).trans ?_)
 simp only [cells_div,sz_int,sz_u8,sz_list,Int.toNat_natCast,rep_List (α:=UInt8)]
 rw [cond_pos (by have:=hs.1; simp; omega)]
 exact loop _ (by simp)
theorem laws_eqByteSS (l r:List (List UInt8)) (hs:sm 4294967296 l):Call F.laws_eqByteSS [slc l,slc r] (.bool (decide (l=r))):=by
 refine call_of rfl (l.length+1) ((laws_eqByteSS.ev _ _ _).trans ?_)
 simp only [cells_div,sz_int,sz_u8,sz_list]
 by_cases hl:l.length=r.length
 · have loop:=eq_loop hl (S:=fun m k=>laws_eqByteSS.at0 (l.length+1) m (laws_eqByteSS.st0 (cells l) (cells r) (k:Nat)))
    (fun m k h h'=>by
     simp only [laws_eqByteSS.next0,laws_eqByteSS.round0,evz,Nat.reduceLT,h,h',(laws_eqByteS l[k] r[k] (hs.2 _ (List.getElem_mem h))).eq,List.getElem?_eq_getElem,enc_int,enc_u8,enc_list]
     rw [wrap_succ (by have:=hs.1; omega)])
    (fun m=>by
     simp only [laws_eqByteSS.next0,laws_eqByteSS.round0,evz,Nat.reduceLT,Nat.lt_irrefl])
   rw [cond_neg (by rw [hl]; exact bne_self_eq_false _)]
   exact loop
 · rw [cond_pos (by simp; omega)]
   simp only [show (l=r)=False from eq_false fun e=>hl (e ▸ rfl),decide_false]
theorem laws_szByteSS (l:List (List UInt8)) (left:Int) (h0:0≤left) (h1:left≤1048576) (hs:sm maxLen l):∃ r,Call F.laws_szByteSS [slc l,.int .i64 left] (.int .i64 r)∧r≤left∧(0≤r→sm 1048576 l):=by
 have hl:=hs.1
 have hw:IntKind.wrap .i64 (left - ((l.length:Nat):Int))=left - l.length:=wrap64 (by unfold maxLen at hl; omega)
 by_cases h:left - (l.length:Int) < 0
 · exact ⟨-1,call_of rfl 0 ((laws_szByteSS.ev _ _ _).trans (by simp only [evz,Nat.reduceLT,hw,h])),by omega,by omega⟩
 · obtain ⟨r,e,hr,hp⟩:=sz_loop (l:=l) (P:=sm 1048576) (S:=fun m k left=>laws_szByteSS.at0 (l.length+1) m (laws_szByteSS.st0 (cells l) left (k:Nat)))
    (fun m k left hk h0 h1=>by
     obtain ⟨r,c,hr,hp⟩:=laws_szByteS l[k] left h0 h1 (hs.2 _ (List.getElem_mem hk))
     refine ⟨r,hr,hp,?_⟩
     simp only [laws_szByteSS.next0,laws_szByteSS.round0,evz,Nat.reduceLT,hk,List.getElem?_eq_getElem,enc_list,c.eq]
     rw [wrap_succ (by unfold maxLen at hl; omega)])
    (fun m left=>by simp only [laws_szByteSS.next0,laws_szByteSS.round0,evz,Nat.reduceLT,Nat.lt_irrefl])
    (left - l.length) (by omega) (by omega)
   refine ⟨r,call_of rfl (l.length+1) ((laws_szByteSS.ev _ _ _).trans ?_),by omega,fun h=>⟨by omega,hp h⟩⟩
   simp only [cells_div,sz_list,hw,h,decide_false,cond_false]
   exact e
theorem laws_markByteSS (l:List (List UInt8)) (k:Int) (h0:0≤k) (hk:k≤4607182418800017408) (hs:sm 67108864 l):∃ (l':List (List UInt8)) (k':Int),LIM F.laws_markByteSS [slc l,.int .i64 k]=some (.int .i64 k',[slc l'])∧k≤k'∧k'≤k+4503599627370496∧LIM F.laws_heldByteSS [slc l',.int .i64 k]=some (.int .i64 k',[]):=by
 obtain ⟨l',k',e,hl,hc,g,b⟩:=mark_loop (l:=l) (k:=k) (b:=67108864) (h:=fun (c:Int) (y:(List UInt8)) (c':Int)=>∃ d0:Int,LIM F.laws_heldByteS [slc y,.int .i64 c]=some (.int .i64 d0,[])∧0≤d0∧c'=d0∧0≤c∧c≤4611686018427387904) (S:=fun m c i o=>laws_markByteSS.at0 (l.length+1) m (laws_markByteSS.st0 c (i:Nat) (cells o))) (z:=fun c o=>some (.int .i64 c,[slc o]))
  (fun m c i o x hi ho hm hc1 hc2=>by
   have hx:=hs.2 x hm
   have hl:=hs.1
   have hio:i < l.length:=by omega
   skip
   obtain ⟨y0,k0,e0,g0,b0,z0⟩:=laws_markByteS x c (by omega) (by omega) hx
   have hb0:i*1+1≤o.length*1:=by omega
   refine ⟨y0,k0,?_,⟨k0,z0,by omega,rfl,by omega,by omega⟩,by omega,by omega⟩
   simp only [laws_markByteSS.next0,laws_markByteSS.round0,evz,Nat.reduceLT,List.length_set,List.getElem?_set_self hi,cells_le,hi,Nat.lt_irrefl,enc_int,enc_u8,enc_list,hb0,fset_List hi,fsets_List hi,e0,List.set_set]
   rw [wrap_succ (by omega)])
  (fun m c o ho=>by simp only [laws_markByteSS.next0,laws_markByteSS.round0,evz,Nat.reduceLT,ho,Nat.lt_irrefl]) h0
  (l.length+1) (by omega)
 have hl1:=hs.1
 refine ⟨l',k',?_,by omega,by omega,?_⟩
 · refine call2_of rfl (l.length+1) ((laws_markByteSS.ev _ _ _).trans ?_)
   exact e
 · refine call_of rfl (l'.length+1) ((laws_heldByteSS.ev _ _ _).trans ?_)
   refine held_loop (l:=l') (S:=fun m c i=>laws_heldByteSS.at0 (l'.length+1) m (laws_heldByteSS.st0 (cells l') c (i:Nat))) (z:=fun c=>some (.int .i64 c,[]))
    (fun m c i c' hi => ?_)
    (fun m c=>by simp only [laws_heldByteSS.next0,laws_heldByteSS.round0,evz,Nat.reduceLT,Nat.lt_irrefl]) hc (by omega)
   rintro ⟨d0,q0,q1,qe,qa,qb⟩
   rw [qe]
   have n0:¬ d0 < 0:=by omega
   simp only [laws_heldByteSS.next0,laws_heldByteSS.round0,evz,Nat.reduceLT,hi,List.getElem?_eq_getElem,enc_int,enc_u8,enc_list,q0,n0]
   rw [wrap_succ (by omega)]
theorem laws_toPutS (l:List Put) (hs:sm 4294967296 l):Call F.laws_toPutS [slc l] (slc l):=by
 have loop:=to_loop (l:=l) (S:=fun m k o=>laws_toPutS.at0 (l.length+1) m (laws_toPutS.st0 (cells l) (k:Nat) (cells o))) (z:=slc l)
  (fun m k o h ho=>by
   simp only [laws_toPutS.next0,laws_toPutS.round0,evz,Nat.reduceLT,List.length_replicate,h,ho,(laws_toPut l[k].sector l[k].bytes (hs.2 _ (List.getElem_mem h))).eq,List.getElem?_eq_getElem,enc_Put]
   rw [set_Put (by omega),wrap_succ (by have:=hs.1; omega)]
   simp only [cells_length,sz_Put,sz_int,sz_u8,sz_list,ho]
   rw [if_pos (by omega)])
  (fun m o ho=>by
   simp only [laws_toPutS.next0,laws_toPutS.round0,evz,Nat.reduceLT,Nat.lt_irrefl,ho])
 refine call_of rfl (l.length+1) ((laws_toPutS.ev _ _).trans ?_)
 simp only [cells_div,sz_Put,sz_int,sz_u8,sz_list,Int.toNat_natCast,rep_Put]
 rw [cond_pos (by have:=hs.1; simp; omega)]
 exact loop _ (by simp)
theorem laws_eqPutS (l r:List Put) (hs:sm 4294967296 l):Call F.laws_eqPutS [slc l,slc r] (.bool (decide (l=r))):=by
 refine call_of rfl (l.length+1) ((laws_eqPutS.ev _ _ _).trans ?_)
 simp only [cells_div,sz_Put,sz_int,sz_u8,sz_list]
 by_cases hl:l.length=r.length
 · have loop:=eq_loop hl (S:=fun m k=>laws_eqPutS.at0 (l.length+1) m (laws_eqPutS.st0 (cells l) (cells r) (k:Nat)))
    (fun m k h h'=>by
     simp only [laws_eqPutS.next0,laws_eqPutS.round0,evz,Nat.reduceLT,h,h',(laws_eqPut l[k].sector l[k].bytes r[k].sector r[k].bytes (hs.2 _ (List.getElem_mem h))).eq,List.getElem?_eq_getElem,enc_Put]
     rw [wrap_succ (by have:=hs.1; omega)])
    (fun m=>by
     simp only [laws_eqPutS.next0,laws_eqPutS.round0,evz,Nat.reduceLT,Nat.lt_irrefl])
   rw [cond_neg (by rw [hl]; exact bne_self_eq_false _)]
   exact loop
 · rw [cond_pos (by simp; omega)]
   simp only [show (l=r)=False from eq_false fun e=>hl (e ▸ rfl),decide_false]
theorem laws_szPutS (l:List Put) (left:Int) (h0:0≤left) (h1:left≤1048576) (hs:sm maxLen l):∃ r,Call F.laws_szPutS [slc l,.int .i64 left] (.int .i64 r)∧r≤left∧(0≤r→sm 1048576 l):=by
 have hl:=hs.1
 have hw:IntKind.wrap .i64 (left - ((l.length:Nat):Int))=left - l.length:=wrap64 (by unfold maxLen at hl; omega)
 by_cases h:left - (l.length:Int) < 0
 · exact ⟨-1,call_of rfl 0 ((laws_szPutS.ev _ _ _).trans (by simp only [evz,Nat.reduceLT,hw,h])),by omega,by omega⟩
 · obtain ⟨r,e,hr,hp⟩:=sz_loop (l:=l) (P:=sm 1048576) (S:=fun m k left=>laws_szPutS.at0 (l.length+1) m (laws_szPutS.st0 (cells l) left (k:Nat)))
    (fun m k left hk h0 h1=>by
     obtain ⟨r,c,hr,hp⟩:=laws_szPut l[k].sector l[k].bytes left h0 h1 (hs.2 _ (List.getElem_mem hk))
     refine ⟨r,hr,hp,?_⟩
     simp only [laws_szPutS.next0,laws_szPutS.round0,evz,Nat.reduceLT,hk,List.getElem?_eq_getElem,enc_Put,c.eq]
     rw [wrap_succ (by unfold maxLen at hl; omega)])
    (fun m left=>by simp only [laws_szPutS.next0,laws_szPutS.round0,evz,Nat.reduceLT,Nat.lt_irrefl])
    (left - l.length) (by omega) (by omega)
   refine ⟨r,call_of rfl (l.length+1) ((laws_szPutS.ev _ _ _).trans ?_),by omega,fun h=>⟨by omega,hp h⟩⟩
   simp only [cells_div,sz_Put,sz_list,hw,h,decide_false,cond_false]
   exact e
theorem laws_markPutS (l:List Put) (k:Int) (h0:0≤k) (hk:k≤4607182418732908544) (hs:sm 67108864 l):∃ (l':List Put) (k':Int),LIM F.laws_markPutS [slc l,.int .i64 k]=some (.int .i64 k',[slc l'])∧k≤k'∧k'≤k+4503599694479360∧LIM F.laws_heldPutS [slc l',.int .i64 k]=some (.int .i64 k',[]):=by
 obtain ⟨l',k',e,hl,hc,g,b⟩:=mark_loop (l:=l) (k:=k) (b:=67108865) (h:=fun (c:Int) (y:Put) (c':Int)=>∃ d1:Int,y.sector=c∧LIM F.laws_heldByteS [slc y.bytes,.int .i64 (c+1)]=some (.int .i64 d1,[])∧0≤d1∧c'=d1∧0≤c∧c≤4611686018427387904) (S:=fun m c i o=>laws_markPutS.at0 (l.length+1) m (laws_markPutS.st0 c (i:Nat) (cells o))) (z:=fun c o=>some (.int .i64 c,[slc o]))
  (fun m c i o x hi ho hm hc1 hc2=>by
   have hx:=hs.2 x hm
   have hl:=hs.1
   have hio:i < l.length:=by omega
   obtain ⟨x_sector,x_bytes⟩:=x
   have w0:IntKind.wrap .i64 (c+1)=c+1:=wrap64 (by omega)
   obtain ⟨y1,k1,e1,g1,b1,z1⟩:=laws_markByteS x_bytes (c+1) (by omega) (by omega) hx
   have hb0:i*2+1≤o.length*2:=by omega
   have hb1:i*2+1+1≤o.length*2:=by omega
   refine ⟨⟨c,y1⟩,k1,?_,⟨k1,rfl,z1,by omega,rfl,by omega,by omega⟩,by omega,by omega⟩
   simp only [laws_markPutS.next0,laws_markPutS.round0,evz,Nat.reduceLT,List.length_set,List.getElem?_set_self hi,cells_le,hi,Nat.lt_irrefl,enc_Put,hb0,hb1,fset_Put_0 hi,fset_Put_1 hi,fsets_Put_1 hi,w0,e1,List.set_set]
   rw [wrap_succ (by omega)])
  (fun m c o ho=>by simp only [laws_markPutS.next0,laws_markPutS.round0,evz,Nat.reduceLT,ho,Nat.lt_irrefl]) h0
  (l.length+1) (by omega)
 have hl1:=hs.1
 refine ⟨l',k',?_,by omega,by omega,?_⟩
 · refine call2_of rfl (l.length+1) ((laws_markPutS.ev _ _ _).trans ?_)
   exact e
 · refine call_of rfl (l'.length+1) ((laws_heldPutS.ev _ _ _).trans ?_)
   refine held_loop (l:=l') (S:=fun m c i=>laws_heldPutS.at0 (l'.length+1) m (laws_heldPutS.st0 (cells l') c (i:Nat))) (z:=fun c=>some (.int .i64 c,[]))
    (fun m c i c' hi => ?_)
    (fun m c=>by simp only [laws_heldPutS.next0,laws_heldPutS.round0,evz,Nat.reduceLT,Nat.lt_irrefl]) hc (by omega)
   rintro ⟨d1,q0,q1,q2,qe,qa,qb⟩
   rw [qe]
   have w0:IntKind.wrap .i64 (c+1)=c+1:=wrap64 (by omega)
   have n1:¬ d1 < 0:=by omega
   simp only [laws_heldPutS.next0,laws_heldPutS.round0,evz,Nat.reduceLT,hi,List.getElem?_eq_getElem,enc_Put,q0,q1,w0,n1]
   rw [wrap_succ (by omega)]
theorem laws_toDisk (v_sectors:List (List UInt8)) (v_pending:List Put) (hs:sm 4294967296 (Disk.mk v_sectors v_pending)):Call F.laws_toDisk [.agg [slc v_sectors,slc v_pending]] (.agg [slc v_sectors,slc v_pending]):=by
 refine call_of rfl 0 ((laws_toDisk.ev _ _ _ ).trans ?_)
 simp only [evz,Nat.reduceLT,(laws_toByteSS _ hs.1).eq,(laws_toPutS _ hs.2).eq]
theorem laws_eqDisk (v_sectors:List (List UInt8)) (v_pending:List Put) (w_sectors:List (List UInt8)) (w_pending:List Put) (hs:sm 4294967296 (Disk.mk v_sectors v_pending)):Call F.laws_eqDisk [.agg [slc v_sectors,slc v_pending],.agg [slc w_sectors,slc w_pending]] (.bool (decide ((Disk.mk v_sectors v_pending)=(Disk.mk w_sectors w_pending)))):=by
 refine call_of rfl 0 ((laws_eqDisk.ev _ _ _ _ _ ).trans ?_)
 simp only [evz,Nat.reduceLT,(laws_eqByteSS _ _ hs.1).eq,(laws_eqPutS _ _ hs.2).eq,Disk.mk.injEq]
 by_cases h0:v_sectors=w_sectors
 case neg=>simp only [h0,  if_true,if_false,decide_false,cond_false,false_and,and_false]
 by_cases h1:v_pending=w_pending
 case neg=>simp only [h1,h0,  if_true,if_false,decide_false,cond_false,false_and,and_false]
 simp only [h0,h1,if_true,decide_true,cond_true,and_true,and_self]
theorem laws_szDisk (v_sectors:List (List UInt8)) (v_pending:List Put) (left:Int) (h0:0≤left) (h1:left≤1048576) (hs:sm maxLen (Disk.mk v_sectors v_pending)):∃ r,Call F.laws_szDisk [.agg [slc v_sectors,slc v_pending],.int .i64 left] (.int .i64 r)∧r≤left∧(0≤r→sm 1048576 (Disk.mk v_sectors v_pending)):=by
 obtain ⟨r0,c0,hr0,hp0⟩:=laws_szByteSS v_sectors left h0 h1 (hs.1)
 by_cases n0:r0 < 0
 · exact ⟨-1,call_of rfl 0 ((laws_szDisk.ev _ _ _ _ ).trans (by simp only [evz,Nat.reduceLT,c0.eq,n0])),by omega,by omega⟩
 obtain ⟨r1,c1,hr1,hp1⟩:=laws_szPutS v_pending r0 (by omega) (by omega) (hs.2)
 by_cases n1:r1 < 0
 · exact ⟨-1,call_of rfl 0 ((laws_szDisk.ev _ _ _ _ ).trans (by simp only [evz,Nat.reduceLT,c0.eq,c1.eq,n0,n1])),by omega,by omega⟩
 exact ⟨r1,call_of rfl 0 ((laws_szDisk.ev _ _ _ _ ).trans (by simp only [evz,Nat.reduceLT,c0.eq,c1.eq,n0,n1])),by omega,fun _=>⟨hp0 (by omega),hp1 (by omega)⟩⟩
theorem laws_markDisk (v_sectors:List (List UInt8)) (v_pending:List Put) (k:Int) (h0:0≤k) (hk:k≤4602678819105538048) (hs:sm 67108864 (Disk.mk v_sectors v_pending)):∃ (u_sectors:List (List UInt8)) (u_pending:List Put) (k':Int),LIM F.laws_markDisk [.agg [slc v_sectors,slc v_pending],.int .i64 k]=some (.int .i64 k',[.agg [slc u_sectors,slc u_pending]])∧k≤k'∧k'≤k+9007199321849856∧LIM F.laws_heldDisk [.agg [slc u_sectors,slc u_pending],.int .i64 k]=some (.int .i64 k',[]):=by
 obtain ⟨u_sectors,c_sectors,e_sectors,g_sectors,b_sectors,z_sectors⟩:=laws_markByteSS v_sectors k (by omega) (by omega) (hs.1)
 have n_sectors:¬ c_sectors < 0:=by omega
 obtain ⟨u_pending,c_pending,e_pending,g_pending,b_pending,z_pending⟩:=laws_markPutS v_pending c_sectors (by omega) (by omega) (hs.2)
 have n_pending:¬ c_pending < 0:=by omega
 refine ⟨u_sectors,u_pending,c_pending,call2_of rfl 0 ((laws_markDisk.ev _ _ _ _ ).trans ?_),by omega,by omega,call_of rfl 0 ((laws_heldDisk.ev _ _ _ _ ).trans ?_)⟩
 · simp only [evz,Nat.reduceLT,e_sectors,e_pending]
 · simp only [evz,Nat.reduceLT,z_sectors,n_sectors,z_pending,n_pending]
theorem laws_eqDiskResult (v_code:Int) (v_disk_sectors:List (List UInt8)) (v_disk_pending:List Put) (w_code:Int) (w_disk_sectors:List (List UInt8)) (w_disk_pending:List Put) (hs:sm 4294967296 (DiskResult.mk v_code (Disk.mk v_disk_sectors v_disk_pending))):Call F.laws_eqDiskResult [.agg [.int .i64 v_code,slc v_disk_sectors,slc v_disk_pending],.agg [.int .i64 w_code,slc w_disk_sectors,slc w_disk_pending]] (.bool (decide ((DiskResult.mk v_code (Disk.mk v_disk_sectors v_disk_pending))=(DiskResult.mk w_code (Disk.mk w_disk_sectors w_disk_pending))))):=by
 refine call_of rfl 0 ((laws_eqDiskResult.ev _ _ _ _ _ _ _ ).trans ?_)
 simp only [evz,Nat.reduceLT,(laws_eqDisk _ _ _ _ hs).eq,DiskResult.mk.injEq]
 by_cases h0:v_code=w_code
 case neg=>simp only [h0,  if_true,if_false,decide_false,cond_false,false_and,and_false]
 by_cases h1:(Disk.mk v_disk_sectors v_disk_pending)=(Disk.mk w_disk_sectors w_disk_pending)
 case neg=>simp only [h1,h0,  if_true,if_false,decide_false,cond_false,false_and,and_false]
 simp only [h0,h1,if_true,decide_true,cond_true,and_true,and_self]
theorem laws_markDiskResult (v_code:Int) (v_disk_sectors:List (List UInt8)) (v_disk_pending:List Put) (k:Int) (h0:0≤k) (hk:k≤4602678819105538048) (hs:sm 67108864 (DiskResult.mk v_code (Disk.mk v_disk_sectors v_disk_pending))):∃ (u_disk_sectors:List (List UInt8)) (u_disk_pending:List Put) (k':Int),LIM F.laws_markDiskResult [.agg [.int .i64 v_code,slc v_disk_sectors,slc v_disk_pending],.int .i64 k]=some (.int .i64 k',[.agg [.int .i64 v_code,slc u_disk_sectors,slc u_disk_pending]])∧k≤k'∧k'≤k+9007199321849856∧LIM F.laws_heldDiskResult [.agg [.int .i64 v_code,slc u_disk_sectors,slc u_disk_pending],.int .i64 k]=some (.int .i64 k',[]):=by
 obtain ⟨u_disk_sectors,u_disk_pending,c_disk,e_disk,g_disk,b_disk,z_disk⟩:=laws_markDisk v_disk_sectors v_disk_pending k (by omega) (by omega) (hs)
 have n_disk:¬ c_disk < 0:=by omega
 refine ⟨u_disk_sectors,u_disk_pending,c_disk,call2_of rfl 0 ((laws_markDiskResult.ev _ _ _ _ _ ).trans ?_),by omega,by omega,call_of rfl 0 ((laws_heldDiskResult.ev _ _ _ _ _ ).trans ?_)⟩
 · simp only [evz,Nat.reduceLT,e_disk]
 · simp only [evz,Nat.reduceLT,z_disk,n_disk]
end Ev.Ty
end
section
namespace Ev.Ty
open Go Ev
open Enc (enc)
open Sm (sm)
set_option linter.unusedSimpArgs false
def inR (n a b:Int):Bool:=decide (a≤n∧n≤b)
theorem impl_within (n a b:Int):Call F.impl_within [.int .i64 n,.int .i64 a,.int .i64 b] (.bool (inR n a b)):=by
 refine call_of rfl 0 ((impl_within.ev _ _ _ _).trans ?_)
 simp only [evz,Nat.reduceLT,inR,ge_iff_le]
 by_cases h:a≤n <;> simp [h]
theorem spec_l1In (n a b:Int):Call F.spec_l1In [.int .i64 n,.int .i64 a,.int .i64 b] (.bool (inR n a b)):=by
 refine call_of rfl 0 ((spec_l1In.ev _ _ _ _).trans ?_)
 simp only [evz,Nat.reduceLT,inR,ge_iff_le]
 by_cases h:a≤n <;> simp [h]
def twice {β:Type} [DecidableEq β] (l:List β):Bool := !decide l.Nodup
theorem twice_iff {β:Type} [DecidableEq β] (l:List β):twice l=true↔∃ i j,j < i∧∃ (h:i < l.length) (h':j < l.length),l[i]=l[j]:=by
 unfold twice
 rw [Bool.not_eq_true',decide_eq_false_iff_not,List.Nodup,List.pairwise_iff_getElem]
 constructor
 · intro h
   simp only [Classical.not_forall] at h
   obtain ⟨i,j,h1,h2,h3,h4⟩:=h
   simp only [ne_eq,Classical.not_not] at h4
   exact ⟨j,i,h3,h2,h1,h4.symm⟩
 · rintro ⟨i,j,h1,h2,h3,h4⟩ h
   exact h j i h3 h2 h1 h4.symm
theorem twice_first {α β:Type} [DecidableEq β] (f:α→β) (l:List α):((List.range l.length).any fun k=>l[k]?.any fun x=>decide (idx (fun y=>decide (f y=f x)) l≠(k:Nat)))=twice (l.map f):=by
 rw [Bool.eq_iff_iff,twice_iff]
 simp only [List.any_eq_true,List.mem_range,List.length_map,List.getElem_map]
 constructor
 · rintro ⟨k,hk,h⟩
   rw [List.getElem?_eq_getElem hk,Option.any_some] at h
   simp only [decide_eq_true_eq] at h
   rcases idx_spec (fun y=>decide (f y=f l[k])) l with ⟨_,h1⟩ | ⟨i,hi,h1,h2,h3⟩
   · have:=h1 l[k] (List.getElem_mem hk)
     simp at this
   · rw [h1] at h
     simp only [decide_eq_true_eq] at h2
     rcases Nat.lt_trichotomy i k with hlt | heq | hgt
     · exact ⟨k,i,hlt,hk,hi,h2.symm⟩
     · subst heq; simp at h
     · have:=h3 k hgt
       simp at this
 · rintro ⟨i,j,hji,hi,hj,he⟩
   refine ⟨i,hi,?_⟩
   rw [List.getElem?_eq_getElem hi,Option.any_some]
   simp only [decide_eq_true_eq]
   rcases idx_spec (fun y=>decide (f y=f l[i])) l with ⟨h0,_⟩ | ⟨k,hk,h1,h2,h3⟩
   · rw [h0]; omega
   · rw [h1]
     intro hk'
     have:k=i:=by omega
     subst this
     have:=h3 j hji
     simp [he] at this
theorem twice_pairs {α β:Type} [DecidableEq β] (f:α→β) (l:List α):((List.range l.length).any fun i=>(List.range i).any fun j=>l[i]?.any fun x=>l[j]?.any fun y=>decide (f x=f y))=twice (l.map f):=by
 rw [Bool.eq_iff_iff,twice_iff]
 simp only [List.any_eq_true,List.mem_range,List.length_map,List.getElem_map]
 constructor
 · rintro ⟨i,hi,j,hj,h⟩
   rw [List.getElem?_eq_getElem hi,List.getElem?_eq_getElem (show j < l.length by omega)] at h
   exact ⟨i,j,hj,hi,by omega,by simpa using h⟩
 · rintro ⟨i,j,hji,hi,hj,he⟩
   refine ⟨i,hi,j,hji,?_⟩
   rw [List.getElem?_eq_getElem hi,List.getElem?_eq_getElem hj]
   simpa using he
end Ev.Ty
end
section
namespace Ev.Ty
open Go Ev
open Enc (enc)
open Sm (sm)
set_option linter.unusedSimpArgs false
theorem slices_IndexFunc_SSbyte_at1_impl_DiskFault_1 (l:List (List UInt8)) (hs:sm 4294967296 l):Call F.slices_IndexFunc_SSbyte [slc l,.clo F.impl_DiskFault_1 []] (.int .i64 (idx (fun x=>decide (x.length≠96)) l)):=by
 refine call_of rfl (l.length+1) ((slices_IndexFunc_SSbyte_at1_impl_DiskFault_1.ev _ _).trans ?_)
 refine idx_loop (S:=fun m k=>slices_IndexFunc_SSbyte_at1_impl_DiskFault_1.at0 (l.length+1) m (slices_IndexFunc_SSbyte_at1_impl_DiskFault_1.st0 (cells l) _ (k:Nat))) (fun m k h => ?_) (fun m => ?_) (Nat.lt_succ_self _)
 · have hlk:l[k]?=some l[k]:=List.getElem?_eq_getElem h
   have hc:Call F.impl_DiskFault_1 [slc l[k]] (.bool (decide (l[k].length≠96))):=by
    refine call_of rfl 0 ((impl_DiskFault_1.ev _ _).trans ?_)
    simp only [evz,Nat.reduceLT]
    congr 3
    rw [Bool.eq_iff_iff]; simp; omega
   simp only [slices_IndexFunc_SSbyte_at1_impl_DiskFault_1.next0,slices_IndexFunc_SSbyte_at1_impl_DiskFault_1.round0,evz,Nat.reduceLT,h,hlk,enc_list,hc.eq]
   rw [wrap_succ (by have:=hs.1; omega)]
   simp only [decide_eq_true_eq]
 · simp only [slices_IndexFunc_SSbyte_at1_impl_DiskFault_1.next0,slices_IndexFunc_SSbyte_at1_impl_DiskFault_1.round0,evz,Nat.reduceLT,Nat.lt_irrefl]
theorem slices_ContainsFunc_SSbyte_at1_impl_DiskFault_1 (l:List (List UInt8)) (hs:sm 4294967296 l):Call F.slices_ContainsFunc_SSbyte [slc l,.clo F.impl_DiskFault_1 []] (.bool (l.any fun x=>decide (x.length≠96))):=by
 refine call_of rfl 0 ((slices_ContainsFunc_SSbyte_at1_impl_DiskFault_1.ev _ _).trans ?_)
 simp only [evz,Nat.reduceLT,(slices_IndexFunc_SSbyte_at1_impl_DiskFault_1 l hs).eq,idx_nonneg]
theorem slices_IndexFunc_SPut_at1_impl_Disk_putFor_1 (l:List Put) (hs:sm 4294967296 l) (n:Int):Call F.slices_IndexFunc_SPut [slc l,.clo F.impl_Disk_putFor_1 [.rref [.int .i64 n] 0]] (.int .i64 (idx (fun x=>decide (x.sector=n)) l)):=by
 refine call_of rfl (l.length+1) ((slices_IndexFunc_SPut_at1_impl_Disk_putFor_1.ev _ _ _).trans ?_)
 refine idx_loop (S:=fun m k=>slices_IndexFunc_SPut_at1_impl_Disk_putFor_1.at0 (l.length+1) m (slices_IndexFunc_SPut_at1_impl_Disk_putFor_1.st0 (cells l) n _ (k:Nat))) (fun m k h => ?_) (fun m => ?_) (Nat.lt_succ_self _)
 · have hlk:l[k]?=some l[k]:=List.getElem?_eq_getElem h
   have hc:Call F.impl_Disk_putFor_1 [.agg [.int .i64 l[k].sector,slc l[k].bytes],.rref [.int .i64 n] 0] (.bool (decide (l[k].sector=n))):=by
    refine call_of rfl 0 ((impl_Disk_putFor_1.ev _ _ _ _).trans ?_)
    simp only [evz,Nat.reduceLT]
   simp only [slices_IndexFunc_SPut_at1_impl_Disk_putFor_1.next0,slices_IndexFunc_SPut_at1_impl_Disk_putFor_1.round0,evz,Nat.reduceLT,h,hlk,enc_Put,hc.eq]
   rw [wrap_succ (by have:=hs.1; omega)]
   simp only [decide_eq_true_eq]
 · simp only [slices_IndexFunc_SPut_at1_impl_Disk_putFor_1.next0,slices_IndexFunc_SPut_at1_impl_Disk_putFor_1.round0,evz,Nat.reduceLT,Nat.lt_irrefl]
theorem impl_Disk_putFor (s:List (List UInt8)) (l:List Put) (hs:sm 4294967296 l) (n:Int):Call F.impl_Disk_putFor [.agg [slc s,slc l],.int .i64 n] (.int .i64 (idx (fun x=>decide (x.sector=n)) l)):=by
 refine call_of rfl 0 ((impl_Disk_putFor.ev _ _ _ _).trans ?_)
 simp only [evz,Nat.reduceLT,(slices_IndexFunc_SPut_at1_impl_Disk_putFor_1 l hs n).eq]
theorem impl_Disk_has (s:List (List UInt8)) (l:List Put) (hs:sm 4294967296 s) (n:Int):Call F.impl_Disk_has [.agg [slc s,slc l],.int .i64 n] (.bool (inR n 0 (s.length - 1))):=by
 refine call_of rfl 0 ((impl_Disk_has.ev _ _ _ _).trans ?_)
 have hl:=hs.1
 simp only [evz,Nat.reduceLT,wrap64 (x:=(s.length:Int) - 1) (by omega),(impl_within _ _ _).eq]
def putFault (n:Nat) (p:Put):Option Int :=
 if inR p.sector 0 (n - 1)=false then some 3 else if p.bytes.length≠96 then some 1 else none
def diskFault (d:Disk):Int :=
 if inR d.sectors.length 8 64=false then 2
 else if d.sectors.any (fun x=>decide (x.length≠96)) then 1
 else if d.pending.length > d.sectors.length then 2
 else match d.pending.findSome? (putFault d.sectors.length) with
  | some c=>c
  | none=>if twice (d.pending.map (·.sector)) then 6 else 0
theorem impl_DiskFault (s:List (List UInt8)) (p:List Put) (hs:sm 4294967296 (Disk.mk s p)):Call F.impl_DiskFault [.agg [slc s,slc p]] (.int .i64 (diskFault ⟨s,p⟩)):=by
 have hp:p.length≤4294967296:=hs.2.1
 refine call_of rfl (p.length+1) ((impl_DiskFault.ev _ _ _).trans ?_)
 simp only [evz,Nat.reduceLT,(impl_within _ _ _).eq,diskFault]
 cases h1:inR s.length 8 64 with
 | false=>simp only [evz,Nat.reduceLT,if_true]
 | true =>
   simp only [evz,Nat.reduceLT,Bool.true_eq_false,if_false,(slices_ContainsFunc_SSbyte_at1_impl_DiskFault_1 s hs.1).eq]
   cases h2:s.any fun x=>decide (x.length≠96) with
   | true=>simp only [evz,Nat.reduceLT,if_true]
   | false =>
     simp only [evz,Nat.reduceLT,Bool.false_eq_true,if_false,gt_iff_lt]
     by_cases h3:s.length < p.length
     · simp only [h3,if_true]
     · simp only [h3,if_false]
       have two:=any_loop (n:=p.length) (bad:=fun k=>p[k]?.any fun x=>decide (idx (fun y=>decide (y.sector=x.sector)) p≠(k:Nat)))
        (S:=fun m k=>impl_DiskFault.at2 (p.length+1) m (impl_DiskFault.st2 (cells p) p.length (k:Nat) (cells s) (cells p))) (r:=some (.int .i64 6,[])) (z:=some (.int .i64 0,[]))
        (fun m k h=>by
         have hlk:p[k]?=some p[k]:=List.getElem?_eq_getElem h
         simp only [impl_DiskFault.next2,impl_DiskFault.round2,evz,Nat.reduceLT,h,hlk,enc_Put,(impl_Disk_putFor s p hs.2 _).eq]
         rw [wrap_succ (by omega)]
         by_cases e:idx (fun y=>decide (y.sector=p[k].sector)) p=(k:Int) <;> simp [e])
        (fun m=>by simp only [impl_DiskFault.next2,impl_DiskFault.round2,evz,Nat.reduceLT,Nat.lt_irrefl]) (Nat.lt_succ_self _)
       have one:=scan_loop (l:=p) (g:=fun x=>(putFault s.length x).map fun c=>some (.int .i64 c,[]))
        (S:=fun m k=>impl_DiskFault.at0 (p.length+1) m (impl_DiskFault.st0 (cells p) p.length (k:Nat) (cells s) (cells p)))
        (fun m k h=>by
         have hlk:p[k]?=some p[k]:=List.getElem?_eq_getElem h
         simp only [impl_DiskFault.next0,impl_DiskFault.round0,evz,Nat.reduceLT,h,hlk,enc_Put,(impl_Disk_has s p hs.1 _).eq]
         rw [wrap_succ (by omega)]
         cases h5:inR p[k].sector 0 (s.length - 1) with
         | false=>simp [putFault,h5]
         | true =>
           by_cases h6:p[k].bytes.length=96
           · simp [putFault,h5,h6]
           · have:¬ ((p[k].bytes.length:Int)=96):=by omega
             simp [putFault,h5,h6,this])
        (fun m=>by simp only [impl_DiskFault.next0,impl_DiskFault.round0,evz,Nat.reduceLT,Nat.lt_irrefl]; rfl) (Nat.lt_succ_self _)
       refine one.trans ?_
       rw [show impl_DiskFault.at2 (p.length+1) (p.length+1) (impl_DiskFault.st2 (cells p) p.length 0 (cells s) (cells p))=_ from two,twice_first (fun y:Put=>y.sector),findSome_map]
       cases p.findSome? (putFault s.length) with
       | some c=>rfl
       | none=>cases twice (p.map fun x=>x.sector) <;> rfl
theorem spec_DiskFault (s:List (List UInt8)) (p:List Put) (hs:sm 4294967296 (Disk.mk s p)):Call F.spec_DiskFault [.agg [slc s,slc p]] (.int .i64 (diskFault ⟨s,p⟩)):=by
 have hp:p.length≤4294967296:=hs.2.1
 have hl:s.length≤4294967296:=hs.1.1
 obtain ⟨n,hn⟩:∃ n,n=s.length+p.length+1:=⟨_,rfl⟩
 refine call_of rfl n ((spec_DiskFault.ev _ _ _).trans ?_)
 simp only [evz,Nat.reduceLT,(spec_l1In _ _ _).eq,diskFault]
 cases h1:inR s.length 8 64 with
 | false=>simp only [evz,Nat.reduceLT,if_true]
 | true =>
   simp only [evz,Nat.reduceLT,Bool.true_eq_false,if_false,gt_iff_lt]
   have four:=any_loop (n:=p.length) (bad:=fun i=>(List.range i).any fun j=>p[i]?.any fun x=>p[j]?.any fun y=>decide (x.sector=y.sector))
    (S:=fun m i=>spec_DiskFault.at4 n m (spec_DiskFault.st4 (i:Nat) (cells s) (cells p))) (r:=some (.int .i64 6,[])) (z:=some (.int .i64 0,[]))
    (fun m i h=>by
     have hlk:p[i]?=some p[i]:=List.getElem?_eq_getElem h
     simp only [spec_DiskFault.next4,spec_DiskFault.round4,evz,Nat.reduceLT,h]
     refine any_loop (n:=i) (f:=n) (bad:=fun j=>p[i]?.any fun x=>p[j]?.any fun y=>decide (x.sector=y.sector))
      (S:=fun m' j=>spec_DiskFault.at6 n (spec_DiskFault.at4 n m) m' (spec_DiskFault.st6 (i:Nat) (j:Nat) (cells s) (cells p))) (fun m' j hj => ?_) (fun m' => ?_) (by omega)
     · have hj':j < p.length:=by omega
       have hjk:p[j]?=some p[j]:=List.getElem?_eq_getElem hj'
       simp only [spec_DiskFault.next6,spec_DiskFault.round6,evz,Nat.reduceLT,h,hj,hj',hlk,hjk,enc_Put]
       rw [wrap_succ (by omega)]
       by_cases e:p[i].sector=p[j].sector <;> simp [e]
     · simp only [spec_DiskFault.next6,spec_DiskFault.round6,evz,Nat.reduceLT,Nat.lt_irrefl]
       rw [wrap_succ (by omega)])
    (fun m=>by simp only [spec_DiskFault.next4,spec_DiskFault.round4,evz,Nat.reduceLT,Nat.lt_irrefl]) (show p.length < n by omega)
   have two:=scan_loop (l:=p) (g:=fun x=>(putFault s.length x).map fun c=>some (.int .i64 c,[]))
    (S:=fun m k=>spec_DiskFault.at2 n m (spec_DiskFault.st2 s.length (k:Nat) (cells s) (cells p)))
    (fun m k h=>by
     have hlk:p[k]?=some p[k]:=List.getElem?_eq_getElem h
     simp only [spec_DiskFault.next2,spec_DiskFault.round2,evz,Nat.reduceLT,h,hlk,enc_Put,wrap64 (x:=(s.length:Int) - 1) (by omega),(spec_l1In _ _ _).eq]
     rw [wrap_succ (by omega)]
     cases h5:inR p[k].sector 0 (s.length - 1) with
     | false=>simp [putFault,h5]
     | true =>
       by_cases h6:p[k].bytes.length=96
       · simp [putFault,h5,h6]
       · have:¬ ((p[k].bytes.length:Int)=96):=by omega
         simp [putFault,h5,h6,this])
    (fun m=>by simp only [spec_DiskFault.next2,spec_DiskFault.round2,evz,Nat.reduceLT,Nat.lt_irrefl]; rfl) (show p.length < n by omega)
   have zero:=any_loopL (l:=s) (p:=fun x=>decide (x.length≠96)) (S:=fun m k=>spec_DiskFault.at0 n m (spec_DiskFault.st0 s.length (k:Nat) (cells s) (cells p))) (r:=some (.int .i64 1,[]))
    (fun m k h=>by
     have hlk:s[k]?=some s[k]:=List.getElem?_eq_getElem h
     simp only [spec_DiskFault.next0,spec_DiskFault.round0,evz,Nat.reduceLT,h,hlk,enc_list]
     rw [wrap_succ (by omega)]
     by_cases h6:s[k].length=96
     · simp [h6]
     · have:¬ ((s[k].length:Int)=96):=by omega
       simp [h6,this])
    (fun m=>by simp only [spec_DiskFault.next0,spec_DiskFault.round0,evz,Nat.reduceLT,Nat.lt_irrefl,gt_iff_lt]; rfl) (show s.length < n by omega)
   refine zero.trans ?_
   cases h2:s.any fun x=>decide (x.length≠96) with
   | true=>simp only [if_true]
   | false =>
     simp only [Bool.false_eq_true,if_false]
     by_cases h3:s.length < p.length
     · simp only [h3,if_true]
     · simp only [h3,if_false]
       refine two.trans ?_
       rw [show spec_DiskFault.at4 n n (spec_DiskFault.st4 0 (cells s) (cells p))=_ from four,findSome_map]
       cases p.findSome? (putFault s.length) with
       | some c=>rfl
       | none=>rw [twice_pairs fun x:Put=>x.sector]; cases twice (p.map fun x=>x.sector) <;> rfl
end Ev.Ty
end
section
namespace Ev.Ty
open Go Ev
open Enc (enc)
open Sm (sm)
set_option linter.unusedSimpArgs false
set_option linter.unusedVariables false
theorem inR8 {n a b:Int} (h:inR n a b=true):a≤n∧n≤b:=by unfold inR at h; simpa using h
theorem slices_Clone_Sbyte (l:List UInt8) (h:l.length≤4294967296):Call F.slices_Clone_Sbyte [slc l] (slc l):=by
 refine lim_ext (e:=cloneFE 1 1) rfl (Ev.of fun m => ?_)
 show (bif Nat.beq 1 1&&(cells l).all T.scalar&&decide ((cells l).length / 1*1≤140737488355328)&&decide ((cells l).length / 1≤maxLen) then some (slc l,[]) else none)=_
 rw [cond_pos]
 have hl:(cells l).length=l.length:=by rw [cells_length]; simp
 rw [scalars_u8,hl]
 have h1:decide (l.length / 1*1≤140737488355328)=true:=by rw [decide_eq_true_iff]; omega
 have h2:decide (l.length / 1≤maxLen)=true:=by rw [decide_eq_true_iff]; unfold maxLen; omega
 rw [h1,h2]; rfl
theorem spec_l1Copy (l:List UInt8) (h:l.length≤4294967296):Call F.spec_l1Copy [slc l] (slc l):=by
 refine call_of rfl 0 ((spec_l1Copy.ev _ _).trans ?_)
 rw [scalars_u8,cond_pos rfl,cond_pos (ble_ok (by rw [cells_length]; simp; omega))]
 rfl
theorem spec_l14Sector (s:List (List UInt8)) (l:List Put) (hs:s.length≤4294967296) (n:Int):Call F.spec_l14Sector [.rref [slc s,slc l] 0,.int .i64 n] (.bool (inR n 0 (s.length - 1))):=by
 refine call_of rfl 0 ((spec_l14Sector.ev _ _ _ _).trans ?_)
 simp only [evz,Nat.reduceLT,wrap64 (x:=(s.length:Int) - 1) (by omega),(spec_l1In _ _ _).eq]
end Ev.Ty
end
section
namespace Ev.Ty
open Go Ev
open Enc (enc)
open Sm (sm)
set_option linter.unusedSimpArgs false
set_option linter.unusedVariables false
theorem lset_List {α:Type} [Enc α] {o:List (List α)} {i:Nat} (hi:i < o.length) {w:List α}:List.set (cells o) (i*1) (slc w)=cells (o.set i w):=by
 have:=fsets_List (o:=o) hi (x:=o[i]) (w:=w)
 rwa [set_same (List.getElem?_eq_getElem hi)] at this
theorem cells_snoc {α:Type} [Enc α] (l:List α) (x:α):cells l++enc x=cells (l++[x]):=by rw [cells_append,enc_cells_one]
structure DiskOk (s:List (List UInt8)) (p:List Put):Prop where
 le:s.length≤64
 sec:∀ x∈s,x.length=96
 many:p.length≤s.length
 put:∀ x∈p,(0≤x.sector∧x.sector < s.length)∧x.bytes.length=96
theorem diskOk {s:List (List UInt8)} {p:List Put} (h:diskFault ⟨s,p⟩=0):DiskOk s p:=by
 unfold diskFault at h
 split at h
 · cases h
 · rename_i h1
   split at h
   · cases h
   · rename_i h2
     split at h
     · cases h
     · rename_i h3
       split at h
       · rename_i c hc
         obtain ⟨x,_,hx⟩:=List.exists_of_findSome?_eq_some hc
         unfold putFault at hx
         split at hx
         · cases hx; cases h
         · split at hx
           · cases hx; cases h
           · cases hx
       · rename_i hn
         have h1:=inR8 (by simpa using h1)
         have h12:(s.length:Int)≤64:=h1.2
         refine ⟨by omega,fun x hx => ?_,by simpa using h3,fun x hx => ?_⟩
         · have h2:=Bool.eq_false_iff.2 h2
           rw [List.any_eq_false] at h2
           simpa using h2 x hx
         · have:=List.findSome?_eq_none_iff.1 hn x hx
           unfold putFault at this
           split at this
           · cases this
           · rename_i q1
             split at this
             · cases this
             · rename_i q2
               have q1:=inR8 (by simpa using q1)
               have q3:(0:Int)≤x.sector:=q1.1
               have q4:x.sector≤(s.length:Int) - 1:=q1.2
               exact ⟨by omega,by simpa using q2⟩
theorem spec_l14Copy (s:List (List UInt8)) (p:List Put) (hs:sm 1048576 (Disk.mk s p)):Call F.spec_l14Copy [.rref [slc s,slc p] 0] (.agg [slc s,slc p]):=by
 have h1:s.length≤1048576:=hs.1.1
 have h2:p.length≤1048576:=hs.2.1
 refine call_of rfl (s.length+p.length+1) ((spec_l14Copy.ev _ _ _).trans ?_)
 refine run_loop (n:=s.length) (S:=fun m k o=>spec_l14Copy.at0 (s.length+p.length+1) m (spec_l14Copy.st0 (cells s) (cells p) (k:Nat) (cells o))) (st:=fun k=>s.take k) (fun m k h => ?_) (fun m => ?_) (by omega)
 · simp only [spec_l14Copy.next0,spec_l14Copy.round0,evz,Nat.reduceLT,h,List.getElem?_eq_getElem,enc_list,(spec_l1Copy s[k] (Nat.le_trans (hs.1.2 _ (List.getElem_mem h)).1 (by omega))).eq]
   rw [wrap_succ (by omega),cond_pos (ble_ok (by rw [cells_length,List.length_take]; simp only [sz_Put,sz_list]; omega)),cells_snoc_list,List.take_append_getElem h]
 · simp only [spec_l14Copy.next0,spec_l14Copy.round0,evz,Nat.reduceLT,Nat.lt_irrefl,List.take_length]
   refine run_loop (n:=p.length) (S:=fun m k o=>spec_l14Copy.at2 (s.length+p.length+1) m (spec_l14Copy.st2 (cells s) (cells p) (k:Nat) (cells s) (cells o))) (st:=fun k=>p.take k) (fun m k h => ?_) (fun m => ?_) (by omega)
   · have he:cells (p.take k)++[.int .i64 p[k].sector,slc p[k].bytes]=cells (p.take (k+1)):=by
      rw [← List.take_append_getElem h]; exact cells_snoc (p.take k) p[k]
     simp only [spec_l14Copy.next2,spec_l14Copy.round2,evz,Nat.reduceLT,h,List.getElem?_eq_getElem,enc_Put,(spec_l1Copy p[k].bytes (Nat.le_trans (hs.2.2 _ (List.getElem_mem h)).1 (by omega))).eq]
     rw [wrap_succ (by omega),cond_pos (ble_ok (by rw [cells_length,List.length_take]; simp only [sz_Put,sz_list]; omega)),he]
   · simp only [spec_l14Copy.next2,spec_l14Copy.round2,evz,Nat.reduceLT,Nat.lt_irrefl,List.take_length]
theorem impl_ownPuts (p:List Put) (hs:sm 1048576 p):Call F.impl_ownPuts [slc p] (slc p):=by
 have h2:=hs.1
 refine call_of rfl (p.length+1) ((impl_ownPuts.ev _ _).trans ?_)
 simp only [cells_div,sz_Put]
 refine run_loop (n:=p.length) (S:=fun m k o=>impl_ownPuts.at0 (p.length+1) m (impl_ownPuts.st0 (cells p) p.length (k:Nat) (cells o))) (st:=fun k=>p.take k) (fun m k h => ?_) (fun m => ?_) (by omega)
 · have he:cells (p.take k)++[.int .i64 p[k].sector,slc p[k].bytes]=cells (p.take (k+1)):=by
    rw [← List.take_append_getElem h]; exact cells_snoc (p.take k) p[k]
   simp only [impl_ownPuts.next0,impl_ownPuts.round0,evz,Nat.reduceLT,h,List.getElem?_eq_getElem,enc_Put,(slices_Clone_Sbyte p[k].bytes (Nat.le_trans (hs.2 _ (List.getElem_mem h)).1 (by omega))).eq]
   rw [wrap_succ (by omega),cond_pos (ble_ok (by rw [cells_length,List.length_take]; simp only [sz_Put,sz_list]; omega)),he]
 · simp only [impl_ownPuts.next0,impl_ownPuts.round0,evz,Nat.reduceLT,Nat.lt_irrefl,List.take_length]
theorem impl_ownDisk (s:List (List UInt8)) (p:List Put) (hs:sm 1048576 (Disk.mk s p)):Call F.impl_ownDisk [.agg [slc s,slc p]] (.agg [slc s,slc p]):=by
 have h1:s.length≤1048576:=hs.1.1
 refine call_of rfl (s.length+1) ((impl_ownDisk.ev _ _ _).trans ?_)
 simp only [evz,Nat.reduceLT,(impl_ownPuts p hs.2).eq]
 refine run_loop (n:=s.length) (S:=fun m k o=>impl_ownDisk.at0 (s.length+1) m (impl_ownDisk.st0 (cells s) s.length (k:Nat) (cells p) (cells o))) (st:=fun k=>s.take k) (fun m k h => ?_) (fun m => ?_) (by omega)
 · simp only [impl_ownDisk.next0,impl_ownDisk.round0,evz,Nat.reduceLT,h,List.getElem?_eq_getElem,enc_list,(slices_Clone_Sbyte s[k] (Nat.le_trans (hs.1.2 _ (List.getElem_mem h)).1 (by omega))).eq]
   rw [wrap_succ (by omega),cond_pos (ble_ok (by rw [cells_length,List.length_take]; simp only [sz_Put,sz_list]; omega)),cells_snoc_list,List.take_append_getElem h]
 · simp only [impl_ownDisk.next0,impl_ownDisk.round0,evz,Nat.reduceLT,Nat.lt_irrefl,List.take_length]
theorem cells_len1 {l:List UInt8}:(cells l).length=l.length:=by rw [cells_length,sz_u8,Nat.mul_one]
def mixed (b t:List UInt8) (j:Nat):List UInt8:=b.take j++t.drop j
end Ev.Ty
end
section
namespace Ev.Ty
open Go Ev
open Enc (enc)
open Sm (sm)
set_option linter.unusedSimpArgs false
set_option linter.unusedVariables false
def spoilt (b:UInt8) (y:Int):UInt8:=UInt8.ofNat (((b.toNat:Int)+y) % 256).toNat
theorem spoilt_nat (b:UInt8) (y:Int):((spoilt b y).toNat:Int)=((b.toNat:Int)+y) % 256:=by
 unfold spoilt
 rw [UInt8.toNat_ofNat']
 omega
theorem spoil_impl (b:UInt8) (y:Int):IntKind.wrap .u8 ((b.toNat:Int)+IntKind.wrap .u8 y)=((spoilt b y).toNat:Int):=by
 rw [spoilt_nat]
 show ((b.toNat:Int)+y % 256) % 256=_
 omega
theorem spoil_spec (b:UInt8) (y:Int) (h1:1≤y) (h2:y≤255):IntKind.wrap .u8 (Int.tmod (IntKind.wrap .i64 (IntKind.wrap .i64 (b.toNat:Int)+y)) 256)=((spoilt b y).toNat:Int):=by
 have hb:=b.toNat_lt
 rw [spoilt_nat,wrap64 (x:=(b.toNat:Int)) (by omega),wrap64 (by omega)]
 show (Int.tmod ((b.toNat:Int)+y) 256) % 256=_
 rw [Int.tmod_eq_emod_of_nonneg (by omega)]
 omega
def spoilR (d:Disk) (n a y:Int):DiskResult :=
 if diskFault d≠0 then ⟨diskFault d,⟨[],[]⟩⟩ else if inR n 0 (d.sectors.length - 1)=false∨inR a 0 95=false∨inR y 1 255=false then ⟨3,⟨[],[]⟩⟩
 else ⟨0,⟨d.sectors.set n.toNat ((d.sectors.getD n.toNat []).set a.toNat (spoilt ((d.sectors.getD n.toNat []).getD a.toNat 0) y)),d.pending⟩⟩
theorem spoilR_sm (d:Disk) (n a y:Int) (hs:sm 1048576 d):sm 67108864 (spoilR d n a y):=by
 unfold spoilR
 split
 · exact ⟨⟨by simp,by simp⟩,by simp,by simp⟩
 split
 · exact ⟨⟨by simp,by simp⟩,by simp,by simp⟩
 · rename_i h _
   have ok:=diskOk (s:=d.sectors) (p:=d.pending) (Classical.not_not.1 h)
   have hle:=ok.le
   refine ⟨⟨by show (List.set _ _ _).length≤_; rw [List.length_set]; omega,fun x hx=>⟨?_,fun _ _=>trivial⟩⟩,sm_mono (by omega) hs.2⟩
   rcases List.mem_or_eq_of_mem_set hx with hx | hx
   · have:=ok.sec x hx; omega
   · rw [hx,List.length_set]
     by_cases hn:n.toNat < d.sectors.length
     · have:d.sectors.getD n.toNat []=d.sectors[n.toNat]:=by rw [List.getD_eq_getElem?_getD,List.getElem?_eq_getElem hn]; rfl
       rw [this]
       have:=ok.sec _ (List.getElem_mem hn); omega
     · have:d.sectors.getD n.toNat []=[]:=by rw [List.getD_eq_getElem?_getD,List.getElem?_eq_none (by omega)]; rfl
       rw [this]; simp
theorem set_u8 {l:List UInt8} {i:Nat} (h:i < l.length) (b:UInt8):setCells (cells l) (i*1) [.int .u8 b.toNat]=cells (l.set i b):=cells_set l 1 i rfl b h
theorem impl_SpoilByte (d:Disk) (n a y:Int) (hs:sm 1048576 d):Call F.impl_SpoilByte [.agg (enc d),.int .i64 n,.int .i64 a,.int .i64 y] (.agg (enc (spoilR d n a y))):=by
 have h4:=sm_mono (show 1048576≤4294967296 by omega) hs
 obtain ⟨s,p⟩:=d
 refine call_of rfl 0 ((impl_SpoilByte.ev _ _ _ _ _ _).trans ?_)
 simp only [evz,Nat.reduceLT,(impl_DiskFault s p h4).eq,(impl_Disk_has s p h4.1 n).eq,(impl_within _ _ _).eq,spoilR]
 by_cases h0:diskFault ⟨s,p⟩=0
 case neg=>simp only [h0,evz,Nat.reduceLT,ne_eq,not_false_eq_true,enc_DiskResult,slc_nil]
 cases h1:inR n 0 (s.length - 1) with
 | false=>simp only [h0,evz,Nat.reduceLT,ne_eq,not_true_eq_false,Bool.not_false,true_or,enc_DiskResult,slc_nil]
 | true =>
   cases h2:inR a 0 95 with
   | false=>simp only [h0,evz,Nat.reduceLT,ne_eq,not_true_eq_false,Bool.not_false,Bool.not_true,true_or,or_true,enc_DiskResult,slc_nil]
   | true =>
     cases h3:inR y 1 255 with
     | false=>simp only [h0,evz,Nat.reduceLT,ne_eq,not_true_eq_false,Bool.not_false,Bool.not_true,or_true,enc_DiskResult,slc_nil]
     | true =>
       have q1:=inR8 h1
       have q2:=inR8 h2
       have q3:=inR8 h3
       have ok:=diskOk h0
       obtain ⟨k,rfl⟩:∃ k:Nat,n=k:=⟨n.toNat,by omega⟩
       obtain ⟨j,rfl⟩:∃ j:Nat,a=j:=⟨a.toNat,by omega⟩
       have hk:k < s.length:=by omega
       have hlk:s[k]?=some s[k]:=List.getElem?_eq_getElem hk
       have hsec:=ok.sec _ (List.getElem_mem hk)
       have hj:j < s[k].length:=by omega
       have hlj:s[k][j]?=some s[k][j]:=List.getElem?_eq_getElem hj
       have hd:s.getD k []=s[k]:=by rw [List.getD_eq_getElem?_getD,hlk]; rfl
       have hdj:s[k].getD j 0=s[k][j]:=by rw [List.getD_eq_getElem?_getD,hlj]; rfl
       have hc:j*1+1≤(cells s[k]).length:=by rw [cells_len1]; omega
       simp only [h0,evz,Nat.reduceLT,ne_eq,not_true_eq_false,Bool.not_true,or_self,(impl_ownDisk s p hs).eq,hk,hlk,hj,hlj,enc_list,enc_u8,hc,spoil_impl,set_u8 hj,lset_List hk,enc_DiskResult,hd,hdj,reduceCtorEq]
theorem spec_SpoilByte (d:Disk) (n a y:Int) (hs:sm 1048576 d):Call F.spec_SpoilByte [.agg (enc d),.int .i64 n,.int .i64 a,.int .i64 y] (.agg (enc (spoilR d n a y))):=by
 have h4:=sm_mono (show 1048576≤4294967296 by omega) hs
 obtain ⟨s,p⟩:=d
 refine call_of rfl 0 ((spec_SpoilByte.ev _ _ _ _ _ _).trans ?_)
 simp only [evz,Nat.reduceLT,(spec_DiskFault s p h4).eq,(spec_l14Sector s p h4.1.1 n).eq,(spec_l1In _ _ _).eq,spoilR]
 by_cases h0:diskFault ⟨s,p⟩=0
 case neg=>simp only [h0,evz,Nat.reduceLT,ne_eq,not_false_eq_true,enc_DiskResult,slc_nil]
 cases h1:inR n 0 (s.length - 1) with
 | false=>simp only [h0,evz,Nat.reduceLT,ne_eq,not_true_eq_false,Bool.not_false,true_or,enc_DiskResult,slc_nil]
 | true =>
   cases h2:inR a 0 95 with
   | false=>simp only [h0,evz,Nat.reduceLT,ne_eq,not_true_eq_false,Bool.not_false,Bool.not_true,true_or,or_true,enc_DiskResult,slc_nil]
   | true =>
     cases h3:inR y 1 255 with
     | false=>simp only [h0,evz,Nat.reduceLT,ne_eq,not_true_eq_false,Bool.not_false,Bool.not_true,or_true,enc_DiskResult,slc_nil]
     | true =>
       have q1:=inR8 h1
       have q2:=inR8 h2
       have q3:=inR8 h3
       have ok:=diskOk h0
       obtain ⟨k,rfl⟩:∃ k:Nat,n=k:=⟨n.toNat,by omega⟩
       obtain ⟨j,rfl⟩:∃ j:Nat,a=j:=⟨a.toNat,by omega⟩
       have hk:k < s.length:=by omega
       have hlk:s[k]?=some s[k]:=List.getElem?_eq_getElem hk
       have hsec:=ok.sec _ (List.getElem_mem hk)
       have hj:j < s[k].length:=by omega
       have hlj:s[k][j]?=some s[k][j]:=List.getElem?_eq_getElem hj
       have hd:s.getD k []=s[k]:=by rw [List.getD_eq_getElem?_getD,hlk]; rfl
       have hdj:s[k].getD j 0=s[k][j]:=by rw [List.getD_eq_getElem?_getD,hlj]; rfl
       have hc:j*1+1≤(cells s[k]).length:=by rw [cells_len1]; omega
       have hb:∀ m:Nat,Nat.beq m m=true:=fun m=>Nat.beq_refl m
       simp only [h0,evz,Nat.reduceLT,ne_eq,not_true_eq_false,Bool.not_true,or_self,(spec_l14Copy s p hs).eq,hk,hlk,hj,hlj,enc_list,enc_u8,hc,hb,spoil_spec _ _ q3.1 q3.2,set_u8 hj,lset_List hk,enc_DiskResult,hd,hdj,reduceCtorEq]
end Ev.Ty
end
section
namespace Ev.Ty
open Go Ev
open Enc (enc)
open Sm (sm)
set_option linter.unusedSimpArgs false
set_option linter.unusedVariables false
set_option maxRecDepth 100000
set_option maxHeartbeats 2000000
theorem laws_FnExactSpoilByte (d:Disk) (n:Int) (a:Int) (y:Int) (h_d:sm maxLen d) (h_n:(Sh.int .i64).wf n) (h_a:(Sh.int .i64).wf a) (h_y:(Sh.int .i64).wf y):Call F.laws_FnExactSpoilByte [.agg (enc d),.int .i64 n,.int .i64 a,.int .i64 y] (.bool true):=by
 obtain ⟨r0,c0,g0,p0⟩:=laws_szDisk d.sectors d.pending 1048576 (by omega) (by omega) h_d
 by_cases n0:r0 < 0
 · exact call_of rfl 0 ((laws_FnExactSpoilByte.ev _ _ _ _ _ _ ).trans (by simp only [evz,Nat.reduceLT,c0.eq,n0]))
 have q_d:=p0 (by omega)
 have s_d:=sm_mono (show 1048576≤4294967296 by omega) q_d
 have m_d:=sm_mono (show 1048576≤67108864 by omega) q_d
 have hi:Call F.impl_SpoilByte [.agg [slc d.sectors,slc d.pending],.int .i64 n,.int .i64 a,.int .i64 y] (.agg (enc (spoilR d n a y))):=impl_SpoilByte d n a y q_d
 have hp:Call F.spec_SpoilByte [.agg [slc d.sectors,slc d.pending],.int .i64 n,.int .i64 a,.int .i64 y] (.agg (enc (spoilR d n a y))):=spec_SpoilByte d n a y q_d
 have hv:=spoilR_sm d n a y q_d
 generalize spoilR d n a y=r at hi hp hv
 obtain ⟨w_code,⟨w_disk_sectors,w_disk_pending⟩⟩:=r
 have hv2:=sm_mono (show 67108864≤4294967296 by omega) hv
 obtain ⟨x0_0,x0_1,k0,f0,a0,b0,z0⟩:=laws_markDisk d.sectors d.pending 1 (by omega) (by omega) m_d
 have l0:¬ k0 < 0:=by omega
 obtain ⟨y0,y1,kr,fr,ar,br,zr⟩:=laws_markDiskResult w_code w_disk_sectors w_disk_pending 1 (by omega) (by omega) hv
 have lr:¬ kr < 0:=by omega
 exact call_of rfl 0 ((laws_FnExactSpoilByte.ev _ _ _ _ _ _ ).trans (by simp only [evz,Nat.reduceLT,c0.eq,n0,hi.eq,hp.eq,(laws_toDisk d.sectors d.pending s_d).eq,(laws_eqDisk d.sectors d.pending _ _  s_d).eq,(laws_eqDiskResult w_code w_disk_sectors w_disk_pending _ _ _  hv2).eq,f0,l0,fr,zr,lr,enc_DiskResult,decide_true,Bool.not_true,cond_false]))
end Ev.Ty
end
