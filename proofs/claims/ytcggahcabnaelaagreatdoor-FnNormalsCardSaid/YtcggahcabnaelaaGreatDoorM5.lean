/- Steps on the way to RowNormals: TyNorm, TyNormL, TyHasVar, TyHolds, TyAllHold, TyEntries, TySortT, TySortQ, TyGreat, TyUnifyP, TyPeakP, TyUnify, TyUnify2, TyPeak, TyPeak2, TyPeaks, TyAllPeaks, TyUnjoined, TyDeriveP, TyDerive, TyNewC, TyOrient, TyDraw8, TyRedexP, TyLParts, TyLRedexes, TyLNormals. -/
import Derived.Test.YtcggahcabnaelaaGreatDoorM4
set_option linter.unusedSectionVars false
set_option linter.unusedVariables false
set_option linter.unusedSimpArgs false
section
namespace Ev.Ty
open Go Ev
open Enc (enc)
open Sm (sm)
set_option linter.unusedSimpArgs false
set_option linter.unusedVariables false
section
variable {l:List Symbol} (ok:SigOk ⟨l⟩) {rs:List Equation} (hr:∀ e∈rs,EqOk l e) (hn:rs.length≤12)
include ok hr hn
theorem impl_ruleAt {t:List Int} (ht:TermOk l t) {p:Nat} (hp:p < t.length):Call F.impl_ruleAt [.agg [slc l],slc rs,slc t,.int .i64 p] (.int .i64 (fits l rs t p)):=by
 have hu:=subAt_ok ht hp
 have hi:Call F.slices_IndexFunc_SEquation [slc rs,.clo F.impl_ruleAt_1 [.rref [slc l] 0,.rref [slc (subAt l t p)] 0]] (.int .i64 (fits l rs t p)):=by
  refine call_of rfl (rs.length+1) ((slices_IndexFunc_SEquation_at1_impl_ruleAt_1.ev _ _ _ _).trans ?_)
  simp only [evz,Nat.reduceLT]
  refine idx_loop (S:=fun m k=>slices_IndexFunc_SEquation_at1_impl_ruleAt_1.at0 (rs.length+1) m (slices_IndexFunc_SEquation_at1_impl_ruleAt_1.st0 (cells rs) (cells l) (cells (subAt l t p)) rs.length (k:Nat))) (fun m k h => ?_) (fun m => ?_) (Nat.lt_succ_self _)
  · have hlk:rs[k]?=some rs[k]:=List.getElem?_eq_getElem h
    have he:=hr _ (List.getElem_mem h)
    have hc:Call F.impl_ruleAt_1 [.agg [slc rs[k].left,slc rs[k].right],.rref [slc l] 0,.rref [slc (subAt l t p)] 0] (.bool (matchAt l rs[k].left t p).isSome):=by
     refine call_of rfl 0 ((impl_ruleAt_1.ev _ _ _ _ _).trans ?_)
     have hm:=(impl_match ok he.left hu).eq
     rw [matchAt_sub he.left ht hp] at hm
     cases hmm:matchAt l rs[k].left t p with
     | none=>rw [hmm] at hm; simp only [evz,Nat.reduceLT,hm,mT]; rfl
     | some b=>rw [hmm] at hm; simp only [evz,Nat.reduceLT,hm,mT]; rfl
    simp only [slices_IndexFunc_SEquation_at1_impl_ruleAt_1.next0,slices_IndexFunc_SEquation_at1_impl_ruleAt_1.round0,evz,Nat.reduceLT,h,hlk,enc_Equation,hc.eq]
    rw [wrap_succ (by omega)]
    cases (matchAt l rs[k].left t p).isSome <;> rfl
  · simp only [slices_IndexFunc_SEquation_at1_impl_ruleAt_1.next0,slices_IndexFunc_SEquation_at1_impl_ruleAt_1.round0,evz,Nat.reduceLT,Nat.lt_irrefl]
 refine call_of rfl 0 ((impl_ruleAt.ev _ _ _ _ _).trans ?_)
 simp only [evz,Nat.reduceLT,(impl_subterm ok ht hp).eq,hi.eq]
theorem spec_l8Fits {t:List Int} (ht:TermOk l t) {p:Nat} (hp:p < t.length):Call F.spec_l8Fits [.rref [slc l] 0,slc rs,slc t,.int .i64 p] (.int .i64 (fits l rs t p)):=by
 refine call_of rfl (rs.length+1) ((spec_l8Fits.ev _ _ _ _ _).trans ?_)
 refine idx_loop (S:=fun m k=>spec_l8Fits.at0 (rs.length+1) m (spec_l8Fits.st0 (cells l) (cells rs) (cells t) (p:Nat) (k:Nat))) (fun m k h => ?_) (fun m => ?_) (Nat.lt_succ_self _)
 · have hlk:rs[k]?=some rs[k]:=List.getElem?_eq_getElem h
   have he:=hr _ (List.getElem_mem h)
   have hm:=(spec_l6Match ok he.left ht hp).eq
   cases hmm:matchAt l rs[k].left t p with
   | none =>
     rw [hmm] at hm
     simp only [spec_l8Fits.next0,spec_l8Fits.round0,evz,Nat.reduceLT,h,hlk,enc_Equation,hm,mT]
     rw [wrap_succ (by omega)]
     rfl
   | some b =>
     rw [hmm] at hm
     simp only [spec_l8Fits.next0,spec_l8Fits.round0,evz,Nat.reduceLT,h,hlk,enc_Equation,hm,mT]
     rfl
 · simp only [spec_l8Fits.next0,spec_l8Fits.round0,evz,Nat.reduceLT,Nat.lt_irrefl]
theorem impl_findRedex {t:List Int} (ht:TermOk l t):Call F.impl_findRedex [.agg [slc l],slc rs,slc t] (.tup [.int .i64 (redex l rs t).1,.int .i64 (redex l rs t).2,.bool (decide ((redex l rs t).1 ≥ 0))]):=by
 have hle:=ht.le
 have hpos:=ht.pos
 have loop:∀ (k f:Nat) (s:Int × Int),k≤t.length→k < f→IsBest (endAt l t) (fits l rs t) k t.length s →
  impl_findRedex.at0 25 f (impl_findRedex.st0 (cells rs) (cells t) s.1 s.2 ((k:Int) - 1) (cells l)) =
   some (.tup [.int .i64 (down (endAt l t) (fits l rs t) k s).1,.int .i64 (down (endAt l t) (fits l rs t) k s).2,.bool (decide ((down (endAt l t) (fits l rs t) k s).1 ≥ 0))],[]):=by
  intro k
  induction k with
  | zero =>
    intro f s hk hf hb
    obtain ⟨f,rfl⟩:∃ x,f=x+1:=⟨f - 1,by omega⟩
    have h1:¬ (((0:Nat):Int) - 1 ≥ 0):=by omega
    simp only [impl_findRedex.next0,impl_findRedex.round0,cond_dec]
    rw [if_neg h1]
    rfl
  | succ k ih =>
    intro f s hk hf hb
    obtain ⟨f,rfl⟩:∃ x,f=x+1:=⟨f - 1,by omega⟩
    have e:((k+1:Nat):Int) - 1=(k:Int):=by omega
    have h1:(k:Int) ≥ 0:=by omega
    have hkt:k < t.length:=by omega
    have hw:IntKind.wrap .i64 ((k:Int) - 1)=(k:Int) - 1:=wrap64 (by omega)
    have hb':=hb.down _ _ hkt
    have next:=ih f _ (by omega) (by omega) hb'
    have hra:=(impl_ruleAt ok hr hn ht hkt).eq
    have hek:=(endOf_at ok ht hkt).eq
    rw [e,down]
    unfold downStep at next ⊢
    rcases hb with ⟨rfl,hno⟩ | ⟨a,ha1,ha2,rfl,ha3,ha4⟩
    · have hneg:¬ ((-1:Int) ≥ 0):=by omega
      rw [if_neg (fun h=>hneg h.1)] at next ⊢
      by_cases hf0:fits l rs t k ≥ 0
      · rw [if_pos hf0] at next ⊢
        simp only [impl_findRedex.next0,impl_findRedex.round0,evz,Nat.reduceLT,h1,hneg,hra,hf0,hw]
        exact next
      · rw [if_neg hf0] at next ⊢
        simp only [impl_findRedex.next0,impl_findRedex.round0,evz,Nat.reduceLT,h1,hneg,hra,hf0,hw]
        exact next
    · have hpa:((a:Int)) ≥ 0:=by omega
      have hea:=(endOf_at ok ht ha2).eq
      by_cases hc:endAt l t k ≥ endAt l t a
      · have hc':((endAt l t k:Nat):Int) ≥ ((endAt l t a:Nat):Int):=by omega
        have hcc:((a:Int),fits l rs t a).1 ≥ 0∧endAt l t k ≥ endAt l t (((a:Int),fits l rs t a).1).toNat:=⟨hpa,by simpa using hc⟩
        rw [if_pos hcc] at next ⊢
        simp only [impl_findRedex.next0,impl_findRedex.round0,evz,Nat.reduceLT,h1,hpa,hek,hea,hc',hw]
        exact next
      · have hc':¬ ((endAt l t k:Nat):Int) ≥ ((endAt l t a:Nat):Int):=by omega
        have hcc:¬ (((a:Int),fits l rs t a).1 ≥ 0∧endAt l t k ≥ endAt l t (((a:Int),fits l rs t a).1).toNat):=fun h=>hc (by simpa using h.2)
        rw [if_neg hcc] at next ⊢
        by_cases hf0:fits l rs t k ≥ 0
        · rw [if_pos hf0] at next ⊢
          simp only [impl_findRedex.next0,impl_findRedex.round0,evz,Nat.reduceLT,h1,hpa,hek,hea,hc',hra,hf0,hw]
          exact next
        · rw [if_neg hf0] at next ⊢
          simp only [impl_findRedex.next0,impl_findRedex.round0,evz,Nat.reduceLT,h1,hpa,hek,hea,hc',hra,hf0,hw]
          exact next
 refine call_of rfl 25 ((impl_findRedex.ev _ _ _ _).trans ?_)
 simp only [cells_div,sz_int]
 rw [wrap64 (by omega)]
 exact loop t.length 25 (-1,-1) (Nat.le_refl _) (by omega) (.inl ⟨rfl,fun a h1 h2=>by omega⟩)
theorem spec_l8Find {t:List Int} (ht:TermOk l t):Call F.spec_l8Find [.rref [slc l] 0,slc rs,slc t] (.tup [.int .i64 (redex l rs t).1,.int .i64 (redex l rs t).2]):=by
 have hle:=ht.le
 refine call_of rfl 25 ((spec_l8Find.ev _ _ _ _).trans ?_)
 have key:=run_loop (n:=t.length) (f:=25) (S:=fun m k (s:Int × Int × Int)=>spec_l8Find.at0 25 m (spec_l8Find.st0 (cells l) (cells rs) (cells t) s.1 s.2.1 s.2.2 (k:Nat)))
  (st:=upAll (endAt l t) (fits l rs t)) (z:=some (.tup [.int .i64 (redex l rs t).1,.int .i64 (redex l rs t).2],[])) (fun m k h => ?_) (fun m => ?_) (by omega)
 · exact key
 · have e0:upAll (endAt l t) (fits l rs t) (k+1)=upStep (endAt l t) (fits l rs t) (upAll (endAt l t) (fits l rs t) k) k:=by unfold upAll; rw [List.range_succ,List.foldl_append]; rfl
   rw [e0]
   unfold upStep
   have hek:=(l3End_at ok ht h).eq
   have hra:=(spec_l8Fits ok hr hn ht h).eq
   by_cases hc:((endAt l t k:Nat):Int) > (upAll (endAt l t) (fits l rs t) k).2.2
   · rw [if_pos hc]
     simp only [spec_l8Find.next0,spec_l8Find.round0,evz,Nat.reduceLT,h,hek,hc]
     rw [wrap_succ (by omega)]
   · rw [if_neg hc]
     by_cases hf0:fits l rs t k ≥ 0
     · rw [if_pos hf0]
       simp only [spec_l8Find.next0,spec_l8Find.round0,evz,Nat.reduceLT,h,hek,hc,hra,hf0]
       rw [wrap_succ (by omega)]
     · rw [if_neg hf0]
       simp only [spec_l8Find.next0,spec_l8Find.round0,evz,Nat.reduceLT,h,hek,hc,hra,hf0]
       rw [wrap_succ (by omega)]
 · rw [redex_up ht]
   simp only [spec_l8Find.next0,spec_l8Find.round0,evz,Nat.reduceLT,Nat.lt_irrefl]
omit hr hn in
theorem impl_rewritten {e:Equation} (he:EqOk l e) {t:List Int} (ht:TermOk l t) {p:Nat} (hp:p < t.length):Call F.impl_rewritten [.agg [slc l],.agg [slc e.left,slc e.right],slc t,.int .i64 p] (.agg (enc (stepAt l e t p))):=by
 have hu:=subAt_ok ht hp
 have hm:=(impl_match ok he.left hu).eq
 rw [matchAt_sub he.left ht hp] at hm
 refine call_of rfl 0 ((impl_rewritten.ev _ _ _ _ _ _).trans ?_)
 unfold stepAt
 cases hmm:matchAt l e.left t p with
 | none=>rw [hmm] at hm; simp only [evz,Nat.reduceLT,(impl_subterm ok ht hp).eq,hm,mT]; rfl
 | some b =>
   rw [hmm] at hm
   have hb:=matchAt_ok he.left ht hp hmm
   have hbo:=hb.ok he.left.le
   have hrl:=he.right.le
   have hal:=applied_length hbo e.right
   simp only [evz,Nat.reduceLT,(impl_subterm ok ht hp).eq,hm,mT,(impl_Binding_applied b.1 b.2 hbo e.right (by omega) (he.right.range ok)).eq,(impl_replaced ok ht hp (applied b.1 b.2 e.right) (by omega)).eq]
   have hfit:=(impl_fitting (replAt l t p (applied b.1 b.2 e.right))).eq
   by_cases h24:24 < (replAt l t p (applied b.1 b.2 e.right)).length
   · rw [if_pos h24] at hfit ⊢
     simp only [evz,Nat.reduceLT,hfit,enc_TermResult]
   · rw [if_neg h24] at hfit ⊢
     simp only [evz,Nat.reduceLT,hfit,enc_TermResult]
omit hr hn in
theorem spec_l8Rewrite {e:Equation} (he:EqOk l e) {t:List Int} (ht:TermOk l t) {p:Nat} (hp:p < t.length):Call F.spec_l8Rewrite [.rref [slc l] 0,.rref [slc e.left,slc e.right] 0,.int .i64 p,slc t] (.tup [slc (stepAt l e t p).term,.int .i64 (stepAt l e t p).code]):=by
 have hm:=(spec_l6Match ok he.left ht hp).eq
 refine call_of rfl 0 ((spec_l8Rewrite.ev _ _ _ _ _ _).trans ?_)
 unfold stepAt
 cases hmm:matchAt l e.left t p with
 | none=>rw [hmm] at hm; simp only [evz,Nat.reduceLT,hm,mT]; rfl
 | some b =>
   rw [hmm] at hm
   have hb:=matchAt_ok he.left ht hp hmm
   have hbo:=hb.ok he.left.le
   have hrl:=he.right.le
   have hal:=applied_length hbo e.right
   simp only [evz,Nat.reduceLT,hm,mT,(spec_l6Apply b.1 b.2 hbo e.right (by omega) (he.right.range ok)).eq,(spec_l3Replace ok ht hp (applied b.1 b.2 e.right) (by omega)).eq]
   by_cases h24:24 < (replAt l t p (applied b.1 b.2 e.right)).length
   · have h24':((replAt l t p (applied b.1 b.2 e.right)).length:Int) > 24:=by omega
     rw [if_pos h24]
     simp only [evz,Nat.reduceLT,h24']
     rfl
   · have h24':¬ ((replAt l t p (applied b.1 b.2 e.right)).length:Int) > 24:=by omega
     rw [if_neg h24]
     simp only [evz,Nat.reduceLT,h24']
omit ok hr hn in
theorem redex_range {l:List Symbol} {rs:List Equation} (t:List Int):(redex l rs t).1 < 0∨∃ a k:Nat,∃ h:k < rs.length,a < t.length∧(redex l rs t).1=a∧(redex l rs t).2=k:=by
 rcases redex_at (l:=l) (rs:=rs) (t:=t) with h | ⟨a,k,h,ha,e,_⟩
 · rw [h]; exact .inl (by simp)
 · rw [e]; exact .inr ⟨a,k,h,ha,rfl,rfl⟩
theorem impl_normalForm {t:List Int} (ht:TermOk l t) {fuel:Nat} (hfu:fuel≤200):Call F.impl_normalForm [.agg [slc l],slc rs,slc t,.int .i64 fuel] (.agg (enc (norm l rs fuel 0 t))):=by
 have hle:=ht.le
 have loop:∀ (m k f:Nat) (t:List Int),m+k=fuel→m < f→TermOk l t →
  impl_normalForm.at0 202 f (impl_normalForm.st0 (cells rs) (fuel:Nat) (k:Nat) (cells l) 0 0 (cells t))=some (.agg (enc (norm l rs m k t)),[]):=by
  intro m
  induction m with
  | zero =>
    intro k f t hk hf ht
    obtain ⟨f,rfl⟩:∃ x,f=x+1:=⟨f - 1,by omega⟩
    obtain rfl:k=fuel:=by omega
    have hfr:=(impl_findRedex ok hr hn ht).eq
    rw [norm]
    by_cases h0:(redex l rs t).1 < 0
    · have h0':¬ (redex l rs t).1 ≥ 0:=by omega
      rw [if_pos h0]
      simp only [impl_normalForm.next0,impl_normalForm.round0,evz,Nat.reduceLT,hfr,h0',Bool.not_false,enc_NormalResult]
    · have h0':(redex l rs t).1 ≥ 0:=by omega
      rw [if_neg h0]
      simp only [impl_normalForm.next0,impl_normalForm.round0,evz,Nat.reduceLT,hfr,h0',Bool.not_true,enc_NormalResult]
      rfl
  | succ m ih =>
    intro k f t hk hf ht
    obtain ⟨f,rfl⟩:∃ x,f=x+1:=⟨f - 1,by omega⟩
    have hfr:=(impl_findRedex ok hr hn ht).eq
    rw [norm]
    rcases redex_range (l:=l) (rs:=rs) t with h0 | ⟨a,q,hq,ha,e1,e2⟩
    · have h0':¬ (redex l rs t).1 ≥ 0:=by omega
      rw [if_pos h0]
      simp only [impl_normalForm.next0,impl_normalForm.round0,evz,Nat.reduceLT,hfr,h0',Bool.not_false,enc_NormalResult]
    · have h0:¬ (redex l rs t).1 < 0:=by omega
      rw [e1,e2] at hfr
      have h0':((a:Nat):Int) ≥ 0:=by omega
      have hkf:¬ ((k:Int)=(fuel:Int)):=by omega
      have hlk:rs[q]?=some rs[q]:=List.getElem?_eq_getElem hq
      have he:=hr _ (List.getElem_mem hq)
      have hrw:=(impl_rewritten ok he ht ha).eq
      have hg:rs.getD (redex l rs t).2.toNat ⟨[],[]⟩=rs[q]:=by rw [e2,Int.toNat_natCast]; exact getE hq
      have hga:(redex l rs t).1.toNat=a:=by rw [e1,Int.toNat_natCast]
      rw [if_neg h0,hg,hga]
      have hsok:=stepAt_ok he ht ha
      rw [enc_TermResult] at hrw
      by_cases hcode:(stepAt l rs[q] t a).code=0
      · rw [if_neg (by simpa using hcode)]
        simp only [impl_normalForm.next0,impl_normalForm.round0,evz,Nat.reduceLT,hfr,h0',hkf,Bool.not_true,hq,hlk,enc_Equation,hrw,hcode]
        rw [wrap_succ (by omega)]
        exact ih (k+1) f _ (by omega) (by omega) (hsok hcode)
      · rw [if_pos hcode]
        simp only [impl_normalForm.next0,impl_normalForm.round0,evz,Nat.reduceLT,hfr,h0',hkf,Bool.not_true,hq,hlk,enc_Equation,hrw,hcode,enc_NormalResult]
        rfl
 refine call_of rfl 202 ((impl_normalForm.ev _ _ _ _ _).trans ?_)
 simp only [evz,Nat.reduceLT,(slices_Clone_Sint64 t (by omega)).eq]
 exact loop fuel 0 202 t (by omega) (by omega) ht
theorem spec_l8Normal {t:List Int} (ht:TermOk l t) {fuel:Nat} (hfu:fuel≤200):Call F.spec_l8Normal [.rref [slc l] 0,slc rs,slc t,.int .i64 fuel] (.agg (enc (norm l rs fuel 0 t))):=by
 have hle:=ht.le
 have loop:∀ (m k f:Nat) (t:List Int),m+k=fuel→m < f→TermOk l t →
  spec_l8Normal.at0 202 f (spec_l8Normal.st0 (cells l) (cells rs) (fuel:Nat) (k:Nat) 0 0 (cells t))=some (.agg (enc (norm l rs m k t)),[]):=by
  intro m
  induction m with
  | zero =>
    intro k f t hk hf ht
    obtain ⟨f,rfl⟩:∃ x,f=x+1:=⟨f - 1,by omega⟩
    obtain rfl:k=fuel:=by omega
    have hfr:=(spec_l8Find ok hr hn ht).eq
    rw [norm]
    have hge:((k:Int)) ≥ (k:Int):=Int.le_refl _
    by_cases h0:(redex l rs t).1 < 0
    · rw [if_pos h0]
      simp only [spec_l8Normal.next0,spec_l8Normal.round0,evz,Nat.reduceLT,hfr,h0,enc_NormalResult]
    · rw [if_neg h0]
      simp only [spec_l8Normal.next0,spec_l8Normal.round0,evz,Nat.reduceLT,hfr,h0,hge,enc_NormalResult]
      rfl
  | succ m ih =>
    intro k f t hk hf ht
    obtain ⟨f,rfl⟩:∃ x,f=x+1:=⟨f - 1,by omega⟩
    have hfr:=(spec_l8Find ok hr hn ht).eq
    rw [norm]
    rcases redex_range (l:=l) (rs:=rs) t with h0 | ⟨a,q,hq,ha,e1,e2⟩
    · rw [if_pos h0]
      simp only [spec_l8Normal.next0,spec_l8Normal.round0,evz,Nat.reduceLT,hfr,h0,enc_NormalResult]
    · have h0:¬ (redex l rs t).1 < 0:=by omega
      rw [e1,e2] at hfr
      have h0':¬ ((a:Nat):Int) < 0:=by omega
      have hkf:¬ ((k:Int) ≥ (fuel:Int)):=by omega
      have hlk:rs[q]?=some rs[q]:=List.getElem?_eq_getElem hq
      have he:=hr _ (List.getElem_mem hq)
      have hrw:=(spec_l8Rewrite ok he ht ha).eq
      have hg:rs.getD (redex l rs t).2.toNat ⟨[],[]⟩=rs[q]:=by rw [e2,Int.toNat_natCast]; exact getE hq
      have hga:(redex l rs t).1.toNat=a:=by rw [e1,Int.toNat_natCast]
      rw [if_neg h0,hg,hga]
      have hsok:=stepAt_ok he ht ha
      have hwin:=cells_window (k:=2) (i:=q) rfl hlk
      by_cases hcode:(stepAt l rs[q] t a).code=0
      · rw [if_neg (by simpa using hcode)]
        simp only [spec_l8Normal.next0,spec_l8Normal.round0,evz,Nat.reduceLT,hfr,h0',hkf,hq,hwin,enc_Equation,hrw,hcode]
        rw [wrap_succ (by omega)]
        exact ih (k+1) f _ (by omega) (by omega) (hsok hcode)
      · rw [if_pos hcode]
        simp only [spec_l8Normal.next0,spec_l8Normal.round0,evz,Nat.reduceLT,hfr,h0',hkf,hq,hwin,enc_Equation,hrw,hcode,enc_NormalResult]
        rfl
 refine call_of rfl 202 ((spec_l8Normal.ev _ _ _ _ _).trans ?_)
 simp only [evz,Nat.reduceLT,(spec_l1Ints' t (by omega)).eq]
 exact loop fuel 0 202 t (by omega) (by omega) ht
end
end Ev.Ty
end
section
namespace Ev.Ty
open Go Ev
open Enc (enc)
open Sm (sm)
set_option linter.unusedSimpArgs false
set_option linter.unusedVariables false
theorem rulesFault_ok {l:List Symbol} {rs:List Equation} (h:rulesFault ⟨l⟩ rs=0):sigFault ⟨l⟩=0∧SigOk ⟨l⟩∧rs.length≤12∧∀ e∈rs,EqOk l e:=by
 unfold rulesFault at h
 split at h
 · rename_i h1; exact absurd h h1
 rename_i h1
 have h1:sigFault ⟨l⟩=0:=by simpa using h1
 unfold rulesFault0 at h
 split at h
 · rename_i h2; exact absurd h h2
 rename_i h2
 obtain ⟨q1,q2⟩:=eqsOk_iff.1 (show eqsFault l rs=0 by simpa using h2)
 exact ⟨h1,(sigOk_iff _).1 h1,q1,q2⟩
theorem rewriteFault_ok {l:List Symbol} {rs:List Equation} {t:List Int} (h:rewriteFault ⟨l⟩ rs t=0):SigOk ⟨l⟩∧rs.length≤12∧(∀ e∈rs,EqOk l e)∧TermOk l t:=by
 unfold rewriteFault at h
 split at h
 · rename_i h1; exact absurd h h1
 rename_i h1
 obtain ⟨_,q1,q2,q3⟩:=rulesFault_ok (l:=l) (rs:=rs) (by simpa using h1)
 exact ⟨q1,q2,q3,(termOk_iff _ _).1 h⟩
theorem impl_rewriteFault (l:List Symbol) (hs:l.length≤4294967296) (rs:List Equation) (hr:sm 4294967296 rs) (t:List Int) (ht:t.length≤4294967296) :
 Call F.impl_rewriteFault [.agg [slc l],slc rs,slc t] (.int .i64 (rewriteFault ⟨l⟩ rs t)):=by
 refine call_of rfl 0 ((impl_rewriteFault.ev _ _ _ _).trans ?_)
 simp only [evz,Nat.reduceLT,(impl_RulesFault l hs rs hr).eq,(impl_TermFault l hs t ht).eq,(firstCode2 _ _).eq,rewriteFault]
 by_cases h:rulesFault ⟨l⟩ rs=0
 · have h0:=(rulesFault_ok h).1
   simp only [h,evz,Nat.reduceLT,ne_eq,not_true_eq_false,termFault,h0]
 · simp only [h,evz,Nat.reduceLT,ne_eq,not_false_eq_true]
theorem spec_l8Both (l:List Symbol) (hs:l.length≤4294967296) (rs:List Equation) (hr:sm 4294967296 rs) (t:List Int) (ht:t.length≤4294967296) :
 Call F.spec_l8Both [.rref [slc l] 0,slc rs,slc t] (.int .i64 (rewriteFault ⟨l⟩ rs t)):=by
 refine call_of rfl 0 ((spec_l8Both.ev _ _ _ _).trans ?_)
 simp only [evz,Nat.reduceLT,(spec_RulesFault l hs rs hr).eq,rewriteFault]
 by_cases h:rulesFault ⟨l⟩ rs=0
 · have h0:=(rulesFault_ok h).2.1
   simp only [h,evz,Nat.reduceLT,ne_eq,not_true_eq_false,(spec_l3Fault l h0 t ht).eq]
 · simp only [h,evz,Nat.reduceLT,ne_eq,not_false_eq_true]
theorem impl_FindRedex (s:Signature) (rs:List Equation) (t:List Int) (hs:sm 1048576 s) (hr:sm 1048576 rs) (ht:sm 1048576 t):Call F.impl_FindRedex [.agg (enc s),slc rs,slc t] (.agg (enc (findRedexR s rs t))):=by
 obtain ⟨l⟩:=s
 have hsl:l.length≤4294967296:=Nat.le_trans hs.1 (by omega)
 have htl:t.length≤4294967296:=Nat.le_trans ht.1 (by omega)
 show Call F.impl_FindRedex [.agg [slc l],slc rs,slc t] _
 refine call_of rfl 0 ((impl_FindRedex.ev _ _ _ _).trans ?_)
 simp only [evz,Nat.reduceLT,(impl_rewriteFault l hsl rs (sm_mono (by omega) hr) t htl).eq,findRedexR]
 by_cases h:rewriteFault ⟨l⟩ rs t=0
 case neg=>simp only [h,evz,Nat.reduceLT,ne_eq,not_false_eq_true,enc_RedexResult]
 obtain ⟨ok,q1,q2,q3⟩:=rewriteFault_ok h
 simp only [h,evz,Nat.reduceLT,ne_eq,not_true_eq_false,(impl_findRedex ok q2 q1 q3).eq]
 by_cases h0:(redex l rs t).1 < 0
 · have h0':¬ (redex l rs t).1 ≥ 0:=by omega
   simp only [h0,h0',evz,Nat.reduceLT,Bool.not_false,enc_RedexResult]
 · have h0':(redex l rs t).1 ≥ 0:=by omega
   simp only [h0,h0',evz,Nat.reduceLT,Bool.not_true,enc_RedexResult]
def isNormalR (s:Signature) (rs:List Equation) (t:List Int):Bool:=decide ((findRedexR s rs t).code=4)
theorem impl_IsNormal (s:Signature) (rs:List Equation) (t:List Int) (hs:sm 1048576 s) (hr:sm 1048576 rs) (ht:sm 1048576 t):Call F.impl_IsNormal [.agg (enc s),slc rs,slc t] (.bool (isNormalR s rs t)):=by
 have hf:=(impl_FindRedex s rs t hs hr ht).eq
 obtain ⟨l⟩:=s
 have hf:LIM F.impl_FindRedex [.agg [slc l],slc rs,slc t]=some (.agg (enc (findRedexR ⟨l⟩ rs t)),[]):=hf
 show Call F.impl_IsNormal [.agg [slc l],slc rs,slc t] _
 refine call_of rfl 0 ((impl_IsNormal.ev _ _ _ _).trans ?_)
 simp only [evz,Nat.reduceLT,hf,enc_RedexResult]
 rfl
theorem norm_sm {l:List Symbol} {rs:List Equation} (hr:∀ e∈rs,EqOk l e):∀ (m k:Nat) (t:List Int),TermOk l t→sm 67108864 (norm l rs m k t)∧((norm l rs m k t).code=0→TermOk l (norm l rs m k t).term)
 | 0,k,t,ht=>by
   have:=ht.le
   rw [norm]
   split
   · exact ⟨⟨by simp only; omega,fun _ _=>trivial⟩,fun _=>ht⟩
   · exact ⟨⟨by simp,by simp⟩,fun h=>by cases h⟩
 | m+1,k,t,ht=>by
   have:=ht.le
   rw [norm]
   split
   · exact ⟨⟨by simp only; omega,fun _ _=>trivial⟩,fun _=>ht⟩
   rename_i h0
   split
   · rename_i hc
     exact ⟨⟨by simp,by simp⟩,fun h=>absurd h hc⟩
   · rename_i hc
     rcases redex_range (l:=l) (rs:=rs) t with h | ⟨a,q,hq,ha,e1,e2⟩
     · exact absurd h h0
     · have hg:rs.getD (redex l rs t).2.toNat ⟨[],[]⟩=rs[q]:=by rw [e2,Int.toNat_natCast]; exact getE hq
       have hga:(redex l rs t).1.toNat=a:=by rw [e1,Int.toNat_natCast]
       rw [hg,hga] at hc ⊢
       exact norm_sm hr m (k+1) _ (stepAt_ok (hr _ (List.getElem_mem hq)) ht ha (by simpa using hc))
theorem impl_NormalForm (s:Signature) (rs:List Equation) (t:List Int) (fuel:Int) (hs:sm 1048576 s) (hr:sm 1048576 rs) (ht:sm 1048576 t):Call F.impl_NormalForm [.agg (enc s),slc rs,slc t,.int .i64 fuel] (.agg (enc (normalFormR s rs t fuel))):=by
 obtain ⟨l⟩:=s
 have hsl:l.length≤4294967296:=Nat.le_trans hs.1 (by omega)
 have htl:t.length≤4294967296:=Nat.le_trans ht.1 (by omega)
 show Call F.impl_NormalForm [.agg [slc l],slc rs,slc t,.int .i64 fuel] _
 refine call_of rfl 0 ((impl_NormalForm.ev _ _ _ _ _).trans ?_)
 simp only [evz,Nat.reduceLT,(impl_rewriteFault l hsl rs (sm_mono (by omega) hr) t htl).eq,normalFormR,(impl_within _ _ _).eq]
 by_cases h:rewriteFault ⟨l⟩ rs t=0
 case neg=>simp only [h,evz,Nat.reduceLT,ne_eq,not_false_eq_true,enc_NormalResult,slc_nil]
 obtain ⟨ok,q1,q2,q3⟩:=rewriteFault_ok h
 cases h1:inR fuel 0 200 with
 | false=>simp only [h,evz,Nat.reduceLT,ne_eq,not_true_eq_false,Bool.not_false,enc_NormalResult,slc_nil]
 | true =>
   have hf1:=inR_iff.1 h1
   obtain ⟨k,rfl⟩:∃ k:Nat,fuel=k:=⟨fuel.toNat,by omega⟩
   have hnf:=(impl_normalForm ok q2 q1 q3 (fuel:=k) (by omega)).eq
   rw [enc_NormalResult] at hnf
   simp only [h,evz,Nat.reduceLT,ne_eq,not_true_eq_false,Bool.not_true,hnf,enc_NormalResult,reduceCtorEq]
theorem spec_NormalForm (s:Signature) (rs:List Equation) (t:List Int) (fuel:Int) (hs:sm 1048576 s) (hr:sm 1048576 rs) (ht:sm 1048576 t):Call F.spec_NormalForm [.agg (enc s),slc rs,slc t,.int .i64 fuel] (.agg (enc (normalFormR s rs t fuel))):=by
 obtain ⟨l⟩:=s
 have hsl:l.length≤4294967296:=Nat.le_trans hs.1 (by omega)
 have htl:t.length≤4294967296:=Nat.le_trans ht.1 (by omega)
 show Call F.spec_NormalForm [.agg [slc l],slc rs,slc t,.int .i64 fuel] _
 refine call_of rfl 0 ((spec_NormalForm.ev _ _ _ _ _).trans ?_)
 simp only [evz,Nat.reduceLT,(spec_l8Both l hsl rs (sm_mono (by omega) hr) t htl).eq,normalFormR,(spec_l1In _ _ _).eq]
 by_cases h:rewriteFault ⟨l⟩ rs t=0
 case neg=>simp only [h,evz,Nat.reduceLT,ne_eq,not_false_eq_true,enc_NormalResult,slc_nil]
 obtain ⟨ok,q1,q2,q3⟩:=rewriteFault_ok h
 cases h1:inR fuel 0 200 with
 | false=>simp only [h,evz,Nat.reduceLT,ne_eq,not_true_eq_false,Bool.not_false,enc_NormalResult,slc_nil]
 | true =>
   have hf1:=inR_iff.1 h1
   obtain ⟨k,rfl⟩:∃ k:Nat,fuel=k:=⟨fuel.toNat,by omega⟩
   have hnf:=(spec_l8Normal ok q2 q1 q3 (fuel:=k) (by omega)).eq
   rw [enc_NormalResult] at hnf
   simp only [h,evz,Nat.reduceLT,ne_eq,not_true_eq_false,Bool.not_true,hnf,enc_NormalResult,reduceCtorEq]
theorem normalFormR_term {l:List Symbol} {rs:List Equation} {t:List Int} {fuel:Int} (h:(normalFormR ⟨l⟩ rs t fuel).code=0):rewriteFault ⟨l⟩ rs t=0∧inR fuel 0 200=true∧normalFormR ⟨l⟩ rs t fuel=norm l rs fuel.toNat 0 t∧(normalFormR ⟨l⟩ rs t fuel).term.length≤24:=by
 unfold normalFormR at h ⊢
 by_cases h1:rewriteFault ⟨l⟩ rs t=0
 case neg=>rw [if_pos h1] at h; exact absurd h h1
 rw [if_neg (by simpa using h1)] at h ⊢
 cases h2:inR fuel 0 200 with
 | false=>rw [h2,if_pos rfl] at h; cases h
 | true =>
   rw [h2,if_neg (by simp)] at h
   rw [if_neg (by simp)]
   obtain ⟨ok,q1,q2,q3⟩:=rewriteFault_ok h1
   exact ⟨h1,rfl,rfl,((norm_sm q2 _ _ _ q3).2 h).le⟩
theorem impl_AreJoined (s:Signature) (rs:List Equation) (a b:List Int) (fuel:Int) (hs:sm 1048576 s) (hr:sm 1048576 rs) (ha:sm 1048576 a) (hb:sm 1048576 b):Call F.impl_AreJoined [.agg (enc s),slc rs,slc a,slc b,.int .i64 fuel] (.agg (enc (areJoinedR s rs a b fuel))):=by
 have ca:=impl_NormalForm s rs a fuel hs hr ha
 have cb:=impl_NormalForm s rs b fuel hs hr hb
 obtain ⟨l⟩:=s
 have ca:Call F.impl_NormalForm [.agg [slc l],slc rs,slc a,.int .i64 fuel] (.agg (enc (normalFormR ⟨l⟩ rs a fuel))):=ca
 have cb:Call F.impl_NormalForm [.agg [slc l],slc rs,slc b,.int .i64 fuel] (.agg (enc (normalFormR ⟨l⟩ rs b fuel))):=cb
 show Call F.impl_AreJoined [.agg [slc l],slc rs,slc a,slc b,.int .i64 fuel] _
 refine call_of rfl 0 ((impl_AreJoined.ev _ _ _ _ _ _).trans ?_)
 simp only [evz,Nat.reduceLT,ca.eq,cb.eq,enc_NormalResult,areJoinedR]
 by_cases h1:(normalFormR ⟨l⟩ rs a fuel).code=0
 case neg=>simp only [h1,evz,Nat.reduceLT,ne_eq,not_false_eq_true,enc_IntResult]
 by_cases h2:(normalFormR ⟨l⟩ rs b fuel).code=0
 case neg=>simp only [h1,h2,evz,Nat.reduceLT,ne_eq,not_true_eq_false,not_false_eq_true,enc_IntResult]
 have l1:=(normalFormR_term h1).2.2.2
 have heq:=(slices_Equal_Sint64 (normalFormR ⟨l⟩ rs a fuel).term (normalFormR ⟨l⟩ rs b fuel).term ⟨by omega,fun _ _=>trivial⟩).eq
 by_cases h3:(normalFormR ⟨l⟩ rs a fuel).term=(normalFormR ⟨l⟩ rs b fuel).term
 · rw [decide_eq_true h3] at heq
   simp only [h1,h2,evz,Nat.reduceLT,ne_eq,not_true_eq_false,heq,enc_IntResult]
   rw [if_pos h3]
 · rw [decide_eq_false h3] at heq
   simp only [h1,h2,evz,Nat.reduceLT,ne_eq,not_true_eq_false,heq,enc_IntResult]
   rw [if_neg h3]
end Ev.Ty
end
section
namespace Ev.Ty
open Go Ev
open Enc (enc)
open Sm (sm)
set_option linter.unusedSimpArgs false
set_option linter.unusedVariables false
end Ev.Ty
end
section
namespace Ev.Ty
open Go Ev
open Enc (enc)
open Sm (sm)
set_option linter.unusedSimpArgs false
set_option linter.unusedVariables false
section
variable {l:List Symbol} {z:Nat} {tb:List (List Int)} (al:AlgOk l z tb)
include al
end
end Ev.Ty
end
section
namespace Ev.Ty
open Go Ev
open Enc (enc)
open Sm (sm)
set_option linter.unusedSimpArgs false
set_option linter.unusedVariables false
section
variable (l:List Symbol) (z:Int) (tb:List (List Int)) (hs:l.length≤4294967296) (ht:sm 4294967296 tb)
include hs ht
end
end Ev.Ty
end
section
namespace Ev.Ty
open Go Ev
open Enc (enc)
open Sm (sm)
set_option linter.unusedSimpArgs false
set_option linter.unusedVariables false
theorem cells_int_scalar (l:List Int):(cells l).all T.scalar=true:=by
 rw [← intsT_cells,List.all_eq_true]
 intro x hx
 obtain ⟨n,_,rfl⟩:=List.mem_map.1 hx
 rfl
theorem spec_l1Ints (l:List Int) (h:l.length≤4294967296):Call F.spec_l1Ints [slc l] (slc l):=by
 refine call_of rfl 0 ((spec_l1Ints.ev _ _).trans ?_)
 have hb:Nat.ble ((0+(cells l).length)*8) (140737488355328*1)=true:=by
  rw [Nat.ble_eq,cells_length,sz_int]; omega
 rw [cells_int_scalar,hb]
 rfl
def eqOf (e:Entry):Equation:=⟨e.left,e.right⟩
section
variable (l:List Symbol) (z:Int) (tb:List (List Int)) (hs:l.length≤4294967296) (ht:sm 4294967296 tb)
include hs ht
end
end Ev.Ty
end
section
namespace Ev.Ty
open Go Ev
open Enc (enc)
open Sm (sm)
set_option linter.unusedSimpArgs false
set_option linter.unusedVariables false
theorem orderF_ok {l:List Symbol} {o:List Int} (h:orderFault ⟨l⟩ o=0):sigFault ⟨l⟩=0∧orderF l o=0:=by
 unfold orderFault at h
 by_cases h1:sigFault ⟨l⟩=0
 · rw [if_neg (by simpa using h1)] at h; exact ⟨h1,h⟩
 · rw [if_pos (by simpa using h1)] at h; exact absurd h h1
section
variable {l:List Symbol} {o:List Int} (ok:SigOk ⟨l⟩) (hol:o.length≤1048576) (ho:∀ n:Int,0≤n→n < l.length→n∈o)
include ok hol ho
end
end Ev.Ty
end
section
namespace Ev.Ty
section
variable {α:Type} {lt:α→α→Bool} {S:α→Prop}
variable (h1:∀ a b c,S a→S b→S c→lt a b=true→lt b c=true→lt a c=true) (h2:∀ a b c,S a→S b→S c→lt a b=true→lt c b=false→lt a c=true) (h3:∀ a b,S a→S b→lt a b=true→lt b a=false)
include h1 h2 h3
variable (h4:∀ a b,S a→S b→a=b∨lt a b=true∨lt b a=true)
include h4
end
end Ev.Ty
end
section
namespace Ev.Ty
open Go Ev
open Enc (enc)
open Sm (sm)
set_option linter.unusedSimpArgs false
set_option linter.unusedVariables false
set_option maxHeartbeats 1000000
theorem laws_lwNums (a b:List Int) (ha:a.length≤4294967296):Call F.laws_lwNums [slc a,slc b] (.bool (decide (a=b))):=by
 refine call_of rfl (a.length+1) ((laws_lwNums.ev _ _ _).trans ?_)
 by_cases hl:a.length=b.length
 · have hl':((a.length:Nat):Int)=((b.length:Nat):Int):=by omega
   have key:∀ (d k f:Nat),k+d=a.length→d < f→laws_lwNums.at0 (a.length+1) f (laws_lwNums.st0 (cells a) (cells b) (k:Nat))=some (.bool (decide (a.drop k=b.drop k)),[]):=by
    intro d
    induction d with
    | zero =>
      intro k f hk hf
      obtain ⟨f,rfl⟩:∃ g,f=g+1:=⟨f - 1,by omega⟩
      have h1:¬ k < a.length:=by omega
      have e:a.drop k=b.drop k:=by rw [List.drop_eq_nil_of_le (by omega),List.drop_eq_nil_of_le (by omega)]
      simp only [laws_lwNums.next0,laws_lwNums.round0,evz,Nat.reduceLT,h1,e,decide_true]
    | succ d ih =>
      intro k f hk hf
      obtain ⟨f,rfl⟩:∃ g,f=g+1:=⟨f - 1,by omega⟩
      have h1:k < a.length:=by omega
      have h2:k < b.length:=by omega
      have i1:a[k]?=some a[k]:=List.getElem?_eq_getElem h1
      have i2:b[k]?=some b[k]:=List.getElem?_eq_getElem h2
      simp only [laws_lwNums.next0,laws_lwNums.round0,evz,Nat.reduceLT,h1,h2,i1,i2,enc_int]
      rw [List.drop_eq_getElem_cons h1,List.drop_eq_getElem_cons h2]
      by_cases e:a[k]=b[k]
      · simp only [e,evz,Nat.reduceLT,wrap_succ (by omega:k < 9223372036854775807),ih (k+1) f (by omega) (by omega),List.cons.injEq,true_and,bne_self_eq_false]
      · rw [decide_eq_false (fun h=>e (List.cons.inj h).1)]
        simp [e]
   have:=key a.length 0 (a.length+1) (by omega) (by omega)
   simp only [evz,Nat.reduceLT,hl',bne_self_eq_false]
   refine this.trans ?_
   rw [List.drop_zero,List.drop_zero]
 · have hl':¬ ((a.length:Nat):Int)=((b.length:Nat):Int):=by omega
   have hne:¬ a=b:=fun e=>hl (by rw [e])
   simp only [evz,Nat.reduceLT,hl',hne,ne_eq,not_false_eq_true,decide_true,decide_false]
def cmpV (l:List Symbol) (o a b:List Int):Int:=if a=b then 3 else if gt l o a b 0 0=true then 1 else if gt l o b a 0 0=true then 2 else 0
def cmpF (s:Signature) (o a b:List Int):Int:=if orderFault s o=0 then if termFault s a=0 then termFault s b else termFault s a else orderFault s o
theorem termFault_0 {l:List Symbol} (h:sigFault ⟨l⟩=0) (t:List Int):termFault ⟨l⟩ t=termFault0 l t:=by
 unfold termFault; rw [if_neg (by simpa using h)]
theorem cmpF_ok {l:List Symbol} {o a b:List Int} (h:cmpF ⟨l⟩ o a b=0):SigOk ⟨l⟩∧o.length≤1048576∧(∀ n:Int,0≤n→n < l.length→n∈o)∧TermOk l a∧TermOk l b:=by
 unfold cmpF at h
 by_cases h0:orderFault ⟨l⟩ o=0
 · rw [if_pos h0] at h
   obtain ⟨h1,h2⟩:=orderF_ok h0
   rw [termFault_0 h1,termFault_0 h1] at h
   obtain ⟨p1,p2⟩:=orderOk h2
   have ok:=sigOk_of h1
   have hls:l.length≤6:=ok.le
   by_cases ha:termFault0 l a=0
   · rw [if_pos ha] at h
     exact ⟨ok,by omega,p2,(termOk_iff l a).1 ha,(termOk_iff l b).1 h⟩
   · rw [if_neg ha] at h; exact absurd h ha
 · rw [if_neg h0] at h; exact absurd h h0
section
variable {l:List Symbol} {o:List Int} (ok:SigOk ⟨l⟩) (hol:o.length≤1048576) (ho:∀ n:Int,0≤n→n < l.length→n∈o)
include ok hol ho
theorem spec_l7Compare {a b:List Int} (ha:TermOk l a) (hb:TermOk l b):Call F.spec_l7Compare [.rref [slc l] 0,slc o,slc a,slc b] (.int .i64 (cmpV l o a b)):=by
 have h1:=ha.le
 refine call_of rfl 0 ((spec_l7Compare.ev _ _ _ _ _).trans ?_)
 simp only [evz,Nat.reduceLT,(spec_l1Same a b ⟨by omega,fun _ _=>trivial⟩).eq,(spec_l7Over ok ha hb hol ho).eq,(spec_l7Over ok hb ha hol ho).eq,cmpV]
 by_cases e:a=b
 · simp [e]
 · cases e1:gt l o a b 0 0
   · cases e2:gt l o b a 0 0 <;> simp [e]
   · simp [e]
end
section
variable {l:List Symbol} {o:List Int} (ok:SigOk ⟨l⟩) (hol:o.length≤1048576) (ho:∀ n:Int,0≤n→n < l.length→n∈o)
include ok hol ho
end
end Ev.Ty
end
section
namespace Ev.Ty
open Go Ev
open Enc (enc)
open Sm (sm)
set_option linter.unusedSimpArgs false
set_option linter.unusedVariables false
def Free (b:Bnd) (t:List Int):Prop:=∀ n∈t,(-1 - n)∉b.1
theorem bindOf_notMem {vs:List Int} {ts:List (List Int)} {v:Int} (h:v∉vs):bindOf vs ts v=none:=by
 unfold bindOf
 rcases idx_spec (fun x:Int=>decide (x=v)) vs with ⟨h1,_⟩ | ⟨i,hi,h1,hy,_⟩
 · rw [if_pos (by omega)]
 · have:vs[i]=v:=by simpa using hy
   exact absurd (this ▸ List.getElem_mem hi) h
theorem applied_free {b:Bnd}:∀ {t:List Int},Free b t→applied b.1 b.2 t=t
 | [],_=>rfl
 | n::t,h=>by
   have ih:=applied_free (b:=b) (t:=t) fun m hm=>h m (List.mem_cons_of_mem _ hm)
   have e:applied b.1 b.2 (n::t)=(bindOf b.1 b.2 (-1 - n)).getD [n]++applied b.1 b.2 t:=by simp [applied]
   rw [e,bindOf_notMem (h n (by simp)),ih]; rfl
theorem applied_nodes {vs:List Int} {ts:List (List Int)} {P:Int→Prop} (ht:∀ x∈ts,∀ n∈x,P n) {t:List Int} (h:∀ n∈t,bindOf vs ts (-1 - n)=none→P n):∀ n∈applied vs ts t,P n:=fun n hn=>by
 unfold applied at hn
 obtain ⟨m,hm,hn⟩:=List.mem_flatMap.1 hn
 cases ho:bindOf vs ts (-1 - m) with
 | none=>rw [ho] at hn; rw [List.mem_singleton.1 hn]; exact h m hm ho
 | some o=>rw [ho] at hn; exact ht o (bindOf_mem ho) n hn
structure UB (l:List Symbol) (b:Bnd):Prop where
 mb:MB l b 12
 nd:b.1.Nodup
 free:∀ t∈b.2,Free b t
theorem UB.nil (l:List Symbol):UB l ([],[]):=⟨(MB.nil l).up (by omega),List.nodup_nil,by simp⟩
theorem UB.le {l:List Symbol} {b:Bnd} (h:UB l b):b.1.length≤12:=h.mb.le
theorem UB.applied_free {l:List Symbol} {b:Bnd} (h:UB l b) (t:List Int):Free b (applied b.1 b.2 t):=applied_nodes h.free fun n _ hn=>bindOf_none h.mb.len hn
def one (v:Int) (t:List Int):Bnd:=([v],[t])
abbrev Pr:=Equation
def argsOf (l:List Symbol) (x y:List Int):List Pr:=((starts l x 0).zip (starts l y 0)).map fun p=>⟨subAt l x p.1,subAt l y p.2⟩
def psize (b:Bnd) (ps:List Pr):Nat:=(ps.map fun p=>(applied b.1 b.2 p.left).length+(applied b.1 b.2 p.right).length).sum
theorem sum_starts {l:List Symbol} {t:List Int} (ht:TermOk l t):∀ {n p:Nat} {r:List Int},skip (ar l) n (t.drop p)=some r→((startsN l t n p).map fun q=>(subAt l t q).length).sum+r.length=t.length - p
 | 0,p,r,h=>by
   rw [skip_zero] at h
   rw [← Option.some.inj h]
   simp [startsN]
 | n+1,p,r,h=>by
   obtain ⟨h1,h2,h3,h4⟩:=skip_one h
   have ih:=sum_starts ht h2
   have hs:=(sub_split ht h1).2.1
   rw [startsN,List.map_cons,List.sum_cons]
   omega
theorem sum_args {l:List Symbol} {t:List Int} (ht:TermOk l t):((starts l t 0).map fun q=>(subAt l t q).length).sum+1=t.length:=by
 have hp:=ht.pos
 obtain ⟨r,hr⟩:=args_skip ht (p:=0) (by omega)
 have hd:t.getD 0 0=t[0]:=getD_at (by omega)
 have h:=sum_starts ht hr
 have hw:=ht.skip
 have e:t=t[0]::t.drop 1:=by
  have:=List.drop_eq_getElem_cons (l:=t) (i:=0) (by omega)
  rwa [List.drop_zero] at this
 rw [e,skip,Nat.zero_add] at hw
 rw [Nat.zero_add,hw] at hr
 have:r=[]:=(Option.some.inj hr).symm
 subst this
 unfold starts
 rw [hd]
 simp at h ⊢
 omega
theorem zip_sum {α β:Type} (f:α→Nat) (g:β→Nat):∀ (A:List α) (B:List β),A.length=B.length→((A.zip B).map fun p=>f p.1+g p.2).sum=(A.map f).sum+(B.map g).sum
 | [],[],_=>rfl
 | a::A,b::B,h=>by
   have ih:=zip_sum f g A B (by simpa using h)
   simp only [List.zip_cons_cons,List.map_cons,List.sum_cons] at ih ⊢
   omega
 | [],_::_,h=>by simp at h
 | _::_,[],h=>by simp at h
theorem subAt_sub {l:List Symbol} {t:List Int} {p:Nat}:∀ n∈subAt l t p,n∈t:=fun n hn=>List.mem_of_mem_take (List.mem_of_mem_drop hn)
theorem args_size {l:List Symbol} {b:Bnd} {x y:List Int} (hx:TermOk l x) (hy:TermOk l y) (fx:Free b x) (fy:Free b y) (he:x.getD 0 0=y.getD 0 0):psize b (argsOf l x y)+2=x.length+y.length:=by
 have e:(argsOf l x y).map (fun p=>(applied b.1 b.2 p.left).length+(applied b.1 b.2 p.right).length)=((starts l x 0).zip (starts l y 0)).map fun p=>(subAt l x p.1).length+(subAt l y p.2).length:=by
  unfold argsOf
  rw [List.map_map]
  refine List.map_congr_left fun p hp => ?_
  show (applied b.1 b.2 (subAt l x p.1)).length+(applied b.1 b.2 (subAt l y p.2)).length=_
  rw [applied_free fun n hn=>fx n (subAt_sub n hn),applied_free fun n hn=>fy n (subAt_sub n hn)]
 have hl:(starts l x 0).length=(starts l y 0).length:=by unfold starts; rw [startsN_length,startsN_length,he]
 unfold psize
 rw [e,zip_sum (fun p=>(subAt l x p).length) (fun q=>(subAt l y q).length) _ _ hl]
 have:=sum_args hx
 have:=sum_args hy
 omega
end Ev.Ty
end
section
namespace Ev.Ty
open Go Ev
open Enc (enc)
open Sm (sm)
set_option linter.unusedSimpArgs false
set_option linter.unusedVariables false
theorem applied_ge {b:Bnd} {l:List Symbol} {k:Nat} (hb:MB l b k):∀ t:List Int,t.length≤(applied b.1 b.2 t).length
 | []=>by simp [applied]
 | n::t=>by
   have ih:=applied_ge hb t
   have e:applied b.1 b.2 (n::t)=(bindOf b.1 b.2 (-1 - n)).getD [n]++applied b.1 b.2 t:=by simp [applied]
   rw [e,List.length_append,List.length_cons]
   cases ho:bindOf b.1 b.2 (-1 - n) with
   | none=>simp; omega
   | some o =>
     have:=(hb.tm o (bindOf_mem ho)).pos
     simp; omega
def pstep (seen:List Int) (n:Int):Int × List Int :=
 if 0≤n then (n,seen) else if idx (fun x=>decide (x=n)) seen < 0 then (-1 - (seen.length:Int),seen++[n]) else (-1 - idx (fun x=>decide (x=n)) seen,seen)
def plainL:List Int→List Int→List Int × List Int
 | seen,[]=>([],seen)
 | seen,n::t=>((pstep seen n).1::(plainL (pstep seen n).2 t).1,(plainL (pstep seen n).2 t).2)
theorem plainL_append:∀ (seen a b:List Int),plainL seen (a++b)=((plainL seen a).1++(plainL (plainL seen a).2 b).1,(plainL (plainL seen a).2 b).2)
 | seen,[],b=>rfl
 | seen,n::a,b=>by
   rw [List.cons_append,plainL,plainL_append,plainL]; rfl
theorem plainL_length:∀ (seen t:List Int),(plainL seen t).1.length=t.length∧(plainL seen t).2.length≤seen.length+t.length∧seen.length≤(plainL seen t).2.length
 | seen,[]=>⟨rfl,by simp [plainL],by simp [plainL]⟩
 | seen,n::t=>by
   have ih:=plainL_length (pstep seen n).2 t
   have hp:(pstep seen n).2.length≤seen.length+1∧seen.length≤(pstep seen n).2.length:=by
    unfold pstep
    split
    · exact ⟨by simp,by simp⟩
    split
    · simp
    · exact ⟨by simp,by simp⟩
   rw [plainL]
   simp only [List.length_cons]
   omega
def plainE (e:Equation):Equation:=⟨(plainL [] e.left).1,(plainL (plainL [] e.left).2 e.right).1⟩
def seenE (e:Equation):List Int:=(plainL (plainL [] e.left).2 e.right).2
end Ev.Ty
end
section
namespace Ev.Ty
open Go Ev
open Enc (enc)
open Sm (sm)
set_option linter.unusedSimpArgs false
set_option linter.unusedVariables false
def StackOk (b:Bnd) (ps:List Pr):Prop:=∃ new old:List Pr,ps=new++old∧psize b new≤46∧old.length≤24*b.1.length+1
theorem psize_len {l:List Symbol} {b:Bnd} (hb:UB l b):∀ {ps:List Pr},(∀ p∈ps,TermOk l p.left∧TermOk l p.right)→2*ps.length≤psize b ps
 | [],_=>by simp [psize]
 | p::ps,h=>by
   have ih:=psize_len hb (ps:=ps) fun q hq=>h q (List.mem_cons_of_mem _ hq)
   have hp:=h p (by simp)
   have h1:=applied_ge hb.mb p.left
   have h2:=applied_ge hb.mb p.right
   have:=hp.1.pos
   have:=hp.2.pos
   simp only [psize,List.map_cons,List.sum_cons,List.length_cons] at ih ⊢
   omega
theorem StackOk.len {l:List Symbol} {b:Bnd} (hb:UB l b) {ps:List Pr} (hps:∀ p∈ps,TermOk l p.left∧TermOk l p.right) (h:StackOk b ps):ps.length≤400:=by
 obtain ⟨new,old,rfl,h1,h2⟩:=h
 have:=psize_len hb (ps:=new) fun q hq=>hps q (List.mem_append_left _ hq)
 have:=hb.le
 rw [List.length_append]
 omega
theorem psize_cons (b:Bnd) (p:Pr) (ps:List Pr):psize b (p::ps)=(applied b.1 b.2 p.left).length+(applied b.1 b.2 p.right).length+psize b ps:=by simp [psize]
theorem psize_append (b:Bnd) (ps qs:List Pr):psize b (ps++qs)=psize b ps+psize b qs:=by simp [psize]
theorem StackOk.tail {b:Bnd} {p:Pr} {ps:List Pr} (h:StackOk b (p::ps)):StackOk b ps:=by
 obtain ⟨new,old,e,h1,h2⟩:=h
 cases new with
 | nil =>
   rw [List.nil_append] at e
   subst e
   exact ⟨[],ps,rfl,by simp [psize],by simp at h2; omega⟩
 | cons q new =>
   rw [List.cons_append] at e
   injection e with e1 e2
   rw [psize_cons] at h1
   exact ⟨new,old,e2,by omega,h2⟩
theorem StackOk.bind {l:List Symbol} {b b':Bnd} (hb:UB l b) {p:Pr} {ps:List Pr} (hps:∀ q∈p::ps,TermOk l q.left∧TermOk l q.right) (h:StackOk b (p::ps)) (hl:b'.1.length=b.1.length+1):StackOk b' ps:=by
 obtain ⟨new,old,e,h1,h2⟩:=h.tail
 have:=psize_len hb (ps:=new) fun q hq=>hps q (List.mem_cons_of_mem _ (e ▸ List.mem_append_left _ hq))
 exact ⟨[],ps,rfl,by simp [psize],by rw [e,List.length_append]; omega⟩
theorem StackOk.args {b:Bnd} {p:Pr} {ps qs:List Pr} (h:StackOk b (p::ps)) (hq:psize b qs+2=(applied b.1 b.2 p.left).length+(applied b.1 b.2 p.right).length) (h1:(applied b.1 b.2 p.left).length≤24) (h2:(applied b.1 b.2 p.right).length≤24):StackOk b (qs++ps):=by
 obtain ⟨new,old,e,h3,h4⟩:=h
 cases new with
 | nil =>
   rw [List.nil_append] at e
   subst e
   exact ⟨qs,ps,rfl,by omega,by simp at h4; omega⟩
 | cons q new =>
   rw [List.cons_append] at e
   injection e with e1 e2
   subst e1
   rw [psize_cons] at h3
   exact ⟨qs++new,old,by rw [e2,List.append_assoc],by rw [psize_append]; omega,h4⟩
section
variable {l:List Symbol} (ok:SigOk ⟨l⟩)
include ok
end
end Ev.Ty
end
section
namespace Ev.Ty
open Go Ev
open Enc (enc)
open Sm (sm)
set_option linter.unusedSimpArgs false
set_option linter.unusedVariables false
section
variable {l:List Symbol} (ok:SigOk ⟨l⟩)
include ok
end
end Ev.Ty
end
section
namespace Ev.Ty
open Go Ev
open Enc (enc)
open Sm (sm)
set_option linter.unusedSimpArgs false
set_option linter.unusedVariables false
theorem idx_neg_iff {s:List Int} {n:Int}:idx (fun x=>decide (x=n)) s < 0↔n∉s:=by
 rcases idx_spec (fun x:Int=>decide (x=n)) s with ⟨h1,h2⟩ | ⟨i,hi,h1,h2,_⟩
 · exact ⟨fun _ hm=>by have:=h2 n hm; simp at this,fun _=>by omega⟩
 · exact ⟨fun h=>by omega,fun h=>absurd ((show s[i]=n by simpa using h2) ▸ List.getElem_mem hi) h⟩
theorem idx_range (s:List Int) (n:Int) : -1≤idx (fun x=>decide (x=n)) s∧idx (fun x=>decide (x=n)) s < s.length+1:=by
 rcases idx_spec (fun x:Int=>decide (x=n)) s with ⟨h1,_⟩ | ⟨i,hi,h1,_,_⟩ <;> omega
def plSt (seen t:List Int) (k:Nat):List Int × List Int:=((plainL seen (t.take k)).1++t.drop k,(plainL seen (t.take k)).2)
theorem plSt_len (seen t:List Int) {k:Nat} (hk:k≤t.length):(plSt seen t k).1.length=t.length:=by
 have:=(plainL_length seen (t.take k)).1
 unfold plSt; simp only [List.length_append,this]; simp; omega
theorem plSt_get (seen t:List Int) {k:Nat} (h:k < t.length):(plSt seen t k).1[k]?=some t[k]:=by
 have hl:=(plainL_length seen (t.take k)).1
 rw [List.length_take,Nat.min_eq_left (Nat.le_of_lt h)] at hl
 unfold plSt
 simp only
 rw [List.getElem?_append_right (by omega),hl,Nat.sub_self,List.drop_eq_getElem_cons h]; rfl
theorem plSt_seen (seen t:List Int) (k:Nat):(plSt seen t k).2.length≤seen.length+k:=by
 have:=(plainL_length seen (t.take k)).2.1
 unfold plSt
 simp at this ⊢
 omega
theorem plSt_succ (seen t:List Int) {k:Nat} (h:k < t.length):plSt seen t (k+1)=((plSt seen t k).1.set k (pstep (plSt seen t k).2 t[k]).1,(pstep (plSt seen t k).2 t[k]).2):=by
 have hl:=(plainL_length seen (t.take k)).1
 rw [List.length_take,Nat.min_eq_left (Nat.le_of_lt h)] at hl
 unfold plSt
 simp only
 rw [← List.take_append_getElem h,plainL_append,List.set_append_right _ _ (by omega),hl,Nat.sub_self,List.drop_eq_getElem_cons h,List.set_cons_zero]
 simp [plainL]
theorem plSt_zero (seen t:List Int):plSt seen t 0=(t,seen):=by simp [plSt,plainL]
theorem plSt_end (seen t:List Int):plSt seen t t.length=plainL seen t:=by simp [plSt]
theorem plSt_pos (seen t:List Int) {k:Nat} (h:k < t.length) (h0:0≤t[k]):plSt seen t (k+1)=plSt seen t k:=by
 have e:=plSt_succ seen t h
 have:pstep (plSt seen t k).2 t[k]=(t[k],(plSt seen t k).2):=by unfold pstep; rw [if_pos h0]
 rw [e,this,set_same (plSt_get seen t h)]
theorem plSt_new (seen t:List Int) {k:Nat} (h:k < t.length) (h0:¬ 0≤t[k]) (hn:t[k]∉(plSt seen t k).2) :
 plSt seen t (k+1)=((plSt seen t k).1.set k (-1 - ((plSt seen t k).2.length:Int)),(plSt seen t k).2++[t[k]]):=by
 rw [plSt_succ seen t h]
 unfold pstep
 rw [if_neg h0,if_pos (idx_neg_iff.2 hn)]
theorem plSt_old (seen t:List Int) {k:Nat} (h:k < t.length) (h0:¬ 0≤t[k]) (hn:t[k]∈(plSt seen t k).2) :
 plSt seen t (k+1)=((plSt seen t k).1.set k (-1 - idx (fun x=>decide (x=t[k])) (plSt seen t k).2),(plSt seen t k).2):=by
 rw [plSt_succ seen t h]
 unfold pstep
 rw [if_neg h0,if_neg (fun e=>idx_neg_iff.1 e hn)]
theorem spec_l4Plain (a b:List Int) (ha:a.length≤1024) (hb:b.length≤1024):Call F.spec_l4Plain [.rref [slc a,slc b] 0]
 (.tup [.agg [slc (if (seenE ⟨a,b⟩).length≤6 then (plainE ⟨a,b⟩).left else []),slc (if (seenE ⟨a,b⟩).length≤6 then (plainE ⟨a,b⟩).right else [])],.bool (decide ((seenE ⟨a,b⟩).length≤6))]):=by
 refine call_of rfl 3000 ((spec_l4Plain.ev _ _ _).trans ?_)
 simp only [evz,Nat.reduceLT,(spec_l1Ints' a (by omega)).eq,scalars_int,← cells_append]
 rw [cond_pos (ble_ok (by rw [cells_length,cells_length,sz_int]; omega))]
 have htl:(a++b).length≤2048:=by simp; omega
 obtain ⟨t,hte⟩:∃ t,t=a++b:=⟨_,rfl⟩
 rw [← hte] at htl ⊢
 have key:=run_loop (n:=t.length) (f:=3000) (S:=fun m k (o:List Int × List Int)=>spec_l4Plain.at0 3000 m (spec_l4Plain.st0 (cells a) (cells b) (k:Nat) (cells o.1) (cells o.2)))
  (st:=fun k=>plSt [] t k) (z:=some (.tup [.agg [slc (if (seenE ⟨a,b⟩).length≤6 then (plainE ⟨a,b⟩).left else []),slc (if (seenE ⟨a,b⟩).length≤6 then (plainE ⟨a,b⟩).right else [])],.bool (decide ((seenE ⟨a,b⟩).length≤6))],[])) (fun m k h => ?_) (fun m => ?_) (by omega)
 · rw [plSt_zero] at key; exact key
 · have hl:=plSt_len [] t (Nat.le_of_lt h)
   have hg:=plSt_get [] t h
   have hsl:=plSt_seen [] t k
   have hp:=plSt_pos [] t h
   have hnw:=plSt_new [] t h
   have hod:=plSt_old [] t h
   generalize plSt [] t (k+1)=P at *
   generalize plSt [] t k=Q at *
   obtain ⟨M,s⟩:=Q
   simp only at hl hg hsl hp hnw hod
   have hkM:k < M.length:=by omega
   have hkc:k*1+1≤(cells M).length:=by rw [cells_length,sz_int]; omega
   have hix:=(spec_l2Rank s t[k] (by simp at hsl; omega)).eq
   unfold rank at hix
   have hrg:=idx_range s t[k]
   have hsl':s.length≤2048:=by simp at hsl; omega
   by_cases h0:0≤t[k]
   · have h0':t[k] ≥ 0:=h0
     rw [hp h0]
     simp only [spec_l4Plain.next0,spec_l4Plain.round0,evz,Nat.reduceLT,h,hg,hkM,enc_int,h0']
     rw [wrap_succ (by omega)]
   · have h0':¬ t[k] ≥ 0:=h0
     by_cases hm:t[k]∈s
     · rw [hod h0 hm]
       have:=set_Int hkM (-1 - idx (fun x=>decide (x=t[k])) s)
       have hi:¬ idx (fun x=>decide (x=t[k])) s < 0:=fun e=>idx_neg_iff.1 e hm
       simp only [spec_l4Plain.next0,spec_l4Plain.round0,evz,Nat.reduceLT,h,hg,hkM,enc_int,h0',hix,hi,wrap64 (x := -1 - idx (fun x=>decide (x=t[k])) s) (by omega),this,hkc]
       rw [wrap_succ (by omega)]
     · rw [hnw h0 hm]
       have:=set_Int hkM (-1 - (s.length:Int))
       have hi:idx (fun x=>decide (x=t[k])) s < 0:=idx_neg_iff.2 hm
       simp only [spec_l4Plain.next0,spec_l4Plain.round0,evz,Nat.reduceLT,h,hg,hkM,enc_int,h0',hix,hi,cells_snoc_int,wrap64 (x := -1 - (s.length:Int)) (by omega),this,hkc]
       rw [wrap_succ (by omega),cond_pos (ble_ok (by rw [cells_length,sz_int]; omega))]
 · rw [plSt_end,hte,plainL_append]
   have hl1:=(plainL_length [] a).1
   have hl2:=(plainL_length (plainL [] a).2 b).1
   have es:seenE ⟨a,b⟩=(plainL (plainL [] a).2 b).2:=rfl
   simp only [spec_l4Plain.next0,spec_l4Plain.round0,evz,Nat.reduceLT,List.length_append,hl1,hl2,Nat.lt_irrefl,es]
   by_cases h6:(plainL (plainL [] a).2 b).2.length≤6
   · have h6':¬ (((plainL (plainL [] a).2 b).2.length:Nat):Int) > 6:=by omega
     have c1:((((plainL [] a).1++(plainL (plainL [] a).2 b).1).take a.length).drop 0)=(plainL [] a).1:=by rw [List.drop_zero,← hl1,List.take_left]
     have c2:((((plainL [] a).1++(plainL (plainL [] a).2 b).1).take (a.length+b.length)).drop a.length)=(plainL (plainL [] a).2 b).1:=by
      rw [List.take_of_length_le (by rw [List.length_append]; omega),← hl1,List.drop_left]
     simp only [h6,h6',evz,Nat.reduceLT]
     rw [cond_pos (by simp; omega),slc_cut,c1,(spec_l1Ints' _ (by omega)).eq]
     simp only [evz,Nat.reduceLT]
     rw [cond_pos (by simp; omega),slc_cut,c2,(spec_l1Ints' _ (by omega)).eq]
     simp only [evz,Nat.reduceLT]
     rfl
   · have h6':(((plainL (plainL [] a).2 b).2.length:Nat):Int) > 6:=by omega
     simp only [h6,h6',evz,Nat.reduceLT,slc_nil]
end Ev.Ty
end
section
namespace Ev.Ty
open Go Ev
open Enc (enc)
open Sm (sm)
set_option linter.unusedSimpArgs false
set_option linter.unusedVariables false
section
variable {l:List Symbol} (ok:SigOk ⟨l⟩)
include ok
end
end Ev.Ty
end
section
namespace Ev.Ty
open Go Ev
open Enc (enc)
open Sm (sm)
set_option linter.unusedSimpArgs false
set_option linter.unusedVariables false
section
variable {l:List Symbol} (ok:SigOk ⟨l⟩)
include ok
end
end Ev.Ty
end
section
namespace Ev.Ty
open Go Ev
open Enc (enc)
open Sm (sm)
set_option linter.unusedSimpArgs false
set_option linter.unusedVariables false
section
variable {l:List Symbol} (ok:SigOk ⟨l⟩) {rs:List Equation} (hr:∀ e∈rs,EqOk l e) (hl:rs.length≤12)
include ok hr hl
end
end Ev.Ty
end
section
namespace Ev.Ty
open Go Ev
open Enc (enc)
open Sm (sm)
set_option linter.unusedSimpArgs false
set_option linter.unusedVariables false
section
variable {l:List Symbol} {rs:List Equation} (hrf:rulesFault ⟨l⟩ rs=0) (hls:sm 1048576 (Signature.mk l)) (hrs:sm 1048576 rs) {fuel:Nat} (hf:fuel≤200)
include hrf hls hrs hf
end
end Ev.Ty
end
section
namespace Ev.Ty
open Go Ev
open Enc (enc)
open Sm (sm)
set_option linter.unusedSimpArgs false
set_option linter.unusedVariables false
def two (e:Entry):Bool:=decide (e.kind=4)||decide (e.kind=5)
structure NumsOk (eqn enn:Nat) (e:Entry):Prop where
 kind:e.kind=1∨e.kind=2∨e.kind=3∨e.kind=4∨e.kind=5
 a0:0≤e.a
 given:e.kind=1→e.a.toNat < eqn
 other:e.kind≠1→e.a.toNat < enn
 b:e.kind=4∨e.kind=5→0≤e.b∧e.b.toNat < enn
 side:e.side=0∨(e.kind=4∧e.side=1)
 zero:e.kind≠4→e.kind≠5→e.b=0∧e.place=0
theorem nodup_sub:∀ {s t:List Int},s.Nodup→s ⊆ t→s.length≤t.length
 | [],t,_,_=>Nat.zero_le _
 | x::s,t,h,hs=>by
   have hx:x∈t:=hs (by simp)
   rw [List.nodup_cons] at h
   have h1:s ⊆ t.erase x:=fun y hy=>by
    refine (List.mem_erase_of_ne (fun (e:y=x)=>h.1 (by rw [← e]; exact hy))).2 (hs (List.mem_cons_of_mem _ hy))
   have h2:=nodup_sub h.2 h1
   rw [List.length_erase_of_mem hx] at h2
   have:=List.length_pos_of_mem hx
   rw [List.length_cons]
   omega
theorem six {s:List Int} (h1:s.Nodup) (h2:∀ m∈s,-6≤m∧m < 0):s.length≤6:=by
 have:s ⊆ [-6,-5,-4,-3,-2,-1]:=fun m hm=>by
  have:=h2 m hm
  simp only [List.mem_cons,List.not_mem_nil,or_false]
  omega
 exact nodup_sub h1 this
end Ev.Ty
end
section
namespace Ev.Ty
open Go Ev
open Enc (enc)
open Sm (sm)
set_option linter.unusedSimpArgs false
set_option linter.unusedVariables false
theorem EqOk.small {l:List Symbol} {e:Equation} (h:EqOk l e):sm 1048576 e:=⟨⟨by have:=h.left.le; omega,fun _ _=>trivial⟩,⟨by have:=h.right.le; omega,fun _ _=>trivial⟩⟩
section
variable {l:List Symbol} (ok:SigOk ⟨l⟩) (hs:sm 1048576 (Signature.mk l)) {eqs:List Equation} {ents:List Entry} (hq:∀ x∈eqs,EqOk l x) (he:∀ x∈ents,EqOk l (eqOf x)) (hql:eqs.length≤12) (hel:ents.length≤500)
include ok hs hq he hql hel
end
section
variable {l:List Symbol} (ok:SigOk ⟨l⟩) (hs:sm 1048576 (Signature.mk l)) {eqs:List Equation} (hq:∀ x∈eqs,EqOk l x) (hql:eqs.length≤12) {ents:List Entry} (hel:ents.length≤500)
include ok hs hq hql hel
end
end Ev.Ty
end
section
namespace Ev.Ty
open Go Ev
open Enc (enc)
open Sm (sm)
set_option linter.unusedSimpArgs false
set_option linter.unusedVariables false
section
variable {l:List Symbol} (ok:SigOk ⟨l⟩) (hs:sm 1048576 (Signature.mk l)) {eqs:List Equation} (hqs:sm 1048576 eqs) (hq:∀ x∈eqs,EqOk l x) (hql:eqs.length≤12) {o:List Int} (ho:sm 1048576 o)
include ok hs hqs hq hql ho
end
end Ev.Ty
end
section
namespace Ev.Ty
open Go Ev
open Enc (enc)
open Sm (sm)
set_option linter.unusedSimpArgs false
set_option linter.unusedVariables false
set_option maxHeartbeats 2000000
set_option maxRecDepth 10000
def orientC (s:Signature) (o a b:List Int):Int:=if cmpF s o a b=0 then if cmpV s.symbols o a b=1∨cmpV s.symbols o a b=2 then 0 else 10 else cmpF s o a b
def orientL (s:Signature) (o a b:List Int):List Int:=if cmpF s o a b=0 then if cmpV s.symbols o a b=1 then a else if cmpV s.symbols o a b=2 then b else [] else []
def orientE (s:Signature) (o a b:List Int):List Int:=if cmpF s o a b=0 then if cmpV s.symbols o a b=1 then b else if cmpV s.symbols o a b=2 then a else [] else []
theorem copy_eq (x y:List Int) (h1:x.length≤4294967296) (h2:y.length≤4294967296):Call F.spec_l4Copy [.rref [slc x,slc y] 0] (.agg [slc x,slc y]):=by
 refine call_of rfl 0 ((spec_l4Copy.ev _ _ _).trans ?_)
 simp only [evz,Nat.reduceLT,(spec_l1Ints x h1).eq,(spec_l1Ints y h2).eq]
theorem spec_OrientEquation (l:List Symbol) (hsl:l.length≤4294967296) (o:List Int) (hol:o.length≤4294967296) (a b:List Int) (ha:a.length≤4294967296) (hb:b.length≤4294967296) :
 Call F.spec_OrientEquation [.agg [slc l],slc o,.agg [slc a,slc b]] (.agg [.int .i64 (orientC ⟨l⟩ o a b),slc (orientL ⟨l⟩ o a b),slc (orientE ⟨l⟩ o a b)]):=by
 refine call_of rfl 0 ((spec_OrientEquation.ev _ _ _ _ _).trans ?_)
 simp only [evz,Nat.reduceLT,(spec_OrderFault l hsl o hol).eq]
 have bad:∀ c:Int,cmpF ⟨l⟩ o a b=c→¬ c=0→orientC ⟨l⟩ o a b=c∧orientL ⟨l⟩ o a b=[]∧orientE ⟨l⟩ o a b=[]:=fun c h1 h2=>by
  subst h1
  exact ⟨if_neg h2,if_neg h2,if_neg h2⟩
 by_cases h0:orderFault ⟨l⟩ o=0
 case neg =>
  obtain ⟨b1,b2,b3⟩:=bad (orderFault ⟨l⟩ o) (by unfold cmpF; rw [if_neg h0]) h0
  rw [b1,b2,b3]
  simp only [h0,evz,Nat.reduceLT,ne_eq,not_false_eq_true]
  rfl
 have h1:=(orderF_ok h0).1
 have ok:=sigOk_of h1
 simp only [h0,evz,Nat.reduceLT,ne_eq,not_true_eq_false,(spec_l3Fault l ok a ha).eq,(spec_l3Fault l ok b hb).eq]
 by_cases h2:termFault0 l a=0
 case neg =>
  obtain ⟨b1,b2,b3⟩:=bad (termFault0 l a) (by unfold cmpF; rw [if_pos h0,termFault_0 h1,termFault_0 h1,if_neg h2]) h2
  rw [b1,b2,b3]
  simp only [h2,evz,Nat.reduceLT,ne_eq,not_false_eq_true]
  rfl
 by_cases h3:termFault0 l b=0
 case neg =>
  obtain ⟨b1,b2,b3⟩:=bad (termFault0 l b) (by unfold cmpF; rw [if_pos h0,termFault_0 h1,termFault_0 h1,if_pos h2]) h3
  rw [b1,b2,b3]
  simp only [h2,h3,evz,Nat.reduceLT,ne_eq,not_false_eq_true,not_true_eq_false]
  rfl
 have h:cmpF ⟨l⟩ o a b=0:=by unfold cmpF; rw [if_pos h0,termFault_0 h1,termFault_0 h1,if_pos h2,h3]
 obtain ⟨_,q1,q2,q3,q4⟩:=cmpF_ok h
 rw [orientC,orientL,orientE]
 simp only [h,h2,h3,evz,Nat.reduceLT,ne_eq,not_true_eq_false,(spec_l7Compare ok q1 q2 q3 q4).eq]
 by_cases v1:cmpV l o a b=1
 · simp only [v1,evz,Nat.reduceLT,(copy_eq a b ha hb).eq,true_or]
 · by_cases v2:cmpV l o a b=2
   · simp only [v1,v2,evz,Nat.reduceLT,(spec_l1Ints a ha).eq,(spec_l1Ints b hb).eq,or_true,show ¬ (2:Int)=1 by decide]
   · simp only [v1,v2,evz,Nat.reduceLT,or_self,not_false_eq_true]
     rfl
theorem orient_small (l:List Symbol) (o a b:List Int) {n:Nat} (ha:a.length≤n) (hb:b.length≤n):(orientL ⟨l⟩ o a b).length≤n∧(orientE ⟨l⟩ o a b).length≤n:=by
 unfold orientL orientE
 split
 · split
   · exact ⟨ha,hb⟩
   · split
     · exact ⟨hb,ha⟩
     · exact ⟨Nat.zero_le _,Nat.zero_le _⟩
 · exact ⟨Nat.zero_le _,Nat.zero_le _⟩
def EqS (n:Nat) (es:List Equation):Prop:=es.length≤n∧∀ e∈es,e.left.length≤1001∧e.right.length≤1001
theorem EqS.sm {n:Nat} {es:List Equation} (h:EqS n es) (hn:n≤1001):Sm.sm 1048576 es:=⟨by have:=h.1; omega,fun e he=>⟨⟨by have:=(h.2 e he).1; omega,fun _ _=>trivial⟩,⟨by have:=(h.2 e he).2; omega,fun _ _=>trivial⟩⟩⟩
theorem EqS.snoc {n:Nat} {es:List Equation} (h:EqS n es) {a b:List Int} (ha:a.length≤1001) (hb:b.length≤1001):EqS (n+1) (es++[⟨a,b⟩]):=⟨by have:=h.1; simp; omega,fun e he=>by
 rcases List.mem_append.1 he with h1 | h1
 · exact h.2 e h1
 · rw [List.mem_singleton.1 h1]; exact ⟨ha,hb⟩⟩
theorem cells_eq (es:List Equation) (a b:List Int):cells es++[slc a,slc b]=cells (es++[⟨a,b⟩]):=by rw [cells_append]; rfl
section
variable {code:List UInt8} (hc:code.length≤2097152)
include hc
theorem spec_l7Rules {l:List Symbol} (ok:SigOk ⟨l⟩) (o:List Int) (ho:o.length≤1000) (p n:Int) (hn:0≤n∧n≤12) (hp:0≤p∧p≤1099400000000) :
 Drawn code p 100000 (fun x=>∃ es,x=slc es∧EqS n.toNat es) (LIM F.spec_l7Rules [.rref [slc code,.int .i64 p] 0,.rref [slc l] 0,slc o,.int .i64 n]):=by
 have hll:l.length≤6:=ok.le
 refine drawn_of rfl 20 ?_
 rw [show callK prog A H LIM 20 F.spec_l7Rules [.rref [slc code,.int .i64 p] 0,.rref [slc l] 0,slc o,.int .i64 n]=_ from spec_l7Rules.ev _ _ _ _ _ _]
 rw [show IntKind.wrap .i64 (n+1)=n+1 from wrap64 (by omega)]
 refine next_s hc (by omega) fun v h1 h2 => ?_
 have h2:=h2 (by omega)
 simp only [evz,Nat.reduceLT]
 refine draw_loop (σ:=Int × Int × List Equation) (S:=fun m s=>spec_l7Rules.at0 20 m (spec_l7Rules.st0 (cells l) (cells o) s.1 (cells code) s.2.1 (cells s.2.2))) (fun s=>0≤s.1∧s.1≤n∧p≤s.2.1∧s.2.1≤p+1+(n - s.1)*6300∧EqS (n - s.1).toNat s.2.2) (fun s=>s.1.toNat) (fun m s hs => ?_) _ (v,p+1,[]) ⟨h1,by simp only; omega,by simp only; omega,by simp only; omega,⟨by simp,by simp⟩⟩ (by simp only; omega)
 obtain ⟨k,q,es⟩:=s
 obtain ⟨g1,g2,g3,g4,g5⟩:=hs
 simp only at g1 g2 g3 g4 g5 ⊢
 have hes:=g5.1
 by_cases hk:k > 0
 case neg =>
  left
  simp only [spec_l7Rules.next0,spec_l7Rules.round0,evz,Nat.reduceLT,hk]
  exact drawn_end (by omega) ⟨es,rfl,by omega,g5.2⟩
 right
 have wk:IntKind.wrap .i64 (k - 1)=k - 1:=wrap64 (by omega)
 obtain ⟨_,q2,e1,c1,c2,a,b,rfl,heq⟩:=spec_l4Draw hc ok q (by omega)
 have hal:=heq.left.le
 have hbl:=heq.right.le
 simp only at hal hbl
 have e2:=(spec_OrientEquation l (by omega) o (by omega) a b (by omega) (by omega)).eq
 obtain ⟨s1,s2⟩:=orient_small l o a b hal hbl
 have skip:EqS (n - (k - 1)).toNat es:=⟨by omega,g5.2⟩
 by_cases h0:orientC ⟨l⟩ o a b=0
 · generalize hx:orientL ⟨l⟩ o a b=x at *
   generalize hy:orientE ⟨l⟩ o a b=y at *
   have e3:=(spec_l4Plain x y (by omega) (by omega)).eq
   have l1:=(plainL_length [] x).1
   have l2:=(plainL_length (plainL [] x).2 y).1
   by_cases h6:(seenE ⟨x,y⟩).length≤6
   · refine ⟨(k - 1,q2,es++[⟨(plainE ⟨x,y⟩).left,(plainE ⟨x,y⟩).right⟩]),?_,⟨by simp only; omega,by simp only; omega,by simp only; omega,by simp only; omega,?_⟩,by simp only; omega⟩
     · simp only [h6,if_true,decide_true] at e3
       simp only [spec_l7Rules.next0,spec_l7Rules.round0,evz,Nat.reduceLT,hk,wk,e1,e2,h0,e3]
       rw [cond_pos (ble_ok (by rw [cells_length]; simp only [sz_Equation]; omega)),cells_eq]
     · simp only
       have:=g5.snoc (a:=(plainE ⟨x,y⟩).left) (b:=(plainE ⟨x,y⟩).right) (by show (plainL [] x).1.length≤1001; omega) (by show (plainL (plainL [] x).2 y).1.length≤1001; omega)
       exact ⟨by have:=this.1; omega,this.2⟩
   · refine ⟨(k - 1,q2,es),?_,⟨by simp only; omega,by simp only; omega,by simp only; omega,by simp only; omega,skip⟩,by simp only; omega⟩
     simp only [h6,if_false,decide_false] at e3
     simp only [spec_l7Rules.next0,spec_l7Rules.round0,evz,Nat.reduceLT,hk,wk,e1,e2,h0,e3]
 · refine ⟨(k - 1,q2,es),?_,⟨by simp only; omega,by simp only; omega,by simp only; omega,by simp only; omega,skip⟩,by simp only; omega⟩
   simp only [spec_l7Rules.next0,spec_l7Rules.round0,evz,Nat.reduceLT,hk,wk,e1,e2,h0]
omit hc in
theorem fill_rules (o:List Int) (p2 p n:Int) (hp:p≤p2∧p2≤p+200000) (hn:n≤13) (es:List Equation) (h0:0 < es.length) (he:EqS 13 es) :
 Drawn code p 200000 (fun x=>∃ es,x=slc es∧EqS 13 es) (spec_l7BentRules.at0 20 20 (spec_l7BentRules.st0 n (cells code) p2 (cells es))):=by
 refine draw_loop (σ:=List Equation) (S:=fun m s=>spec_l7BentRules.at0 20 m (spec_l7BentRules.st0 n (cells code) p2 (cells s))) (fun s=>0 < s.length∧EqS 13 s) (fun s=>13 - s.length) (fun m s hs => ?_) _ es ⟨h0,he⟩ (by omega)
 obtain ⟨g1,g2⟩:=hs
 have hs:=g2.1
 by_cases hk:((s.length:Nat):Int) < n
 case neg =>
  left
  simp only [spec_l7BentRules.next0,spec_l7BentRules.round0,evz,Nat.reduceLT,hk]
  exact drawn_end hp ⟨s,rfl,g2⟩
 right
 match s,g1 with
 | e::r,_ =>
   have hem:=g2.2 e (List.mem_cons_self ..)
   have e0:inB 0 (e::r).length=true:=(inB_nat 0 _).trans (by simp)
   have ew:((cells (e::r)).drop 0).take 2=[slc e.left,slc e.right]:=by rw [cells_cons]; rfl
   have ec:=(copy_eq e.left e.right (by omega) (by omega)).eq
   refine ⟨(e::r)++[⟨e.left,e.right⟩],?_,⟨by simp,?_⟩,by simp only [List.length_append,List.length_cons,List.length_nil] at hk ⊢; omega⟩
   · simp only [spec_l7BentRules.next0,spec_l7BentRules.round0,evz,Nat.reduceLT,hk,e0,ew,ec]
     rw [cond_pos (ble_ok (by rw [cells_length]; simp only [sz_Equation]; omega)),cells_eq]
   · exact ⟨by simp only [List.length_append,List.length_cons,List.length_nil] at hk ⊢; omega,fun x hx=>by
      rcases List.mem_append.1 hx with h | h
      · exact g2.2 x h
      · rw [List.mem_singleton.1 h]; exact hem⟩
theorem spec_l7BentRules {l:List Symbol} (hl:l.length≤1000) (o:List Int) (ho:o.length≤1000) (p:Int) (hp:0≤p∧p≤1099300000000) :
 Drawn code p 200000 (fun x=>∃ es,x=slc es∧EqS 13 es∧(0 < es.length→SigOk ⟨l⟩)) (LIM F.spec_l7BentRules [.rref [slc code,.int .i64 p] 0,.rref [slc l] 0,slc o]):=by
 refine drawn_of rfl 20 ?_
 rw [show callK prog A H LIM 20 F.spec_l7BentRules [.rref [slc code,.int .i64 p] 0,.rref [slc l] 0,slc o]=_ from spec_l7BentRules.ev _ _ _ _ _]
 have leaf:∀ (es:List Equation) (p2:Int),p≤p2∧p2≤p+200000→EqS 13 es→(0 < es.length→SigOk ⟨l⟩)→Drawn code p 200000 (fun x=>∃ es,x=slc es∧EqS 13 es∧(0 < es.length→SigOk ⟨l⟩)) (some (slc es,[.agg [slc code,.int .i64 p2]])):=fun es p2 h he hs=>drawn_end h ⟨es,rfl,he,hs⟩
 simp only [evz,Nat.reduceLT,(spec_OrderFault l (by omega) o (by omega)).eq]
 by_cases h0:orderFault ⟨l⟩ o=0
 case neg =>
  simp only [h0,evz,Nat.reduceLT,ne_eq,not_false_eq_true]
  exact leaf [] p (by omega) ⟨by simp,by simp⟩ (fun h=>absurd h (by simp))
 have ok:=sigOk_of (orderF_ok h0).1
 simp only [h0,evz,Nat.reduceLT,ne_eq,not_true_eq_false]
 refine drawn_s (spec_l7Rules hc ok o ho p 5 (by omega) (by omega)) ?_
 rintro _ p1 a1 b1 ⟨es,rfl,hes⟩
 have hes:EqS 5 es:=hes
 have hel:=hes.1
 simp only [evz,Nat.reduceLT]
 refine chance_s hc (by omega) fun b => ?_
 simp only [evz,Nat.reduceLT]
 cases b with
 | true =>
   simp only [evz,Nat.reduceLT]
   refine drawn_s (spec_l4BentEquation hc (l:=l) hl _ (by omega)) ?_
   rintro _ p2 a2 b2 ⟨a,b,rfl,ha,hb⟩
   simp only [evz,Nat.reduceLT]
   rw [cond_pos (ble_ok (by rw [cells_length]; simp only [sz_Equation]; omega))]
   refine chance_s hc (by omega) fun b => ?_
   simp only [evz,Nat.reduceLT,cells_eq]
   have h6:=hes.snoc ha hb
   cases b with
   | false=>simp only [evz,Nat.reduceLT]; exact leaf _ _ (by omega) ⟨by have:=h6.1; omega,h6.2⟩ (fun _=>ok)
   | true =>
     simp only [evz,Nat.reduceLT]
     split
     · rename_i hpos
       refine pick_s hc [12,13] rfl (by simp) (by omega) fun v hv => ?_
       have hv':v≤13:=by
        simp only [List.mem_cons,List.not_mem_nil,or_false] at hv; omega
       simp only [evz,Nat.reduceLT]
       exact (fill_rules o _ p v (by omega) hv' _ (by omega) ⟨by have:=h6.1; omega,h6.2⟩).more (Int.le_refl _) (Int.le_refl _) fun x ⟨es,e,h⟩=>⟨es,e,h,fun _=>ok⟩
     · exact leaf _ _ (by omega) ⟨by have:=h6.1; omega,h6.2⟩ (fun _=>ok)
 | false =>
   simp only [evz,Nat.reduceLT]
   refine chance_s hc (by omega) fun b => ?_
   simp only [evz,Nat.reduceLT]
   cases b with
   | false=>simp only [evz,Nat.reduceLT]; exact leaf es _ (by omega) ⟨by omega,hes.2⟩ (fun _=>ok)
   | true =>
     simp only [evz,Nat.reduceLT]
     split
     · rename_i hpos
       refine pick_s hc [12,13] rfl (by simp) (by omega) fun v hv => ?_
       have hv':v≤13:=by
        simp only [List.mem_cons,List.not_mem_nil,or_false] at hv; omega
       simp only [evz,Nat.reduceLT]
       exact (fill_rules o _ p v (by omega) hv' es (by omega) ⟨by omega,hes.2⟩).more (Int.le_refl _) (Int.le_refl _) fun x ⟨es,e,h⟩=>⟨es,e,h,fun _=>ok⟩
     · exact leaf es _ (by omega) ⟨by omega,hes.2⟩ (fun _=>ok)
end
end Ev.Ty
end
section
namespace Ev.Ty
open Go Ev
open Enc (enc)
open Sm (sm)
set_option linter.unusedSimpArgs false
set_option linter.unusedVariables false
set_option maxHeartbeats 4000000
set_option maxRecDepth 10000
section
variable {code:List UInt8} (hc:code.length≤2097152)
include hc
def Draw8Q (code:List UInt8) (r:R):Prop:=∃ (l:List Symbol) (rs:List Equation) (t:List Int) (p:Int),r=some (.tup [.agg [slc l],slc rs,slc t,.bx [slc code,.int .i64 p]],[])∧sm 7 (Signature.mk l)∧EqS 13 rs∧t.length≤1001∧0≤p∧p≤400000
theorem spec_l8Draw:∃ (l:List Symbol) (rs:List Equation) (t:List Int) (p:Int),Call F.spec_l8Draw [slc code] (.tup [.agg [slc l],slc rs,slc t,.bx [slc code,.int .i64 p]])∧sm 7 (Signature.mk l)∧EqS 13 rs∧t.length≤1001∧0≤p∧p≤400000:=by
 suffices h:∃ r,callK prog A H LIM 0 F.spec_l8Draw [slc code]=r∧Draw8Q code r by
  obtain ⟨_,e,l,rs,t,p,rfl,h⟩:=h
  exact ⟨l,rs,t,p,call_of rfl 0 e,h⟩
 refine ⟨_,spec_l8Draw.ev _ _,?_⟩
 rw [show LIM F.spec_l1Source [.sl 1 (cells code)]=_ from spec_l1Source]
 simp only [evz,Nat.reduceLT,oBx_bx]
 refine drawn_s (Q:=Draw8Q code) (spec_l2Bent hc 0 (by omega)) ?_
 rintro _ p1 a1 b1 ⟨l,rfl,hl⟩
 have hll:l.length≤7:=hl.1
 simp only [evz,Nat.reduceLT]
 refine drawn_s (Q:=Draw8Q code) (spec_l2DrawOrder hc p1 (by omega) l (by omega)) ?_
 rintro _ p2 a2 b2 ⟨o,rfl,ho⟩
 have hol:o.length≤1000:=by have:=ho.length_eq; rw [rise_length] at this; omega
 simp only [evz,Nat.reduceLT]
 refine drawn_s (Q:=Draw8Q code) (spec_l7BentRules hc (l:=l) (by omega) o hol p2 (by omega)) ?_
 rintro _ p3 a3 b3 ⟨rs,rfl,hrs,hok⟩
 have hrl:=hrs.1
 simp only [evz,Nat.reduceLT]
 refine pick_s (Q:=Draw8Q code) hc [4,8,12,20] rfl (by simp) (by omega) fun v hv => ?_
 have hv':4≤v∧v≤20:=by
  simp only [List.mem_cons,List.not_mem_nil,or_false] at hv; omega
 simp only [evz,Nat.reduceLT]
 refine pick_s (Q:=Draw8Q code) hc [0,0,3] rfl (by simp) (by omega) fun w hw => ?_
 have hw':0≤w∧w≤3:=by
  simp only [List.mem_cons,List.not_mem_nil,or_false] at hw; omega
 simp only [evz,Nat.reduceLT]
 refine drawn_s (Q:=Draw8Q code) (spec_l3BentTerm hc _ v w l (by omega) (by omega) (by omega) (by omega)) ?_
 rintro _ p4 a4 b4 ⟨t,rfl,ht⟩
 have leaf:∀ (t:List Int) (p:Int),0≤p∧p≤400000→t.length≤1001→Draw8Q code (some (.tup [.agg [slc l],slc rs,slc t,.bx [slc code,.int .i64 p]],[])):=fun t p hp ht=>⟨l,rs,t,p,rfl,hl,hrs,ht,hp⟩
 simp only [evz,Nat.reduceLT]
 split
 case isFalse=>exact leaf t _ (by omega) ht
 rename_i hpos
 have hpos:0 < rs.length:=by omega
 have ok:=hok hpos
 refine chance_s (Q:=Draw8Q code) hc (by omega) fun b => ?_
 simp only [evz,Nat.reduceLT]
 cases b with
 | false=>simp only [evz,Nat.reduceLT]; exact leaf t _ (by omega) ht
 | true =>
   simp only [evz,Nat.reduceLT,(spec_l3Fault l ok t (by omega)).eq]
   split
   case isFalse=>exact leaf t _ (by omega) ht
   rename_i h3
   simp only [evz,Nat.reduceLT,(spec_l5Fault l ok rs (sm_mono (by omega) (hrs.sm (by omega)))).eq]
   split
   case isFalse=>exact leaf t _ (by omega) ht
   rename_i h5
   refine drawn_s (Q:=Draw8Q code) (spec_l6Draw hc ok _ 3 (by omega) (by omega)) ?_
   rintro _ p5 a5 b5 ⟨vs,ts,rfl,hb,hbo⟩
   simp only [evz,Nat.reduceLT]
   refine next_s (Q:=Draw8Q code) hc (by omega) fun x hx1 hx2 => ?_
   match rs,hpos with
   | e::r,_ =>
     have e0:inB 0 (e::r).length=true:=(inB_nat 0 _).trans (by simp)
     have eL:EqOk l e:=(eqsOk_iff.1 h5).2 e (List.mem_cons_self ..)
     have ell:=eL.left.le
     have hr:∀ n∈e.left,-4611686018427387904≤n∧n≤4611686018427387904:=fun n hn=>by
      rcases nodeOk_iff.1 (eL.left.node n hn) with h | h <;> omega
     have ea:=(spec_l6Apply vs ts hbo e.left (by omega) hr).eq
     have hal:=applied_length hbo e.left
     obtain ⟨c,u,er,hu⟩:=spec_ReplaceAt l (by omega) t (by omega) x (applied vs ts e.left) (by omega)
     have g0:(cells (e::r))[0]?=some (slc e.left):=rfl
     have es:List.set (cells (e::r)) 0 (slc e.left)=cells (e::r):=rfl
     simp only [evz,Nat.reduceLT,e0,g0,ea,er.eq,es]
     split
     · exact leaf u _ (by omega) (by omega)
     · exact leaf t _ (by omega) ht
theorem spec_DrawNormalForm:∃ (l:List Symbol) (rs:List Equation) (t:List Int) (n:Int),Call F.spec_DrawNormalForm [slc code] (.tup [.agg [slc l],slc rs,slc t,.int .i64 n])∧sm 7 (Signature.mk l)∧EqS 13 rs∧t.length≤1001 ∧ -1≤n∧n≤201:=by
 obtain ⟨l,rs,t,p,e,h1,h2,h3,h4,h5⟩:=spec_l8Draw hc
 obtain ⟨v,hv,ep⟩:=spec_l1Pick hc p [200,200,200,50,3,1,0,201,-1] (ts:=[.int .i64 200,.int .i64 200,.int .i64 200,.int .i64 50,.int .i64 3,.int .i64 1,.int .i64 0,.int .i64 201,.int .i64 (-1)]) rfl (by simp) (by omega)
 refine ⟨l,rs,t,v,call_of rfl 0 ((spec_DrawNormalForm.ev _ _).trans ?_),h1,h2,h3,?_⟩
 · simp only [evz,Nat.reduceLT,e.eq,oBx_bx,ep]
 · simp only [List.mem_cons,List.not_mem_nil,or_false] at hv; omega
end
end Ev.Ty
end
section
namespace Ev.Ty
open Go Ev
set_option linter.unusedSimpArgs false
set_option linter.unusedVariables false
section
variable {l:List Symbol} {rs:List Equation}
variable (hr:∀ e∈rs,EqOk l e)
include hr
end
section
variable {l:List Symbol} {rs:List Equation}
theorem norm_normal {t:List Int} (h:(redex l rs t).1 < 0) (m k:Nat):norm l rs m k t=⟨0,t,k⟩:=by
 cases m <;> (unfold norm; rw [if_pos h])
theorem norm_end:∀ (m k:Nat) (t:List Int),(norm l rs m k t).code=0→∃ s u,s≤m∧norm l rs m k t=⟨0,u,((k+s:Nat):Int)⟩∧(redex l rs u).1 < 0∧norm l rs s k t=⟨0,u,((k+s:Nat):Int)⟩∧(0 < s→(norm l rs (s - 1) k t).code=9)∧(s=0→u=t)
 | 0,k,t,h=>by
   unfold norm at h
   by_cases hn:(redex l rs t).1 < 0
   · exact ⟨0,t,Nat.le_refl _,norm_normal hn 0 k,hn,norm_normal hn 0 k,fun h=>by omega,fun _=>rfl⟩
   · rw [if_neg hn] at h; cases h
 | m+1,k,t,h=>by
   by_cases hn:(redex l rs t).1 < 0
   · exact ⟨0,t,Nat.zero_le _,norm_normal hn _ k,hn,norm_normal hn 0 k,fun h=>by omega,fun _=>rfl⟩
   · have step:∀ n,norm l rs (n+1) k t=if (stepAt l (rs.getD (redex l rs t).2.toNat ⟨[],[]⟩) t (redex l rs t).1.toNat).code≠0 then ⟨(stepAt l (rs.getD (redex l rs t).2.toNat ⟨[],[]⟩) t (redex l rs t).1.toNat).code,[],0⟩
      else norm l rs n (k+1) (stepAt l (rs.getD (redex l rs t).2.toNat ⟨[],[]⟩) t (redex l rs t).1.toNat).term:=fun n=>by rw [norm,if_neg hn]
     rw [step] at h
     by_cases hc:(stepAt l (rs.getD (redex l rs t).2.toNat ⟨[],[]⟩) t (redex l rs t).1.toNat).code≠0
     · rw [if_pos hc] at h; exact absurd h hc
     · rw [if_neg hc] at h
       obtain ⟨s,u,h1,h2,h3,h4,h5,h6⟩:=norm_end m (k+1) _ h
       refine ⟨s+1,u,by omega,?_,h3,?_,fun _ => ?_,fun h=>by omega⟩
       · rw [step,if_neg hc,h2]; congr 2; omega
       · rw [step,if_neg hc,h4]; congr 2; omega
       · rw [Nat.add_sub_cancel]
         cases s with
         | zero=>unfold norm; rw [if_neg hn]
         | succ s=>rw [step,if_neg hc]; exact h5 (by omega)
end
end Ev.Ty
end
section
namespace Ev.Ty
open Go Ev
open Enc (enc)
open Sm (sm)
set_option linter.unusedSimpArgs false
set_option linter.unusedVariables false
set_option maxHeartbeats 1000000
end Ev.Ty
end
section
namespace Ev.Ty
open Go Ev
open Enc (enc)
open Sm (sm)
set_option linter.unusedSimpArgs false
set_option linter.unusedVariables false
set_option maxHeartbeats 4000000
set_option maxRecDepth 10000
theorem rewriteFault_sub {l:List Symbol} {rs:List Equation} {t u:List Int} (h:rewriteFault ⟨l⟩ rs t=0) (hu:TermOk l u):rewriteFault ⟨l⟩ rs u=0:=by
 unfold rewriteFault at h ⊢
 by_cases h1:rulesFault ⟨l⟩ rs≠0
 · rw [if_pos h1] at h; exact absurd h h1
 · rw [if_neg h1]; exact (termOk_iff l u).2 hu
theorem isNormalR_iff {l:List Symbol} {rs:List Equation} {t u:List Int} (h:rewriteFault ⟨l⟩ rs t=0) (hu:TermOk l u):isNormalR ⟨l⟩ rs u=decide ((redex l rs u).1 < 0):=by
 unfold isNormalR findRedexR
 rw [if_neg (by simpa using rewriteFault_sub h hu)]
 by_cases h1:(redex l rs u).1 < 0
 · rw [if_pos h1,decide_eq_true h1]; rfl
 · rw [if_neg h1,decide_eq_false h1]; rfl
end Ev.Ty
end
section
namespace Ev.Ty
open Go Ev
open Enc (enc)
open Sm (sm)
set_option linter.unusedSimpArgs false
set_option linter.unusedVariables false
set_option maxHeartbeats 4000000
set_option maxRecDepth 10000
theorem laws_FnNormals (code:List UInt8) (h:sm maxLen code):Call F.laws_FnNormals [slc code] (.bool true):=by
 by_cases hbig:(code.length:Int) > 1048576
 · exact call_of rfl 0 ((laws_FnNormals.ev _ _).trans (by simp only [evz,Nat.reduceLT,(laws_lwBig (code:=code)).eq,hbig]))
 have hc:code.length≤2097152:=by omega
 obtain ⟨l,rs,t,fuel,ed,hl,hrs,ht,hf1,hf2⟩:=spec_DrawNormalForm hc
 have hll:l.length≤7:=hl.1
 have s1:sm 1048576 (Signature.mk l):=sm_mono (by omega) hl
 have s2:sm 1048576 rs:=hrs.sm (by omega)
 have s3:∀ {u:List Int},u.length≤1001→sm 1048576 u:=fun h=>⟨by omega,fun _ _=>trivial⟩
 have eF:∀ (u:List Int) (n:Int),u.length≤1001→LIM F.impl_NormalForm [.agg [slc l],slc rs,slc u,.int .i64 n]=some (.agg [.int .i64 (normalFormR ⟨l⟩ rs u n).code,slc (normalFormR ⟨l⟩ rs u n).term,.int .i64 (normalFormR ⟨l⟩ rs u n).steps],[]):=fun u n hu=>(impl_NormalForm ⟨l⟩ rs u n s1 s2 (s3 hu)).eq
 have eF':LIM F.spec_NormalForm [.agg [slc l],slc rs,slc t,.int .i64 fuel]=some (.agg [.int .i64 (normalFormR ⟨l⟩ rs t fuel).code,slc (normalFormR ⟨l⟩ rs t fuel).term,.int .i64 (normalFormR ⟨l⟩ rs t fuel).steps],[]):=(spec_NormalForm ⟨l⟩ rs t fuel s1 s2 (s3 ht)).eq
 have e0:=eF t fuel ht
 by_cases h0:(normalFormR ⟨l⟩ rs t fuel).code=0
 case neg =>
  refine call_of rfl 0 ((laws_FnNormals.ev _ _).trans ?_)
  simp only [evz,Nat.reduceLT,(laws_lwBig (code:=code)).eq,hbig,ed.eq,e0,eF',bne_self_eq_false,ne_eq,not_true_eq_false,h0,not_false_eq_true]
 obtain ⟨hrf,hfu,hnf,htl⟩:=normalFormR_term h0
 obtain ⟨ok,hn,hr,tt⟩:=rewriteFault_ok hrf
 have hfu':0≤fuel∧fuel≤200:=by unfold inR at hfu; simp only [Bool.and_eq_true,decide_eq_true_eq] at hfu; omega
 obtain ⟨m,rfl⟩:∃ m:Nat,fuel=m:=⟨fuel.toNat,by omega⟩
 rw [hnf,Int.toNat_natCast] at h0
 obtain ⟨s,u,q1,q2,q3,q4,q5,q6⟩:=norm_end m 0 t h0
 have hu:TermOk l u:=by have:=(norm_sm hr m 0 t tt).2 h0; rw [q2] at this; exact this
 have hul:=hu.le
 have nf:∀ {v:List Int} {n:Nat},TermOk l v→n≤200→normalFormR ⟨l⟩ rs v (n:Int)=norm l rs n 0 v:=fun {v n} hv hn=>by
  unfold normalFormR
  rw [if_neg (by simpa using rewriteFault_sub hrf hv),if_neg (by unfold inR; simp; omega),Int.toNat_natCast]
 have z:∀ x:Nat,((0+x:Nat):Int)=x:=fun x=>by omega
 rw [z] at q2 q4
 have hA:normalFormR ⟨l⟩ rs t (m:Int)=⟨0,u,(s:Int)⟩:=by rw [nf tt (by omega),q2]
 have hB:normalFormR ⟨l⟩ rs u 0=⟨0,u,0⟩:=by
  have:=nf (v:=u) (n:=0) hu (by omega)
  rw [norm_normal q3] at this
  exact this
 have hC:normalFormR ⟨l⟩ rs t (s:Int)=⟨0,u,(s:Int)⟩:=by rw [nf tt (by omega),q4]
 have hD:normalFormR ⟨l⟩ rs u (m:Int)=⟨0,u,0⟩:=by rw [nf hu (by omega),norm_normal q3]; rfl
 have eA:=eF t m ht
 have eB:=eF u 0 (by omega)
 have eC:=eF t s ht
 rw [hA] at eA eF'
 rw [hB] at eB
 rw [hC] at eC
 have eN:LIM F.impl_IsNormal [.agg [slc l],slc rs,slc u]=some (.bool (isNormalR ⟨l⟩ rs u),[]):=(impl_IsNormal ⟨l⟩ rs u s1 s2 (s3 (by omega))).eq
 rw [isNormalR_iff hrf hu,decide_eq_true q3] at eN
 have eJ:LIM F.impl_AreJoined [.agg [slc l],slc rs,slc t,slc u,.int .i64 (m:Int)]=some (.agg (enc (areJoinedR ⟨l⟩ rs t u m)),[]):=(impl_AreJoined ⟨l⟩ rs t u m s1 s2 (s3 ht) (s3 (by omega))).eq
 have hJ:areJoinedR ⟨l⟩ rs t u m=⟨0,1⟩:=by
  unfold areJoinedR
  rw [hA,hD]; simp
 rw [hJ,enc_IntResult] at eJ
 have euu:=(laws_lwNums u u (by omega)).eq
 rw [decide_eq_true rfl] at euu
 have eut:=(laws_lwNums u t (by omega)).eq
 have n0:¬ ((s:Nat):Int) < 0:=by omega
 have n1:¬ ((s:Nat):Int) > (m:Nat):=by omega
 by_cases hs:s=0
 · have e:=q6 hs
   rw [decide_eq_true e] at eut
   have hsi:((s:Nat):Int)=0:=by omega
   refine call_of rfl 0 ((laws_FnNormals.ev _ _).trans ?_)
   rw [hsi] at eA eC eF' n0 n1
   simp only [evz,Nat.reduceLT,(laws_lwBig (code:=code)).eq,hbig,ed.eq,eA,eF',bne_self_eq_false,ne_eq,not_true_eq_false,n0,n1,eN,Bool.not_true,eut,euu,beq_self_eq_true,eB,eC,eJ,not_false_eq_true,decide_true,Int.lt_irrefl]
 · have hsi:¬ ((s:Nat):Int)=0:=by omega
   have eD:=eF t ((s - 1:Nat):Int) ht
   rw [nf tt (by omega)] at eD
   have hw:IntKind.wrap .i64 (((s:Nat):Int) - 1)=((s - 1:Nat):Int):=by rw [wrap64 (by omega)]; omega
   have h9:=q5 (by omega)
   refine call_of rfl 0 ((laws_FnNormals.ev _ _).trans ?_)
   have hb:((((s:Nat):Int) == 0):Bool)=false:=by simpa using hsi
   have h49:((norm l rs (s - 1) 0 t).code=9)=True:=eq_true h9
   generalize hdec:decide (u=t)=d at eut
   cases d <;> simp only [evz,Nat.reduceLT,(laws_lwBig (code:=code)).eq,hbig,ed.eq,eA,eF',bne_self_eq_false,ne_eq,not_true_eq_false,n0,n1,eN,Bool.not_true,eut,euu,beq_self_eq_true,eB,eC,eJ,not_false_eq_true,decide_true,decide_false,Int.lt_irrefl,hsi,hw,eD,h9,Bool.not_false,Bool.false_eq_true,if_false,ite_self]
end Ev.Ty
end
