/- Steps on the way to RowNormals: TySig, TyAlg, TyTerm, TyTree, TyEval, TyEvalF, TyEvalT, TyVars, TyEqs, TySame, TyBind, TyRules, TyCmp, TyWalk, TyMatchP, TySortP, TyLpoP, TyLpo, TyDraw, TyDrawT, TyPigeon, TyOrd, TyTheory, TyAlgOf, TyDrawG, TyLpoS, TyPartP, TyRead, TyPool, TyDrawB, TyNormP, TyMatch. -/
import Derived.Test.YtcggahcabnaelaaGreatDoorM3
import Derived.Lib.SlTrimSet
set_option linter.unusedSectionVars false
set_option linter.unusedVariables false
set_option linter.unusedSimpArgs false
section
namespace Ev.Ty
open Go Ev
open Enc (enc)
open Sm (sm)
set_option linter.unusedSimpArgs false
set_option linter.unusedVariables false
def letter (b:UInt8):Bool:=decide (97≤b.toNat∧b.toNat≤122)
def nameOk (s:ByteArray):Bool:=decide (1≤s.size∧s.size≤3)&&s.data.toList.all letter
def letters:ByteArray:=ByteArray.mk #[97,98,99,100,101,102,103,104,105,106,107,108,109,110,111,112,113,114,115,116,117,118,119,120,121,122]
theorem letters_has (b:UInt8):letters.data.toList.contains b=letter b:=by
 have h:∀ n:Fin 256,letters.data.toList.contains (UInt8.ofNat n.val)=letter (UInt8.ofNat n.val):=by decide +kernel
 have:=h ⟨b.toNat,b.toNat_lt⟩
 simpa using this
theorem dropWhile_nil {α:Type} (p:α→Bool):∀ l:List α,(l.dropWhile p).isEmpty=l.all p
 | []=>rfl
 | x::l=>by
   rw [List.dropWhile_cons,List.all_cons]
   cases hp:p x with
   | true=>simpa using dropWhile_nil p l
   | false=>simp
theorem trimS_empty (l:List UInt8):(Lib.trimS l letters.data.toList).isEmpty=l.all letter:=by
 have e:(letters.data.toList.contains ·)=letter:=funext letters_has
 unfold Lib.trimS Lib.trimLeftS
 rw [e,dropWhile_nil]
 unfold Lib.trimRightS
 rw [e,List.all_reverse]
 have:∀ l:List UInt8,(l.dropWhile letter).all letter=l.all letter:=by
  intro l
  induction l with
  | nil=>rfl
  | cons x l ih =>
    rw [List.dropWhile_cons]
    cases hp:letter x with
    | true=>simp [hp,ih]
    | false=>simp [hp]
 rw [this,List.all_reverse]
theorem strings_Trim (s:ByteArray) (h:s.size≤3):Call F.strings_Trim [.str s,.str letters] (.str ⟨(Lib.trimS s.data.toList letters.data.toList).toArray⟩):=by
 refine lim_ext (e:=trimE) rfl (Ev.of fun m => ?_)
 show (bif decide (s.size≤9223372036854775807)&&decide (letters.size < 4294967281)&&letters.data.toList.all (fun b=>decide (b.toNat < 128)) then _ else _)=_
 rw [decide_eq_true (by omega),show decide (letters.size < 4294967281)=true by decide +kernel,show letters.data.toList.all (fun b=>decide (b.toNat < 128))=true by decide +kernel]
 rfl
theorem impl_isName (s:ByteArray):Call F.impl_isName [.str s] (.bool (nameOk s)):=by
 refine call_of rfl 0 ((impl_isName.ev _ _).trans ?_)
 simp only [evz,Nat.reduceLT,ge_iff_le,nameOk]
 by_cases h1:1≤s.size
 · by_cases h2:s.size≤3
   · have h1':(1:Int)≤s.size:=by omega
     have h2':(s.size:Int)≤3:=by omega
     rw [show (ByteArray.mk #[97,98,99,100,101,102,103,104,105,106,107,108,109,110,111,112,113,114,115,116,117,118,119,120,121,122])=letters from rfl]
     simp only [h1,h2,h1',h2',(strings_Trim s h2).eq,evz,Nat.reduceLT,and_self,Bool.true_and]
     rw [← trimS_empty]
     congr 3
     rw [Bool.eq_iff_iff,decide_eq_true_eq,List.isEmpty_iff]
     simp
   · have h1':(1:Int)≤s.size:=by omega
     have h2':¬ (s.size:Int)≤3:=by omega
     simp only [h1,h2,h1',h2',evz,Nat.reduceLT,and_false,Bool.false_and]
 · have h1':¬ (1:Int)≤s.size:=by omega
   simp only [h1,h1',evz,Nat.reduceLT,false_and,Bool.false_and]
theorem byte_at {s:ByteArray} {k:Nat} (h:k < s.data.toList.length):s.data.getD k 0=s.data.toList[k]:=by
 simp at h
 simp [Array.getD,h]
theorem spec_l2Name (s:ByteArray):Call F.spec_l2Name [.str s] (.bool (nameOk s)):=by
 refine call_of rfl (s.size+1) ((spec_l2Name.ev _ _).trans ?_)
 simp only [evz,Nat.reduceLT,gt_iff_lt,nameOk]
 by_cases h1:1≤s.size
 · by_cases h2:s.size≤3
   · have h1':¬ (s.size:Int) < 1:=by omega
     have h2':¬ (3:Int) < s.size:=by omega
     simp only [h1,h2,h1',h2',if_false,and_self,decide_true,Bool.true_and]
     have hsz:s.data.toList.length=s.size:=by rw [Array.length_toList]; rfl
     refine (any_loopL (l:=s.data.toList) (p:=fun b => !letter b) (S:=fun m k=>spec_l2Name.at0 (s.size+1) m (spec_l2Name.st0 s (k:Nat))) (r:=some (.bool false,[])) (z:=some (.bool true,[])) (fun m k h => ?_) (fun m => ?_) (by omega)).trans ?_
     · have h':k < s.size:=by omega
       simp only [spec_l2Name.next0,spec_l2Name.round0,evz,Nat.reduceLT,h',byte_at h]
       rw [wrap_succ (by omega)]
       unfold letter
       by_cases c1:s.data.toList[k].toNat < 97
       · have c1':(s.data.toList[k].toNat:Int) < 97:=by omega
         rw [if_pos c1',if_pos (by simp only [Bool.not_eq_true',decide_eq_false_iff_not]; omega)]
       · have c1':¬ (s.data.toList[k].toNat:Int) < 97:=by omega
         rw [if_neg c1']
         by_cases c2:122 < s.data.toList[k].toNat
         · have c2':(s.data.toList[k].toNat:Int) > 122:=by omega
           rw [if_pos c2',if_pos (by simp only [Bool.not_eq_true',decide_eq_false_iff_not]; omega)]
         · have c2':¬ (s.data.toList[k].toNat:Int) > 122:=by omega
           rw [if_neg c2',if_neg (by simp only [Bool.not_eq_true',decide_eq_false_iff_not]; omega)]
     · rw [hsz]; simp only [spec_l2Name.next0,spec_l2Name.round0,evz,Nat.reduceLT,Nat.lt_irrefl]
     · have:s.data.toList.any (fun b => !letter b) = !s.data.toList.all letter:=by rw [List.not_all_eq_any_not]
       rw [this]
       cases s.data.toList.all letter <;> rfl
   · have h1':¬ (s.size:Int) < 1:=by omega
     have h2':(3:Int) < s.size:=by omega
     simp only [h1,h2,h1',h2',evz,Nat.reduceLT,and_false,Bool.false_and]
 · have h1':(s.size:Int) < 1:=by omega
   simp only [h1,h1',evz,Nat.reduceLT,false_and,Bool.false_and]
def symFault (x:Symbol):Option Int:=if nameOk x.name=false then some 5 else if inR x.arity 0 2=false then some 3 else none
def sigFault (s:Signature):Int :=
 if s.symbols.length < 1∨6 < s.symbols.length then 2
 else match s.symbols.findSome? symFault with
  | some c=>c
  | none=>if twice (s.symbols.map (·.name)) then 6 else if s.symbols.any (fun x=>decide (x.arity=0)) then 0 else 4
theorem slices_IndexFunc_SSymbol_at1_impl_symbolIndex_1 (l:List Symbol) (hs:l.length≤4294967296) (n:ByteArray):Call F.slices_IndexFunc_SSymbol [slc l,.clo F.impl_symbolIndex_1 [.rref [.str n] 0]] (.int .i64 (idx (fun x=>decide (x.name=n)) l)):=by
 refine call_of rfl (l.length+1) ((slices_IndexFunc_SSymbol_at1_impl_symbolIndex_1.ev _ _ _).trans ?_)
 refine idx_loop (S:=fun m k=>slices_IndexFunc_SSymbol_at1_impl_symbolIndex_1.at0 (l.length+1) m (slices_IndexFunc_SSymbol_at1_impl_symbolIndex_1.st0 (cells l) n _ (k:Nat))) (fun m k h => ?_) (fun m => ?_) (Nat.lt_succ_self _)
 · have hlk:l[k]?=some l[k]:=List.getElem?_eq_getElem h
   have hc:Call F.impl_symbolIndex_1 [.agg [.str l[k].name,.int .i64 l[k].arity],.rref [.str n] 0] (.bool (decide (l[k].name=n))):=by
    refine call_of rfl 0 ((impl_symbolIndex_1.ev _ _ _ _).trans ?_)
    simp only [evz,Nat.reduceLT]
   simp only [slices_IndexFunc_SSymbol_at1_impl_symbolIndex_1.next0,slices_IndexFunc_SSymbol_at1_impl_symbolIndex_1.round0,evz,Nat.reduceLT,h,hlk,enc_Symbol,hc.eq]
   rw [wrap_succ (by omega)]
   simp only [decide_eq_true_eq]
 · simp only [slices_IndexFunc_SSymbol_at1_impl_symbolIndex_1.next0,slices_IndexFunc_SSymbol_at1_impl_symbolIndex_1.round0,evz,Nat.reduceLT,Nat.lt_irrefl]
theorem impl_symbolIndex (l:List Symbol) (hs:l.length≤4294967296) (n:ByteArray):Call F.impl_symbolIndex [.agg [slc l],.str n] (.int .i64 (idx (fun x=>decide (x.name=n)) l)):=by
 refine call_of rfl 0 ((impl_symbolIndex.ev _ _ _).trans ?_)
 simp only [evz,Nat.reduceLT,(slices_IndexFunc_SSymbol_at1_impl_symbolIndex_1 l hs n).eq]
theorem slices_IndexFunc_SSymbol_at1_impl_SignatureFault_1 (l:List Symbol) (hs:l.length≤4294967296):Call F.slices_IndexFunc_SSymbol [slc l,.clo F.impl_SignatureFault_1 []] (.int .i64 (idx (fun x=>decide (x.arity=0)) l)):=by
 refine call_of rfl (l.length+1) ((slices_IndexFunc_SSymbol_at1_impl_SignatureFault_1.ev _ _).trans ?_)
 refine idx_loop (S:=fun m k=>slices_IndexFunc_SSymbol_at1_impl_SignatureFault_1.at0 (l.length+1) m (slices_IndexFunc_SSymbol_at1_impl_SignatureFault_1.st0 (cells l) _ (k:Nat))) (fun m k h => ?_) (fun m => ?_) (Nat.lt_succ_self _)
 · have hlk:l[k]?=some l[k]:=List.getElem?_eq_getElem h
   have hc:Call F.impl_SignatureFault_1 [.agg [.str l[k].name,.int .i64 l[k].arity]] (.bool (decide (l[k].arity=0))):=by
    refine call_of rfl 0 ((impl_SignatureFault_1.ev _ _ _).trans ?_)
    simp only [evz,Nat.reduceLT]
   simp only [slices_IndexFunc_SSymbol_at1_impl_SignatureFault_1.next0,slices_IndexFunc_SSymbol_at1_impl_SignatureFault_1.round0,evz,Nat.reduceLT,h,hlk,enc_Symbol,hc.eq]
   rw [wrap_succ (by omega)]
   simp only [decide_eq_true_eq]
 · simp only [slices_IndexFunc_SSymbol_at1_impl_SignatureFault_1.next0,slices_IndexFunc_SSymbol_at1_impl_SignatureFault_1.round0,evz,Nat.reduceLT,Nat.lt_irrefl]
theorem slices_ContainsFunc_SSymbol_at1_impl_SignatureFault_1 (l:List Symbol) (hs:l.length≤4294967296):Call F.slices_ContainsFunc_SSymbol [slc l,.clo F.impl_SignatureFault_1 []] (.bool (l.any fun x=>decide (x.arity=0))):=by
 refine call_of rfl 0 ((slices_ContainsFunc_SSymbol_at1_impl_SignatureFault_1.ev _ _).trans ?_)
 simp only [evz,Nat.reduceLT,(slices_IndexFunc_SSymbol_at1_impl_SignatureFault_1 l hs).eq,idx_nonneg]
theorem impl_SignatureFault (l:List Symbol) (hs:l.length≤4294967296):Call F.impl_SignatureFault [.agg [slc l]] (.int .i64 (sigFault ⟨l⟩)):=by
 refine call_of rfl (l.length+1) ((impl_SignatureFault.ev _ _).trans ?_)
 simp only [evz,Nat.reduceLT,sigFault,gt_iff_lt]
 by_cases h1:l.length < 1
 · have h1':(l.length:Int) < 1:=by omega
   simp only [h1,h1',evz,Nat.reduceLT,true_or]
 by_cases h2:6 < l.length
 · have h1':¬ (l.length:Int) < 1:=by omega
   have h2':(6:Int) < l.length:=by omega
   simp only [h1,h1',h2,h2',evz,Nat.reduceLT,or_true]
 have h1':¬ (l.length:Int) < 1:=by omega
 have h2':¬ (6:Int) < l.length:=by omega
 simp only [h1,h1',h2,h2',if_false,or_self]
 have two:=any_loop (n:=l.length) (bad:=fun k=>l[k]?.any fun x=>decide (idx (fun y=>decide (y.name=x.name)) l≠(k:Nat)))
  (S:=fun m k=>impl_SignatureFault.at2 (l.length+1) m (impl_SignatureFault.st2 (cells l) l.length (k:Nat) (cells l))) (r:=some (.int .i64 6,[])) (z:=if l.any (fun x=>decide (x.arity=0)) then some (.int .i64 0,[]) else some (.int .i64 4,[]))
  (fun m k h=>by
   have hlk:l[k]?=some l[k]:=List.getElem?_eq_getElem h
   simp only [impl_SignatureFault.next2,impl_SignatureFault.round2,evz,Nat.reduceLT,h,hlk,enc_Symbol,(impl_symbolIndex l hs _).eq]
   rw [wrap_succ (by omega)]
   by_cases e:idx (fun y=>decide (y.name=l[k].name)) l=(k:Int) <;> simp [e])
  (fun m=>by
   simp only [impl_SignatureFault.next2,impl_SignatureFault.round2,evz,Nat.reduceLT,Nat.lt_irrefl,(slices_ContainsFunc_SSymbol_at1_impl_SignatureFault_1 l hs).eq]
   cases l.any (fun x=>decide (x.arity=0)) <;> rfl) (Nat.lt_succ_self _)
 have one:=scan_loop (l:=l) (g:=fun x=>(symFault x).map fun c=>some (.int .i64 c,[]))
  (S:=fun m k=>impl_SignatureFault.at0 (l.length+1) m (impl_SignatureFault.st0 (cells l) l.length (k:Nat) (cells l)))
  (fun m k h=>by
   have hlk:l[k]?=some l[k]:=List.getElem?_eq_getElem h
   simp only [impl_SignatureFault.next0,impl_SignatureFault.round0,evz,Nat.reduceLT,h,hlk,enc_Symbol,(impl_isName _).eq,(impl_within _ _ _).eq]
   rw [wrap_succ (by omega)]
   cases h5:nameOk l[k].name with
   | false=>simp [symFault,h5]
   | true=>cases h6:inR l[k].arity 0 2 <;> simp [symFault,h5,h6])
  (fun m=>by simp only [impl_SignatureFault.next0,impl_SignatureFault.round0,evz,Nat.reduceLT,Nat.lt_irrefl]; rfl) (Nat.lt_succ_self _)
 refine one.trans ?_
 rw [show impl_SignatureFault.at2 (l.length+1) (l.length+1) (impl_SignatureFault.st2 (cells l) l.length 0 (cells l))=_ from two,twice_first (fun y:Symbol=>y.name),findSome_map]
 cases l.findSome? symFault with
 | some c=>rfl
 | none=>cases twice (l.map fun x=>x.name) <;> cases l.any (fun x=>decide (x.arity=0)) <;> rfl
theorem spec_SignatureFault (l:List Symbol) (hs:l.length≤4294967296):Call F.spec_SignatureFault [.agg [slc l]] (.int .i64 (sigFault ⟨l⟩)):=by
 obtain ⟨n,hn⟩:∃ n,n=l.length+1:=⟨_,rfl⟩
 refine call_of rfl n ((spec_SignatureFault.ev _ _).trans ?_)
 simp only [evz,Nat.reduceLT,sigFault,gt_iff_lt]
 by_cases h1:l.length < 1
 · have h1':(l.length:Int) < 1:=by omega
   simp only [h1,h1',evz,Nat.reduceLT,true_or]
 by_cases h2:6 < l.length
 · have h1':¬ (l.length:Int) < 1:=by omega
   have h2':(6:Int) < l.length:=by omega
   simp only [h1,h1',h2,h2',evz,Nat.reduceLT,or_true]
 have h1':¬ (l.length:Int) < 1:=by omega
 have h2':¬ (6:Int) < l.length:=by omega
 simp only [h1,h1',h2,h2',if_false,or_self]
 have six:=any_loopL (l:=l) (p:=fun x=>decide (x.arity=0)) (S:=fun m k=>spec_SignatureFault.at6 n m (spec_SignatureFault.st6 l.length (k:Nat) (cells l))) (r:=some (.int .i64 0,[])) (z:=some (.int .i64 4,[]))
  (fun m k h=>by
   have hlk:l[k]?=some l[k]:=List.getElem?_eq_getElem h
   simp only [spec_SignatureFault.next6,spec_SignatureFault.round6,evz,Nat.reduceLT,h,hlk,enc_Symbol]
   rw [wrap_succ (by omega)]
   simp only [decide_eq_true_eq])
  (fun m=>by simp only [spec_SignatureFault.next6,spec_SignatureFault.round6,evz,Nat.reduceLT,Nat.lt_irrefl]) (show l.length < n by omega)
 have two:=any_loop (n:=l.length) (bad:=fun i=>(List.range i).any fun j=>l[i]?.any fun x=>l[j]?.any fun y=>decide (x.name=y.name))
  (S:=fun m i=>spec_SignatureFault.at2 n m (spec_SignatureFault.st2 l.length (i:Nat) (cells l))) (r:=some (.int .i64 6,[]))
  (fun m i h=>by
   have hlk:l[i]?=some l[i]:=List.getElem?_eq_getElem h
   simp only [spec_SignatureFault.next2,spec_SignatureFault.round2,evz,Nat.reduceLT,h]
   refine any_loop (n:=i) (f:=n) (bad:=fun j=>l[i]?.any fun x=>l[j]?.any fun y=>decide (x.name=y.name))
    (S:=fun m' j=>spec_SignatureFault.at4 n (spec_SignatureFault.at2 n m) m' (spec_SignatureFault.st4 l.length (i:Nat) (j:Nat) (cells l))) (fun m' j hj => ?_) (fun m' => ?_) (by omega)
   · have hj':j < l.length:=by omega
     have hjk:l[j]?=some l[j]:=List.getElem?_eq_getElem hj'
     simp only [spec_SignatureFault.next4,spec_SignatureFault.round4,evz,Nat.reduceLT,h,hj,hj',hlk,hjk,enc_Symbol]
     rw [wrap_succ (by omega)]
     by_cases e:l[i].name=l[j].name <;> simp [e]
   · simp only [spec_SignatureFault.next4,spec_SignatureFault.round4,evz,Nat.reduceLT,Nat.lt_irrefl]
     rw [wrap_succ (by omega)])
  (fun m=>by simp only [spec_SignatureFault.next2,spec_SignatureFault.round2,evz,Nat.reduceLT,Nat.lt_irrefl]; exact six) (show l.length < n by omega)
 have one:=scan_loop (l:=l) (g:=fun x=>(symFault x).map fun c=>some (.int .i64 c,[]))
  (S:=fun m k=>spec_SignatureFault.at0 n m (spec_SignatureFault.st0 l.length (k:Nat) (cells l)))
  (fun m k h=>by
   have hlk:l[k]?=some l[k]:=List.getElem?_eq_getElem h
   simp only [spec_SignatureFault.next0,spec_SignatureFault.round0,evz,Nat.reduceLT,h,hlk,enc_Symbol,(spec_l2Name _).eq,(spec_l1In _ _ _).eq]
   rw [wrap_succ (by omega)]
   cases h5:nameOk l[k].name with
   | false=>simp [symFault,h5]
   | true=>cases h6:inR l[k].arity 0 2 <;> simp [symFault,h5,h6])
  (fun m=>by simp only [spec_SignatureFault.next0,spec_SignatureFault.round0,evz,Nat.reduceLT,Nat.lt_irrefl]; rfl) (show l.length < n by omega)
 refine one.trans ?_
 rw [show spec_SignatureFault.at2 n n (spec_SignatureFault.st2 l.length 0 (cells l))=_ from two,twice_pairs (fun y:Symbol=>y.name),findSome_map]
 cases l.findSome? symFault with
 | some c=>rfl
 | none=>cases twice (l.map fun x=>x.name) <;> cases l.any (fun x=>decide (x.arity=0)) <;> rfl
end Ev.Ty
end
section
namespace Ev.Ty
open Go Ev
open Enc (enc)
open Sm (sm)
set_option linter.unusedSimpArgs false
set_option linter.unusedVariables false
theorem inR_iff {n a b:Int}:inR n a b=true↔a≤n∧n≤b:=by unfold inR; simp
structure SigOk (s:Signature):Prop where
 pos:1≤s.symbols.length
 le:s.symbols.length≤6
 name:∀ x∈s.symbols,nameOk x.name=true
 arity:∀ x∈s.symbols,0≤x.arity∧x.arity≤2
 nodup:(s.symbols.map (·.name)).Nodup
 const:∃ x∈s.symbols,x.arity=0
theorem findSome_none {α β:Type} {f:α→Option β}:∀ {l:List α},l.findSome? f=none↔∀ x∈l,f x=none
 | []=>by simp
 | x::l=>by
   rw [List.findSome?_cons]
   cases h:f x with
   | some b=>simp [h]
   | none=>simp [h,findSome_none (l:=l)]
theorem sigOk_iff (s:Signature):sigFault s=0↔SigOk s:=by
 unfold sigFault
 constructor
 · intro h
   split at h
   · cases h
   · rename_i h1
     split at h
     · rename_i c hc
       obtain ⟨x,hx,hf⟩:=List.exists_of_findSome?_eq_some hc
       unfold symFault at hf
       split at hf
       · cases hf; cases h
       · split at hf
         · cases hf; cases h
         · cases hf
     · rename_i hn
       rw [findSome_none] at hn
       split at h
       · cases h
       · rename_i ht
         split at h
         · rename_i ha
           have hx:∀ x∈s.symbols,nameOk x.name=true∧inR x.arity 0 2=true:=fun x hx=>by
            have:=hn x hx
            unfold symFault at this
            split at this
            · cases this
            · split at this
              · cases this
              · rename_i h1 h2; exact ⟨by simpa using h1,by simpa using h2⟩
           refine ⟨by omega,by omega,fun x h=>(hx x h).1,fun x h=>inR_iff.1 (hx x h).2,?_,?_⟩
           · unfold twice at ht; simpa using ht
           · rw [List.any_eq_true] at ha
             obtain ⟨x,h1,h2⟩:=ha
             exact ⟨x,h1,by simpa using h2⟩
         · cases h
 · intro h
   rw [if_neg (by have:=h.pos; have:=h.le; omega)]
   have:s.symbols.findSome? symFault=none:=findSome_none.2 fun x hx=>by
    unfold symFault
    rw [if_neg (by simp [h.name x hx]),if_neg (by have:=inR_iff.2 (h.arity x hx); simp [this])]
   rw [this]
   simp only
   rw [if_neg (by unfold twice; simpa using h.nodup),if_pos]
   rw [List.any_eq_true]
   obtain ⟨x,h1,h2⟩:=h.const
   exact ⟨x,h1,by simpa using h2⟩
end Ev.Ty
end
section
namespace Ev.Ty
open Go Ev
open Enc (enc)
open Sm (sm)
set_option linter.unusedSimpArgs false
set_option linter.unusedVariables false
def ar (l:List Symbol) (n:Int):Nat:=if n < 0 then 0 else ((l[n.toNat]?).map fun x=>x.arity.toNat).getD 0
def nodeOk (l:List Symbol) (n:Int):Bool:=inR n 0 (l.length - 1)||inR n (-12) (-1)
def skip (a:Int→Nat):Nat→List Int→Option (List Int)
 | 0,l=>some l
 | _+1,[]=>none
 | k+1,n::l=>skip a (k+a n) l
def termFault0 (l:List Symbol) (t:List Int):Int :=
 if t.length < 1∨24 < t.length then 2 else if t.any (fun n => !nodeOk l n) then 3 else if skip (ar l) 1 t=some [] then 0 else 1
def termFault (s:Signature) (t:List Int):Int:=if sigFault s≠0 then sigFault s else termFault0 s.symbols t
section
variable {a:Int→Nat}
@[simp] theorem skip_zero (l:List Int):skip a 0 l=some l:=by cases l <;> rfl
theorem skip_suffix:∀ {l r:List Int} {k:Nat},skip a k l=some r→∃ p,l=p++r∧(0 < k→0 < p.length)
 | l,r,0,h=>by rw [skip_zero] at h; cases h; exact ⟨[],rfl,by omega⟩
 | [],r,k+1,h=>by cases h
 | n::l,r,k+1,h=>by
   obtain ⟨p,hp,_⟩:=skip_suffix (l:=l) (k:=k+a n) h
   exact ⟨n::p,by rw [hp]; rfl,by simp⟩
theorem skip_add:∀ (l:List Int) (j k:Nat),skip a (j+k) l=(skip a j l).bind (skip a k)
 | l,0,k=>by simp
 | [],j+1,k=>by rw [Nat.add_right_comm]; rfl
 | n::l,j+1,k=>by
   rw [Nat.add_right_comm]
   show skip a (j+k+a n) l=(skip a (j+a n) l).bind (skip a k)
   rw [Nat.add_right_comm,skip_add l (j+a n) k]
theorem skip_at {t r:List Int} {e k:Nat} (h:skip a k (t.drop e)=some r):r=t.drop (t.length - r.length)∧r.length≤t.length - e∧(0 < k→r.length < t.length - e):=by
 obtain ⟨p,hp,hk⟩:=skip_suffix h
 have hl:(t.drop e).length=p.length+r.length:=by rw [hp,List.length_append]
 rw [List.length_drop] at hl
 refine ⟨?_,by omega,fun h0=>by have:=hk h0; omega⟩
 have h1:t.length - r.length=e+p.length∨t.length≤e:=by omega
 rcases h1 with h1 | h1
 · rw [h1,← List.drop_drop,hp,List.drop_left]
 · have:r.length=0:=by omega
   rw [List.eq_nil_of_length_eq_zero this]
   simp
end
theorem nodeOk_iff {l:List Symbol} {n:Int}:nodeOk l n=true↔(0≤n∧n < l.length)∨(-12≤n∧n ≤ -1):=by
 unfold nodeOk
 rw [Bool.or_eq_true,inR_iff,inR_iff]
 omega
section
variable {l:List Symbol} (ok:SigOk ⟨l⟩)
include ok
theorem ar_le (n:Int):ar l n≤2:=by
 unfold ar
 split
 · omega
 · cases h:l[n.toNat]? with
   | none=>simp
   | some x =>
     have:=ok.arity x (List.mem_of_getElem? h)
     simp; omega
theorem impl_isNode (n:Int):Call F.impl_isNode [.agg [slc l],.int .i64 n] (.bool (nodeOk l n)):=by
 have hle:=ok.le
 have h1:Call F.impl_isSymbol [.agg [slc l],.int .i64 n] (.bool (inR n 0 (l.length - 1))):=by
  refine call_of rfl 0 ((impl_isSymbol.ev _ _ _).trans ?_)
  simp only [evz,Nat.reduceLT,wrap64 (x:=(l.length:Int) - 1) (by simp at hle; omega),(impl_within _ _ _).eq]
 refine call_of rfl 0 ((impl_isNode.ev _ _ _).trans ?_)
 simp only [evz,Nat.reduceLT,h1.eq,(impl_within _ _ _).eq,nodeOk]
 cases inR n 0 (l.length - 1) <;> simp [evz,Nat.reduceLT]
theorem spec_l3Node (n:Int):Call F.spec_l3Node [.rref [slc l] 0,.int .i64 n] (.bool (nodeOk l n)):=by
 have hle:=ok.le
 have h1:Call F.spec_l2Symbol [.rref [slc l] 0,.int .i64 n] (.bool (inR n 0 (l.length - 1))):=by
  refine call_of rfl 0 ((spec_l2Symbol.ev _ _ _).trans ?_)
  simp only [evz,Nat.reduceLT,wrap64 (x:=(l.length:Int) - 1) (by simp at hle; omega),(spec_l1In _ _ _).eq]
 refine call_of rfl 0 ((spec_l3Node.ev _ _ _).trans ?_)
 simp only [evz,Nat.reduceLT,h1.eq,(spec_l1In _ _ _).eq,nodeOk]
 cases inR n 0 (l.length - 1) <;> simp [evz,Nat.reduceLT]
theorem ar_eq {n:Int} (hn:0≤n) (h:n.toNat < l.length):(l[n.toNat]).arity=(ar l n:Nat):=by
 have:=ok.arity l[n.toNat] (List.getElem_mem h)
 unfold ar
 rw [if_neg (by omega),List.getElem?_eq_getElem h]
 simp; omega
theorem impl_arityOf (n:Int) (h:nodeOk l n=true):Call F.impl_arityOf [.agg [slc l],.int .i64 n] (.int .i64 (ar l n:Nat)):=by
 refine call_of rfl 0 ((impl_arityOf.ev _ _ _).trans ?_)
 rw [nodeOk_iff] at h
 by_cases hn:n < 0
 · simp [hn,ar]
 · obtain ⟨m,rfl⟩:∃ m:Nat,n=m:=⟨n.toNat,by omega⟩
   have hm:m < l.length:=by omega
   have e:=ar_eq ok (n:=m) (by omega) (by simpa using hm)
   have hl:l[m]?=some l[m]:=List.getElem?_eq_getElem hm
   have hn':¬ ((m:Int) < 0):=by omega
   simp only [evz,Nat.reduceLT,hn',hm,hl,enc_Symbol]
   simp at e
   rw [e]
def endRes (none':Int) (t:List Int) (r:Option (List Int)):Int:=match r with
 | some r=>((t.length - r.length:Nat):Int)
 | none=>none'
theorem impl_endOf (t:List Int) (ht:∀ n∈t,nodeOk l n=true) (hl:t.length≤4294967296) (e:Nat) (he:e≤t.length) :
 Call F.impl_endOf [.agg [slc l],slc t,.int .i64 e] (.int .i64 (endRes (t.length+1) t (skip (ar l) 1 (t.drop e)))):=by
 have loop:∀ m k o,k≤t.length→t.length+1 < m+k→o≤2*k+1 →
  impl_endOf.at0 (t.length+2) m (impl_endOf.st0 (cells t) (k:Nat) (o:Nat) (cells l))=some (.int .i64 (endRes (t.length+1) t (skip (ar l) o (t.drop k))),[]):=by
  intro m
  induction m with
  | zero=>intros; omega
  | succ m ih =>
    intro k o hk hm ho
    simp only [impl_endOf.next0,impl_endOf.round0,evz,Nat.reduceLT,gt_iff_lt,ge_iff_le]
    cases o with
    | zero =>
      rw [if_neg (by omega),skip_zero]
      simp only [endRes,List.length_drop]
      congr 3; omega
    | succ o =>
      rw [if_pos (by omega)]
      by_cases h:k < t.length
      · have hk':t[k]?=some t[k]:=List.getElem?_eq_getElem h
        have hn:=ht t[k] (List.getElem_mem h)
        have h2:=ar_le ok t[k]
        rw [if_neg (by omega)]
        simp only [h,hk',evz,Nat.reduceLT,enc_int,(impl_arityOf ok t[k] hn).eq]
        rw [wrap_succ (by omega),wrap64 (x:=((ar l t[k]:Nat):Int) - 1) (by omega),wrap64 (by omega)]
        rw [show ((o+1:Nat):Int)+(((ar l t[k]:Nat):Int) - 1)=((o+ar l t[k]:Nat):Int) by omega]
        rw [ih (k+1) (o+ar l t[k]) (by omega) (by omega) (by omega),List.drop_eq_getElem_cons h]
        rfl
      · obtain rfl:k=t.length:=by omega
        rw [if_pos (by omega),wrap64 (by omega),List.drop_of_length_le (Nat.le_refl _)]
        rfl
 refine call_of rfl (t.length+2) ((impl_endOf.ev _ _ _ _).trans ?_)
 have:=loop (t.length+2) e 1 he (by omega) (by omega)
 exact this
theorem spec_l3End (t:List Int) (ht:∀ n∈t,nodeOk l n=true) (hl:t.length≤4294967296) (e:Nat) (he:e≤t.length) :
 Call F.spec_l3End [.rref [slc l] 0,slc t,.int .i64 e] (.int .i64 (endRes (-1) t (skip (ar l) 1 (t.drop e)))):=by
 obtain ⟨d,hd⟩:∃ d,d=t.length - e:=⟨_,rfl⟩
 induction d using Nat.strongRecOn generalizing e with
 | ind d ih =>
 refine call_of rfl 4 ((spec_l3End.ev _ _ _ _).trans ?_)
 simp only [evz,Nat.reduceLT,ge_iff_le]
 by_cases h:e < t.length
 case neg =>
  obtain rfl:e=t.length:=by omega
  rw [if_pos (by omega),List.drop_of_length_le (Nat.le_refl _)]
  rfl
 have hk':t[e]?=some t[e]:=List.getElem?_eq_getElem h
 have hn:=ht t[e] (List.getElem_mem h)
 have h2:=ar_le ok t[e]
 rw [if_neg (by omega)]
 simp only [h,hk',evz,Nat.reduceLT,enc_int]
 rw [List.drop_eq_getElem_cons h]
 show _=some (T.int .i64 (endRes (-1) t (skip (ar l) (0+ar l t[e]) (t.drop (e+1)))),[])
 rw [Nat.zero_add,wrap_succ (by omega)]
 by_cases hneg:t[e] < 0
 · rw [if_pos hneg]
   have:ar l t[e]=0:=by unfold ar; rw [if_pos hneg]
   rw [this,skip_zero]
   simp only [endRes,List.length_drop]
   congr 3; omega
 rw [if_neg hneg]
 rw [nodeOk_iff] at hn
 obtain ⟨y,hy⟩:∃ y:Nat,t[e]=y:=⟨t[e].toNat,by omega⟩
 have hym:y < l.length:=by omega
 have hyl:l[y]?=some l[y]:=List.getElem?_eq_getElem hym
 have hya:l[y].arity=(ar l t[e]:Nat):=by
  have:=ar_eq ok (n:=t[e]) (by omega) (by omega)
  simpa [hy] using this
 have loop:∀ m i k,e < k→k≤t.length→i≤ar l t[e]→ar l t[e] < m+i →
  spec_l3End.at0 4 m (spec_l3End.st0 (cells l) (cells t) e (k:Nat) (i:Nat))=some (.int .i64 (endRes (-1) t (skip (ar l) (ar l t[e] - i) (t.drop k))),[]):=by
  intro m
  induction m with
  | zero=>intros; omega
  | succ m ihm =>
    intro i k hk1 hk2 hi hm
    simp only [spec_l3End.next0,spec_l3End.round0,evz,Nat.reduceLT,h,hk',enc_int]
    simp only [hy,evz,Nat.reduceLT,hym,hyl,enc_Symbol,hya]
    by_cases hia:i < ar l t[e]
    · rw [hy] at hia
      rw [if_pos hia,(ih (t.length - k) (by omega) k hk2 rfl).eq]
      simp only [evz,Nat.reduceLT]
      rw [← hy] at hia
      rw [show ar l ((y:Nat):Int) - i=1+(ar l t[e] - (i+1)) by rw [hy]; rw [hy] at hia; omega,skip_add]
      cases hs:skip (ar l) 1 (t.drop k) with
      | none=>rfl
      | some r =>
        obtain ⟨hr1,hr2,hr3⟩:=skip_at hs
        have hr4:=hr3 (by omega)
        have hnn:¬ endRes (-1) t (some r) < 0:=by show ¬ ((t.length - r.length:Nat):Int) < 0; omega
        rw [if_neg hnn,wrap_succ (by omega),show endRes (-1) t (some r)=((t.length - r.length:Nat):Int) from rfl,ihm (i+1) (t.length - r.length) (by omega) (by omega) (by omega) (by omega),← hr1]
        rfl
    · have:i=ar l t[e]:=by omega
      rw [if_neg (by rw [← hy]; exact hia),show ar l ((y:Nat):Int) - i=0 by rw [← hy]; omega,skip_zero]
      simp only [endRes,List.length_drop]
      congr 3; omega
 have:=loop 4 0 (e+1) (by omega) (by omega) (by omega) (by omega)
 exact this
end
theorem any_nodes {l:List Symbol} {t:List Int}:(t.any fun n => !nodeOk l n)=false↔∀ n∈t,nodeOk l n=true:=by
 rw [List.any_eq_false]; simp
theorem skip_whole {a:Int→Nat} {t:List Int}:(endRes (t.length+1) t (skip a 1 t)=t.length↔skip a 1 t=some [])∧(endRes (-1) t (skip a 1 t)=t.length↔skip a 1 t=some []):=by
 cases h:skip a 1 t with
 | none=>simp [endRes]; omega
 | some r =>
   obtain ⟨p,hp,_⟩:=skip_suffix h
   have:r.length≤t.length:=by rw [hp]; simp
   cases r with
   | nil=>simp [endRes]
   | cons x r =>
     simp only [List.length_cons] at this
     refine ⟨⟨fun h => ?_,fun h=>by cases h⟩,⟨fun h => ?_,fun h=>by cases h⟩⟩ <;> (simp only [endRes,List.length_cons] at h; omega)
theorem slices_ContainsFunc_Sint64_at1_impl_TermFault_1 (l:List Symbol) (ok:SigOk ⟨l⟩) (t:List Int) (hs:t.length≤4294967296) :
 Call F.slices_ContainsFunc_Sint64 [slc t,.clo F.impl_TermFault_1 [.rref [slc l] 0]] (.bool (t.any fun n => !nodeOk l n)):=by
 have hi:Call F.slices_IndexFunc_Sint64 [slc t,.clo F.impl_TermFault_1 [.rref [slc l] 0]] (.int .i64 (idx (fun n => !nodeOk l n) t)):=by
  refine call_of rfl (t.length+1) ((slices_IndexFunc_Sint64_at1_impl_TermFault_1.ev _ _ _).trans ?_)
  refine idx_loop (S:=fun m k=>slices_IndexFunc_Sint64_at1_impl_TermFault_1.at0 (t.length+1) m (slices_IndexFunc_Sint64_at1_impl_TermFault_1.st0 (cells t) _ _ (k:Nat))) (fun m k h => ?_) (fun m => ?_) (Nat.lt_succ_self _)
  · have hlk:t[k]?=some t[k]:=List.getElem?_eq_getElem h
    have hc:Call F.impl_TermFault_1 [.int .i64 t[k],.rref [slc l] 0] (.bool (!nodeOk l t[k])):=by
     refine call_of rfl 0 ((impl_TermFault_1.ev _ _ _).trans ?_)
     simp only [evz,Nat.reduceLT,(impl_isNode ok _).eq]
    simp only [slices_IndexFunc_Sint64_at1_impl_TermFault_1.next0,slices_IndexFunc_Sint64_at1_impl_TermFault_1.round0,evz,Nat.reduceLT,h,hlk,enc_int,hc.eq]
    rw [wrap_succ (by omega)]
    cases nodeOk l t[k] <;> rfl
  · simp only [slices_IndexFunc_Sint64_at1_impl_TermFault_1.next0,slices_IndexFunc_Sint64_at1_impl_TermFault_1.round0,evz,Nat.reduceLT,Nat.lt_irrefl]
 refine call_of rfl 0 ((slices_ContainsFunc_Sint64_at1_impl_TermFault_1.ev _ _ _).trans ?_)
 simp only [evz,Nat.reduceLT,hi.eq,idx_nonneg]
theorem impl_TermFault (l:List Symbol) (hs:l.length≤4294967296) (t:List Int) (ht:t.length≤4294967296):Call F.impl_TermFault [.agg [slc l],slc t] (.int .i64 (termFault ⟨l⟩ t)):=by
 refine call_of rfl 0 ((impl_TermFault.ev _ _ _).trans ?_)
 simp only [evz,Nat.reduceLT,(impl_SignatureFault l hs).eq,termFault,termFault0,gt_iff_lt]
 by_cases h1:sigFault ⟨l⟩=0
 case neg=>simp only [h1,evz,Nat.reduceLT,ne_eq,not_false_eq_true]
 have ok:=(sigOk_iff _).1 h1
 simp only [h1,evz,Nat.reduceLT,ne_eq,not_true_eq_false]
 by_cases h2:t.length < 1
 · have h2':(t.length:Int) < 1:=by omega
   simp only [h2,h2',evz,Nat.reduceLT,true_or]
 by_cases h3:24 < t.length
 · have h2':¬ (t.length:Int) < 1:=by omega
   have h3':(24:Int) < t.length:=by omega
   simp only [h2,h2',h3,h3',evz,Nat.reduceLT,or_true]
 have h2':¬ (t.length:Int) < 1:=by omega
 have h3':¬ (24:Int) < t.length:=by omega
 simp only [h2,h2',h3,h3',evz,Nat.reduceLT,or_self,(slices_ContainsFunc_Sint64_at1_impl_TermFault_1 l ok t ht).eq]
 cases h4:t.any fun n => !nodeOk l n with
 | true=>simp only [evz,Nat.reduceLT]
 | false =>
   have hn:=any_nodes.1 h4
   have he:=impl_endOf ok t hn ht 0 (by omega)
   simp only [evz,Nat.reduceLT,Bool.false_eq_true,show LIM F.impl_endOf [.agg [slc l],slc t,.int .i64 0]=_ from he,List.drop_zero]
   by_cases h5:skip (ar l) 1 t=some []
   · rw [if_pos (skip_whole.1.2 h5),if_pos h5]
   · rw [if_neg fun h=>h5 (skip_whole.1.1 h),if_neg h5]
theorem spec_l3Fault (l:List Symbol) (ok:SigOk ⟨l⟩) (t:List Int) (ht:t.length≤4294967296):Call F.spec_l3Fault [.rref [slc l] 0,slc t] (.int .i64 (termFault0 l t)):=by
 refine call_of rfl (t.length+1) ((spec_l3Fault.ev _ _ _).trans ?_)
 simp only [evz,Nat.reduceLT,termFault0,gt_iff_lt]
 by_cases h2:t.length < 1
 · have h2':(t.length:Int) < 1:=by omega
   simp only [h2,h2',evz,Nat.reduceLT,true_or]
 by_cases h3:24 < t.length
 · have h2':¬ (t.length:Int) < 1:=by omega
   have h3':(24:Int) < t.length:=by omega
   simp only [h2,h2',h3,h3',evz,Nat.reduceLT,or_true]
 have h2':¬ (t.length:Int) < 1:=by omega
 have h3':¬ (24:Int) < t.length:=by omega
 simp only [h2,h2',h3,h3',evz,Nat.reduceLT,or_self]
 have step:∀ m k (h:k < t.length),spec_l3Fault.at0 (t.length+1) (m+1) (spec_l3Fault.st0 (cells l) (cells t) (k:Nat)) =
  if (fun n => !nodeOk l n) t[k]=true then some (.int .i64 3,[]) else spec_l3Fault.at0 (t.length+1) m (spec_l3Fault.st0 (cells l) (cells t) ((k+1:Nat):Int)):=fun m k h=>by
  have hlk:t[k]?=some t[k]:=List.getElem?_eq_getElem h
  simp only [spec_l3Fault.next0,spec_l3Fault.round0,evz,Nat.reduceLT,h,hlk,enc_int,(spec_l3Node ok _).eq]
  rw [wrap_succ (by omega)]
  by_cases hb:nodeOk l t[k]=true <;> simp [hb]
 cases h4:t.any fun n => !nodeOk l n with
 | true =>
   refine (hit_loop (p:=fun n => !nodeOk l n) (r:=some (.int .i64 3,[])) (S:=fun m k=>spec_l3Fault.at0 (t.length+1) m (spec_l3Fault.st0 (cells l) (cells t) (k:Nat))) step h4 (Nat.lt_succ_self _)).trans ?_
   simp only [evz,Nat.reduceLT]
 | false =>
   have hn:=any_nodes.1 h4
   have he:=spec_l3End ok t hn ht 0 (by omega)
   refine (any_loopL (p:=fun n => !nodeOk l n) (r:=some (.int .i64 3,[])) (S:=fun m k=>spec_l3Fault.at0 (t.length+1) m (spec_l3Fault.st0 (cells l) (cells t) (k:Nat))) (z:=if skip (ar l) 1 t=some [] then some (.int .i64 0,[]) else some (.int .i64 1,[])) step (fun m => ?_) (Nat.lt_succ_self _)).trans ?_
   · simp only [spec_l3Fault.next0,spec_l3Fault.round0,evz,Nat.reduceLT,Nat.lt_irrefl,show LIM F.spec_l3End [.rref [slc l] 0,slc t,.int .i64 0]=_ from he,List.drop_zero]
     by_cases h5:skip (ar l) 1 t=some []
     · rw [if_pos (skip_whole.2.2 h5),if_pos h5]
     · rw [if_neg fun h=>h5 (skip_whole.2.1 h),if_neg h5]
   · rw [h4]
     simp only [evz,Nat.reduceLT,Bool.false_eq_true]
     by_cases h5:skip (ar l) 1 t=some [] <;> simp only [h5,if_true,if_false]
end Ev.Ty
end
section
namespace Ev.Ty
open Go Ev
set_option linter.unusedSimpArgs false
set_option linter.unusedVariables false
inductive Tm where
 | v (n:Int)
 | k (n:Int)
 | u (n:Int) (x:Tm)
 | b (n:Int) (x y:Tm)
 deriving DecidableEq
namespace Tm
def flat:Tm→List Int
 | v n=>[n]
 | k n=>[n]
 | u n x=>n::x.flat
 | b n x y=>n::(x.flat++y.flat)
def head:Tm→Int
 | v n=>n
 | k n=>n
 | u n _=>n
 | b n _ _=>n
def ok (a:Int→Nat):Tm→Prop
 | v n=>n < 0
 | k n=>0≤n∧a n=0
 | u n x=>0≤n∧a n=1∧x.ok a
 | b n x y=>0≤n∧a n=2∧x.ok a∧y.ok a
theorem flat_pos (x:Tm):0 < x.flat.length:=by cases x <;> simp [flat]
theorem flat_head (x:Tm):∃ r,x.flat=x.head::r:=by cases x <;> exact ⟨_,rfl⟩
variable {a:Int→Nat}
theorem skip_flat (ha:∀ n,n < 0→a n=0):∀ (x:Tm) (r:List Int) (j:Nat),x.ok a→skip a (j+1) (x.flat++r)=skip a j r
 | v n,r,j,h=>by
   show skip a (j+a n) r=_
   rw [ha n h,Nat.add_zero]
 | k n,r,j,h=>by
   show skip a (j+a n) r=_
   rw [h.2,Nat.add_zero]
 | u n x,r,j,h=>by
   show skip a (j+a n) (x.flat++r)=_
   rw [h.2.1]; exact skip_flat ha x r j h.2.2
 | b n x y,r,j,h=>by
   show skip a (j+a n) ((x.flat++y.flat)++r)=_
   rw [h.2.1,List.append_assoc,skip_flat ha x _ (j+1) h.2.2.1,skip_flat ha y _ j h.2.2.2]
theorem parse (ha:∀ n,n < 0→a n=0) (h2:∀ n,a n≤2):∀ (m:Nat) (l r:List Int),l.length≤m→skip a 1 l=some r→∃ x:Tm,x.ok a∧l=x.flat++r
 | _,[],r,_,h=>by cases h
 | 0,n::l,r,hm,h=>by simp at hm
 | m+1,n::l,r,hm,h=>by
   have hm:l.length≤m:=by simpa using hm
   have h:skip a (0+a n) l=some r:=h
   rw [Nat.zero_add] at h
   by_cases hn:n < 0
   · rw [ha n hn,skip_zero] at h; cases h
     exact ⟨.v n,hn,rfl⟩
   · have:=h2 n
     have h3:a n=0∨a n=1∨a n=2:=by omega
     rcases h3 with h0 | h1 | h2'
     · rw [h0,skip_zero] at h; cases h
       exact ⟨.k n,⟨by omega,h0⟩,rfl⟩
     · rw [h1] at h
       obtain ⟨x,hx,rfl⟩:=parse ha h2 m l r hm h
       exact ⟨.u n x,⟨by omega,h1,hx⟩,rfl⟩
     · rw [h2',show 2=1+1 from rfl,skip_add] at h
       cases hs:skip a 1 l with
       | none=>rw [hs] at h; cases h
       | some r1 =>
         rw [hs] at h
         have h9:skip a 1 r1=some r:=h
         obtain ⟨x,hx,rfl⟩:=parse ha h2 m l r1 hm hs
         obtain ⟨y,hy,rfl⟩:=parse ha h2 m r1 r (by simp at hm; omega) h9
         exact ⟨.b n x y,⟨by omega,h2',hx,hy⟩,by simp [flat]⟩
end Tm
theorem ar_neg (l:List Symbol) {n:Int} (h:n < 0):ar l n=0:=by unfold ar; rw [if_pos h]
structure TermOk (l:List Symbol) (t:List Int):Prop where
 pos:1≤t.length
 le:t.length≤24
 node:∀ n∈t,nodeOk l n=true
 skip:skip (ar l) 1 t=some []
theorem termOk_iff (l:List Symbol) (t:List Int):termFault0 l t=0↔TermOk l t:=by
 unfold termFault0
 constructor
 · intro h
   split at h
   · cases h
   · split at h
     · cases h
     · rename_i h1 h2
       split at h
       · rename_i h3
         exact ⟨by omega,by omega,any_nodes.1 (by simpa using h2),h3⟩
       · cases h
 · intro h
   have:=h.pos; have:=h.le
   rw [if_neg (by omega),if_neg (by rw [any_nodes.2 h.node]; simp),if_pos h.skip]
theorem TermOk.tree {l:List Symbol} {t:List Int} (ok:SigOk ⟨l⟩) (h:TermOk l t):∃ x:Tm,x.ok (ar l)∧t=x.flat:=by
 obtain ⟨x,hx,e⟩:=Tm.parse (fun n hn=>ar_neg l hn) (ar_le ok) t.length t [] (Nat.le_refl _) h.skip
 exact ⟨x,hx,by simpa using e⟩
theorem at_head {t r:List Int} {e:Nat} {x:Tm} (h:t.drop e=x.flat++r):e < t.length∧t[e]?=some x.head∧e+x.flat.length≤t.length:=by
 have hl:(t.drop e).length=x.flat.length+r.length:=by rw [h,List.length_append]
 have hp:=x.flat_pos
 rw [List.length_drop] at hl
 refine ⟨by omega,?_,by omega⟩
 have:(t.drop e)[0]?=some x.head:=by
  rw [h]; obtain ⟨r',e'⟩:=x.flat_head; rw [e']; rfl
 rwa [List.getElem?_drop,Nat.add_zero] at this
end Ev.Ty
end
section
namespace Ev.Ty
open Go Ev
open Enc (enc)
open Sm (sm)
set_option linter.unusedSimpArgs false
set_option linter.unusedVariables false
structure AlgOk (l:List Symbol) (z:Int) (tb:List (List Int)):Prop where
 sig:SigOk ⟨l⟩
 size:1≤z∧z≤3
 len:tb.length=l.length
 rows:∀ (k:Nat) (h:k < l.length) (h':k < tb.length),tb[k].length=z.toNat ^ (l[k]).arity.toNat∧∀ n∈tb[k],0≤n∧n≤z - 1
def Tm.eval (z:Int) (tb:List (List Int)) (vs:List Int):Tm→Int
 | v n=>vs.getD (-1 - n).toNat 0
 | k n=>(tb.getD n.toNat []).getD 0 0
 | u n x=>(tb.getD n.toNat []).getD (x.eval z tb vs).toNat 0
 | b n x y=>(tb.getD n.toNat []).getD (x.eval z tb vs*z+y.eval z tb vs).toNat 0
section
variable {l:List Symbol} {z:Int} {tb:List (List Int)} (al:AlgOk l z tb) {vs:List Int} (hv:vs.length=6) (hr:∀ n∈vs,0≤n∧n≤z - 1)
include al
include hv hr
end
end Ev.Ty
end
section
namespace Ev.Ty
open Go Ev
open Enc (enc)
open Sm (sm)
set_option linter.unusedSimpArgs false
set_option linter.unusedVariables false
theorem getD_of {α:Type} {v:List α} {i:Nat} {d:α} (h:i < v.length):v.getD i d=v[i]:=by simp [h]
section
variable {l:List Symbol} {z:Int} {tb:List (List Int)} (al:AlgOk l z tb) {vs:List Int} (hv:vs.length=6) (hr:∀ n∈vs,0≤n∧n≤z - 1)
include al hv hr
end
end Ev.Ty
end
section
namespace Ev.Ty
open Go Ev
open Enc (enc)
open Sm (sm)
set_option linter.unusedSimpArgs false
set_option linter.unusedVariables false
theorem cmp_Or_int64 (l:List Int) (hl:l.length≤4294967296):Call F.cmp_Or_int64 [slc l] (.int .i64 ((l.find? fun n=>decide (n≠0)).getD 0)):=by
 refine call_of rfl (l.length+1) ((cmp_Or_int64.ev _ _).trans ?_)
 have:=scan_loop (l:=l) (g:=fun n=>if n≠0 then some (some (.int .i64 n,[])) else none) (z:=some (.int .i64 0,[])) (S:=fun m k=>cmp_Or_int64.at0 (l.length+1) m (cmp_Or_int64.st0 0 (cells l) l.length (k:Nat)))
  (fun m k h=>by
   have hlk:l[k]?=some l[k]:=List.getElem?_eq_getElem h
   simp only [cmp_Or_int64.next0,cmp_Or_int64.round0,evz,Nat.reduceLT,h,hlk,enc_int]
   rw [wrap_succ (by omega)]
   by_cases e:l[k]=0 <;> simp [e])
  (fun m=>by simp only [cmp_Or_int64.next0,cmp_Or_int64.round0,evz,Nat.reduceLT,Nat.lt_irrefl]) (Nat.lt_succ_self _)
 simp only [cells_div,sz_int]
 refine this.trans ?_
 clear this
 induction l with
 | nil=>rfl
 | cons x l ih =>
   rw [List.findSome?_cons,List.find?_cons]
   by_cases e:x=0
   · simpa [e] using ih (by simp at hl; omega)
   · simp [e]
theorem impl_firstCode2 (a b:Int):Call F.impl_firstCode [.sl 1 [.int .i64 a,.int .i64 b]] (.int .i64 (if a=0 then b else a)):=by
 refine call_of rfl 0 ((impl_firstCode.ev _ _).trans ?_)
 have:=cmp_Or_int64 [a,b] (by simp)
 simp only [evz,Nat.reduceLT,show LIM F.cmp_Or_int64 [.sl 1 [.int .i64 a,.int .i64 b]]=_ from this]
 by_cases h:a=0
 · by_cases h':b=0 <;> simp [h,h']
 · simp [h]
theorem spec_l4Low (t:List Int) (hl:t.length≤4294967296):Call F.spec_l4Low [slc t] (.bool (!t.any fun n=>decide (n < -6))):=by
 refine call_of rfl (t.length+1) ((spec_l4Low.ev _ _).trans ?_)
 refine (any_loopL (l:=t) (p:=fun n=>decide (n < -6)) (r:=some (.bool false,[])) (z:=some (.bool true,[])) (S:=fun m k=>spec_l4Low.at0 (t.length+1) m (spec_l4Low.st0 (cells t) (k:Nat))) (fun m k h => ?_) (fun m => ?_) (Nat.lt_succ_self _)).trans ?_
 · have hlk:t[k]?=some t[k]:=List.getElem?_eq_getElem h
   simp only [spec_l4Low.next0,spec_l4Low.round0,evz,Nat.reduceLT,h,hlk,enc_int]
   rw [wrap_succ (by omega)]
   simp only [decide_eq_true_eq]
 · simp only [spec_l4Low.next0,spec_l4Low.round0,evz,Nat.reduceLT,Nat.lt_irrefl]
 · cases t.any fun n=>decide (n < -6) <;> rfl
section
variable (l:List Symbol) (z:Int) (tb:List (List Int)) (vs t:List Int) (hs:l.length≤4294967296) (ht:sm 4294967296 tb) (hl:t.length≤4294967296)
include hs ht hl
end
end Ev.Ty
end
section
namespace Ev.Ty
open Go Ev
open Enc (enc)
open Sm (sm)
set_option linter.unusedSimpArgs false
set_option linter.unusedVariables false
theorem intsT_cells:∀ l:List Int,intsT l=cells l
 | []=>rfl
 | x::l=>by rw [cells_cons,← intsT_cells l]; rfl
def sorted (l:List Int):List Int:=l.mergeSort fun x y=>decide (x≤y)
theorem slices_Sort_Sint64 (l:List Int) (h:l.length≤4294967296):LIM F.slices_Sort_Sint64 [slc l]=some (.tup [],[slc (sorted l)]):=by
 refine lim_ext (e:=sortE) rfl (Ev.of fun m => ?_)
 show ((intsOf (cells l)).bind fun zs=>bif decide (zs.length < 4611686018427387904) then some (T.tup [],[T.sl 1 (intsT (zs.mergeSort fun x y=>decide (x≤y)))]) else none)=_
 rw [← intsT_cells,intsOf_intsT,Option.bind_some,decide_eq_true (by omega),cond_true,intsT_cells]
 rfl
theorem slices_Compact_Sint64 (l:List Int) (h:l.length≤4294967296):Call F.slices_Compact_Sint64 [slc l] (slc (Lib.compact l)):=by
 refine lim_ext (e:=compactE) rfl (Ev.of fun m => ?_)
 show ((intsOf (cells l)).bind fun zs=>bif decide (zs.length < 4611686018427387904) then some (T.sl 1 (intsT (Lib.compact zs)),[]) else none)=_
 rw [← intsT_cells,intsOf_intsT,Option.bind_some,decide_eq_true (by omega),cond_true,intsT_cells]
 rfl
theorem mem_compact {l:List Int} {x:Int}:x∈Lib.compact l↔x∈l:=by
 unfold Lib.compact Lib.compactUpTo
 simp only [List.mem_map,List.mem_filter,List.mem_range]
 constructor
 · rintro ⟨j,⟨hj,_⟩,rfl⟩
   rw [getElem!_pos _ j (by simpa using hj)]
   simp
 · intro h
   obtain ⟨i,hi,rfl⟩:=List.mem_iff_getElem.1 h
   have:∀ j,(hj:j < l.length)→∃ k,(k < l.length∧Lib.keeps l.toArray k=true)∧l.toArray[k]! = l[j]:=by
    intro j
    induction j with
    | zero=>intro hj; exact ⟨0,⟨hj,by simp [Lib.keeps]⟩,by simp [hj]⟩
    | succ j ih =>
      intro hj
      by_cases e:l[j+1]=l[j]
      · obtain ⟨k,hk,he⟩:=ih (by omega)
        exact ⟨k,hk,by rw [he,e]⟩
      · refine ⟨j+1,⟨hj,?_⟩,by simp [hj]⟩
        have hj':j < l.length:=by omega
        simp [Lib.keeps,hj,hj',e]
   exact this i hi
theorem compact_length (l:List Int):(Lib.compact l).length≤l.length:=compact_len l
def vars (t:List Int):List Int:=(t.filter fun n=>decide (n < 0)).map fun n => -1 - n
theorem mem_vars {t:List Int} {v:Int}:v∈vars t↔0≤v∧(-1 - v)∈t:=by
 unfold vars
 simp only [List.mem_map,List.mem_filter,decide_eq_true_eq]
 constructor
 · rintro ⟨n,⟨hn,h0⟩,rfl⟩
   exact ⟨by omega,by rw [show -1 - (-1 - n)=n by omega]; exact hn⟩
 · rintro ⟨h0,h⟩
   exact ⟨-1 - v,⟨h,by omega⟩,by omega⟩
theorem vars_length (t:List Int):(vars t).length≤t.length:=by
 unfold vars
 rw [List.length_map]; exact List.length_filter_le _ _
def varsOf (l:List (List Int)):List Int:=Lib.compact (sorted (l.flatMap vars))
theorem mem_varsOf {l:List (List Int)} {v:Int}:v∈varsOf l↔0≤v∧∃ t∈l,(-1 - v)∈t:=by
 unfold varsOf sorted
 rw [mem_compact,List.mem_mergeSort,List.mem_flatMap]
 constructor
 · rintro ⟨t,ht,h⟩
   obtain ⟨h0,h1⟩:=mem_vars.1 h
   exact ⟨h0,t,ht,h1⟩
 · rintro ⟨h0,t,ht,h1⟩
   exact ⟨t,ht,mem_vars.2 ⟨h0,h1⟩⟩
theorem flat_vars_length:∀ l:List (List Int),(l.flatMap vars).length≤(l.map List.length).sum
 | []=>by simp
 | t::l=>by
   rw [List.flatMap_cons,List.length_append,List.map_cons,List.sum_cons]
   have:=vars_length t
   have:=flat_vars_length l
   omega
theorem varsOf_length (l:List (List Int)):(varsOf l).length≤(l.map List.length).sum:=by
 unfold varsOf
 refine Nat.le_trans (compact_length _) ?_
 unfold sorted
 rw [List.length_mergeSort]
 exact flat_vars_length l
theorem impl_varsOf (l:List (List Int)) (hl:l.length≤24) (ht:∀ t∈l,t.length≤4294967296∧∀ n∈t,-12≤n) (hsum:(l.map List.length).sum≤4294967296):Call F.impl_varsOf [slc l] (slc (varsOf l)):=by
 obtain ⟨N,hN⟩:∃ N,N=4294967297:=⟨_,rfl⟩
 have inner:∀ (L0:St→R) (x0:List T) (x1 x2:Int) (t:List Int),(∀ n∈t,-12≤n)→∀ m k (acc:List Int),k≤t.length→t.length < m+k→acc.length+t.length≤k+4294967296→t.length≤4294967296 →
  impl_varsOf.at2 N L0 m (impl_varsOf.st2 x0 x1 x2 (cells t) t.length (k:Nat) (cells acc))=L0 (impl_varsOf.st0 x0 x1 (IntKind.wrap .i64 (x2+1)) (cells (acc++vars (t.drop k)))):=by
  intro L0 x0 x1 x2 t hn m
  induction m with
  | zero=>intros; omega
  | succ m ih =>
    intro k acc hk hm hacc htl
    by_cases h:k < t.length
    · have hlk:t[k]?=some t[k]:=List.getElem?_eq_getElem h
      simp only [impl_varsOf.next2,impl_varsOf.round2,evz,Nat.reduceLT,h,hlk,enc_int]
      rw [wrap_succ (by omega),List.drop_eq_getElem_cons h]
      have hge:=hn t[k] (List.getElem_mem h)
      by_cases h0:t[k] < 0
      · have hble:Nat.ble (((cells acc).length+1)*8) (140737488355328*1)=true:=by
         rw [Nat.ble_eq,cells_length,sz_int]; omega
        rw [wrap64 (by omega),cells_snoc_int,hble,ih (k+1) (acc++[-1 - t[k]]) (by omega) (by omega) (by rw [List.length_append]; simp; omega) htl]
        simp only [h0,evz,Nat.reduceLT,vars,List.filter_cons,List.map_cons,List.append_assoc,List.singleton_append]
      · rw [ih (k+1) acc (by omega) (by omega) (by omega) htl]
        simp only [h0,evz,Nat.reduceLT,vars,List.filter_cons,Bool.false_eq_true]
    · obtain rfl:k=t.length:=by omega
      simp only [impl_varsOf.next2,impl_varsOf.round2,evz,Nat.reduceLT,Nat.lt_irrefl,List.drop_length,vars,List.filter_nil,List.map_nil,List.append_nil]
 have outer:∀ m k (acc:List Int),k≤l.length→l.length < m+k→acc.length+((l.drop k).map List.length).sum≤4294967296 →
  impl_varsOf.at0 N m (impl_varsOf.st0 (cells l) l.length (k:Nat) (cells acc))=some (slc (Lib.compact (sorted (acc++(l.drop k).flatMap vars))),[]):=by
  intro m
  induction m with
  | zero=>intros; omega
  | succ m ih =>
    intro k acc hk hm hacc
    by_cases h:k < l.length
    · have hlk:l[k]?=some l[k]:=List.getElem?_eq_getElem h
      obtain ⟨q1,q2⟩:=ht l[k] (List.getElem_mem h)
      rw [List.drop_eq_getElem_cons h,List.map_cons,List.sum_cons] at hacc
      simp only [impl_varsOf.next0,impl_varsOf.round0,evz,Nat.reduceLT,h,hlk,enc_list]
      have hin:=inner (impl_varsOf.at0 N m) (cells l) l.length (k:Nat) l[k] q2 N 0 acc (by omega) (by omega) (by omega) q1
      rw [List.drop_zero,wrap_succ (by omega)] at hin
      refine Eq.trans hin ?_
      have:=vars_length l[k]
      rw [ih (k+1) (acc++vars l[k]) (by omega) (by omega) (by rw [List.length_append]; omega),List.drop_eq_getElem_cons h,List.flatMap_cons,List.append_assoc]
    · obtain rfl:k=l.length:=by omega
      rw [List.drop_length] at hacc ⊢
      have hs:=slices_Sort_Sint64 acc (by simpa using hacc)
      have hc:=slices_Compact_Sint64 (sorted acc) (by unfold sorted; rw [List.length_mergeSort]; simpa using hacc)
      simp only [impl_varsOf.next0,impl_varsOf.round0,evz,Nat.reduceLT,Nat.lt_irrefl,List.flatMap_nil,List.append_nil]
      simp only [hs,hc.eq,evz,Nat.reduceLT]
 refine call_of rfl N ((impl_varsOf.ev _ _).trans ?_)
 have:=outer N 0 [] (by omega) (by omega) (by simpa using hsum)
 rw [List.drop_zero,List.nil_append] at this
 simp only [cells_div,sz_list]
 exact this
end Ev.Ty
end
section
namespace Ev.Ty
open Go Ev
open Enc (enc)
open Sm (sm)
set_option linter.unusedSimpArgs false
set_option linter.unusedVariables false
def low6 (t:List Int):Bool := !t.any fun n=>decide (n < -6)
theorem low6_iff {t:List Int}:low6 t=true↔∀ n∈t,-6≤n:=by
 unfold low6
 rw [Bool.not_eq_true',List.any_eq_false]
 constructor
 · intro h n hn; have:=h n hn; simpa using this
 · intro h n hn; simpa using h n hn
def eqFault (l:List Symbol) (e:Equation):Int :=
 if termFault0 l e.left≠0 then termFault0 l e.left else if termFault0 l e.right≠0 then termFault0 l e.right else if low6 e.left=true then (if low6 e.right=true then 0 else 3) else 3
def eqsFault (l:List Symbol) (es:List Equation):Int :=
 if 12 < es.length then 2 else (es.findSome? fun e=>if eqFault l e≠0 then some (eqFault l e) else none).getD 0
def ruleOk (e:Equation):Bool:=decide (0≤e.left.headD 0) && !e.right.any fun n=>decide (n < 0∧n∉e.left)
def rulesFault0 (l:List Symbol) (es:List Equation):Int:=if eqsFault l es≠0 then eqsFault l es else if (es.any fun e => !ruleOk e)=true then 1 else 0
def rulesFault (s:Signature) (es:List Equation):Int:=if sigFault s≠0 then sigFault s else rulesFault0 s.symbols es
structure EqOk (l:List Symbol) (e:Equation):Prop where
 left:TermOk l e.left
 right:TermOk l e.right
 lowL:∀ n∈e.left,-6≤n
 lowR:∀ n∈e.right,-6≤n
theorem eqOk_iff {l:List Symbol} {e:Equation}:eqFault l e=0↔EqOk l e:=by
 unfold eqFault
 constructor
 · intro h
   by_cases h1:termFault0 l e.left=0
   · by_cases h2:termFault0 l e.right=0
     · by_cases h3:low6 e.left=true
       · by_cases h4:low6 e.right=true
         · exact ⟨(termOk_iff _ _).1 h1,(termOk_iff _ _).1 h2,low6_iff.1 h3,low6_iff.1 h4⟩
         · simp [h1,h2,h3,h4] at h
       · simp [h1,h2,h3] at h
     · simp [h1,h2] at h
   · simp [h1] at h
 · intro h
   simp [(termOk_iff _ _).2 h.left,(termOk_iff _ _).2 h.right,low6_iff.2 h.lowL,low6_iff.2 h.lowR]
theorem eqsOk_iff {l:List Symbol} {es:List Equation}:eqsFault l es=0↔es.length≤12∧∀ e∈es,EqOk l e:=by
 unfold eqsFault
 by_cases h:12 < es.length
 · rw [if_pos h]
   constructor
   · intro h; cases h
   · intro h'; omega
 · rw [if_neg h]
   have:(es.findSome? fun e=>if eqFault l e≠0 then some (eqFault l e) else none).getD 0=0↔∀ e∈es,eqFault l e=0:=by
    cases hf:es.findSome? fun e=>if eqFault l e≠0 then some (eqFault l e) else none with
    | none =>
      rw [findSome_none] at hf
      refine ⟨fun _ e he => ?_,fun _=>rfl⟩
      have:=hf e he
      by_cases h:eqFault l e=0
      · exact h
      · simp [h] at this
    | some c =>
      obtain ⟨e,he,h1⟩:=List.exists_of_findSome?_eq_some hf
      by_cases h:eqFault l e=0
      · simp [h] at h1
      · simp [h] at h1
        subst h1
        exact ⟨fun h'=>absurd h' h,fun h'=>absurd (h' e he) h⟩
   rw [this]
   constructor
   · intro h'; exact ⟨by omega,fun e he=>eqOk_iff.1 (h' e he)⟩
   · intro h' e he; exact eqOk_iff.2 (h'.2 e he)
theorem TermOk.ge {l:List Symbol} {t:List Int} (h:TermOk l t):∀ n∈t,-12≤n:=fun n hn=>by
 rcases nodeOk_iff.1 (h.node n hn) with h | h <;> omega
theorem slices_Contains_Sint64 (l:List Int) (x:Int) (hl:l.length≤4294967296):Call F.slices_Contains_Sint64 [slc l,.int .i64 x] (.bool (decide (x∈l))):=by
 have hi:Call F.slices_Index_Sint64 [slc l,.int .i64 x] (.int .i64 (idx (fun y=>decide (x=y)) l)):=by
  refine call_of rfl (l.length+1) ((slices_Index_Sint64.ev _ _ _).trans ?_)
  simp only [evz,Nat.reduceLT]
  refine idx_loop (S:=fun m k=>slices_Index_Sint64.at0 (l.length+1) m (slices_Index_Sint64.st0 (cells l) x l.length (k:Nat))) (fun m k h => ?_) (fun m => ?_) (Nat.lt_succ_self _)
  · have hlk:l[k]?=some l[k]:=List.getElem?_eq_getElem h
    simp only [slices_Index_Sint64.next0,slices_Index_Sint64.round0,evz,Nat.reduceLT,h,hlk,enc_int]
    rw [wrap_succ (by omega)]
    by_cases e:x=l[k] <;> simp [e]
  · simp only [slices_Index_Sint64.next0,slices_Index_Sint64.round0,evz,Nat.reduceLT,Nat.lt_irrefl]
 refine call_of rfl 0 ((slices_Contains_Sint64.ev _ _ _).trans ?_)
 simp only [evz,Nat.reduceLT,hi.eq,idx_nonneg]
 have:(l.any fun y=>decide (x=y))=decide (x∈l):=by
  rw [Bool.eq_iff_iff,List.any_eq_true,decide_eq_true_eq]
  constructor
  · rintro ⟨y,hy,h⟩; rw [decide_eq_true_eq] at h; rw [h]; exact hy
  · intro h; exact ⟨x,h,by simp⟩
 rw [this]
theorem slices_ContainsFunc_Sint64_at1_impl_EquationFault_1 (t:List Int) (hs:t.length≤4294967296) :
 Call F.slices_ContainsFunc_Sint64 [slc t,.clo F.impl_EquationFault_1 []] (.bool (t.any fun n=>decide (n ≥ 6))):=by
 have hi:Call F.slices_IndexFunc_Sint64 [slc t,.clo F.impl_EquationFault_1 []] (.int .i64 (idx (fun n=>decide (n ≥ 6)) t)):=by
  refine call_of rfl (t.length+1) ((slices_IndexFunc_Sint64_at1_impl_EquationFault_1.ev _ _).trans ?_)
  refine idx_loop (S:=fun m k=>slices_IndexFunc_Sint64_at1_impl_EquationFault_1.at0 (t.length+1) m (slices_IndexFunc_Sint64_at1_impl_EquationFault_1.st0 (cells t) _ (k:Nat))) (fun m k h => ?_) (fun m => ?_) (Nat.lt_succ_self _)
  · have hlk:t[k]?=some t[k]:=List.getElem?_eq_getElem h
    have hc:Call F.impl_EquationFault_1 [.int .i64 t[k]] (.bool (decide (t[k] ≥ 6))):=call_of rfl 0 (impl_EquationFault_1.ev _ _)
    simp only [slices_IndexFunc_Sint64_at1_impl_EquationFault_1.next0,slices_IndexFunc_Sint64_at1_impl_EquationFault_1.round0,evz,Nat.reduceLT,h,hlk,enc_int,hc.eq]
    rw [wrap_succ (by omega)]
    by_cases e:t[k] ≥ 6 <;> simp [e]
  · simp only [slices_IndexFunc_Sint64_at1_impl_EquationFault_1.next0,slices_IndexFunc_Sint64_at1_impl_EquationFault_1.round0,evz,Nat.reduceLT,Nat.lt_irrefl]
 refine call_of rfl 0 ((slices_ContainsFunc_Sint64_at1_impl_EquationFault_1.ev _ _).trans ?_)
 simp only [evz,Nat.reduceLT,hi.eq,idx_nonneg]
theorem impl_EquationFault (l:List Symbol) (hs:l.length≤4294967296) (a b:List Int) (ha:a.length≤4294967296) (hb:b.length≤4294967296) :
 Call F.impl_EquationFault [.agg [slc l],.agg [slc a,slc b]] (.int .i64 (if sigFault ⟨l⟩≠0 then sigFault ⟨l⟩ else eqFault l ⟨a,b⟩)):=by
 refine call_of rfl 0 ((impl_EquationFault.ev _ _ _ _).trans ?_)
 simp only [evz,Nat.reduceLT,(impl_TermFault l hs a ha).eq,(impl_TermFault l hs b hb).eq,(impl_firstCode2 _ _).eq,termFault,eqFault]
 by_cases h1:sigFault ⟨l⟩=0
 case neg=>simp only [h1,evz,Nat.reduceLT,ne_eq,not_false_eq_true]
 simp only [h1,evz,Nat.reduceLT,ne_eq,not_true_eq_false]
 by_cases h2:termFault0 l a=0
 case neg=>simp only [h2,evz,Nat.reduceLT,not_false_eq_true]
 by_cases h3:termFault0 l b=0
 case neg=>simp only [h2,h3,evz,Nat.reduceLT,not_true_eq_false,not_false_eq_true]
 have ta:=(termOk_iff l a).1 h2
 have tb:=(termOk_iff l b).1 h3
 have hal:=ta.le
 have hbl:=tb.le
 have hv:=impl_varsOf [a,b] (by simp) (fun t ht=>by
  simp only [List.mem_cons,List.not_mem_nil,or_false] at ht
  rcases ht with rfl | rfl
  · exact ⟨ha,ta.ge⟩
  · exact ⟨hb,tb.ge⟩) (by simp; omega)
 have hvl:=varsOf_length [a,b]
 have hc:=slices_ContainsFunc_Sint64_at1_impl_EquationFault_1 (varsOf [a,b]) (by simp at hvl; omega)
 simp only [h2,h3,evz,Nat.reduceLT,not_true_eq_false,show LIM F.impl_varsOf [.sl 1 [slc a,slc b]]=_ from hv,hc.eq]
 have e1:((varsOf [a,b]).any fun n=>decide (n ≥ 6)) = !(low6 a&&low6 b):=by
  rw [Bool.eq_iff_iff,List.any_eq_true,Bool.not_eq_true',Bool.eq_false_iff,ne_eq,Bool.and_eq_true,low6_iff,low6_iff]
  constructor
  · rintro ⟨v,hv,h6⟩ ⟨q1,q2⟩
    rw [decide_eq_true_eq] at h6
    obtain ⟨_,t,ht,hm⟩:=mem_varsOf.1 hv
    simp only [List.mem_cons,List.not_mem_nil,or_false] at ht
    rcases ht with rfl | rfl
    · have:=q1 _ hm; omega
    · have:=q2 _ hm; omega
  · intro h
    by_cases q1:∀ n∈a,-6≤n
    · have q2:¬ ∀ n∈b,-6≤n:=fun q2=>h ⟨q1,q2⟩
      simp only [Classical.not_forall] at q2
      obtain ⟨n,hn,hlt⟩:=q2
      exact ⟨-1 - n,mem_varsOf.2 ⟨by omega,b,by simp,by rw [show -1 - (-1 - n)=n by omega]; exact hn⟩,by simp; omega⟩
    · simp only [Classical.not_forall] at q1
      obtain ⟨n,hn,hlt⟩:=q1
      exact ⟨-1 - n,mem_varsOf.2 ⟨by omega,a,by simp,by rw [show -1 - (-1 - n)=n by omega]; exact hn⟩,by simp; omega⟩
 rw [e1]
 cases low6 a <;> cases low6 b <;> rfl
theorem spec_l4Fault (l:List Symbol) (ok:SigOk ⟨l⟩) (a b:List Int) (ha:a.length≤4294967296) (hb:b.length≤4294967296) :
 Call F.spec_l4Fault [.rref [slc l] 0,.rref [slc a,slc b] 0] (.int .i64 (eqFault l ⟨a,b⟩)):=by
 have la:Call F.spec_l4Low [slc a] (.bool (low6 a)):=spec_l4Low a ha
 have lb:Call F.spec_l4Low [slc b] (.bool (low6 b)):=spec_l4Low b hb
 refine call_of rfl 0 ((spec_l4Fault.ev _ _ _ _).trans ?_)
 simp only [evz,Nat.reduceLT,(spec_l3Fault l ok a ha).eq,(spec_l3Fault l ok b hb).eq,la.eq,lb.eq,eqFault]
 by_cases h2:termFault0 l a=0
 case neg=>simp only [h2,evz,Nat.reduceLT,ne_eq,not_false_eq_true]
 by_cases h3:termFault0 l b=0
 case neg=>simp only [h2,h3,evz,Nat.reduceLT,ne_eq,not_true_eq_false,not_false_eq_true]
 simp only [h2,h3,evz,Nat.reduceLT,ne_eq,not_true_eq_false]
 cases low6 a <;> cases low6 b <;> rfl
theorem eqs_sm {es:List Equation} {k:Nat} (he:sm 4294967296 es) (h:k < es.length):es[k].left.length≤4294967296∧es[k].right.length≤4294967296:=by
 have:=he.2 es[k] (List.getElem_mem h)
 exact ⟨this.1.1,this.2.1⟩
theorem impl_EquationsFault (l:List Symbol) (hs:l.length≤4294967296) (es:List Equation) (he:sm 4294967296 es) :
 Call F.impl_EquationsFault [.agg [slc l],slc es] (.int .i64 (if sigFault ⟨l⟩≠0 then sigFault ⟨l⟩ else eqsFault l es)):=by
 refine call_of rfl (es.length+1) ((impl_EquationsFault.ev _ _ _).trans ?_)
 simp only [evz,Nat.reduceLT,(impl_SignatureFault l hs).eq,eqsFault,gt_iff_lt]
 by_cases h1:sigFault ⟨l⟩=0
 case neg=>simp only [h1,evz,Nat.reduceLT,ne_eq,not_false_eq_true]
 by_cases h2:12 < es.length
 · have h2':(12:Int) < es.length:=by omega
   simp only [h1,h2,h2',evz,Nat.reduceLT,ne_eq,not_true_eq_false]
 have h2':¬ (12:Int) < es.length:=by omega
 simp only [h1,h2,h2',evz,Nat.reduceLT,ne_eq,not_true_eq_false]
 refine (scan_loop (l:=es) (g:=fun e=>if eqFault l e≠0 then some (some (.int .i64 (eqFault l e),[])) else none) (z:=some (.int .i64 0,[])) (S:=fun m k=>impl_EquationsFault.at0 (es.length+1) m (impl_EquationsFault.st0 (cells es) es.length (k:Nat) (cells l)))
  (fun m k h => ?_) (fun m => ?_) (Nat.lt_succ_self _)).trans ?_
 · have hlk:es[k]?=some es[k]:=List.getElem?_eq_getElem h
   obtain ⟨q1,q2⟩:=eqs_sm he h
   have hc:=impl_EquationFault l hs es[k].left es[k].right q1 q2
   rw [if_neg (by simpa using h1)] at hc
   simp only [impl_EquationsFault.next0,impl_EquationsFault.round0,evz,Nat.reduceLT,h,hlk,enc_Equation,hc.eq]
   rw [wrap_succ (by omega)]
   by_cases e:eqFault l es[k]=0
   · simp [e]
   · simp [e]
 · simp only [impl_EquationsFault.next0,impl_EquationsFault.round0,evz,Nat.reduceLT,Nat.lt_irrefl]
 · have:=findSome_map (fun e=>if eqFault l e≠0 then some (eqFault l e) else none) (fun n=>(some (T.int .i64 n,[]):R)) es
   rw [show (fun e=>(if eqFault l e≠0 then some (eqFault l e) else none).map fun n=>(some (T.int .i64 n,[]):R))=fun e=>if eqFault l e≠0 then some (some (T.int .i64 (eqFault l e),[])) else none from funext fun e=>by by_cases h:eqFault l e=0 <;> simp [h]] at this
   rw [this]
   cases es.findSome? fun e=>if eqFault l e≠0 then some (eqFault l e) else none <;> rfl
theorem spec_l5Fault (l:List Symbol) (ok:SigOk ⟨l⟩) (es:List Equation) (he:sm 4294967296 es):Call F.spec_l5Fault [.rref [slc l] 0,slc es] (.int .i64 (eqsFault l es)):=by
 refine call_of rfl (es.length+1) ((spec_l5Fault.ev _ _ _).trans ?_)
 simp only [evz,Nat.reduceLT,eqsFault,gt_iff_lt]
 by_cases h2:12 < es.length
 · have h2':(12:Int) < es.length:=by omega
   simp only [h2,h2',evz,Nat.reduceLT]
 have h2':¬ (12:Int) < es.length:=by omega
 simp only [h2,h2',evz,Nat.reduceLT]
 refine (scan_loop (l:=es) (g:=fun e=>if eqFault l e≠0 then some (some (.int .i64 (eqFault l e),[])) else none) (z:=some (.int .i64 0,[])) (S:=fun m k=>spec_l5Fault.at0 (es.length+1) m (spec_l5Fault.st0 (cells l) (cells es) (k:Nat)))
  (fun m k h => ?_) (fun m => ?_) (Nat.lt_succ_self _)).trans ?_
 · have hlk:es[k]?=some es[k]:=List.getElem?_eq_getElem h
   obtain ⟨q1,q2⟩:=eqs_sm he h
   have hc:=spec_l4Fault l ok es[k].left es[k].right q1 q2
   simp only [spec_l5Fault.next0,spec_l5Fault.round0,evz,Nat.reduceLT,h,hlk,cells_window sz_Equation hlk,enc_Equation,hc.eq]
   rw [wrap_succ (by omega)]
   by_cases e:eqFault l es[k]=0
   · simp [e]
   · simp [e]
 · simp only [spec_l5Fault.next0,spec_l5Fault.round0,evz,Nat.reduceLT,Nat.lt_irrefl]
 · have:=findSome_map (fun e=>if eqFault l e≠0 then some (eqFault l e) else none) (fun n=>(some (T.int .i64 n,[]):R)) es
   rw [show (fun e=>(if eqFault l e≠0 then some (eqFault l e) else none).map fun n=>(some (T.int .i64 n,[]):R))=fun e=>if eqFault l e≠0 then some (some (T.int .i64 (eqFault l e),[])) else none from funext fun e=>by by_cases h:eqFault l e=0 <;> simp [h]] at this
   rw [this]
   cases es.findSome? fun e=>if eqFault l e≠0 then some (eqFault l e) else none <;> rfl
end Ev.Ty
end
section
namespace Ev.Ty
open Go Ev
open Enc (enc)
open Sm (sm)
set_option linter.unusedVariables false
set_option linter.unusedSimpArgs false
theorem spec_l1Same (l r:List Int) (hs:sm 4294967296 l):Call F.spec_l1Same [slc l,slc r] (.bool (decide (l=r))):=by
 refine call_of rfl (l.length+1) ((spec_l1Same.ev _ _ _).trans ?_)
 simp only [cells_div,sz_int]
 by_cases hl:l.length=r.length
 · have loop:=eq_loop hl (S:=fun m k=>spec_l1Same.at0 (l.length+1) m (spec_l1Same.st0 (cells l) (cells r) (k:Nat)))
    (fun m k h h'=>by
     have hlk:l[k]?=some l[k]:=List.getElem?_eq_getElem h
     have hrk:r[k]?=some r[k]:=List.getElem?_eq_getElem h'
     simp only [spec_l1Same.next0,spec_l1Same.round0,evz,Nat.reduceLT,h,h',hlk,hrk,cells_window (l:=l) sz_int hlk,cells_window (l:=r) sz_int hrk,enc_int,enc_u8]
     rw [wrap_succ (by have:=hs.1; omega)])
    (fun m=>by
     simp only [spec_l1Same.next0,spec_l1Same.round0,evz,Nat.reduceLT,Nat.lt_irrefl])
   rw [cond_neg (by rw [hl]; exact bne_self_eq_false _)]
   exact loop
 · rw [cond_pos (by simp; omega)]
   simp only [show (l=r)=False from eq_false fun e=>hl (e ▸ rfl),decide_false]
theorem slices_Equal_Sint64 (l r:List Int) (hs:sm 4294967296 l):Call F.slices_Equal_Sint64 [slc l,slc r] (.bool (decide (l=r))):=by
 refine call_of rfl (l.length+1) ((slices_Equal_Sint64.ev _ _ _).trans ?_)
 simp only [cells_div,sz_int]
 by_cases hl:l.length=r.length
 · have loop:=eq_loop hl (S:=fun m k=>slices_Equal_Sint64.at0 (l.length+1) m (slices_Equal_Sint64.st0 (cells l) (cells r) l.length (k:Nat)))
    (fun m k h h'=>by
     have hlk:l[k]?=some l[k]:=List.getElem?_eq_getElem h
     have hrk:r[k]?=some r[k]:=List.getElem?_eq_getElem h'
     simp only [slices_Equal_Sint64.next0,slices_Equal_Sint64.round0,evz,Nat.reduceLT,h,h',hlk,hrk,cells_window (l:=l) sz_int hlk,cells_window (l:=r) sz_int hrk,enc_int,enc_u8]
     rw [wrap_succ (by have:=hs.1; omega)])
    (fun m=>by
     simp only [slices_Equal_Sint64.next0,slices_Equal_Sint64.round0,evz,Nat.reduceLT,Nat.lt_irrefl])
   rw [cond_neg (by rw [hl]; exact bne_self_eq_false _)]
   exact loop
 · rw [cond_pos (by simp; omega)]
   simp only [show (l=r)=False from eq_false fun e=>hl (e ▸ rfl),decide_false]
end Ev.Ty
end
section
namespace Ev.Ty
open Go Ev
open Enc (enc)
open Sm (sm)
set_option linter.unusedSimpArgs false
set_option linter.unusedVariables false
theorem firstCode2 (a b:Int):Call F.impl_firstCode [.sl 1 [.int .i64 a,.int .i64 b]] (.int .i64 (if a=0 then b else a)):=impl_firstCode2 a b
theorem skip_inner {a:Int→Nat}:∀ {t r:List Int} {k p:Nat},skip a k t=some r→p+r.length < t.length→∃ q,skip a 1 (t.drop p)=some q
 | [],r,k,p,h,hp=>by simp at hp
 | n::t,r,0,p,h,hp=>by
   rw [skip_zero] at h; cases h; omega
 | n::t,r,k+1,0,h,hp=>by
   rw [show k+1=1+k by omega,skip_add] at h
   cases h1:skip a 1 (n::t) with
   | none=>rw [h1] at h; cases h
   | some q=>exact ⟨q,by simpa using h1⟩
 | n::t,r,k+1,p+1,h,hp=>by
   rw [skip] at h
   obtain ⟨q,hq⟩:=skip_inner (p:=p) h (by simp at hp; omega)
   exact ⟨q,by simpa using hq⟩
def endAt (l:List Symbol) (t:List Int) (p:Nat):Nat:=match skip (ar l) 1 (t.drop p) with
 | some r=>t.length - r.length
 | none=>t.length
theorem endAt_spec {l:List Symbol} {t:List Int} (ok:TermOk l t) {p:Nat} (hp:p < t.length) :
 p < endAt l t p∧endAt l t p≤t.length∧∀ z,endRes z t (skip (ar l) 1 (t.drop p))=(endAt l t p:Nat):=by
 obtain ⟨q,hq⟩:=skip_inner (p:=p) ok.skip (by simpa using hp)
 have h:=skip_at hq
 unfold endAt
 rw [hq]
 refine ⟨?_,by simp only; omega,fun z=>rfl⟩
 have:=h.2.2 (by omega)
 simp only
 omega
section
variable {l:List Symbol} (ok:SigOk ⟨l⟩)
include ok
theorem endOf_at {t:List Int} (ht:TermOk l t) {p:Nat} (hp:p < t.length):Call F.impl_endOf [.agg [slc l],slc t,.int .i64 p] (.int .i64 (endAt l t p:Nat)):=by
 have h:=impl_endOf ok t ht.node (by have:=ht.le; omega) p (Nat.le_of_lt hp)
 rwa [(endAt_spec ht hp).2.2] at h
theorem l3End_at {t:List Int} (ht:TermOk l t) {p:Nat} (hp:p < t.length):Call F.spec_l3End [.rref [slc l] 0,slc t,.int .i64 p] (.int .i64 (endAt l t p:Nat)):=by
 have h:=spec_l3End ok t ht.node (by have:=ht.le; omega) p (Nat.le_of_lt hp)
 rwa [(endAt_spec ht hp).2.2] at h
end
theorem cells_cut (t:List Int) (i j:Nat):((cells t).take (j*1)).drop (i*1)=cells ((t.take j).drop i):=by
 rw [cells_take t 1 j rfl,cells_drop _ 1 i rfl]
def subAt (l:List Symbol) (t:List Int) (p:Nat):List Int:=(t.take (endAt l t p)).drop p
theorem slc_cut (t:List Int) (i j:Nat):T.sl 1 (((cells t).take (j*1)).drop (i*1))=slc ((t.take j).drop i):=by rw [cells_cut]; rfl
theorem spec_l1Ints' (l:List Int) (h:l.length≤4294967296):Call F.spec_l1Ints [slc l] (slc l):=by
 refine call_of rfl 0 ((spec_l1Ints.ev _ _).trans ?_)
 rw [scalars_int,cond_pos rfl,cond_pos (ble_ok (by rw [cells_length,sz_int]; omega))]
 rfl
theorem slices_Clone_Sint64 (l:List Int) (h:l.length≤4294967296):Call F.slices_Clone_Sint64 [slc l] (slc l):=by
 refine lim_ext (e:=cloneE) rfl (Ev.of fun m => ?_)
 show (intsOf (cells l)).bind _=_
 rw [← intsT_cells,intsOf_intsT]
 show (bif _ then _ else _)=_
 rw [cond_pos (by rw [decide_eq_true_iff]; omega),intsT_cells]
 rfl
section
variable {l:List Symbol} (ok:SigOk ⟨l⟩)
include ok
theorem impl_subterm {t:List Int} (ht:TermOk l t) {p:Nat} (hp:p < t.length):Call F.impl_subterm [.agg [slc l],slc t,.int .i64 p] (slc (subAt l t p)):=by
 refine call_of rfl 0 ((impl_subterm.ev _ _ _ _).trans ?_)
 obtain ⟨h1,h2,_⟩:=endAt_spec ht hp
 simp only [evz,Nat.reduceLT,(endOf_at ok ht hp).eq]
 rw [cond_pos (by simp; omega),slc_cut]
 rfl
theorem spec_l3Sub {t:List Int} (ht:TermOk l t) {p:Nat} (hp:p < t.length):Call F.spec_l3Sub [.rref [slc l] 0,slc t,.int .i64 p] (slc (subAt l t p)):=by
 refine call_of rfl 0 ((spec_l3Sub.ev _ _ _ _).trans ?_)
 obtain ⟨h1,h2,_⟩:=endAt_spec ht hp
 have hle:=ht.le
 simp only [evz,Nat.reduceLT,(l3End_at ok ht hp).eq]
 rw [cond_pos (by simp; omega),slc_cut,(spec_l1Ints' _ (by simp; omega)).eq]
 simp only [evz,Nat.reduceLT]
 rfl
def replAt (l:List Symbol) (t:List Int) (p:Nat) (by_:List Int):List Int:=(t.take p++by_)++t.drop (endAt l t p)
theorem impl_replaced {t:List Int} (ht:TermOk l t) {p:Nat} (hp:p < t.length) (by_:List Int) (hb:by_.length≤1048576):Call F.impl_replaced [.agg [slc l],slc t,.int .i64 p,slc by_] (slc (replAt l t p by_)):=by
 refine call_of rfl 0 ((impl_replaced.ev _ _ _ _ _).trans ?_)
 obtain ⟨h1,h2,_⟩:=endAt_spec ht hp
 have hle:=ht.le
 simp only [cells_div,sz_int,Int.toNat_natCast]
 rw [cond_pos (by simp; omega),slc_cut,(slices_Clone_Sint64 _ (by simp; omega)).eq]
 simp only [evz,Nat.reduceLT,scalars_int,(endOf_at ok ht hp).eq,cells_cut,← cells_append,cells_div,sz_int,Int.toNat_natCast]
 rw [cond_pos (ble_ok (by rw [cells_length,cells_length,sz_int]; simp; omega)),cond_pos (by simp; omega),cond_pos (ble_ok (by rw [cells_length,cells_length,sz_int]; simp; omega))]
 simp [replAt,slc]
theorem spec_l3Replace {t:List Int} (ht:TermOk l t) {p:Nat} (hp:p < t.length) (by_:List Int) (hb:by_.length≤1048576):Call F.spec_l3Replace [.rref [slc l] 0,slc t,.int .i64 p,slc by_] (slc (replAt l t p by_)):=by
 refine call_of rfl 0 ((spec_l3Replace.ev _ _ _ _ _).trans ?_)
 obtain ⟨h1,h2,_⟩:=endAt_spec ht hp
 have hle:=ht.le
 simp only [cells_div,sz_int,Int.toNat_natCast]
 rw [cond_pos (by simp; omega),slc_cut,(spec_l1Ints' _ (by simp; omega)).eq]
 simp only [evz,Nat.reduceLT,scalars_int,(l3End_at ok ht hp).eq,cells_cut,← cells_append,cells_div,sz_int,Int.toNat_natCast]
 rw [cond_pos (ble_ok (by rw [cells_length,cells_length,sz_int]; simp; omega)),cond_pos (by simp; omega),cond_pos (ble_ok (by rw [cells_length,cells_length,sz_int]; simp; omega))]
 simp [replAt,slc]
end
def bindOf (vs:List Int) (ts:List (List Int)) (v:Int):Option (List Int):=if idx (fun x=>decide (x=v)) vs < 0 then none else ts[(idx (fun x=>decide (x=v)) vs).toNat]?
theorem slices_Index_Sint64 (l:List Int) (x:Int) (hl:l.length≤4294967296):Call F.slices_Index_Sint64 [slc l,.int .i64 x] (.int .i64 (idx (fun y=>decide (y=x)) l)):=by
 refine call_of rfl (l.length+1) ((slices_Index_Sint64.ev _ _ _).trans ?_)
 simp only [evz,Nat.reduceLT]
 refine idx_loop (S:=fun m k=>slices_Index_Sint64.at0 (l.length+1) m (slices_Index_Sint64.st0 (cells l) x l.length (k:Nat))) (fun m k h => ?_) (fun m => ?_) (Nat.lt_succ_self _)
 · have hlk:l[k]?=some l[k]:=List.getElem?_eq_getElem h
   simp only [slices_Index_Sint64.next0,slices_Index_Sint64.round0,evz,Nat.reduceLT,h,hlk,enc_int]
   rw [wrap_succ (by omega)]
   by_cases e:x=l[k]
   · simp [e]
   · have e':¬ l[k]=x:=fun h=>e h.symm
     simp [e,e']
 · simp only [slices_Index_Sint64.next0,slices_Index_Sint64.round0,evz,Nat.reduceLT,Nat.lt_irrefl]
def ofT:Option (List Int)→T
 | some t => .tup [slc t,.bool true]
 | none => .tup [slc ([]:List Int),.bool false]
theorem impl_Binding_of (vs:List Int) (ts:List (List Int)) (v:Int) (hl:vs.length=ts.length) (hs:vs.length≤4294967296):Call F.impl_Binding_of [.agg [slc vs,slc ts],.int .i64 v] (ofT (bindOf vs ts v)):=by
 refine call_of rfl 0 ((impl_Binding_of.ev _ _ _ _).trans ?_)
 simp only [evz,Nat.reduceLT,(slices_Index_Sint64 vs v hs).eq,bindOf]
 rcases idx_spec (fun x:Int=>decide (x=v)) vs with ⟨h,_⟩ | ⟨i,hi,h,_,_⟩
 · simp only [h,evz,Nat.reduceLT,ofT,slc_nil,show ((-1:Int) < 0)=True from by simp]
 · have hn:¬ ((i:Nat):Int) < 0:=by omega
   have hit:i < ts.length:=by omega
   simp only [h,hn,evz,Nat.reduceLT,hit,List.getElem?_eq_getElem,enc_list,ofT]
theorem spec_l6Term (vs:List Int) (ts:List (List Int)) (v:Int) (hl:vs.length=ts.length) (hs:vs.length≤4294967296):Call F.spec_l6Term [.rref [slc vs,slc ts] 0,.int .i64 v] (slc ((bindOf vs ts v).getD [])):=by
 refine call_of rfl (vs.length+1) ((spec_l6Term.ev _ _ _ _).trans ?_)
 have loop:=scan_loop (l:=List.range vs.length) (g:=fun k=>if vs[k]?=some v then some (some (slc (ts[k]?.getD []),[])) else none) (z:=some (slc ([]:List Int),[]))
  (S:=fun m k=>spec_l6Term.at0 (vs.length+1) m (spec_l6Term.st0 (cells vs) (cells ts) v (k:Nat))) (fun m k h => ?_) (fun m => ?_) (f:=vs.length+1) (by simp)
 · refine loop.trans ?_
   unfold bindOf
   rcases idx_spec (fun x:Int=>decide (x=v)) vs with ⟨h,hno⟩ | ⟨i,hi,h,hyes,hno⟩
   · rw [h,if_pos (by omega)]
     have:(List.range vs.length).findSome? (fun k=>if vs[k]?=some v then some ((some (slc (ts[k]?.getD []),[]):R)) else none)=none:=by
      rw [List.findSome?_eq_none_iff]
      intro k hk
      rw [List.mem_range] at hk
      rw [if_neg]
      rw [List.getElem?_eq_getElem hk]
      intro e
      have:=hno _ (List.getElem_mem hk)
      simp at this e
      exact this e
     rw [this]; rfl
   · rw [h,if_neg (by omega)]
     have hit:i < ts.length:=by omega
     have:(List.range vs.length).findSome? (fun k=>if vs[k]?=some v then some ((some (slc (ts[k]?.getD []),[]):R)) else none)=some (some (slc ts[i],[])):=by
      rw [List.findSome?_eq_some_iff]
      refine ⟨List.range i,i,(List.range' (i+1) (vs.length - i - 1)),?_,?_,?_⟩
      · rw [List.range_eq_range',List.range_eq_range',← List.range'_succ,show vs.length - i - 1+1=vs.length - i by omega]
        have:=List.range'_append (s:=0) (m:=i) (n:=vs.length - i) (step:=1)
        simp only [Nat.one_mul,Nat.zero_add] at this
        rw [this,Nat.add_sub_cancel' (Nat.le_of_lt hi)]
      · have e1:vs[i]?=some v:=(List.getElem?_eq_getElem hi).trans (congrArg some (of_decide_eq_true hyes))
        have e2:ts[i]?=some ts[i]:=List.getElem?_eq_getElem hit
        simp only [e1,e2,if_true,Option.getD_some]
      · intro k hk
        rw [List.mem_range] at hk
        rw [if_neg]
        rw [List.getElem?_eq_getElem (by omega)]
        intro e
        have:=hno k hk
        simp at this e
        exact this e
     rw [this,Int.toNat_natCast,List.getElem?_eq_getElem hit]; rfl
 · rw [List.length_range] at h
   have hlk:vs[k]?=some vs[k]:=List.getElem?_eq_getElem h
   have hkt:k < ts.length:=by omega
   simp only [spec_l6Term.next0,spec_l6Term.round0,evz,Nat.reduceLT,h,hkt,hlk,List.getElem?_eq_getElem,enc_int,enc_list,List.getElem_range,Option.getD_some,Option.some.injEq]
   rw [wrap_succ (by omega)]
   by_cases e:vs[k]=v <;> simp [e]
 · rw [List.length_range]
   simp only [spec_l6Term.next0,spec_l6Term.round0,evz,Nat.reduceLT,Nat.lt_irrefl,slc_nil]
def applied (vs:List Int) (ts:List (List Int)) (t:List Int):List Int:=t.flatMap fun n=>(bindOf vs ts (-1 - n)).getD [n]
structure BindOk (vs:List Int) (ts:List (List Int)):Prop where
 len:vs.length=ts.length
 le:vs.length≤1000
 nn:∀ v∈vs,0≤v
 tm:∀ t∈ts,1≤t.length∧t.length≤4096
theorem bindOf_neg {vs:List Int} {ts:List (List Int)} (ok:BindOk vs ts) {v:Int} (hv:v < 0):bindOf vs ts v=none:=by
 unfold bindOf
 rcases idx_spec (fun x:Int=>decide (x=v)) vs with ⟨h,_⟩ | ⟨i,hi,h,hy,_⟩
 · rw [if_pos (by omega)]
 · have:=ok.nn _ (List.getElem_mem hi)
   simp at hy; omega
theorem bindOf_mem {vs:List Int} {ts:List (List Int)} {v:Int} {t:List Int} (h:bindOf vs ts v=some t):t∈ts:=by
 unfold bindOf at h
 split at h
 · cases h
 · exact List.mem_of_getElem? h
def appStep (vs:List Int) (ts:List (List Int)) (o:List Int) (n:Int):List Int:=o++(bindOf vs ts (-1 - n)).getD [n]
theorem app_fold (vs:List Int) (ts:List (List Int)):∀ (t o:List Int),t.foldl (appStep vs ts) o=o++applied vs ts t
 | [],o=>by simp [applied]
 | n::t,o=>by
   rw [List.foldl_cons,app_fold vs ts t]
   simp [appStep,applied]
def appI (k:Nat) (o:List Int):Prop:=o.length≤k*4096
theorem appI_step {vs:List Int} {ts:List (List Int)} (ok:BindOk vs ts) {k:Nat} {o:List Int} {n:Int} (h:appI k o):appI (k+1) (appStep vs ts o n):=by
 unfold appI appStep at *
 rw [List.length_append]
 cases hb:bindOf vs ts (-1 - n) with
 | none=>simp; omega
 | some t=>have:=(ok.tm t (bindOf_mem hb)).2; simp; omega
theorem applied_length {vs:List Int} {ts:List (List Int)} (ok:BindOk vs ts) (t:List Int):(applied vs ts t).length≤t.length*4096:=by
 have:=fold_inv (l:=t) (g:=appStep vs ts) appI (fun k o _ h=>appI_step ok h) [] (by simp [appI])
 rw [app_fold] at this
 simpa [appI] using this
theorem impl_Binding_applied (vs:List Int) (ts:List (List Int)) (ok:BindOk vs ts) (t:List Int) (ht:t.length≤4096) (hr:∀ n∈t,-4611686018427387904≤n∧n≤4611686018427387904):Call F.impl_Binding_applied [.agg [slc vs,slc ts],slc t] (slc (applied vs ts t)):=by
 have hle:=ok.le
 refine call_of rfl (t.length+1) ((impl_Binding_applied.ev _ _ _ _).trans ?_)
 simp only [cells_div,sz_int]
 have key:=fold_loop (l:=t) (f:=t.length+1) (S:=fun m k (o:List Int)=>impl_Binding_applied.at0 (t.length+1) m (impl_Binding_applied.st0 (cells t) t.length (k:Nat) (cells vs) (cells ts) (cells o))) (g:=appStep vs ts) (z:=fun (o:List Int)=>some (slc o,[])) appI
  (fun m k o h ho => ?_) (fun k o h ho=>appI_step ok ho) (fun m o ho => ?_) [] (by simp [appI]) (by omega)
 · rw [app_fold] at key; exact key
 · have hn:=hr _ (List.getElem_mem h)
   have ho:o.length≤k*4096:=ho
   simp only [impl_Binding_applied.next0,impl_Binding_applied.round0,evz,Nat.reduceLT,h,List.getElem?_eq_getElem,enc_int,wrap64 (x := -1 - t[k]) (by omega),(impl_Binding_of vs ts (-1 - t[k]) ok.len (by omega)).eq,appStep]
   cases hb:bindOf vs ts (-1 - t[k]) with
   | none =>
     simp only [ofT,evz,Nat.reduceLT,scalars_int,Option.getD_none,← cells_append]
     rw [cond_pos (ble_ok (by rw [cells_length,sz_int]; omega)),cells_snoc_int,wrap_succ (by omega)]
   | some x =>
     have hx:=(ok.tm x (bindOf_mem hb)).2
     simp only [ofT,evz,Nat.reduceLT,scalars_int,Option.getD_some,← cells_append]
     rw [cond_pos (ble_ok (by rw [cells_length,cells_length,sz_int]; omega)),wrap_succ (by omega)]
 · simp only [impl_Binding_applied.next0,impl_Binding_applied.round0,evz,Nat.reduceLT,Nat.lt_irrefl]
theorem spec_l6Apply (vs:List Int) (ts:List (List Int)) (ok:BindOk vs ts) (t:List Int) (ht:t.length≤4096) (hr:∀ n∈t,-4611686018427387904≤n∧n≤4611686018427387904):Call F.spec_l6Apply [.rref [slc vs,slc ts] 0,slc t] (slc (applied vs ts t)):=by
 have hle:=ok.le
 refine call_of rfl (t.length+1) ((spec_l6Apply.ev _ _ _ _).trans ?_)
 have key:=fold_loop (l:=t) (f:=t.length+1) (S:=fun m k (o:List Int)=>spec_l6Apply.at0 (t.length+1) m (spec_l6Apply.st0 (cells vs) (cells ts) (cells t) (k:Nat) (cells o))) (g:=appStep vs ts) (z:=fun (o:List Int)=>some (slc o,[])) appI
  (fun m k o h ho => ?_) (fun k o h ho=>appI_step ok ho) (fun m o ho => ?_) [] (by simp [appI]) (by omega)
 · rw [app_fold] at key; exact key
 · have hn:=hr _ (List.getElem_mem h)
   have ho:o.length≤k*4096:=ho
   by_cases hneg:t[k] < 0
   · simp only [spec_l6Apply.next0,spec_l6Apply.round0,evz,Nat.reduceLT,h,List.getElem?_eq_getElem,enc_int,hneg,wrap64 (x := -1 - t[k]) (by omega),(spec_l6Term vs ts (-1 - t[k]) ok.len (by omega)).eq,appStep]
     cases hb:bindOf vs ts (-1 - t[k]) with
     | none =>
       simp only [slc_nil,evz,Nat.reduceLT,List.all_nil,Option.getD_none,cells_nil,List.length_nil,← cells_append,Int.natCast_zero,Nat.zero_div,Int.ofNat_zero]
       rw [cond_pos (ble_ok (by rw [cells_length,sz_int]; omega)),cells_snoc_int,wrap_succ (by omega)]
     | some x =>
       have hx:=ok.tm x (bindOf_mem hb)
       have hx0:¬ ((x.length:Int)=0):=by omega
       simp only [evz,Nat.reduceLT,scalars_int,Option.getD_some,hx0,← cells_append]
       rw [cond_pos (ble_ok (by rw [cells_length,cells_length,sz_int]; omega)),wrap_succ (by omega)]
   · simp only [spec_l6Apply.next0,spec_l6Apply.round0,evz,Nat.reduceLT,h,List.getElem?_eq_getElem,enc_int,hneg,appStep,bindOf_neg ok (v := -1 - t[k]) (by omega),Option.getD_none]
     rw [cond_pos (ble_ok (by rw [cells_length,sz_int]; omega)),cells_snoc_int,wrap_succ (by omega)]
 · simp only [spec_l6Apply.next0,spec_l6Apply.round0,evz,Nat.reduceLT,Nat.lt_irrefl]
theorem getD_at {vs:List Int} {k:Nat} (h:k < vs.length):vs.getD k 0=vs[k]:=by rw [List.getD_eq_getElem?_getD,List.getElem?_eq_getElem h]; rfl
end Ev.Ty
end
section
namespace Ev.Ty
open Go Ev
open Enc (enc)
open Sm (sm)
set_option linter.unusedSimpArgs false
set_option linter.unusedVariables false
theorem slices_ContainsFunc_Sint64_at1_impl_isRule_1 (t v:List Int) (hs:t.length≤4294967296) (hv:v.length≤4294967296) :
 Call F.slices_ContainsFunc_Sint64 [slc t,.clo F.impl_isRule_1 [.rref [slc v] 0]] (.bool (t.any fun n=>decide (n∉v))):=by
 have hi:Call F.slices_IndexFunc_Sint64 [slc t,.clo F.impl_isRule_1 [.rref [slc v] 0]] (.int .i64 (idx (fun n=>decide (n∉v)) t)):=by
  refine call_of rfl (t.length+1) ((slices_IndexFunc_Sint64_at1_impl_isRule_1.ev _ _ _).trans ?_)
  refine idx_loop (S:=fun m k=>slices_IndexFunc_Sint64_at1_impl_isRule_1.at0 (t.length+1) m (slices_IndexFunc_Sint64_at1_impl_isRule_1.st0 (cells t) _ _ (k:Nat))) (fun m k h => ?_) (fun m => ?_) (Nat.lt_succ_self _)
  · have hlk:t[k]?=some t[k]:=List.getElem?_eq_getElem h
    have hc:Call F.impl_isRule_1 [.int .i64 t[k],.rref [slc v] 0] (.bool (decide (t[k]∉v))):=by
     refine call_of rfl 0 ((impl_isRule_1.ev _ _ _).trans ?_)
     simp only [evz,Nat.reduceLT,(slices_Contains_Sint64 v t[k] hv).eq,decide_not]
    simp only [slices_IndexFunc_Sint64_at1_impl_isRule_1.next0,slices_IndexFunc_Sint64_at1_impl_isRule_1.round0,evz,Nat.reduceLT,h,hlk,enc_int,hc.eq]
    rw [wrap_succ (by omega)]
    by_cases e:t[k]∈v <;> simp [e]
  · simp only [slices_IndexFunc_Sint64_at1_impl_isRule_1.next0,slices_IndexFunc_Sint64_at1_impl_isRule_1.round0,evz,Nat.reduceLT,Nat.lt_irrefl]
 refine call_of rfl 0 ((slices_ContainsFunc_Sint64_at1_impl_isRule_1.ev _ _ _).trans ?_)
 simp only [evz,Nat.reduceLT,hi.eq,idx_nonneg]
theorem varsOf_term {l:List Symbol} {t:List Int} (h:TermOk l t):Call F.impl_varsOf [.sl 1 [slc t]] (slc (varsOf [t]))∧(varsOf [t]).length≤24:=by
 have hle:=h.le
 have hvl:=varsOf_length [t]
 refine ⟨impl_varsOf [t] (by simp) (fun x hx => ?_) (by simp; omega),by simp at hvl; omega⟩
 simp only [List.mem_cons,List.not_mem_nil,or_false] at hx
 subst hx
 exact ⟨by omega,h.ge⟩
theorem head0 {l:List Symbol} {t:List Int} (h:TermOk l t):t[0]?=some (t.headD 0):=by
 have:=h.pos
 cases t with
 | nil=>simp at this
 | cons x r=>rfl
theorem impl_isRule {l:List Symbol} {a b:List Int} (ha:TermOk l a) (hb:TermOk l b):Call F.impl_isRule [.agg [slc a,slc b]] (.bool (ruleOk ⟨a,b⟩)):=by
 refine call_of rfl 0 ((impl_isRule.ev _ _ _).trans ?_)
 obtain ⟨ca,la⟩:=varsOf_term ha
 obtain ⟨cb,lb⟩:=varsOf_term hb
 have h0:(cells a)[0]?=some (.int .i64 (a.headD 0)):=by
  have:=get0 (l:=a) (k:=1) (i:=0) sz_int
  rw [Nat.zero_mul] at this
  rw [this,head0 ha]; rfl
 have hin:inB 0 ((cells a).length / 1)=true:=by
  rw [cells_div sz_int]
  have:=inB_nat 0 a.length
  have hp:=ha.pos
  rw [show (0:Int)=((0:Nat):Int) from rfl,this]
  exact decide_eq_true hp
 have hc:=slices_ContainsFunc_Sint64_at1_impl_isRule_1 (varsOf [b]) (varsOf [a]) (by omega) (by omega)
 rw [hin,cond_true,h0]
 simp only [evz,Nat.reduceLT,ruleOk]
 have e:((varsOf [b]).any fun n=>decide (n∉varsOf [a]))=b.any fun n=>decide (n < 0∧n∉a):=by
  rw [Bool.eq_iff_iff,List.any_eq_true,List.any_eq_true]
  constructor
  · rintro ⟨v,hv,h⟩
    rw [decide_eq_true_eq] at h
    obtain ⟨v0,t,ht,hm⟩:=mem_varsOf.1 hv
    simp only [List.mem_cons,List.not_mem_nil,or_false] at ht
    subst ht
    refine ⟨-1 - v,hm,?_⟩
    rw [decide_eq_true_eq]
    exact ⟨by omega,fun hn=>h (mem_varsOf.2 ⟨v0,a,by simp,hn⟩)⟩
  · rintro ⟨n,hn,h⟩
    rw [decide_eq_true_eq] at h
    refine ⟨-1 - n,mem_varsOf.2 ⟨by omega,b,by simp,by rw [show -1 - (-1 - n)=n by omega]; exact hn⟩,?_⟩
    rw [decide_eq_true_eq]
    intro hm
    obtain ⟨_,t,ht,hm'⟩:=mem_varsOf.1 hm
    simp only [List.mem_cons,List.not_mem_nil,or_false] at ht
    subst ht
    rw [show -1 - (-1 - n)=n by omega] at hm'
    exact h.2 hm'
 by_cases h1:a.headD 0 < 0
 · have h2:¬ 0≤a.headD 0:=by omega
   simp only [h1,h2,evz,Nat.reduceLT,Bool.false_and]
 · have h2:0≤a.headD 0:=by omega
   simp only [h1,h2,evz,Nat.reduceLT,ca.eq,cb.eq,hc.eq,e,Bool.true_and]
theorem impl_RulesFault (l:List Symbol) (hs:l.length≤4294967296) (es:List Equation) (he:sm 4294967296 es):Call F.impl_RulesFault [.agg [slc l],slc es] (.int .i64 (rulesFault ⟨l⟩ es)):=by
 refine call_of rfl 0 ((impl_RulesFault.ev _ _ _).trans ?_)
 simp only [evz,Nat.reduceLT,(impl_EquationsFault l hs es he).eq,rulesFault,rulesFault0]
 by_cases h1:sigFault ⟨l⟩=0
 case neg=>simp only [h1,evz,Nat.reduceLT,ne_eq,not_false_eq_true]
 simp only [h1,evz,Nat.reduceLT,ne_eq,not_true_eq_false]
 by_cases h2:eqsFault l es=0
 case neg=>simp only [h2,evz,Nat.reduceLT,not_false_eq_true]
 obtain ⟨hlen,hok⟩:=eqsOk_iff.1 h2
 have hi:Call F.slices_IndexFunc_SEquation [slc es,.clo F.impl_RulesFault_1 []] (.int .i64 (idx (fun e => !ruleOk e) es)):=by
  refine call_of rfl (es.length+1) ((slices_IndexFunc_SEquation_at1_impl_RulesFault_1.ev _ _).trans ?_)
  simp only [evz,Nat.reduceLT]
  refine idx_loop (S:=fun m k=>slices_IndexFunc_SEquation_at1_impl_RulesFault_1.at0 (es.length+1) m (slices_IndexFunc_SEquation_at1_impl_RulesFault_1.st0 (cells es) es.length (k:Nat))) (fun m k h => ?_) (fun m => ?_) (Nat.lt_succ_self _)
  · have hlk:es[k]?=some es[k]:=List.getElem?_eq_getElem h
    have ho:=hok es[k] (List.getElem_mem h)
    have hc:Call F.impl_RulesFault_1 [.agg [slc es[k].left,slc es[k].right]] (.bool (!ruleOk es[k])):=by
     refine call_of rfl 0 ((impl_RulesFault_1.ev _ _ _).trans ?_)
     simp only [evz,Nat.reduceLT,(impl_isRule ho.left ho.right).eq]
    simp only [slices_IndexFunc_SEquation_at1_impl_RulesFault_1.next0,slices_IndexFunc_SEquation_at1_impl_RulesFault_1.round0,evz,Nat.reduceLT,h,hlk,enc_Equation,hc.eq]
    rw [wrap_succ (by omega)]
    cases ruleOk es[k] <;> rfl
  · simp only [slices_IndexFunc_SEquation_at1_impl_RulesFault_1.next0,slices_IndexFunc_SEquation_at1_impl_RulesFault_1.round0,evz,Nat.reduceLT,Nat.lt_irrefl]
 have hc:Call F.slices_ContainsFunc_SEquation [slc es,.clo F.impl_RulesFault_1 []] (.bool (es.any fun e => !ruleOk e)):=by
  refine call_of rfl 0 ((slices_ContainsFunc_SEquation_at1_impl_RulesFault_1.ev _ _).trans ?_)
  simp only [evz,Nat.reduceLT,hi.eq,idx_nonneg]
 simp only [h2,evz,Nat.reduceLT,not_true_eq_false,hc.eq]
 cases es.any fun e => !ruleOk e <;> rfl
theorem spec_l3Count (t:List Int) (x:Int) (hl:t.length≤4294967296):Call F.spec_l3Count [slc t,.int .i64 x] (.int .i64 (t.count x:Nat)):=by
 have loop:∀ m k (c:Nat),k≤t.length→t.length < m+k→c≤k →
  spec_l3Count.at0 (t.length+1) m (spec_l3Count.st0 (cells t) x (c:Nat) (k:Nat))=some (.int .i64 ((c+(t.drop k).count x:Nat):Int),[]):=by
  intro m
  induction m with
  | zero=>intros; omega
  | succ m ih =>
    intro k c hk hm hc
    by_cases h:k < t.length
    · have hlk:t[k]?=some t[k]:=List.getElem?_eq_getElem h
      simp only [spec_l3Count.next0,spec_l3Count.round0,evz,Nat.reduceLT,h,hlk,enc_int]
      rw [wrap_succ (by omega),wrap_succ (by omega),List.drop_eq_getElem_cons h,List.count_cons]
      by_cases e:t[k]=x
      · simp only [e,evz,Nat.reduceLT]
        rw [ih (k+1) (c+1) (by omega) (by omega) (by omega)]
        simp
        omega
      · simp only [e,evz,Nat.reduceLT]
        rw [ih (k+1) c (by omega) (by omega) (by omega)]
        simp [e]
    · obtain rfl:k=t.length:=by omega
      simp only [spec_l3Count.next0,spec_l3Count.round0,evz,Nat.reduceLT,Nat.lt_irrefl,List.drop_length,List.count_nil,Nat.add_zero]
 refine call_of rfl (t.length+1) ((spec_l3Count.ev _ _ _).trans ?_)
 have:=loop (t.length+1) 0 0 (by omega) (by omega) (by omega)
 rw [List.drop_zero,Nat.zero_add] at this
 exact this
theorem spec_l8Fault (l:List Symbol) (ok:SigOk ⟨l⟩) (es:List Equation) (he:sm 4294967296 es):Call F.spec_l8Fault [.rref [slc l] 0,slc es] (.int .i64 (rulesFault0 l es)):=by
 refine call_of rfl 25 ((spec_l8Fault.ev _ _ _).trans ?_)
 simp only [evz,Nat.reduceLT,(spec_l5Fault l ok es he).eq,rulesFault0]
 by_cases h2:eqsFault l es=0
 case neg=>simp only [h2,evz,Nat.reduceLT,ne_eq,not_false_eq_true]
 obtain ⟨hlen,hok⟩:=eqsOk_iff.1 h2
 simp only [h2,evz,Nat.reduceLT,ne_eq,not_true_eq_false]
 have inner:∀ (L0:St→R) (k:Nat) (h:k < es.length), 
  spec_l8Fault.at2 25 L0 25 (spec_l8Fault.st2 (cells es) (k:Nat) ((0:Nat):Int))=if (es[k].right.any fun n=>decide (n < 0∧n∉es[k].left))=true then some (.int .i64 1,[]) else L0 (spec_l8Fault.st0 (cells es) ((k+1:Nat):Int)):=fun L0 k h=>by
  have hlk:es[k]?=some es[k]:=List.getElem?_eq_getElem h
  have ho:=hok es[k] (List.getElem_mem h)
  have hle:=ho.right.le
  have hle':=ho.left.le
  refine any_loopL (l:=es[k].right) (p:=fun n=>decide (n < 0∧n∉es[k].left)) (r:=some (.int .i64 1,[])) (S:=fun m j=>spec_l8Fault.at2 25 L0 m (spec_l8Fault.st2 (cells es) (k:Nat) (j:Nat))) (fun m j hj => ?_) (fun m => ?_) (by omega)
  · have hlj:es[k].right[j]?=some es[k].right[j]:=List.getElem?_eq_getElem hj
    simp only [spec_l8Fault.next2,spec_l8Fault.round2,evz,Nat.reduceLT,h,hlk,hj,hlj,enc_Equation,enc_int,(spec_l3Count es[k].left es[k].right[j] (by omega)).eq]
    rw [wrap_succ (by omega)]
    by_cases q1:es[k].right[j] < 0
    · by_cases q2:es[k].right[j]∈es[k].left
      · have q3:0 < es[k].left.count es[k].right[j]:=List.count_pos_iff.2 q2
        have q4:¬ ((es[k].left.count es[k].right[j]:Nat):Int)=0:=by omega
        simp only [q1,q2,q4,evz,Nat.reduceLT,not_true_eq_false,and_false,Bool.false_eq_true]
      · have q3:es[k].left.count es[k].right[j]=0:=List.count_eq_zero.2 q2
        simp only [q1,q2,q3,evz,Nat.reduceLT,not_false_eq_true,and_true,Int.natCast_zero]
    · simp only [q1,evz,Nat.reduceLT,false_and,Bool.false_eq_true]
  · simp only [spec_l8Fault.next2,spec_l8Fault.round2,evz,Nat.reduceLT,h,hlk,enc_Equation,Nat.lt_irrefl]
    rw [wrap_succ (by omega)]
 refine (any_loopL (l:=es) (p:=fun e => !ruleOk e) (r:=some (.int .i64 1,[])) (z:=some (.int .i64 0,[])) (S:=fun m k=>spec_l8Fault.at0 25 m (spec_l8Fault.st0 (cells es) (k:Nat))) (fun m k h => ?_) (fun m => ?_) (show es.length < 25 by omega)).trans ?_
 · have hlk:es[k]?=some es[k]:=List.getElem?_eq_getElem h
   have ho:=hok es[k] (List.getElem_mem h)
   have h0:(cells es[k].left)[0]?=some (.int .i64 (es[k].left.headD 0)):=by
    have:=get0 (l:=es[k].left) (k:=1) (i:=0) sz_int
    rw [Nat.zero_mul] at this
    rw [this,head0 ho.left]; rfl
   have hin:inB 0 es[k].left.length=true:=by
    have:=inB_nat 0 es[k].left.length
    have hp:=ho.left.pos
    rw [show (0:Int)=((0:Nat):Int) from rfl,this]
    exact decide_eq_true hp
   simp only [spec_l8Fault.next0,spec_l8Fault.round0,evz,Nat.reduceLT,h,hlk,enc_Equation,hin,h0,ruleOk]
   by_cases q1:es[k].left.headD 0 < 0
   · have q2:¬ 0≤es[k].left.headD 0:=by omega
     simp only [q1,q2,evz,Nat.reduceLT,Bool.false_and,Bool.not_false]
   · have q2:0≤es[k].left.headD 0:=by omega
     simp only [q1,q2,evz,Nat.reduceLT,Bool.true_and,Bool.not_not]
     exact inner _ k h
 · simp only [spec_l8Fault.next0,spec_l8Fault.round0,evz,Nat.reduceLT,Nat.lt_irrefl]
 · cases es.any fun e => !ruleOk e <;> rfl
theorem spec_RulesFault (l:List Symbol) (hs:l.length≤4294967296) (es:List Equation) (he:sm 4294967296 es):Call F.spec_RulesFault [.agg [slc l],slc es] (.int .i64 (rulesFault ⟨l⟩ es)):=by
 refine call_of rfl 0 ((spec_RulesFault.ev _ _ _).trans ?_)
 simp only [evz,Nat.reduceLT,(spec_SignatureFault l hs).eq,rulesFault]
 by_cases h1:sigFault ⟨l⟩=0
 case neg=>simp only [h1,evz,Nat.reduceLT,ne_eq,not_false_eq_true]
 have ok:=(sigOk_iff _).1 h1
 simp only [h1,evz,Nat.reduceLT,ne_eq,not_true_eq_false,(spec_l8Fault l ok es he).eq]
end Ev.Ty
end
section
namespace Ev.Ty
open Go Ev
open Enc (enc)
open Sm (sm)
set_option linter.unusedSimpArgs false
set_option linter.unusedVariables false
def startsN (l:List Symbol) (t:List Int):Nat→Nat→List Nat
 | 0,_=>[]
 | n+1,p=>p::startsN l t n (endAt l t p)
def starts (l:List Symbol) (t:List Int) (p:Nat):List Nat:=startsN l t (ar l (t.getD p 0)) (p+1)
theorem startsN_length (l:List Symbol) (t:List Int):∀ n p,(startsN l t n p).length=n
 | 0,_=>rfl
 | n+1,p=>by rw [startsN,List.length_cons,startsN_length l t n]
theorem skip_one {l:List Symbol} {t:List Int} {p n:Nat} {r:List Int} (h:skip (ar l) (n+1) (t.drop p)=some r):p < t.length∧skip (ar l) n (t.drop (endAt l t p))=some r∧p < endAt l t p∧endAt l t p≤t.length:=by
 have hp:p < t.length:=by
  rcases Nat.lt_or_ge p t.length with h1 | h1
  · exact h1
  · rw [List.drop_of_length_le h1] at h; cases h
 rw [show n+1=1+n by omega,skip_add] at h
 cases h1:skip (ar l) 1 (t.drop p) with
 | none=>rw [h1] at h; cases h
 | some q =>
   rw [h1] at h
   have h2:=skip_at h1
   have e:endAt l t p=t.length - q.length:=by unfold endAt; rw [h1]
   have h3:=h2.2.2 (by omega)
   refine ⟨hp,?_,by rw [e]; omega,by rw [e]; omega⟩
   rw [e,← h2.1]
   exact h
theorem startsN_mem {l:List Symbol} {t:List Int}:∀ {n p:Nat} {r:List Int},skip (ar l) n (t.drop p)=some r→∀ q∈startsN l t n p,p≤q∧q < t.length
 | 0,p,r,h,q,hq=>by cases hq
 | n+1,p,r,h,q,hq=>by
   obtain ⟨h1,h2,h3,h4⟩:=skip_one h
   rcases List.mem_cons.1 hq with rfl | hq
   · exact ⟨Nat.le_refl _,h1⟩
   · have:=startsN_mem h2 q hq
     exact ⟨by omega,this.2⟩
theorem args_skip {l:List Symbol} {t:List Int} (ok:TermOk l t) {p:Nat} (hp:p < t.length):∃ r,skip (ar l) (ar l t[p]) (t.drop (p+1))=some r:=by
 obtain ⟨q,hq⟩:=skip_inner (p:=p) ok.skip (by simpa using hp)
 rw [List.drop_eq_getElem_cons hp,skip] at hq
 exact ⟨q,by simpa using hq⟩
theorem starts_mem {l:List Symbol} {t:List Int} (ok:TermOk l t) {p:Nat} (hp:p < t.length) {q:Nat} (hq:q∈starts l t p):p < q∧q < t.length:=by
 obtain ⟨r,hr⟩:=args_skip ok hp
 have hd:t.getD p 0=t[p]:=getD_at hp
 unfold starts at hq
 rw [hd] at hq
 have:=startsN_mem hr q hq
 exact ⟨by omega,this.2⟩
def rank (o:List Int) (n:Int):Int:=idx (fun x=>decide (x=n)) o
def cell (l:List Symbol) (o a b:List Int) (above:Nat→Nat→Bool) (i j:Nat):Bool :=
 if b.getD j 0 < 0 then decide (0≤a.getD i 0)&&decide (b.getD j 0∈subAt l a i)
 else if a.getD i 0 < 0 then false
 else if (starts l a i).any (fun p=>decide (subAt l a p=subAt l b j)||above p j) then true
 else if rank o (a.getD i 0) < rank o (b.getD j 0) then false
 else if (starts l b j).any (fun q => !above i q) then false
 else if rank o (b.getD j 0) < rank o (a.getD i 0) then true
 else match ((starts l a i).zip (starts l b j)).find? fun x => !decide (subAt l a x.1=subAt l b x.2) with
  | some x=>above x.1 x.2
  | none=>false
theorem cell_congr {l:List Symbol} {o a b:List Int} (ha:TermOk l a) (hb:TermOk l b) {f g:Nat→Nat→Bool} {i j:Nat} (hi:i < a.length) (hj:j < b.length)
 (h:∀ p q,i≤p→j≤q→p < a.length→q < b.length→(i < p∨j < q)→f p q=g p q):cell l o a b f i j=cell l o a b g i j:=by
 have h1:(starts l a i).any (fun p=>decide (subAt l a p=subAt l b j)||f p j)=(starts l a i).any (fun p=>decide (subAt l a p=subAt l b j)||g p j):=by
  rw [Bool.eq_iff_iff,List.any_eq_true,List.any_eq_true]
  constructor
  · rintro ⟨p,hp,h1⟩
    have:=starts_mem ha hi hp
    exact ⟨p,hp,by rw [← h p j (by omega) (Nat.le_refl _) this.2 hj (.inl this.1)]; exact h1⟩
  · rintro ⟨p,hp,h1⟩
    have:=starts_mem ha hi hp
    exact ⟨p,hp,by rw [h p j (by omega) (Nat.le_refl _) this.2 hj (.inl this.1)]; exact h1⟩
 have h2:(starts l b j).any (fun q => !f i q)=(starts l b j).any (fun q => !g i q):=by
  rw [Bool.eq_iff_iff,List.any_eq_true,List.any_eq_true]
  constructor
  · rintro ⟨p,hp,h1⟩
    have:=starts_mem hb hj hp
    exact ⟨p,hp,by rw [← h i p (Nat.le_refl _) (by omega) hi this.2 (.inr this.1)]; exact h1⟩
  · rintro ⟨p,hp,h1⟩
    have:=starts_mem hb hj hp
    exact ⟨p,hp,by rw [h i p (Nat.le_refl _) (by omega) hi this.2 (.inr this.1)]; exact h1⟩
 unfold cell
 rw [h1,h2]
 cases hf:((starts l a i).zip (starts l b j)).find? fun x => !decide (subAt l a x.1=subAt l b x.2) with
 | none=>rfl
 | some x =>
   have hm:=List.mem_of_find?_eq_some hf
   have hm1:=starts_mem ha hi (List.of_mem_zip hm).1
   have hm2:=starts_mem hb hj (List.of_mem_zip hm).2
   simp only [h x.1 x.2 (by omega) (by omega) hm1.2 hm2.2 (.inl hm1.1)]
def gtN (l:List Symbol) (o a b:List Int):Nat→Nat→Nat→Bool
 | 0,_,_=>false
 | n+1,i,j=>cell l o a b (gtN l o a b n) i j
def gt (l:List Symbol) (o a b:List Int) (i j:Nat):Bool:=gtN l o a b (a.length+b.length+1) i j
theorem gtN_stable {l:List Symbol} {o a b:List Int} (ha:TermOk l a) (hb:TermOk l b):∀ (d n m i j:Nat),i < a.length→j < b.length→(a.length - i)+(b.length - j)≤d→d < n→d < m→gtN l o a b n i j=gtN l o a b m i j:=by
 intro d
 induction d with
 | zero=>intros; omega
 | succ d ih =>
   intro n m i j hi hj hd hn hm
   obtain ⟨n,rfl⟩:∃ q,n=q+1:=⟨n - 1,by omega⟩
   obtain ⟨m,rfl⟩:∃ q,m=q+1:=⟨m - 1,by omega⟩
   rw [gtN,gtN]
   exact cell_congr ha hb hi hj fun p q h1 h2 h3 h4 h5=>ih n m p q h3 h4 (by omega) (by omega) (by omega)
theorem gt_eq {l:List Symbol} {o a b:List Int} (ha:TermOk l a) (hb:TermOk l b) {i j:Nat} (hi:i < a.length) (hj:j < b.length):gt l o a b i j=cell l o a b (gt l o a b) i j:=by
 show gtN l o a b (a.length+b.length+1) i j=_
 rw [gtN]
 exact cell_congr ha hb hi hj fun p q h1 h2 h3 h4 h5=>gtN_stable ha hb ((a.length - p)+(b.length - q)) _ _ p q h3 h4 (Nat.le_refl _) (by omega) (by omega)
def ints (l:List Nat):List Int:=l.map fun (n:Nat)=>(n:Int)
section
variable {l:List Symbol} (ok:SigOk ⟨l⟩)
include ok
end
theorem mpAt_map:∀ (l:List (Int × Int × Bool)) (a b:Int) (i j:Nat),(mpAt l a b i).map (·.2)=(mpAt l a b j).map (·.2)
 | [],_,_,_,_=>rfl
 | (x,y,v)::r,a,b,i,j=>by
   rw [mpAt,mpAt]
   cases (a == x&&b == y) with
   | true=>rfl
   | false=>exact mpAt_map r a b (i+1) (j+1)
theorem mpFind_cons (x y:Int) (v:Bool) (r:List (Int × Int × Bool)) (a b:Int):mpFind ((x,y,v)::r) a b=bif a == x&&b == y then some v else mpFind r a b:=by
 unfold mpFind
 rw [mpAt]
 cases (a == x&&b == y) with
 | true=>rfl
 | false=>exact mpAt_map r a b 1 0
theorem mpFind_put:∀ (l:List (Int × Int × Bool)) (x y:Int) (v:Bool) (a b:Int),mpFind (mpPut l x y v) a b=bif a == x&&b == y then some v else mpFind l a b
 | [],x,y,v,a,b=>by rw [mpPut,mpFind_cons]
 | (x',y',v')::r,x,y,v,a,b=>by
   rw [mpPut]
   cases h:(x == x'&&y == y') with
   | true =>
     simp only [Bool.and_eq_true,beq_iff_eq] at h
     obtain ⟨rfl,rfl⟩:=h
     rw [cond_true,mpFind_cons,mpFind_cons]
     cases (a == x&&b == y) <;> rfl
   | false =>
     rw [cond_false,mpFind_cons,mpFind_cons,mpFind_put r]
     cases h1:(a == x'&&b == y') with
     | false=>rfl
     | true =>
       cases h2:(a == x&&b == y) with
       | false=>rfl
       | true =>
         simp only [Bool.and_eq_true,beq_iff_eq] at h1 h2
         obtain ⟨rfl,rfl⟩:=h1
         obtain ⟨rfl,rfl⟩:=h2
         simp at h
def Good (l:List Symbol) (o a b:List Int) (m:List (Int × Int × Bool)):Prop:=∀ (p q:Nat) (v:Bool),mpFind m p q=some v→v=gt l o a b p q
theorem Good.put {l:List Symbol} {o a b:List Int} {m:List (Int × Int × Bool)} (h:Good l o a b m) (i j:Nat):Good l o a b (mpPut m i j (gt l o a b i j)):=fun p q v hv=>by
 rw [mpFind_put] at hv
 cases hc:(((p:Int) == (i:Int))&&((q:Int) == (j:Int))) with
 | true =>
   rw [hc,cond_true] at hv
   simp only [Bool.and_eq_true,beq_iff_eq,Int.ofNat_inj] at hc
   obtain ⟨rfl,rfl⟩:=hc
   exact (Option.some.inj hv).symm
 | false=>rw [hc,cond_false] at hv; exact h p q v hv
theorem subAt_length (l:List Symbol) (t:List Int) (p:Nat):(subAt l t p).length≤t.length:=by simp [subAt]; omega
section
variable {l:List Symbol} (ok:SigOk ⟨l⟩) {o a b:List Int} (ha:TermOk l a) (hb:TermOk l b)
include ok ha hb
omit ok ha hb in
theorem ints_get {A:List Nat} {k:Nat} (h:k < A.length):(ints A)[k]?=some ((A[k]:Nat):Int):=by simp [ints,h]
omit ok ha hb in
theorem ints_length (A:List Nat):(ints A).length=A.length:=by simp [ints]
omit ok ha hb in
theorem rank_inj {x y:Int} (hx:x∈o) (h:rank o x=rank o y):x=y:=by
 unfold rank at h
 rcases idx_spec (fun z:Int=>decide (z=x)) o with ⟨h1,hno⟩ | ⟨i,hi,h1,hy1,_⟩
 · have:=hno x hx; simp at this
 · rcases idx_spec (fun z:Int=>decide (z=y)) o with ⟨h2,_⟩ | ⟨i',hi',h2,hy2,_⟩
   · omega
   · have:i=i':=by omega
     subst this
     simp at hy1 hy2
     rw [← hy1,← hy2]
omit ok ha hb in
theorem starts_le (ok:SigOk ⟨l⟩) (t:List Int) (p:Nat):(starts l t p).length≤2:=by
 unfold starts; rw [startsN_length]; exact ar_le ok _
end
theorem spec_l2Rank (o:List Int) (x:Int) (hl:o.length≤4294967296):Call F.spec_l2Rank [slc o,.int .i64 x] (.int .i64 (rank o x)):=by
 refine call_of rfl (o.length+1) ((spec_l2Rank.ev _ _ _).trans ?_)
 refine idx_loop (S:=fun m k=>spec_l2Rank.at0 (o.length+1) m (spec_l2Rank.st0 (cells o) x (k:Nat))) (fun m k h => ?_) (fun m => ?_) (Nat.lt_succ_self _)
 · have hlk:o[k]?=some o[k]:=List.getElem?_eq_getElem h
   simp only [spec_l2Rank.next0,spec_l2Rank.round0,evz,Nat.reduceLT,h,hlk,enc_int,decide_eq_true_eq]
   rw [wrap_succ (by omega)]
 · simp only [spec_l2Rank.next0,spec_l2Rank.round0,evz,Nat.reduceLT,Nat.lt_irrefl]
section
variable {l:List Symbol} (ok:SigOk ⟨l⟩)
include ok
theorem spec_l7Starts {t:List Int} (ht:TermOk l t) {p:Nat} (hp:p < t.length) (hn:0≤t[p]):Call F.spec_l7Starts [.rref [slc l] 0,slc t,.int .i64 p] (slc (ints (starts l t p))):=by
 have hle:=ht.le
 have har:=ar_le (l:=l) ok t[p]
 have hnode:=nodeOk_iff.1 (ht.node _ (List.getElem_mem hp))
 have hls:l.length≤6:=ok.le
 obtain ⟨u,hu⟩:∃ u:Nat,t[p]=u:=⟨t[p].toNat,by omega⟩
 have hul:u < l.length:=by omega
 have hare:(l[u]).arity=(ar l t[p]:Nat):=by
  have:=ar_eq ok (n:=t[p]) hn (by rw [hu]; simpa using hul)
  simpa [hu] using this
 refine call_of rfl 4 ((spec_l7Starts.ev _ _ _ _).trans ?_)
 rw [wrap_succ (by omega)]
 have loop:∀ n k q f (out:List Int) r,k+n=ar l t[p]→n < f→skip (ar l) n (t.drop q)=some r→out.length=k →
  spec_l7Starts.at0 4 f (spec_l7Starts.st0 (cells l) (cells t) (p:Nat) (q:Nat) (k:Nat) (cells out))=some (slc (out++ints (startsN l t n q)),[]):=by
  intro n
  induction n with
  | zero =>
    intro k q f out r hk hf hs ho
    obtain ⟨f,rfl⟩:∃ x,f=x+1:=⟨f - 1,by omega⟩
    have:¬ k < ar l t[p]:=by omega
    simp only [spec_l7Starts.next0,spec_l7Starts.round0,evz,Nat.reduceLT,hp,List.getElem?_eq_getElem,enc_int,hu,hul,enc_Symbol,hare,startsN,ints,List.map_nil,List.append_nil]
    rw [← hu,if_neg this]
  | succ n ih =>
    intro k q f out r hk hf hs ho
    obtain ⟨f,rfl⟩:∃ x,f=x+1:=⟨f - 1,by omega⟩
    obtain ⟨h1,h2,h3,h4⟩:=skip_one hs
    have hlt:k < ar l t[p]:=by omega
    simp only [spec_l7Starts.next0,spec_l7Starts.round0,evz,Nat.reduceLT,hp,List.getElem?_eq_getElem,enc_int,hu,hul,enc_Symbol,hare,(l3End_at ok ht h1).eq,cells_snoc_int]
    rw [← hu,if_pos hlt,cond_pos (ble_ok (by rw [cells_length,sz_int]; omega)),wrap_succ (by omega),ih (k+1) (endAt l t q) f (out++[(q:Int)]) r (by omega) (by omega) h2 (by simp [ho])]
    simp [startsN,ints]
 obtain ⟨r,hr⟩:=args_skip ht hp
 have hd:t.getD p 0=t[p]:=getD_at hp
 have:=loop (ar l t[p]) 0 (p+1) 4 [] r (by omega) (by omega) hr (by simp)
 unfold starts
 rw [hd]
 simpa using this
theorem spec_l7Equal {a b:List Int} (ha:TermOk l a) (hb:TermOk l b) {i j:Nat} (hi:i < a.length) (hj:j < b.length):Call F.spec_l7Equal [.rref [slc l] 0,slc a,.int .i64 i,slc b,.int .i64 j] (.bool (decide (subAt l a i=subAt l b j))):=by
 refine call_of rfl 0 ((spec_l7Equal.ev _ _ _ _ _ _).trans ?_)
 obtain ⟨h1,h2,_⟩:=endAt_spec ha hi
 obtain ⟨h3,h4,_⟩:=endAt_spec hb hj
 have h5:=subAt_length l a i
 have h6:=ha.le
 have hs:=(spec_l1Same (subAt l a i) (subAt l b j) ⟨by omega,fun _ _=>trivial⟩).eq
 simp only [evz,Nat.reduceLT,(l3End_at ok ha hi).eq,(l3End_at ok hb hj).eq]
 rw [cond_pos (by simp; omega),cond_pos (by simp; omega),slc_cut,slc_cut]
 unfold subAt at hs ⊢
 simp only [hs,evz,Nat.reduceLT]
omit ok in
theorem sz_bool:Enc.sz Bool=1:=rfl
omit ok in
theorem enc_bool (b:Bool):enc b=[.bool b]:=rfl
omit ok in
theorem bget {T:List Bool} {k:Nat} (h:k < T.length):(cells T)[k*1]?=some (.bool (T.getD k false)):=by
 rw [get0 (l:=T) (k:=1) (i:=k) rfl,List.getElem?_eq_getElem h,List.getD_eq_getElem?_getD,List.getElem?_eq_getElem h]; rfl
omit ok in
theorem bgetD {T:List Bool} {k:Nat} (h:k < T.length):T[k]?=some (T.getD k false):=by
 rw [List.getElem?_eq_getElem h,List.getD_eq_getElem?_getD,List.getElem?_eq_getElem h]; rfl
omit ok in
theorem at_bound {i j la lb:Nat} (hi:i < la) (hj:j < lb):i*lb+j < la*lb:=by
 have:i*lb+lb≤la*lb:=by rw [← Nat.succ_mul]; exact Nat.mul_le_mul_right _ hi
 omega
omit ok in
theorem at_wrap {i j la lb:Nat} (hi:i < la) (hj:j < lb) (ha:la≤24) (hb:lb≤24):IntKind.wrap .i64 (IntKind.wrap .i64 ((i:Int)*(lb:Int))+(j:Int))=((i*lb+j:Nat):Int):=by
 have h1:=at_bound hi hj
 have h2:la*lb≤24*24:=Nat.mul_le_mul ha hb
 have e1:IntKind.wrap .i64 ((i:Int)*(lb:Int))=((i*lb:Nat):Int):=by rw [← Int.natCast_mul]; exact wrap64 (by omega)
 rw [e1,← Int.natCast_add]; exact wrap64 (by omega)
section
variable {o a b:List Int} (ha:TermOk l a) (hb:TermOk l b) {T:List Bool} (hT:T.length=a.length*b.length)
include ha hb hT
theorem cell4 {A B:List Nat} (hAl:A.length≤2) (hA:∀ p∈A,p < a.length) (hB:∀ q∈B,q < b.length) :
 ∀ n k f,k+n=A.length→n < f →
  spec_l7Cell.at4 8 f (spec_l7Cell.st4 (cells l) (cells a) (cells b) (cells T) (b.length:Nat) (k:Nat) (cells (ints A)) (cells (ints B))) =
   some (.bool (match ((A.drop k).zip (B.drop k)).find? fun x => !decide (subAt l a x.1=subAt l b x.2) with | some x=>T.getD (x.1*b.length+x.2) false | none=>false),[]):=by
 have hla:=ha.le
 have hlb:=hb.le
 intro n
 induction n with
 | zero =>
   intro k f hk hf
   obtain ⟨f,rfl⟩:∃ x,f=x+1:=⟨f - 1,by omega⟩
   have:¬ k < A.length:=by omega
   simp only [spec_l7Cell.next4,spec_l7Cell.round4,evz,Nat.reduceLT,ints_length,this,List.drop_of_length_le (show A.length≤k by omega),List.zip_nil_left,List.find?_nil]
 | succ n ihn =>
   intro k f hk hf
   obtain ⟨f,rfl⟩:∃ x,f=x+1:=⟨f - 1,by omega⟩
   have hkA:k < A.length:=by omega
   by_cases hkB:k < B.length
   · have hp:=hA _ (List.getElem_mem hkA)
     have hq:=hB _ (List.getElem_mem hkB)
     have hs:=(spec_l7Equal ok ha hb hp hq).eq
     rw [List.drop_eq_getElem_cons hkA,List.drop_eq_getElem_cons hkB,List.zip_cons_cons,List.find?_cons]
     by_cases e:subAt l a A[k]=subAt l b B[k]
     · have:=ihn (k+1) f (by omega) (by omega)
       simp only [spec_l7Cell.next4,spec_l7Cell.round4,evz,Nat.reduceLT,hkA,hkB,ints_get,ints_length,enc_int,hs,e,Bool.not_true]
       rw [wrap_succ (by omega)]
       exact this
     · have hin:A[k]*b.length+B[k] < T.length:=by rw [hT]; exact at_bound hp hq
       simp only [spec_l7Cell.next4,spec_l7Cell.round4,evz,Nat.reduceLT,hkA,hkB,ints_get,ints_length,enc_int,hs,e,Bool.not_false,at_wrap hp hq hla hlb,hin,bgetD hin,enc_bool,sz_bool]
   · simp only [spec_l7Cell.next4,spec_l7Cell.round4,evz,Nat.reduceLT,hkA,hkB,ints_get,ints_length,List.drop_of_length_le (show B.length≤k by omega),List.zip_nil_right,List.find?_nil]
omit ok in
theorem cell2 {i j:Nat} {A B:List Nat} {Rest:R} (hi:i < a.length) (hB:∀ q∈B,q < b.length) (hBl:B.length≤2)
 (hrest:∀ f,spec_l7Cell.at2 8 (f+1) (spec_l7Cell.st2 (cells l) (cells a) (cells b) (i:Nat) (j:Nat) (cells T) (b.length:Nat) (B.length:Nat) (cells (ints A)) (cells (ints B)))=Rest) :
 ∀ n k f,k+n=B.length→n < f →
  spec_l7Cell.at2 8 f (spec_l7Cell.st2 (cells l) (cells a) (cells b) (i:Nat) (j:Nat) (cells T) (b.length:Nat) (k:Nat) (cells (ints A)) (cells (ints B))) =
   if (B.drop k).any (fun q => !T.getD (i*b.length+q) false) then some (.bool false,[]) else Rest:=by
 have hla:=ha.le
 have hlb:=hb.le
 intro n
 induction n with
 | zero =>
   intro k f hk hf
   obtain ⟨f,rfl⟩:∃ x,f=x+1:=⟨f - 1,by omega⟩
   obtain rfl:k=B.length:=by omega
   rw [hrest,List.drop_of_length_le (Nat.le_refl _)]; rfl
 | succ n ihn =>
   intro k f hk hf
   obtain ⟨f,rfl⟩:∃ x,f=x+1:=⟨f - 1,by omega⟩
   have hkB:k < B.length:=by omega
   have hq:=hB _ (List.getElem_mem hkB)
   have hin:i*b.length+B[k] < T.length:=by rw [hT]; exact at_bound hi hq
   have:=ihn (k+1) f (by omega) (by omega)
   rw [List.drop_eq_getElem_cons hkB,List.any_cons]
   simp only [spec_l7Cell.next2,spec_l7Cell.round2,evz,Nat.reduceLT,hkB,ints_get,ints_length,enc_int,at_wrap hi hq hla hlb,hin,bgetD hin,enc_bool,sz_bool]
   cases T.getD (i*b.length+B[k]) false with
   | false=>simp
   | true =>
     rw [wrap_succ (by omega)]
     simp only [evz,Nat.reduceLT,Bool.not_true,Bool.false_or]
     exact this
theorem cell0 {o:List Int} {i j:Nat} {A:List Nat} {Rest:R} (hj:j < b.length) (hA:∀ p∈A,p < a.length) (hAl:A.length≤2)
 (hrest:∀ f,spec_l7Cell.at0 8 (f+1) (spec_l7Cell.st0 (cells l) (cells o) (cells a) (cells b) (i:Nat) (j:Nat) (cells T) (b.length:Nat) (A.length:Nat) (cells (ints A)))=Rest) :
 ∀ n k f,k+n=A.length→n < f →
  spec_l7Cell.at0 8 f (spec_l7Cell.st0 (cells l) (cells o) (cells a) (cells b) (i:Nat) (j:Nat) (cells T) (b.length:Nat) (k:Nat) (cells (ints A))) =
   if (A.drop k).any (fun p=>decide (subAt l a p=subAt l b j)||T.getD (p*b.length+j) false) then some (.bool true,[]) else Rest:=by
 have hla:=ha.le
 have hlb:=hb.le
 intro n
 induction n with
 | zero =>
   intro k f hk hf
   obtain ⟨f,rfl⟩:∃ x,f=x+1:=⟨f - 1,by omega⟩
   obtain rfl:k=A.length:=by omega
   rw [hrest,List.drop_of_length_le (Nat.le_refl _)]; rfl
 | succ n ihn =>
   intro k f hk hf
   obtain ⟨f,rfl⟩:∃ x,f=x+1:=⟨f - 1,by omega⟩
   have hkA:k < A.length:=by omega
   have hp:=hA _ (List.getElem_mem hkA)
   have hin:A[k]*b.length+j < T.length:=by rw [hT]; exact at_bound hp hj
   have:=ihn (k+1) f (by omega) (by omega)
   rw [List.drop_eq_getElem_cons hkA,List.any_cons]
   simp only [spec_l7Cell.next0,spec_l7Cell.round0,evz,Nat.reduceLT,hkA,ints_get,ints_length,enc_int,at_wrap hp hj hla hlb,hin,bgetD hin,enc_bool,sz_bool,(spec_l7Equal ok ha hb hp hj).eq]
   cases T.getD (A[k]*b.length+j) false with
   | true=>simp
   | false =>
     by_cases e:subAt l a A[k]=subAt l b j
     · simp [e]
     · rw [wrap_succ (by omega)]
       simp only [evz,Nat.reduceLT,e,Bool.or_false,Bool.false_or]
       exact this
theorem spec_l7Cell (hol:o.length≤1048576) (ho:∀ n:Int,0≤n→n < l.length→n∈o) {i j:Nat} (hi:i < a.length) (hj:j < b.length) :
 Call F.spec_l7Cell [.rref [slc l] 0,slc o,slc a,slc b,.int .i64 i,.int .i64 j,slc T] (.bool (cell l o a b (fun p q=>T.getD (p*b.length+q) false) i j)):=by
 have hai:a.getD i 0=a[i]:=getD_at hi
 have hbj:b.getD j 0=b[j]:=getD_at hj
 have hla:=ha.le
 have hlb:=hb.le
 have hsl:=subAt_length l a i
 obtain ⟨h1,h2,_⟩:=endAt_spec ha hi
 unfold cell
 rw [hai,hbj]
 refine call_of rfl 8 ((spec_l7Cell.ev _ _ _ _ _ _ _ _).trans ?_)
 by_cases hy:b[j] < 0
 · by_cases hx:0≤a[i]
   · have hx':a[i] ≥ 0:=hx
     have hc:=(spec_l3Count (subAt l a i) b[j] (by omega)).eq
     have hm:decide (((List.count b[j] (subAt l a i):Nat):Int) > 0)=decide (b[j]∈subAt l a i):=by
      rw [decide_eq_decide,← List.count_pos_iff]; omega
     simp only [evz,Nat.reduceLT,hi,hj,List.getElem?_eq_getElem,enc_int,hy,hx',hx,(l3End_at ok ha hi).eq,Bool.true_and]
     rw [cond_pos (by simp; omega),slc_cut]
     unfold subAt at hc hm ⊢
     simp only [hc,evz,Nat.reduceLT,hm]
   · have hx':¬ a[i] ≥ 0:=hx
     simp only [evz,Nat.reduceLT,hi,hj,List.getElem?_eq_getElem,enc_int,hy,hx',hx,Bool.false_and]
 by_cases hx:a[i] < 0
 · simp only [evz,Nat.reduceLT,hi,hj,List.getElem?_eq_getElem,enc_int,hy,hx]
 have hA:∀ p∈starts l a i,i < p∧p < a.length:=fun p hp=>starts_mem ha hi hp
 have hB:∀ q∈starts l b j,j < q∧q < b.length:=fun q hq=>starts_mem hb hj hq
 have hAl:=starts_le ok a i
 have hBl:=starts_le ok b j
 have ix:=(spec_l2Rank o a[i] (by omega)).eq
 have iy:=(spec_l2Rank o b[j] (by omega)).eq
 have sa:=(spec_l7Starts ok ha hi (by omega)).eq
 have sb:=(spec_l7Starts ok hb hj (by omega)).eq
 have hne:(rank o b[j] < rank o a[i])↔(¬ rank o a[i] < rank o b[j])∧a[i]≠b[j]:=by
  have n1:=nodeOk_iff.1 (ha.node _ (List.getElem_mem hi))
  constructor
  · intro h
    refine ⟨by omega,fun e => ?_⟩
    rw [e] at h; omega
  · rintro ⟨h1,h2⟩
    rcases Int.lt_or_le (rank o b[j]) (rank o a[i]) with h | h
    · exact h
    · exact absurd (rank_inj (ho _ (by omega) (by omega)) (by omega)) h2
 generalize hAA:starts l a i=A at hA hAl sa
 generalize hBB:starts l b j=B at hB hBl sb
 have e4:=cell4 ok ha hb hT (A:=A) (B:=B) hAl (fun p hp=>(hA p hp).2) (fun q hq=>(hB q hq).2) A.length 0 8 (by omega) (by omega)
 let Rest2:R:=if a[i]≠b[j] then some (.bool true,[]) else some (.bool (match ((A.drop 0).zip (B.drop 0)).find? fun x => !decide (subAt l a x.1=subAt l b x.2) with | some x=>T.getD (x.1*b.length+x.2) false | none=>false),[])
 have e2:=cell2 (l:=l) ha hb hT (i:=i) (j:=j) (A:=A) (B:=B) (Rest:=Rest2) hi (fun q hq=>(hB q hq).2) hBl (fun f=>by
  simp only [spec_l7Cell.next2,spec_l7Cell.round2,evz,Nat.reduceLT,Nat.lt_irrefl,ints_length,hi,hj,List.getElem?_eq_getElem,enc_int,Rest2]
  by_cases e:a[i]=b[j]
  · simp only [e,evz,Nat.reduceLT]
    rw [if_neg (fun h=>h rfl)]
    exact e4
  · simp [e]) B.length 0 8 (by omega) (by omega)
 let Rest0:R:=if rank o a[i] < rank o b[j] then some (.bool false,[]) else if (B.drop 0).any (fun q => !T.getD (i*b.length+q) false) then some (.bool false,[]) else Rest2
 have e0:=cell0 ok ha hb hT (o:=o) (i:=i) (j:=j) (A:=A) (Rest:=Rest0) hj (fun p hp=>(hA p hp).2) hAl (fun f=>by
  simp only [spec_l7Cell.next0,spec_l7Cell.round0,evz,Nat.reduceLT,Nat.lt_irrefl,ints_length,hi,hj,List.getElem?_eq_getElem,enc_int,ix,iy,sb,Rest0]
  by_cases hr:rank o a[i] < rank o b[j]
  · rw [if_pos hr,if_pos hr]
  · rw [if_neg hr,if_neg hr]
    exact e2) A.length 0 8 (by omega) (by omega)
 simp only [evz,Nat.reduceLT,hi,hj,List.getElem?_eq_getElem,enc_int,hy,hx,sa]
 refine Eq.trans e0 ?_
 simp only [Rest0,Rest2,List.drop_zero]
 by_cases c1:A.any (fun p=>decide (subAt l a p=subAt l b j)||T.getD (p*b.length+j) false)=true
 · rw [if_pos c1,if_pos c1]
 rw [if_neg c1,if_neg c1]
 by_cases c2:rank o a[i] < rank o b[j]
 · rw [if_pos c2,if_pos c2]
 rw [if_neg c2,if_neg c2]
 by_cases c3:B.any (fun q => !T.getD (i*b.length+q) false)=true
 · rw [if_pos c3,if_pos c3]
 rw [if_neg c3,if_neg c3]
 by_cases c4:rank o b[j] < rank o a[i]
 · rw [if_pos c4,if_pos (hne.1 c4).2]
 · rw [if_neg c4,if_neg (fun h=>c4 (hne.2 ⟨c2,h⟩))]
end
omit ok in
theorem set_Bool {T:List Bool} {k:Nat} (h:k < T.length) (v:Bool):setCells (cells T) (k*1) [.bool v]=cells (T.set k v):=cells_set T 1 k rfl v h
omit ok in
theorem rep_Bool (n:Nat):repT n [.bool false]=cells (List.replicate n false):=cells_rep n false
def Done (l:List Symbol) (o a b:List Int) (T:List Bool) (n:Nat):Prop :=
 T.length=a.length*b.length∧∀ p q,p < a.length→q < b.length→n≤p*b.length+q→T.getD (p*b.length+q) false=gt l o a b p q
omit ok in
theorem at_inj {n p q i j:Nat} (hq:q < n) (hj:j < n) (h:p*n+q=i*n+j):p=i∧q=j:=by
 rcases Nat.lt_trichotomy p i with h1 | h1 | h1
 · have:(p+1)*n≤i*n:=Nat.mul_le_mul_right _ h1
   rw [Nat.succ_mul] at this; omega
 · subst h1; exact ⟨rfl,by omega⟩
 · have:(i+1)*n≤p*n:=Nat.mul_le_mul_right _ h1
   rw [Nat.succ_mul] at this; omega
omit ok in
theorem Done.cell {o a b:List Int} (ha:TermOk l a) (hb:TermOk l b) {T:List Bool} {i j:Nat} (hi:i < a.length) (hj:j < b.length) (h:Done l o a b T (i*b.length+(j+1))) :
 cell l o a b (fun p q=>T.getD (p*b.length+q) false) i j=gt l o a b i j:=by
 rw [gt_eq ha hb hi hj]
 refine cell_congr ha hb hi hj fun p q h1 h2 h3 h4 h5=>h.2 p q h3 h4 ?_
 have h6:i*b.length≤p*b.length:=Nat.mul_le_mul_right _ h1
 rcases h5 with h5 | h5
 · have:(i+1)*b.length≤p*b.length:=Nat.mul_le_mul_right _ h5
   rw [Nat.succ_mul] at this; omega
 · omega
omit ok in
theorem Done.set {o a b:List Int} {T:List Bool} {i j:Nat} (hi:i < a.length) (hj:j < b.length) (h:Done l o a b T (i*b.length+(j+1))):Done l o a b (T.set (i*b.length+j) (gt l o a b i j)) (i*b.length+j):=by
 have hin:=at_bound hi hj
 refine ⟨by rw [List.length_set]; exact h.1,fun p q hp hq hle => ?_⟩
 by_cases e:i*b.length+j=p*b.length+q
 · obtain ⟨rfl,rfl⟩:=at_inj hq hj e.symm
   simp [List.getD_eq_getElem?_getD,h.1,hin]
 · have:=h.2 p q hp hq (by omega)
   rw [← this,List.getD_eq_getElem?_getD,List.getD_eq_getElem?_getD,List.getElem?_set_ne e]
theorem table2 {o a b:List Int} (ha:TermOk l a) (hb:TermOk l b) (hol:o.length≤1048576) (ho:∀ n:Int,0≤n→n < l.length→n∈o) (L0:St→R) {i:Nat} (hi:i < a.length) :
 ∀ (k f:Nat) (T:List Bool),k≤b.length→k < f→Done l o a b T (i*b.length+k)→∃ T',Done l o a b T' (i*b.length) ∧
  spec_l7Table.at2 25 L0 f (spec_l7Table.st2 (cells l) (cells o) (cells a) (cells b) (b.length:Nat) (i:Nat) ((k:Int) - 1) (cells T)) =
   L0 (spec_l7Table.st0 (cells l) (cells o) (cells a) (cells b) (b.length:Nat) ((i:Int) - 1) (cells T')):=by
 have hla:=ha.le
 have hlb:=hb.le
 intro k
 induction k with
 | zero =>
   intro f T hk hf hd
   obtain ⟨f,rfl⟩:∃ x,f=x+1:=⟨f - 1,by omega⟩
   refine ⟨T,by simpa using hd,?_⟩
   have h1:¬ (((0:Nat):Int) - 1 ≥ 0):=by omega
   simp only [spec_l7Table.next2,spec_l7Table.round2,cond_dec]
   rw [if_neg h1,wrap64 (by omega)]
 | succ k ih =>
   intro f T hk hf hd
   obtain ⟨f,rfl⟩:∃ x,f=x+1:=⟨f - 1,by omega⟩
   have hj:k < b.length:=by omega
   have hin:i*b.length+k < T.length:=by rw [hd.1]; exact at_bound hi hj
   obtain ⟨T',hd',h'⟩:=ih f (T.set (i*b.length+k) (gt l o a b i k)) (by omega) (by omega) (hd.set hi hj)
   refine ⟨T',hd',?_⟩
   have e:((k+1:Nat):Int) - 1=(k:Int):=by omega
   have hc:=spec_l7Cell ok ha hb hd.1 hol ho hi hj
   rw [hd.cell ha hb hi hj] at hc
   have h1:(k:Int) ≥ 0:=by omega
   rw [e]
   simp only [spec_l7Table.next2,spec_l7Table.round2,evz,Nat.reduceLT,h1,hc.eq,at_wrap hi hj hla hlb,hin,sz_bool]
   rw [wrap64 (by omega),if_pos (by rw [cells_length,sz_bool]; omega),set_Bool hin]
   exact h'
theorem spec_l7Table {o a b:List Int} (ha:TermOk l a) (hb:TermOk l b) (hol:o.length≤1048576) (ho:∀ n:Int,0≤n→n < l.length→n∈o) :
 ∃ T,Done l o a b T 0∧Call F.spec_l7Table [.rref [slc l] 0,slc o,slc a,slc b] (slc T):=by
 have hla:=ha.le
 have hlb:=hb.le
 have outer:∀ (m f:Nat) (T:List Bool),m≤a.length→m < f→Done l o a b T (m*b.length)→∃ T',Done l o a b T' 0 ∧
  spec_l7Table.at0 25 f (spec_l7Table.st0 (cells l) (cells o) (cells a) (cells b) (b.length:Nat) ((m:Int) - 1) (cells T))=some (slc T',[]):=by
  intro m
  induction m with
  | zero =>
    intro f T hm hf hd
    obtain ⟨f,rfl⟩:∃ x,f=x+1:=⟨f - 1,by omega⟩
    refine ⟨T,by simpa using hd,?_⟩
    have h1:¬ (((0:Nat):Int) - 1 ≥ 0):=by omega
    simp only [spec_l7Table.next0,spec_l7Table.round0,cond_dec]
    rw [if_neg h1]; rfl
  | succ m ih =>
    intro f T hm hf hd
    obtain ⟨f,rfl⟩:∃ x,f=x+1:=⟨f - 1,by omega⟩
    have e:((m+1:Nat):Int) - 1=(m:Int):=by omega
    have h1:(m:Int) ≥ 0:=by omega
    obtain ⟨T1,hd1,h1'⟩:=table2 ok ha hb hol ho (spec_l7Table.at0 25 f) (i:=m) (by omega) b.length 25 T (Nat.le_refl _) (by omega) (by rw [← Nat.succ_mul]; exact hd)
    obtain ⟨T',hd',h'⟩:=ih f T1 (by omega) (by omega) hd1
    refine ⟨T',hd',?_⟩
    rw [e]
    simp only [spec_l7Table.next0,spec_l7Table.round0,cond_dec]
    rw [if_pos h1,wrap64 (by omega),h1',h']
 have hmul:a.length*b.length≤24*24:=Nat.mul_le_mul hla hlb
 obtain ⟨T,hd,h⟩:=outer a.length 25 (List.replicate (a.length*b.length) false) (Nat.le_refl _) (by omega) ⟨by simp,fun p q hp hq hle=>by have:=at_bound hp hq; omega⟩
 refine ⟨T,hd,call_of rfl 25 ((spec_l7Table.ev _ _ _ _ _).trans ?_)⟩
 have hw:IntKind.wrap .i64 ((a.length:Int)*(b.length:Int))=((a.length*b.length:Nat):Int):=by rw [← Int.natCast_mul]; exact wrap64 (by omega)
 simp only [cells_div,sz_int,hw,Int.toNat_natCast,rep_Bool]
 rw [cond_pos (by simp; omega),wrap64 (by omega)]
 exact h
theorem spec_l7Over {o a b:List Int} (ha:TermOk l a) (hb:TermOk l b) (hol:o.length≤1048576) (ho:∀ n:Int,0≤n→n < l.length→n∈o) :
 Call F.spec_l7Over [.rref [slc l] 0,slc o,slc a,slc b] (.bool (gt l o a b 0 0)):=by
 obtain ⟨T,hd,h⟩:=spec_l7Table ok ha hb hol ho
 have h1:=ha.pos
 have h2:=hb.pos
 have hT:0 < T.length:=by rw [hd.1]; exact Nat.mul_pos h1 h2
 have h3:=hd.2 0 0 h1 h2 (Nat.zero_le _)
 simp only [Nat.zero_mul,Nat.add_zero] at h3
 refine call_of rfl 0 ((spec_l7Over.ev _ _ _ _ _).trans ?_)
 have hg:=bget (T:=T) (k:=0) hT
 rw [Nat.zero_mul,h3] at hg
 simp only [evz,Nat.reduceLT,h.eq,sz_bool,hg]
 rw [show inB (0:Int) T.length=true from (inB_nat 0 T.length).trans (by simpa using hT)]
 rfl
end
end Ev.Ty
end
section
namespace Ev.Ty
open Go Ev
open Enc (enc)
open Sm (sm)
set_option linter.unusedSimpArgs false
set_option linter.unusedVariables false
theorem TermOk.range {l:List Symbol} (ok:SigOk ⟨l⟩) {t:List Int} (h:TermOk l t):∀ n∈t,-4611686018427387904≤n∧n≤4611686018427387904:=fun n hn=>by
 have:=nodeOk_iff.1 (h.node n hn)
 have hle:l.length≤6:=ok.le
 omega
theorem impl_fitting (t:List Int):Call F.impl_fitting [slc t] (.agg (enc (if 24 < t.length then (⟨2,[]⟩:TermResult) else ⟨0,t⟩))):=by
 refine call_of rfl 0 ((impl_fitting.ev _ _).trans ?_)
 simp only [evz,Nat.reduceLT,gt_iff_lt]
 by_cases h:24 < t.length
 · have h':(24:Int) < t.length:=by omega
   simp only [h,h',evz,Nat.reduceLT,enc_TermResult,slc_nil]
 · have h':¬ (24:Int) < t.length:=by omega
   simp only [h,h',evz,Nat.reduceLT,enc_TermResult]
theorem spec_l3Place (t:List Int) (n:Int) (hl:t.length≤4294967296):Call F.spec_l3Place [slc t,.int .i64 n] (.bool (inR n 0 (t.length - 1))):=by
 refine call_of rfl 0 ((spec_l3Place.ev _ _ _).trans ?_)
 simp only [evz,Nat.reduceLT,wrap64 (x:=(t.length:Int) - 1) (by omega),(spec_l1In _ _ _).eq]
theorem getE {es:List Equation} {k:Nat} (h:k < es.length):es.getD k ⟨[],[]⟩=es[k]:=by rw [List.getD_eq_getElem?_getD,List.getElem?_eq_getElem h]; rfl
end Ev.Ty
end
section
namespace Ev.Ty
open Go Ev
open Enc (enc)
open Sm (sm)
set_option linter.unusedSimpArgs false
set_option linter.unusedVariables false
theorem skip_append {a:Int→Nat}:∀ {x r q:List Int} {k:Nat},skip a k x=some q→skip a k (x++r)=some (q++r)
 | x,r,q,0,h=>by rw [skip_zero] at h; cases h; rw [skip_zero]
 | [],r,q,k+1,h=>by cases h
 | n::x,r,q,k+1,h=>by
   rw [skip] at h
   rw [List.cons_append,skip]
   exact skip_append h
theorem skip_cut {a:Int→Nat}:∀ {x r:List Int} {k:Nat},skip a k (x++r)=some r→skip a k x=some []
 | x,r,0,h=>by
   rw [skip_zero] at h
   have:=congrArg List.length (Option.some.inj h)
   rw [List.length_append] at this
   have:x=[]:=List.eq_nil_of_length_eq_zero (by omega)
   subst this; rfl
 | [],r,k+1,h=>by
   obtain ⟨p,hp,hk⟩:=skip_suffix h
   have h1:=congrArg List.length hp
   rw [List.nil_append,List.length_append] at h1
   have h2:=hk (by omega)
   omega
 | n::x,r,k+1,h=>by
   rw [List.cons_append,skip] at h
   rw [skip]
   exact skip_cut h
theorem skip_nil {a:Int→Nat} {m:Nat} {r:List Int} (h:skip a m []=some r):m=0∧r=[]:=by
 cases m with
 | zero=>rw [skip_zero] at h; cases h; exact ⟨rfl,rfl⟩
 | succ m=>cases h
theorem sub_split {l:List Symbol} {t:List Int} (ht:TermOk l t) {p:Nat} (hp:p < t.length):t.drop p=subAt l t p++t.drop (endAt l t p)∧(subAt l t p).length=endAt l t p - p∧skip (ar l) 1 (t.drop p)=some (t.drop (endAt l t p)):=by
 obtain ⟨h1,h2,_⟩:=endAt_spec ht hp
 have hl:(subAt l t p).length=endAt l t p - p:=by simp [subAt]; omega
 refine ⟨?_,hl,?_⟩
 · have e:t.drop (endAt l t p)=(t.drop p).drop (endAt l t p - p):=by rw [List.drop_drop]; congr 1; omega
   have e2:subAt l t p=(t.drop p).take (endAt l t p - p):=by unfold subAt; rw [List.drop_take]
   rw [e,e2,List.take_append_drop]
 · obtain ⟨q,hq⟩:=skip_inner (p:=p) ht.skip (by simpa using hp)
   have:=(skip_at hq).1
   rw [hq]
   unfold endAt
   rw [hq]
   exact congrArg some this
theorem subAt_ok {l:List Symbol} {t:List Int} (ht:TermOk l t) {p:Nat} (hp:p < t.length):TermOk l (subAt l t p):=by
 obtain ⟨h1,h2,h3⟩:=sub_split ht hp
 obtain ⟨h4,h5,_⟩:=endAt_spec ht hp
 have:=ht.le
 refine ⟨by omega,by omega,fun n hn=>ht.node n ?_,?_⟩
 · exact List.mem_of_mem_drop (h1 ▸ List.mem_append_left _ hn)
 · rw [h1] at h3; exact skip_cut h3
theorem sub_place {l:List Symbol} {t:List Int} (ht:TermOk l t) {p:Nat} (hp:p < t.length) {i:Nat} (hi:i < (subAt l t p).length) :
 p+i < t.length∧(subAt l t p).getD i 0=t.getD (p+i) 0∧endAt l t (p+i)=p+endAt l (subAt l t p) i∧subAt l (subAt l t p) i=subAt l t (p+i):=by
 obtain ⟨h1,h2,h3⟩:=sub_split ht hp
 obtain ⟨h4,h5,_⟩:=endAt_spec ht hp
 have hu:=subAt_ok ht hp
 have hpi:p+i < t.length:=by omega
 obtain ⟨h6,h7,h8⟩:=sub_split hu hi
 obtain ⟨k1,k2,k3⟩:=sub_split ht hpi
 obtain ⟨h9,h10,_⟩:=endAt_spec hu hi
 obtain ⟨k4,k5,_⟩:=endAt_spec ht hpi
 have hd:t.drop (p+i)=(subAt l t p).drop i++t.drop (endAt l t p):=by
  rw [← List.drop_drop,h1,List.drop_append_of_le_length (by omega)]
 have e1:endAt l t (p+i)=p+endAt l (subAt l t p) i:=by
  have h:=skip_append (r:=t.drop (endAt l t p)) h8
  rw [← hd,k3] at h
  have:=congrArg List.length (Option.some.inj h)
  simp only [List.length_drop,List.length_append] at this
  omega
 refine ⟨hpi,?_,e1,?_⟩
 · have:=congrArg (fun x=>x[0]?) hd
   simp only [List.getElem?_drop,Nat.add_zero] at this
   rw [List.getD_eq_getElem?_getD,List.getD_eq_getElem?_getD,this,List.getElem?_append_left (by simp; omega),List.getElem?_drop,Nat.add_zero]
 · have q1:subAt l t (p+i)=(t.drop (p+i)).take (endAt l t (p+i) - (p+i)):=by unfold subAt; rw [List.drop_take]
   have q2:subAt l (subAt l t p) i=((subAt l t p).drop i).take (endAt l (subAt l t p) i - i):=by
    show ((subAt l t p).take (endAt l (subAt l t p) i)).drop i=_
    rw [List.drop_take]
   rw [q1,q2,hd,e1,List.take_append_of_le_length (by simp; omega)]
   congr 1; omega
abbrev Bnd:=List Int × List (List Int)
def insAt (vs:List Int) (v:Int):Nat:=(vs.takeWhile fun x=>decide (x < v)).length
def ins {α:Type} (l:List α) (i:Nat) (x:α):List α:=l.take i++x::l.drop i
def bput (b:Bnd) (v:Int) (t:List Int):Bnd:=(ins b.1 (insAt b.1 v) v,ins b.2 (insAt b.1 v) t)
theorem insAt_le (vs:List Int) (v:Int):insAt vs v≤vs.length:=by
 have:=(List.takeWhile_sublist (l:=vs) (p:=fun x=>decide (x < v))).length_le
 exact this
theorem insAt_lt:∀ (vs:List Int) (v:Int) (i:Nat) (h:i < insAt vs v) (h':i < vs.length),vs[i] < v
 | [],v,i,h,h'=>by simp at h'
 | x::vs,v,i,h,h'=>by
   unfold insAt at h
   rw [List.takeWhile_cons] at h
   by_cases hx:x < v
   · rw [if_pos (by simpa using hx)] at h
     cases i with
     | zero=>exact hx
     | succ i=>exact insAt_lt vs v i (by simpa [insAt] using h) (by simpa using h')
   · rw [if_neg (by simpa using hx)] at h; simp at h
theorem insAt_stop:∀ (vs:List Int) (v:Int) (h':insAt vs v < vs.length),¬ vs[insAt vs v] < v
 | [],v,h'=>by simp at h'
 | x::vs,v,h'=>by
   by_cases hx:x < v
   · have e:insAt (x::vs) v=insAt vs v+1:=by unfold insAt; rw [List.takeWhile_cons,if_pos (by simpa using hx)]; rfl
     have:=insAt_stop vs v (by rw [e] at h'; simpa using h')
     simpa [e] using this
   · have e:insAt (x::vs) v=0:=by unfold insAt; rw [List.takeWhile_cons,if_neg (by simpa using hx)]; rfl
     simpa [e] using hx
theorem ins_length {α:Type} (l:List α) (i:Nat) (x:α) (h:i≤l.length):(ins l i x).length=l.length+1:=by simp [ins]; omega
theorem mem_ins {α:Type} {l:List α} {i:Nat} {x y:α} (h:y∈ins l i x):y=x∨y∈l:=by
 unfold ins at h
 rcases List.mem_append.1 h with h | h
 · exact .inr (List.mem_of_mem_take h)
 · rcases List.mem_cons.1 h with h | h
   · exact .inl h
   · exact .inr (List.mem_of_mem_drop h)
structure MB (l:List Symbol) (b:Bnd) (k:Nat):Prop where
 len:b.1.length=b.2.length
 le:b.1.length≤k
 var:∀ v∈b.1,0≤v∧v≤11
 tm:∀ t∈b.2,TermOk l t
theorem MB.nil (l:List Symbol):MB l ([],[]) 0:=⟨rfl,Nat.le_refl _,by simp,by simp⟩
theorem MB.up {l:List Symbol} {b:Bnd} {k k':Nat} (h:MB l b k) (hk:k≤k'):MB l b k':=⟨h.len,Nat.le_trans h.le hk,h.var,h.tm⟩
theorem MB.put {l:List Symbol} {b:Bnd} {k:Nat} (h:MB l b k) {v:Int} (hv:0≤v∧v≤11) {t:List Int} (ht:TermOk l t):MB l (bput b v t) (k+1):=by
 have hi:=insAt_le b.1 v
 have hlen:=h.len
 have:=h.le
 refine ⟨?_,?_,fun x hx => ?_,fun x hx => ?_⟩
 · unfold bput; rw [ins_length _ _ _ hi,ins_length _ _ _ (by omega)]; omega
 · unfold bput; rw [ins_length _ _ _ hi]; omega
 · rcases mem_ins hx with rfl | hx
   · exact hv
   · exact h.var x hx
 · rcases mem_ins hx with rfl | hx
   · exact ht
   · exact h.tm x hx
theorem MB.ok {l:List Symbol} {b:Bnd} {k:Nat} (h:MB l b k) (hk:k≤24):BindOk b.1 b.2 :=
 ⟨h.len,by have:=h.le; omega,fun v hv=>(h.var v hv).1,fun t ht=>⟨(h.tm t ht).pos,by have:=(h.tm t ht).le; omega⟩⟩
theorem bindOf_none {vs:List Int} {ts:List (List Int)} (hl:vs.length=ts.length) {v:Int} (h:bindOf vs ts v=none):v∉vs:=fun hv=>by
 unfold bindOf at h
 rcases idx_spec (fun x:Int=>decide (x=v)) vs with ⟨h1,hno⟩ | ⟨i,hi,h1,_,_⟩
 · have:=hno v hv; simp at this
 · rw [h1,if_neg (by omega),Int.toNat_natCast,List.getElem?_eq_getElem (by omega)] at h
   cases h
def mgo (l:List Symbol) (t:List Int):List Int→Bnd→Nat→Option (Bnd × Nat)
 | [],b,p=>some (b,p)
 | n::q,b,p =>
   if t.length≤p then none
   else if 0≤n then (if t.getD p 0=n then mgo l t q b (p+1) else none)
   else match bindOf b.1 b.2 (-1 - n) with
    | none=>mgo l t q (bput b (-1 - n) (subAt l t p)) (p+(subAt l t p).length)
    | some o=>if o=subAt l t p then mgo l t q b (p+(subAt l t p).length) else none
structure Both (l:List Symbol) (t q:List Int) (p:Nat) (r:List Int):Prop where
 both:∃ m,skip (ar l) m q=some []∧skip (ar l) m (t.drop p)=some r
theorem Both.start {l:List Symbol} {t q:List Int} (ht:TermOk l t) (hq:TermOk l q) {p:Nat} (hp:p < t.length):Both l t q p (t.drop (endAt l t p)):=⟨1,hq.skip,(sub_split ht hp).2.2⟩
theorem Both.stop {l:List Symbol} {t:List Int} {p:Nat} {r:List Int} (h:Both l t [] p r):t.drop p=r:=by
 obtain ⟨m,h1,h2⟩:=h.both
 obtain ⟨rfl,_⟩:=skip_nil h1
 rw [skip_zero] at h2
 exact Option.some.inj h2
theorem Both.lt {l:List Symbol} {t q:List Int} {n:Int} {p:Nat} {r:List Int} (h:Both l t (n::q) p r):p < t.length:=by
 obtain ⟨m,h1,h2⟩:=h.both
 cases m with
 | zero=>rw [skip_zero] at h1; cases h1
 | succ m =>
   rcases Nat.lt_or_ge p t.length with h | h
   · exact h
   · rw [List.drop_of_length_le h] at h2; cases h2
theorem Both.node {l:List Symbol} {t q:List Int} {n:Int} {p:Nat} {r:List Int} (h:Both l t (n::q) p r) (hn:t.getD p 0=n):Both l t q (p+1) r:=by
 have hp:=h.lt
 obtain ⟨m,h1,h2⟩:=h.both
 cases m with
 | zero=>rw [skip_zero] at h1; cases h1
 | succ m =>
   rw [List.drop_eq_getElem_cons hp,skip,← getD_at hp,hn] at h2
   rw [skip] at h1
   exact ⟨_,h1,h2⟩
theorem Both.var {l:List Symbol} {t q:List Int} {n:Int} {p:Nat} {r:List Int} (ht:TermOk l t) (h:Both l t (n::q) p r) (hn:n < 0):Both l t q (p+(subAt l t p).length) r:=by
 have hp:=h.lt
 obtain ⟨h3,h4,h5⟩:=sub_split ht hp
 obtain ⟨h6,h7,_⟩:=endAt_spec ht hp
 obtain ⟨m,h1,h2⟩:=h.both
 cases m with
 | zero=>rw [skip_zero] at h1; cases h1
 | succ m =>
   rw [skip,ar_neg l hn,Nat.add_zero] at h1
   rw [show m+1=1+m by omega,skip_add,h5] at h2
   refine ⟨m,h1,?_⟩
   rw [h4,show p+(endAt l t p - p)=endAt l t p by omega]
   exact h2
theorem mgo_sub {l:List Symbol} {t:List Int} (ht:TermOk l t) {p:Nat} (hp:p < t.length):∀ (q:List Int) (b:Bnd) (i:Nat),Both l (subAt l t p) q i [] →
 mgo l t q b (p+i)=(mgo l (subAt l t p) q b i).map fun x=>(x.1,p+x.2)
 | [],b,i,h=>rfl
 | n::q,b,i,h=>by
   have hu:=subAt_ok ht hp
   have hi:=h.lt
   obtain ⟨h1,h2,h3,h4⟩:=sub_place ht hp hi
   have n1:¬ t.length≤p+i:=by omega
   have n2:¬ (subAt l t p).length≤i:=by omega
   rw [mgo,mgo,if_neg n1,if_neg n2,h2,h4]
   by_cases hn:0≤n
   · rw [if_pos hn,if_pos hn]
     by_cases e:t.getD (p+i) 0=n
     · rw [if_pos e,if_pos e]
       exact mgo_sub ht hp q b (i+1) (h.node (by rw [h2,e]))
     · rw [if_neg e,if_neg e]; rfl
   · rw [if_neg hn,if_neg hn]
     have hv:=h.var hu (by omega)
     rw [h4] at hv
     cases bindOf b.1 b.2 (-1 - n) with
     | none =>
       have:=mgo_sub ht hp q (bput b (-1 - n) (subAt l t (p+i))) _ hv
       rw [← Nat.add_assoc] at this
       exact this
     | some o =>
       show (if o=_ then _ else none)=Option.map _ (if o=_ then _ else none)
       by_cases e:o=subAt l t (p+i)
       · rw [if_pos e,if_pos e]
         have:=mgo_sub ht hp q b _ hv
         rw [← Nat.add_assoc] at this
         exact this
       · rw [if_neg e,if_neg e]; rfl
theorem mgo_end {l:List Symbol} {t:List Int} (ht:TermOk l t) {r:List Int}:∀ (q:List Int) (b:Bnd) (p k:Nat),Both l t q p r→p≤t.length→MB l b k→k+q.length≤24→(∀ n∈q,nodeOk l n=true)→∀ x,mgo l t q b p=some x→t.drop x.2=r∧x.2≤t.length∧MB l x.1 (k+q.length)
 | [],b,p,k,h,hp,hb,hk,hq,x,hx=>by
   cases hx
   exact ⟨h.stop,hp,by simpa using hb⟩
 | n::q,b,p,k,h,hp,hb,hk,hq,x,hx=>by
   have hlt:=h.lt
   obtain ⟨h6,h7,_⟩:=endAt_spec ht hlt
   have hs:=(sub_split ht hlt).2.1
   rw [mgo,if_neg (by omega)] at hx
   rw [List.length_cons] at hk ⊢
   have e0:k+1+q.length=k+(q.length+1):=by omega
   by_cases hn:0≤n
   · rw [if_pos hn] at hx
     split at hx
     · rename_i e
       have:=mgo_end ht q b (p+1) (k+1) (h.node e) (by omega) (hb.up (by omega)) (by omega) (fun n hn=>hq n (List.mem_cons_of_mem _ hn)) x hx
       rw [e0] at this; exact this
     · cases hx
   · rw [if_neg hn] at hx
     have hnode:=nodeOk_iff.1 (hq n (by simp))
     split at hx
     · have:=mgo_end ht q _ _ (k+1) (h.var ht (by omega)) (by omega) (hb.put (v := -1 - n) (by omega) (subAt_ok ht hlt)) (by omega) (fun n hn=>hq n (List.mem_cons_of_mem _ hn)) x hx
       rw [e0] at this; exact this
     · split at hx
       · have:=mgo_end ht q b _ (k+1) (h.var ht (by omega)) (by omega) (hb.up (by omega)) (by omega) (fun n hn=>hq n (List.mem_cons_of_mem _ hn)) x hx
         rw [e0] at this; exact this
       · cases hx
def matchAt (l:List Symbol) (q t:List Int) (p:Nat):Option Bnd:=(mgo l t q ([],[]) p).map (·.1)
theorem matchAt_sub {l:List Symbol} {q t:List Int} (hq:TermOk l q) (ht:TermOk l t) {p:Nat} (hp:p < t.length):matchAt l q (subAt l t p) 0=matchAt l q t p:=by
 have hu:=subAt_ok ht hp
 have hb:=Both.start hu hq (p:=0) (by have:=hu.pos; omega)
 have he:t.drop p=subAt l t p++t.drop (endAt l t p):=(sub_split ht hp).1
 have e0:(subAt l t p).drop (endAt l (subAt l t p) 0)=[]:=by
  have:=(sub_split hu (p:=0) (by have:=hu.pos; omega)).2.2
  rw [List.drop_zero,hu.skip] at this
  exact (Option.some.inj this).symm
 rw [e0] at hb
 have:=mgo_sub ht hp q ([],[]) 0 hb
 unfold matchAt
 rw [Nat.add_zero] at this
 rw [this]
 cases mgo l (subAt l t p) q ([],[]) 0 <;> rfl
theorem matchAt_ok {l:List Symbol} {q t:List Int} (hq:TermOk l q) (ht:TermOk l t) {p:Nat} (hp:p < t.length) {b:Bnd} (h:matchAt l q t p=some b):MB l b q.length:=by
 unfold matchAt at h
 rw [Option.map_eq_some_iff] at h
 obtain ⟨x,hx,rfl⟩:=h
 have:=(mgo_end ht q ([],[]) p 0 (Both.start ht hq hp) (by omega) (MB.nil l) (by have:=hq.le; omega) hq.node x hx).2.2
 simpa using this
end Ev.Ty
end
section
namespace Ev.Ty
section
variable {α:Type} (lt:α→α→Bool)
variable {lt}
end
end Ev.Ty
end
section
namespace Ev.Ty
open Go Ev
set_option linter.unusedSimpArgs false
set_option linter.unusedVariables false
namespace Tm
def args:Tm→List Tm
 | v _=>[]
 | k _=>[]
 | u _ x=>[x]
 | b _ x y=>[x,y]
def size:Tm→Nat
 | v _=>1
 | k _=>1
 | u _ x=>x.size+1
 | b _ x y=>x.size+y.size+1
theorem args_size {p t:Tm} (h:p∈t.args):p.size < t.size:=by
 cases t with
 | v n=>cases h
 | k n=>cases h
 | u n x=>rw [List.mem_singleton.1 h]; exact Nat.lt_succ_self _
 | b n x y =>
   rcases List.mem_cons.1 h with rfl | h
   · show p.size < p.size+y.size+1; omega
   · rw [List.mem_singleton.1 h]; show y.size < x.size+y.size+1; omega
def gr (a:Int→Nat):Tm→Prop
 | v _=>False
 | k n=>0≤n∧a n=0
 | u n x=>0≤n∧a n=1∧x.gr a
 | b n x y=>0≤n∧a n=2∧x.gr a∧y.gr a
variable {a:Int→Nat}
theorem gr.args {t p:Tm} (h:t.gr a) (hp:p∈t.args):p.gr a:=by
 cases t with
 | v n=>cases h
 | k n=>cases hp
 | u n x=>rw [List.mem_singleton.1 hp]; exact h.2.2
 | b n x y =>
   rcases List.mem_cons.1 hp with rfl | hp
   · exact h.2.2.1
   · rw [List.mem_singleton.1 hp]; exact h.2.2.2
theorem gr.ok:∀ {t:Tm},t.gr a→t.ok a
 | .v _,h=>h.elim
 | .k _,h=>h
 | .u _ _,h=>⟨h.1,h.2.1,h.2.2.ok⟩
 | .b _ _ _,h=>⟨h.1,h.2.1,h.2.2.1.ok,h.2.2.2.ok⟩
theorem gr.head {t:Tm} (h:t.gr a):0≤t.head∧t.args.length=a t.head:=by
 cases t with
 | v n=>cases h
 | k n=>exact ⟨h.1,h.2.symm⟩
 | u n x=>exact ⟨h.1,h.2.1.symm⟩
 | b n x y=>exact ⟨h.1,h.2.1.symm⟩
theorem ok.args {t p:Tm} (h:t.ok a) (hp:p∈t.args):p.ok a:=by
 cases t with
 | v n=>cases hp
 | k n=>cases hp
 | u n x=>rw [List.mem_singleton.1 hp]; exact h.2.2
 | b n x y =>
   rcases List.mem_cons.1 hp with rfl | hp
   · exact h.2.2.1
   · rw [List.mem_singleton.1 hp]; exact h.2.2.2
theorem ok.len {t:Tm} (ha:∀ n,n < 0→a n=0) (h:t.ok a):t.args.length=a t.head:=by
 cases t with
 | v n=>exact (ha n h).symm
 | k n=>exact h.2.symm
 | u n x=>exact h.2.1.symm
 | b n x y=>exact h.2.1.symm
theorem ok.head {t p:Tm} (h:t.ok a) (hp:p∈t.args):0≤t.head:=by
 cases t with
 | v n=>cases hp
 | k n=>cases hp
 | u n x=>exact h.1
 | b n x y=>exact h.1
theorem args_flat {t p:Tm} (hp:p∈t.args) {n:Int} (hn:n∈p.flat):n∈t.flat:=by
 cases t with
 | v m=>cases hp
 | k m=>cases hp
 | u m x=>rw [List.mem_singleton.1 hp] at hn; exact List.mem_cons_of_mem _ hn
 | b m x y =>
   rcases List.mem_cons.1 hp with rfl | hp
   · exact List.mem_cons_of_mem _ (List.mem_append_left _ hn)
   · rw [List.mem_singleton.1 hp] at hn; exact List.mem_cons_of_mem _ (List.mem_append_right _ hn)
end Tm
open Tm
inductive G (r:Int→Int):Tm→Tm→Prop
 | eq {s p}:p∈s.args→G r s p
 | sub {s t p}:p∈s.args→G r p t→G r s t
 | big {s t}:0≤s.head→0≤t.head→r t.head < r s.head→(∀ q,q∈t.args→G r s q)→G r s t
 | lex {s t A B C x y}:0≤s.head→s.head=t.head→(∀ q,q∈t.args→G r s q)→s.args=A++x::B→t.args=A++y::C→G r x y→G r s t
namespace G
variable {r:Int→Int}
theorem arg {s t q:Tm} (h:G r s t) (hq:q∈t.args):G r s q:=by
 induction h with
 | eq hp=>exact .sub hp (.eq hq)
 | sub hp _ ih=>exact .sub hp (ih hq)
 | big _ _ _ h=>exact h q hq
 | lex _ _ h _ _ _=>exact h q hq
theorem trans:∀ (n:Nat) {s t u:Tm},s.size+t.size+u.size≤n→G r s t→G r t u→G r s u:=by
 intro n
 induction n with
 | zero=>intro s t u hn h1 h2; cases s <;> simp [Tm.size] at hn
 | succ n ih =>
   intro s t u hn h1 h2
   cases h1 with
   | eq hp=>exact .sub hp h2
   | sub hp h1 =>
     have:=args_size hp
     exact .sub hp (ih (by omega) h1 h2)
   | big z1 z2 hr hq =>
     have h1:G r s t := .big z1 z2 hr hq
     cases h2 with
     | eq hu=>exact hq _ hu
     | sub hp h2 =>
       have:=args_size hp
       exact ih (by omega) (hq _ hp) h2
     | big _ z3 hr2 hq2=>exact .big z1 z3 (Int.lt_trans hr2 hr) fun w hw=>ih (by have:=args_size hw; omega) h1 (hq2 w hw)
     | lex z3 he hq2 _ _ _=>exact .big z1 (he ▸ z3) (he ▸ hr) fun w hw=>ih (by have:=args_size hw; omega) h1 (hq2 w hw)
   | @lex _ _ A B C x y z1 he hq e1 e2 hxy =>
     have h1:G r s t := .lex z1 he hq e1 e2 hxy
     cases h2 with
     | eq hu=>exact hq _ hu
     | sub hp h2 =>
       have:=args_size hp
       exact ih (by omega) (hq _ hp) h2
     | big _ z3 hr2 hq2=>exact .big z1 z3 (by rw [he]; exact hr2) fun w hw=>ih (by have:=args_size hw; omega) h1 (hq2 w hw)
     | @lex _ _ A' B' C' x' y' z3 he2 hq2 e3 e4 hxy2 =>
       have hall:∀ w,w∈u.args→G r s w:=fun w hw=>ih (by have:=args_size hw; omega) h1 (hq2 w hw)
       have hx:x.size < s.size:=args_size (by rw [e1]; simp)
       have hy:y.size < t.size:=args_size (by rw [e2]; simp)
       have hy':y'.size < u.size:=args_size (by rw [e4]; simp)
       rcases List.append_eq_append_iff.1 (e2.symm.trans e3) with ⟨D,hA,hD⟩ | ⟨D,hA,hD⟩
       · cases D with
         | nil =>
           rw [List.append_nil] at hA
           have hD:y=x'∧C=B':=by simpa using hD
           subst hA
           refine .lex z1 (he.trans he2) hall e1 e4 (ih (by omega) hxy (hD.1 ▸ hxy2))
         | cons d D =>
           have hD:y=d∧C=D++x'::B':=by simpa using hD
           rw [hA,List.append_assoc] at e4
           rw [← hD.1] at e4
           exact .lex z1 (he.trans he2) hall e1 e4 hxy
       · cases D with
         | nil =>
           rw [List.append_nil] at hA
           have hD:x'=y∧B'=C:=by simpa using hD
           subst hA
           refine .lex z1 (he.trans he2) hall e1 e4 (ih (by omega) hxy (hD.1 ▸ hxy2))
         | cons d D =>
           have hD:x'=d∧B'=D++y::C:=by simpa using hD
           rw [hA,List.append_assoc] at e1
           rw [← hD.1] at e1
           exact .lex z1 (he.trans he2) hall e1 e4 hxy2
theorem var {a:Int→Nat} {n:Int} (hn:n < 0):∀ (m:Nat) {x:Tm},x.size≤m→x.ok a→(G r x (.v n)↔0≤x.head∧n∈x.flat):=by
 intro m
 induction m with
 | zero=>intro x hm _; cases x <;> simp [Tm.size] at hm
 | succ m ih =>
   intro x hm hx
   have up:∀ p,p∈x.args→n∈p.flat→G r x (.v n):=fun p hp hnp=>by
    have hpo:=hx.args hp
    by_cases h0:0≤p.head
    · exact .sub hp ((ih (by have:=args_size hp; omega) hpo).2 ⟨h0,hnp⟩)
    · cases p with
      | v k=>rw [List.mem_singleton.1 hnp]; exact .eq hp
      | k k=>exact absurd hpo.1 h0
      | u k y=>exact absurd hpo.1 h0
      | b k y z=>exact absurd hpo.1 h0
   constructor
   · intro h
     cases h with
     | eq hp=>exact ⟨hx.head hp,args_flat hp (List.mem_singleton.2 rfl)⟩
     | sub hp h=>exact ⟨hx.head hp,args_flat hp ((ih (by have:=args_size hp; omega) (hx.args hp)).1 h).2⟩
     | big _ z _ _=>exact absurd z (by show ¬ 0≤n; omega)
     | lex z e _ _ _ _ =>
       have e:x.head=n:=e
       omega
   · rintro ⟨h1,h2⟩
     cases x with
     | v k=>have h1:0≤k:=h1; have hx:k < 0:=hx; omega
     | k k =>
       have h1:0≤k:=h1
       have:=List.mem_singleton.1 h2
       omega
     | u k y =>
       have h1:0≤k:=h1
       rcases List.mem_cons.1 h2 with e | h2
       · omega
       · exact up y (List.mem_singleton.2 rfl) h2
     | b k y z =>
       have h1:0≤k:=h1
       rcases List.mem_cons.1 h2 with e | h2
       · omega
       · rcases List.mem_append.1 h2 with h2 | h2
         · exact up y (List.mem_cons_self ..) h2
         · exact up z (List.mem_cons_of_mem _ (List.mem_singleton.2 rfl)) h2
variable {a:Int→Nat}
end G
end Ev.Ty
end
section
namespace Ev.Ty
open Go Ev
open Tm
set_option linter.unusedSimpArgs false
set_option linter.unusedVariables false
inductive F2 {α β:Type} (R:α→β→Prop):List α→List β→Prop
 | nil:F2 R [] []
 | cons {a b A B}:R a b→F2 R A B→F2 R (a::A) (b::B)
theorem F2.any {α β:Type} {R:α→β→Prop} {f:α→Bool} {P:β→Prop} {A:List α} {B:List β} (h:F2 R A B) (hf:∀ a b,R a b→b∈B→(f a=true↔P b)):A.any f=true↔∃ b,b∈B∧P b:=by
 induction h with
 | nil=>simp
 | @cons a b A B hr _ ih =>
   rw [List.any_cons,Bool.or_eq_true,hf a b hr (List.mem_cons_self ..),ih fun a b hr hb=>hf a b hr (List.mem_cons_of_mem _ hb)]
   constructor
   · rintro (h | ⟨b',h1,h2⟩)
     · exact ⟨b,List.mem_cons_self .., h⟩
     · exact ⟨b',List.mem_cons_of_mem _ h1,h2⟩
   · rintro ⟨b',h1,h2⟩
     rcases List.mem_cons.1 h1 with rfl | h1
     · exact .inl h2
     · exact .inr ⟨b',h1,h2⟩
def At (l:List Symbol) (t:List Int) (i:Nat) (x:Tm):Prop:=x.ok (ar l)∧∃ r,t.drop i=x.flat++r
theorem At.facts {l:List Symbol} {t:List Int} {i:Nat} {x:Tm} (h:At l t i x):i < t.length∧t.getD i 0=x.head∧endAt l t i=i+x.flat.length∧subAt l t i=x.flat:=by
 obtain ⟨hx,r,h⟩:=h
 obtain ⟨h1,h2,h3⟩:=at_head h
 have hs:skip (ar l) 1 (t.drop i)=some r:=by
  rw [h,skip_flat (fun n hn=>ar_neg l hn) x r 0 hx,skip_zero]
 have hl:(t.drop i).length=x.flat.length+r.length:=by rw [h,List.length_append]
 rw [List.length_drop] at hl
 have he:endAt l t i=i+x.flat.length:=by
  unfold endAt
  rw [hs]
  show t.length - r.length=_
  omega
 refine ⟨h1,?_,he,?_⟩
 · rw [List.getD_eq_getElem?_getD,h2]; rfl
 · unfold subAt
   rw [he,List.drop_take,Nat.add_sub_cancel_left,h,List.take_left]
theorem At.next {l:List Symbol} {t:List Int} {i:Nat} {n:Int} {x:Tm} {r:List Int} (hx:x.ok (ar l)) (h:t.drop i=n::(x.flat++r)):At l t (i+1) x:=⟨hx,r,by
 rw [← List.drop_drop,h]; rfl⟩
theorem At.args {l:List Symbol} {t:List Int} {i:Nat} {x:Tm} (h:At l t i x):F2 (At l t) (starts l t i) x.args:=by
 obtain ⟨_,h2,_,_⟩:=h.facts
 obtain ⟨hx,r,h⟩:=h
 unfold starts
 rw [h2,← hx.len (fun n hn=>ar_neg l hn)]
 cases x with
 | v n=>exact .nil
 | k n=>exact .nil
 | u n x=>exact .cons (At.next hx.2.2 h) .nil
 | b n x y =>
   have h:t.drop i=n::(x.flat++(y.flat++r)):=by rw [h]; simp [Tm.flat]
   have a1:=At.next hx.2.2.1 h
   refine .cons a1 (.cons ⟨hx.2.2.2,r,?_⟩ .nil)
   rw [a1.facts.2.2.1,← List.drop_drop,← List.drop_drop,h]
   show (x.flat++(y.flat++r)).drop _=_
   rw [List.drop_left]
section
variable {l:List Symbol} {o a b:List Int}
end
def Closed (l:List Symbol) (t:List Int):Prop:=TermOk l t∧∀ n∈t,0≤n
theorem gr_of {a:Int→Nat}:∀ x:Tm,x.ok a→(∀ n∈x.flat,0≤n)→x.gr a
 | .v n,h,h2=>by have h:n < 0:=h; have:=h2 n (List.mem_singleton.2 rfl); omega
 | .k n,h,_=>h
 | .u n x,h,h2=>⟨h.1,h.2.1,gr_of x h.2.2 fun m hm=>h2 m (List.mem_cons_of_mem _ hm)⟩
 | .b n x y,h,h2=>⟨h.1,h.2.1,gr_of x h.2.2.1 fun m hm=>h2 m (List.mem_cons_of_mem _ (List.mem_append_left _ hm)),gr_of y h.2.2.2 fun m hm=>h2 m (List.mem_cons_of_mem _ (List.mem_append_right _ hm))⟩
theorem Closed.at {l:List Symbol} (ok:SigOk ⟨l⟩) {t:List Int} (h:Closed l t):∃ x,At l t 0 x∧t=x.flat∧x.gr (ar l):=by
 obtain ⟨x,hx,e⟩:=h.1.tree ok
 exact ⟨x,⟨hx,[],by simpa using e⟩,e,gr_of x hx (e ▸ h.2)⟩
section
variable {l:List Symbol} (ok:SigOk ⟨l⟩) {o:List Int} (ho:∀ n:Int,0≤n→n < l.length→n∈o)
include ok ho
end
end Ev.Ty
end
section
namespace Ev.Ty
open Go Ev
open Enc (enc)
open Sm (sm)
set_option linter.unusedSimpArgs false
set_option linter.unusedVariables false
def Drawn (code:List UInt8) (p c:Int) (P:T→Prop) (r:R):Prop:=∃ x p',r=some (x,[.agg [slc code,.int .i64 p']])∧p≤p'∧p'≤p+c∧P x
theorem drawn_of {code:List UInt8} {p c:Int} {P:T→Prop} {g:FuncId} {args:List T} (hx:X g=none) (n:Nat) (h:Drawn code p c P (callK prog A H LIM n g args)):Drawn code p c P (LIM g args):=by
 obtain ⟨x,p',e,h⟩:=h
 exact ⟨x,p',lim_of hx n e,h⟩
theorem Drawn.more {code:List UInt8} {p p1 c c1:Int} {P P1:T→Prop} {r:R} (h:Drawn code p1 c1 P1 r) (h1:p≤p1) (h2:p1+c1≤p+c) (hP:∀ x,P1 x→P x):Drawn code p c P r:=by
 obtain ⟨x,p',e,a,b,q⟩:=h
 exact ⟨x,p',e,by omega,by omega,hP x q⟩
theorem drawn_end {code:List UInt8} {p p' c:Int} {P:T→Prop} {x:T} (h1:p≤p'∧p'≤p+c) (h:P x):Drawn code p c P (some (x,[.agg [slc code,.int .i64 p']])):=⟨x,p',rfl,h1.1,h1.2,h⟩
theorem drawn_s {Q:R→Prop} {code:List UInt8} {p c:Int} {P:T→Prop} {r:R} {K:T × List T→R} (h:Drawn code p c P r)
 (k:∀ x p',p≤p'→p'≤p+c→P x→Q (K (x,[.agg [slc code,.int .i64 p']]))):Q (r.bind K):=by
 obtain ⟨x,p',rfl,a,b,q⟩:=h
 exact k x p' a b q
theorem draw_loop {σ:Type} {S:Nat→σ→R} {Q:R→Prop} (I:σ→Prop) (μ:σ→Nat) (step:∀ m s,I s→Q (S (m+1) s)∨∃ s',S (m+1) s=S m s'∧I s'∧μ s' < μ s):∀ f s,I s→μ s < f→Q (S f s):=by
 intro f
 induction f with
 | zero=>intro s _ h; omega
 | succ f ih =>
   intro s hi hm
   rcases step f s hi with h | ⟨s',e,hi',hm'⟩
   · exact h
   · rw [e]; exact ih s' hi' (by omega)
@[simp] theorem oBx_bx (c:List T):oBx (.bx c)=some c:=Eq.trans rfl rfl
theorem tmod_nn {a b:Int} (ha:0≤a) (hb:0 < b):0≤Int.tmod a b∧Int.tmod a b < b:=⟨Int.tmod_nonneg b ha,Int.tmod_lt_of_pos a hb⟩
abbrev src (code:List UInt8) (p:Int):T := .rref [slc code,.int .i64 p] 0
theorem u8_bound (b:UInt8):(0:Int)≤(b.toNat:Int)∧(b.toNat:Int) < 256:=⟨by omega,by have:=b.toNat_lt; omega⟩
section
variable {code:List UInt8} (hc:code.length≤2097152)
include hc
theorem at_idx {p:Int} (hp:0≤p) (hl:0 < code.length):∃ i:Nat,Int.tmod p (code.length:Int)=i∧i < code.length:=by
 obtain ⟨h1,h2⟩:=tmod_nn hp (show (0:Int) < (code.length:Int) by omega)
 exact ⟨(Int.tmod p (code.length:Int)).toNat,by omega,by omega⟩
theorem spec_l1Next (p n:Int) (hp:0≤p∧p≤1099511627776) :
 ∃ v:Int,LIM F.spec_l1Next [.rref [slc code,.int .i64 p] 0,.int .i64 n]=some (.int .i64 v,[.agg [slc code,.int .i64 (p+1)]])∧0≤v∧(1≤n→v < n):=by
 have e1:IntKind.wrap .i64 (p+1)=p+1:=wrap64 (by omega)
 have e2:IntKind.wrap .i64 (p+1 - 1)=p:=by rw [wrap64 (by omega)]; omega
 by_cases hn:n < 1
 · refine ⟨0,call2_of rfl 0 ((spec_l1Next.ev _ _ _ _).trans ?_),by omega,by omega⟩
   simp only [evz,Nat.reduceLT,hn,e1]
 rw [Int.not_lt] at hn
 have hn0:¬ n=0:=by omega
 by_cases hl:code.length=0
 · obtain ⟨q1,q2⟩:=tmod_nn (a:=p*7) (b:=n) (by omega) (by omega)
   refine ⟨Int.tmod (p*7) n,call2_of rfl 0 ((spec_l1Next.ev _ _ _ _).trans ?_),q1,fun _=>q2⟩
   have z:((code.length:Nat):Int)=0:=by omega
   have z1:¬ n < 1:=by omega
   simp only [evz,Nat.reduceLT,z1,z,hn0,e1,e2,wrap64 (x:=p*7) (by omega)]
 have z1:¬ n < 1:=by omega
 obtain ⟨i,hi,hil⟩:=at_idx hc hp.1 (by omega)
 obtain ⟨j,hj,hjl⟩:=at_idx (code:=code) hc (p:=p+1) (by omega) (by omega)
 have b1:=u8_bound code[i]
 have b2:=u8_bound code[j]
 have hd:0≤Int.tdiv p code.length∧Int.tdiv p code.length≤p:=⟨Int.tdiv_nonneg hp.1 (by omega),Int.tdiv_le_self _ hp.1⟩
 have d1:¬ ((code.length:Nat):Int)=0:=by omega
 generalize hk:Int.tdiv p code.length=d at hd
 have w1:IntKind.wrap .i64 d=d:=wrap64 (by omega)
 have w2:IntKind.wrap .i64 (d*37)=d*37:=wrap64 (by omega)
 have w3:IntKind.wrap .i64 (code[i].toNat:Int)=(code[i].toNat:Int):=wrap64 (by omega)
 have w4:IntKind.wrap .i64 (code[j].toNat:Int)=(code[j].toNat:Int):=wrap64 (by omega)
 have w5:IntKind.wrap .i64 ((code[i].toNat:Int)+d*37)=(code[i].toNat:Int)+d*37:=wrap64 (by omega)
 have w6:IntKind.wrap .i64 (((code[i].toNat:Int)+d*37)*251)=((code[i].toNat:Int)+d*37)*251:=wrap64 (by omega)
 have w7:IntKind.wrap .i64 ((code[j].toNat:Int)*13)=(code[j].toNat:Int)*13:=wrap64 (by omega)
 have w8:IntKind.wrap .i64 (((code[i].toNat:Int)+d*37)*251+(code[j].toNat:Int)*13)=((code[i].toNat:Int)+d*37)*251+(code[j].toNat:Int)*13:=wrap64 (by omega)
 have w9:IntKind.wrap .i64 (((code[i].toNat:Int)+d*37)*251+(code[j].toNat:Int)*13+p)=((code[i].toNat:Int)+d*37)*251+(code[j].toNat:Int)*13+p:=wrap64 (by omega)
 by_cases hbig:n > 200
 · obtain ⟨q1,q2⟩:=tmod_nn (a:=((code[i].toNat:Int)+d*37)*251+(code[j].toNat:Int)*13+p) (b:=n) (by omega) (by omega)
   refine ⟨_,call2_of rfl 0 ((spec_l1Next.ev _ _ _ _).trans ?_),q1,fun _=>q2⟩
   simp only [evz,Nat.reduceLT,z1,d1,hn0,e1,e2,hi,hil,hj,hjl,List.getElem?_eq_getElem,enc_u8,hbig,hk,w1,w2,w3,w4,w5,w6,w7,w8,w9]
 · obtain ⟨q1,q2⟩:=tmod_nn (a:=(code[i].toNat:Int)+d*37) (b:=n) (by omega) (by omega)
   refine ⟨_,call2_of rfl 0 ((spec_l1Next.ev _ _ _ _).trans ?_),q1,fun _=>q2⟩
   simp only [evz,Nat.reduceLT,z1,d1,hn0,e1,e2,hi,hil,hj,hjl,List.getElem?_eq_getElem,enc_u8,hbig,hk,w1,w2,w3,w4,w5,w6,w7,w8,w9]
theorem next_s {Q:R→Prop} {p n:Int} {K:T × List T→R} (hp:0≤p∧p≤1099511627776) (k:∀ v:Int,0≤v→(1≤n→v < n)→Q (K (.int .i64 v,[.agg [slc code,.int .i64 (p+1)]]))) :
 Q ((LIM F.spec_l1Next [.rref [slc code,.int .i64 p] 0,.int .i64 n]).bind K):=by
 obtain ⟨v,e,h1,h2⟩:=spec_l1Next hc p n hp
 rw [e]; exact k v h1 h2
theorem spec_l1Chance (p n:Int) (hp:0≤p∧p≤1099511627776):∃ b:Bool,LIM F.spec_l1Chance [.rref [slc code,.int .i64 p] 0,.int .i64 n]=some (.bool b,[.agg [slc code,.int .i64 (p+1)]]):=by
 obtain ⟨v,e,_⟩:=spec_l1Next hc p n hp
 exact ⟨decide (v=0),call2_of rfl 0 ((spec_l1Chance.ev _ _ _ _).trans (by simp only [evz,Nat.reduceLT,e]))⟩
theorem chance_s {Q:R→Prop} {p n:Int} {K:T × List T→R} (hp:0≤p∧p≤1099511627776) (k:∀ b:Bool,Q (K (.bool b,[.agg [slc code,.int .i64 (p+1)]]))) :
 Q ((LIM F.spec_l1Chance [.rref [slc code,.int .i64 p] 0,.int .i64 n]).bind K):=by
 obtain ⟨b,e⟩:=spec_l1Chance hc p n hp
 rw [e]; exact k b
theorem spec_l1Pick (p:Int) (l:List Int) {ts:List T} (hts:cells l=ts) (hl:l≠[]) (hp:0≤p∧p≤1099511627776) :
 ∃ v∈l,LIM F.spec_l1Pick [.rref [slc code,.int .i64 p] 0,.sl 1 ts]=some (.int .i64 v,[.agg [slc code,.int .i64 (p+1)]]):=by
 subst hts
 have h0:0 < l.length:=List.length_pos_iff.2 hl
 have hd:(cells l).length / 1=l.length:=cells_div rfl
 obtain ⟨v,e,h1,h2⟩:=spec_l1Next hc p (l.length:Int) hp
 obtain ⟨i,rfl⟩:∃ i:Nat,v=i:=⟨v.toNat,by omega⟩
 have hi:i < l.length:=by have:=h2 (by omega); omega
 refine ⟨l[i],List.getElem_mem hi,call2_of rfl 0 ((spec_l1Pick.ev _ _ _ _).trans ?_)⟩
 simp only [evz,Nat.reduceLT,e,hi,List.getElem?_eq_getElem,enc_int]
theorem pick_s {Q:R→Prop} {p:Int} (l:List Int) {ts:List T} {K:T × List T→R} (hts:cells l=ts) (hl:l≠[]) (hp:0≤p∧p≤1099511627776) (k:∀ v:Int,v∈l→Q (K (.int .i64 v,[.agg [slc code,.int .i64 (p+1)]]))) :
 Q ((LIM F.spec_l1Pick [.rref [slc code,.int .i64 p] 0,.sl 1 ts]).bind K):=by
 obtain ⟨v,hv,e⟩:=spec_l1Pick hc p l hts hl hp
 rw [e]; exact k v hv
omit hc in
theorem laws_lwBig:Call F.laws_lwBig [slc code] (.bool (decide ((code.length:Int) > 1048576))):=call_of rfl 0 ((laws_lwBig.ev _ _).trans (by simp only [evz,Nat.reduceLT]))
omit hc in
theorem spec_l1Source:LIM F.spec_l1Source [slc code]=some (.bx [slc code,.int .i64 0],[]):=call2_of rfl 0 (spec_l1Source.ev _ _)
end
end Ev.Ty
end
section
namespace Ev.Ty
open Go Ev
open Enc (enc)
open Sm (sm)
set_option linter.unusedSimpArgs false
set_option linter.unusedVariables false
set_option maxHeartbeats 1000000
structure Grown (l:List Symbol) (m:Nat) (vars:Int) (t:List Int):Prop where
 pos:1≤t.length
 le:t.length≤m
 node:∀ n∈t,(0≤n∧n < l.length)∨(-vars≤n∧n ≤ -1)
 tree:∃ x:Tm,x.ok (ar l)∧t=x.flat
theorem Grown.ok {l:List Symbol} {m:Nat} {vars:Int} {t:List Int} (h:Grown l m vars t) (hm:m≤24) (hv:vars≤12):TermOk l t:=by
 refine ⟨h.pos,Nat.le_trans h.le hm,fun n hn => ?_,?_⟩
 · rw [nodeOk_iff]; rcases h.node n hn with h | h
   · exact .inl h
   · exact .inr (by omega)
 · obtain ⟨x,hx,rfl⟩:=h.tree
   have:=Tm.skip_flat (a:=ar l) (fun n hn=>ar_neg l hn) x [] 0 hx
   rwa [List.append_nil] at this
section
variable {code:List UInt8} (hc:code.length≤2097152) {l:List Symbol} (ok:SigOk ⟨l⟩)
def TermS (code:List UInt8) (l:List Symbol) (p:Int) (m:Nat) (vars:Int) (r:R):Prop:=∃ t p',r=some (slc t,[.agg [slc code,.int .i64 p']])∧p≤p'∧p'≤p+3*(t.length:Int)∧Grown l m vars t
include hc ok
theorem l3_var (p q:Int) (m:Nat) (vars:Int) (hm:1≤m) (hv:1≤vars∧vars≤12) (hp:0≤p∧p≤q∧q≤p+2∧q≤1099511627776) :
 TermS code l p m vars ((LIM F.spec_l1Next [.rref [slc code,.int .i64 q] 0,.int .i64 vars]).bind fun r=>(oCons r.2).bind fun p2=>(oNil p2.2).bind fun _=>(oAgg p2.1).bind fun c3=>(oCons c3).bind fun p4=>(oSl 1 p4.1).bind fun c5=>(oCons p4.2).bind fun p6=>(oInt .i64 p6.1).bind fun n7=>(oNil p6.2).bind fun _=>(oInt .i64 r.1).bind fun n8=>some (.sl 1 [.int .i64 (IntKind.wrap .i64 ((-1:Int) - n8))],[.agg [.sl 1 (cells code),.int .i64 n7]])):=by
 refine next_s hc (by omega) fun v h1 h2 => ?_
 have h2:=h2 hv.1
 simp only [evz,Nat.reduceLT]
 rw [wrap64 (by omega)]
 exact ⟨[-1 - v],q+1,rfl,by omega,by simp; omega,⟨by simp,by simp; omega,fun n hn => .inr (by rw [List.mem_singleton.1 hn]; omega),.v (-1 - v),by show -1 - v < 0; omega,rfl⟩⟩
noncomputable def l3fin (l:List Symbol) (code:List UInt8) (m vars x4 p:Int):R :=
 (bif inB x4 ((cells l).length / 2) then (((cells l)[(((Int.toNat x4)*2)+1)]?).bind fun e71=>((oInt .i64 e71).bind fun n72=>(bif ((n72 == (1:Int))) then ((LIM F.spec_l3Draw [(.rref [(.sl 1 (cells code)),(.int .i64 p)] 0),(.rref [(.sl 2 (cells l))] 0),(.int .i64 (IntKind.wrap .i64 (m - (1:Int)))),(.int .i64 vars)]).bind fun r73=>((oCons r73.2).bind fun p74=>((oNil p74.2).bind fun _=>((oAgg p74.1).bind fun c75=>((oCons c75).bind fun p76=>((oSl 1 p76.1).bind fun c77=>((oCons p76.2).bind fun p78=>((oInt .i64 p78.1).bind fun n79=>((oNil p78.2).bind fun _=>((oSl 1 r73.1).bind fun c80=>(bif (c80).all T.scalar then (bif Nat.ble ((1+(c80).length)*8) (140737488355328*1) then some ((.sl 1 ([(.int .i64 x4)]++c80:List T)),[(.agg [(.sl 1 (cells code)),(.int .i64 n79)])]) else none) else none))))))))))) else (bif ((n72 == (2:Int))) then ((LIM F.spec_l3Draw [(.rref [(.sl 1 (cells code)),(.int .i64 p)] 0),(.rref [(.sl 2 (cells l))] 0),(.int .i64 (IntKind.wrap .i64 (m - (2:Int)))),(.int .i64 vars)]).bind fun r81=>((oCons r81.2).bind fun p82=>((oNil p82.2).bind fun _=>((oAgg p82.1).bind fun c83=>((oCons c83).bind fun p84=>((oSl 1 p84.1).bind fun c85=>((oCons p84.2).bind fun p86=>((oInt .i64 p86.1).bind fun n87=>((oNil p86.2).bind fun _=>((oSl 1 r81.1).bind fun c88=>(bif (c88).all T.scalar then (bif Nat.ble ((1+(c88).length)*8) (140737488355328*1) then ((LIM F.spec_l3Draw [(.rref [(.sl 1 (cells code)),(.int .i64 n87)] 0),(.rref [(.sl 2 (cells l))] 0),(.int .i64 (IntKind.wrap .i64 ((IntKind.wrap .i64 (m - (1:Int))) - ((((c88).length / 1):Nat):Int)))),(.int .i64 vars)]).bind fun r89=>((oCons r89.2).bind fun p90=>((oNil p90.2).bind fun _=>((oAgg p90.1).bind fun c91=>((oCons c91).bind fun p92=>((oSl 1 p92.1).bind fun c93=>((oCons p92.2).bind fun p94=>((oInt .i64 p94.1).bind fun n95=>((oNil p94.2).bind fun _=>((oSl 1 r89.1).bind fun c96=>(bif (c96).all T.scalar then (bif Nat.ble (((([(.int .i64 x4)]++c88:List T)).length+(c96).length)*8) (140737488355328*1) then some ((.sl 1 (([(.int .i64 x4)]++c88:List T)++c96:List T)),[(.agg [(.sl 1 (cells code)),(.int .i64 n95)])]) else none) else none))))))))))) else none) else none))))))))))) else some ((.sl 1 [(.int .i64 x4)]),[(.agg [(.sl 1 (cells code)),(.int .i64 p)])]))))) else none)
theorem l3_fin (p q:Int) (m:Nat) (vars:Int) (hm:1≤m∧m≤1000) (hv:0≤vars∧vars≤12) (hp:0≤p∧p≤q∧q≤p+3∧p+10*(m:Int)≤1099511020000)
 (ih:∀ k,1≤k→k < m→∀ p,0≤p∧p+10*(k:Int)≤1099511020000→TermS code l p k vars (LIM F.spec_l3Draw [.rref [slc code,.int .i64 p] 0,.rref [slc l] 0,.int .i64 k,.int .i64 vars]))
 (i:Nat) (hi:i < l.length) (ha:l[i].arity < m):TermS code l p m vars (l3fin l code m vars i q):=by
 obtain ⟨a1,a2⟩:=ok.arity l[i] (List.getElem_mem hi)
 have har:(ar l (i:Int):Int)=l[i].arity:=(ar_eq ok (n:=(i:Int)) (by omega) (by simpa using hi)).symm
 unfold l3fin
 have hn0:(0:Int)≤i∧(i:Int) < l.length:=by omega
 simp only [evz,Nat.reduceLT,hi,List.getElem?_eq_getElem,enc_Symbol]
 by_cases h1:l[i].arity=1
 · simp only [evz,Nat.reduceLT,h1]
   rw [wrap64 (by omega),show (m:Int) - 1=((m - 1:Nat):Int) by omega]
   obtain ⟨t,p',e,q1,q2,g⟩:=ih (m - 1) (by omega) (by omega) q (by omega)
   have hl:=g.le
   have e2:(cells t).length=t.length:=by rw [cells_length]; simp
   simp only [evz,Nat.reduceLT,e,scalars_int]
   rw [cond_pos (ble_ok (by rw [e2]; omega))]
   refine ⟨(i:Int)::t,p',rfl,by omega,by simp; omega,⟨by simp,by simp; omega,fun n hn => ?_,?_⟩⟩
   · rcases List.mem_cons.1 hn with rfl | hn
     · exact .inl hn0
     · exact g.node n hn
   · obtain ⟨x,hx,rfl⟩:=g.tree
     exact ⟨.u i x,⟨by omega,by omega,hx⟩,rfl⟩
 by_cases h2:l[i].arity=2
 · simp only [evz,Nat.reduceLT,h2,Int.reduceEq]
   rw [wrap64 (x:=(m:Int) - 2) (by omega),show (m:Int) - 2=((m - 2:Nat):Int) by omega]
   obtain ⟨t,p',e,q1,q2,g⟩:=ih (m - 2) (by omega) (by omega) q (by omega)
   have hl:=g.le
   have hl1:=g.pos
   have e2:(cells t).length=t.length:=by rw [cells_length]; simp
   simp only [evz,Nat.reduceLT,e,scalars_int]
   rw [cond_pos (ble_ok (by rw [e2]; omega)),wrap64 (x:=(m:Int) - 1) (by omega),wrap64 (by omega),show (m:Int) - 1 - (t.length:Int)=((m - 1 - t.length:Nat):Int) by omega]
   obtain ⟨t2,p2,e',q3,q4,g2⟩:=ih (m - 1 - t.length) (by omega) (by omega) p' (by omega)
   have hl2:=g2.le
   have e3:(cells t2).length=t2.length:=by rw [cells_length]; simp
   simp only [evz,Nat.reduceLT,e',scalars_int]
   rw [cond_pos (ble_ok (by simp only [List.length_append,List.length_singleton]; rw [e2,e3]; omega))]
   refine ⟨(i:Int)::(t++t2),p2,by rw [List.append_assoc,← cells_append]; rfl,by omega,by simp; omega,⟨by simp,by simp; omega,fun n hn => ?_,?_⟩⟩
   · rcases List.mem_cons.1 hn with rfl | hn
     · exact .inl hn0
     · rcases List.mem_append.1 hn with hn | hn
       · exact g.node n hn
       · exact g2.node n hn
   · obtain ⟨x,hx,rfl⟩:=g.tree
     obtain ⟨y,hy,rfl⟩:=g2.tree
     exact ⟨.b i x y,⟨by omega,by omega,hx,hy⟩,rfl⟩
 simp only [evz,Nat.reduceLT,h1,h2]
 exact ⟨[(i:Int)],q,rfl,by omega,by simp; omega,⟨by simp,by simp; omega,fun n hn=>by rw [List.mem_singleton.1 hn]; exact .inl hn0,.k i,⟨by omega,by omega⟩,rfl⟩⟩
omit hc ok in
theorem mod_step {n d k c:Nat} (h:(n+(d+1)) % k=c):((n+1) % k+d) % k=c:=by
 rw [Nat.mod_add_mod,show n+1+d=n+(d+1) by omega]; exact h
omit hc ok in
theorem mod_to {n c k:Nat} (hn:n < k) (hc:c < k):∃ d,d < k∧(n+d) % k=c:=by
 by_cases h:n≤c
 · exact ⟨c - n,by omega,by rw [show n+(c - n)=c by omega,Nat.mod_eq_of_lt hc]⟩
 · exact ⟨c+k - n,by omega,by rw [show n+(c+k - n)=c+k by omega,Nat.add_mod_right,Nat.mod_eq_of_lt hc]⟩
theorem l3_loops (p q:Int) (m:Nat) (vars:Int) (hm:1≤m∧m≤1000) (hv:0≤vars∧vars≤12) (hp:0≤p∧p≤q∧q≤p+3∧p+10*(m:Int)≤1099511020000)
 (ih:∀ k,1≤k→k < m→∀ p,0≤p∧p+10*(k:Int)≤1099511020000→TermS code l p k vars (LIM F.spec_l3Draw [.rref [slc code,.int .i64 p] 0,.rref [slc l] 0,.int .i64 k,.int .i64 vars]))
 (i:Nat) (hi:i < l.length):TermS code l p m vars (spec_l3Draw.at0 10 10 (spec_l3Draw.st0 (cells l) m vars l.length i 0 (cells code) q)):=by
 have hle:=ok.le
 simp only at hle
 obtain ⟨y,hy,hy0⟩:=ok.const
 obtain ⟨c,hcl,hcy⟩:=List.getElem_of_mem hy
 have hcl:c < l.length:=hcl
 have hca:l[c].arity=0:=by
  have:l[c]=y:=hcy
  rw [this]; exact hy0
 have fin:=l3_fin hc ok p q m vars hm hv hp ih
 have step2:∀ i,i < l.length→TermS code l p m vars (spec_l3Draw.at2 10 10 (spec_l3Draw.st2 (cells l) m vars l.length (i:Nat) 0 (cells code) q)):=fun i hi=>by
  obtain ⟨d,hd,hdc⟩:=mod_to hi hcl
  refine draw_loop (σ:=Nat × Nat × Nat) (S:=fun k s=>spec_l3Draw.at2 10 k (spec_l3Draw.st2 (cells l) m vars l.length (s.1:Nat) (s.2.1:Nat) (cells code) q)) (fun s=>s.1 < l.length∧(s.1+s.2.2) % l.length=c∧s.2.1+s.2.2 < l.length) (fun s=>s.2.2) (fun k s hs => ?_) _ (i,0,d) ⟨hi,hdc,by simp only; omega⟩ (by simp only; omega)
  obtain ⟨n,j,d⟩:=s
  obtain ⟨h1,h2,h3⟩:=hs
  simp only at h1 h2 h3 ⊢
  have hj:j < l.length:=by omega
  have hl0:¬ ((l.length:Nat):Int)=0:=by omega
  by_cases ha:l[n].arity > 0
  · right
    cases d with
    | zero =>
      rw [Nat.add_zero,Nat.mod_eq_of_lt h1] at h2
      subst h2
      omega
    | succ d =>
      refine ⟨((n+1) % l.length,j+1,d),?_,⟨Nat.mod_lt _ (by omega),mod_step h2,by simp only; omega⟩,by simp only; omega⟩
      simp only [spec_l3Draw.next2,spec_l3Draw.round2,evz,Nat.reduceLT,hj,h1,List.getElem?_eq_getElem,enc_Symbol,ha,hl0]
      rw [wrap_succ (by omega),wrap_succ (by omega)]
      congr 2
  · left
    have hf:=fin n h1 (by omega)
    simp only [spec_l3Draw.next2,spec_l3Draw.round2,evz,Nat.reduceLT,hj,h1,List.getElem?_eq_getElem,enc_Symbol,ha]
    unfold l3fin at hf
    simp only [evz,Nat.reduceLT,h1,List.getElem?_eq_getElem,enc_Symbol] at hf
    exact hf
 obtain ⟨d,hd,hdc⟩:=mod_to hi hcl
 refine draw_loop (σ:=Nat × Nat × Nat) (S:=fun k s=>spec_l3Draw.at0 10 k (spec_l3Draw.st0 (cells l) m vars l.length (s.1:Nat) (s.2.1:Nat) (cells code) q)) (fun s=>s.1 < l.length∧(s.1+s.2.2) % l.length=c∧s.2.1+s.2.2 < l.length) (fun s=>s.2.2) (fun k s hs => ?_) _ (i,0,d) ⟨hi,hdc,by simp only; omega⟩ (by simp only; omega)
 obtain ⟨n,j,d⟩:=s
 obtain ⟨h1,h2,h3⟩:=hs
 simp only at h1 h2 h3 ⊢
 have hj:j < l.length:=by omega
 have hl0:¬ ((l.length:Nat):Int)=0:=by omega
 by_cases ha:l[n].arity ≥ m
 · right
   cases d with
   | zero =>
     rw [Nat.add_zero,Nat.mod_eq_of_lt h1] at h2
     subst h2
     omega
   | succ d =>
     refine ⟨((n+1) % l.length,j+1,d),?_,⟨Nat.mod_lt _ (by omega),mod_step h2,by simp only; omega⟩,by simp only; omega⟩
     simp only [spec_l3Draw.next0,spec_l3Draw.round0,evz,Nat.reduceLT,hj,h1,List.getElem?_eq_getElem,enc_Symbol,ha,hl0]
     rw [wrap_succ (by omega),wrap_succ (by omega)]
     congr 2
 · left
   simp only [spec_l3Draw.next0,spec_l3Draw.round0,evz,Nat.reduceLT,hj,h1,List.getElem?_eq_getElem,enc_Symbol,ha]
   by_cases hm2:(m:Int) < 2
   · simp only [evz,Nat.reduceLT,hm2]
     exact step2 n h1
   · have hf:=fin n h1 (by omega)
     unfold l3fin at hf
     simp only [evz,Nat.reduceLT,h1,List.getElem?_eq_getElem,enc_Symbol] at hf
     simp only [evz,Nat.reduceLT,hm2]
     exact hf
theorem spec_l3DrawS (vars:Int) (hv:0≤vars∧vars≤12):∀ (m:Nat),1≤m→m≤1000→∀ p,0≤p∧p+10*(m:Int)≤1099511020000→TermS code l p m vars (LIM F.spec_l3Draw [.rref [slc code,.int .i64 p] 0,.rref [slc l] 0,.int .i64 m,.int .i64 vars]):=by
 intro m
 induction m using Nat.strongRecOn with
 | ind m ih =>
   intro hm1 hm2 p hp
   have hle:=ok.le
   have hpos:=ok.pos
   simp only at hle hpos
   suffices h:TermS code l p m vars (callK prog A H LIM 10 F.spec_l3Draw [.rref [slc code,.int .i64 p] 0,.rref [slc l] 0,.int .i64 m,.int .i64 vars]) by
    obtain ⟨t,p',e,r⟩:=h
    exact ⟨t,p',lim_of rfl 10 e,r⟩
   rw [show callK prog A H LIM 10 F.spec_l3Draw [.rref [slc code,.int .i64 p] 0,.rref [slc l] 0,.int .i64 m,.int .i64 vars]=_ from spec_l3Draw.ev _ _ _ _ _ _]
   have node:∀ q,p≤q→q≤p+2→TermS code l p m vars ((LIM F.spec_l1Next [.rref [slc code,.int .i64 q] 0,.int .i64 (l.length:Int)]).bind fun r=>(oCons r.2).bind fun p2=>(oNil p2.2).bind fun _=>(oAgg p2.1).bind fun c3=>(oCons c3).bind fun p4=>(oSl 1 p4.1).bind fun c5=>(oCons p4.2).bind fun p6=>(oInt .i64 p6.1).bind fun n7=>(oNil p6.2).bind fun _=>(oInt .i64 r.1).bind fun n8=>spec_l3Draw.at0 10 10 (spec_l3Draw.st0 (cells l) m vars l.length n8 0 (cells code) n7)):=fun q q1 q2=>by
    refine next_s hc (by omega) fun v h1 h2 => ?_
    have h2:=h2 (by omega)
    obtain ⟨i,rfl⟩:∃ i:Nat,v=i:=⟨v.toNat,by omega⟩
    simp only [evz,Nat.reduceLT]
    exact l3_loops hc ok p (q+1) m vars ⟨hm1,hm2⟩ hv (by omega) (fun k k1 k2 p hp=>ih k k2 k1 (by omega) p hp) i (by omega)
   by_cases hv0:vars > 0
   · simp only [evz,Nat.reduceLT,hv0]
     have rest:∀ q,p≤q→q≤p+1→TermS code l p m vars ((LIM F.spec_l1Chance [.rref [slc code,.int .i64 q] 0,.int .i64 4]).bind fun r=>(oCons r.2).bind fun p2=>(oNil p2.2).bind fun _=>(oAgg p2.1).bind fun c3=>(oCons c3).bind fun p4=>(oSl 1 p4.1).bind fun c5=>(oCons p4.2).bind fun p6=>(oInt .i64 p6.1).bind fun n7=>(oNil p6.2).bind fun _=>(oBool r.1).bind fun b8 =>
      bif b8 then ((LIM F.spec_l1Next [.rref [slc code,.int .i64 n7] 0,.int .i64 vars]).bind fun r=>(oCons r.2).bind fun p2=>(oNil p2.2).bind fun _=>(oAgg p2.1).bind fun c3=>(oCons c3).bind fun p4=>(oSl 1 p4.1).bind fun c5=>(oCons p4.2).bind fun p6=>(oInt .i64 p6.1).bind fun n7=>(oNil p6.2).bind fun _=>(oInt .i64 r.1).bind fun n8=>some (.sl 1 [.int .i64 (IntKind.wrap .i64 ((-1:Int) - n8))],[.agg [slc code,.int .i64 n7]]))
      else ((LIM F.spec_l1Next [.rref [slc code,.int .i64 n7] 0,.int .i64 (l.length:Int)]).bind fun r=>(oCons r.2).bind fun p2=>(oNil p2.2).bind fun _=>(oAgg p2.1).bind fun c3=>(oCons c3).bind fun p4=>(oSl 1 p4.1).bind fun c5=>(oCons p4.2).bind fun p6=>(oInt .i64 p6.1).bind fun n7=>(oNil p6.2).bind fun _=>(oInt .i64 r.1).bind fun n8=>spec_l3Draw.at0 10 10 (spec_l3Draw.st0 (cells l) m vars l.length n8 0 (cells code) n7))):=fun q q1 q2=>by
      refine chance_s hc (by omega) fun b => ?_
      simp only [evz,Nat.reduceLT]
      cases b with
      | true=>exact l3_var hc ok p (q+1) m vars hm1 (by omega) (by omega)
      | false=>exact node (q+1) (by omega) (by omega)
     by_cases hm3:(m:Int) < 2
     · simp only [evz,Nat.reduceLT,hm3]
       refine chance_s hc (by omega) fun b => ?_
       simp only [evz,Nat.reduceLT]
       cases b with
       | true=>exact l3_var hc ok p (p+1) m vars hm1 (by omega) (by omega)
       | false=>exact rest (p+1) (by omega) (by omega)
     · simp only [evz,Nat.reduceLT,hm3]
       exact rest p (by omega) (by omega)
   · simp only [evz,Nat.reduceLT,hv0]
     exact node p (by omega) (by omega)
theorem spec_l3Draw (p most vars:Int) (hm:1≤most∧most≤1000) (hv:0≤vars∧vars≤12) (hp:0≤p∧p≤1099511000000) :
 Drawn code p 3000 (fun x=>∃ t,x=slc t∧Grown l most.toNat vars t) (LIM F.spec_l3Draw [.rref [slc code,.int .i64 p] 0,.rref [slc l] 0,.int .i64 most,.int .i64 vars]):=by
 obtain ⟨t,p',e,h1,h2,g⟩:=spec_l3DrawS hc ok vars hv most.toNat (by omega) (by omega) p (by omega)
 rw [show ((most.toNat:Nat):Int)=most by omega] at e
 have:=g.le
 exact ⟨_,p',e,h1,by omega,t,rfl,g⟩
end
end Ev.Ty
end
section
namespace Ev.Ty
theorem pigeon:∀ (k:Nat) (o:List Int),o.Nodup→(∀ n∈o,0≤n∧n < k)→o.length≤k
 | 0,o,_,h=>by
   cases o with
   | nil=>simp
   | cons x o=>have:=h x (by simp); omega
 | k+1,o,hn,h=>by
   by_cases hk:(k:Int)∈o
   · have h1:=List.length_erase_of_mem hk
     have:=pigeon k (o.erase (k:Int)) (hn.erase _) fun n hm=>by
      have hm':=(hn.mem_erase_iff).1 hm
      have:=h n hm'.2
      omega
     omega
   · have:=pigeon k o hn fun n hm=>by
      have:=h n hm
      have:n≠(k:Int):=fun e=>hk (e ▸ hm)
      omega
     omega
end Ev.Ty
end
section
namespace Ev.Ty
open Go Ev
open Enc (enc)
open Sm (sm)
set_option linter.unusedSimpArgs false
set_option linter.unusedVariables false
def orderF (l:List Symbol) (o:List Int):Int:=if o.length≠l.length then 2 else if (o.any fun n => !inR n 0 (l.length - 1))=true then 3 else if twice o=true then 6 else 0
def orderFault (s:Signature) (o:List Int):Int:=if sigFault s≠0 then sigFault s else orderF s.symbols o
theorem orderOk {l:List Symbol} {o:List Int} (h:orderF l o=0):o.length=l.length∧∀ n:Int,0≤n→n < l.length→n∈o:=by
 unfold orderF at h
 split at h
 · cases h
 rename_i h1
 split at h
 · cases h
 rename_i h2
 split at h
 · cases h
 rename_i h3
 have h1:o.length=l.length:=by omega
 refine ⟨h1,fun n hn hl=>Classical.byContradiction fun hno => ?_⟩
 have hnd:o.Nodup:=by
  unfold twice at h3
  simpa using h3
 have hr:∀ m∈o,0≤m∧m < l.length:=fun m hm=>by
  simp only [List.any_eq_true,not_exists,not_and,Bool.not_eq_true',Bool.not_eq_false] at h2
  have:=inR_iff.1 (h2 m hm)
  omega
 have:=pigeon l.length (n::o) (List.nodup_cons.2 ⟨hno,hnd⟩) fun m hm=>by
  rcases List.mem_cons.1 hm with rfl | hm
  · exact ⟨hn,hl⟩
  · exact hr m hm
 simp at this
 omega
theorem impl_isSymbol {l:List Symbol} (hs:l.length≤4294967296) (n:Int):Call F.impl_isSymbol [.agg [slc l],.int .i64 n] (.bool (inR n 0 (l.length - 1))):=by
 refine call_of rfl 0 ((impl_isSymbol.ev _ _ _).trans ?_)
 simp only [evz,Nat.reduceLT,wrap64 (x:=(l.length:Int) - 1) (by omega),(impl_within _ _ _).eq]
theorem spec_l2Symbol {l:List Symbol} (hs:l.length≤4294967296) (n:Int):Call F.spec_l2Symbol [.rref [slc l] 0,.int .i64 n] (.bool (inR n 0 (l.length - 1))):=by
 refine call_of rfl 0 ((spec_l2Symbol.ev _ _ _).trans ?_)
 simp only [evz,Nat.reduceLT,wrap64 (x:=(l.length:Int) - 1) (by omega),(spec_l1In _ _ _).eq]
theorem spec_l2Order (l:List Symbol) (hs:l.length≤4294967296) (o:List Int) (ho:o.length≤4294967296):Call F.spec_l2Order [.rref [slc l] 0,slc o] (.int .i64 (orderF l o)):=by
 obtain ⟨n,hn⟩:∃ n,n=o.length+1:=⟨_,rfl⟩
 refine call_of rfl n ((spec_l2Order.ev _ _ _).trans ?_)
 simp only [evz,Nat.reduceLT,orderF]
 by_cases h2:o.length=l.length
 case neg =>
  have h2':¬ ((o.length:Int)=(l.length:Int)):=by omega
  simp only [h2,h2',evz,Nat.reduceLT,ne_eq,not_true_eq_false,not_false_eq_true]
 have h2':((o.length:Int)=(l.length:Int)):=by omega
 simp only [h2',h2,evz,Nat.reduceLT,ne_eq,not_true_eq_false]
 have two:=any_loop (n:=o.length) (bad:=fun i=>(List.range i).any fun j=>o[i]?.any fun x=>o[j]?.any fun y=>decide (x=y))
  (S:=fun m i=>spec_l2Order.at2 n m (spec_l2Order.st2 (cells o) (i:Nat))) (r:=some (.int .i64 6,[])) (z:=some (.int .i64 0,[]))
  (fun m i h=>by
   have hlk:o[i]?=some o[i]:=List.getElem?_eq_getElem h
   simp only [spec_l2Order.next2,spec_l2Order.round2,evz,Nat.reduceLT,h]
   refine any_loop (n:=i) (f:=n) (bad:=fun j=>o[i]?.any fun x=>o[j]?.any fun y=>decide (x=y))
    (S:=fun m' j=>spec_l2Order.at4 n (spec_l2Order.at2 n m) m' (spec_l2Order.st4 (cells o) (i:Nat) (j:Nat))) (fun m' j hj => ?_) (fun m' => ?_) (by omega)
   · have hj':j < o.length:=by omega
     have hjk:o[j]?=some o[j]:=List.getElem?_eq_getElem hj'
     simp only [spec_l2Order.next4,spec_l2Order.round4,evz,Nat.reduceLT,h,hj,hj',hlk,hjk,enc_int]
     rw [wrap_succ (by omega)]
     by_cases e:o[i]=o[j] <;> simp [e]
   · simp only [spec_l2Order.next4,spec_l2Order.round4,evz,Nat.reduceLT,Nat.lt_irrefl]
     rw [wrap_succ (by omega)])
  (fun m=>by simp only [spec_l2Order.next2,spec_l2Order.round2,evz,Nat.reduceLT,Nat.lt_irrefl]) (show o.length < n by omega)
 have tp:=twice_pairs (fun x:Int=>x) o
 rw [List.map_id'] at tp
 rw [tp] at two
 refine (any_loopL (l:=o) (p:=fun x => !inR x 0 (l.length - 1)) (S:=fun m k=>spec_l2Order.at0 n m (spec_l2Order.st0 (cells l) (cells o) (k:Nat))) (r:=some (.int .i64 3,[])) (z:=if twice o=true then some (.int .i64 6,[]) else some (.int .i64 0,[])) (fun m k h => ?_) (fun m => ?_) (show o.length < n by omega)).trans ?_
 · have hlk:o[k]?=some o[k]:=List.getElem?_eq_getElem h
   simp only [spec_l2Order.next0,spec_l2Order.round0,evz,Nat.reduceLT,h,hlk,enc_int,(spec_l2Symbol hs _).eq]
   rw [wrap_succ (by omega)]
   cases inR o[k] 0 (l.length - 1) <;> rfl
 · simp only [spec_l2Order.next0,spec_l2Order.round0,evz,Nat.reduceLT,Nat.lt_irrefl]
   exact two
 · cases o.any fun x => !inR x 0 (l.length - 1) <;> cases twice o <;> rfl
theorem spec_OrderFault (l:List Symbol) (hs:l.length≤4294967296) (o:List Int) (ho:o.length≤4294967296):Call F.spec_OrderFault [.agg [slc l],slc o] (.int .i64 (orderFault ⟨l⟩ o)):=by
 refine call_of rfl 0 ((spec_OrderFault.ev _ _ _).trans ?_)
 simp only [evz,Nat.reduceLT,(spec_SignatureFault l hs).eq,(spec_l2Order l hs o ho).eq,orderFault]
 by_cases h1:sigFault ⟨l⟩=0
 · simp only [h1,evz,Nat.reduceLT,ne_eq,not_true_eq_false]
 · simp only [h1,evz,Nat.reduceLT,ne_eq,not_false_eq_true]
theorem sigOk_of {l:List Symbol} (h:sigFault ⟨l⟩=0):SigOk ⟨l⟩:=(sigOk_iff _).1 h
end Ev.Ty
end
section
namespace Ev.Ty
open Go Ev
open Enc (enc)
open Sm (sm)
set_option linter.unusedSimpArgs false
set_option linter.unusedVariables false
end Ev.Ty
end
section
namespace Ev.Ty
open Go Ev
open Enc (enc)
open Sm (sm)
set_option linter.unusedSimpArgs false
set_option linter.unusedVariables false
def rise (n:Nat):List Int:=(List.range n).map fun (i:Nat)=>(i:Int)
theorem rise_succ (n:Nat):rise (n+1)=rise n++[(n:Int)]:=by simp [rise,List.range_succ]
theorem rise_length (n:Nat):(rise n).length=n:=by simp [rise]
theorem rise_loop {n:Nat} {S:Nat→Nat→List Int→R} {z:List Int→R} (step:∀ m k,k < n→S (m+1) k (rise k)=S m (k+1) (rise (k+1))) (stop:∀ m,S (m+1) n (rise n)=z (rise n)) {f:Nat} (hf:n < f) :
 S f 0 []=z (rise n):=by
 have:∀ m k,k≤n→n < m+k→S m k (rise k)=z (rise n):=by
  intro m
  induction m with
  | zero=>intros; omega
  | succ m ih =>
    intro k hk hm
    by_cases h:k < n
    · rw [step m k h]; exact ih (k+1) (by omega) (by omega)
    · obtain rfl:k=n:=by omega
      exact stop m
 exact this f 0 (by omega) (by omega)
theorem spec_l2Rise (n:Nat) (hs:n≤1048576):Call F.spec_l2Rise [.int .i64 n] (slc (rise n)):=by
 refine call_of rfl (n+1) ((spec_l2Rise.ev _ _).trans ?_)
 refine rise_loop (n:=n) (S:=fun m k o=>spec_l2Rise.at0 (n+1) m (spec_l2Rise.st0 n (k:Nat) (cells o))) (z:=fun o=>some (slc o,[])) (fun m k h => ?_) (fun m => ?_) (by omega)
 · simp only [spec_l2Rise.next0,spec_l2Rise.round0,evz,Nat.reduceLT,h,cells_length,rise_length,sz_int,cells_snoc_int,← rise_succ]
   rw [wrap_succ (by omega),cond_pos (ble_ok (by omega))]
 · simp only [spec_l2Rise.next0,spec_l2Rise.round0,evz,Nat.reduceLT,Nat.lt_irrefl]
end Ev.Ty
end
section
namespace Ev.Ty
open Go Ev
open Enc (enc)
open Sm (sm)
set_option linter.unusedSimpArgs false
set_option linter.unusedVariables false
set_option maxHeartbeats 1000000
def ba (l:List UInt8):ByteArray:=ByteArray.mk l.toArray
def sigA:List Symbol:=[⟨ba [101],0⟩,⟨ba [105],1⟩,⟨ba [109],2⟩,⟨ba [97],0⟩]
def sigB:List Symbol:=[⟨ba [97],0⟩,⟨ba [115,117,99],1⟩,⟨ba [97,100,100],2⟩,⟨ba [98],0⟩]
def sigC:List Symbol:=[⟨ba [97],0⟩,⟨ba [102],1⟩,⟨ba [103],1⟩]
def sigD:List Symbol:=[⟨ba [97],0⟩,⟨ba [98],0⟩,⟨ba [101],0⟩,⟨ba [109],2⟩,⟨ba [105],1⟩,⟨ba [115,117,99],1⟩]
def sigE:List Symbol:=[⟨ba [97],0⟩]
theorem sigA_ok:SigOk ⟨sigA⟩:=sigOk_of (by decide)
theorem sigB_ok:SigOk ⟨sigB⟩:=sigOk_of (by decide)
theorem sigC_ok:SigOk ⟨sigC⟩:=sigOk_of (by decide)
theorem sigD_ok:SigOk ⟨sigD⟩:=sigOk_of (by decide)
theorem sigE_ok:SigOk ⟨sigE⟩:=sigOk_of (by decide)
theorem name_small {b:ByteArray} (h:nameOk b=true):b.size≤3:=by
 unfold nameOk at h
 rw [Bool.and_eq_true,decide_eq_true_iff] at h
 exact h.1.2
theorem SigOk.small {l:List Symbol} (ok:SigOk ⟨l⟩):sm 7 (Signature.mk l):=⟨Nat.le_trans ok.le (by omega),fun x hx=>Nat.le_trans (name_small (ok.name x hx)) (by omega)⟩
theorem perm_swap (o:List Int) {i:Nat} (h:i+1 < o.length):((o.set i o[i+1]).set (i+1) (o[i]'(by omega))).Perm o:=by
 obtain ⟨A,x,y,B,rfl,rfl⟩:∃ A x y B,o=A++x::y::B∧A.length=i:=by
  refine ⟨o.take i,o[i],o[i+1],o.drop (i+2),?_,by rw [List.length_take]; omega⟩
  rw [← List.drop_eq_getElem_cons h,← List.drop_eq_getElem_cons (by omega),List.take_append_drop]
 have e1:(A++x::y::B)[A.length+1]=y:=by simp [List.getElem_append_right]
 have e2:(A++x::y::B)[A.length]'(by simp)=x:=by simp [List.getElem_append_right]
 rw [e1,e2,List.set_append_right _ _ (Nat.le_refl _),List.set_append_right _ _ (by omega)]
 simp only [Nat.sub_self,List.set_cons_zero,show A.length+1 - A.length=1 by omega,List.set_cons_succ]
 exact (List.Perm.swap x y B).append_left A
def Places (l:List Symbol) (o:List Int):Prop:=o.Perm (rise l.length)
theorem Places.order {l:List Symbol} {o:List Int} (h:Places l o):orderF l o=0:=by
 have hl:o.length=l.length:=by have:=h.length_eq; rwa [rise_length] at this
 have hm:∀ n∈o,0≤n∧n < l.length:=fun n hn=>by
  have:=(h.mem_iff).1 hn
  unfold rise at this
  obtain ⟨k,hk,rfl⟩:=List.mem_map.1 this
  have:=List.mem_range.1 hk
  omega
 have hd:o.Nodup:=by
  refine (h.nodup_iff).2 ?_
  unfold rise
  rw [List.Nodup,List.pairwise_map]
  exact List.nodup_range.imp fun {a b} hab e=>hab (Int.ofNat_inj.1 e)
 unfold orderF
 rw [if_neg (by omega),if_neg,if_neg]
 · unfold twice; simpa using hd
 · rw [Bool.not_eq_true,List.any_eq_false]
   intro n hn
   obtain ⟨a,b⟩:=hm n hn
   unfold inR
   simp; omega
section
variable {code:List UInt8} (hc:code.length≤2097152)
include hc
theorem spec_l2Sig (p:Int) (hp:0≤p∧p≤1099511000000):Drawn code p 1 (fun x=>∃ l:List Symbol,x = .agg [slc l]∧SigOk ⟨l⟩) (LIM F.spec_l2Sig [.rref [slc code,.int .i64 p] 0]):=by
 refine drawn_of rfl 0 ?_
 rw [show callK prog A H LIM 0 F.spec_l2Sig [.rref [slc code,.int .i64 p] 0]=_ from spec_l2Sig.ev _ _ _]
 refine next_s hc (by omega) fun v h1 h2 => ?_
 simp only [evz,Nat.reduceLT]
 have leaf:∀ l:List Symbol,SigOk ⟨l⟩→Drawn code p 1 (fun x=>∃ l:List Symbol,x = .agg [slc l]∧SigOk ⟨l⟩) (some (.agg [slc l],[.agg [slc code,.int .i64 (p+1)]])):=fun l hl=>drawn_end (by omega) ⟨l,rfl,hl⟩
 repeat' split
 all_goals first | exact leaf sigA sigA_ok | exact leaf sigB sigB_ok | exact leaf sigC sigC_ok | exact leaf sigD sigD_ok | exact leaf sigE sigE_ok
omit hc in
theorem set_sym {l:List Symbol} {i:Nat} (hi:i < l.length) (n:ByteArray):setCells (cells l) (i*2) [.str n]=cells (l.set i ⟨n,l[i].arity⟩):=by
 have:=fset_gen (o:=l) (i:=i) (n:=2) (j:=0) (x:=l[i]) (x':=⟨n,l[i].arity⟩) (c := .str n) rfl hi (by decide) (by rw [enc_Symbol,enc_Symbol]; rfl)
 rwa [set_same (List.getElem?_eq_getElem hi)] at this
omit hc in
theorem set_ar {l:List Symbol} {i:Nat} (hi:i < l.length) (n:Int):setCells (cells l) (i*2+1) [.int .i64 n]=cells (l.set i ⟨l[i].name,n⟩):=by
 have:=fset_gen (o:=l) (i:=i) (n:=2) (j:=1) (x:=l[i]) (x':=⟨l[i].name,n⟩) (c := .int .i64 n) rfl hi (by decide) (by rw [enc_Symbol,enc_Symbol]; rfl)
 rwa [set_same (List.getElem?_eq_getElem hi)] at this
theorem spec_l2Bent (p:Int) (hp:0≤p∧p≤1099511000000):Drawn code p 5 (fun x=>∃ l:List Symbol,x = .agg [slc l]∧sm 7 (Signature.mk l)) (LIM F.spec_l2Bent [.rref [slc code,.int .i64 p] 0]):=by
 refine drawn_of rfl 10 ?_
 rw [show callK prog A H LIM 10 F.spec_l2Bent [.rref [slc code,.int .i64 p] 0]=_ from spec_l2Bent.ev _ _ _]
 refine drawn_s (spec_l2Sig hc p (by omega)) ?_
 rintro _ p1 a1 b1 ⟨l,rfl,ok⟩
 have hle:=ok.le
 have hpos:=ok.pos
 simp only at hle hpos
 have sml:=ok.small
 have leaf:∀ (l:List Symbol) (p2:Int),p≤p2∧p2≤p+5→sm 7 (Signature.mk l)→Drawn code p 5 (fun x=>∃ l:List Symbol,x = .agg [slc l]∧sm 7 (Signature.mk l)) (some (.agg [slc l],[.agg [slc code,.int .i64 p2]])):=fun l p2 h hl=>drawn_end h ⟨l,rfl,hl⟩
 have setS:∀ (i:Nat) (y:Symbol),y.name.size≤7→sm 7 (Signature.mk (l.set i y)):=fun i y hy=>⟨by show (l.set i y).length≤7; rw [List.length_set]; omega,fun x hx=>by
  rcases List.mem_or_eq_of_mem_set hx with h | rfl
  · exact sml.2 x h
  · exact hy⟩
 simp only [evz,Nat.reduceLT]
 refine chance_s hc (by omega) fun b => ?_
 simp only [evz,Nat.reduceLT]
 cases b with
 | false=>simp only [evz,Nat.reduceLT,Bool.not_false]; exact leaf l _ (by omega) sml
 | true =>
   simp only [evz,Nat.reduceLT,Bool.not_true]
   refine next_s hc (by omega) fun v h1 h2 => ?_
   simp only [evz,Nat.reduceLT]
   split
   · exact leaf [] _ (by omega) ⟨by simp,by simp⟩
   split
   · rw [wrap64 (by omega),show (l.length:Int) - 1=((l.length - 1:Nat):Int) by omega]
     have hi:l.length - 1 < l.length:=by omega
     have z:(l.length - 1)*2+1≤l.length*2:=by omega
     simp only [evz,Nat.reduceLT,hi,cells_le,sz_Symbol,z,set_sym hi]
     exact leaf _ _ (by omega) (setS _ _ (show (ba [97,98,99,100]).size≤7 by decide))
   split
   · refine next_s hc (by omega) fun x k1 k2 => ?_
     obtain ⟨i,rfl⟩:∃ i:Nat,x=i:=⟨x.toNat,by omega⟩
     have hi:i < l.length:=by have:=k2 (by omega); omega
     have z:i*2+1≤l.length*2:=by omega
     simp only [evz,Nat.reduceLT,hi,cells_le,sz_Symbol,z,set_sym hi]
     exact leaf _ _ (by omega) (setS _ _ (show (ba [97,66]).size≤7 by decide))
   split
   · refine next_s hc (by omega) fun x k1 k2 => ?_
     obtain ⟨i,rfl⟩:∃ i:Nat,x=i:=⟨x.toNat,by omega⟩
     have hi:i < l.length:=by have:=k2 (by omega); omega
     simp only [evz,Nat.reduceLT]
     refine pick_s hc [3,-1] rfl (by simp) (by omega) fun y hy => ?_
     have z:i*2+1+1≤l.length*2:=by omega
     simp only [evz,Nat.reduceLT,hi,cells_le,sz_Symbol,z,set_ar hi]
     exact leaf _ _ (by omega) (setS _ _ (sml.2 l[i] (List.getElem_mem hi)))
   split
   · have h0:0 < l.length:=by omega
     have e0:inB 0 l.length=true:=(inB_nat 0 _).trans (by simpa using h0)
     have g0:(cells l)[0]?=some (.str l[0].name):=by
      have:=get0 (l:=l) (k:=2) (i:=0) rfl
      rw [Nat.zero_mul] at this
      rw [this,List.getElem?_eq_getElem h0]; rfl
     have g1:(cells l)[1]?=some (.int .i64 l[0].arity):=by
      have:=get1 (l:=l) (k:=2) (i:=0) rfl (by decide)
      rw [Nat.zero_mul,Nat.zero_add] at this
      rw [this,List.getElem?_eq_getElem h0]; rfl
     simp only [evz,Nat.reduceLT,e0,g0,g1]
     rw [cond_pos (ble_ok (by rw [cells_length]; simp only [sz_Symbol]; omega))]
     have e9:cells l++[.str l[0].name,.int .i64 l[0].arity]=cells (l++[l[0]]):=by rw [cells_append,enc_cells_one]; rfl
     rw [e9]
     refine leaf _ _ (by omega) ⟨by show (l++[l[0]]).length≤7; simp; omega,fun x hx => ?_⟩
     rcases List.mem_append.1 hx with h | h
     · exact sml.2 x h
     · rw [List.mem_singleton.1 h]; exact sml.2 _ (List.getElem_mem h0)
   split
   · refine draw_loop (σ:=Nat × List Symbol) (S:=fun m s=>spec_l2Bent.at3 10 m (spec_l2Bent.st3 l.length (s.1:Nat) (cells code) (p1+1+1) (cells s.2))) (fun s=>s.1≤l.length∧s.2.length=l.length∧sm 7 (Signature.mk s.2)) (fun s=>l.length - s.1) (fun m s hs => ?_) _ (0,l) ⟨by simp,rfl,sml⟩ (by simp only; omega)
     obtain ⟨k,o⟩:=s
     obtain ⟨q1,q2,q3⟩:=hs
     simp only at q1 q2 q3 ⊢
     by_cases hk:k < l.length
     · right
       have hko:k < o.length:=by omega
       have z:k*2+1+1≤o.length*2:=by omega
       refine ⟨(k+1,o.set k ⟨o[k].name,1⟩),?_,⟨by simp only; omega,by simp [q2],⟨by show (o.set k _).length≤7; rw [List.length_set]; omega,fun x hx => ?_⟩⟩,by simp only; omega⟩
       · simp only [spec_l2Bent.next3,spec_l2Bent.round3,evz,Nat.reduceLT,hk,hko,cells_le,sz_Symbol,z,set_ar hko]
         rw [wrap_succ (by omega)]
       · rcases List.mem_or_eq_of_mem_set hx with h | rfl
         · exact q3.2 x h
         · exact q3.2 o[k] (List.getElem_mem hko)
     · left
       simp only [spec_l2Bent.next3,spec_l2Bent.round3,evz,Nat.reduceLT,hk]
       exact leaf _ _ (by omega) q3
   refine draw_loop (σ:=List Symbol) (S:=fun m s=>spec_l2Bent.at1 10 m (spec_l2Bent.st1 (cells code) (p1+1+1) (cells s))) (fun s=>s.length≤7∧sm 7 (Signature.mk s)) (fun s=>7 - s.length) (fun m s hs => ?_) _ l ⟨by omega,sml⟩ (by omega)
   obtain ⟨k1,k2⟩:=hs
   by_cases hk:s.length < 7
   · right
     have hk2:((s.length:Nat):Int) < 7:=by omega
     refine ⟨s++[⟨ba [122],0⟩],?_,⟨by simp; omega,⟨by show (s++_).length≤7; simp; omega,fun x hx => ?_⟩⟩,by simp; omega⟩
     · simp only [spec_l2Bent.next1,spec_l2Bent.round1,evz,Nat.reduceLT,hk2]
       rw [cond_pos (ble_ok (by rw [cells_length]; simp only [sz_Symbol]; omega)),cells_append,enc_cells_one]
       rfl
     · rcases List.mem_append.1 hx with h | h
       · exact k2.2 x h
       · rw [List.mem_singleton.1 h]; show (ba [122]).size≤7; decide
   · left
     have hk2:¬ ((s.length:Nat):Int) < 7:=by omega
     simp only [spec_l2Bent.next1,spec_l2Bent.round1,evz,Nat.reduceLT,hk2]
     exact leaf _ _ (by omega) k2
theorem spec_l2DrawOrder (p:Int) (hp:0≤p∧p≤1099511000000) (l:List Symbol) (hl:l.length≤1000):Drawn code p 4 (fun x=>∃ o,x=slc o∧Places l o) (LIM F.spec_l2DrawOrder [.rref [slc code,.int .i64 p] 0,.agg [slc l]]):=by
 refine drawn_of rfl 10 ?_
 rw [show callK prog A H LIM 10 F.spec_l2DrawOrder [.rref [slc code,.int .i64 p] 0,.agg [slc l]]=_ from spec_l2DrawOrder.ev _ _ _ _]
 simp only [evz,Nat.reduceLT,(spec_l2Rise l.length (by omega)).eq]
 refine next_s hc (by omega) fun v h1 h2 => ?_
 simp only [evz,Nat.reduceLT]
 refine draw_loop (σ:=Int × Int × List Int) (S:=fun m s=>spec_l2DrawOrder.at0 10 m (spec_l2DrawOrder.st0 s.1 (cells code) s.2.1 (cells s.2.2))) (fun s=>0≤s.1∧s.1≤3∧p≤s.2.1∧s.2.1≤p+1+(3 - s.1)∧Places l s.2.2) (fun s=>s.1.toNat) (fun m s hs => ?_) _ (v,p+1,rise l.length) ⟨h1,by simp only; omega,by simp only; omega,by simp only; omega,List.Perm.refl _⟩ (by simp only; omega)
 obtain ⟨a,q,o⟩:=s
 obtain ⟨k1,k2,k3,k4,k5⟩:=hs
 simp only at k1 k2 k3 k4 k5 ⊢
 have hol:o.length=l.length:=by have:=k5.length_eq; rwa [rise_length] at this
 by_cases ha:a > 0
 · by_cases ho:((o.length:Nat):Int) > 1
   · right
     obtain ⟨x,e,x1,x2⟩:=spec_l1Next hc q ((o.length:Int) - 1) (by omega)
     obtain ⟨i,rfl⟩:∃ i:Nat,x=i:=⟨x.toNat,by omega⟩
     have hi:i+1 < o.length:=by have:=x2 (by omega); omega
     have hi0:i < o.length:=by omega
     refine ⟨(a - 1,q+1,(o.set i o[i+1]).set (i+1) o[i]),?_,⟨by simp only; omega,by simp only; omega,by simp only; omega,by simp only; omega,(perm_swap o hi).trans k5⟩,by simp only; omega⟩
     have z1:i*1+1≤o.length*1:=by omega
     have z2:(i+1)*1+1≤o.length*1:=by omega
     simp only [spec_l2DrawOrder.next0,spec_l2DrawOrder.round0,evz,Nat.reduceLT,ha,ho]
     rw [wrap64 (x:=(o.length:Int) - 1) (by omega)]
     have hi':i+1 < (o.set i o[i+1]).length:=by rw [List.length_set]; exact hi
     simp only [evz,Nat.reduceLT,e,wrap_succ (show i < 9223372036854775807 by omega),hi,hi0,List.getElem?_eq_getElem,enc_int,cells_le,sz_int,z1,set_Int hi0,List.length_set,z2,set_Int hi']
     rw [wrap64 (x:=a - 1) (by omega)]
   · left
     simp only [spec_l2DrawOrder.next0,spec_l2DrawOrder.round0,evz,Nat.reduceLT,ha,ho]
     exact drawn_end (by omega) ⟨o,rfl,k5⟩
 · left
   simp only [spec_l2DrawOrder.next0,spec_l2DrawOrder.round0,evz,Nat.reduceLT,ha]
   exact drawn_end (by omega) ⟨o,rfl,k5⟩
theorem spec_l3BentTerm (p most vars:Int) (l:List Symbol) (hl:l.length≤1000) (hm:1≤most∧most≤1000) (hv:0≤vars∧vars≤12) (hp:0≤p∧p≤1099510000000) :
 Drawn code p 3200 (fun x=>∃ t:List Int,x=slc t∧t.length≤1001) (LIM F.spec_l3BentTerm [.rref [slc code,.int .i64 p] 0,.rref [slc l] 0,.int .i64 most,.int .i64 vars]):=by
 have leaf:∀ (t:List Int) (p2:Int),p≤p2∧p2≤p+3200→t.length≤1001→Drawn code p 3200 (fun x=>∃ t:List Int,x=slc t∧t.length≤1001) (some (slc t,[.agg [slc code,.int .i64 p2]])):=fun t p2 h hl=>drawn_end h ⟨t,rfl,hl⟩
 refine drawn_of rfl 30 ?_
 rw [show callK prog A H LIM 30 F.spec_l3BentTerm [.rref [slc code,.int .i64 p] 0,.rref [slc l] 0,.int .i64 most,.int .i64 vars]=_ from spec_l3BentTerm.ev _ _ _ _ _ _]
 simp only [evz,Nat.reduceLT]
 split
 · exact leaf [0] p (by omega) (by simp)
 simp only [(spec_SignatureFault l (by omega)).eq,evz,Nat.reduceLT]
 split
 case isFalse=>exact leaf [0] p (by omega) (by simp)
 rename_i hs
 have ok:=sigOk_of hs
 refine drawn_s (spec_l3Draw hc ok p most vars hm hv (by omega)) ?_
 rintro _ p1 a1 b1 ⟨t,rfl,g⟩
 have tl:=g.le
 have tp:=g.pos
 simp only [evz,Nat.reduceLT]
 refine chance_s hc (by omega) fun b => ?_
 simp only [evz,Nat.reduceLT]
 cases b with
 | false=>simp only [evz,Nat.reduceLT,Bool.not_false]; exact leaf t _ (by omega) (by omega)
 | true =>
   simp only [evz,Nat.reduceLT,Bool.not_true]
   refine next_s hc (by omega) fun v h1 h2 => ?_
   simp only [evz,Nat.reduceLT]
   split
   · rw [wrap64 (by omega),show (t.length:Int) - 1=((t.length - 1:Nat):Int) by omega]
     have z1:(0:Int)≤((t.length - 1:Nat):Int):=by omega
     have z2:((t.length - 1:Nat):Int)≤(t.length:Int):=by omega
     simp only [evz,Nat.reduceLT,z1,z2,Bool.and_self]
     rw [cells_take t 1 _ rfl]
     exact leaf _ _ (by omega) (by rw [List.length_take]; omega)
   split
   · rw [cond_pos (ble_ok (by rw [cells_length]; simp only [sz_int]; omega)),cells_snoc_int]
     exact leaf _ _ (by omega) (by simp; omega)
   split
   · refine next_s hc (by omega) fun x k1 k2 => ?_
     obtain ⟨i,rfl⟩:∃ i:Nat,x=i:=⟨x.toNat,by omega⟩
     have hi:i < t.length:=by have:=k2 (by omega); omega
     simp only [evz,Nat.reduceLT]
     refine pick_s hc [(l.length:Int),-13,-12] rfl (by simp) (by omega) fun y hy => ?_
     have z:i*1+1≤t.length*1:=by omega
     simp only [evz,Nat.reduceLT,hi,cells_le,sz_int,z,set_Int hi]
     exact leaf _ _ (by omega) (by rw [List.length_set]; omega)
   refine draw_loop (σ:=Nat × Int × List Int) (S:=fun m s=>spec_l3BentTerm.at1 30 m (spec_l3BentTerm.st1 (s.1:Nat) (cells code) s.2.1 (cells s.2.2))) (fun s=>s.1≤25∧s.2.2.length=s.1∧p≤s.2.1∧s.2.1=p1+1+1+2*(s.1:Int)) (fun s=>25 - s.1) (fun m s hs => ?_) _ (0,p1+1+1,[]) ⟨by simp,rfl,by simp only; omega,by simp⟩ (by simp)
   obtain ⟨k,q,o⟩:=s
   obtain ⟨q1,q2,q3,q4⟩:=hs
   simp only at q1 q2 q3 q4 ⊢
   obtain ⟨x,hx,e⟩:=spec_l1Pick hc q [24,25] (ts:=[.int .i64 24,.int .i64 25]) rfl (by simp) (by omega)
   have hx':x≤25:=by simp only [List.mem_cons,List.not_mem_nil,or_false] at hx; omega
   by_cases hk:(k:Int) < x
   · right
     obtain ⟨y,hy,e'⟩:=spec_l1Pick hc (q+1) [1,2,0] (ts:=[.int .i64 1,.int .i64 2,.int .i64 0]) rfl (by simp) (by omega)
     refine ⟨(k+1,q+1+1,o++[y]),?_,⟨by simp only; omega,by simp [q2],by simp only; omega,by simp only; omega⟩,by simp only; omega⟩
     simp only [spec_l3BentTerm.next1,spec_l3BentTerm.round1,evz,Nat.reduceLT,e,hk,e']
     rw [cond_pos (ble_ok (by rw [cells_length]; simp only [sz_int]; omega)),wrap_succ (by omega),cells_snoc_int]
   · left
     simp only [spec_l3BentTerm.next1,spec_l3BentTerm.round1,evz,Nat.reduceLT,e,hk]
     exact leaf o _ (by omega) (by omega)
end
end Ev.Ty
end
section
namespace Ev.Ty
open Go Ev
open Tm
set_option linter.unusedSimpArgs false
set_option linter.unusedVariables false
namespace Tm
inductive Part:Tm→Tm→Prop
 | arg {p t}:p∈t.args→Part p t
 | deep {p q t}:q∈t.args→Part p q→Part p t
end Tm
namespace G
variable {r:Int→Int}
theorem above {t p:Tm} (h:Tm.Part p t):G r t p:=by
 induction h with
 | arg h=>exact .eq h
 | deep h _ ih=>exact .sub h ih
end G
end Ev.Ty
end
section
namespace Ev.Ty
open Go Ev
open Tm
set_option linter.unusedSimpArgs false
set_option linter.unusedVariables false
section
variable {l:List Symbol} (ok:SigOk ⟨l⟩) {o:List Int} (ho:∀ n:Int,0≤n→n < l.length→n∈o)
include ok
theorem TermOk.atZero {t:List Int} (h:TermOk l t):∃ x,At l t 0 x∧t=x.flat:=by
 obtain ⟨x,hx,e⟩:=h.tree ok
 exact ⟨x,⟨hx,[],by simpa using e⟩,e⟩
include ho
end
end Ev.Ty
end
section
namespace Ev.Ty
open Go Ev
open Enc (enc)
open Sm (sm)
set_option linter.unusedSimpArgs false
set_option linter.unusedVariables false
set_option maxHeartbeats 1000000
theorem spec_l2Find (l:List Symbol) (hl:l.length≤1000) (s:ByteArray):∃ n:Int,Call F.spec_l2Find [.rref [slc l] 0,.str s] (.int .i64 n):=by
 suffices h:∃ r,callK prog A H LIM (l.length+1) F.spec_l2Find [.rref [slc l] 0,.str s]=r∧∃ n:Int,r=some (.int .i64 n,[]) by
  obtain ⟨_,e,n,rfl⟩:=h
  exact ⟨n,call_of rfl _ e⟩
 refine ⟨_,spec_l2Find.ev _ _ _,?_⟩
 refine draw_loop (Q:=fun r=>∃ n:Int,r=some (.int .i64 n,[])) (σ:=Nat) (S:=fun m k=>spec_l2Find.at0 (l.length+1) m (spec_l2Find.st0 (cells l) s (k:Nat))) (fun k=>k≤l.length) (fun k=>l.length - k) (fun m k hk => ?_) _ 0 (by omega) (by omega)
 by_cases h:k < l.length
 · have g0:=get0 (l:=l) (k:=2) (i:=k) rfl
   have ek:l[k]?=some l[k]:=List.getElem?_eq_getElem h
   by_cases e:l[k].name=s
   · left
     exact ⟨(k:Int),by simp only [spec_l2Find.next0,spec_l2Find.round0,evz,Nat.reduceLT,h,g0,ek,e,beq_self_eq_true,enc_Symbol]⟩
   · right
     refine ⟨k+1,?_,by omega,by omega⟩
     simp only [spec_l2Find.next0,spec_l2Find.round0,evz,Nat.reduceLT,h,g0,ek,e,enc_Symbol]
     rw [wrap_succ (by omega)]
 · left
   exact ⟨-1,by simp only [spec_l2Find.next0,spec_l2Find.round0,evz,Nat.reduceLT,h]⟩
def CutQ (s:ByteArray) (r:R):Prop:=∃ xs:List ByteArray,r=some (.sl 1 (xs.map .str),[])∧xs.length≤s.size+1∧∀ x∈xs,x.size≤s.size
theorem spec_l1Cut (s:ByteArray) (hs:s.size≤1000) (c:Int):∃ xs:List ByteArray,Call F.spec_l1Cut [.str s,.int .u8 c] (.sl 1 (xs.map .str))∧xs.length≤s.size+1∧∀ x∈xs,x.size≤s.size:=by
 suffices h:∃ r,callK prog A H LIM (s.size+2) F.spec_l1Cut [.str s,.int .u8 c]=r∧CutQ s r by
  obtain ⟨_,e,n,rfl,h⟩:=h
  exact ⟨n,call_of rfl _ e,h⟩
 refine ⟨_,spec_l1Cut.ev _ _ _,?_⟩
 have z:([]:List T)=([]:List ByteArray).map .str:=rfl
 rw [z]
 refine draw_loop (Q:=CutQ s) (σ:=Nat × Nat × List ByteArray) (S:=fun m q=>spec_l1Cut.at0 (s.size+2) m (spec_l1Cut.st0 s c (q.1:Nat) (q.2.1:Nat) (q.2.2.map .str))) (fun q=>q.1≤q.2.1∧q.2.1≤s.size+1∧q.2.2.length≤q.2.1∧∀ x∈q.2.2,x.size≤s.size) (fun q=>s.size+1 - q.2.1) (fun m q hq => ?_) _ (0,0,[]) ⟨by simp,by simp,by simp,by simp⟩ (by simp only; omega)
 obtain ⟨a,k,xs⟩:=q
 obtain ⟨h1,h2,h3,h4⟩:=hq
 simp only at h1 h2 h3 h4 ⊢
 by_cases hk:k≤s.size
 case neg =>
  left
  have hk':¬ (k:Int)≤(s.size:Int):=by omega
  exact ⟨xs,by simp only [spec_l1Cut.next0,spec_l1Cut.round0,evz,Nat.reduceLT,hk'],by omega,h4⟩
 right
 have hk':(k:Int)≤(s.size:Int):=by omega
 have ha':(0:Int)≤(a:Int):=by omega
 have hak:(a:Int)≤(k:Int):=by omega
 have put:∀ x∈xs++[s.extract a k],x.size≤s.size:=fun x hx=>by
  rcases List.mem_append.1 hx with h | h
  · exact h4 x h
  · rw [List.mem_singleton.1 h,ByteArray.size_extract]; omega
 have cell:(xs.map T.str)++[.str (s.extract a k)]=(xs++[s.extract a k]).map .str:=by rw [List.map_append]; rfl
 have blen:Nat.ble (((xs.map T.str).length+1)*16) (140737488355328*1)=true:=ble_ok (by rw [List.length_map]; omega)
 by_cases e:k=s.size
 · refine ⟨(k+1,k+1,xs++[s.extract a k]),?_,⟨by simp only; omega,by simp only; omega,by simp; omega,put⟩,by simp only; omega⟩
   have e':((k:Nat):Int)=(s.size:Int):=by omega
   simp only [spec_l1Cut.next0,spec_l1Cut.round0,evz,Nat.reduceLT,hk',e',beq_self_eq_true,ha',hak,Int.le_refl,decide_true,Bool.and_self,← cell]
   rw [← e] at *
   simp only [evz,Nat.reduceLT,hak,decide_true,Bool.and_self,blen]
   rw [wrap_succ (by omega)]
 · have e':¬ ((k:Nat):Int)=(s.size:Int):=by omega
   have hlt:k < s.size:=by omega
   by_cases eb:((s.data.getD k 0).toNat:Int)=c
   · refine ⟨(k+1,k+1,xs++[s.extract a k]),?_,⟨by simp only; omega,by simp only; omega,by simp; omega,put⟩,by simp only; omega⟩
     simp only [spec_l1Cut.next0,spec_l1Cut.round0,evz,Nat.reduceLT,hk',e',hlt,eb,ha',hak,decide_true,Bool.and_self,blen,← cell]
     rw [wrap_succ (by omega)]
   · refine ⟨(a,k+1,xs),?_,⟨by simp only; omega,by simp only; omega,by simp only; omega,h4⟩,by simp only; omega⟩
     simp only [spec_l1Cut.next0,spec_l1Cut.round0,evz,Nat.reduceLT,hk',e',hlt,eb]
     rw [wrap_succ (by omega)]
def NodesQ (s:ByteArray) (r:R):Prop:=∃ (t:List Int) (b:Bool),r=some (.tup [slc t,.bool b],[])∧t.length≤s.size
theorem nodes_inner {l:List Symbol} (hl:l.length≤1000) (s:ByteArray) (hs:s.size≤1000) (N:Nat) (L:St→R) (a:Nat) (t:List Int) (ht:t.length≤a) (k0:Nat) (ha:a≤k0)
 (K:∀ (e:Nat) (n:Int),k0≤e→e≤s.size→NodesQ s (L (spec_l4Nodes.st0 (cells l) s (e:Nat) (cells (t++[n]))))):∀ (d k f:Nat),k+d=s.size→k0≤k→d < f →
 NodesQ s (spec_l4Nodes.at3 N L f (spec_l4Nodes.st3 (cells l) s (a:Nat) (k:Nat) (cells t))):=by
 intro d
 induction d with
 | zero =>
   intro k f hk h0 hf
   obtain ⟨f,rfl⟩:∃ g,f=g+1:=⟨f - 1,by omega⟩
   have n1:¬ (k:Int) < (s.size:Int):=by omega
   have c1:(0:Int)≤(a:Int):=by omega
   have c2:(a:Int)≤(k:Int):=by omega
   have c3:(k:Int)≤(s.size:Int):=by omega
   obtain ⟨n,en⟩:=spec_l2Find l hl (s.extract a k)
   have blen:Nat.ble (((cells t).length+1)*8) (140737488355328*1)=true:=ble_ok (by rw [cells_length,sz_int]; omega)
   simp only [spec_l4Nodes.next3,spec_l4Nodes.round3,n1,c1,c2,c3,decide_true,decide_false,Bool.and_self,cond_true,cond_false,Int.toNat_natCast,en.eq,evz,Nat.reduceLT]
   by_cases hn:n < 0
   · simp only [hn,evz,Nat.reduceLT]
     exact ⟨[],false,rfl,by simp⟩
   · simp only [hn,evz,Nat.reduceLT,blen]
     rw [cells_snoc_int]
     exact K k n h0 (by omega)
 | succ d ih =>
   intro k f hk h0 hf
   obtain ⟨f,rfl⟩:∃ g,f=g+1:=⟨f - 1,by omega⟩
   have n1:(k:Int) < (s.size:Int):=by omega
   have n2:k < s.size:=by omega
   have c1:(0:Int)≤(a:Int):=by omega
   have c2:(a:Int)≤(k:Int):=by omega
   have c3:(k:Int)≤(s.size:Int):=by omega
   obtain ⟨n,en⟩:=spec_l2Find l hl (s.extract a k)
   have blen:Nat.ble (((cells t).length+1)*8) (140737488355328*1)=true:=ble_ok (by rw [cells_length,sz_int]; omega)
   have stop:NodesQ s (if n < 0 then some (.tup [.sl 1 [],.bool false],[]) else L (spec_l4Nodes.st0 (cells l) s (k:Nat) (cells t++[.int .i64 n]))):=by
    by_cases hn:n < 0
    · rw [if_pos hn]; exact ⟨[],false,rfl,by simp⟩
    · rw [if_neg hn,cells_snoc_int]
      exact K k n h0 (by omega)
   have ih:=ih (k+1) f (by omega) (by omega) (by omega)
   simp only [spec_l4Nodes.next3,spec_l4Nodes.round3,n1,n2,c1,c2,c3,inB_nat,decide_true,decide_false,Bool.and_self,cond_true,cond_false,Int.toNat_natCast,en.eq,evz,Nat.reduceLT,blen,wrap_succ (by omega:k < 9223372036854775807)]
   split
   · split
     · exact ih
     · exact stop
   · exact stop
theorem spec_l4Nodes {l:List Symbol} (hl:l.length≤1000) (s:ByteArray) (hs:s.size≤1000):∃ (t:List Int) (b:Bool),Call F.spec_l4Nodes [.rref [slc l] 0,.str s] (.tup [slc t,.bool b])∧t.length≤s.size:=by
 suffices h:∃ r,callK prog A H LIM (s.size+1) F.spec_l4Nodes [.rref [slc l] 0,.str s]=r∧NodesQ s r by
  obtain ⟨_,e,t,b,rfl,h⟩:=h
  exact ⟨t,b,call_of rfl _ e,h⟩
 refine ⟨_,spec_l4Nodes.ev _ _ _,?_⟩
 have key:∀ (d k f:Nat) (t:List Int),k+d=s.size→t.length≤k→d < f→NodesQ s (spec_l4Nodes.at0 (s.size+1) f (spec_l4Nodes.st0 (cells l) s (k:Nat) (cells t))):=by
  intro d
  induction d using Nat.strongRecOn with
  | ind d ih =>
    intro k f t hk ht hf
    obtain ⟨f,rfl⟩:∃ g,f=g+1:=⟨f - 1,by omega⟩
    by_cases hk0:k < s.size
    case neg =>
     have n1:¬ (k:Int) < (s.size:Int):=by omega
     simp only [spec_l4Nodes.next0,spec_l4Nodes.round0,evz,Nat.reduceLT,n1]
     exact ⟨t,true,rfl,by omega⟩
    have n1:(k:Int) < (s.size:Int):=by omega
    have next:NodesQ s (spec_l4Nodes.at0 (s.size+1) f (spec_l4Nodes.st0 (cells l) s ((k+1:Nat):Int) (cells t))):=ih (d - 1) (by omega) (k+1) f t (by omega) (by omega) (by omega)
    have put:∀ n:Int,NodesQ s (spec_l4Nodes.at0 (s.size+1) f (spec_l4Nodes.st0 (cells l) s ((k+1:Nat):Int) (cells t++[.int .i64 n]))):=fun n=>by
     rw [cells_snoc_int]
     exact ih (d - 1) (by omega) (k+1) f _ (by omega) (by simp; omega) (by omega)
    have bad:NodesQ s (some (.tup [.sl 1 [],.bool false],[])):=⟨[],false,rfl,by simp⟩
    have blen:Nat.ble (((cells t).length+1)*8) (140737488355328*1)=true:=ble_ok (by rw [cells_length,sz_int]; omega)
    have word:((s.data.getD k 0).toNat:Int) ≥ 97→((s.data.getD k 0).toNat:Int)≤122→NodesQ s (spec_l4Nodes.at3 (s.size+1) (spec_l4Nodes.at0 (s.size+1) f) (s.size+1) (spec_l4Nodes.st3 (cells l) s (k:Nat) (k:Nat) (cells t))):=fun w1 w2=>by
     have:=nodes_inner hl s hs (s.size+1) (spec_l4Nodes.at0 (s.size+1) f) k t ht (k+1) (by omega) (fun e n h1 h2=>ih (s.size - e) (by omega) e f _ (by omega) (by simp; omega) (by omega)) (d - 1) (k+1) s.size (by omega) (by omega) (by omega)
     simp only [spec_l4Nodes.next3,spec_l4Nodes.round3,n1,hk0,inB_nat,decide_true,cond_true,Int.toNat_natCast,w1,w2,wrap_succ (by omega:k < 9223372036854775807)]
     exact this
    simp only [spec_l4Nodes.next0,spec_l4Nodes.round0,n1,hk0,inB_nat,decide_true,cond_true,Int.toNat_natCast,evz,Nat.reduceLT,blen,wrap_succ (by omega:k < 9223372036854775807)]
    repeat' split
    all_goals first | with_reducible exact next | with_reducible exact bad | with_reducible exact put _ | (with_reducible apply word <;> assumption)
 exact key s.size 0 (s.size+1) [] (by omega) (by simp) (by omega)
section
variable {l:List Symbol} (ok:SigOk ⟨l⟩)
include ok
theorem node_sym {t:List Int} (ht:TermOk l t) {i:Nat} (hi:i < t.length) (h0:0≤t[i]):∃ k:Nat,t[i]=k∧∃ h:k < l.length,ar l t[i]=l[k].arity.toNat∧0≤l[k].arity∧l[k].arity≤2∧l[k].name.size≤3:=by
 have hn:=ht.node _ (List.getElem_mem hi)
 unfold nodeOk inR at hn
 simp only [Bool.or_eq_true,Bool.and_eq_true,decide_eq_true_eq] at hn
 have hk:t[i].toNat < l.length:=by omega
 refine ⟨t[i].toNat,by omega,hk,?_,(ok.arity _ (List.getElem_mem hk)).1,(ok.arity _ (List.getElem_mem hk)).2,name_small (ok.name _ (List.getElem_mem hk))⟩
 unfold ar
 rw [if_neg (by omega),List.getElem?_eq_getElem hk]
 rfl
def TextQ (c:Nat) (r:R):Prop:=∃ s:ByteArray,r=some (.str s,[])∧s.size≤c
theorem spec_l4TextAt {t:List Int} (ht:TermOk l t):∀ (x:Tm) (i:Nat),At l t i x→TextQ (6*x.flat.length) (LIM F.spec_l4Text [.rref [slc l] 0,slc t,.int .i64 i]):=by
 have lb:(ByteArray.mk #[40]).size=1:=rfl
 have rb:(ByteArray.mk #[41]).size=1:=rfl
 have cm:(ByteArray.mk #[44]).size=1:=rfl
 have hle:=ht.le
 intro x
 induction x with
 | v n =>
   intro i h
   obtain ⟨h1,h2,_,_⟩:=h.facts
   have hn:n < 0:=h.1
   have e:t[i]=n:=by rw [List.getD_eq_getElem?_getD,List.getElem?_eq_getElem h1] at h2; exact h2
   have ei:t[i]?=some n:=by rw [List.getElem?_eq_getElem h1,e]
   have ev:=spec_l4Text.ev 0 (cells l) (cells t) i
   simp only [evz,Nat.reduceLT,h1,ei,enc_int,hn] at ev
   refine ⟨_,lim_of rfl 0 ev,?_⟩
   show ByteArray.size (ByteArray.push ByteArray.empty _)≤6*[n].length
   rw [ByteArray.size_push]; show 0+1≤6*1; decide
 | k n =>
   intro i h
   obtain ⟨h1,h2,_,_⟩:=h.facts
   have hn:0≤n∧ar l n=0:=h.1
   have e:t[i]=n:=by rw [List.getD_eq_getElem?_getD,List.getElem?_eq_getElem h1] at h2; exact h2
   subst e
   obtain ⟨q,eq,hq,q1,q2,q3,q4⟩:=node_sym ok ht h1 hn.1
   have ei:t[i]?=some (q:Int):=by rw [List.getElem?_eq_getElem h1,eq]
   have e0:l[q].arity=0:=by omega
   have hn':¬ (q:Int) < 0:=by omega
   have ek:l[q]?=some l[q]:=List.getElem?_eq_getElem hq
   refine ⟨l[q].name,lim_of rfl 0 ((spec_l4Text.ev _ _ _ _).trans ?_),by show _≤6*1; omega⟩
   simp only [evz,Nat.reduceLT,h1,ei,enc_int,hn',hq,get0 (l:=l) (k:=2) rfl,get1 (l:=l) (k:=2) rfl,ek,enc_Symbol,e0]
 | u n y ihy =>
   intro i h
   obtain ⟨h1,h2,_,_⟩:=h.facts
   have hn:0≤n∧ar l n=1:=⟨h.1.1,h.1.2.1⟩
   have e:t[i]=n:=by rw [List.getD_eq_getElem?_getD,List.getElem?_eq_getElem h1] at h2; exact h2
   have hy:At l t (i+1) y:=by
    obtain ⟨hx,r,hr⟩:=h
    exact At.next hx.2.2 hr
   obtain ⟨y1,_,y3,_⟩:=hy.facts
   have yl:y.flat.length≤24:=by
    have:=(endAt_spec ht y1).2.1
    omega
   subst e
   obtain ⟨q,eq,hq,q1,q2,q3,q4⟩:=node_sym ok ht h1 hn.1
   have ei:t[i]?=some (q:Int):=by rw [List.getElem?_eq_getElem h1,eq]
   have e0:l[q].arity=1:=by omega
   have hn':¬ (q:Int) < 0:=by omega
   have ek:l[q]?=some l[q]:=List.getElem?_eq_getElem hq
   obtain ⟨s,es,hs⟩:=ihy (i+1) hy
   have b1:l[q].name.size+1≤9223372036854775807:=by omega
   have ee:=(l3End_at ok ht y1).eq
   refine ⟨(l[q].name++ByteArray.mk #[40])++s++ByteArray.mk #[41],lim_of rfl 2 ((spec_l4Text.ev _ _ _ _).trans ?_),?_⟩
   · simp only [evz,Nat.reduceLT,h1,ei,enc_int,hn',hq,get0 (l:=l) (k:=2) rfl,get1 (l:=l) (k:=2) rfl,ek,enc_Symbol,e0,lb,b1,wrap_succ (by omega:i < 9223372036854775807)]
     have c1:(l[q].name++ByteArray.mk #[40]).size+s.size≤9223372036854775807:=by rw [ByteArray.size_append,lb]; omega
     have c2:((l[q].name++ByteArray.mk #[40])++s).size+1≤9223372036854775807:=by rw [ByteArray.size_append,ByteArray.size_append,lb]; omega
     simp only [spec_l4Text.next0,spec_l4Text.round0,evz,Nat.reduceLT,es,c1,ee,rb,c2]
     rfl
   · rw [ByteArray.size_append,ByteArray.size_append,ByteArray.size_append,lb,rb]
     show _≤6*(t[i]::y.flat).length
     rw [List.length_cons]; omega
 | b n y z ihy ihz =>
   intro i h
   obtain ⟨h1,h2,_,_⟩:=h.facts
   have hn:0≤n∧ar l n=2:=⟨h.1.1,h.1.2.1⟩
   have e:t[i]=n:=by rw [List.getD_eq_getElem?_getD,List.getElem?_eq_getElem h1] at h2; exact h2
   have hy:At l t (i+1) y:=by
    obtain ⟨hx,r,hr⟩:=h
    exact At.next (n:=n) hx.2.2.1 (r:=z.flat++r) (by rw [hr]; simp [Tm.flat])
   obtain ⟨y1,_,y3,_⟩:=hy.facts
   have hz:At l t (endAt l t (i+1)) z:=by
    obtain ⟨hx,r,hr⟩:=h
    refine ⟨hx.2.2.2,r,?_⟩
    rw [y3,← List.drop_drop,← List.drop_drop,hr]
    simp [Tm.flat]
   obtain ⟨z1,_,z3,_⟩:=hz.facts
   have el:=(endAt_spec ht z1).2.1
   have yl:y.flat.length≤24:=by omega
   have zl:z.flat.length≤24:=by omega
   subst e
   obtain ⟨q,eq,hq,q1,q2,q3,q4⟩:=node_sym ok ht h1 hn.1
   have ei:t[i]?=some (q:Int):=by rw [List.getElem?_eq_getElem h1,eq]
   have e0:l[q].arity=2:=by omega
   have hn':¬ (q:Int) < 0:=by omega
   have ek:l[q]?=some l[q]:=List.getElem?_eq_getElem hq
   obtain ⟨s,es,hs⟩:=ihy (i+1) hy
   obtain ⟨s2,es2,hs2⟩:=ihz _ hz
   have b1:l[q].name.size+1≤9223372036854775807:=by omega
   have ee:=(l3End_at ok ht y1).eq
   have ee2:=(l3End_at ok ht z1).eq
   refine ⟨(((l[q].name++ByteArray.mk #[40])++s)++ByteArray.mk #[44])++s2++ByteArray.mk #[41],lim_of rfl 3 ((spec_l4Text.ev _ _ _ _).trans ?_),?_⟩
   · simp only [evz,Nat.reduceLT,h1,ei,enc_int,hn',hq,get0 (l:=l) (k:=2) rfl,get1 (l:=l) (k:=2) rfl,ek,enc_Symbol,e0,lb,b1,wrap_succ (by omega:i < 9223372036854775807)]
     have c1:(l[q].name++ByteArray.mk #[40]).size+s.size≤9223372036854775807:=by rw [ByteArray.size_append,lb]; omega
     have c2:((l[q].name++ByteArray.mk #[40])++s).size+1≤9223372036854775807:=by rw [ByteArray.size_append,ByteArray.size_append,lb]; omega
     have c3:(((l[q].name++ByteArray.mk #[40])++s)++ByteArray.mk #[44]).size+s2.size≤9223372036854775807:=by rw [ByteArray.size_append,ByteArray.size_append,ByteArray.size_append,lb,cm]; omega
     have c4:((((l[q].name++ByteArray.mk #[40])++s)++ByteArray.mk #[44])++s2).size+1≤9223372036854775807:=by rw [ByteArray.size_append,ByteArray.size_append,ByteArray.size_append,ByteArray.size_append,lb,cm]; omega
     simp only [spec_l4Text.next0,spec_l4Text.round0,evz,Nat.reduceLT,es,c1,ee,rb,c2,es2,ee2,cm,c3,c4]
     rfl
   · rw [ByteArray.size_append,ByteArray.size_append,ByteArray.size_append,ByteArray.size_append,ByteArray.size_append,lb,rb,cm]
     show _≤6*(t[i]::(y.flat++z.flat)).length
     rw [List.length_cons,List.length_append]; omega
theorem spec_l4Read (s:ByteArray) (hs:s.size≤1000):∃ t:List Int,Call F.spec_l4Read [.rref [slc l] 0,.str s] (slc t)∧t.length≤168:=by
 have hle:=ok.le
 simp only at hle
 suffices h:∃ r,callK prog A H LIM 0 F.spec_l4Read [.rref [slc l] 0,.str s]=r∧∃ t:List Int,r=some (slc t,[])∧t.length≤168 by
  obtain ⟨_,e,t,rfl,h⟩:=h
  exact ⟨t,call_of rfl _ e,h⟩
 refine ⟨_,spec_l4Read.ev _ _ _,?_⟩
 by_cases hb:(s.size:Int) > 168
 · simp only [evz,Nat.reduceLT,hb]; exact ⟨[],rfl,by simp⟩
 obtain ⟨t,b,en,ht⟩:=spec_l4Nodes (l:=l) (by omega) s hs
 simp only [evz,Nat.reduceLT,hb,en.eq,(spec_l3Fault l ok t (by omega)).eq]
 cases b with
 | false=>exact ⟨[],rfl,by simp⟩
 | true =>
   simp only [evz,Nat.reduceLT,Bool.not_true]
   by_cases h0:termFault0 l t=0
   · have ok':=(termOk_iff l t).1 h0
     obtain ⟨x,hx,_⟩:=TermOk.atZero ok ok'
     obtain ⟨w,ew,_⟩:=spec_l4TextAt ok ok' x 0 hx
     have ew:LIM F.spec_l4Text [.rref [slc l] 0,slc t,.int .i64 0]=some (.str w,[]):=ew
     simp only [h0,evz,Nat.reduceLT,ew,ne_eq,not_true_eq_false]
     split
     · exact ⟨t,rfl,by omega⟩
     · exact ⟨[],rfl,by simp⟩
   · simp only [h0,evz,Nat.reduceLT,ne_eq,not_false_eq_true]
     exact ⟨[],rfl,by simp⟩
theorem spec_ReadEquation (s:ByteArray) (hs:s.size≤1000):∃ (c:Int) (a b:List Int),Call F.spec_ReadEquation [.agg [slc l],.str s] (.agg [.int .i64 c,slc a,slc b])∧(c=0→EqOk l ⟨a,b⟩):=by
 have hle:=ok.le
 simp only at hle
 let Q:R→Prop:=fun r=>∃ (c:Int) (a b:List Int),r=some (.agg [.int .i64 c,slc a,slc b],[])∧(c=0→EqOk l ⟨a,b⟩)
 suffices h:∃ r,callK prog A H LIM 0 F.spec_ReadEquation [.agg [slc l],.str s]=r∧Q r by
  obtain ⟨_,e,c,a,b,rfl,h⟩:=h
  exact ⟨c,a,b,call_of rfl _ e,h⟩
 refine ⟨_,spec_ReadEquation.ev _ _ _,?_⟩
 have bad:Q (some (.agg [.int .i64 5,.sl 1 [],.sl 1 []],[])):=⟨5,[],[],rfl,by omega⟩
 obtain ⟨xs,ex,x1,x2⟩:=spec_l1Cut s hs 61
 have es:=(spec_SignatureFault l (by omega)).eq
 rw [(sigOk_iff _).2 ok] at es
 simp only [evz,Nat.reduceLT,es,ex.eq,List.length_map]
 by_cases hb:(s.size:Int) > 337
 · simp only [hb,evz,Nat.reduceLT]; exact bad
 simp only [hb,evz,Nat.reduceLT]
 match xs,x2 with
 | [x,y],x2 =>
   have hx:=x2 x (by simp)
   have hy:=x2 y (by simp)
   obtain ⟨a,ea,ha⟩:=spec_l4Read ok x (by omega)
   obtain ⟨b,eb,hb⟩:=spec_l4Read ok y (by omega)
   have ef:LIM F.spec_l4Fault [.rref [slc l] 0,.rref [.sl 1 (cells a),.sl 1 (cells b)] 0]=_:=(spec_l4Fault l ok a b (by omega) (by omega)).eq
   by_cases h0:eqFault l ⟨a,b⟩=0
   · have r:Q (some (.agg [.int .i64 0,.sl 1 (cells a),.sl 1 (cells b)],[])):=⟨0,a,b,rfl,fun _=>eqOk_iff.1 h0⟩
     simpa [ea.eq,eb.eq,ef,h0,inB] using r
   · simpa [ea.eq,eb.eq,ef,h0,inB] using bad
 | [],_=>simpa using bad
 | [x],_=>simpa using bad
 | x::y::z::r,_ =>
   have hne:¬ ((r.length:Int)+1+1+1=2):=by omega
   simpa [hne] using bad
end
end Ev.Ty
end
section
namespace Ev.Ty
open Go Ev
open Enc (enc)
open Sm (sm)
set_option linter.unusedSimpArgs false
set_option linter.unusedVariables false
set_option maxHeartbeats 2000000
set_option maxRecDepth 10000
theorem Grown.eq {l:List Symbol} {m n:Nat} {v w:Int} {a b:List Int} (ha:Grown l m v a) (hb:Grown l n w b) (h1:m≤24) (h2:n≤24) (h3:v≤6) (h4:w≤6):EqOk l ⟨a,b⟩ :=
 ⟨ha.ok h1 (by omega),hb.ok h2 (by omega),fun n hn=>by rcases ha.node n hn with h | h <;> omega,fun n hn=>by rcases hb.node n hn with h | h <;> omega⟩
theorem spec_TermFault (l:List Symbol) (hs:l.length≤4294967296) (t:List Int) (ht:t.length≤4294967296):Call F.spec_TermFault [.agg [slc l],slc t] (.int .i64 (termFault ⟨l⟩ t)):=by
 refine call_of rfl 0 ((spec_TermFault.ev _ _ _).trans ?_)
 simp only [evz,Nat.reduceLT,(spec_SignatureFault l hs).eq,termFault]
 by_cases h:sigFault ⟨l⟩=0
 · simp only [h,evz,Nat.reduceLT,ne_eq,not_true_eq_false,(spec_l3Fault l (sigOk_of h) t ht).eq]
 · simp only [h,evz,Nat.reduceLT,ne_eq,not_false_eq_true]
section
variable {code:List UInt8} (hc:code.length≤2097152)
include hc
theorem spec_l4Pool {l:List Symbol} (ok:SigOk ⟨l⟩) (p:Int) (hp:0≤p∧p≤1099510000000) :
 Drawn code p 6100 (fun x=>∃ a b:List Int,x = .agg [slc a,slc b]∧EqOk l ⟨a,b⟩) (LIM F.spec_l4Pool [.rref [slc code,.int .i64 p] 0,.rref [slc l] 0]):=by
 refine drawn_of rfl 20 ?_
 rw [show callK prog A H LIM 20 F.spec_l4Pool [.rref [slc code,.int .i64 p] 0,.rref [slc l] 0]=_ from spec_l4Pool.ev _ _ _ _]
 refine next_s hc (by omega) fun v h1 h2 => ?_
 have h2:=h2 (by omega)
 obtain ⟨v,rfl⟩:∃ n:Nat,v=n:=⟨v.toNat,by omega⟩
 simp only [evz,Nat.reduceLT]
 generalize hX:([.str _,.str _,.str _,.str _,.str _,.str _,.str _,.str _,.str _,.str _,.str _,.str _,.str _,.str _,.str _,.str _,.str _,.str _]:List T)=X
 have hlen:X.length=18:=by rw [← hX]; rfl
 have hX:∃ Y:List ByteArray,X=Y.map .str∧∀ y∈Y,y.size≤1000:=by
  subst hX
  refine ⟨[_,_,_,_,_,_,_,_,_,_,_,_,_,_,_,_,_,_],rfl,?_⟩
  intro y hy
  simp only [List.mem_cons,List.not_mem_nil,or_false] at hy
  rcases hy with rfl | rfl | rfl | rfl | rfl | rfl | rfl | rfl | rfl | rfl | rfl | rfl | rfl | rfl | rfl | rfl | rfl | rfl <;> decide
 obtain ⟨Y,rfl,hY⟩:=hX
 rw [List.length_map] at hlen
 refine draw_loop (σ:=Nat) (S:=fun m k=>spec_l4Pool.at0 20 m (spec_l4Pool.st0 (cells l) 18 (v:Nat) (k:Nat) (cells code) (p+1) (Y.map .str))) (fun k=>k≤18) (fun k=>18 - k) (fun m k hk => ?_) _ 0 (by omega) (by omega)
 by_cases h:k < 18
 · have hi:(v+k) % 18 < Y.length:=by omega
   have w:IntKind.wrap .i64 (((v:Nat):Int)+(k:Nat))=((v+k:Nat):Int):=by rw [wrap64 (by omega)]; omega
   have w2:Int.tmod ((v+k:Nat):Int) 18=(((v+k) % 18:Nat):Int):=by rw [Int.tmod_eq_emod_of_nonneg (by omega)]; omega
   have hk':((k:Nat):Int) < 18:=by omega
   have ei:Y[(v+k) % 18]?=some Y[(v+k) % 18]:=List.getElem?_eq_getElem hi
   obtain ⟨c,a,b,er,hr⟩:=spec_ReadEquation ok Y[(v+k) % 18] (hY _ (List.getElem_mem hi))
   by_cases h0:c=0
   · left
     subst h0
     simp only [spec_l4Pool.next0,spec_l4Pool.round0,evz,Nat.reduceLT,hk',w,w2,inB_nat,hi,List.length_map,List.getElem?_map,ei,Option.map_some,Option.bind_some,Int.toNat_natCast,Nat.mul_one,Nat.div_one,er.eq,show ¬ (18:Int)=0 by decide]
     exact drawn_end (by omega) ⟨a,b,rfl,hr rfl⟩
   · right
     refine ⟨k+1,?_,by omega,by omega⟩
     simp only [spec_l4Pool.next0,spec_l4Pool.round0,evz,Nat.reduceLT,hk',w,w2,inB_nat,hi,List.length_map,List.getElem?_map,ei,Option.map_some,Option.bind_some,Int.toNat_natCast,Nat.mul_one,Nat.div_one,er.eq,h0,show ¬ (18:Int)=0 by decide]
     rw [wrap_succ (by omega)]
 · left
   have hk':¬ ((k:Nat):Int) < 18:=by omega
   simp only [spec_l4Pool.next0,spec_l4Pool.round0,evz,Nat.reduceLT,hk']
   refine drawn_s (spec_l3Draw hc ok (p+1) 4 2 (by omega) (by omega) (by omega)) ?_
   rintro _ p1 a1 b1 ⟨a,rfl,ha⟩
   simp only [evz,Nat.reduceLT]
   refine drawn_s (spec_l3Draw hc ok p1 2 2 (by omega) (by omega) (by omega)) ?_
   rintro _ p2 a2 b2 ⟨b,rfl,hb⟩
   simp only [evz,Nat.reduceLT]
   exact drawn_end (by omega) ⟨a,b,rfl,ha.eq hb (by decide) (by decide) (by decide) (by decide)⟩
theorem spec_l4Draw {l:List Symbol} (ok:SigOk ⟨l⟩) (p:Int) (hp:0≤p∧p≤1099500000000) :
 Drawn code p 6200 (fun x=>∃ a b:List Int,x = .agg [slc a,slc b]∧EqOk l ⟨a,b⟩) (LIM F.spec_l4Draw [.rref [slc code,.int .i64 p] 0,.rref [slc l] 0]):=by
 refine drawn_of rfl 0 ?_
 rw [show callK prog A H LIM 0 F.spec_l4Draw [.rref [slc code,.int .i64 p] 0,.rref [slc l] 0]=_ from spec_l4Draw.ev _ _ _ _]
 refine chance_s hc (by omega) fun b => ?_
 simp only [evz,Nat.reduceLT]
 cases b with
 | true =>
   simp only [evz,Nat.reduceLT]
   refine pick_s hc [4,7,9] rfl (by simp) (by omega) fun v hv => ?_
   have hv':4≤v∧v≤9:=by
    simp only [List.mem_cons,List.not_mem_nil,or_false] at hv; omega
   simp only [evz,Nat.reduceLT]
   refine drawn_s (spec_l3Draw hc ok _ v 3 (by omega) (by omega) (by omega)) ?_
   rintro _ p1 a1 b1 ⟨a,rfl,ha⟩
   simp only [evz,Nat.reduceLT]
   refine pick_s hc [1,3,5] rfl (by simp) (by omega) fun w hw => ?_
   have hw':1≤w∧w≤5:=by
    simp only [List.mem_cons,List.not_mem_nil,or_false] at hw; omega
   simp only [evz,Nat.reduceLT]
   refine drawn_s (spec_l3Draw hc ok _ w 3 (by omega) (by omega) (by omega)) ?_
   rintro _ p2 a2 b2 ⟨b,rfl,hb⟩
   simp only [evz,Nat.reduceLT]
   exact drawn_end (by omega) ⟨a,b,rfl,ha.eq hb (by omega) (by omega) (by decide) (by decide)⟩
 | false =>
   simp only [evz,Nat.reduceLT]
   refine drawn_s (spec_l4Pool hc ok _ (by omega)) ?_
   rintro _ p1 a1 b1 ⟨a,b,rfl,h⟩
   simp only [evz,Nat.reduceLT]
   exact drawn_end (by omega) ⟨a,b,rfl,h⟩
theorem spec_l4BentEquation {l:List Symbol} (hl:l.length≤1000) (p:Int) (hp:0≤p∧p≤1099490000000) :
 Drawn code p 6500 (fun x=>∃ a b:List Int,x = .agg [slc a,slc b]∧a.length≤1001∧b.length≤1001) (LIM F.spec_l4BentEquation [.rref [slc code,.int .i64 p] 0,.rref [slc l] 0]):=by
 refine drawn_of rfl 0 ?_
 rw [show callK prog A H LIM 0 F.spec_l4BentEquation [.rref [slc code,.int .i64 p] 0,.rref [slc l] 0]=_ from spec_l4BentEquation.ev _ _ _ _]
 simp only [evz,Nat.reduceLT,(spec_SignatureFault l (by omega)).eq]
 by_cases h0:sigFault ⟨l⟩=0
 case neg =>
  simp only [h0,evz,Nat.reduceLT,ne_eq,not_false_eq_true]
  exact drawn_end (by omega) ⟨[0],[0],rfl,by simp,by simp⟩
 have ok:=sigOk_of h0
 simp only [h0,evz,Nat.reduceLT,ne_eq,not_true_eq_false]
 refine chance_s hc (by omega) fun b => ?_
 simp only [evz,Nat.reduceLT]
 cases b with
 | true =>
   simp only [evz,Nat.reduceLT]
   refine drawn_s (spec_l3BentTerm hc _ 9 7 l hl (by omega) (by omega) (by omega)) ?_
   rintro _ p1 a1 b1 ⟨a,rfl,ha⟩
   simp only [evz,Nat.reduceLT]
   refine drawn_s (spec_l3BentTerm hc _ 5 12 l hl (by omega) (by omega) (by omega)) ?_
   rintro _ p2 a2 b2 ⟨b,rfl,hb⟩
   simp only [evz,Nat.reduceLT]
   exact drawn_end (by omega) ⟨a,b,rfl,ha,hb⟩
 | false =>
   simp only [evz,Nat.reduceLT]
   refine drawn_s (spec_l4Draw hc ok _ (by omega)) ?_
   rintro _ p1 a1 b1 ⟨a,b,rfl,h⟩
   simp only [evz,Nat.reduceLT]
   have h1:=h.left.le
   have h2:=h.right.le
   simp only at h1 h2
   exact drawn_end (by omega) ⟨a,b,rfl,by omega,by omega⟩
omit hc in
theorem spec_ReplaceAt (l:List Symbol) (hl:l.length≤1000) (t:List Int) (ht:t.length≤2000) (n:Int) (u:List Int) (hu:u.length≤1000000):∃ (c:Int) (r:List Int),Call F.spec_ReplaceAt [.agg [slc l],slc t,.int .i64 n,slc u] (.agg [.int .i64 c,slc r])∧r.length≤24:=by
 suffices h:∃ r,callK prog A H LIM 0 F.spec_ReplaceAt [.agg [slc l],slc t,.int .i64 n,slc u]=r∧∃ (c:Int) (x:List Int),r=some (.agg [.int .i64 c,slc x],[])∧x.length≤24 by
  obtain ⟨_,e,c,x,rfl,h⟩:=h
  exact ⟨c,x,call_of rfl _ e,h⟩
 have bad:∀ c:Int,∃ (c':Int) (x:List Int),(some (.agg [.int .i64 c,.sl 1 []],[]):R)=some (.agg [.int .i64 c',slc x],[])∧x.length≤24:=fun c=>⟨c,[],rfl,by simp⟩
 refine ⟨_,spec_ReplaceAt.ev _ _ _ _ _,?_⟩
 simp only [evz,Nat.reduceLT,(spec_TermFault l (by omega) t (by omega)).eq,(spec_l3Place t n (by omega)).eq]
 by_cases h1:termFault ⟨l⟩ t=0
 case neg=>simp only [h1,evz,Nat.reduceLT,ne_eq,not_false_eq_true]; exact bad _
 have hs:sigFault ⟨l⟩=0:=Classical.byContradiction fun hne=>by unfold termFault at h1; rw [if_pos hne] at h1; exact hne h1
 have ok:=sigOk_of hs
 have ht':TermOk l t:=(termOk_iff l t).1 (by rw [termFault,if_neg (by simpa using hs)] at h1; exact h1)
 simp only [h1,evz,Nat.reduceLT,ne_eq,not_true_eq_false,(spec_l3Fault l ok u (by omega)).eq]
 cases h2:inR n 0 (t.length - 1)
 · simp only [evz,Nat.reduceLT,Bool.not_false]; exact bad _
 · obtain ⟨q,rfl⟩:∃ q:Nat,n=q:=⟨n.toNat,by unfold inR at h2; simp only [Bool.and_eq_true,decide_eq_true_eq] at h2; omega⟩
   have hq:q < t.length:=by unfold inR at h2; simp only [Bool.and_eq_true,decide_eq_true_eq] at h2; omega
   simp only [evz,Nat.reduceLT,Bool.not_true]
   by_cases h3:termFault0 l u=0
   · simp only [h3,evz,Nat.reduceLT,ne_eq,not_true_eq_false,(spec_l3Replace ok ht' hq u (by omega)).eq]
     split
     · exact bad _
     · exact ⟨0,_,rfl,by omega⟩
   · simp only [h3,evz,Nat.reduceLT,ne_eq,not_false_eq_true]; exact bad _
end
end Ev.Ty
end
section
namespace Ev.Ty
open Go Ev
open Enc (enc)
open Sm (sm)
set_option linter.unusedSimpArgs false
set_option linter.unusedVariables false
set_option maxHeartbeats 2000000
set_option maxRecDepth 10000
structure BindS (vs:List Int) (ts:List (List Int)):Prop where
 vlen:vs.length≤12
 tlen:ts.length≤12
 size:∀ t∈ts,t.length≤1001
section
variable {code:List UInt8} (hc:code.length≤2097152)
include hc
theorem spec_l6Draw {l:List Symbol} (ok:SigOk ⟨l⟩) (p n:Int) (hn:0≤n∧n≤12) (hp:0≤p∧p≤1099490000000) :
 Drawn code p 40000 (fun x=>∃ vs ts,x = .agg [slc vs,slc ts]∧BindS vs ts∧BindOk vs ts) (LIM F.spec_l6Draw [.rref [slc code,.int .i64 p] 0,.rref [slc l] 0,.int .i64 n]):=by
 refine drawn_of rfl 20 ?_
 rw [show callK prog A H LIM 20 F.spec_l6Draw [.rref [slc code,.int .i64 p] 0,.rref [slc l] 0,.int .i64 n]=_ from spec_l6Draw.ev _ _ _ _ _]
 refine draw_loop (σ:=Int × Int × List Int × List (List Int)) (S:=fun m s=>spec_l6Draw.at0 20 m (spec_l6Draw.st0 (cells l) n s.1 (cells code) s.2.1 (cells s.2.2.1) (cells s.2.2.2))) (fun s=>0≤s.1∧s.1≤n∧p≤s.2.1∧s.2.1≤p+s.1*3003∧(s.2.2.1.length:Int)≤s.1∧s.2.2.1.length=s.2.2.2.length∧(∀ v∈s.2.2.1,0≤v)∧∀ t∈s.2.2.2,1≤t.length∧t.length≤1001) (fun s=>(n - s.1).toNat) (fun m s hs => ?_) _ (0,p,[],[]) ⟨by simp only; omega,by simp only; omega,by simp only; omega,by simp only; omega,by simp,by simp,by simp,by simp⟩ (by simp only; omega)
 obtain ⟨k,q,vs,ts⟩:=s
 obtain ⟨h1,h2,h3,h4,h5,h6,h8,h7⟩:=hs
 simp only at h1 h2 h3 h4 h5 h6 h8 h7 ⊢
 by_cases hk:k < n
 case neg =>
  left
  simp only [spec_l6Draw.next0,spec_l6Draw.round0,evz,Nat.reduceLT,hk]
  exact drawn_end (by omega) ⟨vs,ts,rfl,⟨by omega,by omega,fun t ht=>(h7 t ht).2⟩,⟨h6,by omega,h8,fun t ht=>⟨(h7 t ht).1,by have:=(h7 t ht).2; omega⟩⟩⟩
 right
 have wk:IntKind.wrap .i64 (k+1)=k+1:=wrap64 (by omega)
 obtain ⟨b,ec⟩:=spec_l1Chance hc q 3 (by omega)
 cases b with
 | true =>
   refine ⟨(k+1,q+1,vs,ts),?_,⟨by simp only; omega,by simp only; omega,by simp only; omega,by simp only; omega,by simp only; omega,h6,h8,h7⟩,by simp only; omega⟩
   simp only [spec_l6Draw.next0,spec_l6Draw.round0,evz,Nat.reduceLT,hk,ec,wk,Bool.not_true]
 | false =>
   obtain ⟨v,hv,ep⟩:=spec_l1Pick hc (q+1) [1,3,4] (ts:=[.int .i64 1,.int .i64 3,.int .i64 4]) rfl (by simp) (by omega)
   have hv':1≤v∧v≤4:=by
    simp only [List.mem_cons,List.not_mem_nil,or_false] at hv; omega
   obtain ⟨_,q2,et,c1,c2,t,rfl,ht⟩:=spec_l3Draw hc ok (q+1+1) v 4 (by omega) (by omega) (by omega)
   have htl:=ht.le
   refine ⟨(k+1,q2,vs++[k],ts++[t]),?_,⟨by simp only; omega,by simp only; omega,by simp only; omega,by simp only; omega,by simp; omega,by simp [h6],fun x hx => ?_,fun x hx => ?_⟩,by simp only; omega⟩
   · simp only [spec_l6Draw.next0,spec_l6Draw.round0,evz,Nat.reduceLT,hk,ec,wk,Bool.not_false,ep,et]
     rw [cond_pos (ble_ok (by rw [cells_length]; simp only [sz_int]; omega)),cond_pos (ble_ok (by rw [cells_length]; simp only [sz_list]; omega)),cells_snoc_list,cells_snoc_int]
   · rcases List.mem_append.1 hx with h | h
     · exact h8 x h
     · rw [List.mem_singleton.1 h]; omega
   · rcases List.mem_append.1 hx with h | h
     · exact h7 x h
     · rw [List.mem_singleton.1 h]; exact ⟨ht.pos,by omega⟩
end
end Ev.Ty
end
section
namespace Ev.Ty
open Go Ev
open Enc (enc)
open Sm (sm)
set_option linter.unusedSimpArgs false
set_option linter.unusedVariables false
section
variable (e:Nat→Nat) (f:Nat→Int)
def downStep (k:Nat) (s:Int × Int):Int × Int:=if s.1 ≥ 0∧e k ≥ e s.1.toNat then s else if f k ≥ 0 then ((k:Int),f k) else s
def down:Nat→Int × Int→Int × Int
 | 0,s=>s
 | k+1,s=>down k (downStep e f k s)
def upStep (s:Int × Int × Int) (k:Nat):Int × Int × Int:=if (e k:Int) > s.2.2 then s else if f k ≥ 0 then ((k:Int),f k,(e k:Int)) else s
def IsBest (lo hi:Nat) (s:Int × Int):Prop :=
 (s=(-1,-1)∧∀ a,lo≤a→a < hi→f a < 0) ∨
  ∃ a,lo≤a∧a < hi∧s=((a:Int),f a)∧f a ≥ 0∧∀ a',lo≤a'→a' < hi→f a' ≥ 0→e a < e a'∨(e a=e a'∧a'≤a)
theorem IsBest.down {k n:Nat} {s:Int × Int} (h:IsBest e f (k+1) n s) (hk:k < n):IsBest e f k n (downStep e f k s):=by
 unfold downStep
 rcases h with ⟨rfl,h⟩ | ⟨a,h1,h2,rfl,h3,h4⟩
 · rw [if_neg (by simp)]
   by_cases hf:f k ≥ 0
   · rw [if_pos hf]
     refine .inr ⟨k,Nat.le_refl _,hk,rfl,hf,fun a' q1 q2 q3 => ?_⟩
     by_cases hak:a'=k
     · subst hak; exact .inr ⟨rfl,Nat.le_refl _⟩
     · have:=h a' (by omega) q2; omega
   · rw [if_neg hf]
     refine .inl ⟨rfl,fun a' q1 q2 => ?_⟩
     by_cases hak:a'=k
     · subst hak; omega
     · exact h a' (by omega) q2
 · by_cases hc:e k ≥ e a
   · rw [if_pos ⟨by simp,by simpa using hc⟩]
     refine .inr ⟨a,by omega,h2,rfl,h3,fun a' q1 q2 q3 => ?_⟩
     by_cases hak:a'=k
     · subst hak
       rcases Nat.lt_or_ge (e a) (e a') with q | q
       · exact .inl q
       · exact .inr ⟨by omega,by omega⟩
     · exact h4 a' (by omega) q2 q3
   · rw [if_neg (by simp only [Int.toNat_natCast]; exact fun h=>hc h.2)]
     by_cases hf:f k ≥ 0
     · rw [if_pos hf]
       refine .inr ⟨k,Nat.le_refl _,hk,rfl,hf,fun a' q1 q2 q3 => ?_⟩
       by_cases hak:a'=k
       · subst hak; exact .inr ⟨rfl,Nat.le_refl _⟩
       · rcases h4 a' (by omega) q2 q3 with q | q <;> exact .inl (by omega)
     · rw [if_neg hf]
       refine .inr ⟨a,by omega,h2,rfl,h3,fun a' q1 q2 q3 => ?_⟩
       by_cases hak:a'=k
       · subst hak; omega
       · exact h4 a' (by omega) q2 q3
theorem down_best (n:Nat):∀ (k:Nat) (s:Int × Int),k≤n→IsBest e f k n s→IsBest e f 0 n (down e f k s)
 | 0,s,_,h=>h
 | k+1,s,hk,h=>down_best n k _ (by omega) (h.down e f (by omega))
theorem IsBest.up {k:Nat} {s:Int × Int × Int} (he:∀ a,e a≤24) (h:IsBest e f 0 k (s.1,s.2.1)) (hs:(s.1 = -1∧s.2.2=25)∨∃ a:Nat,s.1=a∧s.2.2=e a) :
 IsBest e f 0 (k+1) ((upStep e f s k).1,(upStep e f s k).2.1)∧(((upStep e f s k).1 = -1∧(upStep e f s k).2.2=25)∨∃ a:Nat,(upStep e f s k).1=a∧(upStep e f s k).2.2=e a):=by
 have hek:=he k
 obtain ⟨p,r,d⟩:=s
 unfold upStep
 simp only at h hs ⊢
 rcases h with ⟨hp,h⟩ | ⟨a,h1,h2,hp,h3,h4⟩
 · simp only [Prod.mk.injEq] at hp
   obtain ⟨rfl,rfl⟩:=hp
   have hd:d=25:=by
    rcases hs with ⟨_,h⟩ | ⟨a,h,_⟩
    · exact h
    · omega
   subst hd
   rw [if_neg (by omega)]
   by_cases hf:f k ≥ 0
   · rw [if_pos hf]
     refine ⟨.inr ⟨k,by omega,by omega,rfl,hf,fun a' q1 q2 q3 => ?_⟩,.inr ⟨k,rfl,rfl⟩⟩
     by_cases hak:a'=k
     · subst hak; exact .inr ⟨rfl,Nat.le_refl _⟩
     · have:=h a' (by omega) (by omega); omega
   · rw [if_neg hf]
     refine ⟨.inl ⟨rfl,fun a' q1 q2 => ?_⟩,.inl ⟨rfl,rfl⟩⟩
     by_cases hak:a'=k
     · subst hak; omega
     · exact h a' (by omega) (by omega)
 · simp only [Prod.mk.injEq] at hp
   obtain ⟨rfl,rfl⟩:=hp
   have hd:d=e a:=by
    rcases hs with ⟨h,_⟩ | ⟨a',h,h'⟩
    · omega
    · have:a=a':=by omega
      rw [this]; exact h'
   subst hd
   by_cases hc:(e k:Int) > e a
   · rw [if_pos hc]
     refine ⟨.inr ⟨a,by omega,by omega,rfl,h3,fun a' q1 q2 q3 => ?_⟩,.inr ⟨a,rfl,rfl⟩⟩
     by_cases hak:a'=k
     · subst hak; exact .inl (by omega)
     · exact h4 a' (by omega) (by omega) q3
   · rw [if_neg hc]
     by_cases hf:f k ≥ 0
     · rw [if_pos hf]
       refine ⟨.inr ⟨k,by omega,by omega,rfl,hf,fun a' q1 q2 q3 => ?_⟩,.inr ⟨k,rfl,rfl⟩⟩
       by_cases hak:a'=k
       · subst hak; exact .inr ⟨rfl,Nat.le_refl _⟩
       · rcases h4 a' (by omega) (by omega) q3 with q | ⟨q,_⟩
         · exact .inl (by omega)
         · rcases Nat.lt_or_ge (e k) (e a') with q' | q'
           · exact .inl q'
           · exact .inr ⟨by omega,by omega⟩
     · rw [if_neg hf]
       refine ⟨.inr ⟨a,by omega,by omega,rfl,h3,fun a' q1 q2 q3 => ?_⟩,.inr ⟨a,rfl,rfl⟩⟩
       by_cases hak:a'=k
       · subst hak; omega
       · exact h4 a' (by omega) (by omega) q3
theorem IsBest.unique {n:Nat} {s s':Int × Int} (h:IsBest e f 0 n s) (h':IsBest e f 0 n s'):s=s':=by
 rcases h with ⟨rfl,h⟩ | ⟨a,h1,h2,rfl,h3,h4⟩ <;> rcases h' with ⟨rfl,h'⟩ | ⟨b,k1,k2,rfl,k3,k4⟩
 · rfl
 · have:=h b (by omega) k2; omega
 · have:=h' a (by omega) h2; omega
 · have q1:=h4 b (by omega) k2 k3
   have q2:=k4 a (by omega) h2 h3
   have:a=b:=by omega
   rw [this]
def upAll (n:Nat):Int × Int × Int:=(List.range n).foldl (upStep e f) (-1,-1,25)
theorem upAll_best (he:∀ a,e a≤24):∀ n,IsBest e f 0 n ((upAll e f n).1,(upAll e f n).2.1)∧(((upAll e f n).1 = -1∧(upAll e f n).2.2=25)∨∃ a:Nat,(upAll e f n).1=a∧(upAll e f n).2.2=e a)
 | 0=>⟨.inl ⟨rfl,fun a _ h=>by omega⟩,.inl ⟨rfl,rfl⟩⟩
 | n+1=>by
   have ih:=upAll_best he n
   have e0:upAll e f (n+1)=upStep e f (upAll e f n) n:=by unfold upAll; rw [List.range_succ,List.foldl_append]; rfl
   rw [e0]
   exact ih.1.up e f he ih.2
theorem down_up (he:∀ a,e a≤24) (n:Nat):down e f n (-1,-1)=((upAll e f n).1,(upAll e f n).2.1) :=
 (down_best e f n n (-1,-1) (Nat.le_refl _) (.inl ⟨rfl,fun a _ h=>by omega⟩)).unique e f (upAll_best e f he n).1
end
def fits (l:List Symbol) (rs:List Equation) (t:List Int) (p:Nat):Int:=idx (fun e=>(matchAt l e.left t p).isSome) rs
def redex (l:List Symbol) (rs:List Equation) (t:List Int):Int × Int:=down (endAt l t) (fits l rs t) t.length (-1,-1)
theorem endAt_le (l:List Symbol) (t:List Int) (p:Nat):endAt l t p≤t.length:=by
 unfold endAt
 split <;> omega
theorem redex_up {l:List Symbol} {rs:List Equation} {t:List Int} (ht:TermOk l t):redex l rs t=((upAll (endAt l t) (fits l rs t) t.length).1,(upAll (endAt l t) (fits l rs t) t.length).2.1) :=
 down_up _ _ (fun a=>Nat.le_trans (endAt_le l t a) ht.le) _
theorem redex_at {l:List Symbol} {rs:List Equation} {t:List Int}:redex l rs t=(-1,-1)∨∃ a k:Nat,∃ h:k < rs.length,a < t.length∧redex l rs t=((a:Int),(k:Int))∧(matchAt l rs[k].left t a).isSome=true:=by
 rcases down_best (endAt l t) (fits l rs t) t.length t.length (-1,-1) (Nat.le_refl _) (.inl ⟨rfl,fun a _ h=>by omega⟩) with ⟨h,_⟩ | ⟨a,_,h2,h3,h4,_⟩
 · exact .inl h
 · rcases idx_spec (fun e:Equation=>(matchAt l e.left t a).isSome) rs with ⟨h5,_⟩ | ⟨k,hk,h5,h6,_⟩
   · have:fits l rs t a = -1:=h5
     omega
   · have e1:fits l rs t a=(k:Nat):=h5
     exact .inr ⟨a,k,hk,h2,by unfold redex; rw [h3,e1],h6⟩
theorem skip_applied {l:List Symbol} {b:Bnd} {k:Nat} (hb:MB l b k) (hk:k≤24):∀ (q x:List Int) (m:Nat),skip (ar l) m q=some []→skip (ar l) m (applied b.1 b.2 q++x)=some x
 | [],x,m,h=>by
   obtain ⟨rfl,_⟩:=skip_nil h
   rw [skip_zero]; rfl
 | n::q,x,m,h=>by
   cases m with
   | zero=>rw [skip_zero] at h; cases h
   | succ m =>
     rw [skip] at h
     have ih:=skip_applied hb hk q x _ h
     have e:applied b.1 b.2 (n::q)=(bindOf b.1 b.2 (-1 - n)).getD [n]++applied b.1 b.2 q:=by simp [applied]
     rw [e,List.append_assoc]
     cases ho:bindOf b.1 b.2 (-1 - n) with
     | none =>
       show skip (ar l) (m+1) (n::(applied b.1 b.2 q++x))=_
       rw [skip]; exact ih
     | some o =>
       have hn:n < 0:=by
        rcases Int.lt_or_le n 0 with h | h
        · exact h
        · rw [bindOf_neg (hb.ok hk) (by omega)] at ho; cases ho
       rw [ar_neg l hn,Nat.add_zero] at ih
       have ht:=hb.tm o (bindOf_mem ho)
       show skip (ar l) (m+1) (o++(applied b.1 b.2 q++x))=_
       rw [show m+1=1+m by omega,skip_add,skip_append ht.skip]
       exact ih
theorem skip_repl {a:Int→Nat} {y y' z:List Int} (hy:skip a 1 (y++z)=some z) (hy':skip a 1 (y'++z)=some z):∀ (x:List Int) (k:Nat),skip a k (x++(y++z))=some []→skip a k (x++(y'++z))=some []
 | [],0,h=>by
   rw [skip_zero] at h
   rw [List.nil_append] at h
   rw [Option.some.inj h] at hy
   cases hy
 | [],k+1,h=>by
   rw [List.nil_append,show k+1=1+k by omega,skip_add] at h ⊢
   rw [hy] at h
   rw [hy']
   exact h
 | n::x,0,h=>by rw [skip_zero] at h; cases h
 | n::x,k+1,h=>by
   rw [List.cons_append,skip] at h ⊢
   exact skip_repl hy hy' x _ h
theorem applied_node {l:List Symbol} {b:Bnd} {k:Nat} (hb:MB l b k) {q:List Int} (hq:∀ n∈q,nodeOk l n=true):∀ n∈applied b.1 b.2 q,nodeOk l n=true:=fun n hn=>by
 unfold applied at hn
 obtain ⟨m,hm,hn⟩:=List.mem_flatMap.1 hn
 cases ho:bindOf b.1 b.2 (-1 - m) with
 | none=>rw [ho] at hn; rw [List.mem_singleton.1 hn]; exact hq m hm
 | some o=>rw [ho] at hn; exact (hb.tm o (bindOf_mem ho)).node n hn
theorem repl_ok {l:List Symbol} {t q:List Int} (ht:TermOk l t) (hq:TermOk l q) {p:Nat} (hp:p < t.length) {b:Bnd} {k:Nat} (hb:MB l b k) (hk:k≤24) (h:(replAt l t p (applied b.1 b.2 q)).length≤24) :
 TermOk l (replAt l t p (applied b.1 b.2 q)):=by
 obtain ⟨h1,h2,h3⟩:=sub_split ht hp
 have hs:skip (ar l) 1 (replAt l t p (applied b.1 b.2 q))=some []:=by
  unfold replAt
  rw [List.append_assoc]
  refine skip_repl (y:=subAt l t p) (by rw [← h1]; exact h3) (skip_applied hb hk q _ 1 hq.skip) (t.take p) 1 ?_
  rw [← h1,List.take_append_drop]
  exact ht.skip
 refine ⟨?_,h,fun n hn => ?_,hs⟩
 · rcases Nat.eq_zero_or_pos (replAt l t p (applied b.1 b.2 q)).length with h | h
   · rw [List.eq_nil_of_length_eq_zero h] at hs; cases hs
   · exact h
 · unfold replAt at hn
   rcases List.mem_append.1 hn with hn | hn
   · rcases List.mem_append.1 hn with hn | hn
     · exact ht.node n (List.mem_of_mem_take hn)
     · exact applied_node hb hq.node n hn
   · exact ht.node n (List.mem_of_mem_drop hn)
def stepAt (l:List Symbol) (e:Equation) (t:List Int) (p:Nat):TermResult:=match matchAt l e.left t p with
 | none=>⟨4,[]⟩
 | some b=>if 24 < (replAt l t p (applied b.1 b.2 e.right)).length then ⟨2,[]⟩ else ⟨0,replAt l t p (applied b.1 b.2 e.right)⟩
theorem stepAt_ok {l:List Symbol} {e:Equation} {t:List Int} (he:EqOk l e) (ht:TermOk l t) {p:Nat} (hp:p < t.length) (h:(stepAt l e t p).code=0):TermOk l (stepAt l e t p).term:=by
 unfold stepAt at h ⊢
 cases hm:matchAt l e.left t p with
 | none=>rw [hm] at h; cases h
 | some b =>
   rw [hm] at h
   simp only at h ⊢
   split at h
   · cases h
   · rename_i h24
     rw [if_neg h24]
     have hb:=matchAt_ok he.left ht hp hm
     exact repl_ok ht he.right hp hb he.left.le (by omega)
def norm (l:List Symbol) (rs:List Equation):Nat→Nat→List Int→NormalResult
 | 0,k,t=>if (redex l rs t).1 < 0 then ⟨0,t,k⟩ else ⟨9,[],0⟩
 | m+1,k,t=>if (redex l rs t).1 < 0 then ⟨0,t,k⟩ else
   if (stepAt l (rs.getD (redex l rs t).2.toNat ⟨[],[]⟩) t (redex l rs t).1.toNat).code≠0 then ⟨(stepAt l (rs.getD (redex l rs t).2.toNat ⟨[],[]⟩) t (redex l rs t).1.toNat).code,[],0⟩
   else norm l rs m (k+1) (stepAt l (rs.getD (redex l rs t).2.toNat ⟨[],[]⟩) t (redex l rs t).1.toNat).term
def rewriteFault (s:Signature) (rs:List Equation) (t:List Int):Int:=if rulesFault s rs≠0 then rulesFault s rs else termFault0 s.symbols t
def findRedexR (s:Signature) (rs:List Equation) (t:List Int):RedexResult :=
 if rewriteFault s rs t≠0 then ⟨rewriteFault s rs t,0,0⟩ else if (redex s.symbols rs t).1 < 0 then ⟨4,0,0⟩ else ⟨0,(redex s.symbols rs t).1,(redex s.symbols rs t).2⟩
def normalFormR (s:Signature) (rs:List Equation) (t:List Int) (fuel:Int):NormalResult :=
 if rewriteFault s rs t≠0 then ⟨rewriteFault s rs t,[],0⟩ else if inR fuel 0 200=false then ⟨3,[],0⟩ else norm s.symbols rs fuel.toNat 0 t
def areJoinedR (s:Signature) (rs:List Equation) (a b:List Int) (fuel:Int):IntResult :=
 if (normalFormR s rs a fuel).code≠0 then ⟨(normalFormR s rs a fuel).code,0⟩ else if (normalFormR s rs b fuel).code≠0 then ⟨(normalFormR s rs b fuel).code,0⟩ else
  if (normalFormR s rs a fuel).term=(normalFormR s rs b fuel).term then ⟨0,1⟩ else ⟨0,0⟩
end Ev.Ty
end
section
namespace Ev.Ty
open Go Ev
open Enc (enc)
open Sm (sm)
set_option linter.unusedSimpArgs false
set_option linter.unusedVariables false
theorem ins_take {α:Type} {l:List α} {i k:Nat} (x:α) (hi:i≤k) (hk:k < l.length):(ins l i x).take (k+2)=(ins l i x).take (k+1)++[l[k]]:=by
 have hlen:=ins_length l i x (by omega)
 have h:k+1 < (ins l i x).length:=by omega
 have e:(ins l i x)[k+1]=l[k]:=by
  have:=ins_get l x i (by omega) (k+1)
  rw [if_neg (by omega),if_neg (by omega),Nat.add_sub_cancel,List.getElem?_eq_getElem hk] at this
  have h2:(ins l i x)[k+1]?=some l[k]:=this
  rw [List.getElem?_eq_getElem h] at h2
  exact Option.some.inj h2
 rw [← e]
 exact (List.take_append_getElem h).symm
theorem ins_take_eq {α:Type} {l:List α} {i:Nat} (x:α) (hi:i≤l.length):(ins l i x).take (i+1)=l.take i++[x]:=by
 unfold ins
 rw [List.take_append,List.take_of_length_le (by simp; omega)]
 simp [Nat.min_eq_left hi]
theorem ins_end {α:Type} (l:List α) (x:α):ins l l.length x=l++[x]:=by simp [ins]
theorem slices_Insert_Sint64 (vs:List Int) (i:Nat) (v:Int) (hi:i≤vs.length) (hl:vs.length < 4294967296):Call F.slices_Insert_Sint64 [slc vs,.int .i64 i,.sl 1 [.int .i64 v]] (slc (ins vs i v)):=by
 refine lim_ext (e:=insE 8) rfl (Ev.of fun m => ?_)
 have hc:(cells vs).length=vs.length:=by rw [cells_length,sz_int,Nat.mul_one]
 show (bif _ then _ else _)=_
 rw [cond_pos (by simp [hc,hl,Nat.ble_eq]; omega)]
 have e1:=cells_take vs 1 i rfl
 have e2:=cells_drop vs 1 i rfl
 rw [Nat.mul_one] at e1 e2
 rw [Int.toNat_natCast,e1,e2]
 show some (T.sl 1 (cells (vs.take i)++T.int .i64 v::cells (vs.drop i)),[])=_
 unfold ins slc
 rw [cells_append,cells_cons]
 rfl
theorem slices_Insert_SSint64 (ts:List (List Int)) (i:Nat) (t:List Int) (hi:i≤ts.length) (hl:ts.length < 4294967296):Call F.slices_Insert_SSint64 [slc ts,.int .i64 i,.sl 1 [slc t]] (slc (ins ts i t)):=by
 refine lim_ext (e:=insE 24) rfl (Ev.of fun m => ?_)
 have hc:(cells ts).length=ts.length:=by rw [cells_length,show Enc.sz (List Int)=1 from rfl,Nat.mul_one]
 show (bif _ then _ else _)=_
 rw [cond_pos (by simp [hc,hl,Nat.ble_eq]; omega)]
 have e1:=cells_take ts 1 i rfl
 have e2:=cells_drop ts 1 i rfl
 rw [Nat.mul_one] at e1 e2
 rw [Int.toNat_natCast,e1,e2]
 show some (T.sl 1 (cells (ts.take i)++slc t::cells (ts.drop i)),[])=_
 unfold ins
 show _=some (T.sl 1 (cells (ts.take i++t::ts.drop i)),[])
 rw [cells_append,cells_cons]
 rfl
theorem impl_Binding_bind (vs:List Int) (ts:List (List Int)) (v:Int) (t:List Int) (hl:vs.length=ts.length) (hs:vs.length≤1000) (ht:t.length≤4294967296) :
 LIM F.impl_Binding_bind [.rref [slc vs,slc ts] 0,.int .i64 v,slc t]=some (.tup [],[.agg [slc (bput (vs,ts) v t).1,slc (bput (vs,ts) v t).2]]):=by
 have hi:=insAt_le vs v
 refine call2_of rfl 1002 ((impl_Binding_bind.ev _ _ _ _ _).trans ?_)
 have loop:∀ n k f,k+n=insAt vs v→n < f→impl_Binding_bind.at0 1002 f (impl_Binding_bind.st0 v (cells t) (k:Nat) (cells vs) (cells ts))=some (.tup [],[.agg [slc (bput (vs,ts) v t).1,slc (bput (vs,ts) v t).2]]):=by
  intro n
  induction n with
  | zero =>
    intro k f hk hf
    obtain ⟨f,rfl⟩:∃ x,f=x+1:=⟨f - 1,by omega⟩
    obtain rfl:k=insAt vs v:=by omega
    have q1:=(slices_Insert_Sint64 vs (insAt vs v) v hi (by omega)).eq
    have q2:=(slices_Insert_SSint64 ts (insAt vs v) t (by omega) (by omega)).eq
    by_cases h:insAt vs v < vs.length
    · have hs:=insAt_stop vs v h
      have hlk:vs[insAt vs v]?=some vs[insAt vs v]:=List.getElem?_eq_getElem h
      simp only [impl_Binding_bind.next0,impl_Binding_bind.round0,evz,Nat.reduceLT,h,hlk,enc_int,hs,q1,(slices_Clone_Sint64 t ht).eq,q2]
      rfl
    · simp only [impl_Binding_bind.next0,impl_Binding_bind.round0,evz,Nat.reduceLT,h,q1,(slices_Clone_Sint64 t ht).eq,q2]
      rfl
  | succ n ih =>
    intro k f hk hf
    obtain ⟨f,rfl⟩:∃ x,f=x+1:=⟨f - 1,by omega⟩
    have h:k < vs.length:=by omega
    have hlt:=insAt_lt vs v k (by omega) h
    have hlk:vs[k]?=some vs[k]:=List.getElem?_eq_getElem h
    simp only [impl_Binding_bind.next0,impl_Binding_bind.round0,evz,Nat.reduceLT,h,hlk,enc_int,hlt]
    rw [wrap_succ (by omega)]
    exact ih (k+1) f (by omega) (by omega)
 exact loop (insAt vs v) 0 1002 (by omega) (by omega)
def withSt (vs:List Int) (ts:List (List Int)) (v:Int) (t:List Int) (k:Nat):Bool × List Int × List (List Int) :=
 if k≤insAt vs v then (false,vs.take k,ts.take k) else (true,(ins vs (insAt vs v) v).take (k+1),(ins ts (insAt vs v) t).take (k+1))
theorem spec_l6With (vs:List Int) (ts:List (List Int)) (v:Int) (t:List Int) (hl:vs.length=ts.length) (hs:vs.length≤1000) (ht:t.length≤4096) (hv:v∉vs) (htm:∀ x∈ts,x.length≤4096) :
 Call F.spec_l6With [.rref [slc vs,slc ts] 0,.int .i64 v,slc t] (.agg [slc (bput (vs,ts) v t).1,slc (bput (vs,ts) v t).2]):=by
 have hi:=insAt_le vs v
 refine call_of rfl 1002 ((spec_l6With.ev _ _ _ _ _).trans ?_)
 have key:=run_loop (n:=vs.length) (f:=1002) (S:=fun m k (s:Bool × List Int × List (List Int))=>spec_l6With.at0 1002 m (spec_l6With.st0 (cells vs) (cells ts) v (cells t) s.1 (k:Nat) (cells s.2.1) (cells s.2.2)))
  (st:=withSt vs ts v t) (z:=some (.agg [slc (bput (vs,ts) v t).1,slc (bput (vs,ts) v t).2],[])) (fun m k h => ?_) (fun m => ?_) (by omega)
 · have e0:withSt vs ts v t 0=(false,[],[]):=by unfold withSt; rw [if_pos (Nat.zero_le _)]; rfl
   rw [e0] at key
   exact key
 · have h':k < ts.length:=by omega
   have hlk:vs[k]?=some vs[k]:=List.getElem?_eq_getElem h
   have htk:ts[k]?=some ts[k]:=List.getElem?_eq_getElem h'
   have hx:=(spec_l1Ints' ts[k] (by have:=htm _ (List.getElem_mem h'); omega)).eq
   have hx2:=(spec_l1Ints' t (by omega)).eq
   have hne:vs[k]≠v:=fun e=>hv (e ▸ List.getElem_mem h)
   have len1:∀ q,((cells (vs.take q)).length)≤1000:=fun q=>by rw [cells_length,sz_int]; simp; omega
   have len2:∀ q,((cells (ts.take q)).length)≤1000:=fun q=>by rw [cells_length,show Enc.sz (List Int)=1 from rfl]; simp; omega
   have len3:∀ q,((cells ((ins vs (insAt vs v) v).take q)).length)≤1001:=fun q=>by rw [cells_length,sz_int,List.length_take,ins_length _ _ _ hi]; omega
   have len4:∀ q,((cells ((ins ts (insAt vs v) t).take q)).length)≤1001:=fun q=>by rw [cells_length,show Enc.sz (List Int)=1 from rfl,List.length_take,ins_length _ _ _ (by omega)]; omega
   have tk1:vs.take (k+1)=vs.take k++[vs[k]]:=(List.take_append_getElem h).symm
   have tk2:ts.take (k+1)=ts.take k++[ts[k]]:=(List.take_append_getElem h').symm
   rcases Nat.lt_trichotomy k (insAt vs v) with c | c | c
   · have hlt:=insAt_lt vs v k c h
     have hgt:¬ vs[k] > v:=by omega
     have e1:withSt vs ts v t k=(false,vs.take k,ts.take k):=if_pos (by omega)
     have e2:withSt vs ts v t (k+1)=(false,vs.take k++[vs[k]],ts.take k++[ts[k]]):=by unfold withSt; rw [if_pos (by omega),tk1,tk2]
     rw [e1,e2]
     simp only [spec_l6With.next0,spec_l6With.round0,evz,Nat.reduceLT,h,h',hlk,htk,enc_int,enc_list,hgt,hx,cells_snoc_int,cells_snoc_list]
     rw [cond_pos (ble_ok (by have:=len1 k; omega)),cond_pos (ble_ok (by have:=len2 k; omega)),wrap_succ (by omega)]
   · have hs:=insAt_stop vs v (by omega)
     have hs:¬ vs[k] < v:=by
      have:vs[insAt vs v]'(by omega)=vs[k]:=by congr 1; omega
      rw [this] at hs; exact hs
     have hgt:vs[k] > v:=by omega
     have e1:withSt vs ts v t k=(false,vs.take k,ts.take k):=if_pos (by omega)
     have e2:withSt vs ts v t (k+1)=(true,(vs.take k++[v])++[vs[k]],(ts.take k++[t])++[ts[k]]):=by
      unfold withSt
      rw [if_neg (by omega),← c,ins_take v (Nat.le_refl _) h,ins_take t (Nat.le_refl _) h',ins_take_eq v (by omega),ins_take_eq t (by omega)]
     rw [e1,e2]
     simp only [spec_l6With.next0,spec_l6With.round0,evz,Nat.reduceLT,h,h',hlk,htk,enc_int,enc_list,hgt,hx,hx2,cells_snoc_int,cells_snoc_list]
     have l1:=len1 k
     have l2:=len2 k
     have l3:(cells (vs.take k++[v])).length≤1001:=by rw [cells_append,List.length_append,cells_length [v]]; simp; omega
     have l4:(cells (ts.take k++[t])).length≤1001:=by rw [cells_append,List.length_append,cells_length [t]]; simp [show Enc.sz (List Int)=1 from rfl]; omega
     rw [cond_pos (ble_ok (by omega)),cond_pos (ble_ok (by omega)),cond_pos (ble_ok (by omega)),cond_pos (ble_ok (by omega)),wrap_succ (by omega)]
   · have e1:withSt vs ts v t k=(true,(ins vs (insAt vs v) v).take (k+1),(ins ts (insAt vs v) t).take (k+1)):=if_neg (by omega)
     have e2:withSt vs ts v t (k+1)=(true,(ins vs (insAt vs v) v).take (k+1)++[vs[k]],(ins ts (insAt vs v) t).take (k+1)++[ts[k]]):=by
      unfold withSt
      rw [if_neg (by omega),ins_take v (by omega) h,ins_take t (by omega) h']
     rw [e1,e2]
     simp only [spec_l6With.next0,spec_l6With.round0,evz,Nat.reduceLT,h,h',hlk,htk,enc_int,enc_list,hx,cells_snoc_int,cells_snoc_list]
     rw [cond_pos (ble_ok (by have:=len3 (k+1); omega)),cond_pos (ble_ok (by have:=len4 (k+1); omega)),wrap_succ (by omega)]
 · have hx2:=(spec_l1Ints' t (by omega)).eq
   by_cases c:insAt vs v=vs.length
   · have e1:withSt vs ts v t vs.length=(false,vs,ts):=by
      unfold withSt
      rw [if_pos (by omega),List.take_length,hl,List.take_length]
     have e2:bput (vs,ts) v t=(vs++[v],ts++[t]):=by
      unfold bput
      rw [c,ins_end]
      simp only [Prod.mk.injEq,true_and]
      rw [hl,ins_end]
     rw [e1,e2]
     simp only [spec_l6With.next0,spec_l6With.round0,evz,Nat.reduceLT,Nat.lt_irrefl,hx2,cells_snoc_int,cells_snoc_list]
     rw [cond_pos (ble_ok (by rw [cells_length,sz_int]; omega)),cond_pos (ble_ok (by rw [cells_length,show Enc.sz (List Int)=1 from rfl]; omega))]
   · have e1:withSt vs ts v t vs.length=(true,ins vs (insAt vs v) v,ins ts (insAt vs v) t):=by
      unfold withSt
      rw [if_neg (by omega),List.take_of_length_le (by rw [ins_length _ _ _ hi]; omega),List.take_of_length_le (by rw [ins_length _ _ _ (by omega)]; omega)]
     rw [e1]
     simp only [spec_l6With.next0,spec_l6With.round0,evz,Nat.reduceLT,Nat.lt_irrefl]
     rfl
def mT:Option Bnd→T
 | none => .tup [.agg [.sl 1 [],.sl 1 []],.bool false]
 | some b => .tup [.agg [slc b.1,slc b.2],.bool true]
section
variable {l:List Symbol} (ok:SigOk ⟨l⟩)
include ok
theorem impl_match {pat u:List Int} (hq:TermOk l pat) (hu:TermOk l u):Call F.impl_match [.agg [slc l],slc pat,slc u] (mT (matchAt l pat u 0)):=by
 have hul:=hu.le
 have hpl:=hq.le
 refine call_of rfl 25 ((impl_match.ev _ _ _ _).trans ?_)
 simp only [cells_div,sz_int]
 have loop:∀ (q:List Int) (b:Bnd) (p k f:Nat),pat.drop k=q→q.length < f→Both l u q p []→MB l b k→k+q.length=pat.length →
  impl_match.at0 25 f (impl_match.st0 (cells u) (p:Nat) (cells pat) pat.length (k:Nat) (cells l) (cells b.1) (cells b.2)) =
   some (match mgo l u q b p with | none=>T.tup [.agg [.sl 1 [],.sl 1 []],.bool false] | some x => .tup [.agg [slc x.1.1,slc x.1.2],.bool (decide (x.2=u.length))],[]):=by
  intro q
  induction q with
  | nil =>
    intro b p k f hd hf hB hb hk
    obtain ⟨f,rfl⟩:∃ x,f=x+1:=⟨f - 1,by omega⟩
    have h:¬ k < pat.length:=by simp at hk; omega
    simp only [impl_match.next0,impl_match.round0,evz,Nat.reduceLT,h,mgo,Int.ofNat_inj]
  | cons n q ih =>
    intro b p k f hd hf hB hb hk
    rw [List.length_cons] at hf hk
    obtain ⟨f,rfl⟩:∃ x,f=x+1:=⟨f - 1,by omega⟩
    have h:k < pat.length:=by omega
    have hn:pat[k]=n:=by
     have:=congrArg (fun x=>x[0]?) hd
     simp only [List.getElem?_drop,Nat.add_zero,List.getElem?_cons_zero] at this
     rw [List.getElem?_eq_getElem h] at this
     exact Option.some.inj this
    have hd':pat.drop (k+1)=q:=by rw [← List.drop_drop,hd]; rfl
    have hlk:pat[k]?=some n:=by rw [List.getElem?_eq_getElem h,hn]
    have hp:=hB.lt
    have hpk:u[p]?=some u[p]:=List.getElem?_eq_getElem hp
    have hnode:=nodeOk_iff.1 (hq.node n (hn ▸ List.getElem_mem h))
    have hp':¬ ((p:Int) ≥ (u.length:Int)):=by omega
    have hls:l.length≤6:=ok.le
    obtain ⟨h3,h4,_⟩:=endAt_spec hu hp
    have hsl:=(sub_split hu hp).2.1
    rw [mgo,if_neg (by omega)]
    by_cases c:0≤n
    · have c':n ≥ 0:=c
      rw [if_pos c,getD_at hp]
      by_cases e:u[p]=n
      · simp only [impl_match.next0,impl_match.round0,evz,Nat.reduceLT,h,hlk,hp,hpk,hp',enc_int,c',e]
        rw [wrap_succ (by omega),wrap_succ (by omega)]
        exact ih b (p+1) (k+1) f hd' (by omega) (hB.node (by rw [getD_at hp,e])) (hb.up (by omega)) (by omega)
      · simp only [impl_match.next0,impl_match.round0,evz,Nat.reduceLT,h,hlk,hp,hpk,hp',enc_int,c',e]
    · have c':¬ n ≥ 0:=c
      rw [if_neg c]
      have hof:=(impl_Binding_of b.1 b.2 (-1 - n) hb.len (by have:=hb.le; omega)).eq
      have hB':=hB.var hu (by omega)
      have hw:IntKind.wrap .i64 (-1 - n) = -1 - n:=wrap64 (by omega)
      have hw2:IntKind.wrap .i64 ((p:Int)+((subAt l u p).length:Nat))=((p+(subAt l u p).length:Nat):Int):=by rw [wrap64 (by omega)]; omega
      have hsub:=(impl_subterm ok hu hp).eq
      have hbl:=hb.le
      cases hbo:bindOf b.1 b.2 (-1 - n) with
      | none =>
        rw [hbo] at hof
        have hbind:=impl_Binding_bind b.1 b.2 (-1 - n) (subAt l u p) hb.len (by omega) (by omega)
        simp only [impl_match.next0,impl_match.round0,evz,Nat.reduceLT,h,hlk,hp',enc_int,c',hsub,hw,hof,ofT,scalars_int,hbind,hw2]
        rw [wrap_succ (by omega)]
        exact ih (bput b (-1 - n) (subAt l u p)) _ (k+1) f hd' (by omega) hB' (hb.put (by omega) (subAt_ok hu hp)) (by omega)
      | some o =>
        rw [hbo] at hof
        have ho:=hb.tm o (bindOf_mem hbo)
        have hol:=ho.le
        have heq:=(slices_Equal_Sint64 o (subAt l u p) ⟨by omega,fun _ _=>trivial⟩).eq
        show _=some (match (if o=subAt l u p then mgo l u q b (p+(subAt l u p).length) else none) with | none=>_ | some x=>_,[])
        by_cases e:o=subAt l u p
        · rw [if_pos e]
          rw [e] at heq
          simp only [impl_match.next0,impl_match.round0,evz,Nat.reduceLT,h,hlk,hp',enc_int,c',hsub,hw,hof,ofT,scalars_int,heq,e,hw2]
          rw [wrap_succ (by omega)]
          exact ih b _ (k+1) f hd' (by omega) hB' (hb.up (by omega)) (by omega)
        · rw [if_neg e]
          simp only [impl_match.next0,impl_match.round0,evz,Nat.reduceLT,h,hlk,hp',enc_int,c',hsub,hw,hof,ofT,scalars_int,heq,e]
 have hpos:=hu.pos
 have e0:u.drop (endAt l u 0)=[]:=by
  have:=(sub_split hu (p:=0) (by omega)).2.2
  rw [List.drop_zero,hu.skip] at this
  exact (Option.some.inj this).symm
 have hB:=Both.start hu hq (p:=0) (by omega)
 rw [e0] at hB
 have hmain:=loop pat ([],[]) 0 0 25 rfl (by omega) hB (MB.nil l) (by omega)
 have hen:=mgo_end hu pat ([],[]) 0 0 hB (by omega) (MB.nil l) (by omega) hq.node
 unfold matchAt
 cases hm:mgo l u pat ([],[]) 0 with
 | none=>rw [hm] at hmain; exact hmain
 | some x =>
   rw [hm] at hmain
   obtain ⟨h1,h2,_⟩:=hen x hm
   have hx:x.2=u.length:=by
    have:=congrArg List.length h1
    rw [List.length_drop] at this
    simp at this
    omega
   have hmain:impl_match.at0 25 25 (impl_match.st0 (cells u) (0:Nat) (cells pat) pat.length (0:Nat) (cells l) (cells ([]:List Int)) (cells ([]:List (List Int))))=some (T.tup [.agg [slc x.1.1,slc x.1.2],.bool (decide (x.2=u.length))],[]):=hmain
   rw [hx,decide_eq_true rfl] at hmain
   exact hmain
theorem spec_l6Match {pat u:List Int} (hq:TermOk l pat) (hu:TermOk l u) {p0:Nat} (hp0:p0 < u.length):Call F.spec_l6Match [.rref [slc l] 0,slc pat,slc u,.int .i64 p0] (mT (matchAt l pat u p0)):=by
 have hul:=hu.le
 have hpl:=hq.le
 refine call_of rfl 25 ((spec_l6Match.ev _ _ _ _ _).trans ?_)
 have loop:∀ (q:List Int) (b:Bnd) (p k f:Nat),pat.drop k=q→q.length < f→Both l u q p (u.drop (endAt l u p0))→MB l b k→k+q.length=pat.length →
  spec_l6Match.at0 25 f (spec_l6Match.st0 (cells l) (cells pat) (cells u) (p:Nat) (k:Nat) (cells b.1) (cells b.2))=some (mT ((mgo l u q b p).map (·.1)),[]):=by
  intro q
  induction q with
  | nil =>
    intro b p k f hd hf hB hb hk
    obtain ⟨f,rfl⟩:∃ x,f=x+1:=⟨f - 1,by omega⟩
    have h:¬ k < pat.length:=by simp at hk; omega
    simp only [spec_l6Match.next0,spec_l6Match.round0,evz,Nat.reduceLT,h,mgo,Option.map_some,mT]
  | cons n q ih =>
    intro b p k f hd hf hB hb hk
    rw [List.length_cons] at hf hk
    obtain ⟨f,rfl⟩:∃ x,f=x+1:=⟨f - 1,by omega⟩
    have h:k < pat.length:=by omega
    have hn:pat[k]=n:=by
     have:=congrArg (fun x=>x[0]?) hd
     simp only [List.getElem?_drop,Nat.add_zero,List.getElem?_cons_zero] at this
     rw [List.getElem?_eq_getElem h] at this
     exact Option.some.inj this
    have hd':pat.drop (k+1)=q:=by rw [← List.drop_drop,hd]; rfl
    have hlk:pat[k]?=some n:=by rw [List.getElem?_eq_getElem h,hn]
    have hp:=hB.lt
    have hpk:u[p]?=some u[p]:=List.getElem?_eq_getElem hp
    have hnode:=nodeOk_iff.1 (hq.node n (hn ▸ List.getElem_mem h))
    have hp':¬ ((p:Int) ≥ (u.length:Int)):=by omega
    have hls:l.length≤6:=ok.le
    obtain ⟨h3,h4,_⟩:=endAt_spec hu hp
    have hsl:=(sub_split hu hp).2.1
    rw [mgo,if_neg (by omega)]
    by_cases c:0≤n
    · have c':n ≥ 0:=c
      rw [if_pos c,getD_at hp]
      by_cases e:u[p]=n
      · simp only [spec_l6Match.next0,spec_l6Match.round0,evz,Nat.reduceLT,h,hlk,hp,hpk,hp',enc_int,c',e]
        rw [wrap_succ (by omega),wrap_succ (by omega)]
        exact ih b (p+1) (k+1) f hd' (by omega) (hB.node (by rw [getD_at hp,e])) (hb.up (by omega)) (by omega)
      · simp only [spec_l6Match.next0,spec_l6Match.round0,evz,Nat.reduceLT,h,hlk,hp,hpk,hp',enc_int,c',e,Option.map_none,mT]
    · have c':¬ n ≥ 0:=c
      rw [if_neg c]
      have hof:=(spec_l6Term b.1 b.2 (-1 - n) hb.len (by have:=hb.le; omega)).eq
      have hB':=hB.var hu (by omega)
      have hw:IntKind.wrap .i64 (-1 - n) = -1 - n:=wrap64 (by omega)
      have hw2:IntKind.wrap .i64 ((p:Int)+((subAt l u p).length:Nat))=((p+(subAt l u p).length:Nat):Int):=by rw [wrap64 (by omega)]; omega
      have hsub:=(spec_l3Sub ok hu hp).eq
      have hbl:=hb.le
      cases hbo:bindOf b.1 b.2 (-1 - n) with
      | none =>
        rw [hbo] at hof
        have hbind:=(spec_l6With b.1 b.2 (-1 - n) (subAt l u p) hb.len (by omega) (by omega) (bindOf_none hb.len hbo) fun x hx=>by have:=(hb.tm x hx).le; omega).eq
        simp only [spec_l6Match.next0,spec_l6Match.round0,evz,Nat.reduceLT,h,hlk,hp',enc_int,c',hsub,hw,hof,Option.getD_none,scalars_int,hbind,hw2,List.length_nil,Int.natCast_zero,Int.ofNat_zero]
        rw [wrap_succ (by omega)]
        exact ih (bput b (-1 - n) (subAt l u p)) _ (k+1) f hd' (by omega) hB' (hb.put (by omega) (subAt_ok hu hp)) (by omega)
      | some o =>
        rw [hbo] at hof
        have ho:=hb.tm o (bindOf_mem hbo)
        have hol:=ho.le
        have hop:=ho.pos
        have ho0:¬ ((o.length:Int)=0):=by omega
        have heq:=(spec_l1Same o (subAt l u p) ⟨by omega,fun _ _=>trivial⟩).eq
        show _=some (mT ((if o=subAt l u p then mgo l u q b (p+(subAt l u p).length) else none).map (·.1)),[])
        by_cases e:o=subAt l u p
        · rw [if_pos e]
          have ho1:¬ (((subAt l u p).length:Int)=0):=by omega
          rw [e] at heq
          simp only [spec_l6Match.next0,spec_l6Match.round0,evz,Nat.reduceLT,h,hlk,hp',enc_int,c',hsub,hw,hof,Option.getD_some,scalars_int,heq,e,ho0,ho1,hw2]
          rw [wrap_succ (by omega)]
          exact ih b _ (k+1) f hd' (by omega) hB' (hb.up (by omega)) (by omega)
        · rw [if_neg e]
          simp only [spec_l6Match.next0,spec_l6Match.round0,evz,Nat.reduceLT,h,hlk,hp',enc_int,c',hsub,hw,hof,Option.getD_some,scalars_int,heq,e,ho0,Option.map_none,mT]
 exact loop pat ([],[]) p0 0 25 rfl (by omega) (Both.start hu hq hp0) (MB.nil l) (by omega)
end
end Ev.Ty
end
