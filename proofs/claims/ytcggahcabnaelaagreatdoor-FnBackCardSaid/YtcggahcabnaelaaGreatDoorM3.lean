/- Steps on the way to RowBack: TyOf, TyLoops, X0, X1, XALL, TyMarks, TyFields, TyPlumb, TyNum, TySig, TyAlg, TyTerm, TyTree, TyEval, TyEvalF, TyEvalT, TyVars. -/
import Derived.Test.YtcggahcabnaelaaGreatDoorM2
import Derived.Lib.SlTrimSet
set_option linter.unusedSectionVars false
set_option linter.unusedVariables false
set_option linter.unusedSimpArgs false
section
namespace Ev.Ty
open Go Ev
open Enc (enc)
open Sm (sm)
class OfSh (s:Sh) (α:Type) [Enc α] [Sm α] where
 of:s.Val→α
 enc:∀ x,s.wf x→s.enc x=Enc.enc (of x)
 sz:s.size=Enc.sz α
 sm:∀ x,s.wf x→Sm.sm maxLen (of x)
theorem pair_enc {a b:Sh} {x:(Sh.pair a b).Val} {l r:List T} (h1:a.enc x.1=l) (h2:b.enc x.2=r):(Sh.pair a b).enc x=l++r:=by rw [Sh.enc,h1,h2]
instance:OfSh (.int .i64) Int:=⟨id,fun _ _=>rfl,rfl,fun _ _=>trivial⟩
instance:OfSh .bool Bool:=⟨id,fun _ _=>rfl,rfl,fun _ _=>trivial⟩
instance:OfSh .str ByteArray:=⟨id,fun _ _=>rfl,rfl,fun _ h=>h⟩
theorem u8_enc (x:Int) (h:(Lit.int .u8 x).wf=true):[T.int .u8 x]=[T.int .u8 ((UInt8.ofNat (Int.toNat x)).toNat:Int)]:=by
 simp [Lit.wf,IntKind.min,IntKind.max,IntKind.signed,IntKind.bits] at h
 rw [UInt8.toNat_ofNat']
 congr 2
 omega
instance:OfSh (.int .u8) UInt8:=⟨fun n=>UInt8.ofNat (Int.toNat n),fun x h=>u8_enc x h,rfl,fun _ _=>trivial⟩
theorem cells_of {s:Sh} {α:Type} [Enc α] [Sm α] [OfSh s α]:∀ (l:List s.Val),(∀ x,x∈l→s.wf x)→l.flatMap s.enc=cells (l.map (OfSh.of (s:=s) (α:=α)))
 | [],_=>rfl
 | x::l,h=>by
   rw [List.flatMap_cons,List.map_cons,cells_cons,OfSh.enc (α:=α) x (h x (by simp)),cells_of (α:=α) l fun y hy=>h y (by simp [hy])]
instance {s:Sh} {α:Type} [Enc α] [Sm α] [OfSh s α]:OfSh (.sl s) (List α):=⟨fun l=>l.map (OfSh.of (s:=s) (α:=α)),fun l h=>by
 show [T.sl s.size (List.flatMap s.enc l)]=[slc _]
 rw [cells_of (α:=α) l h.2,OfSh.sz (s:=s) (α:=α)]; rfl,rfl,fun l h=>⟨by simpa using h.1,fun x hx=>by
  obtain ⟨y,hy,rfl⟩:=List.mem_map.1 hx
  exact OfSh.sm y (h.2 y hy)⟩⟩
theorem arg_list {s:Sh} {α:Type} [Enc α] [Sm α] [OfSh s α] (l:List s.Val) (h:(Sh.sl s).wf l):argOf (.sl s) l=slc (OfSh.of (s := .sl s) (α:=List α) l):=by
 have:=OfSh.enc (s := .sl s) (α:=List α) l h
 simpa [Sh.enc,argOf] using this
@[reducible] def sh_Symbol:Sh := .pair .str (.pair (.int .i64) .unit)
instance:OfSh sh_Symbol Symbol:=⟨fun x=>⟨OfSh.of (s := .str) (α:=ByteArray) x.1,OfSh.of (s:=(.int .i64)) (α:=Int) x.2.1⟩,fun x h=>pair_enc (OfSh.enc (α:=ByteArray) x.1 h.1) (pair_enc (OfSh.enc (α:=Int) x.2.1 h.2.1) (rfl)),rfl,fun x h=>OfSh.sm (α:=ByteArray) x.1 h.1⟩
@[reducible] def sh_Signature:Sh := .pair (.sl sh_Symbol) .unit
instance:OfSh sh_Signature Signature:=⟨fun x=>⟨OfSh.of (s:=(.sl sh_Symbol)) (α:=List Symbol) x.1⟩,fun x h=>pair_enc (OfSh.enc (α:=List Symbol) x.1 h.1) (rfl),rfl,fun x h=>OfSh.sm (α:=List Symbol) x.1 h.1⟩
@[reducible] def sh_Equation:Sh := .pair (.sl (.int .i64)) (.pair (.sl (.int .i64)) .unit)
instance:OfSh sh_Equation Equation:=⟨fun x=>⟨OfSh.of (s:=(.sl (.int .i64))) (α:=List Int) x.1,OfSh.of (s:=(.sl (.int .i64))) (α:=List Int) x.2.1⟩,fun x h=>pair_enc (OfSh.enc (α:=List Int) x.1 h.1) (pair_enc (OfSh.enc (α:=List Int) x.2.1 h.2.1) (rfl)),rfl,fun x h=>⟨OfSh.sm (α:=List Int) x.1 h.1,OfSh.sm (α:=List Int) x.2.1 h.2.1⟩⟩
@[reducible] def sh_Binding:Sh := .pair (.sl (.int .i64)) (.pair (.sl (.sl (.int .i64))) .unit)
instance:OfSh sh_Binding Binding:=⟨fun x=>⟨OfSh.of (s:=(.sl (.int .i64))) (α:=List Int) x.1,OfSh.of (s:=(.sl (.sl (.int .i64)))) (α:=List (List Int)) x.2.1⟩,fun x h=>pair_enc (OfSh.enc (α:=List Int) x.1 h.1) (pair_enc (OfSh.enc (α:=List (List Int)) x.2.1 h.2.1) (rfl)),rfl,fun x h=>⟨OfSh.sm (α:=List Int) x.1 h.1,OfSh.sm (α:=List (List Int)) x.2.1 h.2.1⟩⟩
@[reducible] def sh_Algebra:Sh := .pair (.int .i64) (.pair (.sl (.sl (.int .i64))) .unit)
instance:OfSh sh_Algebra Algebra:=⟨fun x=>⟨OfSh.of (s:=(.int .i64)) (α:=Int) x.1,OfSh.of (s:=(.sl (.sl (.int .i64)))) (α:=List (List Int)) x.2.1⟩,fun x h=>pair_enc (OfSh.enc (α:=Int) x.1 h.1) (pair_enc (OfSh.enc (α:=List (List Int)) x.2.1 h.2.1) (rfl)),rfl,fun x h=>OfSh.sm (α:=List (List Int)) x.2.1 h.2.1⟩
@[reducible] def sh_Entry:Sh := .pair (.int .i64) (.pair (.int .i64) (.pair (.int .i64) (.pair (.int .i64) (.pair (.int .i64) (.pair (.sl (.int .i64)) (.pair (.sl (.int .i64)) .unit))))))
instance:OfSh sh_Entry Entry:=⟨fun x=>⟨OfSh.of (s:=(.int .i64)) (α:=Int) x.1,OfSh.of (s:=(.int .i64)) (α:=Int) x.2.1,OfSh.of (s:=(.int .i64)) (α:=Int) x.2.2.1,OfSh.of (s:=(.int .i64)) (α:=Int) x.2.2.2.1,OfSh.of (s:=(.int .i64)) (α:=Int) x.2.2.2.2.1,OfSh.of (s:=(.sl (.int .i64))) (α:=List Int) x.2.2.2.2.2.1,OfSh.of (s:=(.sl (.int .i64))) (α:=List Int) x.2.2.2.2.2.2.1⟩,fun x h=>pair_enc (OfSh.enc (α:=Int) x.1 h.1) (pair_enc (OfSh.enc (α:=Int) x.2.1 h.2.1) (pair_enc (OfSh.enc (α:=Int) x.2.2.1 h.2.2.1) (pair_enc (OfSh.enc (α:=Int) x.2.2.2.1 h.2.2.2.1) (pair_enc (OfSh.enc (α:=Int) x.2.2.2.2.1 h.2.2.2.2.1) (pair_enc (OfSh.enc (α:=List Int) x.2.2.2.2.2.1 h.2.2.2.2.2.1) (pair_enc (OfSh.enc (α:=List Int) x.2.2.2.2.2.2.1 h.2.2.2.2.2.2.1) (rfl))))))),rfl,fun x h=>⟨OfSh.sm (α:=List Int) x.2.2.2.2.2.1 h.2.2.2.2.2.1,OfSh.sm (α:=List Int) x.2.2.2.2.2.2.1 h.2.2.2.2.2.2.1⟩⟩
@[reducible] def sh_Completion:Sh := .pair (.sl (.int .i64)) (.pair (.sl sh_Equation) (.pair (.sl sh_Entry) (.pair (.sl (.int .i64)) (.pair (.sl (.int .i64)) (.pair (.int .i64) .unit)))))
instance:OfSh sh_Completion Completion:=⟨fun x=>⟨OfSh.of (s:=(.sl (.int .i64))) (α:=List Int) x.1,OfSh.of (s:=(.sl sh_Equation)) (α:=List Equation) x.2.1,OfSh.of (s:=(.sl sh_Entry)) (α:=List Entry) x.2.2.1,OfSh.of (s:=(.sl (.int .i64))) (α:=List Int) x.2.2.2.1,OfSh.of (s:=(.sl (.int .i64))) (α:=List Int) x.2.2.2.2.1,OfSh.of (s:=(.int .i64)) (α:=Int) x.2.2.2.2.2.1⟩,fun x h=>pair_enc (OfSh.enc (α:=List Int) x.1 h.1) (pair_enc (OfSh.enc (α:=List Equation) x.2.1 h.2.1) (pair_enc (OfSh.enc (α:=List Entry) x.2.2.1 h.2.2.1) (pair_enc (OfSh.enc (α:=List Int) x.2.2.2.1 h.2.2.2.1) (pair_enc (OfSh.enc (α:=List Int) x.2.2.2.2.1 h.2.2.2.2.1) (pair_enc (OfSh.enc (α:=Int) x.2.2.2.2.2.1 h.2.2.2.2.2.1) (rfl)))))),rfl,fun x h=>⟨OfSh.sm (α:=List Int) x.1 h.1,OfSh.sm (α:=List Equation) x.2.1 h.2.1,OfSh.sm (α:=List Entry) x.2.2.1 h.2.2.1,OfSh.sm (α:=List Int) x.2.2.2.1 h.2.2.2.1,OfSh.sm (α:=List Int) x.2.2.2.2.1 h.2.2.2.2.1⟩⟩
@[reducible] def sh_Theory:Sh := .pair (.sl (.int .i64)) (.pair (.sl sh_Equation) (.pair (.sl sh_Equation) .unit))
instance:OfSh sh_Theory Theory:=⟨fun x=>⟨OfSh.of (s:=(.sl (.int .i64))) (α:=List Int) x.1,OfSh.of (s:=(.sl sh_Equation)) (α:=List Equation) x.2.1,OfSh.of (s:=(.sl sh_Equation)) (α:=List Equation) x.2.2.1⟩,fun x h=>pair_enc (OfSh.enc (α:=List Int) x.1 h.1) (pair_enc (OfSh.enc (α:=List Equation) x.2.1 h.2.1) (pair_enc (OfSh.enc (α:=List Equation) x.2.2.1 h.2.2.1) (rfl))),rfl,fun x h=>⟨OfSh.sm (α:=List Int) x.1 h.1,OfSh.sm (α:=List Equation) x.2.1 h.2.1,OfSh.sm (α:=List Equation) x.2.2.1 h.2.2.1⟩⟩
@[reducible] def sh_Put:Sh := .pair (.int .i64) (.pair (.sl (.int .u8)) .unit)
instance:OfSh sh_Put Put:=⟨fun x=>⟨OfSh.of (s:=(.int .i64)) (α:=Int) x.1,OfSh.of (s:=(.sl (.int .u8))) (α:=List UInt8) x.2.1⟩,fun x h=>pair_enc (OfSh.enc (α:=Int) x.1 h.1) (pair_enc (OfSh.enc (α:=List UInt8) x.2.1 h.2.1) (rfl)),rfl,fun x h=>OfSh.sm (α:=List UInt8) x.2.1 h.2.1⟩
@[reducible] def sh_Disk:Sh := .pair (.sl (.sl (.int .u8))) (.pair (.sl sh_Put) .unit)
instance:OfSh sh_Disk Disk:=⟨fun x=>⟨OfSh.of (s:=(.sl (.sl (.int .u8)))) (α:=List (List UInt8)) x.1,OfSh.of (s:=(.sl sh_Put)) (α:=List Put) x.2.1⟩,fun x h=>pair_enc (OfSh.enc (α:=List (List UInt8)) x.1 h.1) (pair_enc (OfSh.enc (α:=List Put) x.2.1 h.2.1) (rfl)),rfl,fun x h=>⟨OfSh.sm (α:=List (List UInt8)) x.1 h.1,OfSh.sm (α:=List Put) x.2.1 h.2.1⟩⟩
@[reducible] def sh_Act:Sh := .pair (.int .i64) (.pair sh_Put .unit)
instance:OfSh sh_Act Act:=⟨fun x=>⟨OfSh.of (s:=(.int .i64)) (α:=Int) x.1,OfSh.of (s:=sh_Put) (α:=Put) x.2.1⟩,fun x h=>pair_enc (OfSh.enc (α:=Int) x.1 h.1) (pair_enc (OfSh.enc (α:=Put) x.2.1 h.2.1) (rfl)),rfl,fun x h=>OfSh.sm (α:=Put) x.2.1 h.2.1⟩
end Ev.Ty
end
section
namespace Ev.Ty
open Go Ev
open Enc (enc)
open Sm (sm)
def idx {α:Type} (p:α→Bool) (l:List α):Int:=match l.findIdx? p with
 | some i=>(i:Nat)
 | none => -1
theorem any_loop {n:Nat} {bad:Nat→Bool} {S:Nat→Nat→R} {r z:R}
 (step:∀ m k,k < n→S (m+1) k=if bad k=true then r else S m (k+1)) (stop:∀ m,S (m+1) n=z) {f:Nat} (hf:n < f) :
 S f 0=if (List.range n).any bad=true then r else z:=by
 have:∀ m k,k≤n→n < m+k→S m k=if (List.range' k (n - k)).any bad=true then r else z:=by
  intro m
  induction m with
  | zero=>intros; omega
  | succ m ih =>
    intro k hk hm
    by_cases h:k < n
    · rw [step m k h,ih (k+1) (by omega) (by omega),show n - k=(n - (k+1))+1 by omega,List.range'_succ,List.any_cons]
      by_cases hb:bad k=true
      · rw [if_pos hb,hb,Bool.true_or,if_pos rfl]
      · have hb':=Bool.eq_false_iff.2 hb; rw [if_neg hb,hb',Bool.false_or]
    · obtain rfl:k=n:=by omega
      rw [stop m]; simp
 have:=this f 0 (by omega) (by omega)
 rwa [Nat.sub_zero,← List.range_eq_range'] at this
theorem scan_loop {α:Type} {l:List α} {g:α→Option R} {S:Nat→Nat→R} {z:R}
 (step:∀ m k (h:k < l.length),S (m+1) k=match g l[k] with | some r=>r | none=>S m (k+1)) (stop:∀ m,S (m+1) l.length=z) {f:Nat} (hf:l.length < f) :
 S f 0=match l.findSome? g with | some r=>r | none=>z:=by
 have:∀ m k,k≤l.length→l.length < m+k→S m k=match (l.drop k).findSome? g with | some r=>r | none=>z:=by
  intro m
  induction m with
  | zero=>intros; omega
  | succ m ih =>
    intro k hk hm
    by_cases h:k < l.length
    · rw [step m k h,List.drop_eq_getElem_cons h,List.findSome?_cons]
      cases g l[k] with
      | none=>exact ih (k+1) (by omega) (by omega)
      | some r=>rfl
    · obtain rfl:k=l.length:=by omega
      rw [stop m]; simp
 simpa using this f 0 (by omega) (by omega)
theorem any_loopL {α:Type} {l:List α} {p:α→Bool} {S:Nat→Nat→R} {r z:R}
 (step:∀ m k (h:k < l.length),S (m+1) k=if p l[k]=true then r else S m (k+1)) (stop:∀ m,S (m+1) l.length=z) {f:Nat} (hf:l.length < f) :
 S f 0=if l.any p=true then r else z:=by
 have:∀ m k,k≤l.length→l.length < m+k→S m k=if (l.drop k).any p=true then r else z:=by
  intro m
  induction m with
  | zero=>intros; omega
  | succ m ih =>
    intro k hk hm
    by_cases h:k < l.length
    · rw [step m k h,List.drop_eq_getElem_cons h,List.any_cons,ih (k+1) (by omega) (by omega)]
      by_cases hb:p l[k]=true
      · rw [if_pos hb,hb,Bool.true_or,if_pos rfl]
      · have hb':=Bool.eq_false_iff.2 hb; rw [if_neg hb,hb',Bool.false_or]
    · obtain rfl:k=l.length:=by omega
      rw [stop m]; simp
 simpa using this f 0 (by omega) (by omega)
theorem hit_loop {α:Type} {l:List α} {p:α→Bool} {S:Nat→Nat→R} {r:R}
 (step:∀ m k (h:k < l.length),S (m+1) k=if p l[k]=true then r else S m (k+1)) (ha:l.any p=true) {f:Nat} (hf:l.length < f):S f 0=r:=by
 have:∀ m k,l.length < m+k→k≤l.length→(l.drop k).any p=true→S m k=r:=by
  intro m
  induction m with
  | zero=>intros; omega
  | succ m ih =>
    intro k hm hk ha
    by_cases h:k < l.length
    · rw [List.drop_eq_getElem_cons h,List.any_cons,Bool.or_eq_true] at ha
      rw [step m k h]
      by_cases hb:p l[k]=true
      · rw [if_pos hb]
      · rw [if_neg hb]; exact ih (k+1) (by omega) (by omega) (ha.resolve_left hb)
    · rw [List.drop_of_length_le (by omega)] at ha; cases ha
 exact this f 0 (by omega) (by omega) (by simpa using ha)
theorem idx_loop {α:Type} {l:List α} {p:α→Bool} {S:Nat→Nat→R}
 (step:∀ m k (h:k < l.length),S (m+1) k=if p l[k]=true then some (.int .i64 (k:Nat),[]) else S m (k+1)) (stop:∀ m,S (m+1) l.length=some (.int .i64 (-1),[])) {f:Nat} (hf:l.length < f) :
 S f 0=some (.int .i64 (idx p l),[]):=by
 have:∀ m k,k≤l.length→l.length < m+k→S m k=some (.int .i64 (match (l.drop k).findIdx? p with | some i=>((i+k:Nat):Int) | none => -1),[]):=by
  intro m
  induction m with
  | zero=>intros; omega
  | succ m ih =>
    intro k hk hm
    by_cases h:k < l.length
    · rw [step m k h,List.drop_eq_getElem_cons h,List.findIdx?_cons,ih (k+1) (by omega) (by omega)]
      by_cases hb:p l[k]=true
      · simp [hb]
      · simp only [hb]
        cases (l.drop (k+1)).findIdx? p with
        | none=>simp
        | some i=>simp; omega
    · obtain rfl:k=l.length:=by omega
      rw [stop m]; simp
 simpa [idx] using this f 0 (by omega) (by omega)
theorem idx_nonneg {α:Type} (p:α→Bool) (l:List α):decide (idx p l ≥ 0)=l.any p:=by
 unfold idx
 cases h:l.findIdx? p with
 | none =>
   rw [List.findIdx?_eq_none_iff] at h
   rw [Bool.eq_iff_iff]
   simp
   intro x hx; simpa using h x hx
 | some i =>
   rw [List.findIdx?_eq_some_iff_getElem] at h
   obtain ⟨h1,h2,_⟩:=h
   rw [Bool.eq_iff_iff]
   simp
   exact ⟨l[i],List.getElem_mem h1,h2⟩
theorem idx_spec {α:Type} (p:α→Bool) (l:List α):(idx p l = -1∧∀ x,x∈l→p x=false)∨∃ i,∃ h:i < l.length,idx p l=(i:Nat)∧p l[i]=true∧∀ j (hj:j < i),p (l[j]'(Nat.lt_trans hj h))=false:=by
 unfold idx
 cases hx:l.findIdx? p with
 | none=>rw [List.findIdx?_eq_none_iff] at hx; exact .inl ⟨rfl,hx⟩
 | some i =>
   rw [List.findIdx?_eq_some_iff_getElem] at hx
   obtain ⟨h1,h2,h3⟩:=hx
   exact .inr ⟨i,h1,rfl,h2,fun j hj=>by simpa using h3 j hj⟩
theorem findSome_map {α β γ:Type} (f:α→Option β) (g:β→γ):∀ l:List α,l.findSome? (fun x=>(f x).map g)=(l.findSome? f).map g
 | []=>rfl
 | x::l=>by
   rw [List.findSome?_cons,List.findSome?_cons]
   cases f x with
   | none=>exact findSome_map f g l
   | some b=>rfl
theorem fold_loop {α σ:Type} {l:List α} {S:Nat→Nat→σ→R} {g:σ→α→σ} {z:σ→R} (I:Nat→σ→Prop)
 (step:∀ m k s (h:k < l.length),I k s→S (m+1) k s=S m (k+1) (g s l[k]))
 (inv:∀ k s (h:k < l.length),I k s→I (k+1) (g s l[k]))
 (stop:∀ m s,I l.length s→S (m+1) l.length s=z s) (s:σ) (h0:I 0 s) {f:Nat} (hf:l.length < f):S f 0 s=z (l.foldl g s):=by
 have:∀ m k s,k≤l.length→l.length < m+k→I k s→S m k s=z ((l.drop k).foldl g s):=by
  intro m
  induction m with
  | zero=>intros; omega
  | succ m ih =>
    intro k s hk hm hi
    by_cases h:k < l.length
    · rw [step m k s h hi,List.drop_eq_getElem_cons h,List.foldl_cons]
      exact ih (k+1) _ (by omega) (by omega) (inv k s h hi)
    · obtain rfl:k=l.length:=by omega
      rw [stop m s hi,List.drop_of_length_le (Nat.le_refl _),List.foldl_nil]
 simpa using this f 0 s (by omega) (by omega) h0
theorem fold_inv {α σ:Type} {l:List α} {g:σ→α→σ} (I:Nat→σ→Prop) (inv:∀ k s (h:k < l.length),I k s→I (k+1) (g s l[k])) (s:σ) (h0:I 0 s):I l.length (l.foldl g s):=by
 have:∀ n k s,k+n=l.length→I k s→I l.length ((l.drop k).foldl g s):=by
  intro n
  induction n with
  | zero=>intro k s hk hi; obtain rfl:k=l.length:=by omega
          rw [List.drop_of_length_le (Nat.le_refl _)]; exact hi
  | succ n ih =>
    intro k s hk hi
    have h:k < l.length:=by omega
    rw [List.drop_eq_getElem_cons h,List.foldl_cons]
    exact ih (k+1) _ (by omega) (inv k s h hi)
 simpa using this l.length 0 s (by omega) h0
theorem slc_nil {α:Type} [Enc α]:slc ([]:List α)=T.sl (Enc.sz α) []:=rfl
theorem cells_snoc_int (l:List Int) (x:Int):cells l++[.int .i64 x]=cells (l++[x]):=by rw [cells_append,← enc_int,enc_cells_one]
theorem cells_snoc_list {α:Type} [Enc α] (l:List (List α)) (x:List α):cells l++[slc x]=cells (l++[x]):=by rw [cells_append,← enc_list,enc_cells_one]
theorem ble_ok {a b:Nat} (h:a≤b):Nat.ble a b=true:=Nat.ble_eq_true_of_le h
theorem run_loop {σ:Type} {n:Nat} {S:Nat→Nat→σ→R} {st:Nat→σ} {z:R} (step:∀ m k,k < n→S (m+1) k (st k)=S m (k+1) (st (k+1))) (stop:∀ m,S (m+1) n (st n)=z) {f:Nat} (hf:n < f) :
 S f 0 (st 0)=z:=by
 have:∀ m k,k≤n→n < m+k→S m k (st k)=z:=by
  intro m
  induction m with
  | zero=>intros; omega
  | succ m ih =>
    intro k hk hm
    by_cases h:k < n
    · rw [step m k h]; exact ih (k+1) (by omega) (by omega)
    · obtain rfl:k=n:=by omega
      exact stop m
 exact this f 0 (by omega) (by omega)
theorem scalars_int (l:List Int):(cells l).all T.scalar=true:=by
 rw [List.all_eq_true]
 intro x hx
 obtain ⟨y,_,hy⟩:=List.mem_flatMap.1 hx
 obtain rfl:=List.mem_singleton.1 hy
 rfl
end Ev.Ty
end
section
open Go
set_option linter.unusedVariables false
set_option maxRecDepth 100000
namespace Ev
def cmp_Or_int64.st0 (x0:Int) (x1:List T) (x2 x3:Int):St:=⟨[(3,oi x0),(6,ol 1 x1),(7,oi x2),(8,oi x3)],[]⟩
noncomputable def cmp_Or_int64.K0 (n:Nat):Ex→St→R:=kx F.cmp_Or_int64 n [.block 0,.seq 0 (cx F.cmp_Or_int64 [1,1,1])] (endOf prog A F.cmp_Or_int64)
noncomputable def cmp_Or_int64.at0 (n:Nat) (m:Nat) (s:St):R:=lx F.cmp_Or_int64 n 0 [1,1,0,1,0,0] (cmp_Or_int64.K0 n) m s
noncomputable def cmp_Or_int64.rd0 (n:Nat) (L0:St→R) (s:St):R:=rx F.cmp_Or_int64 n 0 [1,1,0,1,0,0] (cmp_Or_int64.K0 n) L0 s
theorem cmp_Or_int64.next0 (n:Nat) (m:Nat) (s:St):cmp_Or_int64.at0 n (m+1) s=cmp_Or_int64.rd0 n (cmp_Or_int64.at0 n m) s:=nx _ _ _ _ _ _ _
theorem cmp_Or_int64.round0 (n:Nat) (L0:St→R) (x0:Int) (x1:List T) (x2 x3:Int):cmp_Or_int64.rd0 n L0 (cmp_Or_int64.st0 x0 x1 x2 x3)=(bif (decide (x3 < x2)) then (bif inB x3 ((x1).length / 1) then ((x1[((Int.toNat x3)*1)]?).bind fun e1=>((oInt .i64 e1).bind fun n2=>(bif ((n2 != x0)) then some ((.int .i64 n2),[]) else (L0 (cmp_Or_int64.st0 x0 x1 x2 (IntKind.wrap .i64 (x3+(1:Int)))))))) else none) else some ((.int .i64 x0),[])):=by kernel_rfl
theorem cmp_Or_int64.ev (n:Nat) (a0:List T):callK prog A H LIM n F.cmp_Or_int64 [(.sl 1 a0)]=(cmp_Or_int64.at0 n n (cmp_Or_int64.st0 (0:Int) a0 ((((a0).length / 1):Nat):Int) (0:Int))):=by kernel_rfl
def impl_BindingFault.st2 (x0:Int) (x1 x2:List T):St:=⟨[(3,(.one (.ptr 192 0))),(9,oi x0)],[(192,(.box [(.t (.sl 1 x1)),(.t (.sl 1 x2))]))]⟩
def impl_BindingFault.st0 (x0:List T) (x1 x2:Int) (x3 x4 x5:List T):St:=⟨[(2,(.one (.ptr 128 0))),(3,(.one (.ptr 192 0))),(29,ol 1 x0),(30,oi x1),(31,oi x2)],[(128,(.box [(.t (.sl 2 x3))])),(192,(.box [(.t (.sl 1 x4)),(.t (.sl 1 x5))]))]⟩
noncomputable def impl_BindingFault.K0 (n:Nat):Ex→St→R:=kx F.impl_BindingFault n [.block 0,.seq 0 (cx F.impl_BindingFault [1,1,1,1])] (endOf prog A F.impl_BindingFault)
noncomputable def impl_BindingFault.at0 (n:Nat) (m:Nat) (s:St):R:=lx F.impl_BindingFault n 0 [1,1,1,0,1,0,0] (impl_BindingFault.K0 n) m s
noncomputable def impl_BindingFault.rd0 (n:Nat) (L0:St→R) (s:St):R:=rx F.impl_BindingFault n 0 [1,1,1,0,1,0,0] (impl_BindingFault.K0 n) L0 s
theorem impl_BindingFault.next0 (n:Nat) (m:Nat) (s:St):impl_BindingFault.at0 n (m+1) s=impl_BindingFault.rd0 n (impl_BindingFault.at0 n m) s:=nx _ _ _ _ _ _ _
noncomputable def impl_BindingFault.K2 (n:Nat):Ex→St→R:=kx F.impl_BindingFault n [.block 2,.seq 0 (cx F.impl_BindingFault [1,1,1,1,1])] (endOf prog A F.impl_BindingFault)
noncomputable def impl_BindingFault.at2 (n:Nat) (m:Nat) (s:St):R:=lx F.impl_BindingFault n 2 [1,1,1,1,0,1,0,0] (impl_BindingFault.K2 n) m s
noncomputable def impl_BindingFault.rd2 (n:Nat) (L2:St→R) (s:St):R:=rx F.impl_BindingFault n 2 [1,1,1,1,0,1,0,0] (impl_BindingFault.K2 n) L2 s
theorem impl_BindingFault.next2 (n:Nat) (m:Nat) (s:St):impl_BindingFault.at2 n (m+1) s=impl_BindingFault.rd2 n (impl_BindingFault.at2 n m) s:=nx _ _ _ _ _ _ _
theorem impl_BindingFault.round0 (n:Nat) (L0:St→R) (x0:List T) (x1 x2:Int) (x3 x4 x5:List T):impl_BindingFault.rd0 n L0 (impl_BindingFault.st0 x0 x1 x2 x3 x4 x5)=(bif (decide (x2 < x1)) then (bif inB x2 ((x0).length / 1) then ((x0[((Int.toNat x2)*1)]?).bind fun e3=>((oInt .i64 e3).bind fun n4=>((LIM F.impl_within [(.int .i64 n4),(.int .i64 (0:Int)),(.int .i64 (11:Int))]).bind fun r5=>((oNil r5.2).bind fun _=>((oBool r5.1).bind fun b6=>(bif (!b6) then some ((.int .i64 (3:Int)),[]) else (bif inB x2 ((x5).length / 1) then ((x5[((Int.toNat x2)*1)]?).bind fun e7=>((oSl 1 e7).bind fun c8=>((LIM F.impl_TermFault [(.agg [(.sl 2 x3)]),(.sl 1 c8)]).bind fun r9=>((oNil r9.2).bind fun _=>((oInt .i64 r9.1).bind fun n10=>(bif ((n10 != (0:Int))) then some ((.int .i64 n10),[]) else (L0 (impl_BindingFault.st0 x0 x1 (IntKind.wrap .i64 (x2+(1:Int))) x3 x4 x5)))))))) else none))))))) else none) else (impl_BindingFault.at2 n n (impl_BindingFault.st2 (1:Int) x4 x5))):=by kernel_rfl
theorem impl_BindingFault.round2 (n:Nat) (L2:St→R) (x0:Int) (x1 x2:List T):impl_BindingFault.rd2 n L2 (impl_BindingFault.st2 x0 x1 x2)=(bif (decide (x0 < ((((x1).length / 1):Nat):Int))) then (bif inB x0 ((x1).length / 1) then ((x1[((Int.toNat x0)*1)]?).bind fun e11=>((oInt .i64 e11).bind fun n12=>(bif inB (IntKind.wrap .i64 (x0 - (1:Int))) ((x1).length / 1) then ((x1[((Int.toNat (IntKind.wrap .i64 (x0 - (1:Int))))*1)]?).bind fun e13=>((oInt .i64 e13).bind fun n14=>(bif (decide (n12≤n14)) then some ((.int .i64 (1:Int)),[]) else (L2 (impl_BindingFault.st2 (IntKind.wrap .i64 (x0+(1:Int))) x1 x2))))) else none))) else none) else some ((.int .i64 (0:Int)),[])):=by kernel_rfl
theorem impl_BindingFault.ev (n:Nat) (a0_0 a1_0 a1_1:List T):callK prog A H LIM n F.impl_BindingFault [(.agg [(.sl 2 a0_0)]),(.agg [(.sl 1 a1_0),(.sl 1 a1_1)])]=((LIM F.impl_SignatureFault [(.agg [(.sl 2 a0_0)])]).bind fun r1=>((oNil r1.2).bind fun _=>((oInt .i64 r1.1).bind fun n2=>(bif ((n2 != (0:Int))) then some ((.int .i64 n2),[]) else (bif ((((((a1_1).length / 1):Nat):Int) != ((((a1_0).length / 1):Nat):Int))) then some ((.int .i64 (2:Int)),[]) else (bif (decide (((((a1_0).length / 1):Nat):Int) > (12:Int))) then some ((.int .i64 (2:Int)),[]) else (impl_BindingFault.at0 n n (impl_BindingFault.st0 a1_0 ((((a1_0).length / 1):Nat):Int) (0:Int) a0_0 a1_0 a1_1)))))))):=by kernel_rfl
def impl_Binding_applied.st0 (x0:List T) (x1 x2:Int) (x3 x4 x5:List T):St:=⟨[(2,(.one (.ptr 128 0))),(5,(.one (.obj 640))),(11,ol 1 x0),(12,oi x1),(13,oi x2)],[(128,(.box [(.t (.sl 1 x3)),(.t (.sl 1 x4))])),(640,(.arr true true 1 x5))]⟩
noncomputable def impl_Binding_applied.K0 (n:Nat):Ex→St→R:=kx F.impl_Binding_applied n [.block 0,.seq 0 (cx F.impl_Binding_applied [1,1,1])] (endOf prog A F.impl_Binding_applied)
noncomputable def impl_Binding_applied.at0 (n:Nat) (m:Nat) (s:St):R:=lx F.impl_Binding_applied n 0 [1,1,0,1,0,0] (impl_Binding_applied.K0 n) m s
noncomputable def impl_Binding_applied.rd0 (n:Nat) (L0:St→R) (s:St):R:=rx F.impl_Binding_applied n 0 [1,1,0,1,0,0] (impl_Binding_applied.K0 n) L0 s
theorem impl_Binding_applied.next0 (n:Nat) (m:Nat) (s:St):impl_Binding_applied.at0 n (m+1) s=impl_Binding_applied.rd0 n (impl_Binding_applied.at0 n m) s:=nx _ _ _ _ _ _ _
theorem impl_Binding_applied.round0 (n:Nat) (L0:St→R) (x0:List T) (x1 x2:Int) (x3 x4 x5:List T):impl_Binding_applied.rd0 n L0 (impl_Binding_applied.st0 x0 x1 x2 x3 x4 x5)=(bif (decide (x2 < x1)) then (bif inB x2 ((x0).length / 1) then ((x0[((Int.toNat x2)*1)]?).bind fun e1=>((oInt .i64 e1).bind fun n2=>((LIM F.impl_Binding_of [(.agg [(.sl 1 x3),(.sl 1 x4)]),(.int .i64 (IntKind.wrap .i64 ((-1:Int) - n2)))]).bind fun r3=>((oNil r3.2).bind fun _=>((oTup r3.1).bind fun c4=>((oCons c4).bind fun p5=>((oSl 1 p5.1).bind fun c6=>(bif (c6).all T.scalar then ((oCons p5.2).bind fun p7=>((oBool p7.1).bind fun b8=>((oNil p7.2).bind fun _=>(bif b8 then (bif (c6).all T.scalar then (bif Nat.ble (((x5).length+(c6).length)*8) (140737488355328*1) then (L0 (impl_Binding_applied.st0 x0 x1 (IntKind.wrap .i64 (x2+(1:Int))) x3 x4 (x5++c6:List T))) else none) else none) else (bif Nat.ble (((x5).length+1)*8) (140737488355328*1) then (L0 (impl_Binding_applied.st0 x0 x1 (IntKind.wrap .i64 (x2+(1:Int))) x3 x4 (x5++[(.int .i64 n2)]:List T))) else none))))) else none)))))))) else none) else some ((.sl 1 x5),[])):=by kernel_rfl
theorem impl_Binding_applied.ev (n:Nat) (a0_0 a0_1 a1:List T):callK prog A H LIM n F.impl_Binding_applied [(.agg [(.sl 1 a0_0),(.sl 1 a0_1)]),(.sl 1 a1)]=(impl_Binding_applied.at0 n n (impl_Binding_applied.st0 a1 ((((a1).length / 1):Nat):Int) (0:Int) a0_0 a0_1 [])):=by kernel_rfl
theorem impl_Binding_of.ev (n:Nat) (a0_0 a0_1:List T) (a1:Int):callK prog A H LIM n F.impl_Binding_of [(.agg [(.sl 1 a0_0),(.sl 1 a0_1)]),(.int .i64 a1)]=((LIM F.slices_Index_Sint64 [(.sl 1 a0_0),(.int .i64 a1)]).bind fun r1=>((oNil r1.2).bind fun _=>((oInt .i64 r1.1).bind fun n2=>(bif (decide (n2 < (0:Int))) then some ((.tup [(.sl 1 []),(.bool false)]),[]) else (bif inB n2 ((a0_1).length / 1) then ((a0_1[((Int.toNat n2)*1)]?).bind fun e3=>((oSl 1 e3).bind fun c4=>some ((.tup [(.sl 1 c4),(.bool true)]),[]))) else none))))):=by kernel_rfl
theorem impl_EquationFault.ev (n:Nat) (a0_0 a1_0 a1_1:List T):callK prog A H LIM n F.impl_EquationFault [(.agg [(.sl 2 a0_0)]),(.agg [(.sl 1 a1_0),(.sl 1 a1_1)])]=((LIM F.impl_TermFault [(.agg [(.sl 2 a0_0)]),(.sl 1 a1_0)]).bind fun r1=>((oNil r1.2).bind fun _=>((oInt .i64 r1.1).bind fun n2=>((LIM F.impl_TermFault [(.agg [(.sl 2 a0_0)]),(.sl 1 a1_1)]).bind fun r3=>((oNil r3.2).bind fun _=>((oInt .i64 r3.1).bind fun n4=>((LIM F.impl_firstCode [(.sl 1 [(.int .i64 n2),(.int .i64 n4)])]).bind fun r5=>((oNil r5.2).bind fun _=>((oInt .i64 r5.1).bind fun n6=>(bif ((n6 != (0:Int))) then some ((.int .i64 n6),[]) else ((LIM F.impl_varsOf [(.sl 1 [(.sl 1 a1_0),(.sl 1 a1_1)])]).bind fun r7=>((oNil r7.2).bind fun _=>((oSl 1 r7.1).bind fun c8=>((LIM F.slices_ContainsFunc_Sint64 [(.sl 1 c8),(.clo F.impl_EquationFault_1 [])]).bind fun r9=>((oNil r9.2).bind fun _=>((oBool r9.1).bind fun b10=>(bif b10 then some ((.int .i64 (3:Int)),[]) else some ((.int .i64 (0:Int)),[])))))))))))))))))):=by kernel_rfl
theorem impl_EquationFault_1.ev (n:Nat) (a0:Int):callK prog A H LIM n F.impl_EquationFault_1 [(.int .i64 a0)]=some ((.bool (decide (a0 ≥ (6:Int)))),[]):=by kernel_rfl
def impl_EquationsFault.st0 (x0:List T) (x1 x2:Int) (x3:List T):St:=⟨[(2,(.one (.ptr 128 0))),(17,ol 2 x0),(18,oi x1),(19,oi x2)],[(128,(.box [(.t (.sl 2 x3))]))]⟩
noncomputable def impl_EquationsFault.K0 (n:Nat):Ex→St→R:=kx F.impl_EquationsFault n [.block 0,.seq 0 (cx F.impl_EquationsFault [1,1,1,1])] (endOf prog A F.impl_EquationsFault)
noncomputable def impl_EquationsFault.at0 (n:Nat) (m:Nat) (s:St):R:=lx F.impl_EquationsFault n 0 [1,1,1,0,1,0,0] (impl_EquationsFault.K0 n) m s
noncomputable def impl_EquationsFault.rd0 (n:Nat) (L0:St→R) (s:St):R:=rx F.impl_EquationsFault n 0 [1,1,1,0,1,0,0] (impl_EquationsFault.K0 n) L0 s
theorem impl_EquationsFault.next0 (n:Nat) (m:Nat) (s:St):impl_EquationsFault.at0 n (m+1) s=impl_EquationsFault.rd0 n (impl_EquationsFault.at0 n m) s:=nx _ _ _ _ _ _ _
theorem impl_EquationsFault.round0 (n:Nat) (L0:St→R) (x0:List T) (x1 x2:Int) (x3:List T):impl_EquationsFault.rd0 n L0 (impl_EquationsFault.st0 x0 x1 x2 x3)=(bif (decide (x2 < x1)) then (bif inB x2 ((x0).length / 2) then ((x0[((Int.toNat x2)*2)]?).bind fun e3=>((oSl 1 e3).bind fun c4=>((x0[(((Int.toNat x2)*2)+1)]?).bind fun e5=>((oSl 1 e5).bind fun c6=>((LIM F.impl_EquationFault [(.agg [(.sl 2 x3)]),(.agg [(.sl 1 c4),(.sl 1 c6)])]).bind fun r7=>((oNil r7.2).bind fun _=>((oInt .i64 r7.1).bind fun n8=>(bif ((n8 != (0:Int))) then some ((.int .i64 n8),[]) else (L0 (impl_EquationsFault.st0 x0 x1 (IntKind.wrap .i64 (x2+(1:Int))) x3)))))))))) else none) else some ((.int .i64 (0:Int)),[])):=by kernel_rfl
theorem impl_EquationsFault.ev (n:Nat) (a0_0 a1:List T):callK prog A H LIM n F.impl_EquationsFault [(.agg [(.sl 2 a0_0)]),(.sl 2 a1)]=((LIM F.impl_SignatureFault [(.agg [(.sl 2 a0_0)])]).bind fun r1=>((oNil r1.2).bind fun _=>((oInt .i64 r1.1).bind fun n2=>(bif ((n2 != (0:Int))) then some ((.int .i64 n2),[]) else (bif (decide (((((a1).length / 2):Nat):Int) > (12:Int))) then some ((.int .i64 (2:Int)),[]) else (impl_EquationsFault.at0 n n (impl_EquationsFault.st0 a1 ((((a1).length / 2):Nat):Int) (0:Int) a0_0))))))):=by kernel_rfl
def impl_SignatureFault.st2 (x0:List T) (x1 x2:Int) (x3:List T):St:=⟨[(1,(.one (.ptr 64 0))),(34,ol 2 x0),(35,oi x1),(36,oi x2)],[(64,(.box [(.t (.sl 2 x3))]))]⟩
def impl_SignatureFault.st0 (x0:List T) (x1 x2:Int) (x3:List T):St:=⟨[(1,(.one (.ptr 64 0))),(18,ol 2 x0),(19,oi x1),(20,oi x2)],[(64,(.box [(.t (.sl 2 x3))]))]⟩
noncomputable def impl_SignatureFault.K0 (n:Nat):Ex→St→R:=kx F.impl_SignatureFault n [.block 0,.seq 0 (cx F.impl_SignatureFault [1,1,1])] (endOf prog A F.impl_SignatureFault)
noncomputable def impl_SignatureFault.at0 (n:Nat) (m:Nat) (s:St):R:=lx F.impl_SignatureFault n 0 [1,1,0,1,0,0] (impl_SignatureFault.K0 n) m s
noncomputable def impl_SignatureFault.rd0 (n:Nat) (L0:St→R) (s:St):R:=rx F.impl_SignatureFault n 0 [1,1,0,1,0,0] (impl_SignatureFault.K0 n) L0 s
theorem impl_SignatureFault.next0 (n:Nat) (m:Nat) (s:St):impl_SignatureFault.at0 n (m+1) s=impl_SignatureFault.rd0 n (impl_SignatureFault.at0 n m) s:=nx _ _ _ _ _ _ _
noncomputable def impl_SignatureFault.K2 (n:Nat):Ex→St→R:=kx F.impl_SignatureFault n [.block 2,.seq 0 (cx F.impl_SignatureFault [1,1,1,1])] (endOf prog A F.impl_SignatureFault)
noncomputable def impl_SignatureFault.at2 (n:Nat) (m:Nat) (s:St):R:=lx F.impl_SignatureFault n 2 [1,1,1,0,1,0,0] (impl_SignatureFault.K2 n) m s
noncomputable def impl_SignatureFault.rd2 (n:Nat) (L2:St→R) (s:St):R:=rx F.impl_SignatureFault n 2 [1,1,1,0,1,0,0] (impl_SignatureFault.K2 n) L2 s
theorem impl_SignatureFault.next2 (n:Nat) (m:Nat) (s:St):impl_SignatureFault.at2 n (m+1) s=impl_SignatureFault.rd2 n (impl_SignatureFault.at2 n m) s:=nx _ _ _ _ _ _ _
theorem impl_SignatureFault.round0 (n:Nat) (L0:St→R) (x0:List T) (x1 x2:Int) (x3:List T):impl_SignatureFault.rd0 n L0 (impl_SignatureFault.st0 x0 x1 x2 x3)=(bif (decide (x2 < x1)) then (bif inB x2 ((x0).length / 2) then ((x0[((Int.toNat x2)*2)]?).bind fun e1=>((oStr e1).bind fun s2=>((x0[(((Int.toNat x2)*2)+1)]?).bind fun e3=>((oInt .i64 e3).bind fun n4=>((LIM F.impl_isName [(.str s2)]).bind fun r5=>((oNil r5.2).bind fun _=>((oBool r5.1).bind fun b6=>(bif (!b6) then some ((.int .i64 (5:Int)),[]) else ((LIM F.impl_within [(.int .i64 n4),(.int .i64 (0:Int)),(.int .i64 (2:Int))]).bind fun r7=>((oNil r7.2).bind fun _=>((oBool r7.1).bind fun b8=>(bif (!b8) then some ((.int .i64 (3:Int)),[]) else (L0 (impl_SignatureFault.st0 x0 x1 (IntKind.wrap .i64 (x2+(1:Int))) x3)))))))))))))) else none) else (impl_SignatureFault.at2 n n (impl_SignatureFault.st2 x3 ((((x3).length / 2):Nat):Int) (0:Int) x3))):=by kernel_rfl
theorem impl_SignatureFault.round2 (n:Nat) (L2:St→R) (x0:List T) (x1 x2:Int) (x3:List T):impl_SignatureFault.rd2 n L2 (impl_SignatureFault.st2 x0 x1 x2 x3)=(bif (decide (x2 < x1)) then (bif inB x2 ((x0).length / 2) then ((x0[((Int.toNat x2)*2)]?).bind fun e9=>((oStr e9).bind fun s10=>((x0[(((Int.toNat x2)*2)+1)]?).bind fun e11=>((oInt .i64 e11).bind fun n12=>((LIM F.impl_symbolIndex [(.agg [(.sl 2 x3)]),(.str s10)]).bind fun r13=>((oNil r13.2).bind fun _=>((oInt .i64 r13.1).bind fun n14=>(bif ((n14 != x2)) then some ((.int .i64 (6:Int)),[]) else (L2 (impl_SignatureFault.st2 x0 x1 (IntKind.wrap .i64 (x2+(1:Int))) x3)))))))))) else none) else ((LIM F.slices_ContainsFunc_SSymbol [(.sl 2 x3),(.clo F.impl_SignatureFault_1 [])]).bind fun r15=>((oNil r15.2).bind fun _=>((oBool r15.1).bind fun b16=>(bif (!b16) then some ((.int .i64 (4:Int)),[]) else some ((.int .i64 (0:Int)),[])))))):=by kernel_rfl
theorem impl_SignatureFault.ev (n:Nat) (a0_0:List T):callK prog A H LIM n F.impl_SignatureFault [(.agg [(.sl 2 a0_0)])]=(bif (decide (((((a0_0).length / 2):Nat):Int) < (1:Int))) then some ((.int .i64 (2:Int)),[]) else (bif (decide (((((a0_0).length / 2):Nat):Int) > (6:Int))) then some ((.int .i64 (2:Int)),[]) else (impl_SignatureFault.at0 n n (impl_SignatureFault.st0 a0_0 ((((a0_0).length / 2):Nat):Int) (0:Int) a0_0)))):=by kernel_rfl
theorem impl_SignatureFault_1.ev (n:Nat) (a0_0:ByteArray) (a0_1:Int):callK prog A H LIM n F.impl_SignatureFault_1 [(.agg [(.str a0_0),(.int .i64 a0_1)])]=some ((.bool ((a0_1 == (0:Int)))),[]):=by kernel_rfl
theorem impl_TermFault.ev (n:Nat) (a0_0 a1:List T):callK prog A H LIM n F.impl_TermFault [(.agg [(.sl 2 a0_0)]),(.sl 1 a1)]=((LIM F.impl_SignatureFault [(.agg [(.sl 2 a0_0)])]).bind fun r1=>((oNil r1.2).bind fun _=>((oInt .i64 r1.1).bind fun n2=>(bif ((n2 != (0:Int))) then some ((.int .i64 n2),[]) else (bif (decide (((((a1).length / 1):Nat):Int) < (1:Int))) then some ((.int .i64 (2:Int)),[]) else (bif (decide (((((a1).length / 1):Nat):Int) > (24:Int))) then some ((.int .i64 (2:Int)),[]) else ((LIM F.slices_ContainsFunc_Sint64 [(.sl 1 a1),(.clo F.impl_TermFault_1 [(.rref [(.sl 2 a0_0)] 0)])]).bind fun r3=>((oNil r3.2).bind fun _=>((oBool r3.1).bind fun b4=>(bif b4 then some ((.int .i64 (3:Int)),[]) else ((LIM F.impl_endOf [(.agg [(.sl 2 a0_0)]),(.sl 1 a1),(.int .i64 (0:Int))]).bind fun r5=>((oNil r5.2).bind fun _=>((oInt .i64 r5.1).bind fun n6=>(bif ((n6 != ((((a1).length / 1):Nat):Int))) then some ((.int .i64 (1:Int)),[]) else some ((.int .i64 (0:Int)),[]))))))))))))))):=by kernel_rfl
theorem impl_TermFault_1.ev (n:Nat) (a0:Int) (a1_0:List T):callK prog A H LIM n F.impl_TermFault_1 [(.int .i64 a0),(.rref [(.sl 2 a1_0)] 0)]=((LIM F.impl_isNode [(.agg [(.sl 2 a1_0)]),(.int .i64 a0)]).bind fun r1=>((oNil r1.2).bind fun _=>((oBool r1.1).bind fun b2=>some ((.bool (!b2)),[])))):=by kernel_rfl
theorem impl_WalkStep.ev (n:Nat) (a0_0 a1 a2:List T) (a3:Int) (a4:Bool) (a5_0 a5_1:List T) (a6:Int):callK prog A H LIM n F.impl_WalkStep [(.agg [(.sl 2 a0_0)]),(.sl 2 a1),(.sl 1 a2),(.int .i64 a3),(.bool a4),(.agg [(.sl 1 a5_0),(.sl 1 a5_1)]),(.int .i64 a6)]=((LIM F.impl_EquationsFault [(.agg [(.sl 2 a0_0)]),(.sl 2 a1)]).bind fun r1=>((oNil r1.2).bind fun _=>((oInt .i64 r1.1).bind fun n2=>((LIM F.impl_TermFault [(.agg [(.sl 2 a0_0)]),(.sl 1 a2)]).bind fun r3=>((oNil r3.2).bind fun _=>((oInt .i64 r3.1).bind fun n4=>((LIM F.impl_firstCode [(.sl 1 [(.int .i64 n2),(.int .i64 n4)])]).bind fun r5=>((oNil r5.2).bind fun _=>((oInt .i64 r5.1).bind fun n6=>(bif ((n6 != (0:Int))) then some ((.agg [(.int .i64 n6),(.sl 1 [])]),[]) else ((LIM F.impl_within [(.int .i64 a3),(.int .i64 (0:Int)),(.int .i64 (IntKind.wrap .i64 (((((a1).length / 2):Nat):Int) - (1:Int))))]).bind fun r7=>((oNil r7.2).bind fun _=>((oBool r7.1).bind fun b8=>(bif (!b8) then some ((.agg [(.int .i64 (3:Int)),(.sl 1 [])]),[]) else ((LIM F.impl_BindingFault [(.agg [(.sl 2 a0_0)]),(.agg [(.sl 1 a5_0),(.sl 1 a5_1)])]).bind fun r9=>((oNil r9.2).bind fun _=>((oInt .i64 r9.1).bind fun n10=>(bif ((n10 != (0:Int))) then some ((.agg [(.int .i64 n10),(.sl 1 [])]),[]) else ((LIM F.impl_within [(.int .i64 a6),(.int .i64 (0:Int)),(.int .i64 (IntKind.wrap .i64 (((((a2).length / 1):Nat):Int) - (1:Int))))]).bind fun r11=>((oNil r11.2).bind fun _=>((oBool r11.1).bind fun b12=>(bif (!b12) then some ((.agg [(.int .i64 (3:Int)),(.sl 1 [])]),[]) else (bif inB a3 ((a1).length / 2) then ((a1[((Int.toNat a3)*2)]?).bind fun e13=>((oSl 1 e13).bind fun c14=>(bif inB a3 ((a1).length / 2) then ((a1[(((Int.toNat a3)*2)+1)]?).bind fun e15=>((oSl 1 e15).bind fun c16=>(bif a4 then ((LIM F.impl_Binding_applied [(.agg [(.sl 1 a5_0),(.sl 1 a5_1)]),(.sl 1 c16)]).bind fun r17=>((oNil r17.2).bind fun _=>((oSl 1 r17.1).bind fun c18=>((LIM F.impl_subterm [(.agg [(.sl 2 a0_0)]),(.sl 1 a2),(.int .i64 a6)]).bind fun r19=>((oNil r19.2).bind fun _=>((oSl 1 r19.1).bind fun c20=>((LIM F.slices_Equal_Sint64 [(.sl 1 c18),(.sl 1 c20)]).bind fun r21=>((oNil r21.2).bind fun _=>((oBool r21.1).bind fun b22=>(bif (!b22) then some ((.agg [(.int .i64 (4:Int)),(.sl 1 [])]),[]) else ((LIM F.impl_Binding_applied [(.agg [(.sl 1 a5_0),(.sl 1 a5_1)]),(.sl 1 c14)]).bind fun r23=>((oNil r23.2).bind fun _=>((oSl 1 r23.1).bind fun c24=>(bif (decide (((((c24).length / 1):Nat):Int) > (24:Int))) then some ((.agg [(.int .i64 (2:Int)),(.sl 1 [])]),[]) else ((LIM F.impl_replaced [(.agg [(.sl 2 a0_0)]),(.sl 1 a2),(.int .i64 a6),(.sl 1 c24)]).bind fun r25=>((oNil r25.2).bind fun _=>((oSl 1 r25.1).bind fun c26=>((LIM F.impl_fitting [(.sl 1 c26)]).bind fun r27=>((oNil r27.2).bind fun _=>((oAgg r27.1).bind fun c28=>((oCons c28).bind fun p29=>((oInt .i64 p29.1).bind fun n30=>((oCons p29.2).bind fun p31=>((oSl 1 p31.1).bind fun c32=>((oNil p31.2).bind fun _=>some ((.agg [(.int .i64 n30),(.sl 1 c32)]),[])))))))))))))))))))))))))) else ((LIM F.impl_Binding_applied [(.agg [(.sl 1 a5_0),(.sl 1 a5_1)]),(.sl 1 c14)]).bind fun r33=>((oNil r33.2).bind fun _=>((oSl 1 r33.1).bind fun c34=>((LIM F.impl_subterm [(.agg [(.sl 2 a0_0)]),(.sl 1 a2),(.int .i64 a6)]).bind fun r35=>((oNil r35.2).bind fun _=>((oSl 1 r35.1).bind fun c36=>((LIM F.slices_Equal_Sint64 [(.sl 1 c34),(.sl 1 c36)]).bind fun r37=>((oNil r37.2).bind fun _=>((oBool r37.1).bind fun b38=>(bif (!b38) then some ((.agg [(.int .i64 (4:Int)),(.sl 1 [])]),[]) else ((LIM F.impl_Binding_applied [(.agg [(.sl 1 a5_0),(.sl 1 a5_1)]),(.sl 1 c16)]).bind fun r39=>((oNil r39.2).bind fun _=>((oSl 1 r39.1).bind fun c40=>(bif (decide (((((c40).length / 1):Nat):Int) > (24:Int))) then some ((.agg [(.int .i64 (2:Int)),(.sl 1 [])]),[]) else ((LIM F.impl_replaced [(.agg [(.sl 2 a0_0)]),(.sl 1 a2),(.int .i64 a6),(.sl 1 c40)]).bind fun r41=>((oNil r41.2).bind fun _=>((oSl 1 r41.1).bind fun c42=>((LIM F.impl_fitting [(.sl 1 c42)]).bind fun r43=>((oNil r43.2).bind fun _=>((oAgg r43.1).bind fun c44=>((oCons c44).bind fun p45=>((oInt .i64 p45.1).bind fun n46=>((oCons p45.2).bind fun p47=>((oSl 1 p47.1).bind fun c48=>((oNil p47.2).bind fun _=>some ((.agg [(.int .i64 n46),(.sl 1 c48)]),[]))))))))))))))))))))))))))))) else none))) else none))))))))))))))))))))))):=by kernel_rfl
theorem impl_arityOf.ev (n:Nat) (a0_0:List T) (a1:Int):callK prog A H LIM n F.impl_arityOf [(.agg [(.sl 2 a0_0)]),(.int .i64 a1)]=(bif (decide (a1 < (0:Int))) then some ((.int .i64 (0:Int)),[]) else (bif inB a1 ((a0_0).length / 2) then ((a0_0[(((Int.toNat a1)*2)+1)]?).bind fun e1=>((oInt .i64 e1).bind fun n2=>some ((.int .i64 n2),[]))) else none)):=by kernel_rfl
def impl_endOf.st0 (x0:List T) (x1 x2:Int) (x3:List T):St:=⟨[(1,ol 1 x0),(2,oi x1),(3,(.one (.ptr 192 0))),(7,oi x2)],[(192,(.box [(.t (.sl 2 x3))]))]⟩
noncomputable def impl_endOf.K0 (n:Nat):Ex→St→R:=kx F.impl_endOf n [.block 0,.seq 0 (cx F.impl_endOf [1,1])] (endOf prog A F.impl_endOf)
noncomputable def impl_endOf.at0 (n:Nat) (m:Nat) (s:St):R:=lx F.impl_endOf n 0 [1,0,1,0,0] (impl_endOf.K0 n) m s
noncomputable def impl_endOf.rd0 (n:Nat) (L0:St→R) (s:St):R:=rx F.impl_endOf n 0 [1,0,1,0,0] (impl_endOf.K0 n) L0 s
theorem impl_endOf.next0 (n:Nat) (m:Nat) (s:St):impl_endOf.at0 n (m+1) s=impl_endOf.rd0 n (impl_endOf.at0 n m) s:=nx _ _ _ _ _ _ _
theorem impl_endOf.round0 (n:Nat) (L0:St→R) (x0:List T) (x1 x2:Int) (x3:List T):impl_endOf.rd0 n L0 (impl_endOf.st0 x0 x1 x2 x3)=(bif (decide (x2 > (0:Int))) then (bif (decide (x1 ≥ ((((x0).length / 1):Nat):Int))) then some ((.int .i64 (IntKind.wrap .i64 (((((x0).length / 1):Nat):Int)+(1:Int)))),[]) else (bif inB x1 ((x0).length / 1) then ((x0[((Int.toNat x1)*1)]?).bind fun e1=>((oInt .i64 e1).bind fun n2=>((LIM F.impl_arityOf [(.agg [(.sl 2 x3)]),(.int .i64 n2)]).bind fun r3=>((oNil r3.2).bind fun _=>((oInt .i64 r3.1).bind fun n4=>(L0 (impl_endOf.st0 x0 (IntKind.wrap .i64 (x1+(1:Int))) (IntKind.wrap .i64 (x2+(IntKind.wrap .i64 (n4 - (1:Int))))) x3))))))) else none)) else some ((.int .i64 x1),[])):=by kernel_rfl
theorem impl_endOf.ev (n:Nat) (a0_0 a1:List T) (a2:Int):callK prog A H LIM n F.impl_endOf [(.agg [(.sl 2 a0_0)]),(.sl 1 a1),(.int .i64 a2)]=(impl_endOf.at0 n n (impl_endOf.st0 a1 a2 (1:Int) a0_0)):=by kernel_rfl
theorem impl_firstCode.ev (n:Nat) (a0:List T):callK prog A H LIM n F.impl_firstCode [(.sl 1 a0)]=((LIM F.cmp_Or_int64 [(.sl 1 a0)]).bind fun r1=>((oNil r1.2).bind fun _=>((oInt .i64 r1.1).bind fun n2=>some ((.int .i64 n2),[])))):=by kernel_rfl
theorem impl_fitting.ev (n:Nat) (a0:List T):callK prog A H LIM n F.impl_fitting [(.sl 1 a0)]=(bif (decide (((((a0).length / 1):Nat):Int) > (24:Int))) then some ((.agg [(.int .i64 (2:Int)),(.sl 1 [])]),[]) else some ((.agg [(.int .i64 (0:Int)),(.sl 1 a0)]),[])):=by kernel_rfl
theorem impl_isName.ev (n:Nat) (a0:ByteArray):callK prog A H LIM n F.impl_isName [(.str a0)]=(bif (decide ((a0.size:Int) ≥ (1:Int))) then (bif (decide ((a0.size:Int)≤(3:Int))) then ((LIM F.strings_Trim [(.str a0),(.str (ByteArray.mk #[97,98,99,100,101,102,103,104,105,106,107,108,109,110,111,112,113,114,115,116,117,118,119,120,121,122]))]).bind fun r1=>((oNil r1.2).bind fun _=>((oStr r1.1).bind fun s2=>some ((.bool (s2.toList == (ByteArray.mk #[]).toList)),[])))) else some ((.bool false),[])) else some ((.bool false),[])):=by kernel_rfl
theorem impl_isNode.ev (n:Nat) (a0_0:List T) (a1:Int):callK prog A H LIM n F.impl_isNode [(.agg [(.sl 2 a0_0)]),(.int .i64 a1)]=((LIM F.impl_isSymbol [(.agg [(.sl 2 a0_0)]),(.int .i64 a1)]).bind fun r1=>((oNil r1.2).bind fun _=>((oBool r1.1).bind fun b2=>(bif b2 then some ((.bool true),[]) else ((LIM F.impl_within [(.int .i64 a1),(.int .i64 (-12:Int)),(.int .i64 (-1:Int))]).bind fun r3=>((oNil r3.2).bind fun _=>((oBool r3.1).bind fun b4=>some ((.bool b4),[])))))))):=by kernel_rfl
theorem impl_isSymbol.ev (n:Nat) (a0_0:List T) (a1:Int):callK prog A H LIM n F.impl_isSymbol [(.agg [(.sl 2 a0_0)]),(.int .i64 a1)]=((LIM F.impl_within [(.int .i64 a1),(.int .i64 (0:Int)),(.int .i64 (IntKind.wrap .i64 (((((a0_0).length / 2):Nat):Int) - (1:Int))))]).bind fun r1=>((oNil r1.2).bind fun _=>((oBool r1.1).bind fun b2=>some ((.bool b2),[])))):=by kernel_rfl
theorem impl_replaced.ev (n:Nat) (a0_0 a1:List T) (a2:Int) (a3:List T):callK prog A H LIM n F.impl_replaced [(.agg [(.sl 2 a0_0)]),(.sl 1 a1),(.int .i64 a2),(.sl 1 a3)]=(bif decide (0≤(0:Int))&&decide ((0:Int)≤a2)&&decide (a2≤((((a1).length / 1):Nat):Int)) then ((LIM F.slices_Clone_Sint64 [(.sl 1 ((a1.take ((Int.toNat a2)*1)).drop (0*1)))]).bind fun r1=>((oNil r1.2).bind fun _=>((oSl 1 r1.1).bind fun c2=>(bif (a3).all T.scalar then (bif Nat.ble (((c2).length+(a3).length)*8) (140737488355328*1) then ((LIM F.impl_endOf [(.agg [(.sl 2 a0_0)]),(.sl 1 a1),(.int .i64 a2)]).bind fun r3=>((oNil r3.2).bind fun _=>((oInt .i64 r3.1).bind fun n4=>(bif decide (0≤n4)&&decide (n4≤((((a1).length / 1):Nat):Int))&&decide (((((a1).length / 1):Nat):Int)≤((((a1).length / 1):Nat):Int)) then (bif (((a1.take ((Int.toNat ((((a1).length / 1):Nat):Int))*1)).drop ((Int.toNat n4)*1))).all T.scalar then (bif Nat.ble ((((c2++a3:List T)).length+(((a1.take ((Int.toNat ((((a1).length / 1):Nat):Int))*1)).drop ((Int.toNat n4)*1))).length)*8) (140737488355328*1) then some ((.sl 1 ((c2++a3:List T)++((a1.take ((Int.toNat ((((a1).length / 1):Nat):Int))*1)).drop ((Int.toNat n4)*1)):List T)),[]) else none) else none) else none)))) else none) else none)))) else none):=by kernel_rfl
theorem impl_subterm.ev (n:Nat) (a0_0 a1:List T) (a2:Int):callK prog A H LIM n F.impl_subterm [(.agg [(.sl 2 a0_0)]),(.sl 1 a1),(.int .i64 a2)]=((LIM F.impl_endOf [(.agg [(.sl 2 a0_0)]),(.sl 1 a1),(.int .i64 a2)]).bind fun r1=>((oNil r1.2).bind fun _=>((oInt .i64 r1.1).bind fun n2=>(bif decide (0≤a2)&&decide (a2≤n2)&&decide (n2≤((((a1).length / 1):Nat):Int)) then some ((.sl 1 ((a1.take ((Int.toNat n2)*1)).drop ((Int.toNat a2)*1))),[]) else none)))):=by kernel_rfl
theorem impl_symbolIndex.ev (n:Nat) (a0_0:List T) (a1:ByteArray):callK prog A H LIM n F.impl_symbolIndex [(.agg [(.sl 2 a0_0)]),(.str a1)]=((LIM F.slices_IndexFunc_SSymbol [(.sl 2 a0_0),(.clo F.impl_symbolIndex_1 [(.rref [(.str a1)] 0)])]).bind fun r1=>((oNil r1.2).bind fun _=>((oInt .i64 r1.1).bind fun n2=>some ((.int .i64 n2),[])))):=by kernel_rfl
theorem impl_symbolIndex_1.ev (n:Nat) (a0_0:ByteArray) (a0_1:Int) (a1_0:ByteArray):callK prog A H LIM n F.impl_symbolIndex_1 [(.agg [(.str a0_0),(.int .i64 a0_1)]),(.rref [(.str a1_0)] 0)]=some ((.bool (a0_0.toList == a1_0.toList)),[]):=by kernel_rfl
def impl_varsOf.st2 (x0:List T) (x1 x2:Int) (x3:List T) (x4 x5:Int) (x6:List T):St:=⟨[(3,(.one (.obj 512))),(9,ol 1 x0),(10,oi x1),(11,oi x2),(15,ol 1 x3),(16,oi x4),(17,oi x5)],[(512,(.arr true true 1 x6))]⟩
def impl_varsOf.st0 (x0:List T) (x1 x2:Int) (x3:List T):St:=⟨[(3,(.one (.obj 512))),(9,ol 1 x0),(10,oi x1),(11,oi x2)],[(512,(.arr true true 1 x3))]⟩
noncomputable def impl_varsOf.K0 (n:Nat):Ex→St→R:=kx F.impl_varsOf n [.block 0,.seq 0 (cx F.impl_varsOf [1,1,1])] (endOf prog A F.impl_varsOf)
noncomputable def impl_varsOf.at0 (n:Nat) (m:Nat) (s:St):R:=lx F.impl_varsOf n 0 [1,1,0,1,0,0] (impl_varsOf.K0 n) m s
noncomputable def impl_varsOf.rd0 (n:Nat) (L0:St→R) (s:St):R:=rx F.impl_varsOf n 0 [1,1,0,1,0,0] (impl_varsOf.K0 n) L0 s
theorem impl_varsOf.next0 (n:Nat) (m:Nat) (s:St):impl_varsOf.at0 n (m+1) s=impl_varsOf.rd0 n (impl_varsOf.at0 n m) s:=nx _ _ _ _ _ _ _
noncomputable def impl_varsOf.K2 (n:Nat) (L0:St→R):Ex→St→R:=kx F.impl_varsOf n [.block 2,.block 1,.seq 0 (cx F.impl_varsOf [1,1,0,1,0,0,1,1,1])] (bx F.impl_varsOf 0 (impl_varsOf.K0 n) L0)
noncomputable def impl_varsOf.at2 (n:Nat) (L0:St→R) (m:Nat) (s:St):R:=lx F.impl_varsOf n 2 [1,1,0,1,0,0,1,1,0,0,1,1,0,0] (impl_varsOf.K2 n L0) m s
noncomputable def impl_varsOf.rd2 (n:Nat) (L0:St→R) (L2:St→R) (s:St):R:=rx F.impl_varsOf n 2 [1,1,0,1,0,0,1,1,0,0,1,1,0,0] (impl_varsOf.K2 n L0) L2 s
theorem impl_varsOf.next2 (n:Nat) (L0:St→R) (m:Nat) (s:St):impl_varsOf.at2 n L0 (m+1) s=impl_varsOf.rd2 n L0 (impl_varsOf.at2 n L0 m) s:=nx _ _ _ _ _ _ _
theorem impl_varsOf.round0 (n:Nat) (L0:St→R) (x0:List T) (x1 x2:Int) (x3:List T):impl_varsOf.rd0 n L0 (impl_varsOf.st0 x0 x1 x2 x3)=(bif (decide (x2 < x1)) then (bif inB x2 ((x0).length / 1) then ((x0[((Int.toNat x2)*1)]?).bind fun e1=>((oSl 1 e1).bind fun c2=>(impl_varsOf.at2 n L0 n (impl_varsOf.st2 x0 x1 x2 c2 ((((c2).length / 1):Nat):Int) (0:Int) x3)))) else none) else ((LIM F.slices_Sort_Sint64 [(.sl 1 x3)]).bind fun r5=>((oCons r5.2).bind fun p6=>((oNil p6.2).bind fun _=>((oSl 1 p6.1).bind fun c7=>((oTup r5.1).bind fun c8=>((oNil c8).bind fun _=>((LIM F.slices_Compact_Sint64 [(.sl 1 c7)]).bind fun r9=>((oNil r9.2).bind fun _=>((oSl 1 r9.1).bind fun c10=>some ((.sl 1 c10),[]))))))))))):=by kernel_rfl
theorem impl_varsOf.round2 (n:Nat) (L0:St→R) (L2:St→R) (x0:List T) (x1 x2:Int) (x3:List T) (x4 x5:Int) (x6:List T):impl_varsOf.rd2 n L0 L2 (impl_varsOf.st2 x0 x1 x2 x3 x4 x5 x6)=(bif (decide (x5 < x4)) then (bif inB x5 ((x3).length / 1) then ((x3[((Int.toNat x5)*1)]?).bind fun e3=>((oInt .i64 e3).bind fun n4=>(bif (decide (n4 < (0:Int))) then (bif Nat.ble (((x6).length+1)*8) (140737488355328*1) then (L2 (impl_varsOf.st2 x0 x1 x2 x3 x4 (IntKind.wrap .i64 (x5+(1:Int))) (x6++[(.int .i64 (IntKind.wrap .i64 ((-1:Int) - n4)))]:List T))) else none) else (L2 (impl_varsOf.st2 x0 x1 x2 x3 x4 (IntKind.wrap .i64 (x5+(1:Int))) x6))))) else none) else (L0 (impl_varsOf.st0 x0 x1 (IntKind.wrap .i64 (x2+(1:Int))) x6))):=by kernel_rfl
theorem impl_varsOf.ev (n:Nat) (a0:List T):callK prog A H LIM n F.impl_varsOf [(.sl 1 a0)]=(impl_varsOf.at0 n n (impl_varsOf.st0 a0 ((((a0).length / 1):Nat):Int) (0:Int) [])):=by kernel_rfl
theorem impl_within.ev (n:Nat) (a0 a1 a2:Int):callK prog A H LIM n F.impl_within [(.int .i64 a0),(.int .i64 a1),(.int .i64 a2)]=(bif (decide (a0 ≥ a1)) then some ((.bool (decide (a0≤a2))),[]) else some ((.bool false),[])):=by kernel_rfl
theorem laws_FnBack.ev (n:Nat) (a0:List T):callK prog A H LIM n F.laws_FnBack [(.sl 1 a0)]=((LIM F.laws_lwBig [(.sl 1 a0)]).bind fun r1=>((oNil r1.2).bind fun _=>((oBool r1.1).bind fun b2=>(bif b2 then some ((.bool true),[]) else ((LIM F.spec_DrawWalkStep [(.sl 1 a0)]).bind fun r3=>((oNil r3.2).bind fun _=>((oTup r3.1).bind fun c4=>((oCons c4).bind fun p5=>((oAgg p5.1).bind fun c6=>((oCons c6).bind fun p7=>((oSl 2 p7.1).bind fun c8=>((oNil p7.2).bind fun _=>((oCons p5.2).bind fun p9=>((oSl 2 p9.1).bind fun c10=>((oCons p9.2).bind fun p11=>((oSl 1 p11.1).bind fun c12=>((oCons p11.2).bind fun p13=>((oInt .i64 p13.1).bind fun n14=>((oCons p13.2).bind fun p15=>((oBool p15.1).bind fun b16=>((oCons p15.2).bind fun p17=>((oAgg p17.1).bind fun c18=>((oCons c18).bind fun p19=>((oSl 1 p19.1).bind fun c20=>((oCons p19.2).bind fun p21=>((oSl 1 p21.1).bind fun c22=>((oNil p21.2).bind fun _=>((oCons p17.2).bind fun p23=>((oInt .i64 p23.1).bind fun n24=>((oNil p23.2).bind fun _=>((LIM F.impl_WalkStep [(.agg [(.sl 2 c8)]),(.sl 2 c10),(.sl 1 c12),(.int .i64 n14),(.bool b16),(.agg [(.sl 1 c20),(.sl 1 c22)]),(.int .i64 n24)]).bind fun r25=>((oNil r25.2).bind fun _=>((oAgg r25.1).bind fun c26=>((oCons c26).bind fun p27=>((oInt .i64 p27.1).bind fun n28=>((oCons p27.2).bind fun p29=>((oSl 1 p29.1).bind fun c30=>((oNil p29.2).bind fun _=>((LIM F.spec_WalkStep [(.agg [(.sl 2 c8)]),(.sl 2 c10),(.sl 1 c12),(.int .i64 n14),(.bool b16),(.agg [(.sl 1 c20),(.sl 1 c22)]),(.int .i64 n24)]).bind fun r31=>((oNil r31.2).bind fun _=>((oAgg r31.1).bind fun c32=>((oCons c32).bind fun p33=>((oInt .i64 p33.1).bind fun n34=>((oCons p33.2).bind fun p35=>((oSl 1 p35.1).bind fun c36=>((oNil p35.2).bind fun _=>(bif ((n28 != n34)) then some ((.bool false),[]) else (bif ((n28 != (0:Int))) then some ((.bool true),[]) else ((LIM F.impl_WalkStep [(.agg [(.sl 2 c8)]),(.sl 2 c10),(.sl 1 c30),(.int .i64 n14),(.bool (!b16)),(.agg [(.sl 1 c20),(.sl 1 c22)]),(.int .i64 n24)]).bind fun r37=>((oNil r37.2).bind fun _=>((oAgg r37.1).bind fun c38=>((oCons c38).bind fun p39=>((oInt .i64 p39.1).bind fun n40=>((oCons p39.2).bind fun p41=>((oSl 1 p41.1).bind fun c42=>((oNil p41.2).bind fun _=>(bif ((n40 == (0:Int))) then ((LIM F.laws_lwNums [(.sl 1 c42),(.sl 1 c12)]).bind fun r43=>((oNil r43.2).bind fun _=>((oBool r43.1).bind fun b44=>(bif b44 then ((LIM F.impl_TermFault [(.agg [(.sl 2 c8)]),(.sl 1 c30)]).bind fun r45=>((oNil r45.2).bind fun _=>((oInt .i64 r45.1).bind fun n46=>some ((.bool ((n46 == (0:Int)))),[])))) else some ((.bool false),[]))))) else some ((.bool false),[])))))))))))))))))))))))))))))))))))))))))))))))))))))))))):=by kernel_rfl
theorem laws_lwBig.ev (n:Nat) (a0:List T):callK prog A H LIM n F.laws_lwBig [(.sl 1 a0)]=some ((.bool (decide (((((a0).length / 1):Nat):Int) > (1048576:Int)))),[]):=by kernel_rfl
def laws_lwNums.st0 (x0 x1:List T) (x2:Int):St:=⟨[(0,ol 1 x0),(1,ol 1 x1),(5,oi x2)],[]⟩
noncomputable def laws_lwNums.K0 (n:Nat):Ex→St→R:=kx F.laws_lwNums n [.block 0,.seq 0 (cx F.laws_lwNums [1,1,1])] (endOf prog A F.laws_lwNums)
noncomputable def laws_lwNums.at0 (n:Nat) (m:Nat) (s:St):R:=lx F.laws_lwNums n 0 [1,1,0,1,0,0] (laws_lwNums.K0 n) m s
noncomputable def laws_lwNums.rd0 (n:Nat) (L0:St→R) (s:St):R:=rx F.laws_lwNums n 0 [1,1,0,1,0,0] (laws_lwNums.K0 n) L0 s
theorem laws_lwNums.next0 (n:Nat) (m:Nat) (s:St):laws_lwNums.at0 n (m+1) s=laws_lwNums.rd0 n (laws_lwNums.at0 n m) s:=nx _ _ _ _ _ _ _
theorem laws_lwNums.round0 (n:Nat) (L0:St→R) (x0 x1:List T) (x2:Int):laws_lwNums.rd0 n L0 (laws_lwNums.st0 x0 x1 x2)=(bif (decide (x2 < ((((x0).length / 1):Nat):Int))) then (bif inB x2 ((x0).length / 1) then ((x0[((Int.toNat x2)*1)]?).bind fun e1=>((oInt .i64 e1).bind fun n2=>(bif inB x2 ((x1).length / 1) then ((x1[((Int.toNat x2)*1)]?).bind fun e3=>((oInt .i64 e3).bind fun n4=>(bif ((n2 != n4)) then some ((.bool false),[]) else (L0 (laws_lwNums.st0 x0 x1 (IntKind.wrap .i64 (x2+(1:Int)))))))) else none))) else none) else some ((.bool true),[])):=by kernel_rfl
theorem laws_lwNums.ev (n:Nat) (a0 a1:List T):callK prog A H LIM n F.laws_lwNums [(.sl 1 a0),(.sl 1 a1)]=(bif ((((((a0).length / 1):Nat):Int) != ((((a1).length / 1):Nat):Int))) then some ((.bool false),[]) else (laws_lwNums.at0 n n (laws_lwNums.st0 a0 a1 (0:Int)))):=by kernel_rfl
theorem slices_ContainsFunc_SSymbol_at1_impl_SignatureFault_1.ev (n:Nat) (a0:List T):callK prog A H LIM n F.slices_ContainsFunc_SSymbol [(.sl 2 a0),(.clo F.impl_SignatureFault_1 [])]=((LIM F.slices_IndexFunc_SSymbol [(.sl 2 a0),(.clo F.impl_SignatureFault_1 [])]).bind fun r1=>((oNil r1.2).bind fun _=>((oInt .i64 r1.1).bind fun n2=>some ((.bool (decide (n2 ≥ (0:Int)))),[])))):=by kernel_rfl
theorem slices_ContainsFunc_Sint64_at1_impl_TermFault_1.ev (n:Nat) (a0 a1_0_0:List T):callK prog A H LIM n F.slices_ContainsFunc_Sint64 [(.sl 1 a0),(.clo F.impl_TermFault_1 [(.rref [(.sl 2 a1_0_0)] 0)])]=((LIM F.slices_IndexFunc_Sint64 [(.sl 1 a0),(.clo F.impl_TermFault_1 [(.rref [(.sl 2 a1_0_0)] 0)])]).bind fun r1=>((oNil r1.2).bind fun _=>((oInt .i64 r1.1).bind fun n2=>some ((.bool (decide (n2 ≥ (0:Int)))),[])))):=by kernel_rfl
theorem slices_ContainsFunc_Sint64_at1_impl_EquationFault_1.ev (n:Nat) (a0:List T):callK prog A H LIM n F.slices_ContainsFunc_Sint64 [(.sl 1 a0),(.clo F.impl_EquationFault_1 [])]=((LIM F.slices_IndexFunc_Sint64 [(.sl 1 a0),(.clo F.impl_EquationFault_1 [])]).bind fun r1=>((oNil r1.2).bind fun _=>((oInt .i64 r1.1).bind fun n2=>some ((.bool (decide (n2 ≥ (0:Int)))),[])))):=by kernel_rfl
def slices_Equal_Sint64.st0 (x0 x1:List T) (x2 x3:Int):St:=⟨[(0,ol 1 x0),(1,ol 1 x1),(12,oi x2),(13,oi x3)],[]⟩
noncomputable def slices_Equal_Sint64.K0 (n:Nat):Ex→St→R:=kx F.slices_Equal_Sint64 n [.block 0,.seq 0 (cx F.slices_Equal_Sint64 [1,1,1])] (endOf prog A F.slices_Equal_Sint64)
noncomputable def slices_Equal_Sint64.at0 (n:Nat) (m:Nat) (s:St):R:=lx F.slices_Equal_Sint64 n 0 [1,1,0,1,0,0] (slices_Equal_Sint64.K0 n) m s
noncomputable def slices_Equal_Sint64.rd0 (n:Nat) (L0:St→R) (s:St):R:=rx F.slices_Equal_Sint64 n 0 [1,1,0,1,0,0] (slices_Equal_Sint64.K0 n) L0 s
theorem slices_Equal_Sint64.next0 (n:Nat) (m:Nat) (s:St):slices_Equal_Sint64.at0 n (m+1) s=slices_Equal_Sint64.rd0 n (slices_Equal_Sint64.at0 n m) s:=nx _ _ _ _ _ _ _
theorem slices_Equal_Sint64.round0 (n:Nat) (L0:St→R) (x0 x1:List T) (x2 x3:Int):slices_Equal_Sint64.rd0 n L0 (slices_Equal_Sint64.st0 x0 x1 x2 x3)=(bif (decide (x3 < x2)) then (bif inB x3 ((x0).length / 1) then ((x0[((Int.toNat x3)*1)]?).bind fun e1=>((oInt .i64 e1).bind fun n2=>(bif inB x3 ((x1).length / 1) then ((x1[((Int.toNat x3)*1)]?).bind fun e3=>((oInt .i64 e3).bind fun n4=>(bif ((n2 != n4)) then some ((.bool false),[]) else (L0 (slices_Equal_Sint64.st0 x0 x1 x2 (IntKind.wrap .i64 (x3+(1:Int)))))))) else none))) else none) else some ((.bool true),[])):=by kernel_rfl
theorem slices_Equal_Sint64.ev (n:Nat) (a0 a1:List T):callK prog A H LIM n F.slices_Equal_Sint64 [(.sl 1 a0),(.sl 1 a1)]=(bif ((((((a0).length / 1):Nat):Int) != ((((a1).length / 1):Nat):Int))) then some ((.bool false),[]) else (slices_Equal_Sint64.at0 n n (slices_Equal_Sint64.st0 a0 a1 ((((a0).length / 1):Nat):Int) (0:Int)))):=by kernel_rfl
def slices_IndexFunc_SSymbol_at1_impl_SignatureFault_1.st0 (x0:List T) (x1 x2:Int):St:=⟨[(0,ol 2 x0),(1,(.one (.t (.clo F.impl_SignatureFault_1 [])))),(7,oi x1),(8,oi x2)],[]⟩
noncomputable def slices_IndexFunc_SSymbol_at1_impl_SignatureFault_1.K0 (n:Nat):Ex→St→R:=kx F.slices_IndexFunc_SSymbol n [.block 0,.seq 0 (cx F.slices_IndexFunc_SSymbol [1,1])] (endOf prog A F.slices_IndexFunc_SSymbol)
noncomputable def slices_IndexFunc_SSymbol_at1_impl_SignatureFault_1.at0 (n:Nat) (m:Nat) (s:St):R:=lx F.slices_IndexFunc_SSymbol n 0 [1,0,1,0,0] (slices_IndexFunc_SSymbol_at1_impl_SignatureFault_1.K0 n) m s
noncomputable def slices_IndexFunc_SSymbol_at1_impl_SignatureFault_1.rd0 (n:Nat) (L0:St→R) (s:St):R:=rx F.slices_IndexFunc_SSymbol n 0 [1,0,1,0,0] (slices_IndexFunc_SSymbol_at1_impl_SignatureFault_1.K0 n) L0 s
theorem slices_IndexFunc_SSymbol_at1_impl_SignatureFault_1.next0 (n:Nat) (m:Nat) (s:St):slices_IndexFunc_SSymbol_at1_impl_SignatureFault_1.at0 n (m+1) s=slices_IndexFunc_SSymbol_at1_impl_SignatureFault_1.rd0 n (slices_IndexFunc_SSymbol_at1_impl_SignatureFault_1.at0 n m) s:=nx _ _ _ _ _ _ _
theorem slices_IndexFunc_SSymbol_at1_impl_SignatureFault_1.round0 (n:Nat) (L0:St→R) (x0:List T) (x1 x2:Int):slices_IndexFunc_SSymbol_at1_impl_SignatureFault_1.rd0 n L0 (slices_IndexFunc_SSymbol_at1_impl_SignatureFault_1.st0 x0 x1 x2)=(bif (decide (x2 < x1)) then (bif inB x2 ((x0).length / 2) then ((x0[((Int.toNat x2)*2)]?).bind fun e1=>((oStr e1).bind fun s2=>((x0[(((Int.toNat x2)*2)+1)]?).bind fun e3=>((oInt .i64 e3).bind fun n4=>((LIM F.impl_SignatureFault_1 [(.agg [(.str s2),(.int .i64 n4)])]).bind fun r5=>((oNil r5.2).bind fun _=>((oBool r5.1).bind fun b6=>(bif b6 then some ((.int .i64 x2),[]) else (L0 (slices_IndexFunc_SSymbol_at1_impl_SignatureFault_1.st0 x0 x1 (IntKind.wrap .i64 (x2+(1:Int))))))))))))) else none) else some ((.int .i64 (-1:Int)),[])):=by kernel_rfl
theorem slices_IndexFunc_SSymbol_at1_impl_SignatureFault_1.ev (n:Nat) (a0:List T):callK prog A H LIM n F.slices_IndexFunc_SSymbol [(.sl 2 a0),(.clo F.impl_SignatureFault_1 [])]=(slices_IndexFunc_SSymbol_at1_impl_SignatureFault_1.at0 n n (slices_IndexFunc_SSymbol_at1_impl_SignatureFault_1.st0 a0 ((((a0).length / 2):Nat):Int) (0:Int))):=by kernel_rfl
def slices_IndexFunc_SSymbol_at1_impl_symbolIndex_1.st0 (x0:List T) (x1:ByteArray) (x2 x3:Int):St:=⟨[(0,ol 2 x0),(1,(.one (.t (.clo F.impl_symbolIndex_1 [(.rref [(.str x1)] 0)])))),(7,oi x2),(8,oi x3)],[]⟩
noncomputable def slices_IndexFunc_SSymbol_at1_impl_symbolIndex_1.K0 (n:Nat):Ex→St→R:=kx F.slices_IndexFunc_SSymbol n [.block 0,.seq 0 (cx F.slices_IndexFunc_SSymbol [1,1])] (endOf prog A F.slices_IndexFunc_SSymbol)
noncomputable def slices_IndexFunc_SSymbol_at1_impl_symbolIndex_1.at0 (n:Nat) (m:Nat) (s:St):R:=lx F.slices_IndexFunc_SSymbol n 0 [1,0,1,0,0] (slices_IndexFunc_SSymbol_at1_impl_symbolIndex_1.K0 n) m s
noncomputable def slices_IndexFunc_SSymbol_at1_impl_symbolIndex_1.rd0 (n:Nat) (L0:St→R) (s:St):R:=rx F.slices_IndexFunc_SSymbol n 0 [1,0,1,0,0] (slices_IndexFunc_SSymbol_at1_impl_symbolIndex_1.K0 n) L0 s
theorem slices_IndexFunc_SSymbol_at1_impl_symbolIndex_1.next0 (n:Nat) (m:Nat) (s:St):slices_IndexFunc_SSymbol_at1_impl_symbolIndex_1.at0 n (m+1) s=slices_IndexFunc_SSymbol_at1_impl_symbolIndex_1.rd0 n (slices_IndexFunc_SSymbol_at1_impl_symbolIndex_1.at0 n m) s:=nx _ _ _ _ _ _ _
theorem slices_IndexFunc_SSymbol_at1_impl_symbolIndex_1.round0 (n:Nat) (L0:St→R) (x0:List T) (x1:ByteArray) (x2 x3:Int):slices_IndexFunc_SSymbol_at1_impl_symbolIndex_1.rd0 n L0 (slices_IndexFunc_SSymbol_at1_impl_symbolIndex_1.st0 x0 x1 x2 x3)=(bif (decide (x3 < x2)) then (bif inB x3 ((x0).length / 2) then ((x0[((Int.toNat x3)*2)]?).bind fun e1=>((oStr e1).bind fun s2=>((x0[(((Int.toNat x3)*2)+1)]?).bind fun e3=>((oInt .i64 e3).bind fun n4=>((LIM F.impl_symbolIndex_1 [(.agg [(.str s2),(.int .i64 n4)]),(.rref [(.str x1)] 0)]).bind fun r5=>((oNil r5.2).bind fun _=>((oBool r5.1).bind fun b6=>(bif b6 then some ((.int .i64 x3),[]) else (L0 (slices_IndexFunc_SSymbol_at1_impl_symbolIndex_1.st0 x0 x1 x2 (IntKind.wrap .i64 (x3+(1:Int))))))))))))) else none) else some ((.int .i64 (-1:Int)),[])):=by kernel_rfl
theorem slices_IndexFunc_SSymbol_at1_impl_symbolIndex_1.ev (n:Nat) (a0:List T) (a1_0_0:ByteArray):callK prog A H LIM n F.slices_IndexFunc_SSymbol [(.sl 2 a0),(.clo F.impl_symbolIndex_1 [(.rref [(.str a1_0_0)] 0)])]=(slices_IndexFunc_SSymbol_at1_impl_symbolIndex_1.at0 n n (slices_IndexFunc_SSymbol_at1_impl_symbolIndex_1.st0 a0 a1_0_0 ((((a0).length / 2):Nat):Int) (0:Int))):=by kernel_rfl
def slices_IndexFunc_Sint64_at1_impl_TermFault_1.st0 (x0 x1:List T) (x2 x3:Int):St:=⟨[(0,ol 1 x0),(1,(.one (.t (.clo F.impl_TermFault_1 [(.rref [(.sl 2 x1)] 0)])))),(7,oi x2),(8,oi x3)],[]⟩
noncomputable def slices_IndexFunc_Sint64_at1_impl_TermFault_1.K0 (n:Nat):Ex→St→R:=kx F.slices_IndexFunc_Sint64 n [.block 0,.seq 0 (cx F.slices_IndexFunc_Sint64 [1,1])] (endOf prog A F.slices_IndexFunc_Sint64)
noncomputable def slices_IndexFunc_Sint64_at1_impl_TermFault_1.at0 (n:Nat) (m:Nat) (s:St):R:=lx F.slices_IndexFunc_Sint64 n 0 [1,0,1,0,0] (slices_IndexFunc_Sint64_at1_impl_TermFault_1.K0 n) m s
noncomputable def slices_IndexFunc_Sint64_at1_impl_TermFault_1.rd0 (n:Nat) (L0:St→R) (s:St):R:=rx F.slices_IndexFunc_Sint64 n 0 [1,0,1,0,0] (slices_IndexFunc_Sint64_at1_impl_TermFault_1.K0 n) L0 s
theorem slices_IndexFunc_Sint64_at1_impl_TermFault_1.next0 (n:Nat) (m:Nat) (s:St):slices_IndexFunc_Sint64_at1_impl_TermFault_1.at0 n (m+1) s=slices_IndexFunc_Sint64_at1_impl_TermFault_1.rd0 n (slices_IndexFunc_Sint64_at1_impl_TermFault_1.at0 n m) s:=nx _ _ _ _ _ _ _
theorem slices_IndexFunc_Sint64_at1_impl_TermFault_1.round0 (n:Nat) (L0:St→R) (x0 x1:List T) (x2 x3:Int):slices_IndexFunc_Sint64_at1_impl_TermFault_1.rd0 n L0 (slices_IndexFunc_Sint64_at1_impl_TermFault_1.st0 x0 x1 x2 x3)=(bif (decide (x3 < x2)) then (bif inB x3 ((x0).length / 1) then ((x0[((Int.toNat x3)*1)]?).bind fun e1=>((oInt .i64 e1).bind fun n2=>((LIM F.impl_TermFault_1 [(.int .i64 n2),(.rref [(.sl 2 x1)] 0)]).bind fun r3=>((oNil r3.2).bind fun _=>((oBool r3.1).bind fun b4=>(bif b4 then some ((.int .i64 x3),[]) else (L0 (slices_IndexFunc_Sint64_at1_impl_TermFault_1.st0 x0 x1 x2 (IntKind.wrap .i64 (x3+(1:Int))))))))))) else none) else some ((.int .i64 (-1:Int)),[])):=by kernel_rfl
theorem slices_IndexFunc_Sint64_at1_impl_TermFault_1.ev (n:Nat) (a0 a1_0_0:List T):callK prog A H LIM n F.slices_IndexFunc_Sint64 [(.sl 1 a0),(.clo F.impl_TermFault_1 [(.rref [(.sl 2 a1_0_0)] 0)])]=(slices_IndexFunc_Sint64_at1_impl_TermFault_1.at0 n n (slices_IndexFunc_Sint64_at1_impl_TermFault_1.st0 a0 a1_0_0 ((((a0).length / 1):Nat):Int) (0:Int))):=by kernel_rfl
def slices_IndexFunc_Sint64_at1_impl_EquationFault_1.st0 (x0:List T) (x1 x2:Int):St:=⟨[(0,ol 1 x0),(1,(.one (.t (.clo F.impl_EquationFault_1 [])))),(7,oi x1),(8,oi x2)],[]⟩
noncomputable def slices_IndexFunc_Sint64_at1_impl_EquationFault_1.K0 (n:Nat):Ex→St→R:=kx F.slices_IndexFunc_Sint64 n [.block 0,.seq 0 (cx F.slices_IndexFunc_Sint64 [1,1])] (endOf prog A F.slices_IndexFunc_Sint64)
noncomputable def slices_IndexFunc_Sint64_at1_impl_EquationFault_1.at0 (n:Nat) (m:Nat) (s:St):R:=lx F.slices_IndexFunc_Sint64 n 0 [1,0,1,0,0] (slices_IndexFunc_Sint64_at1_impl_EquationFault_1.K0 n) m s
noncomputable def slices_IndexFunc_Sint64_at1_impl_EquationFault_1.rd0 (n:Nat) (L0:St→R) (s:St):R:=rx F.slices_IndexFunc_Sint64 n 0 [1,0,1,0,0] (slices_IndexFunc_Sint64_at1_impl_EquationFault_1.K0 n) L0 s
theorem slices_IndexFunc_Sint64_at1_impl_EquationFault_1.next0 (n:Nat) (m:Nat) (s:St):slices_IndexFunc_Sint64_at1_impl_EquationFault_1.at0 n (m+1) s=slices_IndexFunc_Sint64_at1_impl_EquationFault_1.rd0 n (slices_IndexFunc_Sint64_at1_impl_EquationFault_1.at0 n m) s:=nx _ _ _ _ _ _ _
theorem slices_IndexFunc_Sint64_at1_impl_EquationFault_1.round0 (n:Nat) (L0:St→R) (x0:List T) (x1 x2:Int):slices_IndexFunc_Sint64_at1_impl_EquationFault_1.rd0 n L0 (slices_IndexFunc_Sint64_at1_impl_EquationFault_1.st0 x0 x1 x2)=(bif (decide (x2 < x1)) then (bif inB x2 ((x0).length / 1) then ((x0[((Int.toNat x2)*1)]?).bind fun e1=>((oInt .i64 e1).bind fun n2=>((LIM F.impl_EquationFault_1 [(.int .i64 n2)]).bind fun r3=>((oNil r3.2).bind fun _=>((oBool r3.1).bind fun b4=>(bif b4 then some ((.int .i64 x2),[]) else (L0 (slices_IndexFunc_Sint64_at1_impl_EquationFault_1.st0 x0 x1 (IntKind.wrap .i64 (x2+(1:Int))))))))))) else none) else some ((.int .i64 (-1:Int)),[])):=by kernel_rfl
theorem slices_IndexFunc_Sint64_at1_impl_EquationFault_1.ev (n:Nat) (a0:List T):callK prog A H LIM n F.slices_IndexFunc_Sint64 [(.sl 1 a0),(.clo F.impl_EquationFault_1 [])]=(slices_IndexFunc_Sint64_at1_impl_EquationFault_1.at0 n n (slices_IndexFunc_Sint64_at1_impl_EquationFault_1.st0 a0 ((((a0).length / 1):Nat):Int) (0:Int))):=by kernel_rfl
def slices_Index_Sint64.st0 (x0:List T) (x1 x2 x3:Int):St:=⟨[(0,ol 1 x0),(1,oi x1),(7,oi x2),(8,oi x3)],[]⟩
noncomputable def slices_Index_Sint64.K0 (n:Nat):Ex→St→R:=kx F.slices_Index_Sint64 n [.block 0,.seq 0 (cx F.slices_Index_Sint64 [1,1])] (endOf prog A F.slices_Index_Sint64)
noncomputable def slices_Index_Sint64.at0 (n:Nat) (m:Nat) (s:St):R:=lx F.slices_Index_Sint64 n 0 [1,0,1,0,0] (slices_Index_Sint64.K0 n) m s
noncomputable def slices_Index_Sint64.rd0 (n:Nat) (L0:St→R) (s:St):R:=rx F.slices_Index_Sint64 n 0 [1,0,1,0,0] (slices_Index_Sint64.K0 n) L0 s
theorem slices_Index_Sint64.next0 (n:Nat) (m:Nat) (s:St):slices_Index_Sint64.at0 n (m+1) s=slices_Index_Sint64.rd0 n (slices_Index_Sint64.at0 n m) s:=nx _ _ _ _ _ _ _
theorem slices_Index_Sint64.round0 (n:Nat) (L0:St→R) (x0:List T) (x1 x2 x3:Int):slices_Index_Sint64.rd0 n L0 (slices_Index_Sint64.st0 x0 x1 x2 x3)=(bif (decide (x3 < x2)) then (bif inB x3 ((x0).length / 1) then ((x0[((Int.toNat x3)*1)]?).bind fun e1=>((oInt .i64 e1).bind fun n2=>(bif ((x1 == n2)) then some ((.int .i64 x3),[]) else (L0 (slices_Index_Sint64.st0 x0 x1 x2 (IntKind.wrap .i64 (x3+(1:Int)))))))) else none) else some ((.int .i64 (-1:Int)),[])):=by kernel_rfl
theorem slices_Index_Sint64.ev (n:Nat) (a0:List T) (a1:Int):callK prog A H LIM n F.slices_Index_Sint64 [(.sl 1 a0),(.int .i64 a1)]=(slices_Index_Sint64.at0 n n (slices_Index_Sint64.st0 a0 a1 ((((a0).length / 1):Nat):Int) (0:Int))):=by kernel_rfl
theorem spec_DrawWalkStep.ev (n:Nat) (a0:List T):callK prog A H LIM n F.spec_DrawWalkStep [(.sl 1 a0)]=((LIM F.spec_l1Source [(.sl 1 a0)]).bind fun r1=>((oNil r1.2).bind fun _=>((oBx r1.1).bind fun c2=>((oCons c2).bind fun p3=>((oSl 1 p3.1).bind fun c4=>((oCons p3.2).bind fun p5=>((oInt .i64 p5.1).bind fun n6=>((oNil p5.2).bind fun _=>((LIM F.spec_l2Bent [(.rref [(.sl 1 c4),(.int .i64 n6)] 0)]).bind fun r7=>((oCons r7.2).bind fun p8=>((oNil p8.2).bind fun _=>((oAgg p8.1).bind fun c9=>((oCons c9).bind fun p10=>((oSl 1 p10.1).bind fun c11=>((oCons p10.2).bind fun p12=>((oInt .i64 p12.1).bind fun n13=>((oNil p12.2).bind fun _=>((oAgg r7.1).bind fun c14=>((oCons c14).bind fun p15=>((oSl 2 p15.1).bind fun c16=>((oNil p15.2).bind fun _=>((LIM F.spec_l5BentList [(.rref [(.sl 1 c4),(.int .i64 n13)] 0),(.rref [(.sl 2 c16)] 0)]).bind fun r17=>((oCons r17.2).bind fun p18=>((oNil p18.2).bind fun _=>((oAgg p18.1).bind fun c19=>((oCons c19).bind fun p20=>((oSl 1 p20.1).bind fun c21=>((oCons p20.2).bind fun p22=>((oInt .i64 p22.1).bind fun n23=>((oNil p22.2).bind fun _=>((oSl 2 r17.1).bind fun c24=>((LIM F.spec_l1Pick [(.rref [(.sl 1 c4),(.int .i64 n23)] 0),(.sl 1 [(.int .i64 (4:Int)),(.int .i64 (8:Int)),(.int .i64 (20:Int))])]).bind fun r25=>((oCons r25.2).bind fun p26=>((oNil p26.2).bind fun _=>((oAgg p26.1).bind fun c27=>((oCons c27).bind fun p28=>((oSl 1 p28.1).bind fun c29=>((oCons p28.2).bind fun p30=>((oInt .i64 p30.1).bind fun n31=>((oNil p30.2).bind fun _=>((oInt .i64 r25.1).bind fun n32=>((LIM F.spec_l1Pick [(.rref [(.sl 1 c4),(.int .i64 n31)] 0),(.sl 1 [(.int .i64 (0:Int)),(.int .i64 (3:Int))])]).bind fun r33=>((oCons r33.2).bind fun p34=>((oNil p34.2).bind fun _=>((oAgg p34.1).bind fun c35=>((oCons c35).bind fun p36=>((oSl 1 p36.1).bind fun c37=>((oCons p36.2).bind fun p38=>((oInt .i64 p38.1).bind fun n39=>((oNil p38.2).bind fun _=>((oInt .i64 r33.1).bind fun n40=>((LIM F.spec_l3BentTerm [(.rref [(.sl 1 c4),(.int .i64 n39)] 0),(.rref [(.sl 2 c16)] 0),(.int .i64 n32),(.int .i64 n40)]).bind fun r41=>((oCons r41.2).bind fun p42=>((oNil p42.2).bind fun _=>((oAgg p42.1).bind fun c43=>((oCons c43).bind fun p44=>((oSl 1 p44.1).bind fun c45=>((oCons p44.2).bind fun p46=>((oInt .i64 p46.1).bind fun n47=>((oNil p46.2).bind fun _=>((oSl 1 r41.1).bind fun c48=>((LIM F.spec_SignatureFault [(.agg [(.sl 2 c16)])]).bind fun r49=>((oNil r49.2).bind fun _=>((oInt .i64 r49.1).bind fun n50=>(bif ((n50 != (0:Int))) then ((LIM F.spec_l1Pick [(.rref [(.sl 1 c4),(.int .i64 n47)] 0),(.sl 1 [(.int .i64 (0:Int)),(.int .i64 (1:Int)),(.int .i64 (-1:Int)),(.int .i64 (12:Int))])]).bind fun r51=>((oCons r51.2).bind fun p52=>((oNil p52.2).bind fun _=>((oAgg p52.1).bind fun c53=>((oCons c53).bind fun p54=>((oSl 1 p54.1).bind fun c55=>((oCons p54.2).bind fun p56=>((oInt .i64 p56.1).bind fun n57=>((oNil p56.2).bind fun _=>((oInt .i64 r51.1).bind fun n58=>((LIM F.spec_l1Chance [(.rref [(.sl 1 c4),(.int .i64 n57)] 0),(.int .i64 (2:Int))]).bind fun r59=>((oCons r59.2).bind fun p60=>((oNil p60.2).bind fun _=>((oAgg p60.1).bind fun c61=>((oCons c61).bind fun p62=>((oSl 1 p62.1).bind fun c63=>((oCons p62.2).bind fun p64=>((oInt .i64 p64.1).bind fun n65=>((oNil p64.2).bind fun _=>((oBool r59.1).bind fun b66=>((LIM F.spec_l6Bent [(.rref [(.sl 1 c4),(.int .i64 n65)] 0),(.rref [(.sl 2 c16)] 0)]).bind fun r67=>((oCons r67.2).bind fun p68=>((oNil p68.2).bind fun _=>((oAgg p68.1).bind fun c69=>((oCons c69).bind fun p70=>((oSl 1 p70.1).bind fun c71=>((oCons p70.2).bind fun p72=>((oInt .i64 p72.1).bind fun n73=>((oNil p72.2).bind fun _=>((oAgg r67.1).bind fun c74=>((oCons c74).bind fun p75=>((oSl 1 p75.1).bind fun c76=>((oCons p75.2).bind fun p77=>((oSl 1 p77.1).bind fun c78=>((oNil p77.2).bind fun _=>((LIM F.spec_l1Pick [(.rref [(.sl 1 c4),(.int .i64 n73)] 0),(.sl 1 [(.int .i64 (0:Int)),(.int .i64 (1:Int)),(.int .i64 (-1:Int)),(.int .i64 (24:Int))])]).bind fun r79=>((oCons r79.2).bind fun p80=>((oNil p80.2).bind fun _=>((oAgg p80.1).bind fun c81=>((oCons c81).bind fun p82=>((oSl 1 p82.1).bind fun c83=>((oCons p82.2).bind fun p84=>((oInt .i64 p84.1).bind fun n85=>((oNil p84.2).bind fun _=>((oInt .i64 r79.1).bind fun n86=>some ((.tup [(.agg [(.sl 2 c16)]),(.sl 2 c24),(.sl 1 c48),(.int .i64 n58),(.bool b66),(.agg [(.sl 1 c76),(.sl 1 c78)]),(.int .i64 n86)]),[])))))))))))))))))))))))))))))))))))))))))))))) else ((LIM F.spec_l5Fault [(.rref [(.sl 2 c16)] 0),(.sl 2 c24)]).bind fun r87=>((oNil r87.2).bind fun _=>((oInt .i64 r87.1).bind fun n88=>(bif ((n88 != (0:Int))) then ((LIM F.spec_l1Pick [(.rref [(.sl 1 c4),(.int .i64 n47)] 0),(.sl 1 [(.int .i64 (0:Int)),(.int .i64 (1:Int)),(.int .i64 (-1:Int)),(.int .i64 (12:Int))])]).bind fun r89=>((oCons r89.2).bind fun p90=>((oNil p90.2).bind fun _=>((oAgg p90.1).bind fun c91=>((oCons c91).bind fun p92=>((oSl 1 p92.1).bind fun c93=>((oCons p92.2).bind fun p94=>((oInt .i64 p94.1).bind fun n95=>((oNil p94.2).bind fun _=>((oInt .i64 r89.1).bind fun n96=>((LIM F.spec_l1Chance [(.rref [(.sl 1 c4),(.int .i64 n95)] 0),(.int .i64 (2:Int))]).bind fun r97=>((oCons r97.2).bind fun p98=>((oNil p98.2).bind fun _=>((oAgg p98.1).bind fun c99=>((oCons c99).bind fun p100=>((oSl 1 p100.1).bind fun c101=>((oCons p100.2).bind fun p102=>((oInt .i64 p102.1).bind fun n103=>((oNil p102.2).bind fun _=>((oBool r97.1).bind fun b104=>((LIM F.spec_l6Bent [(.rref [(.sl 1 c4),(.int .i64 n103)] 0),(.rref [(.sl 2 c16)] 0)]).bind fun r105=>((oCons r105.2).bind fun p106=>((oNil p106.2).bind fun _=>((oAgg p106.1).bind fun c107=>((oCons c107).bind fun p108=>((oSl 1 p108.1).bind fun c109=>((oCons p108.2).bind fun p110=>((oInt .i64 p110.1).bind fun n111=>((oNil p110.2).bind fun _=>((oAgg r105.1).bind fun c112=>((oCons c112).bind fun p113=>((oSl 1 p113.1).bind fun c114=>((oCons p113.2).bind fun p115=>((oSl 1 p115.1).bind fun c116=>((oNil p115.2).bind fun _=>((LIM F.spec_l1Pick [(.rref [(.sl 1 c4),(.int .i64 n111)] 0),(.sl 1 [(.int .i64 (0:Int)),(.int .i64 (1:Int)),(.int .i64 (-1:Int)),(.int .i64 (24:Int))])]).bind fun r117=>((oCons r117.2).bind fun p118=>((oNil p118.2).bind fun _=>((oAgg p118.1).bind fun c119=>((oCons c119).bind fun p120=>((oSl 1 p120.1).bind fun c121=>((oCons p120.2).bind fun p122=>((oInt .i64 p122.1).bind fun n123=>((oNil p122.2).bind fun _=>((oInt .i64 r117.1).bind fun n124=>some ((.tup [(.agg [(.sl 2 c16)]),(.sl 2 c24),(.sl 1 c48),(.int .i64 n96),(.bool b104),(.agg [(.sl 1 c114),(.sl 1 c116)]),(.int .i64 n124)]),[])))))))))))))))))))))))))))))))))))))))))))))) else ((LIM F.spec_l3Fault [(.rref [(.sl 2 c16)] 0),(.sl 1 c48)]).bind fun r125=>((oNil r125.2).bind fun _=>((oInt .i64 r125.1).bind fun n126=>(bif ((n126 != (0:Int))) then ((LIM F.spec_l1Pick [(.rref [(.sl 1 c4),(.int .i64 n47)] 0),(.sl 1 [(.int .i64 (0:Int)),(.int .i64 (1:Int)),(.int .i64 (-1:Int)),(.int .i64 (12:Int))])]).bind fun r127=>((oCons r127.2).bind fun p128=>((oNil p128.2).bind fun _=>((oAgg p128.1).bind fun c129=>((oCons c129).bind fun p130=>((oSl 1 p130.1).bind fun c131=>((oCons p130.2).bind fun p132=>((oInt .i64 p132.1).bind fun n133=>((oNil p132.2).bind fun _=>((oInt .i64 r127.1).bind fun n134=>((LIM F.spec_l1Chance [(.rref [(.sl 1 c4),(.int .i64 n133)] 0),(.int .i64 (2:Int))]).bind fun r135=>((oCons r135.2).bind fun p136=>((oNil p136.2).bind fun _=>((oAgg p136.1).bind fun c137=>((oCons c137).bind fun p138=>((oSl 1 p138.1).bind fun c139=>((oCons p138.2).bind fun p140=>((oInt .i64 p140.1).bind fun n141=>((oNil p140.2).bind fun _=>((oBool r135.1).bind fun b142=>((LIM F.spec_l6Bent [(.rref [(.sl 1 c4),(.int .i64 n141)] 0),(.rref [(.sl 2 c16)] 0)]).bind fun r143=>((oCons r143.2).bind fun p144=>((oNil p144.2).bind fun _=>((oAgg p144.1).bind fun c145=>((oCons c145).bind fun p146=>((oSl 1 p146.1).bind fun c147=>((oCons p146.2).bind fun p148=>((oInt .i64 p148.1).bind fun n149=>((oNil p148.2).bind fun _=>((oAgg r143.1).bind fun c150=>((oCons c150).bind fun p151=>((oSl 1 p151.1).bind fun c152=>((oCons p151.2).bind fun p153=>((oSl 1 p153.1).bind fun c154=>((oNil p153.2).bind fun _=>((LIM F.spec_l1Pick [(.rref [(.sl 1 c4),(.int .i64 n149)] 0),(.sl 1 [(.int .i64 (0:Int)),(.int .i64 (1:Int)),(.int .i64 (-1:Int)),(.int .i64 (24:Int))])]).bind fun r155=>((oCons r155.2).bind fun p156=>((oNil p156.2).bind fun _=>((oAgg p156.1).bind fun c157=>((oCons c157).bind fun p158=>((oSl 1 p158.1).bind fun c159=>((oCons p158.2).bind fun p160=>((oInt .i64 p160.1).bind fun n161=>((oNil p160.2).bind fun _=>((oInt .i64 r155.1).bind fun n162=>some ((.tup [(.agg [(.sl 2 c16)]),(.sl 2 c24),(.sl 1 c48),(.int .i64 n134),(.bool b142),(.agg [(.sl 1 c152),(.sl 1 c154)]),(.int .i64 n162)]),[])))))))))))))))))))))))))))))))))))))))))))))) else ((LIM F.spec_l1Chance [(.rref [(.sl 1 c4),(.int .i64 n47)] 0),(.int .i64 (9:Int))]).bind fun r163=>((oCons r163.2).bind fun p164=>((oNil p164.2).bind fun _=>((oAgg p164.1).bind fun c165=>((oCons c165).bind fun p166=>((oSl 1 p166.1).bind fun c167=>((oCons p166.2).bind fun p168=>((oInt .i64 p168.1).bind fun n169=>((oNil p168.2).bind fun _=>((oBool r163.1).bind fun b170=>(bif b170 then ((LIM F.spec_l1Pick [(.rref [(.sl 1 c4),(.int .i64 n169)] 0),(.sl 1 [(.int .i64 (0:Int)),(.int .i64 (1:Int)),(.int .i64 (-1:Int)),(.int .i64 (12:Int))])]).bind fun r171=>((oCons r171.2).bind fun p172=>((oNil p172.2).bind fun _=>((oAgg p172.1).bind fun c173=>((oCons c173).bind fun p174=>((oSl 1 p174.1).bind fun c175=>((oCons p174.2).bind fun p176=>((oInt .i64 p176.1).bind fun n177=>((oNil p176.2).bind fun _=>((oInt .i64 r171.1).bind fun n178=>((LIM F.spec_l1Chance [(.rref [(.sl 1 c4),(.int .i64 n177)] 0),(.int .i64 (2:Int))]).bind fun r179=>((oCons r179.2).bind fun p180=>((oNil p180.2).bind fun _=>((oAgg p180.1).bind fun c181=>((oCons c181).bind fun p182=>((oSl 1 p182.1).bind fun c183=>((oCons p182.2).bind fun p184=>((oInt .i64 p184.1).bind fun n185=>((oNil p184.2).bind fun _=>((oBool r179.1).bind fun b186=>((LIM F.spec_l6Bent [(.rref [(.sl 1 c4),(.int .i64 n185)] 0),(.rref [(.sl 2 c16)] 0)]).bind fun r187=>((oCons r187.2).bind fun p188=>((oNil p188.2).bind fun _=>((oAgg p188.1).bind fun c189=>((oCons c189).bind fun p190=>((oSl 1 p190.1).bind fun c191=>((oCons p190.2).bind fun p192=>((oInt .i64 p192.1).bind fun n193=>((oNil p192.2).bind fun _=>((oAgg r187.1).bind fun c194=>((oCons c194).bind fun p195=>((oSl 1 p195.1).bind fun c196=>((oCons p195.2).bind fun p197=>((oSl 1 p197.1).bind fun c198=>((oNil p197.2).bind fun _=>((LIM F.spec_l1Pick [(.rref [(.sl 1 c4),(.int .i64 n193)] 0),(.sl 1 [(.int .i64 (0:Int)),(.int .i64 (1:Int)),(.int .i64 (-1:Int)),(.int .i64 (24:Int))])]).bind fun r199=>((oCons r199.2).bind fun p200=>((oNil p200.2).bind fun _=>((oAgg p200.1).bind fun c201=>((oCons c201).bind fun p202=>((oSl 1 p202.1).bind fun c203=>((oCons p202.2).bind fun p204=>((oInt .i64 p204.1).bind fun n205=>((oNil p204.2).bind fun _=>((oInt .i64 r199.1).bind fun n206=>some ((.tup [(.agg [(.sl 2 c16)]),(.sl 2 c24),(.sl 1 c48),(.int .i64 n178),(.bool b186),(.agg [(.sl 1 c196),(.sl 1 c198)]),(.int .i64 n206)]),[])))))))))))))))))))))))))))))))))))))))))))))) else ((LIM F.spec_l13Walk [(.rref [(.sl 1 c4),(.int .i64 n169)] 0),(.rref [(.sl 2 c16)] 0),(.sl 2 c24),(.sl 1 c48)]).bind fun r207=>((oCons r207.2).bind fun p208=>((oNil p208.2).bind fun _=>((oAgg p208.1).bind fun c209=>((oCons c209).bind fun p210=>((oSl 1 p210.1).bind fun c211=>((oCons p210.2).bind fun p212=>((oInt .i64 p212.1).bind fun n213=>((oNil p212.2).bind fun _=>((oTup r207.1).bind fun c214=>((oCons c214).bind fun p215=>((oInt .i64 p215.1).bind fun n216=>((oCons p215.2).bind fun p217=>((oBool p217.1).bind fun b218=>((oCons p217.2).bind fun p219=>((oAgg p219.1).bind fun c220=>((oCons c220).bind fun p221=>((oSl 1 p221.1).bind fun c222=>((oCons p221.2).bind fun p223=>((oSl 1 p223.1).bind fun c224=>((oNil p223.2).bind fun _=>((oCons p219.2).bind fun p225=>((oInt .i64 p225.1).bind fun n226=>((oNil p225.2).bind fun _=>some ((.tup [(.agg [(.sl 2 c16)]),(.sl 2 c24),(.sl 1 c48),(.int .i64 n216),(.bool b218),(.agg [(.sl 1 c222),(.sl 1 c224)]),(.int .i64 n226)]),[]))))))))))))))))))))))))))))))))))))))))))))))))))))))))))))))))))))))))))))))))))))))))))))))))))))))))))))):=by kernel_rfl
theorem spec_EquationsFault.ev (n:Nat) (a0_0 a1:List T):callK prog A H LIM n F.spec_EquationsFault [(.agg [(.sl 2 a0_0)]),(.sl 2 a1)]=((LIM F.spec_SignatureFault [(.agg [(.sl 2 a0_0)])]).bind fun r1=>((oNil r1.2).bind fun _=>((oInt .i64 r1.1).bind fun n2=>(bif ((n2 != (0:Int))) then some ((.int .i64 n2),[]) else ((LIM F.spec_l5Fault [(.rref [(.sl 2 a0_0)] 0),(.sl 2 a1)]).bind fun r3=>((oNil r3.2).bind fun _=>((oInt .i64 r3.1).bind fun n4=>some ((.int .i64 n4),[])))))))):=by kernel_rfl
theorem spec_ReadEquation.ev (n:Nat) (a0_0:List T) (a1:ByteArray):callK prog A H LIM n F.spec_ReadEquation [(.agg [(.sl 2 a0_0)]),(.str a1)]=((LIM F.spec_SignatureFault [(.agg [(.sl 2 a0_0)])]).bind fun r1=>((oNil r1.2).bind fun _=>((oInt .i64 r1.1).bind fun n2=>(bif ((n2 != (0:Int))) then some ((.agg [(.int .i64 n2),(.sl 1 []),(.sl 1 [])]),[]) else (bif (decide ((a1.size:Int) > (337:Int))) then some ((.agg [(.int .i64 (5:Int)),(.sl 1 []),(.sl 1 [])]),[]) else ((LIM F.spec_l1Cut [(.str a1),(.int .u8 (61:Int))]).bind fun r3=>((oNil r3.2).bind fun _=>((oSl 1 r3.1).bind fun c4=>(bif ((((((c4).length / 1):Nat):Int) != (2:Int))) then some ((.agg [(.int .i64 (5:Int)),(.sl 1 []),(.sl 1 [])]),[]) else (bif inB (0:Int) ((c4).length / 1) then ((c4[0]?).bind fun e5=>((oStr e5).bind fun s6=>((LIM F.spec_l4Read [(.rref [(.sl 2 a0_0)] 0),(.str s6)]).bind fun r7=>((oNil r7.2).bind fun _=>((oSl 1 r7.1).bind fun c8=>(bif inB (1:Int) ((c4).length / 1) then ((c4[1]?).bind fun e9=>((oStr e9).bind fun s10=>((LIM F.spec_l4Read [(.rref [(.sl 2 a0_0)] 0),(.str s10)]).bind fun r11=>((oNil r11.2).bind fun _=>((oSl 1 r11.1).bind fun c12=>((LIM F.spec_l4Fault [(.rref [(.sl 2 a0_0)] 0),(.rref [(.sl 1 c8),(.sl 1 c12)] 0)]).bind fun r13=>((oNil r13.2).bind fun _=>((oInt .i64 r13.1).bind fun n14=>(bif ((n14 != (0:Int))) then some ((.agg [(.int .i64 (5:Int)),(.sl 1 []),(.sl 1 [])]),[]) else some ((.agg [(.int .i64 (0:Int)),(.sl 1 c8),(.sl 1 c12)]),[])))))))))) else none)))))) else none)))))))))):=by kernel_rfl
def spec_SignatureFault.st4 (x0 x1 x2:Int) (x3:List T):St:=⟨[(1,(.one (.ptr 64 0))),(3,oi x0),(5,oi x1),(6,oi x2)],[(64,(.box [(.t (.sl 2 x3))]))]⟩
def spec_SignatureFault.st6 (x0 x1:Int) (x2:List T):St:=⟨[(1,(.one (.ptr 64 0))),(3,oi x0),(7,oi x1)],[(64,(.box [(.t (.sl 2 x2))]))]⟩
def spec_SignatureFault.st2 (x0 x1:Int) (x2:List T):St:=⟨[(1,(.one (.ptr 64 0))),(3,oi x0),(5,oi x1)],[(64,(.box [(.t (.sl 2 x2))]))]⟩
def spec_SignatureFault.st0 (x0 x1:Int) (x2:List T):St:=⟨[(1,(.one (.ptr 64 0))),(3,oi x0),(4,oi x1)],[(64,(.box [(.t (.sl 2 x2))]))]⟩
noncomputable def spec_SignatureFault.K0 (n:Nat):Ex→St→R:=kx F.spec_SignatureFault n [.block 0,.seq 0 (cx F.spec_SignatureFault [1,1,1,1])] (endOf prog A F.spec_SignatureFault)
noncomputable def spec_SignatureFault.at0 (n:Nat) (m:Nat) (s:St):R:=lx F.spec_SignatureFault n 0 [1,1,1,0,1,0,0] (spec_SignatureFault.K0 n) m s
noncomputable def spec_SignatureFault.rd0 (n:Nat) (L0:St→R) (s:St):R:=rx F.spec_SignatureFault n 0 [1,1,1,0,1,0,0] (spec_SignatureFault.K0 n) L0 s
theorem spec_SignatureFault.next0 (n:Nat) (m:Nat) (s:St):spec_SignatureFault.at0 n (m+1) s=spec_SignatureFault.rd0 n (spec_SignatureFault.at0 n m) s:=nx _ _ _ _ _ _ _
noncomputable def spec_SignatureFault.K2 (n:Nat):Ex→St→R:=kx F.spec_SignatureFault n [.block 2,.seq 0 (cx F.spec_SignatureFault [1,1,1,1,1])] (endOf prog A F.spec_SignatureFault)
noncomputable def spec_SignatureFault.at2 (n:Nat) (m:Nat) (s:St):R:=lx F.spec_SignatureFault n 2 [1,1,1,1,0,1,0,0] (spec_SignatureFault.K2 n) m s
noncomputable def spec_SignatureFault.rd2 (n:Nat) (L2:St→R) (s:St):R:=rx F.spec_SignatureFault n 2 [1,1,1,1,0,1,0,0] (spec_SignatureFault.K2 n) L2 s
theorem spec_SignatureFault.next2 (n:Nat) (m:Nat) (s:St):spec_SignatureFault.at2 n (m+1) s=spec_SignatureFault.rd2 n (spec_SignatureFault.at2 n m) s:=nx _ _ _ _ _ _ _
noncomputable def spec_SignatureFault.K6 (n:Nat):Ex→St→R:=kx F.spec_SignatureFault n [.block 6,.seq 0 (cx F.spec_SignatureFault [1,1,1,1,1,1])] (endOf prog A F.spec_SignatureFault)
noncomputable def spec_SignatureFault.at6 (n:Nat) (m:Nat) (s:St):R:=lx F.spec_SignatureFault n 6 [1,1,1,1,1,0,1,0,0] (spec_SignatureFault.K6 n) m s
noncomputable def spec_SignatureFault.rd6 (n:Nat) (L6:St→R) (s:St):R:=rx F.spec_SignatureFault n 6 [1,1,1,1,1,0,1,0,0] (spec_SignatureFault.K6 n) L6 s
theorem spec_SignatureFault.next6 (n:Nat) (m:Nat) (s:St):spec_SignatureFault.at6 n (m+1) s=spec_SignatureFault.rd6 n (spec_SignatureFault.at6 n m) s:=nx _ _ _ _ _ _ _
noncomputable def spec_SignatureFault.K4 (n:Nat) (L2:St→R):Ex→St→R:=kx F.spec_SignatureFault n [.block 4,.block 3,.seq 2 (cx F.spec_SignatureFault [1,1,1,1,0,1,0,0,1,1])] (bx F.spec_SignatureFault 2 (spec_SignatureFault.K2 n) L2)
noncomputable def spec_SignatureFault.at4 (n:Nat) (L2:St→R) (m:Nat) (s:St):R:=lx F.spec_SignatureFault n 4 [1,1,1,1,0,1,0,0,1,0,0,1,0,0] (spec_SignatureFault.K4 n L2) m s
noncomputable def spec_SignatureFault.rd4 (n:Nat) (L2:St→R) (L4:St→R) (s:St):R:=rx F.spec_SignatureFault n 4 [1,1,1,1,0,1,0,0,1,0,0,1,0,0] (spec_SignatureFault.K4 n L2) L4 s
theorem spec_SignatureFault.next4 (n:Nat) (L2:St→R) (m:Nat) (s:St):spec_SignatureFault.at4 n L2 (m+1) s=spec_SignatureFault.rd4 n L2 (spec_SignatureFault.at4 n L2 m) s:=nx _ _ _ _ _ _ _
theorem spec_SignatureFault.round0 (n:Nat) (L0:St→R) (x0 x1:Int) (x2:List T):spec_SignatureFault.rd0 n L0 (spec_SignatureFault.st0 x0 x1 x2)=(bif (decide (x1 < x0)) then (bif inB x1 ((x2).length / 2) then ((x2[((Int.toNat x1)*2)]?).bind fun e1=>((oStr e1).bind fun s2=>((LIM F.spec_l2Name [(.str s2)]).bind fun r3=>((oNil r3.2).bind fun _=>((oBool r3.1).bind fun b4=>(bif (!b4) then some ((.int .i64 (5:Int)),[]) else (bif inB x1 ((x2).length / 2) then ((x2[(((Int.toNat x1)*2)+1)]?).bind fun e5=>((oInt .i64 e5).bind fun n6=>((LIM F.spec_l1In [(.int .i64 n6),(.int .i64 (0:Int)),(.int .i64 (2:Int))]).bind fun r7=>((oNil r7.2).bind fun _=>((oBool r7.1).bind fun b8=>(bif (!b8) then some ((.int .i64 (3:Int)),[]) else (L0 (spec_SignatureFault.st0 x0 (IntKind.wrap .i64 (x1+(1:Int))) x2)))))))) else none))))))) else none) else (spec_SignatureFault.at2 n n (spec_SignatureFault.st2 x0 (0:Int) x2))):=by kernel_rfl
theorem spec_SignatureFault.round2 (n:Nat) (L2:St→R) (x0 x1:Int) (x2:List T):spec_SignatureFault.rd2 n L2 (spec_SignatureFault.st2 x0 x1 x2)=(bif (decide (x1 < x0)) then (spec_SignatureFault.at4 n L2 n (spec_SignatureFault.st4 x0 x1 (0:Int) x2)) else (spec_SignatureFault.at6 n n (spec_SignatureFault.st6 x0 (0:Int) x2))):=by kernel_rfl
theorem spec_SignatureFault.round6 (n:Nat) (L6:St→R) (x0 x1:Int) (x2:List T):spec_SignatureFault.rd6 n L6 (spec_SignatureFault.st6 x0 x1 x2)=(bif (decide (x1 < x0)) then (bif inB x1 ((x2).length / 2) then ((x2[(((Int.toNat x1)*2)+1)]?).bind fun e13=>((oInt .i64 e13).bind fun n14=>(bif ((n14 == (0:Int))) then some ((.int .i64 (0:Int)),[]) else (L6 (spec_SignatureFault.st6 x0 (IntKind.wrap .i64 (x1+(1:Int))) x2))))) else none) else some ((.int .i64 (4:Int)),[])):=by kernel_rfl
theorem spec_SignatureFault.round4 (n:Nat) (L2:St→R) (L4:St→R) (x0 x1 x2:Int) (x3:List T):spec_SignatureFault.rd4 n L2 L4 (spec_SignatureFault.st4 x0 x1 x2 x3)=(bif (decide (x2 < x1)) then (bif inB x1 ((x3).length / 2) then ((x3[((Int.toNat x1)*2)]?).bind fun e9=>((oStr e9).bind fun s10=>(bif inB x2 ((x3).length / 2) then ((x3[((Int.toNat x2)*2)]?).bind fun e11=>((oStr e11).bind fun s12=>(bif (s10.toList == s12.toList) then some ((.int .i64 (6:Int)),[]) else (L4 (spec_SignatureFault.st4 x0 x1 (IntKind.wrap .i64 (x2+(1:Int))) x3))))) else none))) else none) else (L2 (spec_SignatureFault.st2 x0 (IntKind.wrap .i64 (x1+(1:Int))) x3))):=by kernel_rfl
theorem spec_SignatureFault.ev (n:Nat) (a0_0:List T):callK prog A H LIM n F.spec_SignatureFault [(.agg [(.sl 2 a0_0)])]=(bif (decide (((((a0_0).length / 2):Nat):Int) < (1:Int))) then some ((.int .i64 (2:Int)),[]) else (bif (decide (((((a0_0).length / 2):Nat):Int) > (6:Int))) then some ((.int .i64 (2:Int)),[]) else (spec_SignatureFault.at0 n n (spec_SignatureFault.st0 ((((a0_0).length / 2):Nat):Int) (0:Int) a0_0)))):=by kernel_rfl
theorem spec_WalkStep.ev (n:Nat) (a0_0 a1 a2:List T) (a3:Int) (a4:Bool) (a5_0 a5_1:List T) (a6:Int):callK prog A H LIM n F.spec_WalkStep [(.agg [(.sl 2 a0_0)]),(.sl 2 a1),(.sl 1 a2),(.int .i64 a3),(.bool a4),(.agg [(.sl 1 a5_0),(.sl 1 a5_1)]),(.int .i64 a6)]=((LIM F.spec_EquationsFault [(.agg [(.sl 2 a0_0)]),(.sl 2 a1)]).bind fun r1=>((oNil r1.2).bind fun _=>((oInt .i64 r1.1).bind fun n2=>(bif ((n2 != (0:Int))) then some ((.agg [(.int .i64 n2),(.sl 1 [])]),[]) else ((LIM F.spec_l3Fault [(.rref [(.sl 2 a0_0)] 0),(.sl 1 a2)]).bind fun r3=>((oNil r3.2).bind fun _=>((oInt .i64 r3.1).bind fun n4=>(bif ((n4 != (0:Int))) then some ((.agg [(.int .i64 n4),(.sl 1 [])]),[]) else ((LIM F.spec_l1In [(.int .i64 a3),(.int .i64 (0:Int)),(.int .i64 (IntKind.wrap .i64 (((((a1).length / 2):Nat):Int) - (1:Int))))]).bind fun r5=>((oNil r5.2).bind fun _=>((oBool r5.1).bind fun b6=>(bif (!b6) then some ((.agg [(.int .i64 (3:Int)),(.sl 1 [])]),[]) else ((LIM F.spec_l6Fault [(.rref [(.sl 2 a0_0)] 0),(.rref [(.sl 1 a5_0),(.sl 1 a5_1)] 0)]).bind fun r7=>((oNil r7.2).bind fun _=>((oInt .i64 r7.1).bind fun n8=>(bif ((n8 != (0:Int))) then some ((.agg [(.int .i64 n8),(.sl 1 [])]),[]) else ((LIM F.spec_l3Place [(.sl 1 a2),(.int .i64 a6)]).bind fun r9=>((oNil r9.2).bind fun _=>((oBool r9.1).bind fun b10=>(bif (!b10) then some ((.agg [(.int .i64 (3:Int)),(.sl 1 [])]),[]) else (bif inB a3 ((a1).length / 2) then ((a1[((Int.toNat a3)*2)]?).bind fun e11=>((oSl 1 e11).bind fun c12=>(bif inB a3 ((a1).length / 2) then ((a1[(((Int.toNat a3)*2)+1)]?).bind fun e13=>((oSl 1 e13).bind fun c14=>(bif a4 then (bif inB a3 ((a1).length / 2) then ((a1[(((Int.toNat a3)*2)+1)]?).bind fun e15=>((oSl 1 e15).bind fun c16=>(bif inB a3 ((a1).length / 2) then ((a1[((Int.toNat a3)*2)]?).bind fun e17=>((oSl 1 e17).bind fun c18=>((LIM F.spec_l6Apply [(.rref [(.sl 1 a5_0),(.sl 1 a5_1)] 0),(.sl 1 c16)]).bind fun r19=>((oNil r19.2).bind fun _=>((oSl 1 r19.1).bind fun c20=>((LIM F.spec_l3Sub [(.rref [(.sl 2 a0_0)] 0),(.sl 1 a2),(.int .i64 a6)]).bind fun r21=>((oNil r21.2).bind fun _=>((oSl 1 r21.1).bind fun c22=>((LIM F.spec_l1Same [(.sl 1 c20),(.sl 1 c22)]).bind fun r23=>((oNil r23.2).bind fun _=>((oBool r23.1).bind fun b24=>(bif (!b24) then some ((.agg [(.int .i64 (4:Int)),(.sl 1 [])]),[]) else ((LIM F.spec_l6Apply [(.rref [(.sl 1 a5_0),(.sl 1 a5_1)] 0),(.sl 1 c18)]).bind fun r25=>((oNil r25.2).bind fun _=>((oSl 1 r25.1).bind fun c26=>(bif (decide (((((c26).length / 1):Nat):Int) > (24:Int))) then some ((.agg [(.int .i64 (2:Int)),(.sl 1 [])]),[]) else ((LIM F.spec_l3Replace [(.rref [(.sl 2 a0_0)] 0),(.sl 1 a2),(.int .i64 a6),(.sl 1 c26)]).bind fun r27=>((oNil r27.2).bind fun _=>((oSl 1 r27.1).bind fun c28=>(bif (decide (((((c28).length / 1):Nat):Int) > (24:Int))) then some ((.agg [(.int .i64 (2:Int)),(.sl 1 [])]),[]) else some ((.agg [(.int .i64 (0:Int)),(.sl 1 c28)]),[]))))))))))))))))))))) else none))) else none) else ((LIM F.spec_l6Apply [(.rref [(.sl 1 a5_0),(.sl 1 a5_1)] 0),(.sl 1 c12)]).bind fun r29=>((oNil r29.2).bind fun _=>((oSl 1 r29.1).bind fun c30=>((LIM F.spec_l3Sub [(.rref [(.sl 2 a0_0)] 0),(.sl 1 a2),(.int .i64 a6)]).bind fun r31=>((oNil r31.2).bind fun _=>((oSl 1 r31.1).bind fun c32=>((LIM F.spec_l1Same [(.sl 1 c30),(.sl 1 c32)]).bind fun r33=>((oNil r33.2).bind fun _=>((oBool r33.1).bind fun b34=>(bif (!b34) then some ((.agg [(.int .i64 (4:Int)),(.sl 1 [])]),[]) else ((LIM F.spec_l6Apply [(.rref [(.sl 1 a5_0),(.sl 1 a5_1)] 0),(.sl 1 c14)]).bind fun r35=>((oNil r35.2).bind fun _=>((oSl 1 r35.1).bind fun c36=>(bif (decide (((((c36).length / 1):Nat):Int) > (24:Int))) then some ((.agg [(.int .i64 (2:Int)),(.sl 1 [])]),[]) else ((LIM F.spec_l3Replace [(.rref [(.sl 2 a0_0)] 0),(.sl 1 a2),(.int .i64 a6),(.sl 1 c36)]).bind fun r37=>((oNil r37.2).bind fun _=>((oSl 1 r37.1).bind fun c38=>(bif (decide (((((c38).length / 1):Nat):Int) > (24:Int))) then some ((.agg [(.int .i64 (2:Int)),(.sl 1 [])]),[]) else some ((.agg [(.int .i64 (0:Int)),(.sl 1 c38)]),[])))))))))))))))))))))) else none))) else none))))))))))))))))))))):=by kernel_rfl
def spec_l13Fill.st0 (x0:List T) (x1:Int) (x2:List T) (x3:Int) (x4 x5:List T):St:=⟨[(0,(.one (.ptr 1000000 0))),(1,(.one (.t (.rref [(.sl 2 x0)] 0)))),(5,(.one (.ptr 320 0))),(6,(.one (.ptr 384 0))),(7,oi x1)],[(1000000,(.box [(.kept 0 (.sl 1 x2)),(.t (.int .i64 x3))])),(320,(.box [(.t (.sl 1 x4)),(.t (.sl 1 x5))])),(384,(.box [.nil,.nil]))]⟩
noncomputable def spec_l13Fill.K0 (n:Nat):Ex→St→R:=kx F.spec_l13Fill n [.block 0,.seq 0 (cx F.spec_l13Fill [1,1])] (endOf prog A F.spec_l13Fill)
noncomputable def spec_l13Fill.at0 (n:Nat) (m:Nat) (s:St):R:=lx F.spec_l13Fill n 0 [1,0,1,0,0] (spec_l13Fill.K0 n) m s
noncomputable def spec_l13Fill.rd0 (n:Nat) (L0:St→R) (s:St):R:=rx F.spec_l13Fill n 0 [1,0,1,0,0] (spec_l13Fill.K0 n) L0 s
theorem spec_l13Fill.next0 (n:Nat) (m:Nat) (s:St):spec_l13Fill.at0 n (m+1) s=spec_l13Fill.rd0 n (spec_l13Fill.at0 n m) s:=nx _ _ _ _ _ _ _
theorem spec_l13Fill.round0 (n:Nat) (L0:St→R) (x0:List T) (x1:Int) (x2:List T) (x3:Int) (x4 x5:List T):spec_l13Fill.rd0 n L0 (spec_l13Fill.st0 x0 x1 x2 x3 x4 x5)=(bif (decide (x1 < (4:Int))) then ((LIM F.spec_l1Has [(.sl 1 x4),(.int .i64 x1)]).bind fun r1=>((oNil r1.2).bind fun _=>((oBool r1.1).bind fun b2=>(bif (!b2) then ((LIM F.spec_l1Pick [(.rref [(.sl 1 x2),(.int .i64 x3)] 0),(.sl 1 [(.int .i64 (1:Int)),(.int .i64 (1:Int)),(.int .i64 (2:Int))])]).bind fun r3=>((oCons r3.2).bind fun p4=>((oNil p4.2).bind fun _=>((oAgg p4.1).bind fun c5=>((oCons c5).bind fun p6=>((oSl 1 p6.1).bind fun c7=>((oCons p6.2).bind fun p8=>((oInt .i64 p8.1).bind fun n9=>((oNil p8.2).bind fun _=>((oInt .i64 r3.1).bind fun n10=>((LIM F.spec_l3Draw [(.rref [(.sl 1 x2),(.int .i64 n9)] 0),(.rref [(.sl 2 x0)] 0),(.int .i64 n10),(.int .i64 (0:Int))]).bind fun r11=>((oCons r11.2).bind fun p12=>((oNil p12.2).bind fun _=>((oAgg p12.1).bind fun c13=>((oCons c13).bind fun p14=>((oSl 1 p14.1).bind fun c15=>((oCons p14.2).bind fun p16=>((oInt .i64 p16.1).bind fun n17=>((oNil p16.2).bind fun _=>((oSl 1 r11.1).bind fun c18=>((LIM F.spec_l6With [(.rref [(.sl 1 x4),(.sl 1 x5)] 0),(.int .i64 x1),(.sl 1 c18)]).bind fun r19=>((oNil r19.2).bind fun _=>((oAgg r19.1).bind fun c20=>((oCons c20).bind fun p21=>((oSl 1 p21.1).bind fun c22=>((oCons p21.2).bind fun p23=>((oSl 1 p23.1).bind fun c24=>((oNil p23.2).bind fun _=>(L0 (spec_l13Fill.st0 x0 (IntKind.wrap .i64 (x1+(1:Int))) x2 n17 c22 c24)))))))))))))))))))))))))))))) else (L0 (spec_l13Fill.st0 x0 (IntKind.wrap .i64 (x1+(1:Int))) x2 x3 x4 x5)))))) else some ((.agg [(.sl 1 x4),(.sl 1 x5)]),[(.agg [(.sl 1 x2),(.int .i64 x3)])])):=by kernel_rfl
theorem spec_l13Fill.ev (n:Nat) (a0_0:List T) (a0_1:Int) (a1_0 a2_0 a2_1:List T):callK prog A H LIM n F.spec_l13Fill [(.rref [(.sl 1 a0_0),(.int .i64 a0_1)] 0),(.rref [(.sl 2 a1_0)] 0),(.agg [(.sl 1 a2_0),(.sl 1 a2_1)])]=(spec_l13Fill.at0 n n (spec_l13Fill.st0 a1_0 (0:Int) a0_0 a0_1 a2_0 a2_1)):=by kernel_rfl
def spec_l13Walk.st0 (x0 x1 x2:List T) (x3:Int) (x4:Bool) (x5 x6:Int) (x7:List T) (x8:Int):St:=⟨[(0,(.one (.ptr 1000000 0))),(1,(.one (.t (.rref [(.sl 2 x0)] 0)))),(2,ol 2 x1),(3,ol 1 x2),(10,(.one (.ptr 640 0))),(12,oi x3),(13,(.one (.t (.bool x4)))),(14,oi x5),(15,oi x6)],[(1000000,(.box [(.kept 0 (.sl 1 x7)),(.t (.int .i64 x8))])),(640,(.box [.nil,.nil]))]⟩
noncomputable def spec_l13Walk.K0 (n:Nat):Ex→St→R:=kx F.spec_l13Walk n [.block 0,.seq 0 (cx F.spec_l13Walk [1,1,1,1,1,1])] (endOf prog A F.spec_l13Walk)
noncomputable def spec_l13Walk.at0 (n:Nat) (m:Nat) (s:St):R:=lx F.spec_l13Walk n 0 [1,1,1,1,1,0,1,0,0] (spec_l13Walk.K0 n) m s
noncomputable def spec_l13Walk.rd0 (n:Nat) (L0:St→R) (s:St):R:=rx F.spec_l13Walk n 0 [1,1,1,1,1,0,1,0,0] (spec_l13Walk.K0 n) L0 s
theorem spec_l13Walk.next0 (n:Nat) (m:Nat) (s:St):spec_l13Walk.at0 n (m+1) s=spec_l13Walk.rd0 n (spec_l13Walk.at0 n m) s:=nx _ _ _ _ _ _ _
theorem spec_l13Walk.round0 (n:Nat) (L0:St→R) (x0 x1 x2:List T) (x3:Int) (x4:Bool) (x5 x6:Int) (x7:List T) (x8:Int):spec_l13Walk.rd0 n L0 (spec_l13Walk.st0 x0 x1 x2 x3 x4 x5 x6 x7 x8)=(bif (decide (x6 < (IntKind.wrap .i64 ((IntKind.wrap .i64 ((2:Int)*((((x1).length / 2):Nat):Int)))*((((x2).length / 1):Nat):Int))))) then (bif inB x3 ((x1).length / 2) then ((x1[((Int.toNat x3)*2)]?).bind fun e25=>((oSl 1 e25).bind fun c26=>(bif x4 then (bif inB x3 ((x1).length / 2) then ((x1[(((Int.toNat x3)*2)+1)]?).bind fun e27=>((oSl 1 e27).bind fun c28=>((LIM F.spec_l6Match [(.rref [(.sl 2 x0)] 0),(.sl 1 c28),(.sl 1 x2),(.int .i64 x5)]).bind fun r29=>((oNil r29.2).bind fun _=>((oTup r29.1).bind fun c30=>((oCons c30).bind fun p31=>((oAgg p31.1).bind fun c32=>((oCons c32).bind fun p33=>((oSl 1 p33.1).bind fun c34=>((oCons p33.2).bind fun p35=>((oSl 1 p35.1).bind fun c36=>((oNil p35.2).bind fun _=>((oCons p31.2).bind fun p37=>((oBool p37.1).bind fun b38=>((oNil p37.2).bind fun _=>(bif b38 then ((LIM F.spec_l1Chance [(.rref [(.sl 1 x7),(.int .i64 x8)] 0),(.int .i64 (2:Int))]).bind fun r39=>((oCons r39.2).bind fun p40=>((oNil p40.2).bind fun _=>((oAgg p40.1).bind fun c41=>((oCons c41).bind fun p42=>((oSl 1 p42.1).bind fun c43=>((oCons p42.2).bind fun p44=>((oInt .i64 p44.1).bind fun n45=>((oNil p44.2).bind fun _=>((oBool r39.1).bind fun b46=>(bif b46 then ((LIM F.spec_l13Fill [(.rref [(.sl 1 x7),(.int .i64 n45)] 0),(.rref [(.sl 2 x0)] 0),(.agg [(.sl 1 c34),(.sl 1 c36)])]).bind fun r47=>((oCons r47.2).bind fun p48=>((oNil p48.2).bind fun _=>((oAgg p48.1).bind fun c49=>((oCons c49).bind fun p50=>((oSl 1 p50.1).bind fun c51=>((oCons p50.2).bind fun p52=>((oInt .i64 p52.1).bind fun n53=>((oNil p52.2).bind fun _=>((oAgg r47.1).bind fun c54=>((oCons c54).bind fun p55=>((oSl 1 p55.1).bind fun c56=>((oCons p55.2).bind fun p57=>((oSl 1 p57.1).bind fun c58=>((oNil p57.2).bind fun _=>some ((.tup [(.int .i64 x3),(.bool x4),(.agg [(.sl 1 c56),(.sl 1 c58)]),(.int .i64 x5)]),[(.agg [(.sl 1 x7),(.int .i64 n53)])])))))))))))))))) else some ((.tup [(.int .i64 x3),(.bool x4),(.agg [(.sl 1 c34),(.sl 1 c36)]),(.int .i64 x5)]),[(.agg [(.sl 1 x7),(.int .i64 n45)])])))))))))))) else (bif decide (((((x2).length / 1):Nat):Int)=0) then none else (bif (((Int.tmod (IntKind.wrap .i64 (x5+(1:Int))) ((((x2).length / 1):Nat):Int)) == (0:Int))) then (bif decide (((((x1).length / 2):Nat):Int)=0) then none else (L0 (spec_l13Walk.st0 x0 x1 x2 (Int.tmod (IntKind.wrap .i64 (x3+(1:Int))) ((((x1).length / 2):Nat):Int)) (!x4) (Int.tmod (IntKind.wrap .i64 (x5+(1:Int))) ((((x2).length / 1):Nat):Int)) (IntKind.wrap .i64 (x6+(1:Int))) x7 x8))) else (L0 (spec_l13Walk.st0 x0 x1 x2 x3 x4 (Int.tmod (IntKind.wrap .i64 (x5+(1:Int))) ((((x2).length / 1):Nat):Int)) (IntKind.wrap .i64 (x6+(1:Int))) x7 x8)))))))))))))))))))) else none) else ((LIM F.spec_l6Match [(.rref [(.sl 2 x0)] 0),(.sl 1 c26),(.sl 1 x2),(.int .i64 x5)]).bind fun r59=>((oNil r59.2).bind fun _=>((oTup r59.1).bind fun c60=>((oCons c60).bind fun p61=>((oAgg p61.1).bind fun c62=>((oCons c62).bind fun p63=>((oSl 1 p63.1).bind fun c64=>((oCons p63.2).bind fun p65=>((oSl 1 p65.1).bind fun c66=>((oNil p65.2).bind fun _=>((oCons p61.2).bind fun p67=>((oBool p67.1).bind fun b68=>((oNil p67.2).bind fun _=>(bif b68 then ((LIM F.spec_l1Chance [(.rref [(.sl 1 x7),(.int .i64 x8)] 0),(.int .i64 (2:Int))]).bind fun r69=>((oCons r69.2).bind fun p70=>((oNil p70.2).bind fun _=>((oAgg p70.1).bind fun c71=>((oCons c71).bind fun p72=>((oSl 1 p72.1).bind fun c73=>((oCons p72.2).bind fun p74=>((oInt .i64 p74.1).bind fun n75=>((oNil p74.2).bind fun _=>((oBool r69.1).bind fun b76=>(bif b76 then ((LIM F.spec_l13Fill [(.rref [(.sl 1 x7),(.int .i64 n75)] 0),(.rref [(.sl 2 x0)] 0),(.agg [(.sl 1 c64),(.sl 1 c66)])]).bind fun r77=>((oCons r77.2).bind fun p78=>((oNil p78.2).bind fun _=>((oAgg p78.1).bind fun c79=>((oCons c79).bind fun p80=>((oSl 1 p80.1).bind fun c81=>((oCons p80.2).bind fun p82=>((oInt .i64 p82.1).bind fun n83=>((oNil p82.2).bind fun _=>((oAgg r77.1).bind fun c84=>((oCons c84).bind fun p85=>((oSl 1 p85.1).bind fun c86=>((oCons p85.2).bind fun p87=>((oSl 1 p87.1).bind fun c88=>((oNil p87.2).bind fun _=>some ((.tup [(.int .i64 x3),(.bool x4),(.agg [(.sl 1 c86),(.sl 1 c88)]),(.int .i64 x5)]),[(.agg [(.sl 1 x7),(.int .i64 n83)])])))))))))))))))) else some ((.tup [(.int .i64 x3),(.bool x4),(.agg [(.sl 1 c64),(.sl 1 c66)]),(.int .i64 x5)]),[(.agg [(.sl 1 x7),(.int .i64 n75)])])))))))))))) else (bif decide (((((x2).length / 1):Nat):Int)=0) then none else (bif (((Int.tmod (IntKind.wrap .i64 (x5+(1:Int))) ((((x2).length / 1):Nat):Int)) == (0:Int))) then (bif decide (((((x1).length / 2):Nat):Int)=0) then none else (L0 (spec_l13Walk.st0 x0 x1 x2 (Int.tmod (IntKind.wrap .i64 (x3+(1:Int))) ((((x1).length / 2):Nat):Int)) (!x4) (Int.tmod (IntKind.wrap .i64 (x5+(1:Int))) ((((x2).length / 1):Nat):Int)) (IntKind.wrap .i64 (x6+(1:Int))) x7 x8))) else (L0 (spec_l13Walk.st0 x0 x1 x2 x3 x4 (Int.tmod (IntKind.wrap .i64 (x5+(1:Int))) ((((x2).length / 1):Nat):Int)) (IntKind.wrap .i64 (x6+(1:Int))) x7 x8))))))))))))))))))))) else none) else some ((.tup [(.int .i64 x3),(.bool x4),(.agg [(.sl 1 []),(.sl 1 [])]),(.int .i64 x5)]),[(.agg [(.sl 1 x7),(.int .i64 x8)])])):=by kernel_rfl
theorem spec_l13Walk.ev (n:Nat) (a0_0:List T) (a0_1:Int) (a1_0 a2 a3:List T):callK prog A H LIM n F.spec_l13Walk [(.rref [(.sl 1 a0_0),(.int .i64 a0_1)] 0),(.rref [(.sl 2 a1_0)] 0),(.sl 2 a2),(.sl 1 a3)]=((LIM F.spec_l1Next [(.rref [(.sl 1 a0_0),(.int .i64 a0_1)] 0),(.int .i64 ((((a2).length / 2):Nat):Int))]).bind fun r1=>((oCons r1.2).bind fun p2=>((oNil p2.2).bind fun _=>((oAgg p2.1).bind fun c3=>((oCons c3).bind fun p4=>((oSl 1 p4.1).bind fun c5=>((oCons p4.2).bind fun p6=>((oInt .i64 p6.1).bind fun n7=>((oNil p6.2).bind fun _=>((oInt .i64 r1.1).bind fun n8=>((LIM F.spec_l1Chance [(.rref [(.sl 1 a0_0),(.int .i64 n7)] 0),(.int .i64 (2:Int))]).bind fun r9=>((oCons r9.2).bind fun p10=>((oNil p10.2).bind fun _=>((oAgg p10.1).bind fun c11=>((oCons c11).bind fun p12=>((oSl 1 p12.1).bind fun c13=>((oCons p12.2).bind fun p14=>((oInt .i64 p14.1).bind fun n15=>((oNil p14.2).bind fun _=>((oBool r9.1).bind fun b16=>((LIM F.spec_l1Next [(.rref [(.sl 1 a0_0),(.int .i64 n15)] 0),(.int .i64 ((((a3).length / 1):Nat):Int))]).bind fun r17=>((oCons r17.2).bind fun p18=>((oNil p18.2).bind fun _=>((oAgg p18.1).bind fun c19=>((oCons c19).bind fun p20=>((oSl 1 p20.1).bind fun c21=>((oCons p20.2).bind fun p22=>((oInt .i64 p22.1).bind fun n23=>((oNil p22.2).bind fun _=>((oInt .i64 r17.1).bind fun n24=>(bif ((((((a2).length / 2):Nat):Int) == (0:Int))) then some ((.tup [(.int .i64 n8),(.bool b16),(.agg [(.sl 1 []),(.sl 1 [])]),(.int .i64 n24)]),[(.agg [(.sl 1 a0_0),(.int .i64 n23)])]) else (spec_l13Walk.at0 n n (spec_l13Walk.st0 a1_0 a2 a3 n8 b16 n24 (0:Int) a0_0 n23))))))))))))))))))))))))))))))))):=by kernel_rfl
theorem spec_l1Chance.ev (n:Nat) (a0_0:List T) (a0_1 a1:Int):callK prog A H LIM n F.spec_l1Chance [(.rref [(.sl 1 a0_0),(.int .i64 a0_1)] 0),(.int .i64 a1)]=((LIM F.spec_l1Next [(.rref [(.sl 1 a0_0),(.int .i64 a0_1)] 0),(.int .i64 a1)]).bind fun r1=>((oCons r1.2).bind fun p2=>((oNil p2.2).bind fun _=>((oAgg p2.1).bind fun c3=>((oCons c3).bind fun p4=>((oSl 1 p4.1).bind fun c5=>((oCons p4.2).bind fun p6=>((oInt .i64 p6.1).bind fun n7=>((oNil p6.2).bind fun _=>((oInt .i64 r1.1).bind fun n8=>some ((.bool ((n8 == (0:Int)))),[(.agg [(.sl 1 a0_0),(.int .i64 n7)])]))))))))))):=by kernel_rfl
def spec_l1Cut.st0 (x0:ByteArray) (x1 x2 x3:Int) (x4:List T):St:=⟨[(0,(.one (.t (.str x0)))),(1,(.one (.t (.int .u8 x1)))),(5,(.one (.obj 512))),(6,oi x2),(7,oi x3)],[(512,(.arr true true 1 x4))]⟩
noncomputable def spec_l1Cut.K0 (n:Nat):Ex→St→R:=kx F.spec_l1Cut n [.block 0,.seq 0 (cx F.spec_l1Cut [1,1,1,1])] (endOf prog A F.spec_l1Cut)
noncomputable def spec_l1Cut.at0 (n:Nat) (m:Nat) (s:St):R:=lx F.spec_l1Cut n 0 [1,1,1,0,1,0,0] (spec_l1Cut.K0 n) m s
noncomputable def spec_l1Cut.rd0 (n:Nat) (L0:St→R) (s:St):R:=rx F.spec_l1Cut n 0 [1,1,1,0,1,0,0] (spec_l1Cut.K0 n) L0 s
theorem spec_l1Cut.next0 (n:Nat) (m:Nat) (s:St):spec_l1Cut.at0 n (m+1) s=spec_l1Cut.rd0 n (spec_l1Cut.at0 n m) s:=nx _ _ _ _ _ _ _
theorem spec_l1Cut.round0 (n:Nat) (L0:St→R) (x0:ByteArray) (x1 x2 x3:Int) (x4:List T):spec_l1Cut.rd0 n L0 (spec_l1Cut.st0 x0 x1 x2 x3 x4)=(bif (decide (x3≤(x0.size:Int))) then (bif ((x3 == (x0.size:Int))) then (bif decide (0≤x2)&&decide (x2≤x3)&&decide (x3≤(x0.size:Int)) then (bif Nat.ble (((x4).length+1)*16) (140737488355328*1) then (L0 (spec_l1Cut.st0 x0 x1 (IntKind.wrap .i64 (x3+(1:Int))) (IntKind.wrap .i64 (x3+(1:Int))) (x4++[(.str (x0.extract (Int.toNat x2) (Int.toNat x3)))]:List T))) else none) else none) else (bif inB x3 x0.size then (bif ((((x0.data.getD (Int.toNat x3) 0).toNat:Int) == x1)) then (bif decide (0≤x2)&&decide (x2≤x3)&&decide (x3≤(x0.size:Int)) then (bif Nat.ble (((x4).length+1)*16) (140737488355328*1) then (L0 (spec_l1Cut.st0 x0 x1 (IntKind.wrap .i64 (x3+(1:Int))) (IntKind.wrap .i64 (x3+(1:Int))) (x4++[(.str (x0.extract (Int.toNat x2) (Int.toNat x3)))]:List T))) else none) else none) else (L0 (spec_l1Cut.st0 x0 x1 x2 (IntKind.wrap .i64 (x3+(1:Int))) x4))) else none)) else some ((.sl 1 x4),[])):=by kernel_rfl
theorem spec_l1Cut.ev (n:Nat) (a0:ByteArray) (a1:Int):callK prog A H LIM n F.spec_l1Cut [(.str a0),(.int .u8 a1)]=(spec_l1Cut.at0 n n (spec_l1Cut.st0 a0 a1 (0:Int) (0:Int) [])):=by kernel_rfl
def spec_l1Has.st0 (x0:List T) (x1 x2:Int):St:=⟨[(0,ol 1 x0),(1,oi x1),(5,oi x2)],[]⟩
noncomputable def spec_l1Has.K0 (n:Nat):Ex→St→R:=kx F.spec_l1Has n [.block 0,.seq 0 (cx F.spec_l1Has [1,1])] (endOf prog A F.spec_l1Has)
noncomputable def spec_l1Has.at0 (n:Nat) (m:Nat) (s:St):R:=lx F.spec_l1Has n 0 [1,0,1,0,0] (spec_l1Has.K0 n) m s
noncomputable def spec_l1Has.rd0 (n:Nat) (L0:St→R) (s:St):R:=rx F.spec_l1Has n 0 [1,0,1,0,0] (spec_l1Has.K0 n) L0 s
theorem spec_l1Has.next0 (n:Nat) (m:Nat) (s:St):spec_l1Has.at0 n (m+1) s=spec_l1Has.rd0 n (spec_l1Has.at0 n m) s:=nx _ _ _ _ _ _ _
theorem spec_l1Has.round0 (n:Nat) (L0:St→R) (x0:List T) (x1 x2:Int):spec_l1Has.rd0 n L0 (spec_l1Has.st0 x0 x1 x2)=(bif (decide (x2 < ((((x0).length / 1):Nat):Int))) then (bif inB x2 ((x0).length / 1) then ((x0[((Int.toNat x2)*1)]?).bind fun e1=>((oInt .i64 e1).bind fun n2=>(bif ((n2 == x1)) then some ((.bool true),[]) else (L0 (spec_l1Has.st0 x0 x1 (IntKind.wrap .i64 (x2+(1:Int)))))))) else none) else some ((.bool false),[])):=by kernel_rfl
theorem spec_l1Has.ev (n:Nat) (a0:List T) (a1:Int):callK prog A H LIM n F.spec_l1Has [(.sl 1 a0),(.int .i64 a1)]=(spec_l1Has.at0 n n (spec_l1Has.st0 a0 a1 (0:Int))):=by kernel_rfl
theorem spec_l1In.ev (n:Nat) (a0 a1 a2:Int):callK prog A H LIM n F.spec_l1In [(.int .i64 a0),(.int .i64 a1),(.int .i64 a2)]=(bif (decide (a0 ≥ a1)) then some ((.bool (decide (a0≤a2))),[]) else some ((.bool false),[])):=by kernel_rfl
theorem spec_l1Ints.ev (n:Nat) (a0:List T):callK prog A H LIM n F.spec_l1Ints [(.sl 1 a0)]=(bif (a0).all T.scalar then (bif Nat.ble ((0+(a0).length)*8) (140737488355328*1) then some ((.sl 1 a0),[]) else none) else none):=by kernel_rfl
theorem spec_l1Next.ev (n:Nat) (a0_0:List T) (a0_1 a1:Int):callK prog A H LIM n F.spec_l1Next [(.rref [(.sl 1 a0_0),(.int .i64 a0_1)] 0),(.int .i64 a1)]=(bif (decide (a1 < (1:Int))) then some ((.int .i64 (0:Int)),[(.agg [(.sl 1 a0_0),(.int .i64 (IntKind.wrap .i64 (a0_1+(1:Int))))])]) else (bif ((((((a0_0).length / 1):Nat):Int) == (0:Int))) then (bif decide (a1=0) then none else some ((.int .i64 (Int.tmod (IntKind.wrap .i64 ((IntKind.wrap .i64 ((IntKind.wrap .i64 (a0_1+(1:Int))) - (1:Int)))*(7:Int))) a1)),[(.agg [(.sl 1 a0_0),(.int .i64 (IntKind.wrap .i64 (a0_1+(1:Int))))])])) else (bif decide (((((a0_0).length / 1):Nat):Int)=0) then none else (bif inB (Int.tmod (IntKind.wrap .i64 ((IntKind.wrap .i64 (a0_1+(1:Int))) - (1:Int))) ((((a0_0).length / 1):Nat):Int)) ((a0_0).length / 1) then ((a0_0[((Int.toNat (Int.tmod (IntKind.wrap .i64 ((IntKind.wrap .i64 (a0_1+(1:Int))) - (1:Int))) ((((a0_0).length / 1):Nat):Int)))*1)]?).bind fun e1=>((oInt .u8 e1).bind fun n2=>(bif decide (((((a0_0).length / 1):Nat):Int)=0) then none else (bif (decide (a1 > (200:Int))) then (bif decide (((((a0_0).length / 1):Nat):Int)=0) then none else (bif inB (Int.tmod (IntKind.wrap .i64 ((IntKind.wrap .i64 ((IntKind.wrap .i64 (a0_1+(1:Int))) - (1:Int)))+(1:Int))) ((((a0_0).length / 1):Nat):Int)) ((a0_0).length / 1) then ((a0_0[((Int.toNat (Int.tmod (IntKind.wrap .i64 ((IntKind.wrap .i64 ((IntKind.wrap .i64 (a0_1+(1:Int))) - (1:Int)))+(1:Int))) ((((a0_0).length / 1):Nat):Int)))*1)]?).bind fun e3=>((oInt .u8 e3).bind fun n4=>(bif decide (a1=0) then none else some ((.int .i64 (Int.tmod (IntKind.wrap .i64 ((IntKind.wrap .i64 ((IntKind.wrap .i64 ((IntKind.wrap .i64 ((IntKind.wrap .i64 n2)+(IntKind.wrap .i64 ((IntKind.wrap .i64 (Int.tdiv (IntKind.wrap .i64 ((IntKind.wrap .i64 (a0_1+(1:Int))) - (1:Int))) ((((a0_0).length / 1):Nat):Int)))*(37:Int)))))*(251:Int)))+(IntKind.wrap .i64 ((IntKind.wrap .i64 n4)*(13:Int)))))+(IntKind.wrap .i64 ((IntKind.wrap .i64 (a0_1+(1:Int))) - (1:Int))))) a1)),[(.agg [(.sl 1 a0_0),(.int .i64 (IntKind.wrap .i64 (a0_1+(1:Int))))])])))) else none)) else (bif decide (a1=0) then none else some ((.int .i64 (Int.tmod (IntKind.wrap .i64 ((IntKind.wrap .i64 n2)+(IntKind.wrap .i64 ((IntKind.wrap .i64 (Int.tdiv (IntKind.wrap .i64 ((IntKind.wrap .i64 (a0_1+(1:Int))) - (1:Int))) ((((a0_0).length / 1):Nat):Int)))*(37:Int))))) a1)),[(.agg [(.sl 1 a0_0),(.int .i64 (IntKind.wrap .i64 (a0_1+(1:Int))))])])))))) else none)))):=by kernel_rfl
theorem spec_l1Pick.ev (n:Nat) (a0_0:List T) (a0_1:Int) (a1:List T):callK prog A H LIM n F.spec_l1Pick [(.rref [(.sl 1 a0_0),(.int .i64 a0_1)] 0),(.sl 1 a1)]=((LIM F.spec_l1Next [(.rref [(.sl 1 a0_0),(.int .i64 a0_1)] 0),(.int .i64 ((((a1).length / 1):Nat):Int))]).bind fun r1=>((oCons r1.2).bind fun p2=>((oNil p2.2).bind fun _=>((oAgg p2.1).bind fun c3=>((oCons c3).bind fun p4=>((oSl 1 p4.1).bind fun c5=>((oCons p4.2).bind fun p6=>((oInt .i64 p6.1).bind fun n7=>((oNil p6.2).bind fun _=>((oInt .i64 r1.1).bind fun n8=>(bif inB n8 ((a1).length / 1) then ((a1[((Int.toNat n8)*1)]?).bind fun e9=>((oInt .i64 e9).bind fun n10=>some ((.int .i64 n10),[(.agg [(.sl 1 a0_0),(.int .i64 n7)])]))) else none))))))))))):=by kernel_rfl
def spec_l1Rise.st0 (x0:List T) (x1:Int):St:=⟨[(0,ol 1 x0),(3,oi x1)],[]⟩
noncomputable def spec_l1Rise.K0 (n:Nat):Ex→St→R:=kx F.spec_l1Rise n [.block 0,.seq 0 (cx F.spec_l1Rise [1,1])] (endOf prog A F.spec_l1Rise)
noncomputable def spec_l1Rise.at0 (n:Nat) (m:Nat) (s:St):R:=lx F.spec_l1Rise n 0 [1,0,1,0,0] (spec_l1Rise.K0 n) m s
noncomputable def spec_l1Rise.rd0 (n:Nat) (L0:St→R) (s:St):R:=rx F.spec_l1Rise n 0 [1,0,1,0,0] (spec_l1Rise.K0 n) L0 s
theorem spec_l1Rise.next0 (n:Nat) (m:Nat) (s:St):spec_l1Rise.at0 n (m+1) s=spec_l1Rise.rd0 n (spec_l1Rise.at0 n m) s:=nx _ _ _ _ _ _ _
theorem spec_l1Rise.round0 (n:Nat) (L0:St→R) (x0:List T) (x1:Int):spec_l1Rise.rd0 n L0 (spec_l1Rise.st0 x0 x1)=(bif (decide (x1 < ((((x0).length / 1):Nat):Int))) then (bif inB x1 ((x0).length / 1) then ((x0[((Int.toNat x1)*1)]?).bind fun e1=>((oInt .i64 e1).bind fun n2=>(bif inB (IntKind.wrap .i64 (x1 - (1:Int))) ((x0).length / 1) then ((x0[((Int.toNat (IntKind.wrap .i64 (x1 - (1:Int))))*1)]?).bind fun e3=>((oInt .i64 e3).bind fun n4=>(bif (decide (n2≤n4)) then some ((.bool false),[]) else (L0 (spec_l1Rise.st0 x0 (IntKind.wrap .i64 (x1+(1:Int)))))))) else none))) else none) else some ((.bool true),[])):=by kernel_rfl
theorem spec_l1Rise.ev (n:Nat) (a0:List T):callK prog A H LIM n F.spec_l1Rise [(.sl 1 a0)]=(spec_l1Rise.at0 n n (spec_l1Rise.st0 a0 (1:Int))):=by kernel_rfl
def spec_l1Same.st0 (x0 x1:List T) (x2:Int):St:=⟨[(0,ol 1 x0),(1,ol 1 x1),(5,oi x2)],[]⟩
noncomputable def spec_l1Same.K0 (n:Nat):Ex→St→R:=kx F.spec_l1Same n [.block 0,.seq 0 (cx F.spec_l1Same [1,1,1])] (endOf prog A F.spec_l1Same)
noncomputable def spec_l1Same.at0 (n:Nat) (m:Nat) (s:St):R:=lx F.spec_l1Same n 0 [1,1,0,1,0,0] (spec_l1Same.K0 n) m s
noncomputable def spec_l1Same.rd0 (n:Nat) (L0:St→R) (s:St):R:=rx F.spec_l1Same n 0 [1,1,0,1,0,0] (spec_l1Same.K0 n) L0 s
theorem spec_l1Same.next0 (n:Nat) (m:Nat) (s:St):spec_l1Same.at0 n (m+1) s=spec_l1Same.rd0 n (spec_l1Same.at0 n m) s:=nx _ _ _ _ _ _ _
theorem spec_l1Same.round0 (n:Nat) (L0:St→R) (x0 x1:List T) (x2:Int):spec_l1Same.rd0 n L0 (spec_l1Same.st0 x0 x1 x2)=(bif (decide (x2 < ((((x0).length / 1):Nat):Int))) then (bif inB x2 ((x0).length / 1) then ((x0[((Int.toNat x2)*1)]?).bind fun e1=>((oInt .i64 e1).bind fun n2=>(bif inB x2 ((x1).length / 1) then ((x1[((Int.toNat x2)*1)]?).bind fun e3=>((oInt .i64 e3).bind fun n4=>(bif ((n2 != n4)) then some ((.bool false),[]) else (L0 (spec_l1Same.st0 x0 x1 (IntKind.wrap .i64 (x2+(1:Int)))))))) else none))) else none) else some ((.bool true),[])):=by kernel_rfl
theorem spec_l1Same.ev (n:Nat) (a0 a1:List T):callK prog A H LIM n F.spec_l1Same [(.sl 1 a0),(.sl 1 a1)]=(bif ((((((a0).length / 1):Nat):Int) != ((((a1).length / 1):Nat):Int))) then some ((.bool false),[]) else (spec_l1Same.at0 n n (spec_l1Same.st0 a0 a1 (0:Int)))):=by kernel_rfl
theorem spec_l1Source.ev (n:Nat) (a0:List T):callK prog A H LIM n F.spec_l1Source [(.sl 1 a0)]=some ((.bx [(.sl 1 a0),(.int .i64 (0:Int))]),[]):=by kernel_rfl
def spec_l2Bent.st3 (x0 x1:Int) (x2:List T) (x3:Int) (x4:List T):St:=⟨[(0,(.one (.ptr 1000000 0))),(2,(.one (.ptr 128 0))),(3,(.one (.ptr 192 0))),(4,oi x0),(5,oi x1)],[(1000000,(.box [(.kept 0 (.sl 1 x2)),(.t (.int .i64 x3))])),(128,(.box [.nil])),(448,(.arr true true 2 x4)),(192,(.box [(.obj 448)]))]⟩
def spec_l2Bent.st1 (x0:List T) (x1:Int) (x2:List T):St:=⟨[(0,(.one (.ptr 1000000 0))),(2,(.one (.ptr 128 0))),(3,(.one (.ptr 192 0)))],[(1000000,(.box [(.kept 0 (.sl 1 x0)),(.t (.int .i64 x1))])),(128,(.box [.nil])),(448,(.arr true true 2 x2)),(192,(.box [(.obj 448)]))]⟩
noncomputable def spec_l2Bent.K1 (n:Nat):Ex→St→R:=kx F.spec_l2Bent n [.block 1,.block 0,.seq 0 (cx F.spec_l2Bent [1,1,1,1,1])] (endOf prog A F.spec_l2Bent)
noncomputable def spec_l2Bent.at1 (n:Nat) (m:Nat) (s:St):R:=lx F.spec_l2Bent n 1 [1,1,1,1,0,1,0,1,1,1,1,1,1,1,1,1,1,1,1,0,0] (spec_l2Bent.K1 n) m s
noncomputable def spec_l2Bent.rd1 (n:Nat) (L1:St→R) (s:St):R:=rx F.spec_l2Bent n 1 [1,1,1,1,0,1,0,1,1,1,1,1,1,1,1,1,1,1,1,0,0] (spec_l2Bent.K1 n) L1 s
theorem spec_l2Bent.next1 (n:Nat) (m:Nat) (s:St):spec_l2Bent.at1 n (m+1) s=spec_l2Bent.rd1 n (spec_l2Bent.at1 n m) s:=nx _ _ _ _ _ _ _
noncomputable def spec_l2Bent.K3 (n:Nat):Ex→St→R:=kx F.spec_l2Bent n [.block 3,.block 0,.seq 0 (cx F.spec_l2Bent [1,1,1,1,1])] (endOf prog A F.spec_l2Bent)
noncomputable def spec_l2Bent.at3 (n:Nat) (m:Nat) (s:St):R:=lx F.spec_l2Bent n 3 [1,1,1,1,0,1,0,1,1,1,1,1,1,1,1,1,1,1,0,1,0,0] (spec_l2Bent.K3 n) m s
noncomputable def spec_l2Bent.rd3 (n:Nat) (L3:St→R) (s:St):R:=rx F.spec_l2Bent n 3 [1,1,1,1,0,1,0,1,1,1,1,1,1,1,1,1,1,1,0,1,0,0] (spec_l2Bent.K3 n) L3 s
theorem spec_l2Bent.next3 (n:Nat) (m:Nat) (s:St):spec_l2Bent.at3 n (m+1) s=spec_l2Bent.rd3 n (spec_l2Bent.at3 n m) s:=nx _ _ _ _ _ _ _
theorem spec_l2Bent.round1 (n:Nat) (L1:St→R) (x0:List T) (x1:Int) (x2:List T):spec_l2Bent.rd1 n L1 (spec_l2Bent.st1 x0 x1 x2)=(bif (decide (((((x2).length / 2):Nat):Int) < (7:Int))) then (bif Nat.ble (((x2).length+2)*24) (140737488355328*2) then (L1 (spec_l2Bent.st1 x0 x1 (x2++[(.str (ByteArray.mk #[122])),(.int .i64 (0:Int))]:List T))) else none) else some ((.agg [(.sl 2 x2)]),[(.agg [(.sl 1 x0),(.int .i64 x1)])])):=by kernel_rfl
theorem spec_l2Bent.round3 (n:Nat) (L3:St→R) (x0 x1:Int) (x2:List T) (x3:Int) (x4:List T):spec_l2Bent.rd3 n L3 (spec_l2Bent.st3 x0 x1 x2 x3 x4)=(bif (decide (x1 < x0)) then (bif inB x1 ((x4).length / 2) then (bif decide ((((Int.toNat x1)*2)+1)+1≤(x4).length) then (L3 (spec_l2Bent.st3 x0 (IntKind.wrap .i64 (x1+(1:Int))) x2 x3 (setCells x4 (((Int.toNat x1)*2)+1) [(.int .i64 (1:Int))]))) else none) else none) else some ((.agg [(.sl 2 x4)]),[(.agg [(.sl 1 x2),(.int .i64 x3)])])):=by kernel_rfl
theorem spec_l2Bent.ev (n:Nat) (a0_0:List T) (a0_1:Int):callK prog A H LIM n F.spec_l2Bent [(.rref [(.sl 1 a0_0),(.int .i64 a0_1)] 0)]=((LIM F.spec_l2Sig [(.rref [(.sl 1 a0_0),(.int .i64 a0_1)] 0)]).bind fun r1=>((oCons r1.2).bind fun p2=>((oNil p2.2).bind fun _=>((oAgg p2.1).bind fun c3=>((oCons c3).bind fun p4=>((oSl 1 p4.1).bind fun c5=>((oCons p4.2).bind fun p6=>((oInt .i64 p6.1).bind fun n7=>((oNil p6.2).bind fun _=>((oAgg r1.1).bind fun c8=>((oCons c8).bind fun p9=>((oSl 2 p9.1).bind fun c10=>((oNil p9.2).bind fun _=>((LIM F.spec_l1Chance [(.rref [(.sl 1 a0_0),(.int .i64 n7)] 0),(.int .i64 (9:Int))]).bind fun r11=>((oCons r11.2).bind fun p12=>((oNil p12.2).bind fun _=>((oAgg p12.1).bind fun c13=>((oCons c13).bind fun p14=>((oSl 1 p14.1).bind fun c15=>((oCons p14.2).bind fun p16=>((oInt .i64 p16.1).bind fun n17=>((oNil p16.2).bind fun _=>((oBool r11.1).bind fun b18=>(bif (!b18) then some ((.agg [(.sl 2 c10)]),[(.agg [(.sl 1 a0_0),(.int .i64 n17)])]) else ((LIM F.spec_l1Next [(.rref [(.sl 1 a0_0),(.int .i64 n17)] 0),(.int .i64 (7:Int))]).bind fun r19=>((oCons r19.2).bind fun p20=>((oNil p20.2).bind fun _=>((oAgg p20.1).bind fun c21=>((oCons c21).bind fun p22=>((oSl 1 p22.1).bind fun c23=>((oCons p22.2).bind fun p24=>((oInt .i64 p24.1).bind fun n25=>((oNil p24.2).bind fun _=>((oInt .i64 r19.1).bind fun n26=>(bif ((n26 == (0:Int))) then some ((.agg [(.sl 2 [])]),[(.agg [(.sl 1 a0_0),(.int .i64 n25)])]) else (bif ((n26 == (1:Int))) then (bif inB (IntKind.wrap .i64 (((((c10).length / 2):Nat):Int) - (1:Int))) ((c10).length / 2) then (bif decide (((Int.toNat (IntKind.wrap .i64 (((((c10).length / 2):Nat):Int) - (1:Int))))*2)+1≤(c10).length) then some ((.agg [(.sl 2 (setCells c10 ((Int.toNat (IntKind.wrap .i64 (((((c10).length / 2):Nat):Int) - (1:Int))))*2) [(.str (ByteArray.mk #[97,98,99,100]))]))]),[(.agg [(.sl 1 a0_0),(.int .i64 n25)])]) else none) else none) else (bif ((n26 == (2:Int))) then ((LIM F.spec_l1Next [(.rref [(.sl 1 a0_0),(.int .i64 n25)] 0),(.int .i64 ((((c10).length / 2):Nat):Int))]).bind fun r27=>((oCons r27.2).bind fun p28=>((oNil p28.2).bind fun _=>((oAgg p28.1).bind fun c29=>((oCons c29).bind fun p30=>((oSl 1 p30.1).bind fun c31=>((oCons p30.2).bind fun p32=>((oInt .i64 p32.1).bind fun n33=>((oNil p32.2).bind fun _=>((oInt .i64 r27.1).bind fun n34=>(bif inB n34 ((c10).length / 2) then (bif decide (((Int.toNat n34)*2)+1≤(c10).length) then some ((.agg [(.sl 2 (setCells c10 ((Int.toNat n34)*2) [(.str (ByteArray.mk #[97,66]))]))]),[(.agg [(.sl 1 a0_0),(.int .i64 n33)])]) else none) else none))))))))))) else (bif ((n26 == (3:Int))) then ((LIM F.spec_l1Next [(.rref [(.sl 1 a0_0),(.int .i64 n25)] 0),(.int .i64 ((((c10).length / 2):Nat):Int))]).bind fun r35=>((oCons r35.2).bind fun p36=>((oNil p36.2).bind fun _=>((oAgg p36.1).bind fun c37=>((oCons c37).bind fun p38=>((oSl 1 p38.1).bind fun c39=>((oCons p38.2).bind fun p40=>((oInt .i64 p40.1).bind fun n41=>((oNil p40.2).bind fun _=>((oInt .i64 r35.1).bind fun n42=>((LIM F.spec_l1Pick [(.rref [(.sl 1 a0_0),(.int .i64 n41)] 0),(.sl 1 [(.int .i64 (3:Int)),(.int .i64 (-1:Int))])]).bind fun r43=>((oCons r43.2).bind fun p44=>((oNil p44.2).bind fun _=>((oAgg p44.1).bind fun c45=>((oCons c45).bind fun p46=>((oSl 1 p46.1).bind fun c47=>((oCons p46.2).bind fun p48=>((oInt .i64 p48.1).bind fun n49=>((oNil p48.2).bind fun _=>((oInt .i64 r43.1).bind fun n50=>(bif inB n42 ((c10).length / 2) then (bif decide ((((Int.toNat n42)*2)+1)+1≤(c10).length) then some ((.agg [(.sl 2 (setCells c10 (((Int.toNat n42)*2)+1) [(.int .i64 n50)]))]),[(.agg [(.sl 1 a0_0),(.int .i64 n49)])]) else none) else none))))))))))))))))))))) else (bif ((n26 == (4:Int))) then (bif inB (0:Int) ((c10).length / 2) then ((c10[0]?).bind fun e51=>((oStr e51).bind fun s52=>((c10[1]?).bind fun e53=>((oInt .i64 e53).bind fun n54=>(bif Nat.ble (((c10).length+2)*24) (140737488355328*2) then some ((.agg [(.sl 2 (c10++[(.str s52),(.int .i64 n54)]:List T))]),[(.agg [(.sl 1 a0_0),(.int .i64 n25)])]) else none))))) else none) else (bif ((n26 == (5:Int))) then (spec_l2Bent.at3 n n (spec_l2Bent.st3 ((((c10).length / 2):Nat):Int) (0:Int) a0_0 n25 c10)) else (spec_l2Bent.at1 n n (spec_l2Bent.st1 a0_0 n25 c10)))))))))))))))))))))))))))))))))))))))))):=by kernel_rfl
def spec_l2Find.st0 (x0:List T) (x1:ByteArray) (x2:Int):St:=⟨[(0,(.one (.t (.rref [(.sl 2 x0)] 0)))),(1,(.one (.t (.str x1)))),(5,oi x2)],[]⟩
noncomputable def spec_l2Find.K0 (n:Nat):Ex→St→R:=kx F.spec_l2Find n [.block 0,.seq 0 (cx F.spec_l2Find [1,1])] (endOf prog A F.spec_l2Find)
noncomputable def spec_l2Find.at0 (n:Nat) (m:Nat) (s:St):R:=lx F.spec_l2Find n 0 [1,0,1,0,0] (spec_l2Find.K0 n) m s
noncomputable def spec_l2Find.rd0 (n:Nat) (L0:St→R) (s:St):R:=rx F.spec_l2Find n 0 [1,0,1,0,0] (spec_l2Find.K0 n) L0 s
theorem spec_l2Find.next0 (n:Nat) (m:Nat) (s:St):spec_l2Find.at0 n (m+1) s=spec_l2Find.rd0 n (spec_l2Find.at0 n m) s:=nx _ _ _ _ _ _ _
theorem spec_l2Find.round0 (n:Nat) (L0:St→R) (x0:List T) (x1:ByteArray) (x2:Int):spec_l2Find.rd0 n L0 (spec_l2Find.st0 x0 x1 x2)=(bif (decide (x2 < ((((x0).length / 2):Nat):Int))) then (bif inB x2 ((x0).length / 2) then ((x0[((Int.toNat x2)*2)]?).bind fun e1=>((oStr e1).bind fun s2=>(bif (s2.toList == x1.toList) then some ((.int .i64 x2),[]) else (L0 (spec_l2Find.st0 x0 x1 (IntKind.wrap .i64 (x2+(1:Int)))))))) else none) else some ((.int .i64 (-1:Int)),[])):=by kernel_rfl
theorem spec_l2Find.ev (n:Nat) (a0_0:List T) (a1:ByteArray):callK prog A H LIM n F.spec_l2Find [(.rref [(.sl 2 a0_0)] 0),(.str a1)]=(spec_l2Find.at0 n n (spec_l2Find.st0 a0_0 a1 (0:Int))):=by kernel_rfl
def spec_l2Name.st0 (x0:ByteArray) (x1:Int):St:=⟨[(0,(.one (.t (.str x0)))),(3,oi x1)],[]⟩
noncomputable def spec_l2Name.K0 (n:Nat):Ex→St→R:=kx F.spec_l2Name n [.block 0,.seq 0 (cx F.spec_l2Name [1,1,1])] (endOf prog A F.spec_l2Name)
noncomputable def spec_l2Name.at0 (n:Nat) (m:Nat) (s:St):R:=lx F.spec_l2Name n 0 [1,1,0,1,0,0] (spec_l2Name.K0 n) m s
noncomputable def spec_l2Name.rd0 (n:Nat) (L0:St→R) (s:St):R:=rx F.spec_l2Name n 0 [1,1,0,1,0,0] (spec_l2Name.K0 n) L0 s
theorem spec_l2Name.next0 (n:Nat) (m:Nat) (s:St):spec_l2Name.at0 n (m+1) s=spec_l2Name.rd0 n (spec_l2Name.at0 n m) s:=nx _ _ _ _ _ _ _
theorem spec_l2Name.round0 (n:Nat) (L0:St→R) (x0:ByteArray) (x1:Int):spec_l2Name.rd0 n L0 (spec_l2Name.st0 x0 x1)=(bif (decide (x1 < (x0.size:Int))) then (bif inB x1 x0.size then (bif (decide (((x0.data.getD (Int.toNat x1) 0).toNat:Int) < (97:Int))) then some ((.bool false),[]) else (bif inB x1 x0.size then (bif (decide (((x0.data.getD (Int.toNat x1) 0).toNat:Int) > (122:Int))) then some ((.bool false),[]) else (L0 (spec_l2Name.st0 x0 (IntKind.wrap .i64 (x1+(1:Int)))))) else none)) else none) else some ((.bool true),[])):=by kernel_rfl
theorem spec_l2Name.ev (n:Nat) (a0:ByteArray):callK prog A H LIM n F.spec_l2Name [(.str a0)]=(bif (decide ((a0.size:Int) < (1:Int))) then some ((.bool false),[]) else (bif (decide ((a0.size:Int) > (3:Int))) then some ((.bool false),[]) else (spec_l2Name.at0 n n (spec_l2Name.st0 a0 (0:Int))))):=by kernel_rfl
end Ev
end
section
open Go
set_option linter.unusedVariables false
set_option maxRecDepth 100000
namespace Ev
theorem spec_l2Sig.ev (n:Nat) (a0_0:List T) (a0_1:Int):callK prog A H LIM n F.spec_l2Sig [(.rref [(.sl 1 a0_0),(.int .i64 a0_1)] 0)]=((LIM F.spec_l1Next [(.rref [(.sl 1 a0_0),(.int .i64 a0_1)] 0),(.int .i64 (8:Int))]).bind fun r1=>((oCons r1.2).bind fun p2=>((oNil p2.2).bind fun _=>((oAgg p2.1).bind fun c3=>((oCons c3).bind fun p4=>((oSl 1 p4.1).bind fun c5=>((oCons p4.2).bind fun p6=>((oInt .i64 p6.1).bind fun n7=>((oNil p6.2).bind fun _=>((oInt .i64 r1.1).bind fun n8=>(bif ((n8 == (0:Int))) then (bif ((n8 == (0:Int))) then some ((.agg [(.sl 2 [(.str (ByteArray.mk #[101])),(.int .i64 (0:Int)),(.str (ByteArray.mk #[105])),(.int .i64 (1:Int)),(.str (ByteArray.mk #[109])),(.int .i64 (2:Int)),(.str (ByteArray.mk #[97])),(.int .i64 (0:Int))])]),[(.agg [(.sl 1 a0_0),(.int .i64 n7)])]) else (bif ((n8 == (3:Int))) then (bif ((n8 == (3:Int))) then some ((.agg [(.sl 2 [(.str (ByteArray.mk #[97])),(.int .i64 (0:Int)),(.str (ByteArray.mk #[115,117,99])),(.int .i64 (1:Int)),(.str (ByteArray.mk #[97,100,100])),(.int .i64 (2:Int)),(.str (ByteArray.mk #[98])),(.int .i64 (0:Int))])]),[(.agg [(.sl 1 a0_0),(.int .i64 n7)])]) else (bif ((n8 == (5:Int))) then some ((.agg [(.sl 2 [(.str (ByteArray.mk #[97])),(.int .i64 (0:Int)),(.str (ByteArray.mk #[102])),(.int .i64 (1:Int)),(.str (ByteArray.mk #[103])),(.int .i64 (1:Int))])]),[(.agg [(.sl 1 a0_0),(.int .i64 n7)])]) else (bif ((n8 == (6:Int))) then some ((.agg [(.sl 2 [(.str (ByteArray.mk #[97])),(.int .i64 (0:Int)),(.str (ByteArray.mk #[98])),(.int .i64 (0:Int)),(.str (ByteArray.mk #[101])),(.int .i64 (0:Int)),(.str (ByteArray.mk #[109])),(.int .i64 (2:Int)),(.str (ByteArray.mk #[105])),(.int .i64 (1:Int)),(.str (ByteArray.mk #[115,117,99])),(.int .i64 (1:Int))])]),[(.agg [(.sl 1 a0_0),(.int .i64 n7)])]) else some ((.agg [(.sl 2 [(.str (ByteArray.mk #[97])),(.int .i64 (0:Int))])]),[(.agg [(.sl 1 a0_0),(.int .i64 n7)])])))) else (bif ((n8 == (4:Int))) then some ((.agg [(.sl 2 [(.str (ByteArray.mk #[97])),(.int .i64 (0:Int)),(.str (ByteArray.mk #[115,117,99])),(.int .i64 (1:Int)),(.str (ByteArray.mk #[97,100,100])),(.int .i64 (2:Int)),(.str (ByteArray.mk #[98])),(.int .i64 (0:Int))])]),[(.agg [(.sl 1 a0_0),(.int .i64 n7)])]) else (bif ((n8 == (5:Int))) then some ((.agg [(.sl 2 [(.str (ByteArray.mk #[97])),(.int .i64 (0:Int)),(.str (ByteArray.mk #[102])),(.int .i64 (1:Int)),(.str (ByteArray.mk #[103])),(.int .i64 (1:Int))])]),[(.agg [(.sl 1 a0_0),(.int .i64 n7)])]) else (bif ((n8 == (6:Int))) then some ((.agg [(.sl 2 [(.str (ByteArray.mk #[97])),(.int .i64 (0:Int)),(.str (ByteArray.mk #[98])),(.int .i64 (0:Int)),(.str (ByteArray.mk #[101])),(.int .i64 (0:Int)),(.str (ByteArray.mk #[109])),(.int .i64 (2:Int)),(.str (ByteArray.mk #[105])),(.int .i64 (1:Int)),(.str (ByteArray.mk #[115,117,99])),(.int .i64 (1:Int))])]),[(.agg [(.sl 1 a0_0),(.int .i64 n7)])]) else some ((.agg [(.sl 2 [(.str (ByteArray.mk #[97])),(.int .i64 (0:Int))])]),[(.agg [(.sl 1 a0_0),(.int .i64 n7)])])))))) else (bif ((n8 == (1:Int))) then (bif ((n8 == (1:Int))) then some ((.agg [(.sl 2 [(.str (ByteArray.mk #[101])),(.int .i64 (0:Int)),(.str (ByteArray.mk #[105])),(.int .i64 (1:Int)),(.str (ByteArray.mk #[109])),(.int .i64 (2:Int)),(.str (ByteArray.mk #[97])),(.int .i64 (0:Int))])]),[(.agg [(.sl 1 a0_0),(.int .i64 n7)])]) else (bif ((n8 == (3:Int))) then (bif ((n8 == (3:Int))) then some ((.agg [(.sl 2 [(.str (ByteArray.mk #[97])),(.int .i64 (0:Int)),(.str (ByteArray.mk #[115,117,99])),(.int .i64 (1:Int)),(.str (ByteArray.mk #[97,100,100])),(.int .i64 (2:Int)),(.str (ByteArray.mk #[98])),(.int .i64 (0:Int))])]),[(.agg [(.sl 1 a0_0),(.int .i64 n7)])]) else (bif ((n8 == (5:Int))) then some ((.agg [(.sl 2 [(.str (ByteArray.mk #[97])),(.int .i64 (0:Int)),(.str (ByteArray.mk #[102])),(.int .i64 (1:Int)),(.str (ByteArray.mk #[103])),(.int .i64 (1:Int))])]),[(.agg [(.sl 1 a0_0),(.int .i64 n7)])]) else (bif ((n8 == (6:Int))) then some ((.agg [(.sl 2 [(.str (ByteArray.mk #[97])),(.int .i64 (0:Int)),(.str (ByteArray.mk #[98])),(.int .i64 (0:Int)),(.str (ByteArray.mk #[101])),(.int .i64 (0:Int)),(.str (ByteArray.mk #[109])),(.int .i64 (2:Int)),(.str (ByteArray.mk #[105])),(.int .i64 (1:Int)),(.str (ByteArray.mk #[115,117,99])),(.int .i64 (1:Int))])]),[(.agg [(.sl 1 a0_0),(.int .i64 n7)])]) else some ((.agg [(.sl 2 [(.str (ByteArray.mk #[97])),(.int .i64 (0:Int))])]),[(.agg [(.sl 1 a0_0),(.int .i64 n7)])])))) else (bif ((n8 == (4:Int))) then some ((.agg [(.sl 2 [(.str (ByteArray.mk #[97])),(.int .i64 (0:Int)),(.str (ByteArray.mk #[115,117,99])),(.int .i64 (1:Int)),(.str (ByteArray.mk #[97,100,100])),(.int .i64 (2:Int)),(.str (ByteArray.mk #[98])),(.int .i64 (0:Int))])]),[(.agg [(.sl 1 a0_0),(.int .i64 n7)])]) else (bif ((n8 == (5:Int))) then some ((.agg [(.sl 2 [(.str (ByteArray.mk #[97])),(.int .i64 (0:Int)),(.str (ByteArray.mk #[102])),(.int .i64 (1:Int)),(.str (ByteArray.mk #[103])),(.int .i64 (1:Int))])]),[(.agg [(.sl 1 a0_0),(.int .i64 n7)])]) else (bif ((n8 == (6:Int))) then some ((.agg [(.sl 2 [(.str (ByteArray.mk #[97])),(.int .i64 (0:Int)),(.str (ByteArray.mk #[98])),(.int .i64 (0:Int)),(.str (ByteArray.mk #[101])),(.int .i64 (0:Int)),(.str (ByteArray.mk #[109])),(.int .i64 (2:Int)),(.str (ByteArray.mk #[105])),(.int .i64 (1:Int)),(.str (ByteArray.mk #[115,117,99])),(.int .i64 (1:Int))])]),[(.agg [(.sl 1 a0_0),(.int .i64 n7)])]) else some ((.agg [(.sl 2 [(.str (ByteArray.mk #[97])),(.int .i64 (0:Int))])]),[(.agg [(.sl 1 a0_0),(.int .i64 n7)])])))))) else (bif ((n8 == (2:Int))) then some ((.agg [(.sl 2 [(.str (ByteArray.mk #[101])),(.int .i64 (0:Int)),(.str (ByteArray.mk #[105])),(.int .i64 (1:Int)),(.str (ByteArray.mk #[109])),(.int .i64 (2:Int)),(.str (ByteArray.mk #[97])),(.int .i64 (0:Int))])]),[(.agg [(.sl 1 a0_0),(.int .i64 n7)])]) else (bif ((n8 == (3:Int))) then (bif ((n8 == (3:Int))) then some ((.agg [(.sl 2 [(.str (ByteArray.mk #[97])),(.int .i64 (0:Int)),(.str (ByteArray.mk #[115,117,99])),(.int .i64 (1:Int)),(.str (ByteArray.mk #[97,100,100])),(.int .i64 (2:Int)),(.str (ByteArray.mk #[98])),(.int .i64 (0:Int))])]),[(.agg [(.sl 1 a0_0),(.int .i64 n7)])]) else (bif ((n8 == (5:Int))) then some ((.agg [(.sl 2 [(.str (ByteArray.mk #[97])),(.int .i64 (0:Int)),(.str (ByteArray.mk #[102])),(.int .i64 (1:Int)),(.str (ByteArray.mk #[103])),(.int .i64 (1:Int))])]),[(.agg [(.sl 1 a0_0),(.int .i64 n7)])]) else (bif ((n8 == (6:Int))) then some ((.agg [(.sl 2 [(.str (ByteArray.mk #[97])),(.int .i64 (0:Int)),(.str (ByteArray.mk #[98])),(.int .i64 (0:Int)),(.str (ByteArray.mk #[101])),(.int .i64 (0:Int)),(.str (ByteArray.mk #[109])),(.int .i64 (2:Int)),(.str (ByteArray.mk #[105])),(.int .i64 (1:Int)),(.str (ByteArray.mk #[115,117,99])),(.int .i64 (1:Int))])]),[(.agg [(.sl 1 a0_0),(.int .i64 n7)])]) else some ((.agg [(.sl 2 [(.str (ByteArray.mk #[97])),(.int .i64 (0:Int))])]),[(.agg [(.sl 1 a0_0),(.int .i64 n7)])])))) else (bif ((n8 == (4:Int))) then some ((.agg [(.sl 2 [(.str (ByteArray.mk #[97])),(.int .i64 (0:Int)),(.str (ByteArray.mk #[115,117,99])),(.int .i64 (1:Int)),(.str (ByteArray.mk #[97,100,100])),(.int .i64 (2:Int)),(.str (ByteArray.mk #[98])),(.int .i64 (0:Int))])]),[(.agg [(.sl 1 a0_0),(.int .i64 n7)])]) else (bif ((n8 == (5:Int))) then some ((.agg [(.sl 2 [(.str (ByteArray.mk #[97])),(.int .i64 (0:Int)),(.str (ByteArray.mk #[102])),(.int .i64 (1:Int)),(.str (ByteArray.mk #[103])),(.int .i64 (1:Int))])]),[(.agg [(.sl 1 a0_0),(.int .i64 n7)])]) else (bif ((n8 == (6:Int))) then some ((.agg [(.sl 2 [(.str (ByteArray.mk #[97])),(.int .i64 (0:Int)),(.str (ByteArray.mk #[98])),(.int .i64 (0:Int)),(.str (ByteArray.mk #[101])),(.int .i64 (0:Int)),(.str (ByteArray.mk #[109])),(.int .i64 (2:Int)),(.str (ByteArray.mk #[105])),(.int .i64 (1:Int)),(.str (ByteArray.mk #[115,117,99])),(.int .i64 (1:Int))])]),[(.agg [(.sl 1 a0_0),(.int .i64 n7)])]) else some ((.agg [(.sl 2 [(.str (ByteArray.mk #[97])),(.int .i64 (0:Int))])]),[(.agg [(.sl 1 a0_0),(.int .i64 n7)])])))))))))))))))))):=by kernel_rfl
theorem spec_l2Symbol.ev (n:Nat) (a0_0:List T) (a1:Int):callK prog A H LIM n F.spec_l2Symbol [(.rref [(.sl 2 a0_0)] 0),(.int .i64 a1)]=((LIM F.spec_l1In [(.int .i64 a1),(.int .i64 (0:Int)),(.int .i64 (IntKind.wrap .i64 (((((a0_0).length / 2):Nat):Int) - (1:Int))))]).bind fun r1=>((oNil r1.2).bind fun _=>((oBool r1.1).bind fun b2=>some ((.bool b2),[])))):=by kernel_rfl
def spec_l3BentTerm.st1 (x0:Int) (x1:List T) (x2:Int) (x3:List T):St:=⟨[(0,(.one (.ptr 1000000 0))),(10,(.one (.obj 4224))),(11,oi x0)],[(1000000,(.box [(.kept 0 (.sl 1 x1)),(.t (.int .i64 x2))])),(4224,(.arr true true 1 x3))]⟩
noncomputable def spec_l3BentTerm.K1 (n:Nat):Ex→St→R:=kx F.spec_l3BentTerm n [.block 1,.seq 0 (cx F.spec_l3BentTerm [1,1,1,1,1,1,1])] (endOf prog A F.spec_l3BentTerm)
noncomputable def spec_l3BentTerm.at1 (n:Nat) (m:Nat) (s:St):R:=lx F.spec_l3BentTerm n 1 [1,1,1,1,1,1,0,1,0,0] (spec_l3BentTerm.K1 n) m s
noncomputable def spec_l3BentTerm.rd1 (n:Nat) (L1:St→R) (s:St):R:=rx F.spec_l3BentTerm n 1 [1,1,1,1,1,1,0,1,0,0] (spec_l3BentTerm.K1 n) L1 s
theorem spec_l3BentTerm.next1 (n:Nat) (m:Nat) (s:St):spec_l3BentTerm.at1 n (m+1) s=spec_l3BentTerm.rd1 n (spec_l3BentTerm.at1 n m) s:=nx _ _ _ _ _ _ _
theorem spec_l3BentTerm.round1 (n:Nat) (L1:St→R) (x0:Int) (x1:List T) (x2:Int) (x3:List T):spec_l3BentTerm.rd1 n L1 (spec_l3BentTerm.st1 x0 x1 x2 x3)=((LIM F.spec_l1Pick [(.rref [(.sl 1 x1),(.int .i64 x2)] 0),(.sl 1 [(.int .i64 (24:Int)),(.int .i64 (25:Int))])]).bind fun r43=>((oCons r43.2).bind fun p44=>((oNil p44.2).bind fun _=>((oAgg p44.1).bind fun c45=>((oCons c45).bind fun p46=>((oSl 1 p46.1).bind fun c47=>((oCons p46.2).bind fun p48=>((oInt .i64 p48.1).bind fun n49=>((oNil p48.2).bind fun _=>((oInt .i64 r43.1).bind fun n50=>(bif (decide (x0 < n50)) then ((LIM F.spec_l1Pick [(.rref [(.sl 1 x1),(.int .i64 n49)] 0),(.sl 1 [(.int .i64 (1:Int)),(.int .i64 (2:Int)),(.int .i64 (0:Int))])]).bind fun r51=>((oCons r51.2).bind fun p52=>((oNil p52.2).bind fun _=>((oAgg p52.1).bind fun c53=>((oCons c53).bind fun p54=>((oSl 1 p54.1).bind fun c55=>((oCons p54.2).bind fun p56=>((oInt .i64 p56.1).bind fun n57=>((oNil p56.2).bind fun _=>((oInt .i64 r51.1).bind fun n58=>(bif Nat.ble (((x3).length+1)*8) (140737488355328*1) then (L1 (spec_l3BentTerm.st1 (IntKind.wrap .i64 (x0+(1:Int))) x1 n57 (x3++[(.int .i64 n58)]:List T))) else none))))))))))) else some ((.sl 1 x3),[(.agg [(.sl 1 x1),(.int .i64 n49)])])))))))))))):=by kernel_rfl
theorem spec_l3BentTerm.ev (n:Nat) (a0_0:List T) (a0_1:Int) (a1_0:List T) (a2 a3:Int):callK prog A H LIM n F.spec_l3BentTerm [(.rref [(.sl 1 a0_0),(.int .i64 a0_1)] 0),(.rref [(.sl 2 a1_0)] 0),(.int .i64 a2),(.int .i64 a3)]=(bif (decide (((((a1_0).length / 2):Nat):Int) < (1:Int))) then some ((.sl 1 [(.int .i64 (0:Int))]),[(.agg [(.sl 1 a0_0),(.int .i64 a0_1)])]) else ((LIM F.spec_SignatureFault [(.agg [(.sl 2 a1_0)])]).bind fun r1=>((oNil r1.2).bind fun _=>((oInt .i64 r1.1).bind fun n2=>(bif ((n2 != (0:Int))) then some ((.sl 1 [(.int .i64 (0:Int))]),[(.agg [(.sl 1 a0_0),(.int .i64 a0_1)])]) else ((LIM F.spec_l3Draw [(.rref [(.sl 1 a0_0),(.int .i64 a0_1)] 0),(.rref [(.sl 2 a1_0)] 0),(.int .i64 a2),(.int .i64 a3)]).bind fun r3=>((oCons r3.2).bind fun p4=>((oNil p4.2).bind fun _=>((oAgg p4.1).bind fun c5=>((oCons c5).bind fun p6=>((oSl 1 p6.1).bind fun c7=>((oCons p6.2).bind fun p8=>((oInt .i64 p8.1).bind fun n9=>((oNil p8.2).bind fun _=>((oSl 1 r3.1).bind fun c10=>((LIM F.spec_l1Chance [(.rref [(.sl 1 a0_0),(.int .i64 n9)] 0),(.int .i64 (11:Int))]).bind fun r11=>((oCons r11.2).bind fun p12=>((oNil p12.2).bind fun _=>((oAgg p12.1).bind fun c13=>((oCons c13).bind fun p14=>((oSl 1 p14.1).bind fun c15=>((oCons p14.2).bind fun p16=>((oInt .i64 p16.1).bind fun n17=>((oNil p16.2).bind fun _=>((oBool r11.1).bind fun b18=>(bif (!b18) then some ((.sl 1 c10),[(.agg [(.sl 1 a0_0),(.int .i64 n17)])]) else ((LIM F.spec_l1Next [(.rref [(.sl 1 a0_0),(.int .i64 n17)] 0),(.int .i64 (4:Int))]).bind fun r19=>((oCons r19.2).bind fun p20=>((oNil p20.2).bind fun _=>((oAgg p20.1).bind fun c21=>((oCons c21).bind fun p22=>((oSl 1 p22.1).bind fun c23=>((oCons p22.2).bind fun p24=>((oInt .i64 p24.1).bind fun n25=>((oNil p24.2).bind fun _=>((oInt .i64 r19.1).bind fun n26=>(bif ((n26 == (0:Int))) then (bif decide (0≤(IntKind.wrap .i64 (((((c10).length / 1):Nat):Int) - (1:Int))))&&decide ((IntKind.wrap .i64 (((((c10).length / 1):Nat):Int) - (1:Int)))≤((((c10).length / 1):Nat):Int)) then some ((.sl 1 (c10.take ((Int.toNat (IntKind.wrap .i64 (((((c10).length / 1):Nat):Int) - (1:Int))))*1))),[(.agg [(.sl 1 a0_0),(.int .i64 n25)])]) else none) else (bif ((n26 == (1:Int))) then (bif Nat.ble (((c10).length+1)*8) (140737488355328*1) then some ((.sl 1 (c10++[(.int .i64 (0:Int))]:List T)),[(.agg [(.sl 1 a0_0),(.int .i64 n25)])]) else none) else (bif ((n26 == (2:Int))) then ((LIM F.spec_l1Next [(.rref [(.sl 1 a0_0),(.int .i64 n25)] 0),(.int .i64 ((((c10).length / 1):Nat):Int))]).bind fun r27=>((oCons r27.2).bind fun p28=>((oNil p28.2).bind fun _=>((oAgg p28.1).bind fun c29=>((oCons c29).bind fun p30=>((oSl 1 p30.1).bind fun c31=>((oCons p30.2).bind fun p32=>((oInt .i64 p32.1).bind fun n33=>((oNil p32.2).bind fun _=>((oInt .i64 r27.1).bind fun n34=>((LIM F.spec_l1Pick [(.rref [(.sl 1 a0_0),(.int .i64 n33)] 0),(.sl 1 [(.int .i64 ((((a1_0).length / 2):Nat):Int)),(.int .i64 (-13:Int)),(.int .i64 (-12:Int))])]).bind fun r35=>((oCons r35.2).bind fun p36=>((oNil p36.2).bind fun _=>((oAgg p36.1).bind fun c37=>((oCons c37).bind fun p38=>((oSl 1 p38.1).bind fun c39=>((oCons p38.2).bind fun p40=>((oInt .i64 p40.1).bind fun n41=>((oNil p40.2).bind fun _=>((oInt .i64 r35.1).bind fun n42=>(bif inB n34 ((c10).length / 1) then (bif decide (((Int.toNat n34)*1)+1≤(c10).length) then some ((.sl 1 (setCells c10 ((Int.toNat n34)*1) [(.int .i64 n42)])),[(.agg [(.sl 1 a0_0),(.int .i64 n41)])]) else none) else none))))))))))))))))))))) else (spec_l3BentTerm.at1 n n (spec_l3BentTerm.st1 (0:Int) a0_0 n25 []))))))))))))))))))))))))))))))))))))))))):=by kernel_rfl
def spec_l3Draw.st2 (x0:List T) (x1 x2 x3 x4 x5:Int) (x6:List T) (x7:Int):St:=⟨[(0,(.one (.ptr 1000000 0))),(1,(.one (.t (.rref [(.sl 2 x0)] 0)))),(2,oi x1),(3,oi x2),(9,oi x3),(10,oi x4),(12,oi x5)],[(1000000,(.box [(.kept 0 (.sl 1 x6)),(.t (.int .i64 x7))]))]⟩
def spec_l3Draw.st0 (x0:List T) (x1 x2 x3 x4 x5:Int) (x6:List T) (x7:Int):St:=⟨[(0,(.one (.ptr 1000000 0))),(1,(.one (.t (.rref [(.sl 2 x0)] 0)))),(2,oi x1),(3,oi x2),(9,oi x3),(10,oi x4),(11,oi x5)],[(1000000,(.box [(.kept 0 (.sl 1 x6)),(.t (.int .i64 x7))]))]⟩
noncomputable def spec_l3Draw.K0 (n:Nat):Ex→St→R:=kx F.spec_l3Draw n [.block 0,.seq 0 (cx F.spec_l3Draw [1,1,1,1,1])] (endOf prog A F.spec_l3Draw)
noncomputable def spec_l3Draw.at0 (n:Nat) (m:Nat) (s:St):R:=lx F.spec_l3Draw n 0 [1,1,1,1,0,1,0,0] (spec_l3Draw.K0 n) m s
noncomputable def spec_l3Draw.rd0 (n:Nat) (L0:St→R) (s:St):R:=rx F.spec_l3Draw n 0 [1,1,1,1,0,1,0,0] (spec_l3Draw.K0 n) L0 s
theorem spec_l3Draw.next0 (n:Nat) (m:Nat) (s:St):spec_l3Draw.at0 n (m+1) s=spec_l3Draw.rd0 n (spec_l3Draw.at0 n m) s:=nx _ _ _ _ _ _ _
noncomputable def spec_l3Draw.K2 (n:Nat):Ex→St→R:=kx F.spec_l3Draw n [.block 2,.seq 0 (cx F.spec_l3Draw [1,1,1,1,1,1])] (endOf prog A F.spec_l3Draw)
noncomputable def spec_l3Draw.at2 (n:Nat) (m:Nat) (s:St):R:=lx F.spec_l3Draw n 2 [1,1,1,1,1,0,1,0,1,0,0] (spec_l3Draw.K2 n) m s
noncomputable def spec_l3Draw.rd2 (n:Nat) (L2:St→R) (s:St):R:=rx F.spec_l3Draw n 2 [1,1,1,1,1,0,1,0,1,0,0] (spec_l3Draw.K2 n) L2 s
theorem spec_l3Draw.next2 (n:Nat) (m:Nat) (s:St):spec_l3Draw.at2 n (m+1) s=spec_l3Draw.rd2 n (spec_l3Draw.at2 n m) s:=nx _ _ _ _ _ _ _
theorem spec_l3Draw.round0 (n:Nat) (L0:St→R) (x0:List T) (x1 x2 x3 x4 x5:Int) (x6:List T) (x7:Int):spec_l3Draw.rd0 n L0 (spec_l3Draw.st0 x0 x1 x2 x3 x4 x5 x6 x7)=(bif (decide (x5 < x3)) then (bif inB x4 ((x0).length / 2) then ((x0[(((Int.toNat x4)*2)+1)]?).bind fun e41=>((oInt .i64 e41).bind fun n42=>(bif (decide (n42 ≥ x1)) then (bif decide (x3=0) then none else (L0 (spec_l3Draw.st0 x0 x1 x2 x3 (Int.tmod (IntKind.wrap .i64 (x4+(1:Int))) x3) (IntKind.wrap .i64 (x5+(1:Int))) x6 x7))) else (bif (decide (x1 < (2:Int))) then (spec_l3Draw.at2 n n (spec_l3Draw.st2 x0 x1 x2 x3 x4 (0:Int) x6 x7)) else (bif inB x4 ((x0).length / 2) then ((x0[(((Int.toNat x4)*2)+1)]?).bind fun e97=>((oInt .i64 e97).bind fun n98=>(bif ((n98 == (1:Int))) then ((LIM F.spec_l3Draw [(.rref [(.sl 1 x6),(.int .i64 x7)] 0),(.rref [(.sl 2 x0)] 0),(.int .i64 (IntKind.wrap .i64 (x1 - (1:Int)))),(.int .i64 x2)]).bind fun r99=>((oCons r99.2).bind fun p100=>((oNil p100.2).bind fun _=>((oAgg p100.1).bind fun c101=>((oCons c101).bind fun p102=>((oSl 1 p102.1).bind fun c103=>((oCons p102.2).bind fun p104=>((oInt .i64 p104.1).bind fun n105=>((oNil p104.2).bind fun _=>((oSl 1 r99.1).bind fun c106=>(bif (c106).all T.scalar then (bif Nat.ble ((1+(c106).length)*8) (140737488355328*1) then some ((.sl 1 ([(.int .i64 x4)]++c106:List T)),[(.agg [(.sl 1 x6),(.int .i64 n105)])]) else none) else none))))))))))) else (bif ((n98 == (2:Int))) then ((LIM F.spec_l3Draw [(.rref [(.sl 1 x6),(.int .i64 x7)] 0),(.rref [(.sl 2 x0)] 0),(.int .i64 (IntKind.wrap .i64 (x1 - (2:Int)))),(.int .i64 x2)]).bind fun r107=>((oCons r107.2).bind fun p108=>((oNil p108.2).bind fun _=>((oAgg p108.1).bind fun c109=>((oCons c109).bind fun p110=>((oSl 1 p110.1).bind fun c111=>((oCons p110.2).bind fun p112=>((oInt .i64 p112.1).bind fun n113=>((oNil p112.2).bind fun _=>((oSl 1 r107.1).bind fun c114=>(bif (c114).all T.scalar then (bif Nat.ble ((1+(c114).length)*8) (140737488355328*1) then ((LIM F.spec_l3Draw [(.rref [(.sl 1 x6),(.int .i64 n113)] 0),(.rref [(.sl 2 x0)] 0),(.int .i64 (IntKind.wrap .i64 ((IntKind.wrap .i64 (x1 - (1:Int))) - ((((c114).length / 1):Nat):Int)))),(.int .i64 x2)]).bind fun r115=>((oCons r115.2).bind fun p116=>((oNil p116.2).bind fun _=>((oAgg p116.1).bind fun c117=>((oCons c117).bind fun p118=>((oSl 1 p118.1).bind fun c119=>((oCons p118.2).bind fun p120=>((oInt .i64 p120.1).bind fun n121=>((oNil p120.2).bind fun _=>((oSl 1 r115.1).bind fun c122=>(bif (c122).all T.scalar then (bif Nat.ble (((([(.int .i64 x4)]++c114:List T)).length+(c122).length)*8) (140737488355328*1) then some ((.sl 1 (([(.int .i64 x4)]++c114:List T)++c122:List T)),[(.agg [(.sl 1 x6),(.int .i64 n121)])]) else none) else none))))))))))) else none) else none))))))))))) else some ((.sl 1 [(.int .i64 x4)]),[(.agg [(.sl 1 x6),(.int .i64 x7)])]))))) else none))))) else none) else (bif (decide (x1 < (2:Int))) then (spec_l3Draw.at2 n n (spec_l3Draw.st2 x0 x1 x2 x3 x4 (0:Int) x6 x7)) else (bif inB x4 ((x0).length / 2) then ((x0[(((Int.toNat x4)*2)+1)]?).bind fun e123=>((oInt .i64 e123).bind fun n124=>(bif ((n124 == (1:Int))) then ((LIM F.spec_l3Draw [(.rref [(.sl 1 x6),(.int .i64 x7)] 0),(.rref [(.sl 2 x0)] 0),(.int .i64 (IntKind.wrap .i64 (x1 - (1:Int)))),(.int .i64 x2)]).bind fun r125=>((oCons r125.2).bind fun p126=>((oNil p126.2).bind fun _=>((oAgg p126.1).bind fun c127=>((oCons c127).bind fun p128=>((oSl 1 p128.1).bind fun c129=>((oCons p128.2).bind fun p130=>((oInt .i64 p130.1).bind fun n131=>((oNil p130.2).bind fun _=>((oSl 1 r125.1).bind fun c132=>(bif (c132).all T.scalar then (bif Nat.ble ((1+(c132).length)*8) (140737488355328*1) then some ((.sl 1 ([(.int .i64 x4)]++c132:List T)),[(.agg [(.sl 1 x6),(.int .i64 n131)])]) else none) else none))))))))))) else (bif ((n124 == (2:Int))) then ((LIM F.spec_l3Draw [(.rref [(.sl 1 x6),(.int .i64 x7)] 0),(.rref [(.sl 2 x0)] 0),(.int .i64 (IntKind.wrap .i64 (x1 - (2:Int)))),(.int .i64 x2)]).bind fun r133=>((oCons r133.2).bind fun p134=>((oNil p134.2).bind fun _=>((oAgg p134.1).bind fun c135=>((oCons c135).bind fun p136=>((oSl 1 p136.1).bind fun c137=>((oCons p136.2).bind fun p138=>((oInt .i64 p138.1).bind fun n139=>((oNil p138.2).bind fun _=>((oSl 1 r133.1).bind fun c140=>(bif (c140).all T.scalar then (bif Nat.ble ((1+(c140).length)*8) (140737488355328*1) then ((LIM F.spec_l3Draw [(.rref [(.sl 1 x6),(.int .i64 n139)] 0),(.rref [(.sl 2 x0)] 0),(.int .i64 (IntKind.wrap .i64 ((IntKind.wrap .i64 (x1 - (1:Int))) - ((((c140).length / 1):Nat):Int)))),(.int .i64 x2)]).bind fun r141=>((oCons r141.2).bind fun p142=>((oNil p142.2).bind fun _=>((oAgg p142.1).bind fun c143=>((oCons c143).bind fun p144=>((oSl 1 p144.1).bind fun c145=>((oCons p144.2).bind fun p146=>((oInt .i64 p146.1).bind fun n147=>((oNil p146.2).bind fun _=>((oSl 1 r141.1).bind fun c148=>(bif (c148).all T.scalar then (bif Nat.ble (((([(.int .i64 x4)]++c140:List T)).length+(c148).length)*8) (140737488355328*1) then some ((.sl 1 (([(.int .i64 x4)]++c140:List T)++c148:List T)),[(.agg [(.sl 1 x6),(.int .i64 n147)])]) else none) else none))))))))))) else none) else none))))))))))) else some ((.sl 1 [(.int .i64 x4)]),[(.agg [(.sl 1 x6),(.int .i64 x7)])]))))) else none))):=by kernel_rfl
theorem spec_l3Draw.round2 (n:Nat) (L2:St→R) (x0:List T) (x1 x2 x3 x4 x5:Int) (x6:List T) (x7:Int):spec_l3Draw.rd2 n L2 (spec_l3Draw.st2 x0 x1 x2 x3 x4 x5 x6 x7)=(bif (decide (x5 < x3)) then (bif inB x4 ((x0).length / 2) then ((x0[(((Int.toNat x4)*2)+1)]?).bind fun e43=>((oInt .i64 e43).bind fun n44=>(bif (decide (n44 > (0:Int))) then (bif decide (x3=0) then none else (L2 (spec_l3Draw.st2 x0 x1 x2 x3 (Int.tmod (IntKind.wrap .i64 (x4+(1:Int))) x3) (IntKind.wrap .i64 (x5+(1:Int))) x6 x7))) else (bif inB x4 ((x0).length / 2) then ((x0[(((Int.toNat x4)*2)+1)]?).bind fun e45=>((oInt .i64 e45).bind fun n46=>(bif ((n46 == (1:Int))) then ((LIM F.spec_l3Draw [(.rref [(.sl 1 x6),(.int .i64 x7)] 0),(.rref [(.sl 2 x0)] 0),(.int .i64 (IntKind.wrap .i64 (x1 - (1:Int)))),(.int .i64 x2)]).bind fun r47=>((oCons r47.2).bind fun p48=>((oNil p48.2).bind fun _=>((oAgg p48.1).bind fun c49=>((oCons c49).bind fun p50=>((oSl 1 p50.1).bind fun c51=>((oCons p50.2).bind fun p52=>((oInt .i64 p52.1).bind fun n53=>((oNil p52.2).bind fun _=>((oSl 1 r47.1).bind fun c54=>(bif (c54).all T.scalar then (bif Nat.ble ((1+(c54).length)*8) (140737488355328*1) then some ((.sl 1 ([(.int .i64 x4)]++c54:List T)),[(.agg [(.sl 1 x6),(.int .i64 n53)])]) else none) else none))))))))))) else (bif ((n46 == (2:Int))) then ((LIM F.spec_l3Draw [(.rref [(.sl 1 x6),(.int .i64 x7)] 0),(.rref [(.sl 2 x0)] 0),(.int .i64 (IntKind.wrap .i64 (x1 - (2:Int)))),(.int .i64 x2)]).bind fun r55=>((oCons r55.2).bind fun p56=>((oNil p56.2).bind fun _=>((oAgg p56.1).bind fun c57=>((oCons c57).bind fun p58=>((oSl 1 p58.1).bind fun c59=>((oCons p58.2).bind fun p60=>((oInt .i64 p60.1).bind fun n61=>((oNil p60.2).bind fun _=>((oSl 1 r55.1).bind fun c62=>(bif (c62).all T.scalar then (bif Nat.ble ((1+(c62).length)*8) (140737488355328*1) then ((LIM F.spec_l3Draw [(.rref [(.sl 1 x6),(.int .i64 n61)] 0),(.rref [(.sl 2 x0)] 0),(.int .i64 (IntKind.wrap .i64 ((IntKind.wrap .i64 (x1 - (1:Int))) - ((((c62).length / 1):Nat):Int)))),(.int .i64 x2)]).bind fun r63=>((oCons r63.2).bind fun p64=>((oNil p64.2).bind fun _=>((oAgg p64.1).bind fun c65=>((oCons c65).bind fun p66=>((oSl 1 p66.1).bind fun c67=>((oCons p66.2).bind fun p68=>((oInt .i64 p68.1).bind fun n69=>((oNil p68.2).bind fun _=>((oSl 1 r63.1).bind fun c70=>(bif (c70).all T.scalar then (bif Nat.ble (((([(.int .i64 x4)]++c62:List T)).length+(c70).length)*8) (140737488355328*1) then some ((.sl 1 (([(.int .i64 x4)]++c62:List T)++c70:List T)),[(.agg [(.sl 1 x6),(.int .i64 n69)])]) else none) else none))))))))))) else none) else none))))))))))) else some ((.sl 1 [(.int .i64 x4)]),[(.agg [(.sl 1 x6),(.int .i64 x7)])]))))) else none)))) else none) else (bif inB x4 ((x0).length / 2) then ((x0[(((Int.toNat x4)*2)+1)]?).bind fun e71=>((oInt .i64 e71).bind fun n72=>(bif ((n72 == (1:Int))) then ((LIM F.spec_l3Draw [(.rref [(.sl 1 x6),(.int .i64 x7)] 0),(.rref [(.sl 2 x0)] 0),(.int .i64 (IntKind.wrap .i64 (x1 - (1:Int)))),(.int .i64 x2)]).bind fun r73=>((oCons r73.2).bind fun p74=>((oNil p74.2).bind fun _=>((oAgg p74.1).bind fun c75=>((oCons c75).bind fun p76=>((oSl 1 p76.1).bind fun c77=>((oCons p76.2).bind fun p78=>((oInt .i64 p78.1).bind fun n79=>((oNil p78.2).bind fun _=>((oSl 1 r73.1).bind fun c80=>(bif (c80).all T.scalar then (bif Nat.ble ((1+(c80).length)*8) (140737488355328*1) then some ((.sl 1 ([(.int .i64 x4)]++c80:List T)),[(.agg [(.sl 1 x6),(.int .i64 n79)])]) else none) else none))))))))))) else (bif ((n72 == (2:Int))) then ((LIM F.spec_l3Draw [(.rref [(.sl 1 x6),(.int .i64 x7)] 0),(.rref [(.sl 2 x0)] 0),(.int .i64 (IntKind.wrap .i64 (x1 - (2:Int)))),(.int .i64 x2)]).bind fun r81=>((oCons r81.2).bind fun p82=>((oNil p82.2).bind fun _=>((oAgg p82.1).bind fun c83=>((oCons c83).bind fun p84=>((oSl 1 p84.1).bind fun c85=>((oCons p84.2).bind fun p86=>((oInt .i64 p86.1).bind fun n87=>((oNil p86.2).bind fun _=>((oSl 1 r81.1).bind fun c88=>(bif (c88).all T.scalar then (bif Nat.ble ((1+(c88).length)*8) (140737488355328*1) then ((LIM F.spec_l3Draw [(.rref [(.sl 1 x6),(.int .i64 n87)] 0),(.rref [(.sl 2 x0)] 0),(.int .i64 (IntKind.wrap .i64 ((IntKind.wrap .i64 (x1 - (1:Int))) - ((((c88).length / 1):Nat):Int)))),(.int .i64 x2)]).bind fun r89=>((oCons r89.2).bind fun p90=>((oNil p90.2).bind fun _=>((oAgg p90.1).bind fun c91=>((oCons c91).bind fun p92=>((oSl 1 p92.1).bind fun c93=>((oCons p92.2).bind fun p94=>((oInt .i64 p94.1).bind fun n95=>((oNil p94.2).bind fun _=>((oSl 1 r89.1).bind fun c96=>(bif (c96).all T.scalar then (bif Nat.ble (((([(.int .i64 x4)]++c88:List T)).length+(c96).length)*8) (140737488355328*1) then some ((.sl 1 (([(.int .i64 x4)]++c88:List T)++c96:List T)),[(.agg [(.sl 1 x6),(.int .i64 n95)])]) else none) else none))))))))))) else none) else none))))))))))) else some ((.sl 1 [(.int .i64 x4)]),[(.agg [(.sl 1 x6),(.int .i64 x7)])]))))) else none)):=by kernel_rfl
theorem spec_l3Draw.ev (n:Nat) (a0_0:List T) (a0_1:Int) (a1_0:List T) (a2 a3:Int):callK prog A H LIM n F.spec_l3Draw [(.rref [(.sl 1 a0_0),(.int .i64 a0_1)] 0),(.rref [(.sl 2 a1_0)] 0),(.int .i64 a2),(.int .i64 a3)]=(bif (decide (a3 > (0:Int))) then (bif (decide (a2 < (2:Int))) then ((LIM F.spec_l1Chance [(.rref [(.sl 1 a0_0),(.int .i64 a0_1)] 0),(.int .i64 (2:Int))]).bind fun r1=>((oCons r1.2).bind fun p2=>((oNil p2.2).bind fun _=>((oAgg p2.1).bind fun c3=>((oCons c3).bind fun p4=>((oSl 1 p4.1).bind fun c5=>((oCons p4.2).bind fun p6=>((oInt .i64 p6.1).bind fun n7=>((oNil p6.2).bind fun _=>((oBool r1.1).bind fun b8=>(bif b8 then ((LIM F.spec_l1Next [(.rref [(.sl 1 a0_0),(.int .i64 n7)] 0),(.int .i64 a3)]).bind fun r9=>((oCons r9.2).bind fun p10=>((oNil p10.2).bind fun _=>((oAgg p10.1).bind fun c11=>((oCons c11).bind fun p12=>((oSl 1 p12.1).bind fun c13=>((oCons p12.2).bind fun p14=>((oInt .i64 p14.1).bind fun n15=>((oNil p14.2).bind fun _=>((oInt .i64 r9.1).bind fun n16=>some ((.sl 1 [(.int .i64 (IntKind.wrap .i64 ((-1:Int) - n16)))]),[(.agg [(.sl 1 a0_0),(.int .i64 n15)])]))))))))))) else ((LIM F.spec_l1Chance [(.rref [(.sl 1 a0_0),(.int .i64 n7)] 0),(.int .i64 (4:Int))]).bind fun r17=>((oCons r17.2).bind fun p18=>((oNil p18.2).bind fun _=>((oAgg p18.1).bind fun c19=>((oCons c19).bind fun p20=>((oSl 1 p20.1).bind fun c21=>((oCons p20.2).bind fun p22=>((oInt .i64 p22.1).bind fun n23=>((oNil p22.2).bind fun _=>((oBool r17.1).bind fun b24=>(bif b24 then ((LIM F.spec_l1Next [(.rref [(.sl 1 a0_0),(.int .i64 n23)] 0),(.int .i64 a3)]).bind fun r25=>((oCons r25.2).bind fun p26=>((oNil p26.2).bind fun _=>((oAgg p26.1).bind fun c27=>((oCons c27).bind fun p28=>((oSl 1 p28.1).bind fun c29=>((oCons p28.2).bind fun p30=>((oInt .i64 p30.1).bind fun n31=>((oNil p30.2).bind fun _=>((oInt .i64 r25.1).bind fun n32=>some ((.sl 1 [(.int .i64 (IntKind.wrap .i64 ((-1:Int) - n32)))]),[(.agg [(.sl 1 a0_0),(.int .i64 n31)])]))))))))))) else ((LIM F.spec_l1Next [(.rref [(.sl 1 a0_0),(.int .i64 n23)] 0),(.int .i64 ((((a1_0).length / 2):Nat):Int))]).bind fun r33=>((oCons r33.2).bind fun p34=>((oNil p34.2).bind fun _=>((oAgg p34.1).bind fun c35=>((oCons c35).bind fun p36=>((oSl 1 p36.1).bind fun c37=>((oCons p36.2).bind fun p38=>((oInt .i64 p38.1).bind fun n39=>((oNil p38.2).bind fun _=>((oInt .i64 r33.1).bind fun n40=>(spec_l3Draw.at0 n n (spec_l3Draw.st0 a1_0 a2 a3 ((((a1_0).length / 2):Nat):Int) n40 (0:Int) a0_0 n39)))))))))))))))))))))))))))))))))) else ((LIM F.spec_l1Chance [(.rref [(.sl 1 a0_0),(.int .i64 a0_1)] 0),(.int .i64 (4:Int))]).bind fun r149=>((oCons r149.2).bind fun p150=>((oNil p150.2).bind fun _=>((oAgg p150.1).bind fun c151=>((oCons c151).bind fun p152=>((oSl 1 p152.1).bind fun c153=>((oCons p152.2).bind fun p154=>((oInt .i64 p154.1).bind fun n155=>((oNil p154.2).bind fun _=>((oBool r149.1).bind fun b156=>(bif b156 then ((LIM F.spec_l1Next [(.rref [(.sl 1 a0_0),(.int .i64 n155)] 0),(.int .i64 a3)]).bind fun r157=>((oCons r157.2).bind fun p158=>((oNil p158.2).bind fun _=>((oAgg p158.1).bind fun c159=>((oCons c159).bind fun p160=>((oSl 1 p160.1).bind fun c161=>((oCons p160.2).bind fun p162=>((oInt .i64 p162.1).bind fun n163=>((oNil p162.2).bind fun _=>((oInt .i64 r157.1).bind fun n164=>some ((.sl 1 [(.int .i64 (IntKind.wrap .i64 ((-1:Int) - n164)))]),[(.agg [(.sl 1 a0_0),(.int .i64 n163)])]))))))))))) else ((LIM F.spec_l1Next [(.rref [(.sl 1 a0_0),(.int .i64 n155)] 0),(.int .i64 ((((a1_0).length / 2):Nat):Int))]).bind fun r165=>((oCons r165.2).bind fun p166=>((oNil p166.2).bind fun _=>((oAgg p166.1).bind fun c167=>((oCons c167).bind fun p168=>((oSl 1 p168.1).bind fun c169=>((oCons p168.2).bind fun p170=>((oInt .i64 p170.1).bind fun n171=>((oNil p170.2).bind fun _=>((oInt .i64 r165.1).bind fun n172=>(spec_l3Draw.at0 n n (spec_l3Draw.st0 a1_0 a2 a3 ((((a1_0).length / 2):Nat):Int) n172 (0:Int) a0_0 n171)))))))))))))))))))))))) else ((LIM F.spec_l1Next [(.rref [(.sl 1 a0_0),(.int .i64 a0_1)] 0),(.int .i64 ((((a1_0).length / 2):Nat):Int))]).bind fun r173=>((oCons r173.2).bind fun p174=>((oNil p174.2).bind fun _=>((oAgg p174.1).bind fun c175=>((oCons c175).bind fun p176=>((oSl 1 p176.1).bind fun c177=>((oCons p176.2).bind fun p178=>((oInt .i64 p178.1).bind fun n179=>((oNil p178.2).bind fun _=>((oInt .i64 r173.1).bind fun n180=>(spec_l3Draw.at0 n n (spec_l3Draw.st0 a1_0 a2 a3 ((((a1_0).length / 2):Nat):Int) n180 (0:Int) a0_0 n179))))))))))))):=by kernel_rfl
def spec_l3End.st0 (x0 x1:List T) (x2 x3 x4:Int):St:=⟨[(0,(.one (.t (.rref [(.sl 2 x0)] 0)))),(1,ol 1 x1),(2,oi x2),(7,oi x3),(8,oi x4)],[]⟩
noncomputable def spec_l3End.K0 (n:Nat):Ex→St→R:=kx F.spec_l3End n [.block 0,.seq 0 (cx F.spec_l3End [1,1,1,1,1])] (endOf prog A F.spec_l3End)
noncomputable def spec_l3End.at0 (n:Nat) (m:Nat) (s:St):R:=lx F.spec_l3End n 0 [1,1,1,1,0,1,0,0] (spec_l3End.K0 n) m s
noncomputable def spec_l3End.rd0 (n:Nat) (L0:St→R) (s:St):R:=rx F.spec_l3End n 0 [1,1,1,1,0,1,0,0] (spec_l3End.K0 n) L0 s
theorem spec_l3End.next0 (n:Nat) (m:Nat) (s:St):spec_l3End.at0 n (m+1) s=spec_l3End.rd0 n (spec_l3End.at0 n m) s:=nx _ _ _ _ _ _ _
theorem spec_l3End.round0 (n:Nat) (L0:St→R) (x0 x1:List T) (x2 x3 x4:Int):spec_l3End.rd0 n L0 (spec_l3End.st0 x0 x1 x2 x3 x4)=(bif inB x2 ((x1).length / 1) then ((x1[((Int.toNat x2)*1)]?).bind fun e3=>((oInt .i64 e3).bind fun n4=>(bif inB n4 ((x0).length / 2) then ((x0[(((Int.toNat n4)*2)+1)]?).bind fun e5=>((oInt .i64 e5).bind fun n6=>(bif (decide (x4 < n6)) then ((LIM F.spec_l3End [(.rref [(.sl 2 x0)] 0),(.sl 1 x1),(.int .i64 x3)]).bind fun r7=>((oNil r7.2).bind fun _=>((oInt .i64 r7.1).bind fun n8=>(bif (decide (n8 < (0:Int))) then some ((.int .i64 (-1:Int)),[]) else (L0 (spec_l3End.st0 x0 x1 x2 n8 (IntKind.wrap .i64 (x4+(1:Int))))))))) else some ((.int .i64 x3),[])))) else none))) else none):=by kernel_rfl
theorem spec_l3End.ev (n:Nat) (a0_0 a1:List T) (a2:Int):callK prog A H LIM n F.spec_l3End [(.rref [(.sl 2 a0_0)] 0),(.sl 1 a1),(.int .i64 a2)]=(bif (decide (a2 ≥ ((((a1).length / 1):Nat):Int))) then some ((.int .i64 (-1:Int)),[]) else (bif inB a2 ((a1).length / 1) then ((a1[((Int.toNat a2)*1)]?).bind fun e1=>((oInt .i64 e1).bind fun n2=>(bif (decide (n2 < (0:Int))) then some ((.int .i64 (IntKind.wrap .i64 (a2+(1:Int)))),[]) else (spec_l3End.at0 n n (spec_l3End.st0 a0_0 a1 a2 (IntKind.wrap .i64 (a2+(1:Int))) (0:Int)))))) else none)):=by kernel_rfl
def spec_l3Fault.st0 (x0 x1:List T) (x2:Int):St:=⟨[(0,(.one (.t (.rref [(.sl 2 x0)] 0)))),(1,ol 1 x1),(5,oi x2)],[]⟩
noncomputable def spec_l3Fault.K0 (n:Nat):Ex→St→R:=kx F.spec_l3Fault n [.block 0,.seq 0 (cx F.spec_l3Fault [1,1,1])] (endOf prog A F.spec_l3Fault)
noncomputable def spec_l3Fault.at0 (n:Nat) (m:Nat) (s:St):R:=lx F.spec_l3Fault n 0 [1,1,0,1,0,0] (spec_l3Fault.K0 n) m s
noncomputable def spec_l3Fault.rd0 (n:Nat) (L0:St→R) (s:St):R:=rx F.spec_l3Fault n 0 [1,1,0,1,0,0] (spec_l3Fault.K0 n) L0 s
theorem spec_l3Fault.next0 (n:Nat) (m:Nat) (s:St):spec_l3Fault.at0 n (m+1) s=spec_l3Fault.rd0 n (spec_l3Fault.at0 n m) s:=nx _ _ _ _ _ _ _
theorem spec_l3Fault.round0 (n:Nat) (L0:St→R) (x0 x1:List T) (x2:Int):spec_l3Fault.rd0 n L0 (spec_l3Fault.st0 x0 x1 x2)=(bif (decide (x2 < ((((x1).length / 1):Nat):Int))) then (bif inB x2 ((x1).length / 1) then ((x1[((Int.toNat x2)*1)]?).bind fun e1=>((oInt .i64 e1).bind fun n2=>((LIM F.spec_l3Node [(.rref [(.sl 2 x0)] 0),(.int .i64 n2)]).bind fun r3=>((oNil r3.2).bind fun _=>((oBool r3.1).bind fun b4=>(bif (!b4) then some ((.int .i64 (3:Int)),[]) else (L0 (spec_l3Fault.st0 x0 x1 (IntKind.wrap .i64 (x2+(1:Int))))))))))) else none) else ((LIM F.spec_l3End [(.rref [(.sl 2 x0)] 0),(.sl 1 x1),(.int .i64 (0:Int))]).bind fun r5=>((oNil r5.2).bind fun _=>((oInt .i64 r5.1).bind fun n6=>(bif ((n6 != ((((x1).length / 1):Nat):Int))) then some ((.int .i64 (1:Int)),[]) else some ((.int .i64 (0:Int)),[])))))):=by kernel_rfl
theorem spec_l3Fault.ev (n:Nat) (a0_0 a1:List T):callK prog A H LIM n F.spec_l3Fault [(.rref [(.sl 2 a0_0)] 0),(.sl 1 a1)]=(bif (decide (((((a1).length / 1):Nat):Int) < (1:Int))) then some ((.int .i64 (2:Int)),[]) else (bif (decide (((((a1).length / 1):Nat):Int) > (24:Int))) then some ((.int .i64 (2:Int)),[]) else (spec_l3Fault.at0 n n (spec_l3Fault.st0 a0_0 a1 (0:Int))))):=by kernel_rfl
theorem spec_l3Node.ev (n:Nat) (a0_0:List T) (a1:Int):callK prog A H LIM n F.spec_l3Node [(.rref [(.sl 2 a0_0)] 0),(.int .i64 a1)]=((LIM F.spec_l2Symbol [(.rref [(.sl 2 a0_0)] 0),(.int .i64 a1)]).bind fun r1=>((oNil r1.2).bind fun _=>((oBool r1.1).bind fun b2=>(bif b2 then some ((.bool true),[]) else ((LIM F.spec_l1In [(.int .i64 a1),(.int .i64 (-12:Int)),(.int .i64 (-1:Int))]).bind fun r3=>((oNil r3.2).bind fun _=>((oBool r3.1).bind fun b4=>some ((.bool b4),[])))))))):=by kernel_rfl
theorem spec_l3Place.ev (n:Nat) (a0:List T) (a1:Int):callK prog A H LIM n F.spec_l3Place [(.sl 1 a0),(.int .i64 a1)]=((LIM F.spec_l1In [(.int .i64 a1),(.int .i64 (0:Int)),(.int .i64 (IntKind.wrap .i64 (((((a0).length / 1):Nat):Int) - (1:Int))))]).bind fun r1=>((oNil r1.2).bind fun _=>((oBool r1.1).bind fun b2=>some ((.bool b2),[])))):=by kernel_rfl
theorem spec_l3Replace.ev (n:Nat) (a0_0 a1:List T) (a2:Int) (a3:List T):callK prog A H LIM n F.spec_l3Replace [(.rref [(.sl 2 a0_0)] 0),(.sl 1 a1),(.int .i64 a2),(.sl 1 a3)]=(bif decide (0≤(0:Int))&&decide ((0:Int)≤a2)&&decide (a2≤((((a1).length / 1):Nat):Int)) then ((LIM F.spec_l1Ints [(.sl 1 ((a1.take ((Int.toNat a2)*1)).drop (0*1)))]).bind fun r1=>((oNil r1.2).bind fun _=>((oSl 1 r1.1).bind fun c2=>(bif (a3).all T.scalar then (bif Nat.ble (((c2).length+(a3).length)*8) (140737488355328*1) then ((LIM F.spec_l3End [(.rref [(.sl 2 a0_0)] 0),(.sl 1 a1),(.int .i64 a2)]).bind fun r3=>((oNil r3.2).bind fun _=>((oInt .i64 r3.1).bind fun n4=>(bif decide (0≤n4)&&decide (n4≤((((a1).length / 1):Nat):Int))&&decide (((((a1).length / 1):Nat):Int)≤((((a1).length / 1):Nat):Int)) then (bif (((a1.take ((Int.toNat ((((a1).length / 1):Nat):Int))*1)).drop ((Int.toNat n4)*1))).all T.scalar then (bif Nat.ble ((((c2++a3:List T)).length+(((a1.take ((Int.toNat ((((a1).length / 1):Nat):Int))*1)).drop ((Int.toNat n4)*1))).length)*8) (140737488355328*1) then some ((.sl 1 ((c2++a3:List T)++((a1.take ((Int.toNat ((((a1).length / 1):Nat):Int))*1)).drop ((Int.toNat n4)*1)):List T)),[]) else none) else none) else none)))) else none) else none)))) else none):=by kernel_rfl
theorem spec_l3Sub.ev (n:Nat) (a0_0 a1:List T) (a2:Int):callK prog A H LIM n F.spec_l3Sub [(.rref [(.sl 2 a0_0)] 0),(.sl 1 a1),(.int .i64 a2)]=((LIM F.spec_l3End [(.rref [(.sl 2 a0_0)] 0),(.sl 1 a1),(.int .i64 a2)]).bind fun r1=>((oNil r1.2).bind fun _=>((oInt .i64 r1.1).bind fun n2=>(bif decide (0≤a2)&&decide (a2≤n2)&&decide (n2≤((((a1).length / 1):Nat):Int)) then ((LIM F.spec_l1Ints [(.sl 1 ((a1.take ((Int.toNat n2)*1)).drop ((Int.toNat a2)*1)))]).bind fun r3=>((oNil r3.2).bind fun _=>((oSl 1 r3.1).bind fun c4=>some ((.sl 1 c4),[])))) else none)))):=by kernel_rfl
theorem spec_l4BentEquation.ev (n:Nat) (a0_0:List T) (a0_1:Int) (a1_0:List T):callK prog A H LIM n F.spec_l4BentEquation [(.rref [(.sl 1 a0_0),(.int .i64 a0_1)] 0),(.rref [(.sl 2 a1_0)] 0)]=((LIM F.spec_SignatureFault [(.agg [(.sl 2 a1_0)])]).bind fun r1=>((oNil r1.2).bind fun _=>((oInt .i64 r1.1).bind fun n2=>(bif ((n2 != (0:Int))) then some ((.agg [(.sl 1 [(.int .i64 (0:Int))]),(.sl 1 [(.int .i64 (0:Int))])]),[(.agg [(.sl 1 a0_0),(.int .i64 a0_1)])]) else ((LIM F.spec_l1Chance [(.rref [(.sl 1 a0_0),(.int .i64 a0_1)] 0),(.int .i64 (6:Int))]).bind fun r3=>((oCons r3.2).bind fun p4=>((oNil p4.2).bind fun _=>((oAgg p4.1).bind fun c5=>((oCons c5).bind fun p6=>((oSl 1 p6.1).bind fun c7=>((oCons p6.2).bind fun p8=>((oInt .i64 p8.1).bind fun n9=>((oNil p8.2).bind fun _=>((oBool r3.1).bind fun b10=>(bif b10 then ((LIM F.spec_l3BentTerm [(.rref [(.sl 1 a0_0),(.int .i64 n9)] 0),(.rref [(.sl 2 a1_0)] 0),(.int .i64 (9:Int)),(.int .i64 (7:Int))]).bind fun r11=>((oCons r11.2).bind fun p12=>((oNil p12.2).bind fun _=>((oAgg p12.1).bind fun c13=>((oCons c13).bind fun p14=>((oSl 1 p14.1).bind fun c15=>((oCons p14.2).bind fun p16=>((oInt .i64 p16.1).bind fun n17=>((oNil p16.2).bind fun _=>((oSl 1 r11.1).bind fun c18=>((LIM F.spec_l3BentTerm [(.rref [(.sl 1 a0_0),(.int .i64 n17)] 0),(.rref [(.sl 2 a1_0)] 0),(.int .i64 (5:Int)),(.int .i64 (12:Int))]).bind fun r19=>((oCons r19.2).bind fun p20=>((oNil p20.2).bind fun _=>((oAgg p20.1).bind fun c21=>((oCons c21).bind fun p22=>((oSl 1 p22.1).bind fun c23=>((oCons p22.2).bind fun p24=>((oInt .i64 p24.1).bind fun n25=>((oNil p24.2).bind fun _=>((oSl 1 r19.1).bind fun c26=>some ((.agg [(.sl 1 c18),(.sl 1 c26)]),[(.agg [(.sl 1 a0_0),(.int .i64 n25)])]))))))))))))))))))))) else ((LIM F.spec_l4Draw [(.rref [(.sl 1 a0_0),(.int .i64 n9)] 0),(.rref [(.sl 2 a1_0)] 0)]).bind fun r27=>((oCons r27.2).bind fun p28=>((oNil p28.2).bind fun _=>((oAgg p28.1).bind fun c29=>((oCons c29).bind fun p30=>((oSl 1 p30.1).bind fun c31=>((oCons p30.2).bind fun p32=>((oInt .i64 p32.1).bind fun n33=>((oNil p32.2).bind fun _=>((oAgg r27.1).bind fun c34=>((oCons c34).bind fun p35=>((oSl 1 p35.1).bind fun c36=>((oCons p35.2).bind fun p37=>((oSl 1 p37.1).bind fun c38=>((oNil p37.2).bind fun _=>some ((.agg [(.sl 1 c36),(.sl 1 c38)]),[(.agg [(.sl 1 a0_0),(.int .i64 n33)])]))))))))))))))))))))))))))))))):=by kernel_rfl
theorem spec_l4Draw.ev (n:Nat) (a0_0:List T) (a0_1:Int) (a1_0:List T):callK prog A H LIM n F.spec_l4Draw [(.rref [(.sl 1 a0_0),(.int .i64 a0_1)] 0),(.rref [(.sl 2 a1_0)] 0)]=((LIM F.spec_l1Chance [(.rref [(.sl 1 a0_0),(.int .i64 a0_1)] 0),(.int .i64 (4:Int))]).bind fun r1=>((oCons r1.2).bind fun p2=>((oNil p2.2).bind fun _=>((oAgg p2.1).bind fun c3=>((oCons c3).bind fun p4=>((oSl 1 p4.1).bind fun c5=>((oCons p4.2).bind fun p6=>((oInt .i64 p6.1).bind fun n7=>((oNil p6.2).bind fun _=>((oBool r1.1).bind fun b8=>(bif b8 then ((LIM F.spec_l1Pick [(.rref [(.sl 1 a0_0),(.int .i64 n7)] 0),(.sl 1 [(.int .i64 (4:Int)),(.int .i64 (7:Int)),(.int .i64 (9:Int))])]).bind fun r9=>((oCons r9.2).bind fun p10=>((oNil p10.2).bind fun _=>((oAgg p10.1).bind fun c11=>((oCons c11).bind fun p12=>((oSl 1 p12.1).bind fun c13=>((oCons p12.2).bind fun p14=>((oInt .i64 p14.1).bind fun n15=>((oNil p14.2).bind fun _=>((oInt .i64 r9.1).bind fun n16=>((LIM F.spec_l3Draw [(.rref [(.sl 1 a0_0),(.int .i64 n15)] 0),(.rref [(.sl 2 a1_0)] 0),(.int .i64 n16),(.int .i64 (3:Int))]).bind fun r17=>((oCons r17.2).bind fun p18=>((oNil p18.2).bind fun _=>((oAgg p18.1).bind fun c19=>((oCons c19).bind fun p20=>((oSl 1 p20.1).bind fun c21=>((oCons p20.2).bind fun p22=>((oInt .i64 p22.1).bind fun n23=>((oNil p22.2).bind fun _=>((oSl 1 r17.1).bind fun c24=>((LIM F.spec_l1Pick [(.rref [(.sl 1 a0_0),(.int .i64 n23)] 0),(.sl 1 [(.int .i64 (1:Int)),(.int .i64 (3:Int)),(.int .i64 (5:Int))])]).bind fun r25=>((oCons r25.2).bind fun p26=>((oNil p26.2).bind fun _=>((oAgg p26.1).bind fun c27=>((oCons c27).bind fun p28=>((oSl 1 p28.1).bind fun c29=>((oCons p28.2).bind fun p30=>((oInt .i64 p30.1).bind fun n31=>((oNil p30.2).bind fun _=>((oInt .i64 r25.1).bind fun n32=>((LIM F.spec_l3Draw [(.rref [(.sl 1 a0_0),(.int .i64 n31)] 0),(.rref [(.sl 2 a1_0)] 0),(.int .i64 n32),(.int .i64 (3:Int))]).bind fun r33=>((oCons r33.2).bind fun p34=>((oNil p34.2).bind fun _=>((oAgg p34.1).bind fun c35=>((oCons c35).bind fun p36=>((oSl 1 p36.1).bind fun c37=>((oCons p36.2).bind fun p38=>((oInt .i64 p38.1).bind fun n39=>((oNil p38.2).bind fun _=>((oSl 1 r33.1).bind fun c40=>some ((.agg [(.sl 1 c24),(.sl 1 c40)]),[(.agg [(.sl 1 a0_0),(.int .i64 n39)])]))))))))))))))))))))))))))))))))))))))))) else ((LIM F.spec_l4Pool [(.rref [(.sl 1 a0_0),(.int .i64 n7)] 0),(.rref [(.sl 2 a1_0)] 0)]).bind fun r41=>((oCons r41.2).bind fun p42=>((oNil p42.2).bind fun _=>((oAgg p42.1).bind fun c43=>((oCons c43).bind fun p44=>((oSl 1 p44.1).bind fun c45=>((oCons p44.2).bind fun p46=>((oInt .i64 p46.1).bind fun n47=>((oNil p46.2).bind fun _=>((oAgg r41.1).bind fun c48=>((oCons c48).bind fun p49=>((oSl 1 p49.1).bind fun c50=>((oCons p49.2).bind fun p51=>((oSl 1 p51.1).bind fun c52=>((oNil p51.2).bind fun _=>some ((.agg [(.sl 1 c50),(.sl 1 c52)]),[(.agg [(.sl 1 a0_0),(.int .i64 n47)])]))))))))))))))))))))))))))):=by kernel_rfl
theorem spec_l4Fault.ev (n:Nat) (a0_0 a1_0 a1_1:List T):callK prog A H LIM n F.spec_l4Fault [(.rref [(.sl 2 a0_0)] 0),(.rref [(.sl 1 a1_0),(.sl 1 a1_1)] 0)]=((LIM F.spec_l3Fault [(.rref [(.sl 2 a0_0)] 0),(.sl 1 a1_0)]).bind fun r1=>((oNil r1.2).bind fun _=>((oInt .i64 r1.1).bind fun n2=>(bif ((n2 != (0:Int))) then some ((.int .i64 n2),[]) else ((LIM F.spec_l3Fault [(.rref [(.sl 2 a0_0)] 0),(.sl 1 a1_1)]).bind fun r3=>((oNil r3.2).bind fun _=>((oInt .i64 r3.1).bind fun n4=>(bif ((n4 != (0:Int))) then some ((.int .i64 n4),[]) else ((LIM F.spec_l4Low [(.sl 1 a1_0)]).bind fun r5=>((oNil r5.2).bind fun _=>((oBool r5.1).bind fun b6=>(bif (!b6) then some ((.int .i64 (3:Int)),[]) else ((LIM F.spec_l4Low [(.sl 1 a1_1)]).bind fun r7=>((oNil r7.2).bind fun _=>((oBool r7.1).bind fun b8=>(bif (!b8) then some ((.int .i64 (3:Int)),[]) else some ((.int .i64 (0:Int)),[]))))))))))))))))):=by kernel_rfl
def spec_l4Low.st0 (x0:List T) (x1:Int):St:=⟨[(0,ol 1 x0),(3,oi x1)],[]⟩
noncomputable def spec_l4Low.K0 (n:Nat):Ex→St→R:=kx F.spec_l4Low n [.block 0,.seq 0 (cx F.spec_l4Low [1,1])] (endOf prog A F.spec_l4Low)
noncomputable def spec_l4Low.at0 (n:Nat) (m:Nat) (s:St):R:=lx F.spec_l4Low n 0 [1,0,1,0,0] (spec_l4Low.K0 n) m s
noncomputable def spec_l4Low.rd0 (n:Nat) (L0:St→R) (s:St):R:=rx F.spec_l4Low n 0 [1,0,1,0,0] (spec_l4Low.K0 n) L0 s
theorem spec_l4Low.next0 (n:Nat) (m:Nat) (s:St):spec_l4Low.at0 n (m+1) s=spec_l4Low.rd0 n (spec_l4Low.at0 n m) s:=nx _ _ _ _ _ _ _
theorem spec_l4Low.round0 (n:Nat) (L0:St→R) (x0:List T) (x1:Int):spec_l4Low.rd0 n L0 (spec_l4Low.st0 x0 x1)=(bif (decide (x1 < ((((x0).length / 1):Nat):Int))) then (bif inB x1 ((x0).length / 1) then ((x0[((Int.toNat x1)*1)]?).bind fun e1=>((oInt .i64 e1).bind fun n2=>(bif (decide (n2 < (-6:Int))) then some ((.bool false),[]) else (L0 (spec_l4Low.st0 x0 (IntKind.wrap .i64 (x1+(1:Int)))))))) else none) else some ((.bool true),[])):=by kernel_rfl
theorem spec_l4Low.ev (n:Nat) (a0:List T):callK prog A H LIM n F.spec_l4Low [(.sl 1 a0)]=(spec_l4Low.at0 n n (spec_l4Low.st0 a0 (0:Int))):=by kernel_rfl
def spec_l4Nodes.st3 (x0:List T) (x1:ByteArray) (x2 x3:Int) (x4:List T):St:=⟨[(0,(.one (.t (.rref [(.sl 2 x0)] 0)))),(1,(.one (.t (.str x1)))),(6,(.one (.obj 704))),(7,oi x2),(9,oi x3)],[(704,(.arr true true 1 x4))]⟩
def spec_l4Nodes.st0 (x0:List T) (x1:ByteArray) (x2:Int) (x3:List T):St:=⟨[(0,(.one (.t (.rref [(.sl 2 x0)] 0)))),(1,(.one (.t (.str x1)))),(6,(.one (.obj 704))),(7,oi x2)],[(704,(.arr true true 1 x3))]⟩
noncomputable def spec_l4Nodes.K0 (n:Nat):Ex→St→R:=kx F.spec_l4Nodes n [.block 0,.seq 0 (cx F.spec_l4Nodes [1,1,1,1])] (endOf prog A F.spec_l4Nodes)
noncomputable def spec_l4Nodes.at0 (n:Nat) (m:Nat) (s:St):R:=lx F.spec_l4Nodes n 0 [1,1,1,0,0,0] (spec_l4Nodes.K0 n) m s
noncomputable def spec_l4Nodes.rd0 (n:Nat) (L0:St→R) (s:St):R:=rx F.spec_l4Nodes n 0 [1,1,1,0,0,0] (spec_l4Nodes.K0 n) L0 s
theorem spec_l4Nodes.next0 (n:Nat) (m:Nat) (s:St):spec_l4Nodes.at0 n (m+1) s=spec_l4Nodes.rd0 n (spec_l4Nodes.at0 n m) s:=nx _ _ _ _ _ _ _
noncomputable def spec_l4Nodes.K3 (n:Nat) (L0:St→R):Ex→St→R:=kx F.spec_l4Nodes n [.block 3,.seq 2 (cx F.spec_l4Nodes [1,1,1,0,0,0,1,0,1,0,1,1,1,1,1,0,1,1]),.block 2,.block 1] (bx F.spec_l4Nodes 0 (spec_l4Nodes.K0 n) L0)
noncomputable def spec_l4Nodes.at3 (n:Nat) (L0:St→R) (m:Nat) (s:St):R:=lx F.spec_l4Nodes n 3 [1,1,1,0,0,0,1,0,1,0,1,1,1,1,1,0,1,0,0,0] (spec_l4Nodes.K3 n L0) m s
noncomputable def spec_l4Nodes.rd3 (n:Nat) (L0:St→R) (L3:St→R) (s:St):R:=rx F.spec_l4Nodes n 3 [1,1,1,0,0,0,1,0,1,0,1,1,1,1,1,0,1,0,0,0] (spec_l4Nodes.K3 n L0) L3 s
theorem spec_l4Nodes.next3 (n:Nat) (L0:St→R) (m:Nat) (s:St):spec_l4Nodes.at3 n L0 (m+1) s=spec_l4Nodes.rd3 n L0 (spec_l4Nodes.at3 n L0 m) s:=nx _ _ _ _ _ _ _
theorem spec_l4Nodes.round0 (n:Nat) (L0:St→R) (x0:List T) (x1:ByteArray) (x2:Int) (x3:List T):spec_l4Nodes.rd0 n L0 (spec_l4Nodes.st0 x0 x1 x2 x3)=(bif (decide (x2 < (x1.size:Int))) then (bif inB x2 x1.size then (bif ((((x1.data.getD (Int.toNat x2) 0).toNat:Int) == (40:Int))) then (L0 (spec_l4Nodes.st0 x0 x1 (IntKind.wrap .i64 (x2+(1:Int))) x3)) else (bif ((((x1.data.getD (Int.toNat x2) 0).toNat:Int) == (41:Int))) then (L0 (spec_l4Nodes.st0 x0 x1 (IntKind.wrap .i64 (x2+(1:Int))) x3)) else (bif ((((x1.data.getD (Int.toNat x2) 0).toNat:Int) == (44:Int))) then (L0 (spec_l4Nodes.st0 x0 x1 (IntKind.wrap .i64 (x2+(1:Int))) x3)) else (bif (decide (((x1.data.getD (Int.toNat x2) 0).toNat:Int) ≥ (65:Int))) then (bif (decide (((x1.data.getD (Int.toNat x2) 0).toNat:Int) < (77:Int))) then (bif Nat.ble (((x3).length+1)*8) (140737488355328*1) then (L0 (spec_l4Nodes.st0 x0 x1 (IntKind.wrap .i64 (x2+(1:Int))) (x3++[(.int .i64 (IntKind.wrap .i64 ((-1:Int) - (IntKind.wrap .i64 (IntKind.wrap .u8 (((x1.data.getD (Int.toNat x2) 0).toNat:Int) - (65:Int)))))))]:List T))) else none) else (bif (decide (((x1.data.getD (Int.toNat x2) 0).toNat:Int) ≥ (97:Int))) then (bif (decide (((x1.data.getD (Int.toNat x2) 0).toNat:Int)≤(122:Int))) then (spec_l4Nodes.at3 n L0 n (spec_l4Nodes.st3 x0 x1 x2 x2 x3)) else some ((.tup [(.sl 1 []),(.bool false)]),[])) else some ((.tup [(.sl 1 []),(.bool false)]),[]))) else (bif (decide (((x1.data.getD (Int.toNat x2) 0).toNat:Int) ≥ (97:Int))) then (bif (decide (((x1.data.getD (Int.toNat x2) 0).toNat:Int)≤(122:Int))) then (spec_l4Nodes.at3 n L0 n (spec_l4Nodes.st3 x0 x1 x2 x2 x3)) else some ((.tup [(.sl 1 []),(.bool false)]),[])) else some ((.tup [(.sl 1 []),(.bool false)]),[])))))) else none) else some ((.tup [(.sl 1 x3),(.bool true)]),[])):=by kernel_rfl
theorem spec_l4Nodes.round3 (n:Nat) (L0:St→R) (L3:St→R) (x0:List T) (x1:ByteArray) (x2 x3:Int) (x4:List T):spec_l4Nodes.rd3 n L0 L3 (spec_l4Nodes.st3 x0 x1 x2 x3 x4)=(bif (decide (x3 < (x1.size:Int))) then (bif inB x3 x1.size then (bif (decide (((x1.data.getD (Int.toNat x3) 0).toNat:Int) ≥ (97:Int))) then (bif inB x3 x1.size then (bif (decide (((x1.data.getD (Int.toNat x3) 0).toNat:Int)≤(122:Int))) then (L3 (spec_l4Nodes.st3 x0 x1 x2 (IntKind.wrap .i64 (x3+(1:Int))) x4)) else (bif decide (0≤x2)&&decide (x2≤x3)&&decide (x3≤(x1.size:Int)) then ((LIM F.spec_l2Find [(.rref [(.sl 2 x0)] 0),(.str (x1.extract (Int.toNat x2) (Int.toNat x3)))]).bind fun r1=>((oNil r1.2).bind fun _=>((oInt .i64 r1.1).bind fun n2=>(bif (decide (n2 < (0:Int))) then some ((.tup [(.sl 1 []),(.bool false)]),[]) else (bif Nat.ble (((x4).length+1)*8) (140737488355328*1) then (L0 (spec_l4Nodes.st0 x0 x1 x3 (x4++[(.int .i64 n2)]:List T))) else none))))) else none)) else none) else (bif decide (0≤x2)&&decide (x2≤x3)&&decide (x3≤(x1.size:Int)) then ((LIM F.spec_l2Find [(.rref [(.sl 2 x0)] 0),(.str (x1.extract (Int.toNat x2) (Int.toNat x3)))]).bind fun r3=>((oNil r3.2).bind fun _=>((oInt .i64 r3.1).bind fun n4=>(bif (decide (n4 < (0:Int))) then some ((.tup [(.sl 1 []),(.bool false)]),[]) else (bif Nat.ble (((x4).length+1)*8) (140737488355328*1) then (L0 (spec_l4Nodes.st0 x0 x1 x3 (x4++[(.int .i64 n4)]:List T))) else none))))) else none)) else none) else (bif decide (0≤x2)&&decide (x2≤x3)&&decide (x3≤(x1.size:Int)) then ((LIM F.spec_l2Find [(.rref [(.sl 2 x0)] 0),(.str (x1.extract (Int.toNat x2) (Int.toNat x3)))]).bind fun r5=>((oNil r5.2).bind fun _=>((oInt .i64 r5.1).bind fun n6=>(bif (decide (n6 < (0:Int))) then some ((.tup [(.sl 1 []),(.bool false)]),[]) else (bif Nat.ble (((x4).length+1)*8) (140737488355328*1) then (L0 (spec_l4Nodes.st0 x0 x1 x3 (x4++[(.int .i64 n6)]:List T))) else none))))) else none)):=by kernel_rfl
theorem spec_l4Nodes.ev (n:Nat) (a0_0:List T) (a1:ByteArray):callK prog A H LIM n F.spec_l4Nodes [(.rref [(.sl 2 a0_0)] 0),(.str a1)]=(spec_l4Nodes.at0 n n (spec_l4Nodes.st0 a0_0 a1 (0:Int) [])):=by kernel_rfl
def spec_l4Pool.st0 (x0:List T) (x1 x2 x3:Int) (x4:List T) (x5:Int) (x6:List T):St:=⟨[(0,(.one (.ptr 1000000 0))),(1,(.one (.t (.rref [(.sl 2 x0)] 0)))),(4,(.one (.ptr 256 0))),(5,(.one (.obj 640))),(6,oi x1),(7,oi x2),(8,oi x3)],[(1000000,(.box [(.kept 0 (.sl 1 x4)),(.t (.int .i64 x5))])),(256,(.box [.nil,.nil])),(640,(.arr true true 1 x6))]⟩
noncomputable def spec_l4Pool.K0 (n:Nat):Ex→St→R:=kx F.spec_l4Pool n [.block 0,.seq 0 (cx F.spec_l4Pool [1,1,1,1,1])] (endOf prog A F.spec_l4Pool)
noncomputable def spec_l4Pool.at0 (n:Nat) (m:Nat) (s:St):R:=lx F.spec_l4Pool n 0 [1,1,1,1,0,1,0,0] (spec_l4Pool.K0 n) m s
noncomputable def spec_l4Pool.rd0 (n:Nat) (L0:St→R) (s:St):R:=rx F.spec_l4Pool n 0 [1,1,1,1,0,1,0,0] (spec_l4Pool.K0 n) L0 s
theorem spec_l4Pool.next0 (n:Nat) (m:Nat) (s:St):spec_l4Pool.at0 n (m+1) s=spec_l4Pool.rd0 n (spec_l4Pool.at0 n m) s:=nx _ _ _ _ _ _ _
theorem spec_l4Pool.round0 (n:Nat) (L0:St→R) (x0:List T) (x1 x2 x3:Int) (x4:List T) (x5:Int) (x6:List T):spec_l4Pool.rd0 n L0 (spec_l4Pool.st0 x0 x1 x2 x3 x4 x5 x6)=(bif (decide (x3 < x1)) then (bif decide (x1=0) then none else (bif inB (Int.tmod (IntKind.wrap .i64 (x2+x3)) x1) ((x6).length / 1) then ((x6[((Int.toNat (Int.tmod (IntKind.wrap .i64 (x2+x3)) x1))*1)]?).bind fun e9=>((oStr e9).bind fun s10=>((LIM F.spec_ReadEquation [(.agg [(.sl 2 x0)]),(.str s10)]).bind fun r11=>((oNil r11.2).bind fun _=>((oAgg r11.1).bind fun c12=>((oCons c12).bind fun p13=>((oInt .i64 p13.1).bind fun n14=>((oCons p13.2).bind fun p15=>((oSl 1 p15.1).bind fun c16=>((oCons p15.2).bind fun p17=>((oSl 1 p17.1).bind fun c18=>((oNil p17.2).bind fun _=>(bif ((n14 == (0:Int))) then some ((.agg [(.sl 1 c16),(.sl 1 c18)]),[(.agg [(.sl 1 x4),(.int .i64 x5)])]) else (L0 (spec_l4Pool.st0 x0 x1 x2 (IntKind.wrap .i64 (x3+(1:Int))) x4 x5 x6))))))))))))))) else none)) else ((LIM F.spec_l3Draw [(.rref [(.sl 1 x4),(.int .i64 x5)] 0),(.rref [(.sl 2 x0)] 0),(.int .i64 (4:Int)),(.int .i64 (2:Int))]).bind fun r19=>((oCons r19.2).bind fun p20=>((oNil p20.2).bind fun _=>((oAgg p20.1).bind fun c21=>((oCons c21).bind fun p22=>((oSl 1 p22.1).bind fun c23=>((oCons p22.2).bind fun p24=>((oInt .i64 p24.1).bind fun n25=>((oNil p24.2).bind fun _=>((oSl 1 r19.1).bind fun c26=>((LIM F.spec_l3Draw [(.rref [(.sl 1 x4),(.int .i64 n25)] 0),(.rref [(.sl 2 x0)] 0),(.int .i64 (2:Int)),(.int .i64 (2:Int))]).bind fun r27=>((oCons r27.2).bind fun p28=>((oNil p28.2).bind fun _=>((oAgg p28.1).bind fun c29=>((oCons c29).bind fun p30=>((oSl 1 p30.1).bind fun c31=>((oCons p30.2).bind fun p32=>((oInt .i64 p32.1).bind fun n33=>((oNil p32.2).bind fun _=>((oSl 1 r27.1).bind fun c34=>some ((.agg [(.sl 1 c26),(.sl 1 c34)]),[(.agg [(.sl 1 x4),(.int .i64 n33)])])))))))))))))))))))))):=by kernel_rfl
theorem spec_l4Pool.ev (n:Nat) (a0_0:List T) (a0_1:Int) (a1_0:List T):callK prog A H LIM n F.spec_l4Pool [(.rref [(.sl 1 a0_0),(.int .i64 a0_1)] 0),(.rref [(.sl 2 a1_0)] 0)]=((LIM F.spec_l1Next [(.rref [(.sl 1 a0_0),(.int .i64 a0_1)] 0),(.int .i64 (18:Int))]).bind fun r1=>((oCons r1.2).bind fun p2=>((oNil p2.2).bind fun _=>((oAgg p2.1).bind fun c3=>((oCons c3).bind fun p4=>((oSl 1 p4.1).bind fun c5=>((oCons p4.2).bind fun p6=>((oInt .i64 p6.1).bind fun n7=>((oNil p6.2).bind fun _=>((oInt .i64 r1.1).bind fun n8=>(spec_l4Pool.at0 n n (spec_l4Pool.st0 a1_0 (18:Int) n8 (0:Int) a0_0 n7 [(.str (ByteArray.mk #[109,40,101,44,65,41,61,65])),(.str (ByteArray.mk #[109,40,65,44,101,41,61,65])),(.str (ByteArray.mk #[109,40,105,40,65,41,44,65,41,61,101])),(.str (ByteArray.mk #[105,40,105,40,65,41,41,61,65])),(.str (ByteArray.mk #[105,40,101,41,61,101])),(.str (ByteArray.mk #[97,100,100,40,97,44,65,41,61,65])),(.str (ByteArray.mk #[97,100,100,40,115,117,99,40,65,41,44,66,41,61,115,117,99,40,97,100,100,40,65,44,66,41,41])),(.str (ByteArray.mk #[102,40,103,40,65,41,41,61,65])),(.str (ByteArray.mk #[102,40,102,40,65,41,41,61,65])),(.str (ByteArray.mk #[103,40,102,40,97,41,41,61,97])),(.str (ByteArray.mk #[109,40,109,40,65,44,66,41,44,67,41,61,109,40,65,44,109,40,66,44,67,41,41])),(.str (ByteArray.mk #[115,117,99,40,115,117,99,40,65,41,41,61,65])),(.str (ByteArray.mk #[98,61,97])),(.str (ByteArray.mk #[109,40,97,44,97,41,61,97])),(.str (ByteArray.mk #[97,100,100,40,65,44,98,41,61,65])),(.str (ByteArray.mk #[115,117,99,40,98,41,61,97])),(.str (ByteArray.mk #[102,40,102,40,102,40,97,41,41,41,61,97])),(.str (ByteArray.mk #[105,40,109,40,65,44,66,41,41,61,109,40,105,40,66,41,44,105,40,65,41,41]))])))))))))))):=by kernel_rfl
theorem spec_l4Read.ev (n:Nat) (a0_0:List T) (a1:ByteArray):callK prog A H LIM n F.spec_l4Read [(.rref [(.sl 2 a0_0)] 0),(.str a1)]=(bif (decide ((a1.size:Int) > (168:Int))) then some ((.sl 1 []),[]) else ((LIM F.spec_l4Nodes [(.rref [(.sl 2 a0_0)] 0),(.str a1)]).bind fun r1=>((oNil r1.2).bind fun _=>((oTup r1.1).bind fun c2=>((oCons c2).bind fun p3=>((oSl 1 p3.1).bind fun c4=>((oCons p3.2).bind fun p5=>((oBool p5.1).bind fun b6=>((oNil p5.2).bind fun _=>(bif (!b6) then some ((.sl 1 []),[]) else ((LIM F.spec_l3Fault [(.rref [(.sl 2 a0_0)] 0),(.sl 1 c4)]).bind fun r7=>((oNil r7.2).bind fun _=>((oInt .i64 r7.1).bind fun n8=>(bif ((n8 != (0:Int))) then some ((.sl 1 []),[]) else ((LIM F.spec_l4Text [(.rref [(.sl 2 a0_0)] 0),(.sl 1 c4),(.int .i64 (0:Int))]).bind fun r9=>((oNil r9.2).bind fun _=>((oStr r9.1).bind fun s10=>(bif (!(s10.toList == a1.toList)) then some ((.sl 1 []),[]) else some ((.sl 1 c4),[]))))))))))))))))))):=by kernel_rfl
def spec_l4Text.st0 (x0 x1:List T) (x2:ByteArray) (x3 x4:Int) (x5:ByteArray) (x6:Int):St:=⟨[(0,(.one (.t (.rref [(.sl 2 x0)] 0)))),(1,ol 1 x1),(7,(.one (.ptr 448 0))),(8,(.one (.t (.str x2)))),(9,oi x3),(10,oi x4)],[(448,(.box [(.t (.str x5)),(.t (.int .i64 x6))]))]⟩
noncomputable def spec_l4Text.K0 (n:Nat):Ex→St→R:=kx F.spec_l4Text n [.block 0,.seq 0 (cx F.spec_l4Text [1,1,1,1,1,1,1])] (endOf prog A F.spec_l4Text)
noncomputable def spec_l4Text.at0 (n:Nat) (m:Nat) (s:St):R:=lx F.spec_l4Text n 0 [1,1,1,1,1,1,0,1,0,0] (spec_l4Text.K0 n) m s
noncomputable def spec_l4Text.rd0 (n:Nat) (L0:St→R) (s:St):R:=rx F.spec_l4Text n 0 [1,1,1,1,1,1,0,1,0,0] (spec_l4Text.K0 n) L0 s
theorem spec_l4Text.next0 (n:Nat) (m:Nat) (s:St):spec_l4Text.at0 n (m+1) s=spec_l4Text.rd0 n (spec_l4Text.at0 n m) s:=nx _ _ _ _ _ _ _
theorem spec_l4Text.round0 (n:Nat) (L0:St→R) (x0 x1:List T) (x2:ByteArray) (x3 x4:Int) (x5:ByteArray) (x6:Int):spec_l4Text.rd0 n L0 (spec_l4Text.st0 x0 x1 x2 x3 x4 x5 x6)=(bif (decide (x4 < x6)) then (bif (decide (x4 > (0:Int))) then (bif decide (x2.size+(ByteArray.mk #[44]).size≤9223372036854775807) then ((LIM F.spec_l4Text [(.rref [(.sl 2 x0)] 0),(.sl 1 x1),(.int .i64 x3)]).bind fun r11=>((oNil r11.2).bind fun _=>((oStr r11.1).bind fun s12=>(bif decide ((x2++(ByteArray.mk #[44])).size+s12.size≤9223372036854775807) then ((LIM F.spec_l3End [(.rref [(.sl 2 x0)] 0),(.sl 1 x1),(.int .i64 x3)]).bind fun r13=>((oNil r13.2).bind fun _=>((oInt .i64 r13.1).bind fun n14=>(L0 (spec_l4Text.st0 x0 x1 ((x2++(ByteArray.mk #[44]))++s12) n14 (IntKind.wrap .i64 (x4+(1:Int))) x5 x6))))) else none)))) else none) else ((LIM F.spec_l4Text [(.rref [(.sl 2 x0)] 0),(.sl 1 x1),(.int .i64 x3)]).bind fun r15=>((oNil r15.2).bind fun _=>((oStr r15.1).bind fun s16=>(bif decide (x2.size+s16.size≤9223372036854775807) then ((LIM F.spec_l3End [(.rref [(.sl 2 x0)] 0),(.sl 1 x1),(.int .i64 x3)]).bind fun r17=>((oNil r17.2).bind fun _=>((oInt .i64 r17.1).bind fun n18=>(L0 (spec_l4Text.st0 x0 x1 (x2++s16) n18 (IntKind.wrap .i64 (x4+(1:Int))) x5 x6))))) else none))))) else (bif decide (x2.size+(ByteArray.mk #[41]).size≤9223372036854775807) then some ((.str (x2++(ByteArray.mk #[41]))),[]) else none)):=by kernel_rfl
theorem spec_l4Text.ev (n:Nat) (a0_0 a1:List T) (a2:Int):callK prog A H LIM n F.spec_l4Text [(.rref [(.sl 2 a0_0)] 0),(.sl 1 a1),(.int .i64 a2)]=(bif inB a2 ((a1).length / 1) then ((a1[((Int.toNat a2)*1)]?).bind fun e1=>((oInt .i64 e1).bind fun n2=>(bif (decide (n2 < (0:Int))) then (bif inB a2 ((a1).length / 1) then ((a1[((Int.toNat a2)*1)]?).bind fun e3=>((oInt .i64 e3).bind fun n4=>some ((.str (List.foldl (fun r n=>ByteArray.push r (UInt8.ofNat (Int.toNat n))) ByteArray.empty [(IntKind.wrap .u8 (IntKind.wrap .i64 ((64:Int) - n4)))])),[]))) else none) else (bif inB a2 ((a1).length / 1) then ((a1[((Int.toNat a2)*1)]?).bind fun e5=>((oInt .i64 e5).bind fun n6=>(bif inB n6 ((a0_0).length / 2) then ((a0_0[((Int.toNat n6)*2)]?).bind fun e7=>((oStr e7).bind fun s8=>((a0_0[(((Int.toNat n6)*2)+1)]?).bind fun e9=>((oInt .i64 e9).bind fun n10=>(bif ((n10 == (0:Int))) then some ((.str s8),[]) else (bif decide (s8.size+(ByteArray.mk #[40]).size≤9223372036854775807) then (spec_l4Text.at0 n n (spec_l4Text.st0 a0_0 a1 (s8++(ByteArray.mk #[40])) (IntKind.wrap .i64 (a2+(1:Int))) (0:Int) s8 n10)) else none)))))) else none))) else none)))) else none):=by kernel_rfl
def spec_l5BentList.st0 (x0:List T) (x1:Int) (x2:List T) (x3:Int) (x4:List T):St:=⟨[(0,(.one (.ptr 1000000 0))),(1,(.one (.t (.rref [(.sl 2 x0)] 0)))),(5,(.one (.obj 960))),(6,oi x1)],[(1000000,(.box [(.kept 0 (.sl 1 x2)),(.t (.int .i64 x3))])),(960,(.arr true true 2 x4))]⟩
noncomputable def spec_l5BentList.K0 (n:Nat):Ex→St→R:=kx F.spec_l5BentList n [.block 0,.seq 0 (cx F.spec_l5BentList [1,1,0,1,0,1,1]),.seq 0 (cx F.spec_l5BentList [1,1,1])] (endOf prog A F.spec_l5BentList)
noncomputable def spec_l5BentList.at0 (n:Nat) (m:Nat) (s:St):R:=lx F.spec_l5BentList n 0 [1,1,0,1,0,1,0,1,0,0] (spec_l5BentList.K0 n) m s
noncomputable def spec_l5BentList.rd0 (n:Nat) (L0:St→R) (s:St):R:=rx F.spec_l5BentList n 0 [1,1,0,1,0,1,0,1,0,0] (spec_l5BentList.K0 n) L0 s
theorem spec_l5BentList.next0 (n:Nat) (m:Nat) (s:St):spec_l5BentList.at0 n (m+1) s=spec_l5BentList.rd0 n (spec_l5BentList.at0 n m) s:=nx _ _ _ _ _ _ _
theorem spec_l5BentList.round0 (n:Nat) (L0:St→R) (x0:List T) (x1:Int) (x2:List T) (x3:Int) (x4:List T):spec_l5BentList.rd0 n L0 (spec_l5BentList.st0 x0 x1 x2 x3 x4)=(bif (decide (x1 > (0:Int))) then ((LIM F.spec_l4Draw [(.rref [(.sl 1 x2),(.int .i64 x3)] 0),(.rref [(.sl 2 x0)] 0)]).bind fun r19=>((oCons r19.2).bind fun p20=>((oNil p20.2).bind fun _=>((oAgg p20.1).bind fun c21=>((oCons c21).bind fun p22=>((oSl 1 p22.1).bind fun c23=>((oCons p22.2).bind fun p24=>((oInt .i64 p24.1).bind fun n25=>((oNil p24.2).bind fun _=>((oAgg r19.1).bind fun c26=>((oCons c26).bind fun p27=>((oSl 1 p27.1).bind fun c28=>((oCons p27.2).bind fun p29=>((oSl 1 p29.1).bind fun c30=>((oNil p29.2).bind fun _=>(bif Nat.ble (((x4).length+2)*48) (140737488355328*2) then (L0 (spec_l5BentList.st0 x0 (IntKind.wrap .i64 (x1 - (1:Int))) x2 n25 (x4++[(.sl 1 c28),(.sl 1 c30)]:List T))) else none)))))))))))))))) else some ((.sl 2 x4),[(.agg [(.sl 1 x2),(.int .i64 x3)])])):=by kernel_rfl
theorem spec_l5BentList.ev (n:Nat) (a0_0:List T) (a0_1:Int) (a1_0:List T):callK prog A H LIM n F.spec_l5BentList [(.rref [(.sl 1 a0_0),(.int .i64 a0_1)] 0),(.rref [(.sl 2 a1_0)] 0)]=((LIM F.spec_SignatureFault [(.agg [(.sl 2 a1_0)])]).bind fun r1=>((oNil r1.2).bind fun _=>((oInt .i64 r1.1).bind fun n2=>(bif ((n2 != (0:Int))) then some ((.sl 2 []),[(.agg [(.sl 1 a0_0),(.int .i64 a0_1)])]) else ((LIM F.spec_l1Chance [(.rref [(.sl 1 a0_0),(.int .i64 a0_1)] 0),(.int .i64 (20:Int))]).bind fun r3=>((oCons r3.2).bind fun p4=>((oNil p4.2).bind fun _=>((oAgg p4.1).bind fun c5=>((oCons c5).bind fun p6=>((oSl 1 p6.1).bind fun c7=>((oCons p6.2).bind fun p8=>((oInt .i64 p8.1).bind fun n9=>((oNil p8.2).bind fun _=>((oBool r3.1).bind fun b10=>(bif b10 then ((LIM F.spec_l1Pick [(.rref [(.sl 1 a0_0),(.int .i64 n9)] 0),(.sl 1 [(.int .i64 (12:Int)),(.int .i64 (13:Int))])]).bind fun r11=>((oCons r11.2).bind fun p12=>((oNil p12.2).bind fun _=>((oAgg p12.1).bind fun c13=>((oCons c13).bind fun p14=>((oSl 1 p14.1).bind fun c15=>((oCons p14.2).bind fun p16=>((oInt .i64 p16.1).bind fun n17=>((oNil p16.2).bind fun _=>((oInt .i64 r11.1).bind fun n18=>(spec_l5BentList.at0 n n (spec_l5BentList.st0 a1_0 n18 a0_0 n17 [])))))))))))) else ((LIM F.spec_l5DrawList [(.rref [(.sl 1 a0_0),(.int .i64 n9)] 0),(.rref [(.sl 2 a1_0)] 0),(.int .i64 (4:Int))]).bind fun r31=>((oCons r31.2).bind fun p32=>((oNil p32.2).bind fun _=>((oAgg p32.1).bind fun c33=>((oCons c33).bind fun p34=>((oSl 1 p34.1).bind fun c35=>((oCons p34.2).bind fun p36=>((oInt .i64 p36.1).bind fun n37=>((oNil p36.2).bind fun _=>((oSl 2 r31.1).bind fun c38=>((LIM F.spec_l1Chance [(.rref [(.sl 1 a0_0),(.int .i64 n37)] 0),(.int .i64 (7:Int))]).bind fun r39=>((oCons r39.2).bind fun p40=>((oNil p40.2).bind fun _=>((oAgg p40.1).bind fun c41=>((oCons c41).bind fun p42=>((oSl 1 p42.1).bind fun c43=>((oCons p42.2).bind fun p44=>((oInt .i64 p44.1).bind fun n45=>((oNil p44.2).bind fun _=>((oBool r39.1).bind fun b46=>(bif b46 then ((LIM F.spec_l4BentEquation [(.rref [(.sl 1 a0_0),(.int .i64 n45)] 0),(.rref [(.sl 2 a1_0)] 0)]).bind fun r47=>((oCons r47.2).bind fun p48=>((oNil p48.2).bind fun _=>((oAgg p48.1).bind fun c49=>((oCons c49).bind fun p50=>((oSl 1 p50.1).bind fun c51=>((oCons p50.2).bind fun p52=>((oInt .i64 p52.1).bind fun n53=>((oNil p52.2).bind fun _=>((oAgg r47.1).bind fun c54=>((oCons c54).bind fun p55=>((oSl 1 p55.1).bind fun c56=>((oCons p55.2).bind fun p57=>((oSl 1 p57.1).bind fun c58=>((oNil p57.2).bind fun _=>(bif Nat.ble (((c38).length+2)*48) (140737488355328*2) then some ((.sl 2 (c38++[(.sl 1 c56),(.sl 1 c58)]:List T)),[(.agg [(.sl 1 a0_0),(.int .i64 n53)])]) else none)))))))))))))))) else some ((.sl 2 c38),[(.agg [(.sl 1 a0_0),(.int .i64 n45)])]))))))))))))))))))))))))))))))))))))):=by kernel_rfl
def spec_l5DrawList.st0 (x0:List T) (x1:Int) (x2:List T) (x3:Int) (x4:List T):St:=⟨[(0,(.one (.ptr 1000000 0))),(1,(.one (.t (.rref [(.sl 2 x0)] 0)))),(7,(.one (.obj 576))),(8,oi x1)],[(1000000,(.box [(.kept 0 (.sl 1 x2)),(.t (.int .i64 x3))])),(576,(.arr true true 2 x4))]⟩
noncomputable def spec_l5DrawList.K0 (n:Nat):Ex→St→R:=kx F.spec_l5DrawList n [.block 0,.seq 0 (cx F.spec_l5DrawList [1,1,1])] (endOf prog A F.spec_l5DrawList)
noncomputable def spec_l5DrawList.at0 (n:Nat) (m:Nat) (s:St):R:=lx F.spec_l5DrawList n 0 [1,1,0,1,0,0] (spec_l5DrawList.K0 n) m s
noncomputable def spec_l5DrawList.rd0 (n:Nat) (L0:St→R) (s:St):R:=rx F.spec_l5DrawList n 0 [1,1,0,1,0,0] (spec_l5DrawList.K0 n) L0 s
theorem spec_l5DrawList.next0 (n:Nat) (m:Nat) (s:St):spec_l5DrawList.at0 n (m+1) s=spec_l5DrawList.rd0 n (spec_l5DrawList.at0 n m) s:=nx _ _ _ _ _ _ _
theorem spec_l5DrawList.round0 (n:Nat) (L0:St→R) (x0:List T) (x1:Int) (x2:List T) (x3:Int) (x4:List T):spec_l5DrawList.rd0 n L0 (spec_l5DrawList.st0 x0 x1 x2 x3 x4)=(bif (decide (x1 > (0:Int))) then ((LIM F.spec_l4Draw [(.rref [(.sl 1 x2),(.int .i64 x3)] 0),(.rref [(.sl 2 x0)] 0)]).bind fun r9=>((oCons r9.2).bind fun p10=>((oNil p10.2).bind fun _=>((oAgg p10.1).bind fun c11=>((oCons c11).bind fun p12=>((oSl 1 p12.1).bind fun c13=>((oCons p12.2).bind fun p14=>((oInt .i64 p14.1).bind fun n15=>((oNil p14.2).bind fun _=>((oAgg r9.1).bind fun c16=>((oCons c16).bind fun p17=>((oSl 1 p17.1).bind fun c18=>((oCons p17.2).bind fun p19=>((oSl 1 p19.1).bind fun c20=>((oNil p19.2).bind fun _=>(bif Nat.ble (((x4).length+2)*48) (140737488355328*2) then (L0 (spec_l5DrawList.st0 x0 (IntKind.wrap .i64 (x1 - (1:Int))) x2 n15 (x4++[(.sl 1 c18),(.sl 1 c20)]:List T))) else none)))))))))))))))) else some ((.sl 2 x4),[(.agg [(.sl 1 x2),(.int .i64 x3)])])):=by kernel_rfl
theorem spec_l5DrawList.ev (n:Nat) (a0_0:List T) (a0_1:Int) (a1_0:List T) (a2:Int):callK prog A H LIM n F.spec_l5DrawList [(.rref [(.sl 1 a0_0),(.int .i64 a0_1)] 0),(.rref [(.sl 2 a1_0)] 0),(.int .i64 a2)]=((LIM F.spec_l1Next [(.rref [(.sl 1 a0_0),(.int .i64 a0_1)] 0),(.int .i64 (IntKind.wrap .i64 (a2+(1:Int))))]).bind fun r1=>((oCons r1.2).bind fun p2=>((oNil p2.2).bind fun _=>((oAgg p2.1).bind fun c3=>((oCons c3).bind fun p4=>((oSl 1 p4.1).bind fun c5=>((oCons p4.2).bind fun p6=>((oInt .i64 p6.1).bind fun n7=>((oNil p6.2).bind fun _=>((oInt .i64 r1.1).bind fun n8=>(spec_l5DrawList.at0 n n (spec_l5DrawList.st0 a1_0 n8 a0_0 n7 [])))))))))))):=by kernel_rfl
def spec_l5Fault.st0 (x0 x1:List T) (x2:Int):St:=⟨[(0,(.one (.t (.rref [(.sl 2 x0)] 0)))),(1,ol 2 x1),(5,oi x2)],[]⟩
noncomputable def spec_l5Fault.K0 (n:Nat):Ex→St→R:=kx F.spec_l5Fault n [.block 0,.seq 0 (cx F.spec_l5Fault [1,1,1])] (endOf prog A F.spec_l5Fault)
noncomputable def spec_l5Fault.at0 (n:Nat) (m:Nat) (s:St):R:=lx F.spec_l5Fault n 0 [1,1,0,1,0,0] (spec_l5Fault.K0 n) m s
noncomputable def spec_l5Fault.rd0 (n:Nat) (L0:St→R) (s:St):R:=rx F.spec_l5Fault n 0 [1,1,0,1,0,0] (spec_l5Fault.K0 n) L0 s
theorem spec_l5Fault.next0 (n:Nat) (m:Nat) (s:St):spec_l5Fault.at0 n (m+1) s=spec_l5Fault.rd0 n (spec_l5Fault.at0 n m) s:=nx _ _ _ _ _ _ _
theorem spec_l5Fault.round0 (n:Nat) (L0:St→R) (x0 x1:List T) (x2:Int):spec_l5Fault.rd0 n L0 (spec_l5Fault.st0 x0 x1 x2)=(bif (decide (x2 < ((((x1).length / 2):Nat):Int))) then (bif inB x2 ((x1).length / 2) then ((LIM F.spec_l4Fault [(.rref [(.sl 2 x0)] 0),(.rref ((x1.drop ((Int.toNat x2)*2)).take 2) 0)]).bind fun r1=>((oNil r1.2).bind fun _=>((oInt .i64 r1.1).bind fun n2=>(bif ((n2 != (0:Int))) then some ((.int .i64 n2),[]) else (L0 (spec_l5Fault.st0 x0 x1 (IntKind.wrap .i64 (x2+(1:Int))))))))) else none) else some ((.int .i64 (0:Int)),[])):=by kernel_rfl
theorem spec_l5Fault.ev (n:Nat) (a0_0 a1:List T):callK prog A H LIM n F.spec_l5Fault [(.rref [(.sl 2 a0_0)] 0),(.sl 2 a1)]=(bif (decide (((((a1).length / 2):Nat):Int) > (12:Int))) then some ((.int .i64 (2:Int)),[]) else (spec_l5Fault.at0 n n (spec_l5Fault.st0 a0_0 a1 (0:Int)))):=by kernel_rfl
def spec_l6Apply.st0 (x0 x1 x2:List T) (x3:Int) (x4:List T):St:=⟨[(0,(.one (.t (.rref [(.sl 1 x0),(.sl 1 x1)] 0)))),(1,ol 1 x2),(5,(.one (.obj 512))),(6,oi x3)],[(512,(.arr true true 1 x4))]⟩
noncomputable def spec_l6Apply.K0 (n:Nat):Ex→St→R:=kx F.spec_l6Apply n [.block 0,.seq 0 (cx F.spec_l6Apply [1,1,1])] (endOf prog A F.spec_l6Apply)
noncomputable def spec_l6Apply.at0 (n:Nat) (m:Nat) (s:St):R:=lx F.spec_l6Apply n 0 [1,1,0,1,0,0] (spec_l6Apply.K0 n) m s
noncomputable def spec_l6Apply.rd0 (n:Nat) (L0:St→R) (s:St):R:=rx F.spec_l6Apply n 0 [1,1,0,1,0,0] (spec_l6Apply.K0 n) L0 s
theorem spec_l6Apply.next0 (n:Nat) (m:Nat) (s:St):spec_l6Apply.at0 n (m+1) s=spec_l6Apply.rd0 n (spec_l6Apply.at0 n m) s:=nx _ _ _ _ _ _ _
theorem spec_l6Apply.round0 (n:Nat) (L0:St→R) (x0 x1 x2:List T) (x3:Int) (x4:List T):spec_l6Apply.rd0 n L0 (spec_l6Apply.st0 x0 x1 x2 x3 x4)=(bif (decide (x3 < ((((x2).length / 1):Nat):Int))) then (bif inB x3 ((x2).length / 1) then ((x2[((Int.toNat x3)*1)]?).bind fun e1=>((oInt .i64 e1).bind fun n2=>(bif (decide (n2 < (0:Int))) then (bif inB x3 ((x2).length / 1) then ((x2[((Int.toNat x3)*1)]?).bind fun e3=>((oInt .i64 e3).bind fun n4=>((LIM F.spec_l6Term [(.rref [(.sl 1 x0),(.sl 1 x1)] 0),(.int .i64 (IntKind.wrap .i64 ((-1:Int) - n4)))]).bind fun r5=>((oNil r5.2).bind fun _=>((oSl 1 r5.1).bind fun c6=>(bif (c6).all T.scalar then (bif ((((((c6).length / 1):Nat):Int) == (0:Int))) then (bif inB x3 ((x2).length / 1) then ((x2[((Int.toNat x3)*1)]?).bind fun e7=>((oInt .i64 e7).bind fun n8=>(bif Nat.ble (((x4).length+1)*8) (140737488355328*1) then (L0 (spec_l6Apply.st0 x0 x1 x2 (IntKind.wrap .i64 (x3+(1:Int))) (x4++[(.int .i64 n8)]:List T))) else none))) else none) else (bif (c6).all T.scalar then (bif Nat.ble (((x4).length+(c6).length)*8) (140737488355328*1) then (L0 (spec_l6Apply.st0 x0 x1 x2 (IntKind.wrap .i64 (x3+(1:Int))) (x4++c6:List T))) else none) else none)) else none)))))) else none) else (bif inB x3 ((x2).length / 1) then ((x2[((Int.toNat x3)*1)]?).bind fun e9=>((oInt .i64 e9).bind fun n10=>(bif Nat.ble (((x4).length+1)*8) (140737488355328*1) then (L0 (spec_l6Apply.st0 x0 x1 x2 (IntKind.wrap .i64 (x3+(1:Int))) (x4++[(.int .i64 n10)]:List T))) else none))) else none)))) else none) else some ((.sl 1 x4),[])):=by kernel_rfl
theorem spec_l6Apply.ev (n:Nat) (a0_0 a0_1 a1:List T):callK prog A H LIM n F.spec_l6Apply [(.rref [(.sl 1 a0_0),(.sl 1 a0_1)] 0),(.sl 1 a1)]=(spec_l6Apply.at0 n n (spec_l6Apply.st0 a0_0 a0_1 a1 (0:Int) [])):=by kernel_rfl
theorem spec_l6Bent.ev (n:Nat) (a0_0:List T) (a0_1:Int) (a1_0:List T):callK prog A H LIM n F.spec_l6Bent [(.rref [(.sl 1 a0_0),(.int .i64 a0_1)] 0),(.rref [(.sl 2 a1_0)] 0)]=((LIM F.spec_SignatureFault [(.agg [(.sl 2 a1_0)])]).bind fun r1=>((oNil r1.2).bind fun _=>((oInt .i64 r1.1).bind fun n2=>(bif ((n2 != (0:Int))) then some ((.agg [(.sl 1 []),(.sl 1 [])]),[(.agg [(.sl 1 a0_0),(.int .i64 a0_1)])]) else ((LIM F.spec_l1Pick [(.rref [(.sl 1 a0_0),(.int .i64 a0_1)] 0),(.sl 1 [(.int .i64 (1:Int)),(.int .i64 (3:Int)),(.int .i64 (6:Int))])]).bind fun r3=>((oCons r3.2).bind fun p4=>((oNil p4.2).bind fun _=>((oAgg p4.1).bind fun c5=>((oCons c5).bind fun p6=>((oSl 1 p6.1).bind fun c7=>((oCons p6.2).bind fun p8=>((oInt .i64 p8.1).bind fun n9=>((oNil p8.2).bind fun _=>((oInt .i64 r3.1).bind fun n10=>((LIM F.spec_l6Draw [(.rref [(.sl 1 a0_0),(.int .i64 n9)] 0),(.rref [(.sl 2 a1_0)] 0),(.int .i64 n10)]).bind fun r11=>((oCons r11.2).bind fun p12=>((oNil p12.2).bind fun _=>((oAgg p12.1).bind fun c13=>((oCons c13).bind fun p14=>((oSl 1 p14.1).bind fun c15=>((oCons p14.2).bind fun p16=>((oInt .i64 p16.1).bind fun n17=>((oNil p16.2).bind fun _=>((oAgg r11.1).bind fun c18=>((oCons c18).bind fun p19=>((oSl 1 p19.1).bind fun c20=>((oCons p19.2).bind fun p21=>((oSl 1 p21.1).bind fun c22=>((oNil p21.2).bind fun _=>(bif (decide (((((c20).length / 1):Nat):Int) < (1:Int))) then some ((.agg [(.sl 1 c20),(.sl 1 c22)]),[(.agg [(.sl 1 a0_0),(.int .i64 n17)])]) else ((LIM F.spec_l1Chance [(.rref [(.sl 1 a0_0),(.int .i64 n17)] 0),(.int .i64 (8:Int))]).bind fun r23=>((oCons r23.2).bind fun p24=>((oNil p24.2).bind fun _=>((oAgg p24.1).bind fun c25=>((oCons c25).bind fun p26=>((oSl 1 p26.1).bind fun c27=>((oCons p26.2).bind fun p28=>((oInt .i64 p28.1).bind fun n29=>((oNil p28.2).bind fun _=>((oBool r23.1).bind fun b30=>(bif (!b30) then some ((.agg [(.sl 1 c20),(.sl 1 c22)]),[(.agg [(.sl 1 a0_0),(.int .i64 n29)])]) else ((LIM F.spec_l1Next [(.rref [(.sl 1 a0_0),(.int .i64 n29)] 0),(.int .i64 (4:Int))]).bind fun r31=>((oCons r31.2).bind fun p32=>((oNil p32.2).bind fun _=>((oAgg p32.1).bind fun c33=>((oCons c33).bind fun p34=>((oSl 1 p34.1).bind fun c35=>((oCons p34.2).bind fun p36=>((oInt .i64 p36.1).bind fun n37=>((oNil p36.2).bind fun _=>((oInt .i64 r31.1).bind fun n38=>(bif ((n38 == (0:Int))) then (bif decide (0≤(1:Int))&&decide ((1:Int)≤((((c20).length / 1):Nat):Int))&&decide (((((c20).length / 1):Nat):Int)≤((((c20).length / 1):Nat):Int)) then some ((.agg [(.sl 1 ((c20.take ((Int.toNat ((((c20).length / 1):Nat):Int))*1)).drop (1*1))),(.sl 1 c22)]),[(.agg [(.sl 1 a0_0),(.int .i64 n37)])]) else none) else (bif ((n38 == (1:Int))) then ((LIM F.spec_l1Next [(.rref [(.sl 1 a0_0),(.int .i64 n37)] 0),(.int .i64 ((((c20).length / 1):Nat):Int))]).bind fun r39=>((oCons r39.2).bind fun p40=>((oNil p40.2).bind fun _=>((oAgg p40.1).bind fun c41=>((oCons c41).bind fun p42=>((oSl 1 p42.1).bind fun c43=>((oCons p42.2).bind fun p44=>((oInt .i64 p44.1).bind fun n45=>((oNil p44.2).bind fun _=>((oInt .i64 r39.1).bind fun n46=>((LIM F.spec_l1Pick [(.rref [(.sl 1 a0_0),(.int .i64 n45)] 0),(.sl 1 [(.int .i64 (12:Int)),(.int .i64 (-1:Int))])]).bind fun r47=>((oCons r47.2).bind fun p48=>((oNil p48.2).bind fun _=>((oAgg p48.1).bind fun c49=>((oCons c49).bind fun p50=>((oSl 1 p50.1).bind fun c51=>((oCons p50.2).bind fun p52=>((oInt .i64 p52.1).bind fun n53=>((oNil p52.2).bind fun _=>((oInt .i64 r47.1).bind fun n54=>(bif inB n46 ((c20).length / 1) then (bif decide (((Int.toNat n46)*1)+1≤(c20).length) then some ((.agg [(.sl 1 (setCells c20 ((Int.toNat n46)*1) [(.int .i64 n54)])),(.sl 1 c22)]),[(.agg [(.sl 1 a0_0),(.int .i64 n53)])]) else none) else none))))))))))))))))))))) else (bif ((n38 == (2:Int))) then ((LIM F.spec_l1Next [(.rref [(.sl 1 a0_0),(.int .i64 n37)] 0),(.int .i64 ((((c20).length / 1):Nat):Int))]).bind fun r55=>((oCons r55.2).bind fun p56=>((oNil p56.2).bind fun _=>((oAgg p56.1).bind fun c57=>((oCons c57).bind fun p58=>((oSl 1 p58.1).bind fun c59=>((oCons p58.2).bind fun p60=>((oInt .i64 p60.1).bind fun n61=>((oNil p60.2).bind fun _=>((oInt .i64 r55.1).bind fun n62=>((LIM F.spec_l3BentTerm [(.rref [(.sl 1 a0_0),(.int .i64 n61)] 0),(.rref [(.sl 2 a1_0)] 0),(.int .i64 (3:Int)),(.int .i64 (3:Int))]).bind fun r63=>((oCons r63.2).bind fun p64=>((oNil p64.2).bind fun _=>((oAgg p64.1).bind fun c65=>((oCons c65).bind fun p66=>((oSl 1 p66.1).bind fun c67=>((oCons p66.2).bind fun p68=>((oInt .i64 p68.1).bind fun n69=>((oNil p68.2).bind fun _=>((oSl 1 r63.1).bind fun c70=>(bif inB n62 ((c22).length / 1) then (bif decide (((Int.toNat n62)*1)+1≤(c22).length) then some ((.agg [(.sl 1 c20),(.sl 1 (setCells c22 ((Int.toNat n62)*1) [(.sl 1 c70)]))]),[(.agg [(.sl 1 a0_0),(.int .i64 n69)])]) else none) else none))))))))))))))))))))) else (bif inB (0:Int) ((c20).length / 1) then (bif decide (0+1≤(c20).length) then some ((.agg [(.sl 1 (setCells c20 0 [(.int .i64 (11:Int))])),(.sl 1 c22)]),[(.agg [(.sl 1 a0_0),(.int .i64 n37)])]) else none) else none))))))))))))))))))))))))))))))))))))))))))))))))))))))):=by kernel_rfl
def spec_l6Draw.st0 (x0:List T) (x1 x2:Int) (x3:List T) (x4:Int) (x5 x6:List T):St:=⟨[(0,(.one (.ptr 1000000 0))),(1,(.one (.t (.rref [(.sl 2 x0)] 0)))),(2,oi x1),(6,(.one (.ptr 384 0))),(7,(.one (.ptr 448 0))),(8,oi x2)],[(1000000,(.box [(.kept 0 (.sl 1 x3)),(.t (.int .i64 x4))])),(384,(.box [.nil,.nil])),(448,(.box [(.obj 517168),(.obj 517169)])),(517168,(.arr true true 1 x5)),(517169,(.arr true true 1 x6))]⟩
noncomputable def spec_l6Draw.K0 (n:Nat):Ex→St→R:=kx F.spec_l6Draw n [.block 0,.seq 0 (cx F.spec_l6Draw [1,1,1])] (endOf prog A F.spec_l6Draw)
noncomputable def spec_l6Draw.at0 (n:Nat) (m:Nat) (s:St):R:=lx F.spec_l6Draw n 0 [1,1,0,1,0,0] (spec_l6Draw.K0 n) m s
noncomputable def spec_l6Draw.rd0 (n:Nat) (L0:St→R) (s:St):R:=rx F.spec_l6Draw n 0 [1,1,0,1,0,0] (spec_l6Draw.K0 n) L0 s
theorem spec_l6Draw.next0 (n:Nat) (m:Nat) (s:St):spec_l6Draw.at0 n (m+1) s=spec_l6Draw.rd0 n (spec_l6Draw.at0 n m) s:=nx _ _ _ _ _ _ _
theorem spec_l6Draw.round0 (n:Nat) (L0:St→R) (x0:List T) (x1 x2:Int) (x3:List T) (x4:Int) (x5 x6:List T):spec_l6Draw.rd0 n L0 (spec_l6Draw.st0 x0 x1 x2 x3 x4 x5 x6)=(bif (decide (x2 < x1)) then ((LIM F.spec_l1Chance [(.rref [(.sl 1 x3),(.int .i64 x4)] 0),(.int .i64 (3:Int))]).bind fun r1=>((oCons r1.2).bind fun p2=>((oNil p2.2).bind fun _=>((oAgg p2.1).bind fun c3=>((oCons c3).bind fun p4=>((oSl 1 p4.1).bind fun c5=>((oCons p4.2).bind fun p6=>((oInt .i64 p6.1).bind fun n7=>((oNil p6.2).bind fun _=>((oBool r1.1).bind fun b8=>(bif (!b8) then (bif Nat.ble (((x5).length+1)*8) (140737488355328*1) then ((LIM F.spec_l1Pick [(.rref [(.sl 1 x3),(.int .i64 n7)] 0),(.sl 1 [(.int .i64 (1:Int)),(.int .i64 (3:Int)),(.int .i64 (4:Int))])]).bind fun r9=>((oCons r9.2).bind fun p10=>((oNil p10.2).bind fun _=>((oAgg p10.1).bind fun c11=>((oCons c11).bind fun p12=>((oSl 1 p12.1).bind fun c13=>((oCons p12.2).bind fun p14=>((oInt .i64 p14.1).bind fun n15=>((oNil p14.2).bind fun _=>((oInt .i64 r9.1).bind fun n16=>((LIM F.spec_l3Draw [(.rref [(.sl 1 x3),(.int .i64 n15)] 0),(.rref [(.sl 2 x0)] 0),(.int .i64 n16),(.int .i64 (4:Int))]).bind fun r17=>((oCons r17.2).bind fun p18=>((oNil p18.2).bind fun _=>((oAgg p18.1).bind fun c19=>((oCons c19).bind fun p20=>((oSl 1 p20.1).bind fun c21=>((oCons p20.2).bind fun p22=>((oInt .i64 p22.1).bind fun n23=>((oNil p22.2).bind fun _=>((oSl 1 r17.1).bind fun c24=>(bif Nat.ble (((x6).length+1)*24) (140737488355328*1) then (L0 (spec_l6Draw.st0 x0 x1 (IntKind.wrap .i64 (x2+(1:Int))) x3 n23 (x5++[(.int .i64 x2)]:List T) (x6++[(.sl 1 c24)]:List T))) else none))))))))))))))))))))) else none) else (L0 (spec_l6Draw.st0 x0 x1 (IntKind.wrap .i64 (x2+(1:Int))) x3 n7 x5 x6))))))))))))) else some ((.agg [(.sl 1 x5),(.sl 1 x6)]),[(.agg [(.sl 1 x3),(.int .i64 x4)])])):=by kernel_rfl
theorem spec_l6Draw.ev (n:Nat) (a0_0:List T) (a0_1:Int) (a1_0:List T) (a2:Int):callK prog A H LIM n F.spec_l6Draw [(.rref [(.sl 1 a0_0),(.int .i64 a0_1)] 0),(.rref [(.sl 2 a1_0)] 0),(.int .i64 a2)]=(spec_l6Draw.at0 n n (spec_l6Draw.st0 a1_0 a2 (0:Int) a0_0 a0_1 [] [])):=by kernel_rfl
def spec_l6Fault.st0 (x0 x1 x2:List T) (x3:Int):St:=⟨[(0,(.one (.t (.rref [(.sl 2 x0)] 0)))),(1,(.one (.t (.rref [(.sl 1 x1),(.sl 1 x2)] 0)))),(5,oi x3)],[]⟩
noncomputable def spec_l6Fault.K0 (n:Nat):Ex→St→R:=kx F.spec_l6Fault n [.block 0,.seq 0 (cx F.spec_l6Fault [1,1,1])] (endOf prog A F.spec_l6Fault)
noncomputable def spec_l6Fault.at0 (n:Nat) (m:Nat) (s:St):R:=lx F.spec_l6Fault n 0 [1,1,0,1,0,0] (spec_l6Fault.K0 n) m s
noncomputable def spec_l6Fault.rd0 (n:Nat) (L0:St→R) (s:St):R:=rx F.spec_l6Fault n 0 [1,1,0,1,0,0] (spec_l6Fault.K0 n) L0 s
theorem spec_l6Fault.next0 (n:Nat) (m:Nat) (s:St):spec_l6Fault.at0 n (m+1) s=spec_l6Fault.rd0 n (spec_l6Fault.at0 n m) s:=nx _ _ _ _ _ _ _
theorem spec_l6Fault.round0 (n:Nat) (L0:St→R) (x0 x1 x2:List T) (x3:Int):spec_l6Fault.rd0 n L0 (spec_l6Fault.st0 x0 x1 x2 x3)=(bif (decide (x3 < ((((x1).length / 1):Nat):Int))) then (bif inB x3 ((x1).length / 1) then ((x1[((Int.toNat x3)*1)]?).bind fun e1=>((oInt .i64 e1).bind fun n2=>((LIM F.spec_l1In [(.int .i64 n2),(.int .i64 (0:Int)),(.int .i64 (11:Int))]).bind fun r3=>((oNil r3.2).bind fun _=>((oBool r3.1).bind fun b4=>(bif (!b4) then some ((.int .i64 (3:Int)),[]) else (bif inB x3 ((x2).length / 1) then ((x2[((Int.toNat x3)*1)]?).bind fun e5=>((oSl 1 e5).bind fun c6=>((LIM F.spec_l3Fault [(.rref [(.sl 2 x0)] 0),(.sl 1 c6)]).bind fun r7=>((oNil r7.2).bind fun _=>((oInt .i64 r7.1).bind fun n8=>(bif ((n8 != (0:Int))) then some ((.int .i64 n8),[]) else (L0 (spec_l6Fault.st0 x0 x1 x2 (IntKind.wrap .i64 (x3+(1:Int))))))))))) else none))))))) else none) else ((LIM F.spec_l1Rise [(.sl 1 x1)]).bind fun r9=>((oNil r9.2).bind fun _=>((oBool r9.1).bind fun b10=>(bif (!b10) then some ((.int .i64 (1:Int)),[]) else some ((.int .i64 (0:Int)),[])))))):=by kernel_rfl
theorem spec_l6Fault.ev (n:Nat) (a0_0 a1_0 a1_1:List T):callK prog A H LIM n F.spec_l6Fault [(.rref [(.sl 2 a0_0)] 0),(.rref [(.sl 1 a1_0),(.sl 1 a1_1)] 0)]=(bif ((((((a1_0).length / 1):Nat):Int) != ((((a1_1).length / 1):Nat):Int))) then some ((.int .i64 (2:Int)),[]) else (bif (decide (((((a1_0).length / 1):Nat):Int) > (12:Int))) then some ((.int .i64 (2:Int)),[]) else (spec_l6Fault.at0 n n (spec_l6Fault.st0 a0_0 a1_0 a1_1 (0:Int))))):=by kernel_rfl
def spec_l6Match.st0 (x0 x1 x2:List T) (x3 x4:Int) (x5 x6:List T):St:=⟨[(0,(.one (.t (.rref [(.sl 2 x0)] 0)))),(1,ol 1 x1),(2,ol 1 x2),(3,oi x3),(8,(.one (.ptr 512 0))),(10,(.one (.ptr 640 0))),(11,oi x4)],[(512,(.box [.nil,.nil])),(640,(.box [(.obj 520240),(.obj 520241)])),(520240,(.arr true true 1 x5)),(520241,(.arr true true 1 x6))]⟩
noncomputable def spec_l6Match.K0 (n:Nat):Ex→St→R:=kx F.spec_l6Match n [.block 0,.seq 0 (cx F.spec_l6Match [1,1,1])] (endOf prog A F.spec_l6Match)
noncomputable def spec_l6Match.at0 (n:Nat) (m:Nat) (s:St):R:=lx F.spec_l6Match n 0 [1,1,0,1,0,0] (spec_l6Match.K0 n) m s
noncomputable def spec_l6Match.rd0 (n:Nat) (L0:St→R) (s:St):R:=rx F.spec_l6Match n 0 [1,1,0,1,0,0] (spec_l6Match.K0 n) L0 s
theorem spec_l6Match.next0 (n:Nat) (m:Nat) (s:St):spec_l6Match.at0 n (m+1) s=spec_l6Match.rd0 n (spec_l6Match.at0 n m) s:=nx _ _ _ _ _ _ _
theorem spec_l6Match.round0 (n:Nat) (L0:St→R) (x0 x1 x2:List T) (x3 x4:Int) (x5 x6:List T):spec_l6Match.rd0 n L0 (spec_l6Match.st0 x0 x1 x2 x3 x4 x5 x6)=(bif (decide (x4 < ((((x1).length / 1):Nat):Int))) then (bif (decide (x3 ≥ ((((x2).length / 1):Nat):Int))) then some ((.tup [(.agg [(.sl 1 []),(.sl 1 [])]),(.bool false)]),[]) else (bif inB x4 ((x1).length / 1) then ((x1[((Int.toNat x4)*1)]?).bind fun e1=>((oInt .i64 e1).bind fun n2=>(bif (decide (n2 ≥ (0:Int))) then (bif inB x3 ((x2).length / 1) then ((x2[((Int.toNat x3)*1)]?).bind fun e3=>((oInt .i64 e3).bind fun n4=>(bif inB x4 ((x1).length / 1) then ((x1[((Int.toNat x4)*1)]?).bind fun e5=>((oInt .i64 e5).bind fun n6=>(bif ((n4 != n6)) then some ((.tup [(.agg [(.sl 1 []),(.sl 1 [])]),(.bool false)]),[]) else (L0 (spec_l6Match.st0 x0 x1 x2 (IntKind.wrap .i64 (x3+(1:Int))) (IntKind.wrap .i64 (x4+(1:Int))) x5 x6))))) else none))) else none) else ((LIM F.spec_l3Sub [(.rref [(.sl 2 x0)] 0),(.sl 1 x2),(.int .i64 x3)]).bind fun r7=>((oNil r7.2).bind fun _=>((oSl 1 r7.1).bind fun c8=>(bif inB x4 ((x1).length / 1) then ((x1[((Int.toNat x4)*1)]?).bind fun e9=>((oInt .i64 e9).bind fun n10=>((LIM F.spec_l6Term [(.rref [(.sl 1 x5),(.sl 1 x6)] 0),(.int .i64 (IntKind.wrap .i64 ((-1:Int) - n10)))]).bind fun r11=>((oNil r11.2).bind fun _=>((oSl 1 r11.1).bind fun c12=>(bif (c12).all T.scalar then (bif ((((((c12).length / 1):Nat):Int) == (0:Int))) then (bif inB x4 ((x1).length / 1) then ((x1[((Int.toNat x4)*1)]?).bind fun e13=>((oInt .i64 e13).bind fun n14=>((LIM F.spec_l6With [(.rref [(.sl 1 x5),(.sl 1 x6)] 0),(.int .i64 (IntKind.wrap .i64 ((-1:Int) - n14))),(.sl 1 c8)]).bind fun r15=>((oNil r15.2).bind fun _=>((oAgg r15.1).bind fun c16=>((oCons c16).bind fun p17=>((oSl 1 p17.1).bind fun c18=>((oCons p17.2).bind fun p19=>((oSl 1 p19.1).bind fun c20=>((oNil p19.2).bind fun _=>(L0 (spec_l6Match.st0 x0 x1 x2 (IntKind.wrap .i64 (x3+((((c8).length / 1):Nat):Int))) (IntKind.wrap .i64 (x4+(1:Int))) c18 c20)))))))))))) else none) else ((LIM F.spec_l1Same [(.sl 1 c12),(.sl 1 c8)]).bind fun r21=>((oNil r21.2).bind fun _=>((oBool r21.1).bind fun b22=>(bif (!b22) then some ((.tup [(.agg [(.sl 1 []),(.sl 1 [])]),(.bool false)]),[]) else (L0 (spec_l6Match.st0 x0 x1 x2 (IntKind.wrap .i64 (x3+((((c8).length / 1):Nat):Int))) (IntKind.wrap .i64 (x4+(1:Int))) x5 x6))))))) else none)))))) else none))))))) else none)) else some ((.tup [(.agg [(.sl 1 x5),(.sl 1 x6)]),(.bool true)]),[])):=by kernel_rfl
theorem spec_l6Match.ev (n:Nat) (a0_0 a1 a2:List T) (a3:Int):callK prog A H LIM n F.spec_l6Match [(.rref [(.sl 2 a0_0)] 0),(.sl 1 a1),(.sl 1 a2),(.int .i64 a3)]=(spec_l6Match.at0 n n (spec_l6Match.st0 a0_0 a1 a2 a3 (0:Int) [] [])):=by kernel_rfl
def spec_l6Term.st0 (x0 x1:List T) (x2 x3:Int):St:=⟨[(0,(.one (.t (.rref [(.sl 1 x0),(.sl 1 x1)] 0)))),(1,oi x2),(5,oi x3)],[]⟩
noncomputable def spec_l6Term.K0 (n:Nat):Ex→St→R:=kx F.spec_l6Term n [.block 0,.seq 0 (cx F.spec_l6Term [1,1])] (endOf prog A F.spec_l6Term)
noncomputable def spec_l6Term.at0 (n:Nat) (m:Nat) (s:St):R:=lx F.spec_l6Term n 0 [1,0,1,0,0] (spec_l6Term.K0 n) m s
noncomputable def spec_l6Term.rd0 (n:Nat) (L0:St→R) (s:St):R:=rx F.spec_l6Term n 0 [1,0,1,0,0] (spec_l6Term.K0 n) L0 s
theorem spec_l6Term.next0 (n:Nat) (m:Nat) (s:St):spec_l6Term.at0 n (m+1) s=spec_l6Term.rd0 n (spec_l6Term.at0 n m) s:=nx _ _ _ _ _ _ _
theorem spec_l6Term.round0 (n:Nat) (L0:St→R) (x0 x1:List T) (x2 x3:Int):spec_l6Term.rd0 n L0 (spec_l6Term.st0 x0 x1 x2 x3)=(bif (decide (x3 < ((((x0).length / 1):Nat):Int))) then (bif inB x3 ((x0).length / 1) then ((x0[((Int.toNat x3)*1)]?).bind fun e1=>((oInt .i64 e1).bind fun n2=>(bif ((n2 == x2)) then (bif inB x3 ((x1).length / 1) then ((x1[((Int.toNat x3)*1)]?).bind fun e3=>((oSl 1 e3).bind fun c4=>some ((.sl 1 c4),[]))) else none) else (L0 (spec_l6Term.st0 x0 x1 x2 (IntKind.wrap .i64 (x3+(1:Int)))))))) else none) else some ((.sl 1 []),[])):=by kernel_rfl
theorem spec_l6Term.ev (n:Nat) (a0_0 a0_1:List T) (a1:Int):callK prog A H LIM n F.spec_l6Term [(.rref [(.sl 1 a0_0),(.sl 1 a0_1)] 0),(.int .i64 a1)]=(spec_l6Term.at0 n n (spec_l6Term.st0 a0_0 a0_1 a1 (0:Int))):=by kernel_rfl
def spec_l6With.st0 (x0 x1:List T) (x2:Int) (x3:List T) (x4:Bool) (x5:Int) (x6 x7:List T):St:=⟨[(0,(.one (.t (.rref [(.sl 1 x0),(.sl 1 x1)] 0)))),(1,oi x2),(2,ol 1 x3),(6,(.one (.ptr 384 0))),(7,(.one (.ptr 448 0))),(8,(.one (.t (.bool x4)))),(9,oi x5)],[(384,(.box [.nil,.nil])),(448,(.box [(.obj 517168),(.obj 517169)])),(517168,(.arr true true 1 x6)),(517169,(.arr true true 1 x7))]⟩
noncomputable def spec_l6With.K0 (n:Nat):Ex→St→R:=kx F.spec_l6With n [.block 0,.seq 0 (cx F.spec_l6With [1,1,1,1])] (endOf prog A F.spec_l6With)
noncomputable def spec_l6With.at0 (n:Nat) (m:Nat) (s:St):R:=lx F.spec_l6With n 0 [1,1,1,0,1,0,0] (spec_l6With.K0 n) m s
noncomputable def spec_l6With.rd0 (n:Nat) (L0:St→R) (s:St):R:=rx F.spec_l6With n 0 [1,1,1,0,1,0,0] (spec_l6With.K0 n) L0 s
theorem spec_l6With.next0 (n:Nat) (m:Nat) (s:St):spec_l6With.at0 n (m+1) s=spec_l6With.rd0 n (spec_l6With.at0 n m) s:=nx _ _ _ _ _ _ _
theorem spec_l6With.round0 (n:Nat) (L0:St→R) (x0 x1:List T) (x2:Int) (x3:List T) (x4:Bool) (x5:Int) (x6 x7:List T):spec_l6With.rd0 n L0 (spec_l6With.st0 x0 x1 x2 x3 x4 x5 x6 x7)=(bif (decide (x5 < ((((x0).length / 1):Nat):Int))) then (bif (!x4) then (bif inB x5 ((x0).length / 1) then ((x0[((Int.toNat x5)*1)]?).bind fun e1=>((oInt .i64 e1).bind fun n2=>(bif (decide (n2 > x2)) then (bif Nat.ble (((x6).length+1)*8) (140737488355328*1) then ((LIM F.spec_l1Ints [(.sl 1 x3)]).bind fun r3=>((oNil r3.2).bind fun _=>((oSl 1 r3.1).bind fun c4=>(bif Nat.ble (((x7).length+1)*24) (140737488355328*1) then (bif inB x5 ((x0).length / 1) then ((x0[((Int.toNat x5)*1)]?).bind fun e5=>((oInt .i64 e5).bind fun n6=>(bif Nat.ble ((((x6++[(.int .i64 x2)]:List T)).length+1)*8) (140737488355328*1) then (bif inB x5 ((x1).length / 1) then ((x1[((Int.toNat x5)*1)]?).bind fun e7=>((oSl 1 e7).bind fun c8=>((LIM F.spec_l1Ints [(.sl 1 c8)]).bind fun r9=>((oNil r9.2).bind fun _=>((oSl 1 r9.1).bind fun c10=>(bif Nat.ble ((((x7++[(.sl 1 c4)]:List T)).length+1)*24) (140737488355328*1) then (L0 (spec_l6With.st0 x0 x1 x2 x3 true (IntKind.wrap .i64 (x5+(1:Int))) ((x6++[(.int .i64 x2)]:List T)++[(.int .i64 n6)]:List T) ((x7++[(.sl 1 c4)]:List T)++[(.sl 1 c10)]:List T))) else none)))))) else none) else none))) else none) else none)))) else none) else (bif inB x5 ((x0).length / 1) then ((x0[((Int.toNat x5)*1)]?).bind fun e11=>((oInt .i64 e11).bind fun n12=>(bif Nat.ble (((x6).length+1)*8) (140737488355328*1) then (bif inB x5 ((x1).length / 1) then ((x1[((Int.toNat x5)*1)]?).bind fun e13=>((oSl 1 e13).bind fun c14=>((LIM F.spec_l1Ints [(.sl 1 c14)]).bind fun r15=>((oNil r15.2).bind fun _=>((oSl 1 r15.1).bind fun c16=>(bif Nat.ble (((x7).length+1)*24) (140737488355328*1) then (L0 (spec_l6With.st0 x0 x1 x2 x3 x4 (IntKind.wrap .i64 (x5+(1:Int))) (x6++[(.int .i64 n12)]:List T) (x7++[(.sl 1 c16)]:List T))) else none)))))) else none) else none))) else none)))) else none) else (bif inB x5 ((x0).length / 1) then ((x0[((Int.toNat x5)*1)]?).bind fun e17=>((oInt .i64 e17).bind fun n18=>(bif Nat.ble (((x6).length+1)*8) (140737488355328*1) then (bif inB x5 ((x1).length / 1) then ((x1[((Int.toNat x5)*1)]?).bind fun e19=>((oSl 1 e19).bind fun c20=>((LIM F.spec_l1Ints [(.sl 1 c20)]).bind fun r21=>((oNil r21.2).bind fun _=>((oSl 1 r21.1).bind fun c22=>(bif Nat.ble (((x7).length+1)*24) (140737488355328*1) then (L0 (spec_l6With.st0 x0 x1 x2 x3 x4 (IntKind.wrap .i64 (x5+(1:Int))) (x6++[(.int .i64 n18)]:List T) (x7++[(.sl 1 c22)]:List T))) else none)))))) else none) else none))) else none)) else (bif (!x4) then (bif Nat.ble (((x6).length+1)*8) (140737488355328*1) then ((LIM F.spec_l1Ints [(.sl 1 x3)]).bind fun r23=>((oNil r23.2).bind fun _=>((oSl 1 r23.1).bind fun c24=>(bif Nat.ble (((x7).length+1)*24) (140737488355328*1) then some ((.agg [(.sl 1 (x6++[(.int .i64 x2)]:List T)),(.sl 1 (x7++[(.sl 1 c24)]:List T))]),[]) else none)))) else none) else some ((.agg [(.sl 1 x6),(.sl 1 x7)]),[]))):=by kernel_rfl
theorem spec_l6With.ev (n:Nat) (a0_0 a0_1:List T) (a1:Int) (a2:List T):callK prog A H LIM n F.spec_l6With [(.rref [(.sl 1 a0_0),(.sl 1 a0_1)] 0),(.int .i64 a1),(.sl 1 a2)]=(spec_l6With.at0 n n (spec_l6With.st0 a0_0 a0_1 a1 a2 false (0:Int) [] [])):=by kernel_rfl
end Ev
end
section
end
section
namespace Ev.Ty
open Go Ev
open Enc (enc)
open Sm (sm)
set_option linter.unusedVariables false
theorem call2_of {g:FuncId} {args:List T} {r:T × List T} (hx:X g=none) (n:Nat) (h:callK prog A H LIM n g args=some r):LIM g args=some r:=lim_of hx n h
theorem cells_le {α:Type} [Enc α] {l:List α} {a:Nat}:(a≤(cells l).length)=(a≤l.length*Enc.sz α):=by rw [cells_length]
theorem set_same {α:Type} {o:List α} {i:Nat} {x:α} (h:o[i]?=some x):o.set i x=o:=by
 refine List.ext_getElem? fun j => ?_
 rw [List.getElem?_set]
 split
 · rename_i e; subst e
   have:=(List.getElem?_eq_some_iff.1 h).1
   rw [if_pos this,h]
 · rfl
theorem fset_gen {α:Type} [Enc α] {o:List α} {i n j:Nat} {x x':α} {c:T} (hn:Enc.sz α=n) (hi:i < o.length) (hj:j < n)
 (he:(enc x).set j c=enc x'):setCells (cells (o.set i x)) (i*n+j) [c]=cells (o.set i x'):=by
 subst hn
 rw [← cells_set o _ i rfl x hi,← cells_set o _ i rfl x' hi,← he]
 have hle:i*Enc.sz α+Enc.sz α≤o.length*Enc.sz α:=by
  rw [← Nat.succ_mul]; exact Nat.mul_le_mul_right _ hi
 have hl:=cells_length o
 refine List.ext_getElem? fun q => ?_
 have hlen:(setCells (cells o) (i*Enc.sz α) (enc x)).length=(cells o).length:=setCells_len _ _ _
 have l1:(enc x).length=Enc.sz α:=Enc.len x
 have l2:((enc x).set j c).length=Enc.sz α:=by rw [List.length_set]; exact l1
 rw [setCells_get [c] _ _ _ (by rw [hlen,List.length_singleton]; omega),setCells_get (enc x) _ _ _ (by omega),setCells_get ((enc x).set j c) _ _ _ (by omega),l1,l2,List.length_singleton]
 by_cases hq:i*Enc.sz α+j=q
 · subst hq
   rw [if_pos ⟨by omega,by omega⟩,if_pos ⟨by omega,by omega⟩,List.getElem?_set,if_pos (by omega),if_pos (by omega)]
   simp
 · rw [if_neg (by omega)]
   split
   · rw [List.getElem?_set,if_neg (by omega)]
   · rfl
end Ev.Ty
end
section
namespace Ev.Ty
open Go Ev
end Ev.Ty
end
section
namespace Ev.Ty
open Go Ev
open Enc (enc)
open Sm (sm)
set_option linter.unusedVariables false
set_option linter.unusedSimpArgs false
end Ev.Ty
end
section
namespace Ev.Ty
open Go Ev
open Enc (enc)
open Sm (sm)
set_option linter.unusedSimpArgs false
def inR (n a b:Int):Bool:=decide (a≤n∧n≤b)
theorem impl_within (n a b:Int):Call F.impl_within [.int .i64 n,.int .i64 a,.int .i64 b] (.bool (inR n a b)):=by
 refine call_of rfl 0 ((impl_within.ev _ _ _ _).trans ?_)
 simp only [evz,Nat.reduceLT,inR,ge_iff_le]
 by_cases h:a≤n <;> simp [h]
theorem spec_l1In (n a b:Int):Call F.spec_l1In [.int .i64 n,.int .i64 a,.int .i64 b] (.bool (inR n a b)):=by
 refine call_of rfl 0 ((spec_l1In.ev _ _ _ _).trans ?_)
 simp only [evz,Nat.reduceLT,inR,ge_iff_le]
 by_cases h:a≤n <;> simp [h]
def twice {β:Type} [DecidableEq β] (l:List β):Bool := !decide l.Nodup
theorem twice_iff {β:Type} [DecidableEq β] (l:List β):twice l=true↔∃ i j,j < i∧∃ (h:i < l.length) (h':j < l.length),l[i]=l[j]:=by
 unfold twice
 rw [Bool.not_eq_true',decide_eq_false_iff_not,List.Nodup,List.pairwise_iff_getElem]
 constructor
 · intro h
   simp only [Classical.not_forall] at h
   obtain ⟨i,j,h1,h2,h3,h4⟩:=h
   simp only [ne_eq,Classical.not_not] at h4
   exact ⟨j,i,h3,h2,h1,h4.symm⟩
 · rintro ⟨i,j,h1,h2,h3,h4⟩ h
   exact h j i h3 h2 h1 h4.symm
theorem twice_first {α β:Type} [DecidableEq β] (f:α→β) (l:List α):((List.range l.length).any fun k=>l[k]?.any fun x=>decide (idx (fun y=>decide (f y=f x)) l≠(k:Nat)))=twice (l.map f):=by
 rw [Bool.eq_iff_iff,twice_iff]
 simp only [List.any_eq_true,List.mem_range,List.length_map,List.getElem_map]
 constructor
 · rintro ⟨k,hk,h⟩
   rw [List.getElem?_eq_getElem hk,Option.any_some] at h
   simp only [decide_eq_true_eq] at h
   rcases idx_spec (fun y=>decide (f y=f l[k])) l with ⟨_,h1⟩ | ⟨i,hi,h1,h2,h3⟩
   · have:=h1 l[k] (List.getElem_mem hk)
     simp at this
   · rw [h1] at h
     simp only [decide_eq_true_eq] at h2
     rcases Nat.lt_trichotomy i k with hlt | heq | hgt
     · exact ⟨k,i,hlt,hk,hi,h2.symm⟩
     · subst heq; simp at h
     · have:=h3 k hgt
       simp at this
 · rintro ⟨i,j,hji,hi,hj,he⟩
   refine ⟨i,hi,?_⟩
   rw [List.getElem?_eq_getElem hi,Option.any_some]
   simp only [decide_eq_true_eq]
   rcases idx_spec (fun y=>decide (f y=f l[i])) l with ⟨h0,_⟩ | ⟨k,hk,h1,h2,h3⟩
   · rw [h0]; omega
   · rw [h1]
     intro hk'
     have:k=i:=by omega
     subst this
     have:=h3 j hji
     simp [he] at this
theorem twice_pairs {α β:Type} [DecidableEq β] (f:α→β) (l:List α):((List.range l.length).any fun i=>(List.range i).any fun j=>l[i]?.any fun x=>l[j]?.any fun y=>decide (f x=f y))=twice (l.map f):=by
 rw [Bool.eq_iff_iff,twice_iff]
 simp only [List.any_eq_true,List.mem_range,List.length_map,List.getElem_map]
 constructor
 · rintro ⟨i,hi,j,hj,h⟩
   rw [List.getElem?_eq_getElem hi,List.getElem?_eq_getElem (show j < l.length by omega)] at h
   exact ⟨i,j,hj,hi,by omega,by simpa using h⟩
 · rintro ⟨i,j,hji,hi,hj,he⟩
   refine ⟨i,hi,j,hji,?_⟩
   rw [List.getElem?_eq_getElem hi,List.getElem?_eq_getElem hj]
   simpa using he
end Ev.Ty
end
section
namespace Ev.Ty
open Go Ev
open Enc (enc)
open Sm (sm)
set_option linter.unusedSimpArgs false
set_option linter.unusedVariables false
def letter (b:UInt8):Bool:=decide (97≤b.toNat∧b.toNat≤122)
def nameOk (s:ByteArray):Bool:=decide (1≤s.size∧s.size≤3)&&s.data.toList.all letter
def letters:ByteArray:=ByteArray.mk #[97,98,99,100,101,102,103,104,105,106,107,108,109,110,111,112,113,114,115,116,117,118,119,120,121,122]
theorem letters_has (b:UInt8):letters.data.toList.contains b=letter b:=by
 have h:∀ n:Fin 256,letters.data.toList.contains (UInt8.ofNat n.val)=letter (UInt8.ofNat n.val):=by decide +kernel
 have:=h ⟨b.toNat,b.toNat_lt⟩
 simpa using this
theorem dropWhile_nil {α:Type} (p:α→Bool):∀ l:List α,(l.dropWhile p).isEmpty=l.all p
 | []=>rfl
 | x::l=>by
   rw [List.dropWhile_cons,List.all_cons]
   cases hp:p x with
   | true=>simpa using dropWhile_nil p l
   | false=>simp
theorem trimS_empty (l:List UInt8):(Lib.trimS l letters.data.toList).isEmpty=l.all letter:=by
 have e:(letters.data.toList.contains ·)=letter:=funext letters_has
 unfold Lib.trimS Lib.trimLeftS
 rw [e,dropWhile_nil]
 unfold Lib.trimRightS
 rw [e,List.all_reverse]
 have:∀ l:List UInt8,(l.dropWhile letter).all letter=l.all letter:=by
  intro l
  induction l with
  | nil=>rfl
  | cons x l ih =>
    rw [List.dropWhile_cons]
    cases hp:letter x with
    | true=>simp [hp,ih]
    | false=>simp [hp]
 rw [this,List.all_reverse]
theorem strings_Trim (s:ByteArray) (h:s.size≤3):Call F.strings_Trim [.str s,.str letters] (.str ⟨(Lib.trimS s.data.toList letters.data.toList).toArray⟩):=by
 refine lim_ext (e:=trimE) rfl (Ev.of fun m => ?_)
 show (bif decide (s.size≤9223372036854775807)&&decide (letters.size < 4294967281)&&letters.data.toList.all (fun b=>decide (b.toNat < 128)) then _ else _)=_
 rw [decide_eq_true (by omega),show decide (letters.size < 4294967281)=true by decide +kernel,show letters.data.toList.all (fun b=>decide (b.toNat < 128))=true by decide +kernel]
 rfl
theorem impl_isName (s:ByteArray):Call F.impl_isName [.str s] (.bool (nameOk s)):=by
 refine call_of rfl 0 ((impl_isName.ev _ _).trans ?_)
 simp only [evz,Nat.reduceLT,ge_iff_le,nameOk]
 by_cases h1:1≤s.size
 · by_cases h2:s.size≤3
   · have h1':(1:Int)≤s.size:=by omega
     have h2':(s.size:Int)≤3:=by omega
     rw [show (ByteArray.mk #[97,98,99,100,101,102,103,104,105,106,107,108,109,110,111,112,113,114,115,116,117,118,119,120,121,122])=letters from rfl]
     simp only [h1,h2,h1',h2',(strings_Trim s h2).eq,evz,Nat.reduceLT,and_self,Bool.true_and]
     rw [← trimS_empty]
     congr 3
     rw [Bool.eq_iff_iff,decide_eq_true_eq,List.isEmpty_iff]
     simp
   · have h1':(1:Int)≤s.size:=by omega
     have h2':¬ (s.size:Int)≤3:=by omega
     simp only [h1,h2,h1',h2',evz,Nat.reduceLT,and_false,Bool.false_and]
 · have h1':¬ (1:Int)≤s.size:=by omega
   simp only [h1,h1',evz,Nat.reduceLT,false_and,Bool.false_and]
theorem byte_at {s:ByteArray} {k:Nat} (h:k < s.data.toList.length):s.data.getD k 0=s.data.toList[k]:=by
 simp at h
 simp [Array.getD,h]
theorem spec_l2Name (s:ByteArray):Call F.spec_l2Name [.str s] (.bool (nameOk s)):=by
 refine call_of rfl (s.size+1) ((spec_l2Name.ev _ _).trans ?_)
 simp only [evz,Nat.reduceLT,gt_iff_lt,nameOk]
 by_cases h1:1≤s.size
 · by_cases h2:s.size≤3
   · have h1':¬ (s.size:Int) < 1:=by omega
     have h2':¬ (3:Int) < s.size:=by omega
     simp only [h1,h2,h1',h2',if_false,and_self,decide_true,Bool.true_and]
     have hsz:s.data.toList.length=s.size:=by rw [Array.length_toList]; rfl
     refine (any_loopL (l:=s.data.toList) (p:=fun b => !letter b) (S:=fun m k=>spec_l2Name.at0 (s.size+1) m (spec_l2Name.st0 s (k:Nat))) (r:=some (.bool false,[])) (z:=some (.bool true,[])) (fun m k h => ?_) (fun m => ?_) (by omega)).trans ?_
     · have h':k < s.size:=by omega
       simp only [spec_l2Name.next0,spec_l2Name.round0,evz,Nat.reduceLT,h',byte_at h]
       rw [wrap_succ (by omega)]
       unfold letter
       by_cases c1:s.data.toList[k].toNat < 97
       · have c1':(s.data.toList[k].toNat:Int) < 97:=by omega
         rw [if_pos c1',if_pos (by simp only [Bool.not_eq_true',decide_eq_false_iff_not]; omega)]
       · have c1':¬ (s.data.toList[k].toNat:Int) < 97:=by omega
         rw [if_neg c1']
         by_cases c2:122 < s.data.toList[k].toNat
         · have c2':(s.data.toList[k].toNat:Int) > 122:=by omega
           rw [if_pos c2',if_pos (by simp only [Bool.not_eq_true',decide_eq_false_iff_not]; omega)]
         · have c2':¬ (s.data.toList[k].toNat:Int) > 122:=by omega
           rw [if_neg c2',if_neg (by simp only [Bool.not_eq_true',decide_eq_false_iff_not]; omega)]
     · rw [hsz]; simp only [spec_l2Name.next0,spec_l2Name.round0,evz,Nat.reduceLT,Nat.lt_irrefl]
     · have:s.data.toList.any (fun b => !letter b) = !s.data.toList.all letter:=by rw [List.not_all_eq_any_not]
       rw [this]
       cases s.data.toList.all letter <;> rfl
   · have h1':¬ (s.size:Int) < 1:=by omega
     have h2':(3:Int) < s.size:=by omega
     simp only [h1,h2,h1',h2',evz,Nat.reduceLT,and_false,Bool.false_and]
 · have h1':(s.size:Int) < 1:=by omega
   simp only [h1,h1',evz,Nat.reduceLT,false_and,Bool.false_and]
def symFault (x:Symbol):Option Int:=if nameOk x.name=false then some 5 else if inR x.arity 0 2=false then some 3 else none
def sigFault (s:Signature):Int :=
 if s.symbols.length < 1∨6 < s.symbols.length then 2
 else match s.symbols.findSome? symFault with
  | some c=>c
  | none=>if twice (s.symbols.map (·.name)) then 6 else if s.symbols.any (fun x=>decide (x.arity=0)) then 0 else 4
theorem slices_IndexFunc_SSymbol_at1_impl_symbolIndex_1 (l:List Symbol) (hs:l.length≤4294967296) (n:ByteArray):Call F.slices_IndexFunc_SSymbol [slc l,.clo F.impl_symbolIndex_1 [.rref [.str n] 0]] (.int .i64 (idx (fun x=>decide (x.name=n)) l)):=by
 refine call_of rfl (l.length+1) ((slices_IndexFunc_SSymbol_at1_impl_symbolIndex_1.ev _ _ _).trans ?_)
 refine idx_loop (S:=fun m k=>slices_IndexFunc_SSymbol_at1_impl_symbolIndex_1.at0 (l.length+1) m (slices_IndexFunc_SSymbol_at1_impl_symbolIndex_1.st0 (cells l) n _ (k:Nat))) (fun m k h => ?_) (fun m => ?_) (Nat.lt_succ_self _)
 · have hlk:l[k]?=some l[k]:=List.getElem?_eq_getElem h
   have hc:Call F.impl_symbolIndex_1 [.agg [.str l[k].name,.int .i64 l[k].arity],.rref [.str n] 0] (.bool (decide (l[k].name=n))):=by
    refine call_of rfl 0 ((impl_symbolIndex_1.ev _ _ _ _).trans ?_)
    simp only [evz,Nat.reduceLT]
   simp only [slices_IndexFunc_SSymbol_at1_impl_symbolIndex_1.next0,slices_IndexFunc_SSymbol_at1_impl_symbolIndex_1.round0,evz,Nat.reduceLT,h,hlk,enc_Symbol,hc.eq]
   rw [wrap_succ (by omega)]
   simp only [decide_eq_true_eq]
 · simp only [slices_IndexFunc_SSymbol_at1_impl_symbolIndex_1.next0,slices_IndexFunc_SSymbol_at1_impl_symbolIndex_1.round0,evz,Nat.reduceLT,Nat.lt_irrefl]
theorem impl_symbolIndex (l:List Symbol) (hs:l.length≤4294967296) (n:ByteArray):Call F.impl_symbolIndex [.agg [slc l],.str n] (.int .i64 (idx (fun x=>decide (x.name=n)) l)):=by
 refine call_of rfl 0 ((impl_symbolIndex.ev _ _ _).trans ?_)
 simp only [evz,Nat.reduceLT,(slices_IndexFunc_SSymbol_at1_impl_symbolIndex_1 l hs n).eq]
theorem slices_IndexFunc_SSymbol_at1_impl_SignatureFault_1 (l:List Symbol) (hs:l.length≤4294967296):Call F.slices_IndexFunc_SSymbol [slc l,.clo F.impl_SignatureFault_1 []] (.int .i64 (idx (fun x=>decide (x.arity=0)) l)):=by
 refine call_of rfl (l.length+1) ((slices_IndexFunc_SSymbol_at1_impl_SignatureFault_1.ev _ _).trans ?_)
 refine idx_loop (S:=fun m k=>slices_IndexFunc_SSymbol_at1_impl_SignatureFault_1.at0 (l.length+1) m (slices_IndexFunc_SSymbol_at1_impl_SignatureFault_1.st0 (cells l) _ (k:Nat))) (fun m k h => ?_) (fun m => ?_) (Nat.lt_succ_self _)
 · have hlk:l[k]?=some l[k]:=List.getElem?_eq_getElem h
   have hc:Call F.impl_SignatureFault_1 [.agg [.str l[k].name,.int .i64 l[k].arity]] (.bool (decide (l[k].arity=0))):=by
    refine call_of rfl 0 ((impl_SignatureFault_1.ev _ _ _).trans ?_)
    simp only [evz,Nat.reduceLT]
   simp only [slices_IndexFunc_SSymbol_at1_impl_SignatureFault_1.next0,slices_IndexFunc_SSymbol_at1_impl_SignatureFault_1.round0,evz,Nat.reduceLT,h,hlk,enc_Symbol,hc.eq]
   rw [wrap_succ (by omega)]
   simp only [decide_eq_true_eq]
 · simp only [slices_IndexFunc_SSymbol_at1_impl_SignatureFault_1.next0,slices_IndexFunc_SSymbol_at1_impl_SignatureFault_1.round0,evz,Nat.reduceLT,Nat.lt_irrefl]
theorem slices_ContainsFunc_SSymbol_at1_impl_SignatureFault_1 (l:List Symbol) (hs:l.length≤4294967296):Call F.slices_ContainsFunc_SSymbol [slc l,.clo F.impl_SignatureFault_1 []] (.bool (l.any fun x=>decide (x.arity=0))):=by
 refine call_of rfl 0 ((slices_ContainsFunc_SSymbol_at1_impl_SignatureFault_1.ev _ _).trans ?_)
 simp only [evz,Nat.reduceLT,(slices_IndexFunc_SSymbol_at1_impl_SignatureFault_1 l hs).eq,idx_nonneg]
theorem impl_SignatureFault (l:List Symbol) (hs:l.length≤4294967296):Call F.impl_SignatureFault [.agg [slc l]] (.int .i64 (sigFault ⟨l⟩)):=by
 refine call_of rfl (l.length+1) ((impl_SignatureFault.ev _ _).trans ?_)
 simp only [evz,Nat.reduceLT,sigFault,gt_iff_lt]
 by_cases h1:l.length < 1
 · have h1':(l.length:Int) < 1:=by omega
   simp only [h1,h1',evz,Nat.reduceLT,true_or]
 by_cases h2:6 < l.length
 · have h1':¬ (l.length:Int) < 1:=by omega
   have h2':(6:Int) < l.length:=by omega
   simp only [h1,h1',h2,h2',evz,Nat.reduceLT,or_true]
 have h1':¬ (l.length:Int) < 1:=by omega
 have h2':¬ (6:Int) < l.length:=by omega
 simp only [h1,h1',h2,h2',if_false,or_self]
 have two:=any_loop (n:=l.length) (bad:=fun k=>l[k]?.any fun x=>decide (idx (fun y=>decide (y.name=x.name)) l≠(k:Nat)))
  (S:=fun m k=>impl_SignatureFault.at2 (l.length+1) m (impl_SignatureFault.st2 (cells l) l.length (k:Nat) (cells l))) (r:=some (.int .i64 6,[])) (z:=if l.any (fun x=>decide (x.arity=0)) then some (.int .i64 0,[]) else some (.int .i64 4,[]))
  (fun m k h=>by
   have hlk:l[k]?=some l[k]:=List.getElem?_eq_getElem h
   simp only [impl_SignatureFault.next2,impl_SignatureFault.round2,evz,Nat.reduceLT,h,hlk,enc_Symbol,(impl_symbolIndex l hs _).eq]
   rw [wrap_succ (by omega)]
   by_cases e:idx (fun y=>decide (y.name=l[k].name)) l=(k:Int) <;> simp [e])
  (fun m=>by
   simp only [impl_SignatureFault.next2,impl_SignatureFault.round2,evz,Nat.reduceLT,Nat.lt_irrefl,(slices_ContainsFunc_SSymbol_at1_impl_SignatureFault_1 l hs).eq]
   cases l.any (fun x=>decide (x.arity=0)) <;> rfl) (Nat.lt_succ_self _)
 have one:=scan_loop (l:=l) (g:=fun x=>(symFault x).map fun c=>some (.int .i64 c,[]))
  (S:=fun m k=>impl_SignatureFault.at0 (l.length+1) m (impl_SignatureFault.st0 (cells l) l.length (k:Nat) (cells l)))
  (fun m k h=>by
   have hlk:l[k]?=some l[k]:=List.getElem?_eq_getElem h
   simp only [impl_SignatureFault.next0,impl_SignatureFault.round0,evz,Nat.reduceLT,h,hlk,enc_Symbol,(impl_isName _).eq,(impl_within _ _ _).eq]
   rw [wrap_succ (by omega)]
   cases h5:nameOk l[k].name with
   | false=>simp [symFault,h5]
   | true=>cases h6:inR l[k].arity 0 2 <;> simp [symFault,h5,h6])
  (fun m=>by simp only [impl_SignatureFault.next0,impl_SignatureFault.round0,evz,Nat.reduceLT,Nat.lt_irrefl]; rfl) (Nat.lt_succ_self _)
 refine one.trans ?_
 rw [show impl_SignatureFault.at2 (l.length+1) (l.length+1) (impl_SignatureFault.st2 (cells l) l.length 0 (cells l))=_ from two,twice_first (fun y:Symbol=>y.name),findSome_map]
 cases l.findSome? symFault with
 | some c=>rfl
 | none=>cases twice (l.map fun x=>x.name) <;> cases l.any (fun x=>decide (x.arity=0)) <;> rfl
theorem spec_SignatureFault (l:List Symbol) (hs:l.length≤4294967296):Call F.spec_SignatureFault [.agg [slc l]] (.int .i64 (sigFault ⟨l⟩)):=by
 obtain ⟨n,hn⟩:∃ n,n=l.length+1:=⟨_,rfl⟩
 refine call_of rfl n ((spec_SignatureFault.ev _ _).trans ?_)
 simp only [evz,Nat.reduceLT,sigFault,gt_iff_lt]
 by_cases h1:l.length < 1
 · have h1':(l.length:Int) < 1:=by omega
   simp only [h1,h1',evz,Nat.reduceLT,true_or]
 by_cases h2:6 < l.length
 · have h1':¬ (l.length:Int) < 1:=by omega
   have h2':(6:Int) < l.length:=by omega
   simp only [h1,h1',h2,h2',evz,Nat.reduceLT,or_true]
 have h1':¬ (l.length:Int) < 1:=by omega
 have h2':¬ (6:Int) < l.length:=by omega
 simp only [h1,h1',h2,h2',if_false,or_self]
 have six:=any_loopL (l:=l) (p:=fun x=>decide (x.arity=0)) (S:=fun m k=>spec_SignatureFault.at6 n m (spec_SignatureFault.st6 l.length (k:Nat) (cells l))) (r:=some (.int .i64 0,[])) (z:=some (.int .i64 4,[]))
  (fun m k h=>by
   have hlk:l[k]?=some l[k]:=List.getElem?_eq_getElem h
   simp only [spec_SignatureFault.next6,spec_SignatureFault.round6,evz,Nat.reduceLT,h,hlk,enc_Symbol]
   rw [wrap_succ (by omega)]
   simp only [decide_eq_true_eq])
  (fun m=>by simp only [spec_SignatureFault.next6,spec_SignatureFault.round6,evz,Nat.reduceLT,Nat.lt_irrefl]) (show l.length < n by omega)
 have two:=any_loop (n:=l.length) (bad:=fun i=>(List.range i).any fun j=>l[i]?.any fun x=>l[j]?.any fun y=>decide (x.name=y.name))
  (S:=fun m i=>spec_SignatureFault.at2 n m (spec_SignatureFault.st2 l.length (i:Nat) (cells l))) (r:=some (.int .i64 6,[]))
  (fun m i h=>by
   have hlk:l[i]?=some l[i]:=List.getElem?_eq_getElem h
   simp only [spec_SignatureFault.next2,spec_SignatureFault.round2,evz,Nat.reduceLT,h]
   refine any_loop (n:=i) (f:=n) (bad:=fun j=>l[i]?.any fun x=>l[j]?.any fun y=>decide (x.name=y.name))
    (S:=fun m' j=>spec_SignatureFault.at4 n (spec_SignatureFault.at2 n m) m' (spec_SignatureFault.st4 l.length (i:Nat) (j:Nat) (cells l))) (fun m' j hj => ?_) (fun m' => ?_) (by omega)
   · have hj':j < l.length:=by omega
     have hjk:l[j]?=some l[j]:=List.getElem?_eq_getElem hj'
     simp only [spec_SignatureFault.next4,spec_SignatureFault.round4,evz,Nat.reduceLT,h,hj,hj',hlk,hjk,enc_Symbol]
     rw [wrap_succ (by omega)]
     by_cases e:l[i].name=l[j].name <;> simp [e]
   · simp only [spec_SignatureFault.next4,spec_SignatureFault.round4,evz,Nat.reduceLT,Nat.lt_irrefl]
     rw [wrap_succ (by omega)])
  (fun m=>by simp only [spec_SignatureFault.next2,spec_SignatureFault.round2,evz,Nat.reduceLT,Nat.lt_irrefl]; exact six) (show l.length < n by omega)
 have one:=scan_loop (l:=l) (g:=fun x=>(symFault x).map fun c=>some (.int .i64 c,[]))
  (S:=fun m k=>spec_SignatureFault.at0 n m (spec_SignatureFault.st0 l.length (k:Nat) (cells l)))
  (fun m k h=>by
   have hlk:l[k]?=some l[k]:=List.getElem?_eq_getElem h
   simp only [spec_SignatureFault.next0,spec_SignatureFault.round0,evz,Nat.reduceLT,h,hlk,enc_Symbol,(spec_l2Name _).eq,(spec_l1In _ _ _).eq]
   rw [wrap_succ (by omega)]
   cases h5:nameOk l[k].name with
   | false=>simp [symFault,h5]
   | true=>cases h6:inR l[k].arity 0 2 <;> simp [symFault,h5,h6])
  (fun m=>by simp only [spec_SignatureFault.next0,spec_SignatureFault.round0,evz,Nat.reduceLT,Nat.lt_irrefl]; rfl) (show l.length < n by omega)
 refine one.trans ?_
 rw [show spec_SignatureFault.at2 n n (spec_SignatureFault.st2 l.length 0 (cells l))=_ from two,twice_pairs (fun y:Symbol=>y.name),findSome_map]
 cases l.findSome? symFault with
 | some c=>rfl
 | none=>cases twice (l.map fun x=>x.name) <;> cases l.any (fun x=>decide (x.arity=0)) <;> rfl
end Ev.Ty
end
section
namespace Ev.Ty
open Go Ev
open Enc (enc)
open Sm (sm)
set_option linter.unusedSimpArgs false
set_option linter.unusedVariables false
theorem inR_iff {n a b:Int}:inR n a b=true↔a≤n∧n≤b:=by unfold inR; simp
structure SigOk (s:Signature):Prop where
 pos:1≤s.symbols.length
 le:s.symbols.length≤6
 name:∀ x∈s.symbols,nameOk x.name=true
 arity:∀ x∈s.symbols,0≤x.arity∧x.arity≤2
 nodup:(s.symbols.map (·.name)).Nodup
 const:∃ x∈s.symbols,x.arity=0
theorem findSome_none {α β:Type} {f:α→Option β}:∀ {l:List α},l.findSome? f=none↔∀ x∈l,f x=none
 | []=>by simp
 | x::l=>by
   rw [List.findSome?_cons]
   cases h:f x with
   | some b=>simp [h]
   | none=>simp [h,findSome_none (l:=l)]
theorem sigOk_iff (s:Signature):sigFault s=0↔SigOk s:=by
 unfold sigFault
 constructor
 · intro h
   split at h
   · cases h
   · rename_i h1
     split at h
     · rename_i c hc
       obtain ⟨x,hx,hf⟩:=List.exists_of_findSome?_eq_some hc
       unfold symFault at hf
       split at hf
       · cases hf; cases h
       · split at hf
         · cases hf; cases h
         · cases hf
     · rename_i hn
       rw [findSome_none] at hn
       split at h
       · cases h
       · rename_i ht
         split at h
         · rename_i ha
           have hx:∀ x∈s.symbols,nameOk x.name=true∧inR x.arity 0 2=true:=fun x hx=>by
            have:=hn x hx
            unfold symFault at this
            split at this
            · cases this
            · split at this
              · cases this
              · rename_i h1 h2; exact ⟨by simpa using h1,by simpa using h2⟩
           refine ⟨by omega,by omega,fun x h=>(hx x h).1,fun x h=>inR_iff.1 (hx x h).2,?_,?_⟩
           · unfold twice at ht; simpa using ht
           · rw [List.any_eq_true] at ha
             obtain ⟨x,h1,h2⟩:=ha
             exact ⟨x,h1,by simpa using h2⟩
         · cases h
 · intro h
   rw [if_neg (by have:=h.pos; have:=h.le; omega)]
   have:s.symbols.findSome? symFault=none:=findSome_none.2 fun x hx=>by
    unfold symFault
    rw [if_neg (by simp [h.name x hx]),if_neg (by have:=inR_iff.2 (h.arity x hx); simp [this])]
   rw [this]
   simp only
   rw [if_neg (by unfold twice; simpa using h.nodup),if_pos]
   rw [List.any_eq_true]
   obtain ⟨x,h1,h2⟩:=h.const
   exact ⟨x,h1,by simpa using h2⟩
end Ev.Ty
end
section
namespace Ev.Ty
open Go Ev
open Enc (enc)
open Sm (sm)
set_option linter.unusedSimpArgs false
set_option linter.unusedVariables false
def ar (l:List Symbol) (n:Int):Nat:=if n < 0 then 0 else ((l[n.toNat]?).map fun x=>x.arity.toNat).getD 0
def nodeOk (l:List Symbol) (n:Int):Bool:=inR n 0 (l.length - 1)||inR n (-12) (-1)
def skip (a:Int→Nat):Nat→List Int→Option (List Int)
 | 0,l=>some l
 | _+1,[]=>none
 | k+1,n::l=>skip a (k+a n) l
def termFault0 (l:List Symbol) (t:List Int):Int :=
 if t.length < 1∨24 < t.length then 2 else if t.any (fun n => !nodeOk l n) then 3 else if skip (ar l) 1 t=some [] then 0 else 1
def termFault (s:Signature) (t:List Int):Int:=if sigFault s≠0 then sigFault s else termFault0 s.symbols t
section
variable {a:Int→Nat}
@[simp] theorem skip_zero (l:List Int):skip a 0 l=some l:=by cases l <;> rfl
theorem skip_suffix:∀ {l r:List Int} {k:Nat},skip a k l=some r→∃ p,l=p++r∧(0 < k→0 < p.length)
 | l,r,0,h=>by rw [skip_zero] at h; cases h; exact ⟨[],rfl,by omega⟩
 | [],r,k+1,h=>by cases h
 | n::l,r,k+1,h=>by
   obtain ⟨p,hp,_⟩:=skip_suffix (l:=l) (k:=k+a n) h
   exact ⟨n::p,by rw [hp]; rfl,by simp⟩
theorem skip_add:∀ (l:List Int) (j k:Nat),skip a (j+k) l=(skip a j l).bind (skip a k)
 | l,0,k=>by simp
 | [],j+1,k=>by rw [Nat.add_right_comm]; rfl
 | n::l,j+1,k=>by
   rw [Nat.add_right_comm]
   show skip a (j+k+a n) l=(skip a (j+a n) l).bind (skip a k)
   rw [Nat.add_right_comm,skip_add l (j+a n) k]
theorem skip_at {t r:List Int} {e k:Nat} (h:skip a k (t.drop e)=some r):r=t.drop (t.length - r.length)∧r.length≤t.length - e∧(0 < k→r.length < t.length - e):=by
 obtain ⟨p,hp,hk⟩:=skip_suffix h
 have hl:(t.drop e).length=p.length+r.length:=by rw [hp,List.length_append]
 rw [List.length_drop] at hl
 refine ⟨?_,by omega,fun h0=>by have:=hk h0; omega⟩
 have h1:t.length - r.length=e+p.length∨t.length≤e:=by omega
 rcases h1 with h1 | h1
 · rw [h1,← List.drop_drop,hp,List.drop_left]
 · have:r.length=0:=by omega
   rw [List.eq_nil_of_length_eq_zero this]
   simp
end
theorem nodeOk_iff {l:List Symbol} {n:Int}:nodeOk l n=true↔(0≤n∧n < l.length)∨(-12≤n∧n ≤ -1):=by
 unfold nodeOk
 rw [Bool.or_eq_true,inR_iff,inR_iff]
 omega
section
variable {l:List Symbol} (ok:SigOk ⟨l⟩)
include ok
theorem ar_le (n:Int):ar l n≤2:=by
 unfold ar
 split
 · omega
 · cases h:l[n.toNat]? with
   | none=>simp
   | some x =>
     have:=ok.arity x (List.mem_of_getElem? h)
     simp; omega
theorem impl_isNode (n:Int):Call F.impl_isNode [.agg [slc l],.int .i64 n] (.bool (nodeOk l n)):=by
 have hle:=ok.le
 have h1:Call F.impl_isSymbol [.agg [slc l],.int .i64 n] (.bool (inR n 0 (l.length - 1))):=by
  refine call_of rfl 0 ((impl_isSymbol.ev _ _ _).trans ?_)
  simp only [evz,Nat.reduceLT,wrap64 (x:=(l.length:Int) - 1) (by simp at hle; omega),(impl_within _ _ _).eq]
 refine call_of rfl 0 ((impl_isNode.ev _ _ _).trans ?_)
 simp only [evz,Nat.reduceLT,h1.eq,(impl_within _ _ _).eq,nodeOk]
 cases inR n 0 (l.length - 1) <;> simp [evz,Nat.reduceLT]
theorem spec_l3Node (n:Int):Call F.spec_l3Node [.rref [slc l] 0,.int .i64 n] (.bool (nodeOk l n)):=by
 have hle:=ok.le
 have h1:Call F.spec_l2Symbol [.rref [slc l] 0,.int .i64 n] (.bool (inR n 0 (l.length - 1))):=by
  refine call_of rfl 0 ((spec_l2Symbol.ev _ _ _).trans ?_)
  simp only [evz,Nat.reduceLT,wrap64 (x:=(l.length:Int) - 1) (by simp at hle; omega),(spec_l1In _ _ _).eq]
 refine call_of rfl 0 ((spec_l3Node.ev _ _ _).trans ?_)
 simp only [evz,Nat.reduceLT,h1.eq,(spec_l1In _ _ _).eq,nodeOk]
 cases inR n 0 (l.length - 1) <;> simp [evz,Nat.reduceLT]
theorem ar_eq {n:Int} (hn:0≤n) (h:n.toNat < l.length):(l[n.toNat]).arity=(ar l n:Nat):=by
 have:=ok.arity l[n.toNat] (List.getElem_mem h)
 unfold ar
 rw [if_neg (by omega),List.getElem?_eq_getElem h]
 simp; omega
theorem impl_arityOf (n:Int) (h:nodeOk l n=true):Call F.impl_arityOf [.agg [slc l],.int .i64 n] (.int .i64 (ar l n:Nat)):=by
 refine call_of rfl 0 ((impl_arityOf.ev _ _ _).trans ?_)
 rw [nodeOk_iff] at h
 by_cases hn:n < 0
 · simp [hn,ar]
 · obtain ⟨m,rfl⟩:∃ m:Nat,n=m:=⟨n.toNat,by omega⟩
   have hm:m < l.length:=by omega
   have e:=ar_eq ok (n:=m) (by omega) (by simpa using hm)
   have hl:l[m]?=some l[m]:=List.getElem?_eq_getElem hm
   have hn':¬ ((m:Int) < 0):=by omega
   simp only [evz,Nat.reduceLT,hn',hm,hl,enc_Symbol]
   simp at e
   rw [e]
def endRes (none':Int) (t:List Int) (r:Option (List Int)):Int:=match r with
 | some r=>((t.length - r.length:Nat):Int)
 | none=>none'
theorem impl_endOf (t:List Int) (ht:∀ n∈t,nodeOk l n=true) (hl:t.length≤4294967296) (e:Nat) (he:e≤t.length) :
 Call F.impl_endOf [.agg [slc l],slc t,.int .i64 e] (.int .i64 (endRes (t.length+1) t (skip (ar l) 1 (t.drop e)))):=by
 have loop:∀ m k o,k≤t.length→t.length+1 < m+k→o≤2*k+1 →
  impl_endOf.at0 (t.length+2) m (impl_endOf.st0 (cells t) (k:Nat) (o:Nat) (cells l))=some (.int .i64 (endRes (t.length+1) t (skip (ar l) o (t.drop k))),[]):=by
  intro m
  induction m with
  | zero=>intros; omega
  | succ m ih =>
    intro k o hk hm ho
    simp only [impl_endOf.next0,impl_endOf.round0,evz,Nat.reduceLT,gt_iff_lt,ge_iff_le]
    cases o with
    | zero =>
      rw [if_neg (by omega),skip_zero]
      simp only [endRes,List.length_drop]
      congr 3; omega
    | succ o =>
      rw [if_pos (by omega)]
      by_cases h:k < t.length
      · have hk':t[k]?=some t[k]:=List.getElem?_eq_getElem h
        have hn:=ht t[k] (List.getElem_mem h)
        have h2:=ar_le ok t[k]
        rw [if_neg (by omega)]
        simp only [h,hk',evz,Nat.reduceLT,enc_int,(impl_arityOf ok t[k] hn).eq]
        rw [wrap_succ (by omega),wrap64 (x:=((ar l t[k]:Nat):Int) - 1) (by omega),wrap64 (by omega)]
        rw [show ((o+1:Nat):Int)+(((ar l t[k]:Nat):Int) - 1)=((o+ar l t[k]:Nat):Int) by omega]
        rw [ih (k+1) (o+ar l t[k]) (by omega) (by omega) (by omega),List.drop_eq_getElem_cons h]
        rfl
      · obtain rfl:k=t.length:=by omega
        rw [if_pos (by omega),wrap64 (by omega),List.drop_of_length_le (Nat.le_refl _)]
        rfl
 refine call_of rfl (t.length+2) ((impl_endOf.ev _ _ _ _).trans ?_)
 have:=loop (t.length+2) e 1 he (by omega) (by omega)
 exact this
theorem spec_l3End (t:List Int) (ht:∀ n∈t,nodeOk l n=true) (hl:t.length≤4294967296) (e:Nat) (he:e≤t.length) :
 Call F.spec_l3End [.rref [slc l] 0,slc t,.int .i64 e] (.int .i64 (endRes (-1) t (skip (ar l) 1 (t.drop e)))):=by
 obtain ⟨d,hd⟩:∃ d,d=t.length - e:=⟨_,rfl⟩
 induction d using Nat.strongRecOn generalizing e with
 | ind d ih =>
 refine call_of rfl 4 ((spec_l3End.ev _ _ _ _).trans ?_)
 simp only [evz,Nat.reduceLT,ge_iff_le]
 by_cases h:e < t.length
 case neg =>
  obtain rfl:e=t.length:=by omega
  rw [if_pos (by omega),List.drop_of_length_le (Nat.le_refl _)]
  rfl
 have hk':t[e]?=some t[e]:=List.getElem?_eq_getElem h
 have hn:=ht t[e] (List.getElem_mem h)
 have h2:=ar_le ok t[e]
 rw [if_neg (by omega)]
 simp only [h,hk',evz,Nat.reduceLT,enc_int]
 rw [List.drop_eq_getElem_cons h]
 show _=some (T.int .i64 (endRes (-1) t (skip (ar l) (0+ar l t[e]) (t.drop (e+1)))),[])
 rw [Nat.zero_add,wrap_succ (by omega)]
 by_cases hneg:t[e] < 0
 · rw [if_pos hneg]
   have:ar l t[e]=0:=by unfold ar; rw [if_pos hneg]
   rw [this,skip_zero]
   simp only [endRes,List.length_drop]
   congr 3; omega
 rw [if_neg hneg]
 rw [nodeOk_iff] at hn
 obtain ⟨y,hy⟩:∃ y:Nat,t[e]=y:=⟨t[e].toNat,by omega⟩
 have hym:y < l.length:=by omega
 have hyl:l[y]?=some l[y]:=List.getElem?_eq_getElem hym
 have hya:l[y].arity=(ar l t[e]:Nat):=by
  have:=ar_eq ok (n:=t[e]) (by omega) (by omega)
  simpa [hy] using this
 have loop:∀ m i k,e < k→k≤t.length→i≤ar l t[e]→ar l t[e] < m+i →
  spec_l3End.at0 4 m (spec_l3End.st0 (cells l) (cells t) e (k:Nat) (i:Nat))=some (.int .i64 (endRes (-1) t (skip (ar l) (ar l t[e] - i) (t.drop k))),[]):=by
  intro m
  induction m with
  | zero=>intros; omega
  | succ m ihm =>
    intro i k hk1 hk2 hi hm
    simp only [spec_l3End.next0,spec_l3End.round0,evz,Nat.reduceLT,h,hk',enc_int]
    simp only [hy,evz,Nat.reduceLT,hym,hyl,enc_Symbol,hya]
    by_cases hia:i < ar l t[e]
    · rw [hy] at hia
      rw [if_pos hia,(ih (t.length - k) (by omega) k hk2 rfl).eq]
      simp only [evz,Nat.reduceLT]
      rw [← hy] at hia
      rw [show ar l ((y:Nat):Int) - i=1+(ar l t[e] - (i+1)) by rw [hy]; rw [hy] at hia; omega,skip_add]
      cases hs:skip (ar l) 1 (t.drop k) with
      | none=>rfl
      | some r =>
        obtain ⟨hr1,hr2,hr3⟩:=skip_at hs
        have hr4:=hr3 (by omega)
        have hnn:¬ endRes (-1) t (some r) < 0:=by show ¬ ((t.length - r.length:Nat):Int) < 0; omega
        rw [if_neg hnn,wrap_succ (by omega),show endRes (-1) t (some r)=((t.length - r.length:Nat):Int) from rfl,ihm (i+1) (t.length - r.length) (by omega) (by omega) (by omega) (by omega),← hr1]
        rfl
    · have:i=ar l t[e]:=by omega
      rw [if_neg (by rw [← hy]; exact hia),show ar l ((y:Nat):Int) - i=0 by rw [← hy]; omega,skip_zero]
      simp only [endRes,List.length_drop]
      congr 3; omega
 have:=loop 4 0 (e+1) (by omega) (by omega) (by omega) (by omega)
 exact this
end
theorem any_nodes {l:List Symbol} {t:List Int}:(t.any fun n => !nodeOk l n)=false↔∀ n∈t,nodeOk l n=true:=by
 rw [List.any_eq_false]; simp
theorem skip_whole {a:Int→Nat} {t:List Int}:(endRes (t.length+1) t (skip a 1 t)=t.length↔skip a 1 t=some [])∧(endRes (-1) t (skip a 1 t)=t.length↔skip a 1 t=some []):=by
 cases h:skip a 1 t with
 | none=>simp [endRes]; omega
 | some r =>
   obtain ⟨p,hp,_⟩:=skip_suffix h
   have:r.length≤t.length:=by rw [hp]; simp
   cases r with
   | nil=>simp [endRes]
   | cons x r =>
     simp only [List.length_cons] at this
     refine ⟨⟨fun h => ?_,fun h=>by cases h⟩,⟨fun h => ?_,fun h=>by cases h⟩⟩ <;> (simp only [endRes,List.length_cons] at h; omega)
theorem slices_ContainsFunc_Sint64_at1_impl_TermFault_1 (l:List Symbol) (ok:SigOk ⟨l⟩) (t:List Int) (hs:t.length≤4294967296) :
 Call F.slices_ContainsFunc_Sint64 [slc t,.clo F.impl_TermFault_1 [.rref [slc l] 0]] (.bool (t.any fun n => !nodeOk l n)):=by
 have hi:Call F.slices_IndexFunc_Sint64 [slc t,.clo F.impl_TermFault_1 [.rref [slc l] 0]] (.int .i64 (idx (fun n => !nodeOk l n) t)):=by
  refine call_of rfl (t.length+1) ((slices_IndexFunc_Sint64_at1_impl_TermFault_1.ev _ _ _).trans ?_)
  refine idx_loop (S:=fun m k=>slices_IndexFunc_Sint64_at1_impl_TermFault_1.at0 (t.length+1) m (slices_IndexFunc_Sint64_at1_impl_TermFault_1.st0 (cells t) _ _ (k:Nat))) (fun m k h => ?_) (fun m => ?_) (Nat.lt_succ_self _)
  · have hlk:t[k]?=some t[k]:=List.getElem?_eq_getElem h
    have hc:Call F.impl_TermFault_1 [.int .i64 t[k],.rref [slc l] 0] (.bool (!nodeOk l t[k])):=by
     refine call_of rfl 0 ((impl_TermFault_1.ev _ _ _).trans ?_)
     simp only [evz,Nat.reduceLT,(impl_isNode ok _).eq]
    simp only [slices_IndexFunc_Sint64_at1_impl_TermFault_1.next0,slices_IndexFunc_Sint64_at1_impl_TermFault_1.round0,evz,Nat.reduceLT,h,hlk,enc_int,hc.eq]
    rw [wrap_succ (by omega)]
    cases nodeOk l t[k] <;> rfl
  · simp only [slices_IndexFunc_Sint64_at1_impl_TermFault_1.next0,slices_IndexFunc_Sint64_at1_impl_TermFault_1.round0,evz,Nat.reduceLT,Nat.lt_irrefl]
 refine call_of rfl 0 ((slices_ContainsFunc_Sint64_at1_impl_TermFault_1.ev _ _ _).trans ?_)
 simp only [evz,Nat.reduceLT,hi.eq,idx_nonneg]
theorem impl_TermFault (l:List Symbol) (hs:l.length≤4294967296) (t:List Int) (ht:t.length≤4294967296):Call F.impl_TermFault [.agg [slc l],slc t] (.int .i64 (termFault ⟨l⟩ t)):=by
 refine call_of rfl 0 ((impl_TermFault.ev _ _ _).trans ?_)
 simp only [evz,Nat.reduceLT,(impl_SignatureFault l hs).eq,termFault,termFault0,gt_iff_lt]
 by_cases h1:sigFault ⟨l⟩=0
 case neg=>simp only [h1,evz,Nat.reduceLT,ne_eq,not_false_eq_true]
 have ok:=(sigOk_iff _).1 h1
 simp only [h1,evz,Nat.reduceLT,ne_eq,not_true_eq_false]
 by_cases h2:t.length < 1
 · have h2':(t.length:Int) < 1:=by omega
   simp only [h2,h2',evz,Nat.reduceLT,true_or]
 by_cases h3:24 < t.length
 · have h2':¬ (t.length:Int) < 1:=by omega
   have h3':(24:Int) < t.length:=by omega
   simp only [h2,h2',h3,h3',evz,Nat.reduceLT,or_true]
 have h2':¬ (t.length:Int) < 1:=by omega
 have h3':¬ (24:Int) < t.length:=by omega
 simp only [h2,h2',h3,h3',evz,Nat.reduceLT,or_self,(slices_ContainsFunc_Sint64_at1_impl_TermFault_1 l ok t ht).eq]
 cases h4:t.any fun n => !nodeOk l n with
 | true=>simp only [evz,Nat.reduceLT]
 | false =>
   have hn:=any_nodes.1 h4
   have he:=impl_endOf ok t hn ht 0 (by omega)
   simp only [evz,Nat.reduceLT,Bool.false_eq_true,show LIM F.impl_endOf [.agg [slc l],slc t,.int .i64 0]=_ from he,List.drop_zero]
   by_cases h5:skip (ar l) 1 t=some []
   · rw [if_pos (skip_whole.1.2 h5),if_pos h5]
   · rw [if_neg fun h=>h5 (skip_whole.1.1 h),if_neg h5]
theorem spec_l3Fault (l:List Symbol) (ok:SigOk ⟨l⟩) (t:List Int) (ht:t.length≤4294967296):Call F.spec_l3Fault [.rref [slc l] 0,slc t] (.int .i64 (termFault0 l t)):=by
 refine call_of rfl (t.length+1) ((spec_l3Fault.ev _ _ _).trans ?_)
 simp only [evz,Nat.reduceLT,termFault0,gt_iff_lt]
 by_cases h2:t.length < 1
 · have h2':(t.length:Int) < 1:=by omega
   simp only [h2,h2',evz,Nat.reduceLT,true_or]
 by_cases h3:24 < t.length
 · have h2':¬ (t.length:Int) < 1:=by omega
   have h3':(24:Int) < t.length:=by omega
   simp only [h2,h2',h3,h3',evz,Nat.reduceLT,or_true]
 have h2':¬ (t.length:Int) < 1:=by omega
 have h3':¬ (24:Int) < t.length:=by omega
 simp only [h2,h2',h3,h3',evz,Nat.reduceLT,or_self]
 have step:∀ m k (h:k < t.length),spec_l3Fault.at0 (t.length+1) (m+1) (spec_l3Fault.st0 (cells l) (cells t) (k:Nat)) =
  if (fun n => !nodeOk l n) t[k]=true then some (.int .i64 3,[]) else spec_l3Fault.at0 (t.length+1) m (spec_l3Fault.st0 (cells l) (cells t) ((k+1:Nat):Int)):=fun m k h=>by
  have hlk:t[k]?=some t[k]:=List.getElem?_eq_getElem h
  simp only [spec_l3Fault.next0,spec_l3Fault.round0,evz,Nat.reduceLT,h,hlk,enc_int,(spec_l3Node ok _).eq]
  rw [wrap_succ (by omega)]
  by_cases hb:nodeOk l t[k]=true <;> simp [hb]
 cases h4:t.any fun n => !nodeOk l n with
 | true =>
   refine (hit_loop (p:=fun n => !nodeOk l n) (r:=some (.int .i64 3,[])) (S:=fun m k=>spec_l3Fault.at0 (t.length+1) m (spec_l3Fault.st0 (cells l) (cells t) (k:Nat))) step h4 (Nat.lt_succ_self _)).trans ?_
   simp only [evz,Nat.reduceLT]
 | false =>
   have hn:=any_nodes.1 h4
   have he:=spec_l3End ok t hn ht 0 (by omega)
   refine (any_loopL (p:=fun n => !nodeOk l n) (r:=some (.int .i64 3,[])) (S:=fun m k=>spec_l3Fault.at0 (t.length+1) m (spec_l3Fault.st0 (cells l) (cells t) (k:Nat))) (z:=if skip (ar l) 1 t=some [] then some (.int .i64 0,[]) else some (.int .i64 1,[])) step (fun m => ?_) (Nat.lt_succ_self _)).trans ?_
   · simp only [spec_l3Fault.next0,spec_l3Fault.round0,evz,Nat.reduceLT,Nat.lt_irrefl,show LIM F.spec_l3End [.rref [slc l] 0,slc t,.int .i64 0]=_ from he,List.drop_zero]
     by_cases h5:skip (ar l) 1 t=some []
     · rw [if_pos (skip_whole.2.2 h5),if_pos h5]
     · rw [if_neg fun h=>h5 (skip_whole.2.1 h),if_neg h5]
   · rw [h4]
     simp only [evz,Nat.reduceLT,Bool.false_eq_true]
     by_cases h5:skip (ar l) 1 t=some [] <;> simp only [h5,if_true,if_false]
end Ev.Ty
end
section
namespace Ev.Ty
open Go Ev
set_option linter.unusedSimpArgs false
set_option linter.unusedVariables false
inductive Tm where
 | v (n:Int)
 | k (n:Int)
 | u (n:Int) (x:Tm)
 | b (n:Int) (x y:Tm)
 deriving DecidableEq
namespace Tm
def flat:Tm→List Int
 | v n=>[n]
 | k n=>[n]
 | u n x=>n::x.flat
 | b n x y=>n::(x.flat++y.flat)
def head:Tm→Int
 | v n=>n
 | k n=>n
 | u n _=>n
 | b n _ _=>n
def ok (a:Int→Nat):Tm→Prop
 | v n=>n < 0
 | k n=>0≤n∧a n=0
 | u n x=>0≤n∧a n=1∧x.ok a
 | b n x y=>0≤n∧a n=2∧x.ok a∧y.ok a
theorem flat_pos (x:Tm):0 < x.flat.length:=by cases x <;> simp [flat]
theorem flat_head (x:Tm):∃ r,x.flat=x.head::r:=by cases x <;> exact ⟨_,rfl⟩
variable {a:Int→Nat}
theorem skip_flat (ha:∀ n,n < 0→a n=0):∀ (x:Tm) (r:List Int) (j:Nat),x.ok a→skip a (j+1) (x.flat++r)=skip a j r
 | v n,r,j,h=>by
   show skip a (j+a n) r=_
   rw [ha n h,Nat.add_zero]
 | k n,r,j,h=>by
   show skip a (j+a n) r=_
   rw [h.2,Nat.add_zero]
 | u n x,r,j,h=>by
   show skip a (j+a n) (x.flat++r)=_
   rw [h.2.1]; exact skip_flat ha x r j h.2.2
 | b n x y,r,j,h=>by
   show skip a (j+a n) ((x.flat++y.flat)++r)=_
   rw [h.2.1,List.append_assoc,skip_flat ha x _ (j+1) h.2.2.1,skip_flat ha y _ j h.2.2.2]
theorem parse (ha:∀ n,n < 0→a n=0) (h2:∀ n,a n≤2):∀ (m:Nat) (l r:List Int),l.length≤m→skip a 1 l=some r→∃ x:Tm,x.ok a∧l=x.flat++r
 | _,[],r,_,h=>by cases h
 | 0,n::l,r,hm,h=>by simp at hm
 | m+1,n::l,r,hm,h=>by
   have hm:l.length≤m:=by simpa using hm
   have h:skip a (0+a n) l=some r:=h
   rw [Nat.zero_add] at h
   by_cases hn:n < 0
   · rw [ha n hn,skip_zero] at h; cases h
     exact ⟨.v n,hn,rfl⟩
   · have:=h2 n
     have h3:a n=0∨a n=1∨a n=2:=by omega
     rcases h3 with h0 | h1 | h2'
     · rw [h0,skip_zero] at h; cases h
       exact ⟨.k n,⟨by omega,h0⟩,rfl⟩
     · rw [h1] at h
       obtain ⟨x,hx,rfl⟩:=parse ha h2 m l r hm h
       exact ⟨.u n x,⟨by omega,h1,hx⟩,rfl⟩
     · rw [h2',show 2=1+1 from rfl,skip_add] at h
       cases hs:skip a 1 l with
       | none=>rw [hs] at h; cases h
       | some r1 =>
         rw [hs] at h
         have h9:skip a 1 r1=some r:=h
         obtain ⟨x,hx,rfl⟩:=parse ha h2 m l r1 hm hs
         obtain ⟨y,hy,rfl⟩:=parse ha h2 m r1 r (by simp at hm; omega) h9
         exact ⟨.b n x y,⟨by omega,h2',hx,hy⟩,by simp [flat]⟩
end Tm
theorem ar_neg (l:List Symbol) {n:Int} (h:n < 0):ar l n=0:=by unfold ar; rw [if_pos h]
structure TermOk (l:List Symbol) (t:List Int):Prop where
 pos:1≤t.length
 le:t.length≤24
 node:∀ n∈t,nodeOk l n=true
 skip:skip (ar l) 1 t=some []
theorem termOk_iff (l:List Symbol) (t:List Int):termFault0 l t=0↔TermOk l t:=by
 unfold termFault0
 constructor
 · intro h
   split at h
   · cases h
   · split at h
     · cases h
     · rename_i h1 h2
       split at h
       · rename_i h3
         exact ⟨by omega,by omega,any_nodes.1 (by simpa using h2),h3⟩
       · cases h
 · intro h
   have:=h.pos; have:=h.le
   rw [if_neg (by omega),if_neg (by rw [any_nodes.2 h.node]; simp),if_pos h.skip]
theorem TermOk.tree {l:List Symbol} {t:List Int} (ok:SigOk ⟨l⟩) (h:TermOk l t):∃ x:Tm,x.ok (ar l)∧t=x.flat:=by
 obtain ⟨x,hx,e⟩:=Tm.parse (fun n hn=>ar_neg l hn) (ar_le ok) t.length t [] (Nat.le_refl _) h.skip
 exact ⟨x,hx,by simpa using e⟩
theorem at_head {t r:List Int} {e:Nat} {x:Tm} (h:t.drop e=x.flat++r):e < t.length∧t[e]?=some x.head∧e+x.flat.length≤t.length:=by
 have hl:(t.drop e).length=x.flat.length+r.length:=by rw [h,List.length_append]
 have hp:=x.flat_pos
 rw [List.length_drop] at hl
 refine ⟨by omega,?_,by omega⟩
 have:(t.drop e)[0]?=some x.head:=by
  rw [h]; obtain ⟨r',e'⟩:=x.flat_head; rw [e']; rfl
 rwa [List.getElem?_drop,Nat.add_zero] at this
end Ev.Ty
end
section
namespace Ev.Ty
open Go Ev
open Enc (enc)
open Sm (sm)
set_option linter.unusedSimpArgs false
set_option linter.unusedVariables false
structure AlgOk (l:List Symbol) (z:Int) (tb:List (List Int)):Prop where
 sig:SigOk ⟨l⟩
 size:1≤z∧z≤3
 len:tb.length=l.length
 rows:∀ (k:Nat) (h:k < l.length) (h':k < tb.length),tb[k].length=z.toNat ^ (l[k]).arity.toNat∧∀ n∈tb[k],0≤n∧n≤z - 1
def Tm.eval (z:Int) (tb:List (List Int)) (vs:List Int):Tm→Int
 | v n=>vs.getD (-1 - n).toNat 0
 | k n=>(tb.getD n.toNat []).getD 0 0
 | u n x=>(tb.getD n.toNat []).getD (x.eval z tb vs).toNat 0
 | b n x y=>(tb.getD n.toNat []).getD (x.eval z tb vs*z+y.eval z tb vs).toNat 0
section
variable {l:List Symbol} {z:Int} {tb:List (List Int)} (al:AlgOk l z tb) {vs:List Int} (hv:vs.length=6) (hr:∀ n∈vs,0≤n∧n≤z - 1)
include al
include hv hr
end
end Ev.Ty
end
section
namespace Ev.Ty
open Go Ev
open Enc (enc)
open Sm (sm)
set_option linter.unusedSimpArgs false
set_option linter.unusedVariables false
theorem getD_of {α:Type} {v:List α} {i:Nat} {d:α} (h:i < v.length):v.getD i d=v[i]:=by simp [h]
section
variable {l:List Symbol} {z:Int} {tb:List (List Int)} (al:AlgOk l z tb) {vs:List Int} (hv:vs.length=6) (hr:∀ n∈vs,0≤n∧n≤z - 1)
include al hv hr
end
end Ev.Ty
end
section
namespace Ev.Ty
open Go Ev
open Enc (enc)
open Sm (sm)
set_option linter.unusedSimpArgs false
set_option linter.unusedVariables false
theorem cmp_Or_int64 (l:List Int) (hl:l.length≤4294967296):Call F.cmp_Or_int64 [slc l] (.int .i64 ((l.find? fun n=>decide (n≠0)).getD 0)):=by
 refine call_of rfl (l.length+1) ((cmp_Or_int64.ev _ _).trans ?_)
 have:=scan_loop (l:=l) (g:=fun n=>if n≠0 then some (some (.int .i64 n,[])) else none) (z:=some (.int .i64 0,[])) (S:=fun m k=>cmp_Or_int64.at0 (l.length+1) m (cmp_Or_int64.st0 0 (cells l) l.length (k:Nat)))
  (fun m k h=>by
   have hlk:l[k]?=some l[k]:=List.getElem?_eq_getElem h
   simp only [cmp_Or_int64.next0,cmp_Or_int64.round0,evz,Nat.reduceLT,h,hlk,enc_int]
   rw [wrap_succ (by omega)]
   by_cases e:l[k]=0 <;> simp [e])
  (fun m=>by simp only [cmp_Or_int64.next0,cmp_Or_int64.round0,evz,Nat.reduceLT,Nat.lt_irrefl]) (Nat.lt_succ_self _)
 simp only [cells_div,sz_int]
 refine this.trans ?_
 clear this
 induction l with
 | nil=>rfl
 | cons x l ih =>
   rw [List.findSome?_cons,List.find?_cons]
   by_cases e:x=0
   · simpa [e] using ih (by simp at hl; omega)
   · simp [e]
theorem impl_firstCode2 (a b:Int):Call F.impl_firstCode [.sl 1 [.int .i64 a,.int .i64 b]] (.int .i64 (if a=0 then b else a)):=by
 refine call_of rfl 0 ((impl_firstCode.ev _ _).trans ?_)
 have:=cmp_Or_int64 [a,b] (by simp)
 simp only [evz,Nat.reduceLT,show LIM F.cmp_Or_int64 [.sl 1 [.int .i64 a,.int .i64 b]]=_ from this]
 by_cases h:a=0
 · by_cases h':b=0 <;> simp [h,h']
 · simp [h]
theorem spec_l4Low (t:List Int) (hl:t.length≤4294967296):Call F.spec_l4Low [slc t] (.bool (!t.any fun n=>decide (n < -6))):=by
 refine call_of rfl (t.length+1) ((spec_l4Low.ev _ _).trans ?_)
 refine (any_loopL (l:=t) (p:=fun n=>decide (n < -6)) (r:=some (.bool false,[])) (z:=some (.bool true,[])) (S:=fun m k=>spec_l4Low.at0 (t.length+1) m (spec_l4Low.st0 (cells t) (k:Nat))) (fun m k h => ?_) (fun m => ?_) (Nat.lt_succ_self _)).trans ?_
 · have hlk:t[k]?=some t[k]:=List.getElem?_eq_getElem h
   simp only [spec_l4Low.next0,spec_l4Low.round0,evz,Nat.reduceLT,h,hlk,enc_int]
   rw [wrap_succ (by omega)]
   simp only [decide_eq_true_eq]
 · simp only [spec_l4Low.next0,spec_l4Low.round0,evz,Nat.reduceLT,Nat.lt_irrefl]
 · cases t.any fun n=>decide (n < -6) <;> rfl
section
variable (l:List Symbol) (z:Int) (tb:List (List Int)) (vs t:List Int) (hs:l.length≤4294967296) (ht:sm 4294967296 tb) (hl:t.length≤4294967296)
include hs ht hl
end
end Ev.Ty
end
section
namespace Ev.Ty
open Go Ev
open Enc (enc)
open Sm (sm)
set_option linter.unusedSimpArgs false
set_option linter.unusedVariables false
theorem intsT_cells:∀ l:List Int,intsT l=cells l
 | []=>rfl
 | x::l=>by rw [cells_cons,← intsT_cells l]; rfl
def sorted (l:List Int):List Int:=l.mergeSort fun x y=>decide (x≤y)
theorem slices_Sort_Sint64 (l:List Int) (h:l.length≤4294967296):LIM F.slices_Sort_Sint64 [slc l]=some (.tup [],[slc (sorted l)]):=by
 refine lim_ext (e:=sortE) rfl (Ev.of fun m => ?_)
 show ((intsOf (cells l)).bind fun zs=>bif decide (zs.length < 4611686018427387904) then some (T.tup [],[T.sl 1 (intsT (zs.mergeSort fun x y=>decide (x≤y)))]) else none)=_
 rw [← intsT_cells,intsOf_intsT,Option.bind_some,decide_eq_true (by omega),cond_true,intsT_cells]
 rfl
theorem slices_Compact_Sint64 (l:List Int) (h:l.length≤4294967296):Call F.slices_Compact_Sint64 [slc l] (slc (Lib.compact l)):=by
 refine lim_ext (e:=compactE) rfl (Ev.of fun m => ?_)
 show ((intsOf (cells l)).bind fun zs=>bif decide (zs.length < 4611686018427387904) then some (T.sl 1 (intsT (Lib.compact zs)),[]) else none)=_
 rw [← intsT_cells,intsOf_intsT,Option.bind_some,decide_eq_true (by omega),cond_true,intsT_cells]
 rfl
theorem mem_compact {l:List Int} {x:Int}:x∈Lib.compact l↔x∈l:=by
 unfold Lib.compact Lib.compactUpTo
 simp only [List.mem_map,List.mem_filter,List.mem_range]
 constructor
 · rintro ⟨j,⟨hj,_⟩,rfl⟩
   rw [getElem!_pos _ j (by simpa using hj)]
   simp
 · intro h
   obtain ⟨i,hi,rfl⟩:=List.mem_iff_getElem.1 h
   have:∀ j,(hj:j < l.length)→∃ k,(k < l.length∧Lib.keeps l.toArray k=true)∧l.toArray[k]! = l[j]:=by
    intro j
    induction j with
    | zero=>intro hj; exact ⟨0,⟨hj,by simp [Lib.keeps]⟩,by simp [hj]⟩
    | succ j ih =>
      intro hj
      by_cases e:l[j+1]=l[j]
      · obtain ⟨k,hk,he⟩:=ih (by omega)
        exact ⟨k,hk,by rw [he,e]⟩
      · refine ⟨j+1,⟨hj,?_⟩,by simp [hj]⟩
        have hj':j < l.length:=by omega
        simp [Lib.keeps,hj,hj',e]
   exact this i hi
theorem compact_length (l:List Int):(Lib.compact l).length≤l.length:=compact_len l
def vars (t:List Int):List Int:=(t.filter fun n=>decide (n < 0)).map fun n => -1 - n
theorem mem_vars {t:List Int} {v:Int}:v∈vars t↔0≤v∧(-1 - v)∈t:=by
 unfold vars
 simp only [List.mem_map,List.mem_filter,decide_eq_true_eq]
 constructor
 · rintro ⟨n,⟨hn,h0⟩,rfl⟩
   exact ⟨by omega,by rw [show -1 - (-1 - n)=n by omega]; exact hn⟩
 · rintro ⟨h0,h⟩
   exact ⟨-1 - v,⟨h,by omega⟩,by omega⟩
theorem vars_length (t:List Int):(vars t).length≤t.length:=by
 unfold vars
 rw [List.length_map]; exact List.length_filter_le _ _
def varsOf (l:List (List Int)):List Int:=Lib.compact (sorted (l.flatMap vars))
theorem mem_varsOf {l:List (List Int)} {v:Int}:v∈varsOf l↔0≤v∧∃ t∈l,(-1 - v)∈t:=by
 unfold varsOf sorted
 rw [mem_compact,List.mem_mergeSort,List.mem_flatMap]
 constructor
 · rintro ⟨t,ht,h⟩
   obtain ⟨h0,h1⟩:=mem_vars.1 h
   exact ⟨h0,t,ht,h1⟩
 · rintro ⟨h0,t,ht,h1⟩
   exact ⟨t,ht,mem_vars.2 ⟨h0,h1⟩⟩
theorem flat_vars_length:∀ l:List (List Int),(l.flatMap vars).length≤(l.map List.length).sum
 | []=>by simp
 | t::l=>by
   rw [List.flatMap_cons,List.length_append,List.map_cons,List.sum_cons]
   have:=vars_length t
   have:=flat_vars_length l
   omega
theorem varsOf_length (l:List (List Int)):(varsOf l).length≤(l.map List.length).sum:=by
 unfold varsOf
 refine Nat.le_trans (compact_length _) ?_
 unfold sorted
 rw [List.length_mergeSort]
 exact flat_vars_length l
theorem impl_varsOf (l:List (List Int)) (hl:l.length≤24) (ht:∀ t∈l,t.length≤4294967296∧∀ n∈t,-12≤n) (hsum:(l.map List.length).sum≤4294967296):Call F.impl_varsOf [slc l] (slc (varsOf l)):=by
 obtain ⟨N,hN⟩:∃ N,N=4294967297:=⟨_,rfl⟩
 have inner:∀ (L0:St→R) (x0:List T) (x1 x2:Int) (t:List Int),(∀ n∈t,-12≤n)→∀ m k (acc:List Int),k≤t.length→t.length < m+k→acc.length+t.length≤k+4294967296→t.length≤4294967296 →
  impl_varsOf.at2 N L0 m (impl_varsOf.st2 x0 x1 x2 (cells t) t.length (k:Nat) (cells acc))=L0 (impl_varsOf.st0 x0 x1 (IntKind.wrap .i64 (x2+1)) (cells (acc++vars (t.drop k)))):=by
  intro L0 x0 x1 x2 t hn m
  induction m with
  | zero=>intros; omega
  | succ m ih =>
    intro k acc hk hm hacc htl
    by_cases h:k < t.length
    · have hlk:t[k]?=some t[k]:=List.getElem?_eq_getElem h
      simp only [impl_varsOf.next2,impl_varsOf.round2,evz,Nat.reduceLT,h,hlk,enc_int]
      rw [wrap_succ (by omega),List.drop_eq_getElem_cons h]
      have hge:=hn t[k] (List.getElem_mem h)
      by_cases h0:t[k] < 0
      · have hble:Nat.ble (((cells acc).length+1)*8) (140737488355328*1)=true:=by
         rw [Nat.ble_eq,cells_length,sz_int]; omega
        rw [wrap64 (by omega),cells_snoc_int,hble,ih (k+1) (acc++[-1 - t[k]]) (by omega) (by omega) (by rw [List.length_append]; simp; omega) htl]
        simp only [h0,evz,Nat.reduceLT,vars,List.filter_cons,List.map_cons,List.append_assoc,List.singleton_append]
      · rw [ih (k+1) acc (by omega) (by omega) (by omega) htl]
        simp only [h0,evz,Nat.reduceLT,vars,List.filter_cons,Bool.false_eq_true]
    · obtain rfl:k=t.length:=by omega
      simp only [impl_varsOf.next2,impl_varsOf.round2,evz,Nat.reduceLT,Nat.lt_irrefl,List.drop_length,vars,List.filter_nil,List.map_nil,List.append_nil]
 have outer:∀ m k (acc:List Int),k≤l.length→l.length < m+k→acc.length+((l.drop k).map List.length).sum≤4294967296 →
  impl_varsOf.at0 N m (impl_varsOf.st0 (cells l) l.length (k:Nat) (cells acc))=some (slc (Lib.compact (sorted (acc++(l.drop k).flatMap vars))),[]):=by
  intro m
  induction m with
  | zero=>intros; omega
  | succ m ih =>
    intro k acc hk hm hacc
    by_cases h:k < l.length
    · have hlk:l[k]?=some l[k]:=List.getElem?_eq_getElem h
      obtain ⟨q1,q2⟩:=ht l[k] (List.getElem_mem h)
      rw [List.drop_eq_getElem_cons h,List.map_cons,List.sum_cons] at hacc
      simp only [impl_varsOf.next0,impl_varsOf.round0,evz,Nat.reduceLT,h,hlk,enc_list]
      have hin:=inner (impl_varsOf.at0 N m) (cells l) l.length (k:Nat) l[k] q2 N 0 acc (by omega) (by omega) (by omega) q1
      rw [List.drop_zero,wrap_succ (by omega)] at hin
      refine Eq.trans hin ?_
      have:=vars_length l[k]
      rw [ih (k+1) (acc++vars l[k]) (by omega) (by omega) (by rw [List.length_append]; omega),List.drop_eq_getElem_cons h,List.flatMap_cons,List.append_assoc]
    · obtain rfl:k=l.length:=by omega
      rw [List.drop_length] at hacc ⊢
      have hs:=slices_Sort_Sint64 acc (by simpa using hacc)
      have hc:=slices_Compact_Sint64 (sorted acc) (by unfold sorted; rw [List.length_mergeSort]; simpa using hacc)
      simp only [impl_varsOf.next0,impl_varsOf.round0,evz,Nat.reduceLT,Nat.lt_irrefl,List.flatMap_nil,List.append_nil]
      simp only [hs,hc.eq,evz,Nat.reduceLT]
 refine call_of rfl N ((impl_varsOf.ev _ _).trans ?_)
 have:=outer N 0 [] (by omega) (by omega) (by simpa using hsum)
 rw [List.drop_zero,List.nil_append] at this
 simp only [cells_div,sz_list]
 exact this
end Ev.Ty
end
