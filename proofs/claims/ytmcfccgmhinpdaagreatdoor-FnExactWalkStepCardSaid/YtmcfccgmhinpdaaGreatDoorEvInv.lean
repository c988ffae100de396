/- Ev: what a step does to the invariant. -/
import Derived.Test.YtmcfccgmhinpdaaGreatDoorEvRel
import Derived.Laws.Tables
import Derived.Laws.Slices
import Derived.Laws.Entries
namespace Ev
open Go

theorem nbeq {i j : Nat} (h : i ≠ j) : Nat.beq i j = false := by
  rw [← Bool.not_eq_true, Nat.beq_eq]; exact h
theorem look_put {α : Type} (d : α) : ∀ (l : List (Nat × α)) (i j : Nat) (v : α), look d (put l i v) j = if i = j then v else look d l j
  | [], i, j, v => by
    simp only [put, look]
    by_cases h : i = j
    · subst h; simp
    · have : Nat.beq i j = false := nbeq h
      simp [this, h]
  | (k, u) :: r, i, j, v => by
    simp only [put]
    by_cases h : k = i
    · subst h
      have : Nat.beq k k = true := by simp
      simp only [this, cond_true, look]
      by_cases h2 : k = j
      · subst h2; simp
      · have : Nat.beq k j = false := nbeq h2
        simp [this, h2]
    · have h1 : Nat.beq k i = false := nbeq h
      simp only [h1, cond_false, look, look_put d r i j v]
      by_cases h2 : k = j
      · subst h2
        simp [Ne.symm h]
      · have : Nat.beq k j = false := nbeq h2
        simp [this]
@[simp] theorem getT_setT (s : St) (i j : Nat) (v : V) : (s.setT i v).getT j = if i = j then v else s.getT j := look_put _ _ _ _ _
@[simp] theorem getO_setT (s : St) (i : Nat) (v : V) (k : Key) : (s.setT i v).getO k = s.getO k := rfl
@[simp] theorem getT_setO (s : St) (k : Key) (o : Ob) (i : Nat) : (s.setO k o).getT i = s.getT i := rfl
@[simp] theorem getO_setO (s : St) (k j : Key) (o : Ob) : (s.setO k o).getO j = if k = j then o else s.getO j := look_put _ _ _ _ _

def upd {α : Type} (f : Key → α) (k : Key) (x : α) : Key → α := fun j => if k = j then x else f j
@[simp] theorem upd_same {α : Type} (f : Key → α) (k : Key) (x : α) : upd f k x k = x := by simp [upd]
theorem upd_ne {α : Type} (f : Key → α) {k j : Key} (x : α) (h : k ≠ j) : upd f k x j = f j := by simp [upd, h]

section
variable {c : Ctx} {s s' : St} {a : Act} {w w' : World} {val val' : Key → Value} {fp fp' : Key → List Nat}


theorem Inv.changes (h : Inv c s a w val fp) (Ks : Key → Prop)
    (htm : ∀ i, s'.getT i = s.getT i)
    (hsame : ∀ k, ¬ Ks k → s'.getO k = s.getO k ∧ val' k = val k ∧ fp' k = fp k)
    (hturn : ∀ k, Ks k → Turns (s.getO k) (s'.getO k) (val k) (val' k))
    (hlent : ∀ k, Ks k → (s.getO k).isLent = false)
    (hsub : ∀ k b, Ks k → b ∈ fp' k → (∃ k1, Ks k1 ∧ b ∈ fp k1) ∨ w.heap.size ≤ b)
    (hdis : ∀ k k', Ks k → Ks k' → k ≠ k' → ∀ b, b ∈ fp' k → b ∉ fp' k')
    (hw : ∀ b, b < w.heap.size → (∀ k, Ks k → b ∉ fp k) → w'.heap[b]? = w.heap[b]?)
    (hsize : w.heap.size ≤ w'.heap.size) (ho : w'.os = w.os) (ht : w'.tape = w.tape) (hu : w'.output = w.output)
    (hob : Goes (mkFr c w val fp) (mkFr c w' val' fp') s s' → ∀ k, Ks k → ObR (mkFr c w' val' fp') s' (s'.getO k) (val' k) (fp' k)) :
    Inv c s' a w' val' fp' ∧ Goes (mkFr c w val fp) (mkFr c w' val' fp') s s' ∧ Kp c.own w w' := by
  have hfree : ∀ b, b < w.heap.size → (∀ k, b ∉ fp k) → ∀ k, b ∉ fp' k := by
    intro b hb hn k hk
    by_cases hK : Ks k
    · rcases hsub k b hK hk with ⟨k1, _, h1⟩ | h1
      · exact hn k1 h1
      · omega
    · rw [(hsame k hK).2.2] at hk; exact hn k hk
  have g : Goes (mkFr c w val fp) (mkFr c w' val' fp') s s' := by
    refine ⟨fun b hb => ⟨⟨hb.1, Nat.lt_of_lt_of_le hb.2.1 hsize, hfree b hb.2.1 hb.2.2⟩, hw b hb.2.1 fun k _ => hb.2.2 k⟩,
      fun b hb => ⟨⟨hb.1, Nat.lt_of_lt_of_le hb.2.1 hsize, hfree b hb.2.1 hb.2.2⟩, hw b hb.2.1 fun k _ => hb.2.2 k⟩, fun k => ?_, ?_⟩
    rotate_left
    · rintro b ⟨k, hk, hb⟩
      have hK : ¬ Ks k := fun hK => by rw [hlent k hK] at hk; cases hk
      have hb' : b ∈ fp k := hb
      refine ⟨.inl ⟨k, by rw [(hsame k hK).1]; exact hk, ?_⟩, hw b (h.lt hb') fun k1 hk1 hb1 => h.disj k k1 (fun e => hK (e ▸ hk1)) b hb' hb1⟩
      show b ∈ fp' k
      rw [(hsame k hK).2.2]; exact hb'
    by_cases hK : Ks k
    · exact hturn k hK
    · show Turns (s.getO k) (s'.getO k) (val k) (val' k)
      rw [(hsame k hK).1, (hsame k hK).2.1]; exact Turns.refl _ _
  refine ⟨⟨fun k => ?_, fun i => ?_, fun k k' hne b hb hb' => ?_, fun k b hb => ?_, Nat.le_trans h.size hsize, h.defers, h.ij⟩, g, ⟨ho, ht, hu, hsize, fun b hb hn => hw b hb fun k _ hk => hn (h.mine k b hk)⟩⟩
  · by_cases hK : Ks k
    · exact hob g k hK
    · obtain ⟨e1, e2, e3⟩ := hsame k hK
      rw [e1, e2, e3]
      exact (h.obs k).goes g fun b hb => hw b (h.lt hb) fun k1 hk1 hb1 => h.disj k k1 (fun e => hK (e ▸ hk1)) b hb hb1
  · rw [htm i]; exact (h.tms i).goes g
  · by_cases hK : Ks k
    · by_cases hK' : Ks k'
      · exact hdis k k' hK hK' hne b hb hb'
      · rw [(hsame k' hK').2.2] at hb'
        rcases hsub k b hK hb with ⟨k1, hk1, h1⟩ | h1
        · exact h.disj k1 k' (fun e => hK' (e ▸ hk1)) b h1 hb'
        · have := h.lt hb'; omega
    · rw [(hsame k hK).2.2] at hb
      by_cases hK' : Ks k'
      · rcases hsub k' b hK' hb' with ⟨k1, hk1, h1⟩ | h1
        · exact h.disj k k1 (fun e => hK (e ▸ hk1)) b hb h1
        · have := h.lt hb; omega
      · rw [(hsame k' hK').2.2] at hb'
        exact h.disj k k' hne b hb hb'
  · by_cases hK : Ks k
    · rcases hsub k b hK hb with ⟨k1, _, h1⟩ | h1
      · exact h.mine k1 b h1
      · exact .inl (Nat.le_trans h.size h1)
    · rw [(hsame k hK).2.2] at hb; exact h.mine k b hb

/-- One key turns. -/
theorem Inv.change1 (h : Inv c s a w val fp) (k0 : Key) (o' : Ob) (u' : Value) (F' : List Nat)
    (hturn : Turns (s.getO k0) o' (val k0) u')
    (hlent : (s.getO k0).isLent = false)
    (hsub : ∀ b, b ∈ F' → b ∈ fp k0 ∨ w.heap.size ≤ b)
    (hw : ∀ b, b < w.heap.size → b ∉ fp k0 → w'.heap[b]? = w.heap[b]?)
    (hsize : w.heap.size ≤ w'.heap.size) (ho : w'.os = w.os) (ht : w'.tape = w.tape) (hu : w'.output = w.output)
    (hob : Goes (mkFr c w val fp) (mkFr c w' (upd val k0 u') (upd fp k0 F')) s (s.setO k0 o') → ObR (mkFr c w' (upd val k0 u') (upd fp k0 F')) (s.setO k0 o') o' u' F') :
    Inv c (s.setO k0 o') a w' (upd val k0 u') (upd fp k0 F') ∧ Goes (mkFr c w val fp) (mkFr c w' (upd val k0 u') (upd fp k0 F')) s (s.setO k0 o') ∧ Kp c.own w w' := by
  refine h.changes (· = k0) (fun _ => rfl) (fun k hk => ?_) ?_ (by rintro k rfl; exact hlent) ?_ ?_ (fun b hb hn => hw b hb (hn k0 rfl)) hsize ho ht hu ?_
  · have : k0 ≠ k := fun e => hk e.symm
    simp [upd, this]
  · rintro k rfl; simpa using hturn
  · rintro k b rfl hb
    simp only [upd_same] at hb
    exact (hsub b hb).imp (fun h => ⟨k, rfl, h⟩) id
  · rintro k k' rfl rfl hne; exact absurd rfl hne
  · rintro g k rfl; simpa using hob g

/-- No key turns, the heap stays. -/
theorem Inv.world (h : Inv c s a w val fp) (hh : w'.heap = w.heap) (ho : w'.os = w.os) (ht : w'.tape = w.tape) (hu : w'.output = w.output) :
    Inv c s a w' val fp ∧ Kp c.own w w' := by
  have := h.changes (s' := s) (w' := w') (val' := val) (fp' := fp) (fun _ => False) (fun _ => rfl) (fun _ _ => ⟨rfl, rfl, rfl⟩) (fun _ h => h.elim) (fun _ h => h.elim) (fun _ _ h => h.elim) (fun _ _ h => h.elim)
    (fun b _ _ => by rw [hh]) (by rw [hh]; exact Nat.le_refl _) ho ht hu (fun _ _ h => h.elim)
  exact ⟨this.1, this.2.2⟩

theorem CR.setT {f : Fr} {s : St} {x : C} {v : Value} (h : CR f s x v) (i : Nat) (y : V) : CR f (s.setT i y) x v := by
  cases x <;> exact h
theorem CRs.setT {f : Fr} {s : St} {cs : List C} {vs : List Value} (h : CRs f s cs vs) (i : Nat) (y : V) : CRs f (s.setT i y) cs vs :=
  ⟨h.1, fun j c v hc hv => (h.2 j c v hc hv).setT i y⟩
theorem VR.setT {f : Fr} {s : St} {x : V} {v : Value} (h : VR f s x v) (i : Nat) (y : V) : VR f (s.setT i y) x v := by
  cases x with
  | one c => exact CR.setT h i y
  | agg cs => obtain ⟨vs, e, h⟩ := h; exact ⟨vs, e, h.setT i y⟩
  | tup ps =>
    obtain ⟨us, e, hl, h⟩ := h
    refine ⟨us, e, hl, fun j p u hp hu => ?_⟩
    rcases h j p u hp hu with ⟨h1, vs, h2, h3⟩ | ⟨h1, c, h2, h3⟩
    · exact .inl ⟨h1, vs, h2, h3.setT i y⟩
    · exact .inr ⟨h1, c, h2, CR.setT h3 i y⟩
  | clo fn cs => obtain ⟨vs, e, h⟩ := h; exact ⟨vs, e, h.setT i y⟩
  | skip => exact h
  | any => trivial
theorem ObR.setT {f : Fr} {s : St} {o : Ob} {u : Value} {F : List Nat} (h : ObR f s o u F) (i : Nat) (y : V) : ObR f (s.setT i y) o u F := by
  cases o with
  | box cs =>
    obtain ⟨b, cur, e, hu, rfl, hh, hc⟩ := h
    exact ⟨b, cur, e, hu, rfl, hh, hc.setT i y⟩
  | arr own deep sz cells => exact h
  | free => exact h
  | gone => exact h
  | moved k => exact h
  | lent deep sz cells => exact h
  | opn sz cells ws =>
    obtain ⟨g, len, cap, cur, e, vs, fs, r1, r2, r3, r4, r5, r6, r7, r8, r9, r10, r11⟩ := h
    refine ⟨g, len, cap, cur, e, vs, fs, r1, r2, r3, r4, r5, r6, r7, r8, r9, fun j x hx => ?_, r11⟩
    have := r10 j x hx
    unfold WR at *
    split
    · rename_i c hc; rw [hc] at this; exact ⟨this.1.setT i y, this.2⟩
    · rename_i hc; rw [hc] at this; exact this
  | mp l => exact h
theorem Inv.setT (h : Inv c s a w val fp) {d : Nat} {x : V} {v : Value} (hd : d < a.tmps.size) (hv : VR (mkFr c w val fp) s x v) : Inv c (s.setT d x) (a.put (some d) v) w val fp := by
  refine ⟨fun k => (h.obs k).setT d x, fun i => ?_, h.disj, h.mine, h.size, h.defers, h.ij⟩
  rw [getT_setT]
  have he : (a.put (some d) v).tmps.getD i undef = if d = i then v else a.tmps.getD i undef := by
    simp only [Act.put, Array.getD_eq_getD_getElem?]
    by_cases hi : d = i
    · subst hi; simp [hd]
    · rw [Array.getElem?_setIfInBounds_ne hi, if_neg hi]
  rw [he]
  by_cases hi : d = i
  · subst hi; simpa using hv.setT d x
  · simpa [hi] using (h.tms i).setT d x
end
end Ev
/- Ev: operations, one by one: what the abstract step says is what the machine does. Part A: values, loads. -/
namespace Ev
open Go

section
variable {P : Program} {A : Attrs} {E : Env} {c : Ctx} {s : St} {a : Act} {w : World} {val : Key → Value} {fp : Key → List Nat}
variable {l : Log} {K : St → Log → R} {r : T × List T}

/-- Where an operation may leave the machine. -/
def Post (c : Ctx) (w0 : World) (K : St → Log → R) (r : T × List T) (a' : Act) (w' : World) : Prop :=
  ∃ s l val fp, K s l = some r ∧ Inv c s a' w' val fp ∧ a'.tmps.size = a'.tmps.size ∧ Kp c.own w0 w'

theorem ev_wrap {α : Type} {b : Bool} {x y : Option α} {r : α} (h : (bif b then x else y) = some r) : (b = true ∧ x = some r) ∨ (b = false ∧ y = some r) := by
  cases b
  · exact .inr ⟨rfl, h⟩
  · exact .inl ⟨rfl, h⟩

theorem ev_true {α : Type} {b : Bool} {x : Option α} {r : α} (h : (bif b then x else none) = some r) : b = true ∧ x = some r := by
  cases b
  · cases h
  · exact ⟨rfl, h⟩
section
variable (E : Env) (s : St) (l : Log) (K : St → Log → R)
theorem run_done : runP E .done s l K = K s l := rfl
theorem run_fail : runP E .fail s l K = none := rfl
theorem run_getT (i : Nat) (f : V → Prog) : runP E (.getT i f) s l K = runP E (f (s.getT i)) s { l with rdT := i :: l.rdT } K := rfl
theorem run_getO (k : Key) (f : Ob → Prog) : runP E (.getO k f) s l K = runP E (f (s.getO k)) s { l with rdO := k :: l.rdO } K := rfl
theorem run_setT (i : Nat) (v : V) (p : Prog) : runP E (.setT i v p) s l K = runP E p (s.setT i v) { l with wrT := i :: l.wrT } K := rfl
theorem run_setO (k : Key) (o : Ob) (p : Prog) : runP E (.setO k o p) s l K = runP E p (s.setO k o) { l with wrO := k :: l.wrO } K := rfl
theorem run_ite (b : Bool) (p q : Prog) : runP E (.ite b p q) s l K = bif b then runP E p s l K else runP E q s l K := rfl
theorem run_iteF (b : Bool) (p : Prog) : runP E (.ite b p .fail) s l K = bif b then runP E p s l K else none := rfl
theorem run_asInt (k : IntKind) (x : T) (f : Int → Prog) : runP E (.asInt k x f) s l K = match x with
    | .int k' n => bif decide (k' = k) then runP E (f n) s l K else none
    | _ => none := by
  cases x with
  | int k' n => show ((bif decide (k' = k) then some n else none).bind fun n => runP E (f n) s l K) = (bif decide (k' = k) then runP E (f n) s l K else none); cases decide (k' = k) <;> rfl
  | _ => rfl
theorem run_asBool (x : T) (f : Bool → Prog) : runP E (.asBool x f) s l K = match x with | .bool b => runP E (f b) s l K | _ => none := by cases x <;> rfl
theorem run_asStr (x : T) (f : ByteArray → Prog) : runP E (.asStr x f) s l K = match x with | .str b => runP E (f b) s l K | _ => none := by cases x <;> rfl
theorem run_asSl (sz : Nat) (x : T) (f : List T → Prog) : runP E (.asSl sz x f) s l K = match x with
    | .sl sz' c => bif Nat.beq sz' sz then runP E (f c) s l K else none
    | _ => none := by
  cases x with
  | sl sz' c => show ((bif Nat.beq sz' sz then some c else none).bind fun c => runP E (f c) s l K) = (bif Nat.beq sz' sz then runP E (f c) s l K else none); cases Nat.beq sz' sz <;> rfl
  | _ => rfl
theorem run_asAgg (x : T) (f : List T → Prog) : runP E (.asAgg x f) s l K = match x with | .agg c => runP E (f c) s l K | _ => none := by cases x <;> rfl
theorem run_asTup (x : T) (f : List T → Prog) : runP E (.asTup x f) s l K = match x with | .tup c => runP E (f c) s l K | _ => none := by cases x <;> rfl
theorem run_uncons (l' : List T) (f : T → List T → Prog) : runP E (.uncons l' f) s l K = match l' with | a :: r => runP E (f a r) s l K | [] => none := by cases l' <;> rfl
theorem run_unnil (l' : List T) (p : Prog) : runP E (.unnil l' p) s l K = match l' with | [] => runP E p s l K | _ :: _ => none := by cases l' <;> rfl
theorem run_onSome (x : Option T) (f : T → Prog) : runP E (.onSome x f) s l K = match x with | some a => runP E (f a) s l K | none => none := by cases x <;> rfl
theorem run_onRef (x : T) (p : Prog) : runP E (.onRef x p) s l K = match x with | .rref _ _ => runP E p s l K | _ => none := by cases x <;> rfl
theorem run_onClo (x : T) (p : Prog) : runP E (.onClo x p) s l K = match x with | .clo _ _ => runP E p s l K | _ => none := by cases x <;> rfl
theorem run_call (g : FuncId) (args : List T) (k : T → List T → Prog) : runP E (.call g args k) s l K = (E g args).bind fun r => runP E (k r.1 r.2) s l K := rfl
end
theorem CR_ofC {f : Fr} {s : St} {v : Value} (h : v.oneCell' = true) : CR f s (ofC v) v := by
  unfold ofC
  split
  · exact RB.int _ _
  · exact RB.bool _
  · exact RB.str _
  · rfl
  · exact h
theorem CRs_ofC {f : Fr} {s : St} {vs : List Value} (h : vs.all (·.oneCell') = true) : CRs f s (vs.map ofC) vs := by
  refine ⟨by simp, fun i c v hc hv => ?_⟩
  rw [List.getElem?_map, hv] at hc
  cases hc
  exact CR_ofC (List.all_eq_true.1 h v (List.mem_of_getElem? hv))
theorem VR_ofVal {f : Fr} {s : St} (v : Value) : VR f s (ofVal v) v := by
  unfold ofVal
  split
  · rename_i cs
    cases h : cs.toList.all (·.oneCell')
    · trivial
    · exact ⟨cs, rfl, CRs_ofC h⟩
  · exact RB.int _ _
  · exact RB.bool _
  · exact RB.str _
  · exact (rfl : _ = _)
  · trivial

theorem getV_sound (h : Inv c s a w val fp) {x : Operand} {f : V → Prog} (hr : runP E (getV x f) s l K = some r) :
    ∃ v l', runP E (f v) s l' K = some r ∧ VR (mkFr c w val fp) s v (a.eval x) := by
  cases x with
  | tmp i => exact ⟨_, _, hr, h.tms i⟩
  | const v => exact ⟨_, _, hr, VR_ofVal v⟩
  | func g =>
    refine ⟨_, _, hr, ?_⟩
    exact RB.clo (fun _ => default) (by simp) (by simp)
  | global g => simp [getV, runP] at hr

theorem setD_sound {d : Option Nat} {v : V} (hr : runP E (setD d v) s l K = some r) : ∃ d' l', d = some d' ∧ K (s.setT d' v) l' = some r := by
  cases d with
  | none => simp [setD, runP] at hr
  | some d => exact ⟨d, _, rfl, hr⟩

/-- A value for a slot, the world as it is. -/
theorem post_value (h : Inv c s a w val fp) {o : Oper} {d : Nat} {x : V} {v : Value} {l' : Log} (hd : d < a.tmps.size) (hv : VR (mkFr c w val fp) s x v) (hK : K (s.setT d x) l' = some r) :
    Post c w K r (a.put (some d) v) w :=
  ⟨_, _, val, fp, hK, h.setT hd hv, rfl, Kp.refl _ _⟩

theorem wp_value {o : Oper} {next : Act → World → Prop} {Q : Exit → Act → World → Prop} {v : Value} {w' : World}
    (hr : (execOp a.eval o).run P w = .ok (.value v) w') (h : next (a.put o.dst v) w') : o.wp P a w next Q := by
  unfold Oper.wp; rw [hr]; exact h
theorem wp_skipN {o : Oper} {next : Act → World → Prop} {Q : Exit → Act → World → Prop} {w' : World}
    (hr : (execOp a.eval o).run P w = .ok .skip w') (h : next (a.put o.dst undef) w') : o.wp P a w next Q := by
  unfold Oper.wp; rw [hr]; exact h

/-! ### inversion of what is read -/
theorem RB.int_inv {w : World} {I J : Nat → Prop} {k : IntKind} {n : Int} {v : Value} (h : RB w I J (.int k n) v) : v = .int k n := by cases h; rfl
theorem RB.bool_inv {w : World} {I J : Nat → Prop} {b : Bool} {v : Value} (h : RB w I J (.bool b) v) : v = .bool b := by cases h; rfl
theorem RB.str_inv {w : World} {I J : Nat → Prop} {b : ByteArray} {v : Value} (h : RB w I J (.str b) v) : v = .string b := by cases h; rfl

theorem op_move (h : Inv c s a w val fp) {o : Oper} {x : Operand} (ho : o.op = .move x ∨ o.op = .assign x) (hd : ∀ d, o.dst = some d → d < a.tmps.size)
    {Q : Exit → Act → World → Prop} (hr : runP E (getV x fun v => setD o.dst v) s l K = some r) : o.wp P a w (Post c w K r) Q := by
  obtain ⟨v, l1, h1, hv⟩ := getV_sound h hr
  obtain ⟨d, l2, hd', h2⟩ := setD_sound h1
  refine wp_value (v := a.eval x) (w' := w) ?_ ?_
  · rcases ho with ho | ho <;> simp [execOp, ho]
  · rw [hd']; exact post_value (o := o) h (hd d hd') hv h2

theorem op_pick (h : Inv c s a w val fp) {o : Oper} {x y z : Operand} (ho : o.op = .pick x y z) (hd : ∀ d, o.dst = some d → d < a.tmps.size)
    {Q : Exit → Act → World → Prop} (hr : runP E (opP P A o) s l K = some r) : o.wp P a w (Post c w K r) Q := by
  unfold opP at hr
  simp only [ho] at hr
  obtain ⟨v, l1, h1, hv⟩ := getV_sound h hr
  split at h1
  · rename_i b
    have hb := RB.bool_inv hv
    obtain ⟨va, l2, h2, hva⟩ := getV_sound h h1
    obtain ⟨vb, l3, h3, hvb⟩ := getV_sound h h2
    simp only [runP] at h3
    have hrun : (execOp a.eval o).run P w = .ok (.value (if b then a.eval y else a.eval z)) w := by simp [execOp, ho, hb, asBool]
    rcases ev_wrap h3 with ⟨rfl, h3⟩ | ⟨rfl, h3⟩
    · obtain ⟨d, l2, hd', h2⟩ := setD_sound h3
      refine wp_value hrun ?_
      rw [hd']; exact post_value (o := o) h (hd d hd') hva h2
    · obtain ⟨d, l2, hd', h2⟩ := setD_sound h3
      refine wp_value hrun ?_
      rw [hd']; exact post_value (o := o) h (hd d hd') hvb h2
  · simp [runP] at h1

theorem newO_sound {k : Key} {o : Ob} {p : Prog} (hr : runP E (newO k o p) s l K = some r) : s.getO k = .free ∧ ∃ l', runP E p (s.setO k o) l' K = some r := by
  simp only [newO, runP] at hr
  split at hr
  · rename_i hk; exact ⟨hk, _, hr⟩
  · simp [runP] at hr

theorem Inv.fp_free (h : Inv c s a w val fp) {k : Key} (hk : s.getO k = .free) : fp k = [] := by
  have := h.obs k; rw [hk] at this; exact this

/-- A new variable. -/
theorem new_box (h : Inv c s a w val fp) {d : Nat} (hd : d < a.tmps.size) {k : Key} {cs : List C} {vs : Array Value} {e : TypeId} {l' : Log} (hk : s.getO k = .free) (hc : CRs (mkFr c w val fp) s cs vs.toList)
    (hK : K ((s.setO k (.box cs)).setT d (.one (.ptr k 0))) l' = some r) :
    Post c w K r (a.put (some d) (.pointer (some ⟨w.heap.size, 0, none⟩))) (w.alloc (.cells vs e)) := by
  have hf := h.fp_free hk
  obtain ⟨h1, g, hp⟩ := h.change1 (w' := w.alloc (.cells vs e)) k (.box cs) (.pointer (some ⟨w.heap.size, 0, none⟩)) [w.heap.size] (by rw [hk]; trivial) (by rw [hk]; rfl)
    (by intro b hb; right; rw [List.mem_singleton.1 hb]; exact Nat.le_refl _) (fun b hb _ => heap_alloc_old w _ b hb) (by simp) rfl rfl rfl
    (fun g => ⟨w.heap.size, vs, e, rfl, rfl, heap_alloc_new w _, hc.goes g⟩)
  refine ⟨_, _, _, _, hK, h1.setT hd ?_, rfl, hp⟩
  refine ⟨?_, rfl⟩
  simp [Ob.ref, ptrTo, mkFr]

theorem op_alloc (h : Inv c s a w val fp) {o : Oper} {e : TypeId} (ho : o.op = .alloc e) (hd : ∀ d, o.dst = some d → d < a.tmps.size)
    {Q : Exit → Act → World → Prop} (hr : runP E (opP P A o) s l K = some r) : o.wp P a w (Post c w K r) Q := by
  unfold opP at hr
  simp only [ho] at hr
  split at hr
  · rename_i d cs hd' hz
    obtain ⟨hk, l1, h1⟩ := newO_sound hr
    simp only [runP] at h1
    unfold zeroC at hz
    split at hz
    · rename_i i hi
      split at hz
      · rename_i z hzz
        rcases ev_wrap hz with ⟨hb, hz⟩ | ⟨_, hz⟩
        · cases hz
          rw [Bool.and_eq_true] at hb
          refine wp_value (v := .pointer (some ⟨w.heap.size, 0, none⟩)) (w' := w.alloc (.cells z.cells e)) ?_ ?_
          · simp [execOp, ho, Instr.alloc, zeroValue, typeInfo, hi, hzz, newVar, newRow]
          · rw [hd']; exact new_box h (hd d hd') hk (CRs_ofC hb.1) h1
        · cases hz
      · cases hz
    · cases hz
  · simp [runP] at hr

theorem cells_one {v : Value} (h : v.oneCell' = true) : v.cells = #[v] := by cases v <;> first | rfl | (simp [Value.oneCell'] at h)
theorem op_box (h : Inv c s a w val fp) {o : Oper} {e : TypeId} {x : Operand} (ho : o.op = .box e x) (hd : ∀ d, o.dst = some d → d < a.tmps.size)
    {Q : Exit → Act → World → Prop} (hr : runP E (opP P A o) s l K = some r) : o.wp P a w (Post c w K r) Q := by
  unfold opP at hr
  simp only [ho] at hr
  split at hr
  · rename_i d hd'
    obtain ⟨v, l1, h1, hv⟩ := getV_sound h hr
    have hrun : (execOp a.eval o).run P w = .ok (.value (.pointer (some ⟨w.heap.size, 0, none⟩))) (w.alloc (.cells (a.eval x).cells e)) := by
      simp [execOp, ho, Instr.box, newVar, newRow]
    split at h1
    · rename_i c1
      obtain ⟨hk, l2, h2⟩ := newO_sound h1
      simp only [runP] at h2
      refine wp_value hrun ?_
      rw [hd']
      refine new_box h (hd d hd') hk ?_ h2
      rw [cells_one (CR.one hv)]
      refine ⟨rfl, fun i c' v' hc hv' => ?_⟩
      cases i with
      | zero => simp at hc hv'; subst hc; subst hv'; exact hv
      | succ i => simp at hc
    · rename_i cs
      obtain ⟨hk, l2, h2⟩ := newO_sound h1
      simp only [runP] at h2
      refine wp_value hrun ?_
      rw [hd']
      obtain ⟨vs, e1, hv⟩ := hv
      refine new_box h (hd d hd') hk ?_ h2
      rw [e1]; exact hv
    · simp [runP] at h1
  · simp [runP] at hr
end
end Ev
