/- Ev: operations, one by one: what the abstract step says is what the machine does. Part A: values, loads. -/
import Derived.Test.YtfolgfbhllmdiaaGreatDoorEvInv
import Derived.Laws.Tables
import Derived.Laws.Slices
import Derived.Laws.Entries
namespace Ev
open Go

section
variable {P : Program} {A : Attrs} {E : Env} {c : Ctx} {s : St} {a : Act} {w : World} {val : Key → Value} {fp : Key → List Nat}
variable {l : Log} {K : St → Log → R} {r : T × List T}

/-- Where an operation may leave the machine. -/
def Post (c : Ctx) (w0 : World) (K : St → Log → R) (r : T × List T) (a' : Act) (w' : World) : Prop :=
  ∃ s l val fp, K s l = some r ∧ Inv c s a' w' val fp ∧ a'.tmps.size = a'.tmps.size ∧ Kp c.own w0 w'

theorem ev_wrap {α : Type} {b : Bool} {x y : Option α} {r : α} (h : (bif b then x else y) = some r) : (b = true ∧ x = some r) ∨ (b = false ∧ y = some r) := by
  cases b
  · exact .inr ⟨rfl, h⟩
  · exact .inl ⟨rfl, h⟩

theorem ev_true {α : Type} {b : Bool} {x : Option α} {r : α} (h : (bif b then x else none) = some r) : b = true ∧ x = some r := by
  cases b
  · cases h
  · exact ⟨rfl, h⟩
section
variable (E : Env) (s : St) (l : Log) (K : St → Log → R)
theorem run_done : runP E .done s l K = K s l := rfl
theorem run_fail : runP E .fail s l K = none := rfl
theorem run_getT (i : Nat) (f : V → Prog) : runP E (.getT i f) s l K = runP E (f (s.getT i)) s { l with rdT := i :: l.rdT } K := rfl
theorem run_getO (k : Key) (f : Ob → Prog) : runP E (.getO k f) s l K = runP E (f (s.getO k)) s { l with rdO := k :: l.rdO } K := rfl
theorem run_setT (i : Nat) (v : V) (p : Prog) : runP E (.setT i v p) s l K = runP E p (s.setT i v) { l with wrT := i :: l.wrT } K := rfl
theorem run_setO (k : Key) (o : Ob) (p : Prog) : runP E (.setO k o p) s l K = runP E p (s.setO k o) { l with wrO := k :: l.wrO } K := rfl
theorem run_ite (b : Bool) (p q : Prog) : runP E (.ite b p q) s l K = bif b then runP E p s l K else runP E q s l K := rfl
theorem run_iteF (b : Bool) (p : Prog) : runP E (.ite b p .fail) s l K = bif b then runP E p s l K else none := rfl
theorem run_asInt (k : IntKind) (x : T) (f : Int → Prog) : runP E (.asInt k x f) s l K = match x with
    | .int k' n => bif decide (k' = k) then runP E (f n) s l K else none
    | _ => none := by
  cases x with
  | int k' n => show ((bif decide (k' = k) then some n else none).bind fun n => runP E (f n) s l K) = (bif decide (k' = k) then runP E (f n) s l K else none); cases decide (k' = k) <;> rfl
  | _ => rfl
theorem run_asBool (x : T) (f : Bool → Prog) : runP E (.asBool x f) s l K = match x with | .bool b => runP E (f b) s l K | _ => none := by cases x <;> rfl
theorem run_asStr (x : T) (f : ByteArray → Prog) : runP E (.asStr x f) s l K = match x with | .str b => runP E (f b) s l K | _ => none := by cases x <;> rfl
theorem run_asSl (sz : Nat) (x : T) (f : List T → Prog) : runP E (.asSl sz x f) s l K = match x with
    | .sl sz' c => bif Nat.beq sz' sz then runP E (f c) s l K else none
    | _ => none := by
  cases x with
  | sl sz' c => show ((bif Nat.beq sz' sz then some c else none).bind fun c => runP E (f c) s l K) = (bif Nat.beq sz' sz then runP E (f c) s l K else none); cases Nat.beq sz' sz <;> rfl
  | _ => rfl
theorem run_asAgg (x : T) (f : List T → Prog) : runP E (.asAgg x f) s l K = match x with | .agg c => runP E (f c) s l K | _ => none := by cases x <;> rfl
theorem run_asTup (x : T) (f : List T → Prog) : runP E (.asTup x f) s l K = match x with | .tup c => runP E (f c) s l K | _ => none := by cases x <;> rfl
theorem run_uncons (l' : List T) (f : T → List T → Prog) : runP E (.uncons l' f) s l K = match l' with | a :: r => runP E (f a r) s l K | [] => none := by cases l' <;> rfl
theorem run_unnil (l' : List T) (p : Prog) : runP E (.unnil l' p) s l K = match l' with | [] => runP E p s l K | _ :: _ => none := by cases l' <;> rfl
theorem run_onSome (x : Option T) (f : T → Prog) : runP E (.onSome x f) s l K = match x with | some a => runP E (f a) s l K | none => none := by cases x <;> rfl
theorem run_onRef (x : T) (p : Prog) : runP E (.onRef x p) s l K = match x with | .rref _ _ => runP E p s l K | _ => none := by cases x <;> rfl
theorem run_onClo (x : T) (p : Prog) : runP E (.onClo x p) s l K = match x with | .clo _ _ => runP E p s l K | _ => none := by cases x <;> rfl
theorem run_call (g : FuncId) (args : List T) (k : T → List T → Prog) : runP E (.call g args k) s l K = (E g args).bind fun r => runP E (k r.1 r.2) s l K := rfl
end
theorem CR_ofC {f : Fr} {s : St} {v : Value} (h : v.oneCell' = true) : CR f s (ofC v) v := by
  unfold ofC
  split
  · exact RB.int _ _
  · exact RB.bool _
  · exact RB.str _
  · rfl
  · exact h
theorem CRs_ofC {f : Fr} {s : St} {vs : List Value} (h : vs.all (·.oneCell') = true) : CRs f s (vs.map ofC) vs := by
  refine ⟨by simp, fun i c v hc hv => ?_⟩
  rw [List.getElem?_map, hv] at hc
  cases hc
  exact CR_ofC (List.all_eq_true.1 h v (List.mem_of_getElem? hv))
theorem VR_ofVal {f : Fr} {s : St} (v : Value) : VR f s (ofVal v) v := by
  unfold ofVal
  split
  · rename_i cs
    cases h : cs.toList.all (·.oneCell')
    · trivial
    · exact ⟨cs, rfl, CRs_ofC h⟩
  · exact RB.int _ _
  · exact RB.bool _
  · exact RB.str _
  · exact (rfl : _ = _)
  · trivial

theorem getV_sound (h : Inv c s a w val fp) {x : Operand} {f : V → Prog} (hr : runP E (getV x f) s l K = some r) :
    ∃ v l', runP E (f v) s l' K = some r ∧ VR (mkFr c w val fp) s v (a.eval x) := by
  cases x with
  | tmp i => exact ⟨_, _, hr, h.tms i⟩
  | const v => exact ⟨_, _, hr, VR_ofVal v⟩
  | func g =>
    refine ⟨_, _, hr, ?_⟩
    exact RB.clo (fun _ => default) (by simp) (by simp)
  | global g => simp [getV, runP] at hr

theorem setD_sound {d : Option Nat} {v : V} (hr : runP E (setD d v) s l K = some r) : ∃ d' l', d = some d' ∧ K (s.setT d' v) l' = some r := by
  cases d with
  | none => simp [setD, runP] at hr
  | some d => exact ⟨d, _, rfl, hr⟩

/-- A value for a slot, the world as it is. -/
theorem post_value (h : Inv c s a w val fp) {o : Oper} {d : Nat} {x : V} {v : Value} {l' : Log} (hd : d < a.tmps.size) (hv : VR (mkFr c w val fp) s x v) (hK : K (s.setT d x) l' = some r) :
    Post c w K r (a.put (some d) v) w :=
  ⟨_, _, val, fp, hK, h.setT hd hv, rfl, Kp.refl _ _⟩

theorem wp_value {o : Oper} {next : Act → World → Prop} {Q : Exit → Act → World → Prop} {v : Value} {w' : World}
    (hr : (execOp a.eval o).run P w = .ok (.value v) w') (h : next (a.put o.dst v) w') : o.wp P a w next Q := by
  unfold Oper.wp; rw [hr]; exact h
theorem wp_skipN {o : Oper} {next : Act → World → Prop} {Q : Exit → Act → World → Prop} {w' : World}
    (hr : (execOp a.eval o).run P w = .ok .skip w') (h : next (a.put o.dst undef) w') : o.wp P a w next Q := by
  unfold Oper.wp; rw [hr]; exact h

/-! ### inversion of what is read -/
theorem RB.int_inv {w : World} {I J : Nat → Prop} {k : IntKind} {n : Int} {v : Value} (h : RB w I J (.int k n) v) : v = .int k n := by cases h; rfl
theorem RB.bool_inv {w : World} {I J : Nat → Prop} {b : Bool} {v : Value} (h : RB w I J (.bool b) v) : v = .bool b := by cases h; rfl
theorem RB.str_inv {w : World} {I J : Nat → Prop} {b : ByteArray} {v : Value} (h : RB w I J (.str b) v) : v = .string b := by cases h; rfl

theorem op_move (h : Inv c s a w val fp) {o : Oper} {x : Operand} (ho : o.op = .move x ∨ o.op = .assign x) (hd : ∀ d, o.dst = some d → d < a.tmps.size)
    {Q : Exit → Act → World → Prop} (hr : runP E (getV x fun v => setD o.dst v) s l K = some r) : o.wp P a w (Post c w K r) Q := by
  obtain ⟨v, l1, h1, hv⟩ := getV_sound h hr
  obtain ⟨d, l2, hd', h2⟩ := setD_sound h1
  refine wp_value (v := a.eval x) (w' := w) ?_ ?_
  · rcases ho with ho | ho <;> simp [execOp, ho]
  · rw [hd']; exact post_value (o := o) h (hd d hd') hv h2

theorem op_pick (h : Inv c s a w val fp) {o : Oper} {x y z : Operand} (ho : o.op = .pick x y z) (hd : ∀ d, o.dst = some d → d < a.tmps.size)
    {Q : Exit → Act → World → Prop} (hr : runP E (opP P A o) s l K = some r) : o.wp P a w (Post c w K r) Q := by
  unfold opP at hr
  simp only [ho] at hr
  obtain ⟨v, l1, h1, hv⟩ := getV_sound h hr
  split at h1
  · rename_i b
    have hb := RB.bool_inv hv
    obtain ⟨va, l2, h2, hva⟩ := getV_sound h h1
    obtain ⟨vb, l3, h3, hvb⟩ := getV_sound h h2
    simp only [runP] at h3
    have hrun : (execOp a.eval o).run P w = .ok (.value (if b then a.eval y else a.eval z)) w := by simp [execOp, ho, hb, asBool]
    rcases ev_wrap h3 with ⟨rfl, h3⟩ | ⟨rfl, h3⟩
    · obtain ⟨d, l2, hd', h2⟩ := setD_sound h3
      refine wp_value hrun ?_
      rw [hd']; exact post_value (o := o) h (hd d hd') hva h2
    · obtain ⟨d, l2, hd', h2⟩ := setD_sound h3
      refine wp_value hrun ?_
      rw [hd']; exact post_value (o := o) h (hd d hd') hvb h2
  · simp [runP] at h1

theorem newO_sound {k : Key} {o : Ob} {p : Prog} (hr : runP E (newO k o p) s l K = some r) : s.getO k = .free ∧ ∃ l', runP E p (s.setO k o) l' K = some r := by
  simp only [newO, runP] at hr
  split at hr
  · rename_i hk; exact ⟨hk, _, hr⟩
  · simp [runP] at hr

theorem Inv.fp_free (h : Inv c s a w val fp) {k : Key} (hk : s.getO k = .free) : fp k = [] := by
  have := h.obs k; rw [hk] at this; exact this

/-- A new variable. -/
theorem new_box (h : Inv c s a w val fp) {d : Nat} (hd : d < a.tmps.size) {k : Key} {cs : List C} {vs : Array Value} {e : TypeId} {l' : Log} (hk : s.getO k = .free) (hc : CRs (mkFr c w val fp) s cs vs.toList)
    (hK : K ((s.setO k (.box cs)).setT d (.one (.ptr k 0))) l' = some r) :
    Post c w K r (a.put (some d) (.pointer (some ⟨w.heap.size, 0, none⟩))) (w.alloc (.cells vs e)) := by
  have hf := h.fp_free hk
  obtain ⟨h1, g, hp⟩ := h.change1 (w' := w.alloc (.cells vs e)) k (.box cs) (.pointer (some ⟨w.heap.size, 0, none⟩)) [w.heap.size] (by rw [hk]; trivial)
    (by intro b hb; right; rw [List.mem_singleton.1 hb]; exact Nat.le_refl _) (fun b hb _ => heap_alloc_old w _ b hb) (by simp) rfl rfl rfl
    (fun g => ⟨w.heap.size, vs, e, rfl, rfl, heap_alloc_new w _, hc.goes g⟩)
  refine ⟨_, _, _, _, hK, h1.setT hd ?_, rfl, hp⟩
  refine ⟨?_, rfl⟩
  simp [Ob.ref, ptrTo, mkFr]

theorem op_alloc (h : Inv c s a w val fp) {o : Oper} {e : TypeId} (ho : o.op = .alloc e) (hd : ∀ d, o.dst = some d → d < a.tmps.size)
    {Q : Exit → Act → World → Prop} (hr : runP E (opP P A o) s l K = some r) : o.wp P a w (Post c w K r) Q := by
  unfold opP at hr
  simp only [ho] at hr
  split at hr
  · rename_i d cs hd' hz
    obtain ⟨hk, l1, h1⟩ := newO_sound hr
    simp only [runP] at h1
    unfold zeroC at hz
    split at hz
    · rename_i i hi
      split at hz
      · rename_i z hzz
        rcases ev_wrap hz with ⟨hb, hz⟩ | ⟨_, hz⟩
        · cases hz
          rw [Bool.and_eq_true] at hb
          refine wp_value (v := .pointer (some ⟨w.heap.size, 0, none⟩)) (w' := w.alloc (.cells z.cells e)) ?_ ?_
          · simp [execOp, ho, Instr.alloc, zeroValue, typeInfo, hi, hzz, newVar, newRow]
          · rw [hd']; exact new_box h (hd d hd') hk (CRs_ofC hb.1) h1
        · cases hz
      · cases hz
    · cases hz
  · simp [runP] at hr

theorem cells_one {v : Value} (h : v.oneCell' = true) : v.cells = #[v] := by cases v <;> first | rfl | (simp [Value.oneCell'] at h)
theorem op_box (h : Inv c s a w val fp) {o : Oper} {e : TypeId} {x : Operand} (ho : o.op = .box e x) (hd : ∀ d, o.dst = some d → d < a.tmps.size)
    {Q : Exit → Act → World → Prop} (hr : runP E (opP P A o) s l K = some r) : o.wp P a w (Post c w K r) Q := by
  unfold opP at hr
  simp only [ho] at hr
  split at hr
  · rename_i d hd'
    obtain ⟨v, l1, h1, hv⟩ := getV_sound h hr
    have hrun : (execOp a.eval o).run P w = .ok (.value (.pointer (some ⟨w.heap.size, 0, none⟩))) (w.alloc (.cells (a.eval x).cells e)) := by
      simp [execOp, ho, Instr.box, newVar, newRow]
    split at h1
    · rename_i c1
      obtain ⟨hk, l2, h2⟩ := newO_sound h1
      simp only [runP] at h2
      refine wp_value hrun ?_
      rw [hd']
      refine new_box h (hd d hd') hk ?_ h2
      rw [cells_one (CR.one hv)]
      refine ⟨rfl, fun i c' v' hc hv' => ?_⟩
      cases i with
      | zero => simp at hc hv'; subst hc; subst hv'; exact hv
      | succ i => simp at hc
    · rename_i cs
      obtain ⟨hk, l2, h2⟩ := newO_sound h1
      simp only [runP] at h2
      refine wp_value hrun ?_
      rw [hd']
      obtain ⟨vs, e1, hv⟩ := hv
      refine new_box h (hd d hd') hk ?_ h2
      rw [e1]; exact hv
    · simp [runP] at h1
  · simp [runP] at hr
end
end Ev
