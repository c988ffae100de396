/- Ev: operations, all of them. -/
import Derived.Test.YtmcfccgmhinpdaaGreatDoorEvMore
import Derived.Test.YtmcfccgmhinpdaaGreatDoorEvView
import Derived.Orders
namespace Ev
open Go

section
variable {P : Program} {A : Attrs} {E : Env} {c : Ctx} {s : St} {a : Act} {w : World} {val : Key → Value} {fp : Key → List Nat}
variable {l : Log} {K : St → Log → R} {r : T × List T}

theorem wp_does {o : Oper} {g : FuncId} {vs : Array Value} (hrun : (execOp a.eval o).run P w = (callFunc g vs).run P w) {next : Act → World → Prop} {Q : Exit → Act → World → Prop}
    (h : Does P g vs w fun v w' => next (a.put o.dst v) w') : o.wp P a w next Q := by
  unfold Oper.wp
  rw [hrun]
  unfold Does at h
  split at h
  · rename_i heq; rw [heq]; exact h
  · rename_i heq; rw [heq]
    exact Calls.mono h fun e w' ⟨v, he, hr⟩ => by subst he; exact hr
  · exact h.elim

theorem resolveF_sound (h : Inv c s a w val fp) {v : V} {u : Value} (hv : VR (mkFr c w val fp) s v u) {f : FuncId → List T → Bool → Prog} (hr : runP E (resolveF v f) s l K = some r) :
    ∃ g caps sn l' cvs, runP E (f g caps sn) s l' K = some r ∧ u = .func (.func g) #[] cvs ∧ caps.length = cvs.size ∧ ∀ (i : Nat) (y : T) (u : Value), caps[i]? = some y → cvs[i]? = some u → SR c w fp [] sn y u := by
  have hsn : Snap c s s a w val fp [] := ⟨h, fun k _ => ⟨rfl, fun _ _ => by simp⟩, by simp, by simp⟩
  unfold resolveF at hr
  split at hr
  · rename_i g caps
    have hv' : RB w (inI c w fp) (inJ c w fp) (.clo g caps) u := hv
    cases hv' with
    | clo vs hl hc =>
      refine ⟨g, caps, false, l, _, hr, rfl, by simp [hl], fun i y u hy hu => ?_⟩
      have hi := (List.getElem?_eq_some_iff.1 hy).1
      rw [hl] at hu
      simp [hi] at hu
      subst hu
      exact hsn.rb false (hc i y hy)
  · rename_i g cs
    obtain ⟨vs, rfl, hcs⟩ := hv
    obtain ⟨ys, b, l1, h1, hl, hys⟩ := snapCaps_sound hsn hcs hr
    exact ⟨g, ys, b, l1, vs, h1, rfl, by simpa using hl, fun i y u hy hu => hys i y u hy (by simpa using hu)⟩
  · cases hr

theorem op_call (h : Inv c s a w val fp) (hE : ∀ g args r, E g args = some r → Meets P (A g) g args r) {o : Oper} {cl : Call} {x : Operand} (ho : o.op = .call cl) (hcl : cl.callee = .value x) (hd : ∀ d, o.dst = some d → d < a.tmps.size)
    {Q : Exit → Act → World → Prop} (hr : runP E (opP P A o) s l K = some r) : o.wp P a w (Post c w K r) Q := by
  unfold opP at hr
  simp only [ho, hcl] at hr
  obtain ⟨vf, l1, h1, hvf⟩ := getV_sound h hr
  obtain ⟨vs, l2, h2, hl, hvs⟩ := getVs_sound h h1
  obtain ⟨g, caps, sn, l3, cvs, h3, hu, hc1, hc2⟩ := resolveF_sound h hvf h2
  cases hvw : ((A g).view && caps.isEmpty) with
  | true =>
    rw [hvw, cond_true] at h3
    have hce : caps = [] := by
      rw [Bool.and_eq_true] at hvw
      simpa using hvw.2
    subst hce
    have hcv : cvs = #[] := Array.eq_empty_of_size_eq_zero (by simpa using hc1.symm)
    subst hcv
    cases hdst : o.dst with
    | none =>
      unfold callV at h3
      rw [hdst] at h3
      cases h3
    | some d =>
      have := callV_sound h hE hdst (hd d hdst) (us := cl.args.map a.eval) (by simpa using hl) (fun i v u hv hu => by
        rw [Array.getElem?_map, Option.map_eq_some_iff] at hu
        obtain ⟨y, hy, rfl⟩ := hu
        exact hvs i y v (by simpa using hy) hv) h3
      refine wp_does ?_ this
      simp [execOp, ho, resolve, hcl, hu, Deferred.ofValue, invoke]
  | false =>
  rw [hvw, cond_false] at h3
  cases hdst : o.dst with
  | none =>
    unfold callP at h3
    rw [hdst] at h3
    cases h3
  | some d =>
    have := callP_sound h hE hdst (hd d hdst) (us := cl.args.map a.eval) (by simpa using hl) (fun i v u hv hu => by
      rw [Array.getElem?_map, Option.map_eq_some_iff] at hu
      obtain ⟨y, hy, rfl⟩ := hu
      exact hvs i y v (by simpa using hy) hv) hc1 hc2 h3
    refine wp_does ?_ this
    simp [execOp, ho, resolve, hcl, hu, Deferred.ofValue, invoke]

theorem op_sliceMax (h : Inv c s a w val fp) {o : Oper} {t : TypeId} {x : Operand} {k1 k2 : IntKind} (ho : o.op = .slice t x none (some (.const (.int k1 0))) (some (.const (.int k2 0)))) (hd : ∀ d, o.dst = some d → d < a.tmps.size)
    {Q : Exit → Act → World → Prop} (hr : runP E (opP P A o) s l K = some r) : o.wp P a w (Post c w K r) Q := by
  unfold opP at hr
  simp only [ho] at hr
  split at hr
  · rename_i d hd'
    rw [run_iteF] at hr
    replace hr := ev_true hr
    obtain ⟨hok, hr⟩ := hr
    obtain ⟨e, i, z, st⟩ := slOk_some hok
    obtain ⟨v, l1, h1, hv⟩ := getV_sound h hr
    obtain ⟨cells, l2, h2, A', len, cap, hu, e1, e2, e3⟩ := slOf_sound h hv h1
    obtain ⟨hfree, l3, h3⟩ := newO_sound h2
    rw [run_setT, run_done] at h3
    obtain ⟨F'', r1, r2⟩ := new_nil h hfree (sz := strideT P t) (by rw [st.stride]; exact st.pos) A'
    have t0 := run_sliceBound (P := P) w k2 0 cap .slice3Acap (by omega) (by omega)
    have t1 := run_sliceBound (P := P) w k1 0 0 .slice3B (by omega) (by omega)
    refine wp_value (v := .slice A' 0 0) (w' := w) ?_ ?_
    · have hb : (Instr.sliceBounds true len cap none (some (.int k1 0)) (some (.int k2 0))).run P w = .ok (0, 0, 0) w := by
        simp at t0 t1
        simp [Instr.sliceBounds, t0, t1]
      have q1 : a.eval (.const (.int k1 0)) = .int k1 0 := rfl
      have q2 : a.eval (.const (.int k2 0)) = .int k2 0 := rfl
      simp [execOp, ho, Instr.sliceAt, run_underlying st.hu, Instr.slice, hu, q1, q2, hb, Go.sizeOf, typeInfo, st.hi]
    · rw [hd']
      exact ⟨_, _, _, _, h3, r1.setT (hd d hd') (VR_c r2), rfl, Kp.refl _ _⟩
  · cases hr

theorem op_sound (h : Inv c s a w val fp) (hE : ∀ g args r, E g args = some r → Meets P (A g) g args r) {o : Oper} (hd : ∀ d, o.dst = some d → d < a.tmps.size)
    {Q : Exit → Act → World → Prop} (hr : runP E (opP P A o) s l K = some r) : o.wp P a w (Post c w K r) Q := by
  have hr0 := hr
  unfold opP at hr
  split at hr
  case h_1 x ho => exact op_move h (.inl ho) hd hr
  case h_2 x ho => exact op_move h (.inr ho) hd hr
  case h_3 ho => exact op_pick h ho hd hr0
  case h_4 ho => exact op_alloc h ho hd hr0
  case h_5 ho => exact op_box h ho hd hr0
  case h_6 ho => exact op_build h ho hd hr0
  case h_7 ho => exact op_buildSlice h ho hd hr0
  case h_8 ho => exact op_load h ho hd hr0
  case h_9 ho =>
    split at hr
    · rename_i hn; exact op_store h ho hn hr0
    · cases hr
  case h_10 ho => exact op_nilCheck h ho hd hr0
  case h_11 ho => exact op_binOp h ho hd hr0
  case h_12 ho => exact op_unOp h ho hd hr0
  case h_13 ho => exact op_convert h ho hd hr0
  case h_14 ho => exact op_makeFunc h ho hd hr0
  case h_15 ho => exact op_makeSlice h ho hd hr0
  case h_16 ho => exact op_slice h ho hd hr0
  case h_17 ho => exact op_sliceMax h ho hd hr0
  case h_18 ho => exact op_fieldAddr h ho hd hr0
  case h_19 ho => exact op_field h ho hd hr0
  case h_20 ho => exact op_indexAddr h ho hd hr0
  case h_21 ho => exact op_index h ho hd hr0
  case h_22 ho => exact op_extract h ho hd hr0
  case h_23 cl ho =>
    split at hr
    · rename_i hcl; exact op_len h ho hcl hd hr0
    · rename_i hcl
      split at hr
      · rename_i x y t t' d h1 h2 h3
        exact op_append h ho hcl (by apply Array.ext'; simpa using h1) (by apply Array.ext'; simpa using h2) h3 (hd d h3) hr
      · cases hr
    · rename_i hcl; exact op_min h ho hcl hd hr0
    · rename_i hcl; exact op_copy h ho hcl hd hr0
    · rename_i hcl; exact op_max h ho hcl hd hr0
    · cases hr
    · cases hr
    · rename_i x hcl; exact op_call h hE ho hcl hd hr0
  case h_24 => cases hr
end
end Ev
/- Ev: steps, one by one; what they touch; operations in a row. -/
namespace Ev
open Go

def stepP (E : Env) : Prog → St → Log → Option (St × Log)
  | .done, s, l => some (s, l)
  | .fail, _, _ => none
  | .getT i f, s, l => stepP E (f (s.getT i)) s { l with rdT := i :: l.rdT }
  | .getO k f, s, l => stepP E (f (s.getO k)) s { l with rdO := k :: l.rdO }
  | .setT i v p, s, l => stepP E p (s.setT i v) { l with wrT := i :: l.wrT }
  | .setO k o p, s, l => stepP E p (s.setO k o) { l with wrO := k :: l.wrO }
  | .ite b p q, s, l => bif b then stepP E p s l else stepP E q s l
  | .asInt k x f, s, l => match x with
    | .int k' n => bif decide (k' = k) then stepP E (f n) s l else none
    | _ => none
  | .asBool x f, s, l => match x with | .bool b => stepP E (f b) s l | _ => none
  | .asStr x f, s, l => match x with | .str b => stepP E (f b) s l | _ => none
  | .asSl sz x f, s, l => match x with
    | .sl sz' c => bif Nat.beq sz' sz then stepP E (f c) s l else none
    | _ => none
  | .asAgg x f, s, l => match x with | .agg c => stepP E (f c) s l | _ => none
  | .asTup x f, s, l => match x with | .tup c => stepP E (f c) s l | _ => none
  | .uncons l' f, s, l => match l' with | a :: r => stepP E (f a r) s l | [] => none
  | .unnil l' p, s, l => match l' with | [] => stepP E p s l | _ :: _ => none
  | .onSome x f, s, l => match x with | some a => stepP E (f a) s l | none => none
  | .onRef x p, s, l => match x with | .rref _ _ => stepP E p s l | _ => none
  | .onClo x p, s, l => match x with | .clo _ _ => stepP E p s l | _ => none
  | .call g args k, s, l => (E g args).bind fun r => stepP E (k r.1 r.2) s l

theorem runP_step (E : Env) (K : St → Log → R) (p : Prog) : ∀ (s : St) (l : Log), runP E p s l K = (stepP E p s l).bind fun q => K q.1 q.2 := by
  induction p with
  | done => intro s l; rfl
  | fail => intro s l; rfl
  | getT i f ih => intro s l; exact ih _ s _
  | getO k f ih => intro s l; exact ih _ s _
  | setT i v p ih => intro s l; exact ih _ _
  | setO k o p ih => intro s l; exact ih _ _
  | ite b p q ihp ihq => intro s l; cases b <;> first | exact ihq s l | exact ihp s l
  | asInt k x f ih =>
    intro s l
    cases x with
    | int k' n =>
      rw [run_asInt]
      simp only [stepP]
      cases decide (k' = k)
      · rfl
      · exact ih _ s l
    | _ => rfl
  | asBool x f ih => intro s l; cases x <;> first | exact ih _ s l | rfl
  | asStr x f ih => intro s l; cases x <;> first | exact ih _ s l | rfl
  | asSl sz x f ih =>
    intro s l
    cases x with
    | sl sz' cs =>
      rw [run_asSl]
      simp only [stepP]
      cases Nat.beq sz' sz
      · rfl
      · exact ih _ s l
    | _ => rfl
  | asAgg x f ih => intro s l; cases x <;> first | exact ih _ s l | rfl
  | asTup x f ih => intro s l; cases x <;> first | exact ih _ s l | rfl
  | uncons l' f ih => intro s l; cases l' <;> first | rfl | exact ih _ _ s l
  | unnil l' p ih => intro s l; cases l' <;> first | exact ih s l | rfl
  | onSome x f ih => intro s l; cases x <;> first | rfl | exact ih _ s l
  | onRef x p ih => intro s l; cases x <;> first | exact ih s l | rfl
  | onClo x p ih => intro s l; cases x <;> first | exact ih s l | rfl
  | call g args k ih =>
    intro s l
    simp only [runP, stepP]
    cases E g args with
    | none => rfl
    | some r => exact ih _ _ s l

/-! ## what a step touches -/
structure Agrees (L : Log) (s t : St) : Prop where
  ft : ∀ i, i ∈ L.rdT → t.getT i = s.getT i
  fo : ∀ k, k ∈ L.rdO → t.getO k = s.getO k
theorem step_log (E : Env) (p : Prog) : ∀ {s s' : St} {l L : Log}, stepP E p s l = some (s', L) →
    (∀ i, i ∈ l.rdT → i ∈ L.rdT) ∧ (∀ i, i ∈ l.rdO → i ∈ L.rdO) ∧ (∀ i, i ∈ l.wrT → i ∈ L.wrT) ∧ (∀ i, i ∈ l.wrO → i ∈ L.wrO) ∧
    (∀ i, i ∉ L.wrT → s'.getT i = s.getT i) ∧ (∀ k, k ∉ L.wrO → s'.getO k = s.getO k) := by
  have bifc : ∀ {b : Bool} {α : Type} {x y : Option α} {z : α}, (bif b then x else y) = some z → x = some z ∨ y = some z := by
    intro b α x y z h; cases b <;> first | exact .inr h | exact .inl h
  induction p with
  | done => intro s s' l L h; cases h; simp
  | fail => intro s s' l L h; cases h
  | getT i f ih =>
    intro s s' l L h
    obtain ⟨h1, h2, h3, h4, h5, h6⟩ := ih _ h
    exact ⟨fun j hj => h1 j (List.mem_cons_of_mem _ hj), h2, h3, h4, h5, h6⟩
  | getO k f ih =>
    intro s s' l L h
    obtain ⟨h1, h2, h3, h4, h5, h6⟩ := ih _ h
    exact ⟨h1, fun j hj => h2 j (List.mem_cons_of_mem _ hj), h3, h4, h5, h6⟩
  | setT i v p ih =>
    intro s s' l L h
    obtain ⟨h1, h2, h3, h4, h5, h6⟩ := ih h
    refine ⟨h1, h2, fun j hj => h3 j (List.mem_cons_of_mem _ hj), h4, fun j hj => ?_, h6⟩
    rw [h5 j hj, getT_setT]
    have : i ≠ j := fun e => hj (e ▸ h3 i (by simp))
    rw [if_neg this]
  | setO k o p ih =>
    intro s s' l L h
    obtain ⟨h1, h2, h3, h4, h5, h6⟩ := ih h
    refine ⟨h1, h2, h3, fun j hj => h4 j (List.mem_cons_of_mem _ hj), h5, fun j hj => ?_⟩
    rw [h6 j hj, getO_setO]
    have : k ≠ j := fun e => hj (e ▸ h4 k (by simp))
    rw [if_neg this]
  | ite b p q ihp ihq => intro s s' l L h; rcases bifc h with h | h <;> first | exact ihp h | exact ihq h
  | asInt k x f ih =>
    intro s s' l L h
    cases x <;> first | exact ih _ (ev_true h).2 | cases h
  | asBool x f ih => intro s s' l L h; cases x <;> first | exact ih _ h | cases h
  | asStr x f ih => intro s s' l L h; cases x <;> first | exact ih _ h | cases h
  | asSl sz x f ih =>
    intro s s' l L h
    cases x <;> first | exact ih _ (ev_true h).2 | cases h
  | asAgg x f ih => intro s s' l L h; cases x <;> first | exact ih _ h | cases h
  | asTup x f ih => intro s s' l L h; cases x <;> first | exact ih _ h | cases h
  | uncons l' f ih => intro s s' l L h; cases l' <;> first | cases h | exact ih _ _ h
  | unnil l' p ih => intro s s' l L h; cases l' <;> first | exact ih h | cases h
  | onSome x f ih => intro s s' l L h; cases x <;> first | cases h | exact ih _ h
  | onRef x p ih => intro s s' l L h; cases x <;> first | exact ih h | cases h
  | onClo x p ih => intro s s' l L h; cases x <;> first | exact ih h | cases h
  | call g args k ih =>
    intro s s' l L h
    simp only [stepP] at h
    cases hE : E g args with
    | none => rw [hE] at h; cases h
    | some r => rw [hE] at h; exact ih _ _ h

theorem step_local (E : Env) (p : Prog) : ∀ {s s' t : St} {l L : Log}, stepP E p s l = some (s', L) → Agrees L s t →
    ∃ t', stepP E p t l = some (t', L) ∧ (∀ i, t.getT i = s.getT i → t'.getT i = s'.getT i) ∧ (∀ k, t.getO k = s.getO k → t'.getO k = s'.getO k) ∧
      (∀ i, i ∈ L.wrT → i ∉ l.wrT → t'.getT i = s'.getT i) ∧ (∀ k, k ∈ L.wrO → k ∉ l.wrO → t'.getO k = s'.getO k) := by
  induction p with
  | done => intro s s' t l L h ha; cases h; exact ⟨t, rfl, fun _ h => h, fun _ h => h, fun _ h h' => absurd h h', fun _ h h' => absurd h h'⟩
  | fail => intro s s' t l L h; cases h
  | getT i f ih =>
    intro s s' t l L h ha
    have hi : t.getT i = s.getT i := ha.ft i ((step_log E (f (s.getT i)) (show stepP E (f (s.getT i)) s { l with rdT := i :: l.rdT } = _ from h)).1 i List.mem_cons_self)
    obtain ⟨t', h1, h2⟩ := ih _ h ha
    refine ⟨t', ?_, h2⟩
    rw [stepP, hi]; exact h1
  | getO k f ih =>
    intro s s' t l L h ha
    have hi : t.getO k = s.getO k := ha.fo k ((step_log E (f (s.getO k)) (show stepP E (f (s.getO k)) s { l with rdO := k :: l.rdO } = _ from h)).2.1 k List.mem_cons_self)
    obtain ⟨t', h1, h2⟩ := ih _ h ha
    refine ⟨t', ?_, h2⟩
    rw [stepP, hi]; exact h1
  | setT i v p ih =>
    intro s s' t l L h ha
    have ha' : Agrees L (s.setT i v) (t.setT i v) := ⟨fun j hj => by rw [getT_setT, getT_setT, ha.ft j hj], fun k hk => ha.fo k hk⟩
    obtain ⟨t', h1, h2, h3, h4, h5⟩ := ih h ha'
    refine ⟨t', h1, fun j hj => h2 j (by rw [getT_setT, getT_setT, hj]), fun k hk => h3 k hk, fun j hj hn => ?_, h5⟩
    by_cases hij : i = j
    · subst hij; exact h2 i (by simp)
    · exact h4 j hj (fun hm => (List.mem_cons.1 hm).elim (fun e => hij e.symm) hn)
  | setO k o p ih =>
    intro s s' t l L h ha
    have ha' : Agrees L (s.setO k o) (t.setO k o) := ⟨fun j hj => ha.ft j hj, fun j hj => by rw [getO_setO, getO_setO, ha.fo j hj]⟩
    obtain ⟨t', h1, h2, h3, h4, h5⟩ := ih h ha'
    refine ⟨t', h1, fun j hj => h2 j hj, fun j hj => h3 j (by rw [getO_setO, getO_setO, hj]), h4, fun j hj hn => ?_⟩
    by_cases hij : k = j
    · subst hij; exact h3 k (by simp)
    · exact h5 j hj (fun hm => (List.mem_cons.1 hm).elim (fun e => hij e.symm) hn)
  | ite b p q ihp ihq =>
    intro s s' t l L h ha
    cases b with
    | true => exact ihp h ha
    | false => exact ihq h ha
  | asInt k x f ih =>
    intro s s' t l L h ha
    cases x with
    | int k' n =>
      obtain ⟨h1, h2⟩ := ev_true h
      obtain ⟨t', h3, h4⟩ := ih _ h2 ha
      refine ⟨t', ?_, h4⟩
      simp only [stepP]
      rw [h1]; exact h3
    | _ => cases h
  | asBool x f ih => intro s s' t l L h ha; cases x <;> first | exact ih _ h ha | cases h
  | asStr x f ih => intro s s' t l L h ha; cases x <;> first | exact ih _ h ha | cases h
  | asSl sz x f ih =>
    intro s s' t l L h ha
    cases x with
    | sl sz' cs =>
      obtain ⟨h1, h2⟩ := ev_true h
      obtain ⟨t', h3, h4⟩ := ih _ h2 ha
      refine ⟨t', ?_, h4⟩
      simp only [stepP]
      rw [h1]; exact h3
    | _ => cases h
  | asAgg x f ih => intro s s' t l L h ha; cases x <;> first | exact ih _ h ha | cases h
  | asTup x f ih => intro s s' t l L h ha; cases x <;> first | exact ih _ h ha | cases h
  | uncons l' f ih => intro s s' t l L h ha; cases l' <;> first | cases h | exact ih _ _ h ha
  | unnil l' p ih => intro s s' t l L h ha; cases l' <;> first | exact ih h ha | cases h
  | onSome x f ih => intro s s' t l L h ha; cases x <;> first | cases h | exact ih _ h ha
  | onRef x p ih => intro s s' t l L h ha; cases x <;> first | exact ih h ha | cases h
  | onClo x p ih => intro s s' t l L h ha; cases x <;> first | exact ih h ha | cases h
  | call g args k ih =>
    intro s s' t l L h ha
    simp only [stepP] at h
    cases hE : E g args with
    | none => rw [hE] at h; cases h
    | some r =>
      rw [hE] at h
      obtain ⟨t', h1, h2⟩ := ih _ _ h ha
      refine ⟨t', ?_, h2⟩
      simp only [stepP]
      rw [hE]; exact h1

/-! ## an operation, under its guard -/
/-- So many slots; one as it was. -/
def KT (a0 : Array Value) (tp : Option Nat) (n : Nat) (a : Act) : Prop := a.tmps.size = n ∧ ∀ i, tp = some i → a.tmps[i]? = a0[i]?
def Eqv (s t : St) : Prop := (∀ i, t.getT i = s.getT i) ∧ ∀ k, t.getO k = s.getO k
section
variable {P : Program} {A : Attrs} {E : Env} {c : Ctx} {s s' t : St} {a : Act} {w w' : World} {val : Key → Value} {fp : Key → List Nat}

theorem Inv.eqv (h : Inv c s a w val fp) (he : Eqv s t) : Inv c t a w val fp := by
  have g : Goes (mkFr c w val fp) (mkFr c w val fp) s t := ⟨fun b hb => ⟨hb, rfl⟩, fun b hb => ⟨hb, rfl⟩, fun k => by rw [he.2 k]; exact Turns.refl _ _, fun b ⟨k, hk, hb⟩ => ⟨.inl ⟨k, by rw [he.2 k]; exact hk, hb⟩, rfl⟩⟩
  refine ⟨fun k => ?_, fun i => ?_, h.disj, h.mine, h.size, h.defers, h.ij⟩
  · rw [he.2 k]; exact (h.obs k).goes g fun _ _ => rfl
  · rw [he.1 i]; exact (h.tms i).goes g

/-- Slots stay, but one. -/
def Slots (d : Option Nat) (a a' : Act) : Prop := a'.tmps.size = a.tmps.size ∧ ∀ i, d ≠ some i → a'.tmps[i]? = a.tmps[i]?
theorem slots_put (a : Act) (d : Option Nat) (v : Value) : Slots d a (a.put d v) := by
  unfold Act.put
  cases d with
  | none => exact ⟨rfl, fun _ _ => rfl⟩
  | some d =>
    refine ⟨by simp, fun i hi => ?_⟩
    have : d ≠ i := fun e => hi (by rw [e])
    exact Array.getElem?_setIfInBounds_ne this
theorem wp_size {o : Oper} {K : Act → World → Prop} {Q : Exit → Act → World → Prop} (h : o.wp P a w K Q) : o.wp P a w (fun a' w' => Slots o.dst a a' ∧ K a' w') Q := by
  have hs : ∀ (a : Act) (v : Value), Slots o.dst a (a.put o.dst v) := fun a v => slots_put a o.dst v
  unfold Oper.wp at *
  generalize (execOp a.eval o).run P w = r at *
  cases r with
  | ok n w' =>
    cases n with
    | value v => exact ⟨hs _ _, h⟩
    | skip => exact ⟨hs _ _, h⟩
    | defer d => exact ⟨slots_put { a with defers := d :: a.defers } o.dst undef, h⟩
    | enter f args => exact Calls.mono h fun e w'' he => by cases e <;> first | exact ⟨hs _ _, he⟩ | exact he
    | row row args => exact Rows.mono h fun _ _ he => ⟨hs _ _, he⟩
    | _ => exact h
  | halt x w' => cases x <;> exact h

theorem guard0_sound (h : Inv c s a w val fp) (hE : ∀ g args r, E g args = some r → Meets P (A g) g args r) {ops : Array Oper} {i : Nat} {o : Oper} (hi : ops[i]? = some o) (hd : ∀ d, o.dst = some d → d < a.tmps.size)
    {Q : Exit → Act → World → Prop} {l0 L : Log} (hr : stepP E (guardP0 ops.toList o (opP P A o)) s l0 = some (s', L)) :
    wpOp P ops Q i (fun a' w' => Slots o.dst a a' ∧ ∃ val fp, Inv c s' a' w' val fp ∧ Kp c.own w w') a w := by
  have conv : ∀ {p : Prog} {l : Log}, stepP E p s l = some (s', L) → runP E p s l (fun s'' l'' => (open Classical in if s'' = s' ∧ l'' = L then some (default, []) else none)) = some (default, []) := fun hp => by
    rw [runP_step, hp]; simp
  have back : ∀ {s'' : St} {l'' : Log}, (open Classical in if s'' = s' ∧ l'' = L then some ((default : T), ([] : List T)) else none) = some (default, []) → s'' = s' := fun hq => by
    split at hq
    · rename_i h; exact h.1
    · cases hq
  have wanted : Region.wanted o (yielded ops a.tmps) = true → ∀ {l : Log}, stepP E (opP P A o) s l = some (s', L) → wpOp P ops Q i (fun a' w' => Slots o.dst a a' ∧ ∃ val fp, Inv c s' a' w' val fp ∧ Kp c.own w w') a w := fun hw l hp => by
    unfold wpOp
    rw [hi]
    simp only [hw, if_true]
    refine .inl (Oper.wp_mono (fun a' w' ⟨h1, h2⟩ => ⟨h1, ?_⟩) (wp_size (op_sound h hE hd (conv hp))))
    obtain ⟨s'', l'', val', fp', hK, hinv, _, hkp⟩ := h2
    rw [back hK] at hinv
    exact ⟨val', fp', hinv, hkp⟩
  have skipped : Region.wanted o (yielded ops a.tmps) = false → ∀ {l : Log}, stepP E (skipP o.dst) s l = some (s', L) → wpOp P ops Q i (fun a' w' => Slots o.dst a a' ∧ ∃ val fp, Inv c s' a' w' val fp ∧ Kp c.own w w') a w := fun hw l hp => by
    unfold wpOp
    rw [hi]
    simp only [hw, Bool.false_eq_true, if_false]
    cases hdst : o.dst with
    | none =>
      rw [hdst] at hp
      cases hp
      exact ⟨⟨rfl, fun _ _ => rfl⟩, val, fp, h, Kp.refl _ _⟩
    | some d =>
      rw [hdst] at hp
      cases hp
      exact ⟨slots_put a (some d) undef, val, fp, h.setT (hd d hdst) rfl, Kp.refl _ _⟩
  unfold guardP0 at hr
  split at hr
  · rename_i hg
    exact wanted (by unfold Region.wanted; rw [hg]) hr
  · rename_i g want hg
    split at hr
    · rename_i d hgd
      have hgd' : (ops[g]?).bind (·.dst) = some d := by simpa using hgd
      rw [stepP] at hr
      have hv := h.tms d
      have hget : ∀ b, a.tmps.getD d undef = .bool b → a.tmps[d]? = some (.bool b) := fun b hb => by
        rw [Array.getD_eq_getD_getElem?] at hb
        cases hx : a.tmps[d]? with
        | none => rw [hx] at hb; simp [undef] at hb
        | some x => rw [hx] at hb; simp at hb; rw [hb]
      split at hr
      · rename_i b hvb
        rw [hvb] at hv
        have hb := hget b (RB.bool_inv hv)
        have hy : yielded ops a.tmps g = some b := by unfold yielded; rw [hgd']; simp [hb]
        rw [stepP] at hr
        cases hbw : (b == want) with
        | true =>
          rw [hbw] at hr
          exact wanted (by unfold Region.wanted; rw [hg]; simp only [hy]; simpa using hbw) hr
        | false =>
          rw [hbw] at hr
          exact skipped (by unfold Region.wanted; rw [hg]; simp only [hy]; simpa using hbw) hr
      · rename_i hvb
        rw [hvb] at hv
        have hv : a.tmps.getD d undef = undef := hv
        have hy : yielded ops a.tmps g = none := by
          unfold yielded
          rw [hgd']
          simp only [Option.bind_some]
          rw [Array.getD_eq_getD_getElem?] at hv
          cases hx : a.tmps[d]? with
          | none => rfl
          | some x =>
            rw [hx] at hv
            simp at hv
            rw [hv]
            rfl
        exact skipped (by unfold Region.wanted; rw [hg]; simp only [hy]; rfl) hr
      · cases hr
    · cases hr
theorem step_andThen (E : Env) (q : Prog) (p : Prog) : ∀ (s : St) (l : Log), stepP E (p.andThen q) s l = (stepP E p s l).bind fun x => stepP E q x.1 x.2 := by
  induction p with
  | done => intro s l; rfl
  | fail => intro s l; rfl
  | getT i f ih => intro s l; exact ih _ s _
  | getO k f ih => intro s l; exact ih _ s _
  | setT i v p ih => intro s l; exact ih _ _
  | setO k o p ih => intro s l; exact ih _ _
  | ite b p p' ihp ihq => intro s l; cases b <;> first | exact ihq s l | exact ihp s l
  | asInt k x f ih =>
    intro s l
    cases x with
    | int k' n =>
      simp only [Prog.andThen, stepP]
      cases decide (k' = k)
      · rfl
      · exact ih _ s l
    | _ => rfl
  | asBool x f ih => intro s l; cases x <;> first | exact ih _ s l | rfl
  | asStr x f ih => intro s l; cases x <;> first | exact ih _ s l | rfl
  | asSl sz x f ih =>
    intro s l
    cases x with
    | sl sz' c =>
      simp only [Prog.andThen, stepP]
      cases Nat.beq sz' sz
      · rfl
      · exact ih _ s l
    | _ => rfl
  | asAgg x f ih => intro s l; cases x <;> first | exact ih _ s l | rfl
  | asTup x f ih => intro s l; cases x <;> first | exact ih _ s l | rfl
  | uncons l' f ih => intro s l; cases l' <;> first | exact ih _ _ s l | rfl
  | unnil l' p ih => intro s l; cases l' <;> first | exact ih s l | rfl
  | onSome x f ih => intro s l; cases x <;> first | exact ih _ s l | rfl
  | onRef x p ih => intro s l; cases x <;> first | exact ih s l | rfl
  | onClo x p ih => intro s l; cases x <;> first | exact ih s l | rfl
  | call g args k ih =>
    intro s l
    simp only [Prog.andThen, stepP]
    cases E g args with
    | none => rfl
    | some r => exact ih _ _ s l
theorem fork_sound (h : Inv c s a w val fp) {d : Nat} {l L : Log} (hr : stepP E (forkP d) s l = some (s', L)) : Inv c s' a w val fp := by
  have known : ∀ b, s.getT d = .one (.t (.bool b)) → Inv c (s.setT d (.one (.t (.bool b)))) a w val fp := fun b hb => h.eqv ⟨fun i => by
    rw [getT_setT]
    by_cases hi : d = i
    · subst hi; rw [if_pos rfl, hb]
    · rw [if_neg hi], fun _ => rfl⟩
  unfold forkP at hr
  rw [stepP] at hr
  split at hr
  · rename_i b hb
    cases b with
    | true => cases hr; exact known true hb
    | false => cases hr; exact known false hb
  · cases hr; exact h
theorem guard_sound (h : Inv c s a w val fp) (hE : ∀ g args r, E g args = some r → Meets P (A g) g args r) {ops : Array Oper} {i : Nat} {o : Oper} (hi : ops[i]? = some o) (hd : ∀ d, o.dst = some d → d < a.tmps.size)
    {Q : Exit → Act → World → Prop} {L : Log} (hr : stepP E (guardP ops.toList o (opP P A o)) s emptyLog = some (s', L)) :
    wpOp P ops Q i (fun a' w' => Slots o.dst a a' ∧ ∃ val fp, Inv c s' a' w' val fp ∧ Kp c.own w w') a w := by
  unfold guardP at hr
  split at hr
  · rename_i d hdd
    cases hg : guards ops.toList d with
    | false => rw [hg, cond_false] at hr; exact guard0_sound h hE hi hd hr
    | true =>
      rw [hg, cond_true, step_andThen, Option.bind_eq_some_iff] at hr
      obtain ⟨⟨s1, l1⟩, h1, h2⟩ := hr
      refine wpOp_mono (fun a' w' ⟨q1, val', fp', q2, q3⟩ => ⟨q1, val', fp', fork_sound q2 h2, q3⟩) (guard0_sound h hE hi hd h1)
  · exact guard0_sound h hE hi hd hr
theorem KT.next {a0 : Array Value} {tp : Option Nat} {n : Nat} {a a' : Act} {d : Option Nat} (h : KT a0 tp n a) (hs : Slots d a a') (hd : ∀ i, d = some i → tp ≠ some i) : KT a0 tp n a' :=
  ⟨hs.1.trans h.1, fun i hi => (hs.2 i fun e => hd i e hi).trans (h.2 i hi)⟩
end
end Ev
