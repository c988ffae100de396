/- Ev: operations, all of them. -/
import Derived.Test.YtfolgfbhllmdiaaGreatDoorEvCallB
namespace Ev
open Go

section
variable {P : Program} {A : Attrs} {E : Env} {c : Ctx} {s : St} {a : Act} {w : World} {val : Key → Value} {fp : Key → List Nat}
variable {l : Log} {K : St → Log → R} {r : T × List T}

theorem wp_does {o : Oper} {g : FuncId} {vs : Array Value} (hrun : (execOp a.eval o).run P w = (callFunc g vs).run P w) {next : Act → World → Prop} {Q : Exit → Act → World → Prop}
    (h : Does P g vs w fun v w' => next (a.put o.dst v) w') : o.wp P a w next Q := by
  unfold Oper.wp
  rw [hrun]
  unfold Does at h
  split at h
  · rename_i heq; rw [heq]; exact h
  · rename_i heq; rw [heq]
    exact Calls.mono h fun e w' ⟨v, he, hr⟩ => by subst he; exact hr
  · exact h.elim

theorem resolveF_sound (h : Inv c s a w val fp) {v : V} {u : Value} (hv : VR (mkFr c w val fp) s v u) {f : FuncId → List T → Bool → Prog} (hr : runP E (resolveF v f) s l K = some r) :
    ∃ g caps sn l' cvs, runP E (f g caps sn) s l' K = some r ∧ u = .func (.func g) #[] cvs ∧ caps.length = cvs.size ∧ ∀ (i : Nat) (y : T) (u : Value), caps[i]? = some y → cvs[i]? = some u → SR c w fp [] sn y u := by
  have hsn : Snap c s s a w val fp [] := ⟨h, fun k _ => ⟨rfl, fun _ _ => by simp⟩, by simp⟩
  unfold resolveF at hr
  split at hr
  · rename_i g caps
    have hv' : RB w (inI c w fp) (inJ c w fp) (.clo g caps) u := hv
    cases hv' with
    | clo vs hl hc =>
      refine ⟨g, caps, false, l, _, hr, rfl, by simp [hl], fun i y u hy hu => ?_⟩
      have hi := (List.getElem?_eq_some_iff.1 hy).1
      rw [hl] at hu
      simp [hi] at hu
      subst hu
      exact hsn.rb false (hc i y hy)
  · rename_i g cs
    obtain ⟨vs, rfl, hcs⟩ := hv
    obtain ⟨ys, b, l1, h1, hl, hys⟩ := snapCaps_sound hsn hcs hr
    exact ⟨g, ys, b, l1, vs, h1, rfl, by simpa using hl, fun i y u hy hu => hys i y u hy (by simpa using hu)⟩
  · cases hr

theorem op_call (h : Inv c s a w val fp) (hE : ∀ g args r, E g args = some r → Meets P (A g) g args r) {o : Oper} {cl : Call} {x : Operand} (ho : o.op = .call cl) (hcl : cl.callee = .value x) (hd : ∀ d, o.dst = some d → d < a.tmps.size)
    {Q : Exit → Act → World → Prop} (hr : runP E (opP P A o) s l K = some r) : o.wp P a w (Post c w K r) Q := by
  unfold opP at hr
  simp only [ho, hcl] at hr
  obtain ⟨vf, l1, h1, hvf⟩ := getV_sound h hr
  obtain ⟨vs, l2, h2, hl, hvs⟩ := getVs_sound h h1
  obtain ⟨g, caps, sn, l3, cvs, h3, hu, hc1, hc2⟩ := resolveF_sound h hvf h2
  cases hdst : o.dst with
  | none =>
    unfold callP at h3
    rw [hdst] at h3
    cases h3
  | some d =>
    have := callP_sound h hE hdst (hd d hdst) (us := cl.args.map a.eval) (by simpa using hl) (fun i v u hv hu => by
      rw [Array.getElem?_map, Option.map_eq_some_iff] at hu
      obtain ⟨y, hy, rfl⟩ := hu
      exact hvs i y v (by simpa using hy) hv) hc1 hc2 h3
    refine wp_does ?_ this
    simp [execOp, ho, resolve, hcl, hu, Deferred.ofValue, invoke]

theorem op_sliceMax (h : Inv c s a w val fp) {o : Oper} {t : TypeId} {x : Operand} {k1 k2 : IntKind} (ho : o.op = .slice t x none (some (.const (.int k1 0))) (some (.const (.int k2 0)))) (hd : ∀ d, o.dst = some d → d < a.tmps.size)
    {Q : Exit → Act → World → Prop} (hr : runP E (opP P A o) s l K = some r) : o.wp P a w (Post c w K r) Q := by
  unfold opP at hr
  simp only [ho] at hr
  split at hr
  · rename_i d hd'
    rw [run_iteF] at hr
    replace hr := ev_true hr
    obtain ⟨hok, hr⟩ := hr
    obtain ⟨e, i, z, st⟩ := slOk_some hok
    obtain ⟨v, l1, h1, hv⟩ := getV_sound h hr
    obtain ⟨cells, l2, h2, A', len, cap, hu, e1, e2, e3⟩ := slOf_sound h hv h1
    obtain ⟨hfree, l3, h3⟩ := newO_sound h2
    rw [run_setT, run_done] at h3
    obtain ⟨F'', r1, r2⟩ := new_nil h hfree (sz := strideT P t) (by rw [st.stride]; exact st.pos) A'
    have t0 := run_sliceBound (P := P) w k2 0 cap .slice3Acap (by omega) (by omega)
    have t1 := run_sliceBound (P := P) w k1 0 0 .slice3B (by omega) (by omega)
    refine wp_value (v := .slice A' 0 0) (w' := w) ?_ ?_
    · have hb : (Instr.sliceBounds true len cap none (some (.int k1 0)) (some (.int k2 0))).run P w = .ok (0, 0, 0) w := by
        simp at t0 t1
        simp [Instr.sliceBounds, t0, t1]
      have q1 : a.eval (.const (.int k1 0)) = .int k1 0 := rfl
      have q2 : a.eval (.const (.int k2 0)) = .int k2 0 := rfl
      simp [execOp, ho, Instr.sliceAt, run_underlying st.hu, Instr.slice, hu, q1, q2, hb, Go.sizeOf, typeInfo, st.hi]
    · rw [hd']
      exact ⟨_, _, _, _, h3, r1.setT (hd d hd') (VR_c r2), rfl, Kp.refl _ _⟩
  · cases hr

theorem op_sound (h : Inv c s a w val fp) (hE : ∀ g args r, E g args = some r → Meets P (A g) g args r) {o : Oper} (hd : ∀ d, o.dst = some d → d < a.tmps.size)
    {Q : Exit → Act → World → Prop} (hr : runP E (opP P A o) s l K = some r) : o.wp P a w (Post c w K r) Q := by
  have hr0 := hr
  unfold opP at hr
  split at hr
  case h_1 x ho => exact op_move h (.inl ho) hd hr
  case h_2 x ho => exact op_move h (.inr ho) hd hr
  case h_3 ho => exact op_pick h ho hd hr0
  case h_4 ho => exact op_alloc h ho hd hr0
  case h_5 ho => exact op_box h ho hd hr0
  case h_6 ho => exact op_build h ho hd hr0
  case h_7 ho => exact op_buildSlice h ho hd hr0
  case h_8 ho => exact op_load h ho hd hr0
  case h_9 ho =>
    split at hr
    · rename_i hn; exact op_store h ho hn hr0
    · cases hr
  case h_10 ho => exact op_nilCheck h ho hd hr0
  case h_11 ho => exact op_binOp h ho hd hr0
  case h_12 ho => exact op_unOp h ho hd hr0
  case h_13 ho => exact op_convert h ho hd hr0
  case h_14 ho => exact op_makeFunc h ho hd hr0
  case h_15 ho => exact op_makeSlice h ho hd hr0
  case h_16 ho => exact op_slice h ho hd hr0
  case h_17 ho => exact op_sliceMax h ho hd hr0
  case h_18 ho => exact op_fieldAddr h ho hd hr0
  case h_19 ho => exact op_field h ho hd hr0
  case h_20 ho => exact op_indexAddr h ho hd hr0
  case h_21 ho => exact op_index h ho hd hr0
  case h_22 ho => exact op_extract h ho hd hr0
  case h_23 cl ho =>
    split at hr
    · rename_i hcl; exact op_len h ho hcl hd hr0
    · rename_i hcl
      split at hr
      · rename_i x y t t' d h1 h2 h3
        exact op_append h ho hcl (by apply Array.ext'; simpa using h1) (by apply Array.ext'; simpa using h2) h3 (hd d h3) hr
      · cases hr
    · rename_i hcl; exact op_min h ho hcl hd hr0
    · cases hr
    · cases hr
    · rename_i x hcl; exact op_call h hE ho hcl hd hr0
  case h_24 => cases hr
end
end Ev
