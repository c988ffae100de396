/- Ev: functions keep what they promise. -/
import Derived.Test.YtfolgfbhllmdiaaGreatDoorEvEnd
namespace Ev
open Go

theorem run_results {P : Program} {fn : Func} {tmps : Array Value} {w : World} {us : List Value} (h : (fn.results.toList.mapM (resOf tmps)).run P w = .ok us w) :
    (results fn tmps).run P w = .ok (if h : us.toArray.size = 1 then us.toArray[0] else .tuple us.toArray) w := by
  have e2 : results fn tmps = (do
      let vs ← fn.results.mapM (resOf tmps)
      pure (if h : vs.size = 1 then vs[0] else .tuple vs)) := rfl
  have e : fn.results.mapM (resOf tmps) = List.toArray <$> fn.results.toList.mapM (resOf tmps) := by
    rcases fn.results with ⟨rl⟩
    simp
  rw [e2, e]
  simp [h]

theorem callK_sound {P : Program} {A : Attrs} {H : FuncId → Hints} {E : Env} (hm : P.follows .mixedOrders = true) (hE : ∀ g args r, E g args = some r → Meets P (A g) g args r) {n : Nat} {f : FuncId} {args : List T} {r : T × List T}
    (hr : callK P A H E n f args = some r) : Meets P (A f) f args r := by
  unfold callK at hr
  split at hr
  case h_2 => cases hr
  rename_i fn hf
  split at hr
  case h_2 => cases hr
  rename_i body hb
  split at hr
  case h_2 => cases hr
  rename_i vs0 os hargs
  replace hr := ev_true hr
  obtain ⟨hok, hr⟩ := hr
  rw [Bool.and_eq_true, Bool.and_eq_true] at hok
  have hname : (fn.name == "runtime.NumGoroutine") = false := by simpa using hok.2
  have hle : args.length ≤ fn.ntmps := Nat.le_of_ble_eq_true hok.1.2
  intro w I J vs F hp
  have hcall : (callFunc f vs).run P w = .ok (.enter f vs) w := by
    have hne : ¬ fn.name = "runtime.NumGoroutine" := by simpa using hname
    simp [callFunc, hf, hne, hb]
  unfold Does
  rw [hcall]
  refine calls_of_wp hf hb ?_
  obtain ⟨val, fp, hinv⟩ := entry hp hargs (fn.ntmps - vs.size)
  have hsz : (vs ++ Array.replicate (fn.ntmps - vs.size) undef).size = fn.ntmps := by
    have := hp.len
    simp; omega
  refine wp_mono (codeK_sound (a0 := vs) (tp := (A f).turn) (w0 := w) hm hE n body hok.1.1 0 _ _ _ w val fp hinv ⟨hsz, fun i hi => ?_⟩ (Kp.refl _ _) hr) fun e a' w' hq => ?_
  · obtain ⟨x, v, hx, hv, _⟩ := hp.turned i hi
    exact Array.getElem?_append_left (by have := hp.len; have := (List.getElem?_eq_some_iff.1 hx).1; omega)
  have fin : ∀ {K : St → R}, Ok vs (A f).turn ⟨w.heap.size, I, J, (· ∈ F)⟩ w fn.ntmps K r a' w' → (∀ s, K s = endK P A f fn s) →
      a'.defers = [] ∧ ∃ v, (results fn a'.tmps).run P w' = .ok v w' ∧ ∃ v', Ending.returned v = .returned v' ∧ ∃ Fr Fo, Done (A f) w I J vs F r v' w' Fr Fo := by
    rintro K ⟨s, val, fp, hK, hi, hkt, hkp⟩ hKe
    rw [hKe] at hK
    unfold endK at hK
    unfold endP at hK
    obtain ⟨rs, us, l1, h1, h2, h3, h4⟩ := resVs_sound hi hK
    obtain ⟨xs, s2, l2, M, fs, h5, hm2, hg⟩ := giveRs_sound hi (Moved.refl s) h3 h4 h1
    rw [List.append_nil] at hm2
    obtain ⟨outs, s3, l3, Fo, h6, hFo, hout⟩ := endOuts_sound hi hm2 h5
    rw [run_setO, run_done] at h6
    have hget : ((s3.setO endKey (.arr true true 0 (packR xs :: outs))).getO endKey) = .arr true true 0 (packR xs :: outs) := by rw [getO_setO, if_pos rfl]
    rw [hget] at h6
    simp only [Option.some.injEq] at h6
    subst h6
    refine ⟨hi.defers, _, run_results h2, _, rfl, flat xs.length fs, Fo, ?_⟩
    have hFrsub : ∀ b, b ∈ flat xs.length fs → ∃ k, k ∈ M ∧ b ∈ fp k := fun b hb => by
      obtain ⟨i, hib, hb⟩ := mem_flat.1 hb; exact hg.sub i b hib hb
    have mine : ∀ k b, b ∈ fp k → b ∈ F ∨ w.heap.size ≤ b := fun k b hb => (hi.mine k b hb).symm
    have hFr0 : (A f).own = false → flat xs.length fs = [] := fun ho => by
      simp only [flat, List.flatMap_eq_nil_iff, List.mem_range]
      intro i hi'
      have hiu : i < us.length := by rw [← hg.len]; exact hi'
      have := hg.el i _ _ (List.getElem?_eq_getElem hi') (List.getElem?_eq_getElem hiu)
      rw [ho] at this
      have nilF : ∀ {x : T} {v : Value} {G : List Nat}, ResV w' (inI ⟨w.heap.size, I, J, (· ∈ F)⟩ w' (clr fp (M ++ []))) (inJ ⟨w.heap.size, I, J, (· ∈ F)⟩ w' (clr fp (M ++ []))) false x v G → G = [] := by
        intro x v G h
        cases x with
        | agg ys =>
          obtain ⟨vs', gs, e1, e2, _, e3, e4⟩ := h
          rw [e3]
          simp only [flat, List.flatMap_eq_nil_iff, List.mem_range]
          intro j hj
          have hjv : j < vs'.size := by omega
          exact (e4 j _ vs'[j] (List.getElem?_eq_getElem hj) (by simp [hjv])).2
        | tup _ => exact h.elim
        | _ => exact h.2
      exact nilF this
    have after : ∀ b, inI ⟨w.heap.size, I, J, (· ∈ F)⟩ w' (clr fp (M ++ [])) b → (A f).own = false → aftI I w w' F (flat xs.length fs) Fo b := fun b hb ho => by
      refine ⟨?_, hb.2.1, by rw [hFr0 ho]; simp, fun hbo => ?_⟩
      · rcases hb.1 with h | h | h
        · exact .inl h
        · exact .inr (.inr h)
        · exact .inr (.inl h)
      · obtain ⟨q1, q2⟩ := hFo b hbo
        exact hb.2.2 turnKey (by simp [clr, q1, q2])
    have afterJ : ∀ b, inJ ⟨w.heap.size, I, J, (· ∈ F)⟩ w' (clr fp (M ++ [])) b → (A f).own = false → aftI J w w' F (flat xs.length fs) Fo b := fun b hb ho => by
      refine ⟨?_, hb.2.1, by rw [hFr0 ho]; simp, fun hbo => ?_⟩
      · rcases hb.1 with h | h | h
        · exact .inl h
        · exact .inr (.inr h)
        · exact .inr (.inl h)
      · obtain ⟨q1, q2⟩ := hFo b hbo
        exact hb.2.2 turnKey (by simp [clr, q1, q2])
    have el : ∀ {x : T} {v : Value} {G : List Nat}, ResV w' (inI ⟨w.heap.size, I, J, (· ∈ F)⟩ w' (clr fp (M ++ []))) (inJ ⟨w.heap.size, I, J, (· ∈ F)⟩ w' (clr fp (M ++ []))) (A f).own x v G →
        ResV w' (aftI I w w' F (flat xs.length fs) Fo) (aftI J w w' F (flat xs.length fs) Fo) (A f).own x v G := fun {x v G} h => by
      have cell : ∀ {y : T} {u : Value} {G : List Nat}, El w' (inI ⟨w.heap.size, I, J, (· ∈ F)⟩ w' (clr fp (M ++ []))) (inJ ⟨w.heap.size, I, J, (· ∈ F)⟩ w' (clr fp (M ++ []))) (A f).own y u G →
          El w' (aftI I w w' F (flat xs.length fs) Fo) (aftI J w w' F (flat xs.length fs) Fo) (A f).own y u G := fun h => by
        unfold El at *
        split
        · rename_i ho; rw [if_pos ho] at h; exact h
        · rename_i ho
          rw [if_neg ho] at h
          have ho : (A f).own = false := by simpa using ho
          exact ⟨RB.move h.1 (fun b hb => ⟨after b hb ho, rfl⟩) (fun b hb => ⟨afterJ b hb ho, rfl⟩), h.2⟩
      cases x with
      | agg ys =>
        obtain ⟨vs', gs, e1, e2, e3, e4, e5⟩ := h
        exact ⟨vs', gs, e1, e2, e3, e4, fun i y u hy hu => cell (e5 i y u hy hu)⟩
      | tup _ => exact h
      | _ => exact cell h
    refine ⟨⟨hkp.os, hkp.tape, hkp.output, hkp.size, fun b hb hn => hkp.block b hb ?_⟩, fun b hb => ?_, fun b hb hbo => ?_, ?_, ?_⟩
    · rintro (h | h)
      · exact absurd hb (by show ¬ b < w.heap.size; have : w.heap.size ≤ b := h; omega)
      · exact hn h
    · rcases hb with hb | hb
      · obtain ⟨k, _, hbk⟩ := hFrsub b hb; exact mine k b hbk
      · exact mine turnKey b (hFo b hb).2
    · obtain ⟨k, hk, hbk⟩ := hFrsub b hb
      obtain ⟨q1, q2⟩ := hFo b hbo
      exact hi.disj k turnKey (fun e => q1 (e ▸ hk)) b hbk q2
    · match xs, us, hg with
      | [], [], hg => exact ⟨#[], fs, rfl, rfl, hg.nd, rfl, by simp⟩
      | [x], [u], hg =>
        have h7 := el (hg.el 0 x u rfl rfl)
        have hfl : flat [x].length fs = fs 0 := by simp [flat]
        have h8 : ResV w' (aftI I w w' F (flat [x].length fs) Fo) (aftI J w w' F (flat [x].length fs) Fo) (A f).own x u (flat [x].length fs) := by
          rw [hfl] at h7 ⊢; exact h7
        show ResT w' _ _ _ x u _
        cases x with
        | tup _ => exact h8.elim
        | _ => exact h8
      | x :: y :: xs, u :: v :: us, hg =>
        refine ⟨(u :: v :: us).toArray, fs, ?_, by simpa using hg.len, hg.nd, rfl, fun i z u' hz hu => el (hg.el i z u' hz (by simpa using hu))⟩
        rw [dif_neg (by simp)]
      | [], _ :: _, hg => have := hg.len; simp at this
      | _ :: _, [], hg => have := hg.len; simp at this
      | [_], _ :: _ :: _, hg => have := hg.len; simp at this
      | _ :: _ :: _, [_], hg => have := hg.len; simp at this
    · rcases hout with ⟨q1, q2, q3⟩ | ⟨i, y, q1, q0, q2, q3⟩ | q4
      · exact .inl ⟨q1, q2, q3⟩
      · obtain ⟨x, v, hx, hv, _⟩ := hp.turned i q1
        have hil : i < args.length := (List.getElem?_eq_some_iff.1 hx).1
        refine .inr (.inl ⟨i, y, v, q1, q0, q2, hv, ?_⟩)
        have : a'.tmps.getD i undef = v := by
          rw [Array.getD_eq_getD_getElem?, hkt.2 i q1, hv]; rfl
        rw [this] at q3
        exact q3
      · exact .inr (.inr q4)
  cases e with
  | normal => exact fin hq fun s => rfl
  | ret => exact fin hq fun s => rfl
  | exit i => obtain ⟨s, _, _, hK, _⟩ := hq; cases hK
  | goto l => exact hq.elim
  | panic ch => exact hq.elim
  | outgrown => exact hq.elim
end Ev
