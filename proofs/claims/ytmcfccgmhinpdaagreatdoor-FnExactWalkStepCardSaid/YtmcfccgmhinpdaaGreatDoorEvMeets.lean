/- Ev: the end of a function; functions keep what they promise. -/
import Derived.Test.YtmcfccgmhinpdaaGreatDoorEvBody
namespace Ev
open Go

section
variable {P : Program} {A : Attrs} {E : Env} {c : Ctx} {s s1 : St} {a : Act} {w : World} {val : Key → Value} {fp : Key → List Nat}
variable {l : Log} {K : St → Log → R} {r : T × List T}

/-- One result, as the machine reads it. -/
def resOf (tmps : Array Value) : ResultVar → Sem Value
  | .tmp t => pure (tmps.getD t undef)
  | .cell a t => do loadVar t (← asAddr (tmps.getD a undef))

theorem resVs_sound (h : Inv c s a w val fp) : ∀ {rs : List ResultVar} {ts : List TypeId} {f : List V → Prog} {l : Log}, runP E (resVs P rs ts f) s l K = some r →
    ∃ vs us l', runP E (f vs) s l' K = some r ∧ (rs.mapM (resOf a.tmps)).run P w = .ok us w ∧ vs.length = us.length ∧ ∀ (i : Nat) (v : V) (u : Value), vs[i]? = some v → us[i]? = some u → VR (mkFr c w val fp) s v u
  | [], [], f, l, hr => ⟨[], [], l, hr, rfl, rfl, by simp⟩
  | .tmp t :: rs, _ :: ts, f, l, hr => by
    rw [resVs, run_getT] at hr
    obtain ⟨vs, us, l1, h1, h2, h3, h4⟩ := resVs_sound h hr
    refine ⟨_ :: vs, a.tmps.getD t undef :: us, l1, h1, ?_, by simp [h3], fun i v u hv hu => ?_⟩
    · simp [List.mapM_cons, resOf, h2]
    · cases i with
      | zero => simp at hv hu; subst hv; subst hu; simpa using h.tms t
      | succ i => exact h4 i v u (by simpa using hv) (by simpa using hu)
  | .cell b t :: rs, _ :: ts, f, l, hr => by
    rw [resVs, run_getT] at hr
    have hv := h.tms b
    split at hr
    · rename_i k q hb
      rw [hb] at hv
      rw [run_getO] at hr
      split at hr
      · rename_i cells hk
        rw [run_iteF] at hr
        replace hr := ev_true hr
        obtain ⟨hok, hr⟩ := hr
        rw [Bool.and_eq_true] at hok
        have hle := of_decide_eq_true hok.2
        have hob := h.obs k
        rw [hk] at hob
        obtain ⟨g, cur, e, hu, hF, hh, hcs⟩ := hob
        have hh : w.heap[g]? = some (.cells cur e (0, 0)) := hh
        have hp : ptrTo (val k) q (a.tmps.getD b undef) := ptr_alive hv hk (.inl ⟨_, rfl⟩)
        rw [hu] at hp
        have hp : a.tmps.getD b undef = .pointer (some ⟨g, 0 + q, none⟩) := hp
        rw [Nat.zero_add] at hp
        have hget : ∀ j, j < (cellTys P 8 t).length → cur[q + j]? = some (cur.getD (q + j) undef) := fun j hj => by
          have : q + j < cur.size := by have := hcs.1; simp at this; omega
          simp [this]
        have hload := run_loadVar (P := P) hok.1 (b := g) (o := q) (f := fun j => cur.getD (q + j) undef) (w := w) (fun j hj => by rw [cell_of_cells hh]; exact hget j hj)
        obtain ⟨vs, us, l1, h1, h2, h3, h4⟩ := resVs_sound h hr
        refine ⟨_ :: vs, readV P t (fun j => cur.getD (q + j) undef) :: us, l1, h1, ?_, by simp [h3], fun i v u hv hu => ?_⟩
        · simp only [List.mapM_cons, resOf, hp]
          simp [asAddr, hload, h2]
        · cases i with
          | zero =>
            simp only [List.getElem?_cons_zero, Option.some.injEq] at hv hu
            subst hv; subst hu
            refine VR_mkV hok.1 (by simp; omega) fun j y hy => ?_
            rw [List.getElem?_take] at hy
            split at hy
            · rename_i hj
              rw [List.getElem?_drop] at hy
              exact hcs.2 (q + j) y _ hy (by simpa using hget j hj)
            · cases hy
          | succ i => exact h4 i v u (by simpa using hv) (by simpa using hu)
      · cases hr
    · cases hr
  | [], _ :: _, _, _, hr => by cases hr
  | .tmp _ :: _, [], _, _, hr => by cases hr
  | .cell _ _ :: _, [], _, _, hr => by cases hr

/-- Results moved out. -/
structure Given (c : Ctx) (w : World) (fp : Key → List Nat) (own : Bool) (L M : List Key) (xs : List T) (us : List Value) (fs : Nat → List Nat) : Prop where
  len : xs.length = us.length
  nd : ND xs.length fs
  sub : ∀ i b, i < xs.length → b ∈ fs i → ∃ k, k ∈ M ∧ b ∈ fp k
  el : ∀ (i : Nat) (x : T) (u : Value), xs[i]? = some x → us[i]? = some u → ResV w (inI c w (clr fp (M ++ L))) (inJ c w (clr fp (M ++ L))) own x u (fs i)

theorem ResV.clr_more {own : Bool} {L M : List Key} {x : T} {v : Value} {F : List Nat} (h : ResV w (inI c w (clr fp L)) (inJ c w (clr fp L)) own x v F) : ResV w (inI c w (clr fp (M ++ L))) (inJ c w (clr fp (M ++ L))) own x v F := by
  have el : ∀ {y : T} {u : Value} {F : List Nat}, El w (inI c w (clr fp L)) (inJ c w (clr fp L)) own y u F → El w (inI c w (clr fp (M ++ L))) (inJ c w (clr fp (M ++ L))) own y u F := fun h => by
    unfold El at *
    split
    · rename_i ho; rw [if_pos ho] at h; exact h
    · rename_i ho; rw [if_neg ho] at h; exact ⟨RB.clr_more h.1, h.2⟩
  unfold ResV at *
  cases x with
  | agg xs =>
    obtain ⟨vs, fs, h1, h2, h3, h4, h5⟩ := h
    exact ⟨vs, fs, h1, h2, h3, h4, fun i y u hy hu => el (h5 i y u hy hu)⟩
  | tup _ => exact h
  | int _ _ => exact el h
  | bool _ => exact el h
  | str _ => exact el h
  | sl _ _ => exact el h
  | rref _ _ => exact el h
  | clo _ _ => exact el h
  | hole => exact el h
  | mp _ => exact el h

theorem El_res {I J : Nat → Prop} {own : Bool} {x : T} {v : Value} {F : List Nat} (h : El w I J own x v F) : ResV w I J own x v F := by
  unfold El at h
  split at h
  · rename_i ho
    subst ho
    cases x with
    | agg _ => cases h
    | tup _ => cases h
    | _ => exact h
  · rename_i ho
    have : own = false := by simpa using ho
    subst this
    cases x with
    | agg _ => obtain ⟨h, _⟩ := h; cases h
    | tup _ => obtain ⟨h, _⟩ := h; cases h
    | _ => exact h

theorem giveRs_sound (h : Inv c s a w val fp) {own : Bool} : ∀ {ts : List TypeId} {vs : List V} {us : List Value} {L : List Key} {s1 : St} {l : Log} {f : List T → Prog}, Moved s s1 L → vs.length = us.length →
    (∀ (i : Nat) (v : V) (u : Value), vs[i]? = some v → us[i]? = some u → VR (mkFr c w val fp) s v u) → runP E (giveRs P own ts vs f) s1 l K = some r →
    ∃ xs s2 l2 M fs, runP E (f xs) s2 l2 K = some r ∧ Moved s s2 (M ++ L) ∧ Given c w fp own L M xs us fs
  | [], [], us, L, s1, l, f, hm, hl, hv, hr => by
    have : us = [] := List.eq_nil_of_length_eq_zero (by simpa using hl.symm)
    subst this
    exact ⟨[], s1, l, [], fun _ => [], hr, hm, rfl, ND.nil _, by simp, by simp⟩
  | t :: ts, v :: vs, [], L, s1, l, f, hm, hl, hv, hr => by simp at hl
  | t :: ts, v :: vs, u :: us, L, s1, l, f, hm, hl, hv, hr => by
    have hv' : ∀ (i : Nat) (v : V) (u : Value), vs[i]? = some v → us[i]? = some u → VR (mkFr c w val fp) s v u := fun i v' u' h1 h2 => hv (i + 1) v' u' (by simpa using h1) (by simpa using h2)
    have hv0 := hv 0 v u rfl rfl
    have hl' : vs.length = us.length := by simpa using hl
    -- one result, then the rest
    have join : ∀ {x : T} {F : List Nat} {M1 : List Key} {s2 : St} {l2 : Log}, ResV w (inI c w (clr fp (M1 ++ L))) (inJ c w (clr fp (M1 ++ L))) own x u F → F.Nodup → (∀ b, b ∈ F → ∃ k, k ∈ M1 ∧ b ∈ fp k) → Moved s s2 (M1 ++ L) →
        runP E (giveRs P own ts vs fun r => f (x :: r)) s2 l2 K = some r → ∃ xs s2 l2 M fs, runP E (f xs) s2 l2 K = some r ∧ Moved s s2 (M ++ L) ∧ Given c w fp own L M xs (u :: us) fs := by
      intro x F M1 s2 l2 hx hnd hsub hm2 h2
      obtain ⟨xs, s3, l3, M, fs, h3, hm3, hg⟩ := giveRs_sound h hm2 hl' hv' h2
      have hap : ∀ k, k ∈ M1 → k ∉ M := fun k hk hk' => by
        have := hm3.nd
        rw [List.nodup_append] at this
        exact this.2.2 k hk' k (List.mem_append_left _ hk) rfl
      have cross : ∀ b, b ∈ F → ∀ i, i < xs.length → b ∉ fs i := fun b hb i hi hbi => by
        obtain ⟨k, hk, hbk⟩ := hsub b hb
        obtain ⟨k', hk', hbk'⟩ := hg.sub i b hi hbi
        exact h.disj k k' (fun e => hap k hk (e ▸ hk')) b hbk hbk'
      refine ⟨x :: xs, s3, l3, M ++ M1, fun i => match i with | 0 => F | i + 1 => fs i, h3, by rw [List.append_assoc]; exact hm3, by simp [hg.len], ⟨fun i hi => ?_, fun i j hi hj hne b hb hb' => ?_⟩, fun i b hi hb => ?_, fun i y u' hy hu => ?_⟩
      · cases i with
        | zero => exact hnd
        | succ i => exact hg.nd.1 i (by simpa using hi)
      · cases i with
        | zero =>
          cases j with
          | zero => exact hne rfl
          | succ j => exact cross b hb j (by simpa using hj) hb'
        | succ i =>
          cases j with
          | zero => exact cross b hb' i (by simpa using hi) hb
          | succ j => exact hg.nd.2 i j (by simpa using hi) (by simpa using hj) (by omega) b hb hb'
      · cases i with
        | zero => obtain ⟨k, hk, hbk⟩ := hsub b hb; exact ⟨k, List.mem_append_right _ hk, hbk⟩
        | succ i => obtain ⟨k, hk, hbk⟩ := hg.sub i b (by simpa using hi) hb; exact ⟨k, List.mem_append_left _ hk, hbk⟩
      · rw [List.append_assoc]
        cases i with
        | zero => simp at hy hu; subst hy; subst hu; exact hx.clr_more
        | succ i => exact hg.el i y u' (by simpa using hy) (by simpa using hu)
    cases v with
    | agg cs =>
      rw [giveRs] at hr
      obtain ⟨vs', rfl, hcs⟩ := hv0
      obtain ⟨ys, b, s2, l2, M1, fs, h2, hm2, hmv⟩ := moveCs_sound h hm hcs hr
      rw [run_ite, run_fail] at h2
      rcases ev_wrap h2 with ⟨_, h2⟩ | ⟨hchk, h2⟩
      · cases h2
      cases own with
      | true =>
        have hb : b = true := by cases b; · cases hchk
                                 · rfl
        obtain ⟨q1, q2, q3⟩ := hmv.ro hb
        refine join (x := .agg ys) (M1 := M1) (F := flat ys.length fs) ⟨vs', fs, rfl, by simpa using hmv.len, q2, rfl, fun i y u hy hu => q1 i y u hy (by simpa using hu)⟩ ((nodup_flat _ _).2 q2) (fun x hx => ?_) hm2 h2
        obtain ⟨i, hi, hx⟩ := mem_flat.1 hx
        exact q3 i x hi hx
      | false =>
        exact join (x := .agg ys) (M1 := M1) (F := []) ⟨vs', fun _ => [], rfl, by simpa using hmv.len, ND.nil _, by simp [flat], fun i y u hy hu => ⟨hmv.rb i y u hy (by simpa using hu), rfl⟩⟩ List.nodup_nil (by simp) hm2 h2
    | one x =>
      rw [giveRs] at hr
      obtain ⟨y, b, s2, l2, M1, F, h2, hm2, hmv⟩ := moveC_sound h hm hv0 hr
      rw [run_ite, run_fail] at h2
      rcases ev_wrap h2 with ⟨_, h2⟩ | ⟨hchk, h2⟩
      · cases h2
      cases own with
      | true =>
        have hb : b = true := by cases b; · cases hchk
                                 · rfl
        obtain ⟨q1, q2⟩ := hmv.ro hb
        exact join (F := F) (El_res (show El w _ _ true y u F from q1)) q1.nodup q2 hm2 h2
      | false => exact join (F := []) (El_res (show El w _ _ false y u [] from ⟨hmv.rb, rfl⟩)) List.nodup_nil (by simp) hm2 h2
    | tup _ => cases hr
    | clo _ _ => cases hr
    | skip => cases hr
    | any => cases hr
  | [], _ :: _, _, _, _, _, _, _, _, _, hr => by cases hr
  | _ :: _, [], _, _, _, _, _, _, _, _, hr => by cases hr

/-- What was turned, at the end. -/
theorem endOuts_sound (h : Inv c s a w val fp) {L : List Key} (hm : Moved s s1 L) {at_ : Attr} {pts : List TypeId} {f : List T → Prog} (hr : runP E (endOuts P at_ pts f) s1 l K = some r) :
    ∃ outs s2 l2 Fo, runP E (f outs) s2 l2 K = some r ∧ (∀ b, b ∈ Fo → ∃ k, k ∉ L ∧ b ∈ fp k) ∧ ((at_.turn = none ∧ outs = [] ∧ Fo = []) ∨
      (∃ i y, at_.turn = some i ∧ at_.take = false ∧ outs = [y] ∧ OutT w (inI c w fp) (inJ c w fp) at_.md y (a.tmps.getD i undef) Fo) ∨ (at_.take = true ∧ outs = [] ∧ Fo = [])) := by
  have same : ∀ {k : Key}, Alive (s1.getO k) → k ∉ L ∧ s.getO k = s1.getO k := fun {k} hal => by
    have : k ∉ L := fun hl => by
      rcases (hm.gone _ hl).1 with e | ⟨j, e⟩ <;> rw [e] at hal <;> cases hal
    exact ⟨this, (hm.same _ this).symm⟩
  have apart : ∀ {M : List Key}, ∀ {s2 : St}, Moved s s2 (M ++ L) → ∀ k, k ∈ M → k ∉ L := fun {M s2} hm2 k hk hl => by
    have := hm2.nd
    rw [List.nodup_append] at this
    exact this.2.2 k hk k hl rfl
  unfold endOuts at hr
  split at hr
  · rename_i ht; exact ⟨[], s1, l, [], hr, by simp, .inl ⟨ht, rfl, rfl⟩⟩
  · rename_i i ht
    cases htk : at_.take with
    | true => rw [htk, cond_true] at hr; exact ⟨[], s1, l, [], hr, by simp, .inr (.inr ⟨rfl, rfl, rfl⟩)⟩
    | false =>
    rw [htk, cond_false] at hr
    rw [run_getT, hm.tm] at hr
    have hv := h.tms i
    split at hr
    · rename_i os k hmd hvk
      rw [hvk] at hv
      rw [run_iteF] at hr
      replace hr := ev_true hr
      obtain ⟨hb, hr⟩ := hr
      have hk : k = turnKey := Nat.eq_of_beq_eq_true hb
      subst hk
      rw [run_getO] at hr
      split at hr
      · rename_i cells hok
        obtain ⟨hnL, hs⟩ := same (k := turnKey) (by rw [hok]; rfl)
        rw [hok] at hs
        have hob := h.obs turnKey
        rw [hs] at hob
        obtain ⟨b, cur, e, hu, hF, hh, hcs⟩ := hob
        have hh : w.heap[b]? = some (.cells cur e (0, 0)) := hh
        have hp : ptrTo (val turnKey) 0 (a.tmps.getD i undef) := ptr_live hv (by rw [hs]; rfl)
        rw [hu] at hp
        have hp : a.tmps.getD i undef = .pointer (some ⟨b, 0, none⟩) := hp
        obtain ⟨ys, s2, l2, M, fs, h1, hm2, hg⟩ := giveCs_sound h hm hcs hr
        rw [run_getO] at h1
        split at h1
        · have hbn : b ∉ flat ys.length fs := fun hb => by
            obtain ⟨i, hi, hbi⟩ := mem_flat.1 hb
            obtain ⟨k', hk', hbk'⟩ := hg.sub i b hi hbi
            have hne : turnKey ≠ k' := fun e => by
              subst e
              obtain ⟨_, d, sz, cells', h2⟩ := hm2.gone turnKey (List.mem_append_left _ hk')
              rw [hs] at h2; cases h2
            exact h.disj turnKey k' hne b (by rw [hF]; simp) hbk'
          refine ⟨_, s2, _, b :: flat ys.length fs, h1, fun x hx => ?_, .inr (.inl ⟨i, _, ht, rfl, rfl, ?_⟩)⟩
          · rcases List.mem_cons.1 hx with rfl | hx
            · exact ⟨turnKey, hnL, by rw [hF]; simp⟩
            · obtain ⟨j, hj, hxj⟩ := mem_flat.1 hx
              obtain ⟨k', hk', hbk'⟩ := hg.sub j x hj hxj
              exact ⟨k', apart hm2 k' hk', hbk'⟩
          · rw [hmd]
            exact ⟨ys, rfl, b, cur, e, fs, hp, rfl, hbn, hh, hg.r⟩
        · cases h1
      · cases hr
    · rename_i k hmd hvk
      rw [hvk] at hv
      rw [run_iteF] at hr
      replace hr := ev_true hr
      obtain ⟨hb, hr⟩ := hr
      have hk : k = turnKey := Nat.eq_of_beq_eq_true hb
      subst hk
      rw [run_getO] at hr
      split at hr
      · rename_i sz cs hok
        rw [run_setO] at hr
        obtain ⟨hnL, hs⟩ := same (k := turnKey) (by rw [hok]; rfl)
        rw [hok] at hs
        have hob := h.obs turnKey
        rw [hs] at hob
        have hp : a.tmps.getD i undef = val turnKey := obj_alive hv hs
        refine ⟨_, _, _, fp turnKey, hr, fun x hx => ⟨turnKey, hnL, hx⟩, .inr (.inl ⟨i, _, ht, rfl, rfl, ?_⟩)⟩
        rw [hmd, hp]
        exact ⟨⟨_, _, rfl⟩, hob⟩
      · cases hr
    · rename_i cells hmd hvk
      rw [hvk] at hv
      obtain ⟨vs, hu, hcs⟩ := hv
      obtain ⟨ys, s2, l2, M, fs, h1, hm2, hg⟩ := giveCs_sound h hm hcs hr
      have tr : ∀ j, j < ys.length → (trues (cellTys P 8 (pts.getD i 0))).getD j false = true := fun j hj => by
        have h1 : j < (trues (cellTys P 8 (pts.getD i 0))).length := by rw [hg.ol]; exact hj
        unfold trues at *
        simp at h1
        simp [List.getD_eq_getElem?_getD, h1]
      refine ⟨_, s2, _, flat ys.length fs, h1, fun x hx => ?_, .inr (.inl ⟨i, _, ht, rfl, rfl, ?_⟩)⟩
      · obtain ⟨j, hj, hxj⟩ := mem_flat.1 hx
        obtain ⟨k', hk', hbk'⟩ := hg.sub j x hj hxj
        exact ⟨k', apart hm2 k' hk', hbk'⟩
      · rw [hmd, hu]
        refine ⟨ys, rfl, vs, fs, rfl, rfl, hg.r.1, hg.r.2.1, fun j y u hy hu => ?_⟩
        have hi := (List.getElem?_eq_some_iff.1 hy).1
        have h2 := hg.r.2.2 j y u hy hu
        rw [tr j hi] at h2
        have h3 : (truesT ys).getD j false = true := by simp [truesT, List.getD_eq_getElem?_getD, hi]
        rw [h3]
        exact h2
    · cases hr
end
end Ev
/- Ev: functions keep what they promise. -/
namespace Ev
open Go

theorem run_results {P : Program} {fn : Func} {tmps : Array Value} {w : World} {us : List Value} (h : (fn.results.toList.mapM (resOf tmps)).run P w = .ok us w) :
    (results fn tmps).run P w = .ok (if h : us.toArray.size = 1 then us.toArray[0] else .tuple us.toArray) w := by
  have e2 : results fn tmps = (do
      let vs ← fn.results.mapM (resOf tmps)
      pure (if h : vs.size = 1 then vs[0] else .tuple vs)) := rfl
  have e : fn.results.mapM (resOf tmps) = List.toArray <$> fn.results.toList.mapM (resOf tmps) := by
    rcases fn.results with ⟨rl⟩
    simp
  rw [e2, e]
  simp [h]

theorem callK_sound {P : Program} {A : Attrs} {H : FuncId → Hints} {E : Env} (hm : P.follows .mixedOrders = true) (hE : ∀ g args r, E g args = some r → Meets P (A g) g args r) {n : Nat} {f : FuncId} {args : List T} {r : T × List T}
    (hr : callK P A H E n f args = some r) : Meets P (A f) f args r := by
  unfold callK at hr
  split at hr
  case h_2 => cases hr
  rename_i fn hf
  split at hr
  case h_2 => cases hr
  rename_i body hb
  split at hr
  case h_2 => cases hr
  rename_i vs0 os hargs
  replace hr := ev_true hr
  obtain ⟨hok, hr⟩ := hr
  rw [Bool.and_eq_true, Bool.and_eq_true] at hok
  have hname : (fn.name == "runtime.NumGoroutine") = false := by simpa using hok.2
  have hle : args.length ≤ fn.ntmps := Nat.le_of_ble_eq_true hok.1.2
  intro w I J vs F hp
  have hcall : (callFunc f vs).run P w = .ok (.enter f vs) w := by
    have hne : ¬ fn.name = "runtime.NumGoroutine" := by simpa using hname
    simp [callFunc, hf, hne, hb]
  unfold Does
  rw [hcall]
  refine calls_of_wp hf hb ?_
  obtain ⟨val, fp, hinv⟩ := entry hp hargs (fn.ntmps - vs.size)
  have hsz : (vs ++ Array.replicate (fn.ntmps - vs.size) undef).size = fn.ntmps := by
    have := hp.len
    simp; omega
  refine wp_mono (codeK_sound (a0 := vs) (tp := (A f).turn) (w0 := w) hm hE n body hok.1.1 0 _ _ _ w val fp hinv ⟨hsz, fun i hi => ?_⟩ (Kp.refl _ _) hr) fun e a' w' hq => ?_
  · obtain ⟨x, v, hx, hv, _⟩ := hp.turned i hi
    exact Array.getElem?_append_left (by have := hp.len; have := (List.getElem?_eq_some_iff.1 hx).1; omega)
  have fin : ∀ {K : St → R}, Ok vs (A f).turn ⟨w.heap.size, I, J, (· ∈ F)⟩ w fn.ntmps K r a' w' → (∀ s, K s = endK P A f fn s) →
      a'.defers = [] ∧ ∃ v, (results fn a'.tmps).run P w' = .ok v w' ∧ ∃ v', Ending.returned v = .returned v' ∧ ∃ Fr Fo, Done (A f) w I J vs F r v' w' Fr Fo := by
    rintro K ⟨s, val, fp, hK, hi, hkt, hkp⟩ hKe
    rw [hKe] at hK
    unfold endK at hK
    unfold endP at hK
    obtain ⟨rs, us, l1, h1, h2, h3, h4⟩ := resVs_sound hi hK
    obtain ⟨xs, s2, l2, M, fs, h5, hm2, hg⟩ := giveRs_sound hi (Moved.refl s) h3 h4 h1
    rw [List.append_nil] at hm2
    obtain ⟨outs, s3, l3, Fo, h6, hFo, hout⟩ := endOuts_sound hi hm2 h5
    rw [run_setO, run_done] at h6
    have hget : ((s3.setO endKey (.arr true true 0 (packR xs :: outs))).getO endKey) = .arr true true 0 (packR xs :: outs) := by rw [getO_setO, if_pos rfl]
    rw [hget] at h6
    simp only [Option.some.injEq] at h6
    subst h6
    refine ⟨hi.defers, _, run_results h2, _, rfl, flat xs.length fs, Fo, ?_⟩
    have hFrsub : ∀ b, b ∈ flat xs.length fs → ∃ k, k ∈ M ∧ b ∈ fp k := fun b hb => by
      obtain ⟨i, hib, hb⟩ := mem_flat.1 hb; exact hg.sub i b hib hb
    have mine : ∀ k b, b ∈ fp k → b ∈ F ∨ w.heap.size ≤ b := fun k b hb => (hi.mine k b hb).symm
    have hFr0 : (A f).own = false → flat xs.length fs = [] := fun ho => by
      simp only [flat, List.flatMap_eq_nil_iff, List.mem_range]
      intro i hi'
      have hiu : i < us.length := by rw [← hg.len]; exact hi'
      have := hg.el i _ _ (List.getElem?_eq_getElem hi') (List.getElem?_eq_getElem hiu)
      rw [ho] at this
      have nilF : ∀ {x : T} {v : Value} {G : List Nat}, ResV w' (inI ⟨w.heap.size, I, J, (· ∈ F)⟩ w' (clr fp (M ++ []))) (inJ ⟨w.heap.size, I, J, (· ∈ F)⟩ w' (clr fp (M ++ []))) false x v G → G = [] := by
        intro x v G h
        cases x with
        | agg ys =>
          obtain ⟨vs', gs, e1, e2, _, e3, e4⟩ := h
          rw [e3]
          simp only [flat, List.flatMap_eq_nil_iff, List.mem_range]
          intro j hj
          have hjv : j < vs'.size := by omega
          exact (e4 j _ vs'[j] (List.getElem?_eq_getElem hj) (by simp [hjv])).2
        | tup _ => exact h.elim
        | _ => exact h.2
      exact nilF this
    have after : ∀ b, inI ⟨w.heap.size, I, J, (· ∈ F)⟩ w' (clr fp (M ++ [])) b → (A f).own = false → aftI I w w' F (flat xs.length fs) Fo b := fun b hb ho => by
      refine ⟨?_, hb.2.1, by rw [hFr0 ho]; simp, fun hbo => ?_⟩
      · rcases hb.1 with h | h | h
        · exact .inl h
        · exact .inr (.inr h)
        · exact .inr (.inl h)
      · obtain ⟨k, q1, q2⟩ := hFo b hbo
        exact hb.2.2 k (by simp [clr, q1, q2])
    have afterJ : ∀ b, inJ ⟨w.heap.size, I, J, (· ∈ F)⟩ w' (clr fp (M ++ [])) b → (A f).own = false → aftI J w w' F (flat xs.length fs) Fo b := fun b hb ho => by
      refine ⟨?_, hb.2.1, by rw [hFr0 ho]; simp, fun hbo => ?_⟩
      · rcases hb.1 with h | h | h
        · exact .inl h
        · exact .inr (.inr h)
        · exact .inr (.inl h)
      · obtain ⟨k, q1, q2⟩ := hFo b hbo
        exact hb.2.2 k (by simp [clr, q1, q2])
    have el : ∀ {x : T} {v : Value} {G : List Nat}, ResV w' (inI ⟨w.heap.size, I, J, (· ∈ F)⟩ w' (clr fp (M ++ []))) (inJ ⟨w.heap.size, I, J, (· ∈ F)⟩ w' (clr fp (M ++ []))) (A f).own x v G →
        ResV w' (aftI I w w' F (flat xs.length fs) Fo) (aftI J w w' F (flat xs.length fs) Fo) (A f).own x v G := fun {x v G} h => by
      have cell : ∀ {y : T} {u : Value} {G : List Nat}, El w' (inI ⟨w.heap.size, I, J, (· ∈ F)⟩ w' (clr fp (M ++ []))) (inJ ⟨w.heap.size, I, J, (· ∈ F)⟩ w' (clr fp (M ++ []))) (A f).own y u G →
          El w' (aftI I w w' F (flat xs.length fs) Fo) (aftI J w w' F (flat xs.length fs) Fo) (A f).own y u G := fun h => by
        unfold El at *
        split
        · rename_i ho; rw [if_pos ho] at h; exact h
        · rename_i ho
          rw [if_neg ho] at h
          have ho : (A f).own = false := by simpa using ho
          exact ⟨RB.move h.1 (fun b hb => ⟨after b hb ho, rfl⟩) (fun b hb => ⟨afterJ b hb ho, rfl⟩), h.2⟩
      cases x with
      | agg ys =>
        obtain ⟨vs', gs, e1, e2, e3, e4, e5⟩ := h
        exact ⟨vs', gs, e1, e2, e3, e4, fun i y u hy hu => cell (e5 i y u hy hu)⟩
      | tup _ => exact h
      | _ => exact cell h
    refine ⟨⟨hkp.os, hkp.tape, hkp.output, hkp.size, fun b hb hn => hkp.block b hb ?_⟩, fun b hb => ?_, fun b hb hbo => ?_, ?_, ?_⟩
    · rintro (h | h)
      · exact absurd hb (by show ¬ b < w.heap.size; have : w.heap.size ≤ b := h; omega)
      · exact hn h
    · rcases hb with hb | hb
      · obtain ⟨k, _, hbk⟩ := hFrsub b hb; exact mine k b hbk
      · obtain ⟨k, _, q2⟩ := hFo b hb; exact mine k b q2
    · obtain ⟨k, hk, hbk⟩ := hFrsub b hb
      obtain ⟨k', q1, q2⟩ := hFo b hbo
      exact hi.disj k k' (fun e => q1 (e ▸ hk)) b hbk q2
    · match xs, us, hg with
      | [], [], hg => exact ⟨#[], fs, rfl, rfl, hg.nd, rfl, by simp⟩
      | [x], [u], hg =>
        have h7 := el (hg.el 0 x u rfl rfl)
        have hfl : flat [x].length fs = fs 0 := by simp [flat]
        have h8 : ResV w' (aftI I w w' F (flat [x].length fs) Fo) (aftI J w w' F (flat [x].length fs) Fo) (A f).own x u (flat [x].length fs) := by
          rw [hfl] at h7 ⊢; exact h7
        show ResT w' _ _ _ x u _
        cases x with
        | tup _ => exact h8.elim
        | _ => exact h8
      | x :: y :: xs, u :: v :: us, hg =>
        refine ⟨(u :: v :: us).toArray, fs, ?_, by simpa using hg.len, hg.nd, rfl, fun i z u' hz hu => el (hg.el i z u' hz (by simpa using hu))⟩
        rw [dif_neg (by simp)]
      | [], _ :: _, hg => have := hg.len; simp at this
      | _ :: _, [], hg => have := hg.len; simp at this
      | [_], _ :: _ :: _, hg => have := hg.len; simp at this
      | _ :: _ :: _, [_], hg => have := hg.len; simp at this
    · rcases hout with ⟨q1, q2, q3⟩ | ⟨i, y, q1, q0, q2, q3⟩ | q4
      · exact .inl ⟨q1, q2, q3⟩
      · obtain ⟨x, v, hx, hv, _⟩ := hp.turned i q1
        have hil : i < args.length := (List.getElem?_eq_some_iff.1 hx).1
        refine .inr (.inl ⟨i, y, v, q1, q0, q2, hv, ?_⟩)
        have : a'.tmps.getD i undef = v := by
          rw [Array.getD_eq_getD_getElem?, hkt.2 i q1, hv]; rfl
        rw [this] at q3
        have toI : ∀ b, inI ⟨w.heap.size, I, J, (· ∈ F)⟩ w' fp b → aftI I w w' F (flat xs.length fs) Fo b := fun b hb => by
          refine ⟨?_, hb.2.1, fun hbr => ?_, fun hbo => ?_⟩
          · rcases hb.1 with h | h | h
            · exact .inl h
            · exact .inr (.inr h)
            · exact .inr (.inl h)
          · obtain ⟨k, _, hbk⟩ := hFrsub b hbr; exact hb.2.2 k hbk
          · obtain ⟨k, _, hbk⟩ := hFo b hbo; exact hb.2.2 k hbk
        have toJ : ∀ b, inJ ⟨w.heap.size, I, J, (· ∈ F)⟩ w' fp b → aftI J w w' F (flat xs.length fs) Fo b := fun b hb => by
          refine ⟨?_, hb.2.1, fun hbr => ?_, fun hbo => ?_⟩
          · rcases hb.1 with h | h | h
            · exact .inl h
            · exact .inr (.inr h)
            · exact .inr (.inl h)
          · obtain ⟨k, _, hbk⟩ := hFrsub b hbr; exact hb.2.2 k hbk
          · obtain ⟨k, _, hbk⟩ := hFo b hbo; exact hb.2.2 k hbk
        revert q3
        cases (A f).md with
        | ptr os =>
          rintro ⟨ys, e1, b', cur, e, fs', p1, p2, p3, p4, p5, p6, p7⟩
          refine ⟨ys, e1, b', cur, e, fs', p1, p2, p3, p4, p5, p6, fun j y u hy hu => ?_⟩
          have := p7 j y u hy hu
          unfold El at *
          split
          · rename_i ho; rw [if_pos ho] at this; exact this
          · rename_i ho
            rw [if_neg ho] at this
            exact ⟨RB.move this.1 (fun x hx => ⟨toI x hx, rfl⟩) (fun x hx => ⟨toJ x hx, rfl⟩), this.2⟩
        | sl => exact id
        | val => exact id
      · exact .inr (.inr q4)
  cases e with
  | normal => exact fin hq fun s => rfl
  | ret => exact fin hq fun s => rfl
  | exit i => obtain ⟨s, _, _, hK, _⟩ := hq; cases hK
  | goto l => exact hq.elim
  | panic ch => exact hq.elim
  | outgrown => exact hq.elim
end Ev
