/- Ev: the end of a function; functions keep what they promise. -/
import Derived.Test.YtfolgfbhllmdiaaGreatDoorEvBody
namespace Ev
open Go

section
variable {P : Program} {A : Attrs} {E : Env} {c : Ctx} {s s1 : St} {a : Act} {w : World} {val : Key → Value} {fp : Key → List Nat}
variable {l : Log} {K : St → Log → R} {r : T × List T}

/-- One result, as the machine reads it. -/
def resOf (tmps : Array Value) : ResultVar → Sem Value
  | .tmp t => pure (tmps.getD t undef)
  | .cell a t => do loadVar t (← asAddr (tmps.getD a undef))

theorem resVs_sound (h : Inv c s a w val fp) : ∀ {rs : List ResultVar} {ts : List TypeId} {f : List V → Prog} {l : Log}, runP E (resVs P rs ts f) s l K = some r →
    ∃ vs us l', runP E (f vs) s l' K = some r ∧ (rs.mapM (resOf a.tmps)).run P w = .ok us w ∧ vs.length = us.length ∧ ∀ (i : Nat) (v : V) (u : Value), vs[i]? = some v → us[i]? = some u → VR (mkFr c w val fp) s v u
  | [], [], f, l, hr => ⟨[], [], l, hr, rfl, rfl, by simp⟩
  | .tmp t :: rs, _ :: ts, f, l, hr => by
    rw [resVs, run_getT] at hr
    obtain ⟨vs, us, l1, h1, h2, h3, h4⟩ := resVs_sound h hr
    refine ⟨_ :: vs, a.tmps.getD t undef :: us, l1, h1, ?_, by simp [h3], fun i v u hv hu => ?_⟩
    · simp [List.mapM_cons, resOf, h2]
    · cases i with
      | zero => simp at hv hu; subst hv; subst hu; simpa using h.tms t
      | succ i => exact h4 i v u (by simpa using hv) (by simpa using hu)
  | .cell b t :: rs, _ :: ts, f, l, hr => by
    rw [resVs, run_getT] at hr
    have hv := h.tms b
    split at hr
    · rename_i k q hb
      rw [hb] at hv
      rw [run_getO] at hr
      split at hr
      · rename_i cells hk
        rw [run_iteF] at hr
        replace hr := ev_true hr
        obtain ⟨hok, hr⟩ := hr
        rw [Bool.and_eq_true] at hok
        have hle := of_decide_eq_true hok.2
        have hob := h.obs k
        rw [hk] at hob
        obtain ⟨g, cur, e, hu, hF, hh, hcs⟩ := hob
        have hh : w.heap[g]? = some (.cells cur e (0, 0)) := hh
        have hp : ptrTo (val k) q (a.tmps.getD b undef) := ptr_alive hv hk (.inl ⟨_, rfl⟩)
        rw [hu] at hp
        have hp : a.tmps.getD b undef = .pointer (some ⟨g, 0 + q, none⟩) := hp
        rw [Nat.zero_add] at hp
        have hget : ∀ j, j < (cellTys P 8 t).length → cur[q + j]? = some (cur.getD (q + j) undef) := fun j hj => by
          have : q + j < cur.size := by have := hcs.1; simp at this; omega
          simp [this]
        have hload := run_loadVar (P := P) hok.1 (b := g) (o := q) (f := fun j => cur.getD (q + j) undef) (w := w) (fun j hj => by rw [cell_of_cells hh]; exact hget j hj)
        obtain ⟨vs, us, l1, h1, h2, h3, h4⟩ := resVs_sound h hr
        refine ⟨_ :: vs, readV P t (fun j => cur.getD (q + j) undef) :: us, l1, h1, ?_, by simp [h3], fun i v u hv hu => ?_⟩
        · simp only [List.mapM_cons, resOf, hp]
          simp [asAddr, hload, h2]
        · cases i with
          | zero =>
            simp only [List.getElem?_cons_zero, Option.some.injEq] at hv hu
            subst hv; subst hu
            refine VR_mkV hok.1 (by simp; omega) fun j y hy => ?_
            rw [List.getElem?_take] at hy
            split at hy
            · rename_i hj
              rw [List.getElem?_drop] at hy
              exact hcs.2 (q + j) y _ hy (by simpa using hget j hj)
            · cases hy
          | succ i => exact h4 i v u (by simpa using hv) (by simpa using hu)
      · cases hr
    · cases hr
  | [], _ :: _, _, _, hr => by cases hr
  | .tmp _ :: _, [], _, _, hr => by cases hr
  | .cell _ _ :: _, [], _, _, hr => by cases hr

/-- Results moved out. -/
structure Given (c : Ctx) (w : World) (fp : Key → List Nat) (own : Bool) (L M : List Key) (xs : List T) (us : List Value) (fs : Nat → List Nat) : Prop where
  len : xs.length = us.length
  nd : ND xs.length fs
  sub : ∀ i b, i < xs.length → b ∈ fs i → ∃ k, k ∈ M ∧ b ∈ fp k
  el : ∀ (i : Nat) (x : T) (u : Value), xs[i]? = some x → us[i]? = some u → ResV w (inI c w (clr fp (M ++ L))) (inJ c w (clr fp (M ++ L))) own x u (fs i)

theorem ResV.clr_more {own : Bool} {L M : List Key} {x : T} {v : Value} {F : List Nat} (h : ResV w (inI c w (clr fp L)) (inJ c w (clr fp L)) own x v F) : ResV w (inI c w (clr fp (M ++ L))) (inJ c w (clr fp (M ++ L))) own x v F := by
  have el : ∀ {y : T} {u : Value} {F : List Nat}, El w (inI c w (clr fp L)) (inJ c w (clr fp L)) own y u F → El w (inI c w (clr fp (M ++ L))) (inJ c w (clr fp (M ++ L))) own y u F := fun h => by
    unfold El at *
    split
    · rename_i ho; rw [if_pos ho] at h; exact h
    · rename_i ho; rw [if_neg ho] at h; exact ⟨RB.clr_more h.1, h.2⟩
  unfold ResV at *
  cases x with
  | agg xs =>
    obtain ⟨vs, fs, h1, h2, h3, h4, h5⟩ := h
    exact ⟨vs, fs, h1, h2, h3, h4, fun i y u hy hu => el (h5 i y u hy hu)⟩
  | tup _ => exact h
  | int _ _ => exact el h
  | bool _ => exact el h
  | str _ => exact el h
  | sl _ _ => exact el h
  | rref _ _ => exact el h
  | clo _ _ => exact el h

theorem El_res {I J : Nat → Prop} {own : Bool} {x : T} {v : Value} {F : List Nat} (h : El w I J own x v F) : ResV w I J own x v F := by
  unfold El at h
  split at h
  · rename_i ho
    subst ho
    cases x with
    | agg _ => cases h
    | tup _ => cases h
    | _ => exact h
  · rename_i ho
    have : own = false := by simpa using ho
    subst this
    cases x with
    | agg _ => obtain ⟨h, _⟩ := h; cases h
    | tup _ => obtain ⟨h, _⟩ := h; cases h
    | _ => exact h

theorem giveRs_sound (h : Inv c s a w val fp) {own : Bool} : ∀ {ts : List TypeId} {vs : List V} {us : List Value} {L : List Key} {s1 : St} {l : Log} {f : List T → Prog}, Moved s s1 L → vs.length = us.length →
    (∀ (i : Nat) (v : V) (u : Value), vs[i]? = some v → us[i]? = some u → VR (mkFr c w val fp) s v u) → runP E (giveRs P own ts vs f) s1 l K = some r →
    ∃ xs s2 l2 M fs, runP E (f xs) s2 l2 K = some r ∧ Moved s s2 (M ++ L) ∧ Given c w fp own L M xs us fs
  | [], [], us, L, s1, l, f, hm, hl, hv, hr => by
    have : us = [] := List.eq_nil_of_length_eq_zero (by simpa using hl.symm)
    subst this
    exact ⟨[], s1, l, [], fun _ => [], hr, hm, rfl, ND.nil _, by simp, by simp⟩
  | t :: ts, v :: vs, [], L, s1, l, f, hm, hl, hv, hr => by simp at hl
  | t :: ts, v :: vs, u :: us, L, s1, l, f, hm, hl, hv, hr => by
    have hv' : ∀ (i : Nat) (v : V) (u : Value), vs[i]? = some v → us[i]? = some u → VR (mkFr c w val fp) s v u := fun i v' u' h1 h2 => hv (i + 1) v' u' (by simpa using h1) (by simpa using h2)
    have hv0 := hv 0 v u rfl rfl
    have hl' : vs.length = us.length := by simpa using hl
    -- one result, then the rest
    have join : ∀ {x : T} {F : List Nat} {M1 : List Key} {s2 : St} {l2 : Log}, ResV w (inI c w (clr fp (M1 ++ L))) (inJ c w (clr fp (M1 ++ L))) own x u F → F.Nodup → (∀ b, b ∈ F → ∃ k, k ∈ M1 ∧ b ∈ fp k) → Moved s s2 (M1 ++ L) →
        runP E (giveRs P own ts vs fun r => f (x :: r)) s2 l2 K = some r → ∃ xs s2 l2 M fs, runP E (f xs) s2 l2 K = some r ∧ Moved s s2 (M ++ L) ∧ Given c w fp own L M xs (u :: us) fs := by
      intro x F M1 s2 l2 hx hnd hsub hm2 h2
      obtain ⟨xs, s3, l3, M, fs, h3, hm3, hg⟩ := giveRs_sound h hm2 hl' hv' h2
      have hap : ∀ k, k ∈ M1 → k ∉ M := fun k hk hk' => by
        have := hm3.nd
        rw [List.nodup_append] at this
        exact this.2.2 k hk' k (List.mem_append_left _ hk) rfl
      have cross : ∀ b, b ∈ F → ∀ i, i < xs.length → b ∉ fs i := fun b hb i hi hbi => by
        obtain ⟨k, hk, hbk⟩ := hsub b hb
        obtain ⟨k', hk', hbk'⟩ := hg.sub i b hi hbi
        exact h.disj k k' (fun e => hap k hk (e ▸ hk')) b hbk hbk'
      refine ⟨x :: xs, s3, l3, M ++ M1, fun i => match i with | 0 => F | i + 1 => fs i, h3, by rw [List.append_assoc]; exact hm3, by simp [hg.len], ⟨fun i hi => ?_, fun i j hi hj hne b hb hb' => ?_⟩, fun i b hi hb => ?_, fun i y u' hy hu => ?_⟩
      · cases i with
        | zero => exact hnd
        | succ i => exact hg.nd.1 i (by simpa using hi)
      · cases i with
        | zero =>
          cases j with
          | zero => exact hne rfl
          | succ j => exact cross b hb j (by simpa using hj) hb'
        | succ i =>
          cases j with
          | zero => exact cross b hb' i (by simpa using hi) hb
          | succ j => exact hg.nd.2 i j (by simpa using hi) (by simpa using hj) (by omega) b hb hb'
      · cases i with
        | zero => obtain ⟨k, hk, hbk⟩ := hsub b hb; exact ⟨k, List.mem_append_right _ hk, hbk⟩
        | succ i => obtain ⟨k, hk, hbk⟩ := hg.sub i b (by simpa using hi) hb; exact ⟨k, List.mem_append_left _ hk, hbk⟩
      · rw [List.append_assoc]
        cases i with
        | zero => simp at hy hu; subst hy; subst hu; exact hx.clr_more
        | succ i => exact hg.el i y u' (by simpa using hy) (by simpa using hu)
    cases v with
    | agg cs =>
      rw [giveRs] at hr
      obtain ⟨vs', rfl, hcs⟩ := hv0
      obtain ⟨ys, b, s2, l2, M1, fs, h2, hm2, hmv⟩ := moveCs_sound h hm hcs hr
      rw [run_ite, run_fail] at h2
      rcases ev_wrap h2 with ⟨_, h2⟩ | ⟨hchk, h2⟩
      · cases h2
      cases own with
      | true =>
        have hb : b = true := by cases b; · cases hchk
                                 · rfl
        obtain ⟨q1, q2, q3⟩ := hmv.ro hb
        refine join (x := .agg ys) (M1 := M1) (F := flat ys.length fs) ⟨vs', fs, rfl, by simpa using hmv.len, q2, rfl, fun i y u hy hu => q1 i y u hy (by simpa using hu)⟩ ((nodup_flat _ _).2 q2) (fun x hx => ?_) hm2 h2
        obtain ⟨i, hi, hx⟩ := mem_flat.1 hx
        exact q3 i x hi hx
      | false =>
        exact join (x := .agg ys) (M1 := M1) (F := []) ⟨vs', fun _ => [], rfl, by simpa using hmv.len, ND.nil _, by simp [flat], fun i y u hy hu => ⟨hmv.rb i y u hy (by simpa using hu), rfl⟩⟩ List.nodup_nil (by simp) hm2 h2
    | one x =>
      rw [giveRs] at hr
      obtain ⟨y, b, s2, l2, M1, F, h2, hm2, hmv⟩ := moveC_sound h hm hv0 hr
      rw [run_ite, run_fail] at h2
      rcases ev_wrap h2 with ⟨_, h2⟩ | ⟨hchk, h2⟩
      · cases h2
      cases own with
      | true =>
        have hb : b = true := by cases b; · cases hchk
                                 · rfl
        obtain ⟨q1, q2⟩ := hmv.ro hb
        exact join (F := F) (El_res (show El w _ _ true y u F from q1)) q1.nodup q2 hm2 h2
      | false => exact join (F := []) (El_res (show El w _ _ false y u [] from ⟨hmv.rb, rfl⟩)) List.nodup_nil (by simp) hm2 h2
    | tup _ => cases hr
    | clo _ _ => cases hr
    | skip => cases hr
    | any => cases hr
  | [], _ :: _, _, _, _, _, _, _, _, _, hr => by cases hr
  | _ :: _, [], _, _, _, _, _, _, _, _, hr => by cases hr

/-- What was turned, at the end. -/
theorem endOuts_sound (h : Inv c s a w val fp) {L : List Key} (hm : Moved s s1 L) {at_ : Attr} {f : List T → Prog} (hr : runP E (endOuts at_ f) s1 l K = some r) :
    ∃ outs s2 l2 Fo, runP E (f outs) s2 l2 K = some r ∧ (∀ b, b ∈ Fo → turnKey ∉ L ∧ b ∈ fp turnKey) ∧ ((at_.turn = none ∧ outs = [] ∧ Fo = []) ∨ (∃ i y, at_.turn = some i ∧ at_.take = false ∧ outs = [y] ∧ OutT w at_.sl y (a.tmps.getD i undef) Fo) ∨ (at_.take = true ∧ outs = [] ∧ Fo = [])) := by
  unfold endOuts at hr
  split at hr
  · rename_i ht; exact ⟨[], s1, l, [], hr, by simp, .inl ⟨ht, rfl, rfl⟩⟩
  · rename_i i ht
    cases htk : at_.take with
    | true => rw [htk, cond_true] at hr; exact ⟨[], s1, l, [], hr, by simp, .inr (.inr ⟨rfl, rfl, rfl⟩)⟩
    | false =>
    rw [htk, cond_false] at hr
    rw [run_getT, run_getO, hm.tm] at hr
    have hv := h.tms i
    have same : Alive (s1.getO turnKey) → turnKey ∉ L ∧ s.getO turnKey = s1.getO turnKey := fun hal => by
      have : turnKey ∉ L := fun hl => by
        rcases (hm.gone _ hl).1 with e | ⟨j, e⟩ <;> rw [e] at hal <;> rcases hal with ⟨_, e⟩ | ⟨_, _, _, _, e⟩ <;> cases e
      exact ⟨this, (hm.same _ this).symm⟩
    split at hr
    · rename_i k cells hsl hvk hok
      rw [hvk] at hv
      rw [run_iteF] at hr
      replace hr := ev_true hr
      obtain ⟨hb, hr⟩ := hr
      rw [Bool.and_eq_true] at hb
      have hk : k = turnKey := Nat.eq_of_beq_eq_true hb.1
      subst hk
      obtain ⟨hnL, hs⟩ := same (.inl ⟨_, hok⟩)
      rw [hok] at hs
      have hob := h.obs turnKey
      rw [hs] at hob
      obtain ⟨b, cur, e, hu, hF, hh, hcs⟩ := hob
      have hp : ptrTo (val turnKey) 0 (a.tmps.getD i undef) := ptr_alive hv hs (.inl ⟨_, rfl⟩)
      rw [hu] at hp
      have hp : a.tmps.getD i undef = .pointer (some ⟨b, 0, none⟩) := hp
      refine ⟨_, s1, _, fp turnKey, hr, fun x hx => ⟨hnL, hx⟩, .inr (.inl ⟨i, _, ht, rfl, rfl, ?_⟩)⟩
      rw [hsl]
      refine ⟨_, rfl, b, cur, e, hp, hF, hh, by have := hcs.1; simpa using this, fun j y u hy hu => ?_⟩
      rw [List.getElem?_map, Option.map_eq_some_iff] at hy
      obtain ⟨cj, hcj, rfl⟩ := hy
      have hs1 := List.all_eq_true.1 hb.2 cj (List.mem_of_getElem? hcj)
      have hc1 := hcs.2 j cj u hcj (by simpa using hu)
      cases cj with
      | t y => exact scalar_ro (CR_t hc1) hs1
      | _ => cases hs1
    · rename_i k sz cs hsl hvk hok
      rw [hvk] at hv
      rw [run_iteF] at hr
      replace hr := ev_true hr
      obtain ⟨hb, hr⟩ := hr
      have hk : k = turnKey := Nat.eq_of_beq_eq_true hb
      subst hk
      rw [run_setO] at hr
      obtain ⟨hnL, hs⟩ := same (.inr ⟨_, _, _, _, hok⟩)
      rw [hok] at hs
      have hob := h.obs turnKey
      rw [hs] at hob
      have hp : a.tmps.getD i undef = val turnKey := obj_alive hv hs
      refine ⟨_, _, _, fp turnKey, hr, fun x hx => ⟨hnL, hx⟩, .inr (.inl ⟨i, _, ht, rfl, rfl, ?_⟩)⟩
      rw [hsl, hp]
      exact ⟨⟨_, _, rfl⟩, hob⟩
    · cases hr
end
end Ev
