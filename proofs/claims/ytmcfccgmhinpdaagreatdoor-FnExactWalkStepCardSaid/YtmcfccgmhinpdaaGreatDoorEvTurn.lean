/- Ev: what is turned. -/
import Derived.Test.YtmcfccgmhinpdaaGreatDoorEvCall
namespace Ev
open Go

section
variable {P : Program} {A : Attrs} {E : Env} {c : Ctx} {s s1 s2 s3 : St} {a : Act} {w w1 : World} {val : Key → Value} {fp : Key → List Nat} {Ft Fr Fo : List Nat} {G : List Key}
variable {l : Log} {K : St → Log → R} {r : T × List T}

theorem snap_moved (h : Inv c s a w val fp) {L : List Key} (hm : Moved s s1 L) : Snap c s s1 a w val fp [] := by
  refine ⟨h, fun k hk => ⟨?_, by simp⟩, by simp, by simp⟩
  by_cases hl : k ∈ L
  · exfalso
    rcases (hm.gone k hl).1 with e | ⟨j, e⟩ <;> rw [e] at hk <;> cases hk
  · exact (hm.same k hl).symm

theorem giveC_sound (h : Inv c s a w val fp) {L : List Key} (hm : Moved s s1 L) {o : Bool} {t : TypeId} {x : C} {v : Value} (hx : CR (mkFr c w val fp) s x v) {f : T → Prog} (hr : runP E (giveC P o t x f) s1 l K = some r) :
    ∃ y s' l' M F, runP E (f y) s' l' K = some r ∧ Moved s s' (M ++ L) ∧ El w (inI c w fp) (inJ c w fp) o y v F ∧ F.Nodup ∧ (∀ b, b ∈ F → ∃ k, k ∈ M ∧ b ∈ fp k) ∧ (o = true → ∀ k, x = .obj k → k ∈ M) := by
  unfold giveC at hr
  cases o with
  | true =>
    rw [cond_true] at hr
    obtain ⟨y, b, s', l', M, F, h1, hm1, hc1⟩ := moveC_sound h hm hx hr
    rw [run_iteF] at h1
    replace h1 := ev_true h1
    obtain ⟨hb, h1⟩ := h1
    obtain ⟨q1, q2⟩ := hc1.ro hb
    exact ⟨y, s', l', M, F, h1, hm1, q1, q1.nodup, q2, fun _ => hc1.obj hb⟩
  | false =>
    rw [cond_false] at hr
    obtain ⟨y, b, l', h1, hy⟩ := snapC0_sound (snap_moved h hm) hx hr
    rw [run_ite, run_fail] at h1
    rcases ev_wrap h1 with ⟨_, h1⟩ | ⟨hb, h1⟩
    · cases h1
    subst hb
    refine ⟨y, s1, l', [], [], h1, hm, ⟨RB.move hy (fun b hb => ⟨⟨hb.1, hb.2.1, hb.2.2.2 rfl⟩, rfl⟩) (fun b hb => ⟨⟨hb.1, hb.2.1, hb.2.2.2 rfl⟩, rfl⟩), rfl⟩, List.nodup_nil, by simp, fun e => by cases e⟩

structure GivenCs (c : Ctx) (w : World) (fp : Key → List Nat) (M : List Key) (os : List Bool) (cs : List C) (ys : List T) (vs : List Value) (fs : Nat → List Nat) : Prop where
  r : CellsR w (inI c w fp) (inJ c w fp) os ys vs fs
  ol : os.length = ys.length
  sub : ∀ i b, i < ys.length → b ∈ fs i → ∃ k, k ∈ M ∧ b ∈ fp k
  obj : ∀ i k, os.getD i false = true → cs[i]? = some (.obj k) → k ∈ M
theorem giveCs_sound (h : Inv c s a w val fp) : ∀ {os : List Bool} {ts : List TypeId} {cs : List C} {vs : List Value} {L : List Key} {s1 : St} {l : Log} {f : List T → Prog}, Moved s s1 L → CRs (mkFr c w val fp) s cs vs → runP E (giveCs P os ts cs f) s1 l K = some r →
    ∃ ys s' l' M fs, runP E (f ys) s' l' K = some r ∧ Moved s s' (M ++ L) ∧ GivenCs c w fp M os cs ys vs fs
  | [], [], [], vs, L, s1, l, f, hm, hx, hr => by
    have : vs = [] := List.eq_nil_of_length_eq_zero (by simpa using hx.1.symm)
    subst this
    exact ⟨[], s1, l, [], fun _ => [], hr, hm, ⟨rfl, ND.nil _, by simp⟩, rfl, by simp, by simp⟩
  | o :: os, t :: ts, x :: cs, [], L, s1, l, f, hm, hx, hr => by have := hx.1; simp at this
  | o :: os, t :: ts, x :: cs, v :: vs, L, s1, l, f, hm, hx, hr => by
    rw [giveCs] at hr
    obtain ⟨y, s2, l2, M, F, h1, hm1, q1, q2, q3, q4⟩ := giveC_sound h hm (hx.2 0 x v rfl rfl) hr
    obtain ⟨ys, s3, l3, M', fs, h2, hm2, hg⟩ := giveCs_sound h (vs := vs) hm1 ⟨by simpa using hx.1, fun i c v hc hv => hx.2 (i + 1) c v (by simpa using hc) (by simpa using hv)⟩ h1
    have hap : ∀ k, k ∈ M → k ∉ M' := fun k hk hk' => by
      have := hm2.nd
      rw [List.nodup_append] at this
      exact this.2.2 k hk' k (List.mem_append_left _ hk) rfl
    have cross : ∀ b, b ∈ F → ∀ i, i < ys.length → b ∉ fs i := fun b hb i hi hbi => by
      obtain ⟨k, hk, hbk⟩ := q3 b hb
      obtain ⟨k', hk', hbk'⟩ := hg.sub i b hi hbi
      exact h.disj k k' (fun e => hap k hk (e ▸ hk')) b hbk hbk'
    refine ⟨y :: ys, s3, l3, M' ++ M, fun i => match i with | 0 => F | i + 1 => fs i, h2, by rw [List.append_assoc]; exact hm2, ⟨by simp [hg.r.1], ⟨fun i hi => ?_, fun i j hi hj hne b hb hb' => ?_⟩, fun i z u hz hu => ?_⟩, by simp [hg.ol], fun i b hi hb => ?_, fun i k ho hc => ?_⟩
    · cases i with
      | zero => exact q2
      | succ i => exact hg.r.2.1.1 i (by simpa using hi)
    · cases i with
      | zero =>
        cases j with
        | zero => exact absurd rfl hne
        | succ j => exact cross b hb j (by simpa using hj) hb'
      | succ i =>
        cases j with
        | zero => exact cross b hb' i (by simpa using hi) hb
        | succ j => exact hg.r.2.1.2 i j (by simpa using hi) (by simpa using hj) (by omega) b hb hb'
    · cases i with
      | zero => simp at hz hu; subst hz; subst hu; exact q1
      | succ i => exact hg.r.2.2 i z u (by simpa using hz) (by simpa using hu)
    · cases i with
      | zero => obtain ⟨k, hk, hb⟩ := q3 b hb; exact ⟨k, List.mem_append_right _ hk, hb⟩
      | succ i => obtain ⟨k, hk, hb⟩ := hg.sub i b (by simpa using hi) hb; exact ⟨k, List.mem_append_left _ hk, hb⟩
    · cases i with
      | zero => simp at ho hc; exact List.mem_append_right _ (q4 ho k hc)
      | succ i => exact List.mem_append_left _ (hg.obj i k (by simpa using ho) (by simpa using hc))
  | [], _ :: _, _, _, _, _, _, _, _, _, hr => by cases hr
  | [], [], _ :: _, _, _, _, _, _, _, _, hr => by cases hr
  | _ :: _, [], _, _, _, _, _, _, _, _, hr => by cases hr
  | _ :: _, _ :: _, [], _, _, _, _, _, _, _, hr => by cases hr

/-- Keys that are given away. -/
structure Gone (s s' : St) (G : List Key) : Prop where
  tm : ∀ i, s'.getT i = s.getT i
  gone : ∀ k, k ∈ G → Alive (s.getO k) ∧ (s.getO k).isLent = false ∧ (s'.getO k = .gone ∨ ∃ j, s'.getO k = .moved j)
  same : ∀ k, k ∉ G → s'.getO k = s.getO k
theorem Moved.gn {L : List Key} (h : Moved s s1 L) : Gone s s1 L :=
  ⟨h.tm, fun k hk => by
    obtain ⟨h1, d, sz, cells, h2⟩ := h.gone k hk
    exact ⟨by rw [h2]; rfl, by rw [h2]; rfl, h1⟩, h.same⟩
theorem Gone.add {L : List Key} (h : Gone s s1 L) {k : Key} (ha : Alive (s.getO k)) (hl : (s.getO k).isLent = false) : Gone s (s1.setO k .gone) (k :: L) := by
  refine ⟨h.tm, fun j hj => ?_, fun j hj => ?_⟩
  · rw [getO_setO]
    by_cases e : k = j
    · subst e; exact ⟨ha, hl, by simp⟩
    · rw [if_neg e]
      exact h.gone j ((List.mem_cons.1 hj).resolve_left fun e' => e e'.symm)
  · rw [List.mem_cons, not_or] at hj
    rw [getO_setO, if_neg (fun e => hj.1 e.symm)]; exact h.same j hj.2

/-- What 'back' must know. -/
def BkOk (c : Ctx) (s : St) (w : World) (val : Key → Value) (fp : Key → List Nat) (md : Mode) (G : List Key) (u : Value) : Bk → Prop
  | .sl k _ => md = .sl ∧ k ∈ G ∧ u = val k
  | .ptr k old => k ∈ G ∧ u = val k ∧ (∃ b, u = .pointer (some ⟨b, 0, none⟩)) ∧ (∃ os, md = .ptr os ∧ ∀ (i : Nat) (k : Key), os.getD i false = true → old[i]? = some (C.obj k) → k ∈ G)
  | .val old => md = .val ∧ ∃ vs : Array Value, u = .agg vs ∧ CRs (mkFr c w val fp) s old vs.toList ∧ ∀ (i : Nat) (k : Key), old[i]? = some (C.obj k) → k ∈ G

theorem ptr_live {f : Ev.Fr} {k : Key} {q : Nat} {v : Value} (h : CR f s (.ptr k q) v) (hl : Alive (s.getO k)) : ptrTo (f.val k) q v := by
  have h1 := h.1
  unfold Alive at hl
  cases ho : s.getO k <;> rw [ho] at h1 hl <;> first | exact h1 | cases hl

theorem give_sound (h : Inv c s a w val fp) {md : Mode} {t : TypeId} {v : V} {u : Value} (hv : VR (mkFr c w val fp) s v u) {f : T → Bk → Prog} (hr : runP E (give P md t v f) s l K = some r) :
    ∃ x bk s' l' G F, runP E (f x bk) s' l' K = some r ∧ Gone s s' G ∧ ArgT w (inI c w fp) (inJ c w fp) md x u F ∧ (∀ b, b ∈ F → ∃ k, k ∈ G ∧ b ∈ fp k) ∧ BkOk c s w val fp md G u bk := by
  unfold give at hr
  split at hr
  · rename_i os k
    rw [run_getO] at hr
    split at hr
    · rename_i cells hk
      have hob := h.obs k
      rw [hk] at hob
      obtain ⟨b, cur, e, hvk, hF, hh, hcs⟩ := hob
      have hh : w.heap[b]? = some (.cells cur e (0, 0)) := hh
      have hp : ptrTo (val k) 0 u := ptr_live hv (by rw [hk]; rfl)
      rw [hvk] at hp
      have hp : u = .pointer (some ⟨b, 0, none⟩) := hp
      obtain ⟨ys, s', l', M, fs, h1, hm, hg⟩ := giveCs_sound h (Moved.refl s) hcs hr
      rw [List.append_nil] at hm
      rw [run_setO] at h1
      have hbn : b ∉ flat ys.length fs := fun hb => by
        obtain ⟨i, hi, hbi⟩ := mem_flat.1 hb
        obtain ⟨k', hk', hbk'⟩ := hg.sub i b hi hbi
        have hne : k ≠ k' := fun e => by
          subst e
          obtain ⟨_, d, sz, cells', h2⟩ := hm.gone k hk'
          rw [hk] at h2; cases h2
        exact h.disj k k' hne b (by rw [hF]; simp) hbk'
      refine ⟨_, _, _, _, k :: M, b :: flat ys.length fs, h1, hm.gn.add (by rw [hk]; rfl) (by rw [hk]; rfl), ⟨ys, rfl, b, cur, e, fs, hp, rfl, hbn, hh, hg.r⟩, fun x hx => ?_, by simp, by rw [hp, hvk], ⟨b, hp⟩, ⟨os, rfl, fun i k' h1 h2 => List.mem_cons_of_mem _ (hg.obj i k' h1 h2)⟩⟩
      rcases List.mem_cons.1 hx with rfl | hx
      · exact ⟨k, by simp, by rw [hF]; simp⟩
      · obtain ⟨i, hi, hxi⟩ := mem_flat.1 hx
        obtain ⟨k', hk', hbk'⟩ := hg.sub i x hi hxi
        exact ⟨k', List.mem_cons_of_mem _ hk', hbk'⟩
    · cases hr
  · rename_i k
    rw [run_getO] at hr
    split at hr
    · rename_i sz cs hk
      rw [run_setO] at hr
      have hob := h.obs k
      rw [hk] at hob
      have hu : u = val k := obj_alive hv hk
      have g0 : Gone s s [] := ⟨fun _ => rfl, by simp, fun _ _ => rfl⟩
      refine ⟨_, _, _, _, [k], fp k, hr, g0.add (by rw [hk]; rfl) (by rw [hk]; rfl), ⟨⟨_, _, rfl⟩, by rw [hu]; exact hob⟩, fun x hx => ⟨k, by simp, hx⟩, rfl, by simp, hu⟩
    · cases hr
  · rename_i cells
    obtain ⟨vs, rfl, hcs⟩ := hv
    obtain ⟨ys, s', l', M, fs, h1, hm, hg⟩ := giveCs_sound h (Moved.refl s) hcs hr
    rw [List.append_nil] at hm
    have tr : ∀ i, i < ys.length → (trues (cellTys P 8 t)).getD i false = true := fun i hi => by
      have h1 : i < (trues (cellTys P 8 t)).length := by rw [hg.ol]; exact hi
      unfold trues at *
      simp at h1
      simp [List.getD_eq_getElem?_getD, h1]
    refine ⟨_, _, _, _, M, flat ys.length fs, h1, hm.gn, ⟨ys, rfl, vs, fs, rfl, rfl, hg.r.1, hg.r.2.1, fun i y u hy hu => ?_⟩, fun x hx => ?_, rfl, vs, rfl, hcs, fun i k hk => ?_⟩
    · have hi := (List.getElem?_eq_some_iff.1 hy).1
      have h2 := hg.r.2.2 i y u hy hu
      rw [tr i hi] at h2
      have h3 : (truesT ys).getD i false = true := by simp [truesT, List.getD_eq_getElem?_getD, hi]
      rw [h3]
      exact h2
    · obtain ⟨i, hi, hxi⟩ := mem_flat.1 hx
      exact hg.sub i x hi hxi
    · refine hg.obj i k (tr i ?_) hk
      rw [hg.r.1, ← hcs.1]; exact (List.getElem?_eq_some_iff.1 hk).1
  · cases hr

/-! ## what comes back -/
structure TakenG (w1 : World) (s s' : St) (G : List Key) (N : List Ent) (F : List Nat) : Prop where
  tm : ∀ i, s'.getT i = s.getT i
  same : ∀ k, k ∉ G → (∀ e, e ∈ N → e.key ≠ k) → s'.getO k = s.getO k
  gone : ∀ k, k ∈ G → (s.getO k = .gone ∨ ∃ j, s.getO k = .moved j) → (s'.getO k = .gone ∨ ∃ j, s'.getO k = .moved j)
  ent : ∀ e, e ∈ N → s.getO e.key = .free ∧ s'.getO e.key = .arr true true e.sz e.cells ∧ RO w1 (.sl e.sz e.cells) e.v e.F ∧ ∀ x, x ∈ e.F → x ∈ F
  dis : N.Pairwise fun a b => a.key ≠ b.key ∧ ∀ x, x ∈ a.F → x ∉ b.F
structure FitsM (w1 : World) (I1 J1 : Nat → Prop) (fl : Bool) (fr : Ev.Fr) (s : St) (N : List Ent) : Prop where
  w : fr.w = w1
  I : fl = false → ∀ b, I1 b → fr.I b
  J : fl = false → ∀ b, J1 b → fr.J b
  ent : ∀ e, e ∈ N → s.getO e.key = .arr true true e.sz e.cells ∧ fr.val e.key = e.v

theorem backC_sound {I1 J1 : Nat → Prop} {fl o : Bool} {t : TypeId} {key : Key} (hfl : fl = true → o = false → flatC P t = true) {x : T} {v : Value} {F : List Nat} (hx : El w1 I1 J1 o x v F) {old : C}
    (hG : o = true → ∀ k, old = .obj k → k ∈ G) {f : C → Prog} (hr : runP E (backC P o t key x old f) s l K = some r) :
    ∃ c' s' l' N, runP E (f c') s' l' K = some r ∧ TakenG w1 s s' G N F ∧ ∀ fr s'', FitsM w1 I1 J1 fl fr s'' N → CR fr s'' c' v := by
  have plain : ∀ {s0 : St} {l0 : Log}, runP E (takeC P o key t x f) s0 l0 K = some r → ∃ c' s' l' N, runP E (f c') s' l' K = some r ∧ Taken w1 s0 s' N F ∧ ∀ fr s'', FitsM w1 I1 J1 fl fr s'' N → CR fr s'' c' v := fun hr => by
    obtain ⟨c', s', l', N, h1, h2, h3⟩ := takeC_sound (own := o) (fl := fl && !o) (fun e => by rw [Bool.and_eq_true, Bool.not_eq_true'] at e; exact hfl e.1 e.2) hx hr
    refine ⟨c', s', l', N, h1, h2, fun fr s'' hf => h3 fr s'' ⟨hf.w, fun ho hf' => hf.I ?_, fun ho hf' => hf.J ?_, hf.ent⟩⟩
    · subst ho; simpa using hf'
    · subst ho; simpa using hf'
  unfold backC at hr
  split at hr
  · rename_i k
    rw [run_setO] at hr
    obtain ⟨c', s', l', N, h1, h2, h3⟩ := plain hr
    have hk := hG rfl k rfl
    refine ⟨c', s', l', N, h1, ⟨h2.tm, fun j hj hn => ?_, fun j hj hg => ?_, fun e he => ?_, h2.dis⟩, h3⟩
    · have hkj : k ≠ j := fun e => by subst e; exact hj hk
      rw [h2.same j hn, getO_setO, if_neg hkj]
    · by_cases hn : ∀ e, e ∈ N → e.key ≠ j
      · rw [h2.same j hn, getO_setO]
        by_cases hkj : k = j
        · rw [if_pos hkj]; exact .inr ⟨_, rfl⟩
        · rw [if_neg hkj]; exact hg
      · exfalso
        apply hn
        intro e he hek
        have := (h2.ent e he).1
        rw [hek, getO_setO] at this
        split at this
        · cases this
        · rcases hg with hg | ⟨i, hg⟩ <;> rw [hg] at this <;> cases this
    · obtain ⟨e1, e2, e3, e4⟩ := h2.ent e he
      rw [getO_setO] at e1
      split at e1
      · cases e1
      · exact ⟨e1, e2, e3, e4⟩
  · obtain ⟨c', s', l', N, h1, h2, h3⟩ := plain hr
    refine ⟨c', s', l', N, h1, ⟨h2.tm, fun j _ hn => h2.same j hn, fun j hj hg => ?_, h2.ent, h2.dis⟩, h3⟩
    rw [h2.same j fun e he hek => ?_]
    · exact hg
    · have := (h2.ent e he).1
      rw [hek] at this
      rcases hg with hg | ⟨i, hg⟩ <;> rw [hg] at this <;> cases this

theorem TakenG.trans {N N' : List Ent} {F F' H : List Nat} (h : TakenG w1 s s1 G N F) (h' : TakenG w1 s1 s2 G N' F') (hg : ∀ k, k ∈ G → (s.getO k = .gone ∨ ∃ j, s.getO k = .moved j)) (hd : ∀ x, x ∈ F → x ∉ F') (hH : ∀ x, x ∈ F ∨ x ∈ F' → x ∈ H) : TakenG w1 s s2 G (N ++ N') H := by
  have hng : ∀ e, e ∈ N → e.key ∉ G := fun e he hk => by
    have := (h.ent e he).1
    rcases hg _ hk with hg | ⟨i, hg⟩ <;> rw [hg] at this <;> cases this
  have hng' : ∀ e, e ∈ N' → e.key ∉ G := fun e he hk => by
    have := (h'.ent e he).1
    rcases h.gone _ hk (hg _ hk) with hg | ⟨i, hg⟩ <;> rw [hg] at this <;> cases this
  have hne : ∀ e e', e ∈ N → e' ∈ N' → e.key ≠ e'.key := fun e e' he he' hk => by
    have h1 := (h.ent e he).2.1
    have h2 := (h'.ent e' he').1
    rw [hk, h2] at h1; cases h1
  refine ⟨fun i => (h'.tm i).trans (h.tm i), fun k hk hn => ?_, fun k hk hg => h'.gone k hk (h.gone k hk hg), fun e he => ?_, ?_⟩
  · rw [h'.same k hk (fun e he => hn e (List.mem_append_right _ he)), h.same k hk (fun e he => hn e (List.mem_append_left _ he))]
  · rcases List.mem_append.1 he with he | he
    · obtain ⟨h1, h2, h3, h4⟩ := h.ent e he
      refine ⟨h1, ?_, h3, fun x hx => hH x (.inl (h4 x hx))⟩
      rw [h'.same e.key (hng e he) (fun e' he' hk => hne e e' he he' hk.symm)]; exact h2
    · obtain ⟨h1, h2, h3, h4⟩ := h'.ent e he
      refine ⟨?_, h2, h3, fun x hx => hH x (.inr (h4 x hx))⟩
      rw [← h.same e.key (hng' e he) (fun e' he' hk => hne e' e he' he hk)]; exact h1
  · rw [List.pairwise_append]
    exact ⟨h.dis, h'.dis, fun e he e' he' => ⟨hne e e' he he', fun x hx hx' => hd x ((h.ent e he).2.2.2 x hx) ((h'.ent e' he').2.2.2 x hx')⟩⟩

theorem backCs_sound {I1 J1 : Nat → Prop} {fl : Bool} : ∀ {os : List Bool} {ts : List TypeId} {key : Key} {xs : List T} {olds : List C} {us : List Value} {fs : Nat → List Nat} {s : St} {l : Log} {f : List C → Prog},
    (fl = true → ∀ i t, os.getD i false = false → ts[i]? = some t → flatC P t = true) → CellsR w1 I1 J1 os xs us fs → (∀ (i : Nat) (k : Key), os.getD i false = true → olds[i]? = some (C.obj k) → k ∈ G) →
    (∀ k, k ∈ G → (s.getO k = .gone ∨ ∃ j, s.getO k = .moved j)) → runP E (backCs P os ts key xs olds f) s l K = some r →
    ∃ cs s' l' N, runP E (f cs) s' l' K = some r ∧ TakenG w1 s s' G N (flat xs.length fs) ∧ ∀ fr s'', FitsM w1 I1 J1 fl fr s'' N → CRs fr s'' cs us
  | [], [], key, xs, [], us, fs, s, l, f, hfl, hx, hG, hg, hr => by
    rw [backCs, run_unnil] at hr
    split at hr
    · have : us = [] := List.eq_nil_of_length_eq_zero (by simpa using hx.1.symm)
      subst this
      exact ⟨[], s, l, [], hr, ⟨fun _ => rfl, fun _ _ _ => rfl, fun _ _ h => h, by simp, List.Pairwise.nil⟩, fun _ _ _ => ⟨rfl, by simp⟩⟩
    · cases hr
  | o :: os, t :: ts, key, xs, old :: olds, us, fs, s, l, f, hfl, hx, hG, hg, hr => by
    rw [backCs, run_uncons] at hr
    split at hr
    · rename_i x xs
      cases us with
      | nil => have := hx.1; simp at this
      | cons u us =>
        obtain ⟨c', s1, l1, N, h1, ht1, hc1⟩ := backC_sound (I1 := I1) (J1 := J1) (fl := fl) (fun e ho => hfl e 0 t ho rfl) (hx.2.2 0 x u rfl rfl) (fun ho k hk => hG 0 k ho (by rw [hk]; rfl)) hr
        obtain ⟨cs, s2, l2, N', h2, ht2, hc2⟩ := backCs_sound (I1 := I1) (J1 := J1) (fl := fl) (os := os) (xs := xs) (us := us) (fs := fun i => fs (i + 1)) (fun e i t ho ht => hfl e (i + 1) t (by simpa using ho) (by simpa using ht))
          ⟨by simpa using hx.1, ⟨fun i hi => hx.2.1.1 (i + 1) (by simp; omega), fun i j hi hj hne => hx.2.1.2 (i + 1) (j + 1) (by simp; omega) (by simp; omega) (by omega)⟩,
            fun i y u hy hu => by simpa using hx.2.2 (i + 1) y u (by simpa using hy) (by simpa using hu)⟩ (fun i k ho hk => hG (i + 1) k (by simpa using ho) (by simpa using hk)) (fun k hk => ht1.gone k hk (hg k hk)) h1
        refine ⟨c' :: cs, s2, l2, N ++ N', h2, ht1.trans ht2 hg (fun x hx1 hx2 => ?_) (fun x hx => ?_), fun fr s'' hf => ?_⟩
        · obtain ⟨i, hi, hx3⟩ := mem_flat.1 hx2
          exact hx.2.1.2 0 (i + 1) (by simp) (by simp; omega) (by omega) x hx1 hx3
        · rcases hx with hx | hx
          · exact mem_flat.2 ⟨0, by simp, hx⟩
          · obtain ⟨i, hi, hx⟩ := mem_flat.1 hx; exact mem_flat.2 ⟨i + 1, by simp; omega, hx⟩
        · have q1 := hc1 fr s'' ⟨hf.w, hf.I, hf.J, fun e he => hf.ent e (List.mem_append_left _ he)⟩
          have q2 := hc2 fr s'' ⟨hf.w, hf.I, hf.J, fun e he => hf.ent e (List.mem_append_right _ he)⟩
          refine ⟨by simpa using q2.1, fun i c' v' hc' hv' => ?_⟩
          cases i with
          | zero => simp at hc' hv'; subst hc'; subst hv'; exact q1
          | succ i => exact q2.2 i c' v' (by simpa using hc') (by simpa using hv')
    · cases hr
  | [], [], _, _, _ :: _, _, _, _, _, _, _, _, _, _, hr => by cases hr
  | [], _ :: _, _, _, _, _, _, _, _, _, _, _, _, _, hr => by cases hr
  | _ :: _, [], _, _, _, _, _, _, _, _, _, _, _, _, hr => by cases hr
  | _ :: _, _ :: _, _, _, [], _, _, _, _, _, _, _, _, _, hr => by cases hr

/-- What is back. -/
structure Backed (w1 : World) (I1 J1 : Nat → Prop) (fl : Bool) (val : Key → Value) (s s' : St) (G : List Key) (N : List EntG) (F : List Nat) : Prop where
  tm : ∀ i, s'.getT i = s.getT i
  same : ∀ k, k ∉ G → (∀ e, e ∈ N → e.key ≠ k) → s'.getO k = s.getO k
  gone : ∀ k, k ∈ G → (∀ e, e ∈ N → e.key ≠ k) → (s'.getO k = .gone ∨ ∃ j, s'.getO k = .moved j)
  ent : ∀ e, e ∈ N → s'.getO e.key = e.ob ∧ Alive e.ob ∧ (s.getO e.key = .free ∨ (e.key ∈ G ∧ e.v = val e.key)) ∧ ∀ x, x ∈ e.F → x ∈ F
  dis : N.Pairwise fun a b => a.key ≠ b.key ∧ ∀ x, x ∈ a.F → x ∉ b.F
  ob : ∀ (fr : Ev.Fr) s'', fr.w = w1 → (fl = false → ∀ b, I1 b → fr.I b) → (fl = false → ∀ b, J1 b → fr.J b) → (∀ e, e ∈ N → s''.getO e.key = e.ob ∧ fr.val e.key = e.v) → ∀ e, e ∈ N → ObR fr s'' e.ob e.v e.F

theorem backVs_sound (hv : ∀ k, k ∈ G → Alive (s.getO k)) : ∀ {ts : List TypeId} {xs : List T} {olds : List C} {us : List Value} {fs : Nat → List Nat} {s1 : St} {l : Log} {p : Prog} {I1 J1 : Nat → Prop} {fl : Bool},
    CellsR w1 (fun _ => False) (fun _ => False) (truesT xs) xs us fs → CRs (mkFr c w val fp) s olds us → (∀ (i : Nat) (k : Key), olds[i]? = some (C.obj k) → k ∈ G) → runP E (backVs P ts xs olds p) s1 l K = some r →
    ∃ s' l', ∃ N : List EntG, runP E p s' l' K = some r ∧ (∀ i, s'.getT i = s1.getT i) ∧ (∀ k, (∀ e, e ∈ N → e.key ≠ k) → s'.getO k = s1.getO k) ∧
      (∀ e, e ∈ N → s1.getO e.key = .gone ∧ s'.getO e.key = e.ob ∧ Alive e.ob ∧ e.key ∈ G ∧ e.v = val e.key ∧ ∀ x, x ∈ e.F → x ∈ flat xs.length fs) ∧ (N.Pairwise fun a b => a.key ≠ b.key ∧ ∀ x, x ∈ a.F → x ∉ b.F) ∧
      ∀ (fr : Ev.Fr) s'', fr.w = w1 → ∀ e, e ∈ N → ObR fr s'' e.ob e.v e.F
  | [], xs, [], us, fs, s1, l, p, I1, J1, fl, hx, ho, hG, hr => by
    rw [backVs, run_unnil] at hr
    split at hr
    · exact ⟨s1, l, [], hr, fun _ => rfl, fun _ _ => rfl, by simp, List.Pairwise.nil, by simp⟩
    · cases hr
  | t :: ts, xs, old :: olds, us, fs, s1, l, p, I1, J1, fl, hx, ho, hG, hr => by
    rw [backVs, run_uncons] at hr
    split at hr
    · rename_i x xs
      cases us with
      | nil => have := hx.1; simp at this
      | cons u us =>
        have hx' : CellsR w1 (fun _ => False) (fun _ => False) (truesT xs) xs us (fun i => fs (i + 1)) := ⟨by simpa using hx.1, ⟨fun i hi => hx.2.1.1 (i + 1) (by simp; omega), fun i j hi hj hne => hx.2.1.2 (i + 1) (j + 1) (by simp; omega) (by simp; omega) (by omega)⟩,
            fun i y u hy hu => by simpa [truesT] using hx.2.2 (i + 1) y u (by simpa using hy) (by simpa using hu)⟩
        have ho' : CRs (mkFr c w val fp) s olds us := ⟨by simpa using ho.1, fun i c v hc hv => ho.2 (i + 1) c v (by simpa using hc) (by simpa using hv)⟩
        have hG' : ∀ (i : Nat) (k : Key), olds[i]? = some (C.obj k) → k ∈ G := fun i k hk => hG (i + 1) k (by simpa using hk)
        have up : ∀ b, b ∈ flat xs.length (fun i => fs (i + 1)) → b ∈ flat (x :: xs).length fs ∧ (∃ i, i < xs.length ∧ b ∈ fs (i + 1)) := fun b hb => by
          obtain ⟨i, hi, hx⟩ := mem_flat.1 hb; exact ⟨mem_flat.2 ⟨i + 1, by simp; omega, hx⟩, i, hi, hx⟩
        split at hr
        · rename_i k
          rw [run_getO] at hr
          split at hr
          · rename_i hgone
            rw [run_asSl] at hr
            split at hr
            · rename_i sz cs
              replace hr := ev_true hr
              obtain ⟨hsz, hr⟩ := hr
              have hsz : sz = strideT P t := Nat.eq_of_beq_eq_true hsz
              subst hsz
              rw [run_setO] at hr
              have hk := hG 0 k rfl
              have hu : u = val k := ref_live (ho.2 0 _ u rfl rfl) (hv k hk)
              have hro : RO w1 (.sl (strideT P t) cs) u (fs 0) := by
                have := hx.2.2 0 _ u rfl rfl
                simpa [truesT, El] using this
              obtain ⟨s', l', N, h1, h2, h3, h4, h5, h6⟩ := backVs_sound hv (I1 := I1) (J1 := J1) (fl := fl) hx' ho' hG' hr
              have hkn : ∀ e, e ∈ N → e.key ≠ k := fun e he hek => by
                have := (h4 e he).1
                rw [hek, getO_setO, if_pos rfl] at this; cases this
              refine ⟨s', l', ⟨k, .arr true true (strideT P t) cs, val k, fs 0⟩ :: N, h1, h2, fun j hj => ?_, fun e he => ?_, ?_, fun fr s'' hw e he => ?_⟩
              · rw [h3 j fun e he => hj e (List.mem_cons_of_mem _ he), getO_setO, if_neg (show ¬ k = j from hj _ List.mem_cons_self)]
              · rcases List.mem_cons.1 he with rfl | he
                · refine ⟨hgone, ?_, rfl, hk, rfl, fun x hx => mem_flat.2 ⟨0, by simp, hx⟩⟩
                  rw [h3 k hkn, getO_setO, if_pos rfl]
                · obtain ⟨q1, q2, q3, q4, q5, q6⟩ := h4 e he
                  refine ⟨?_, q2, q3, q4, q5, fun x hx => (up x (q6 x hx)).1⟩
                  rw [getO_setO, if_neg (fun e' => hkn e he e'.symm)] at q1; exact q1
              · rw [List.pairwise_cons]
                refine ⟨fun e he => ⟨fun e' => hkn e he e'.symm, fun b hb hb' => ?_⟩, h5⟩
                obtain ⟨_, i, hi, hx2⟩ := up b ((h4 e he).2.2.2.2.2 b hb')
                exact hx.2.1.2 0 (i + 1) (by simp) (by simp; omega) (by omega) b hb hx2
              · rcases List.mem_cons.1 he with rfl | he
                · show RO fr.w _ _ _
                  rw [hw, ← hu]; exact hro
                · exact h6 fr s'' hw e he
            · cases hr
          · cases hr
        · obtain ⟨s', l', N, h1, h2, h3, h4, h5, h6⟩ := backVs_sound hv (I1 := I1) (J1 := J1) (fl := fl) hx' ho' hG' hr
          refine ⟨s', l', N, h1, h2, h3, fun e he => ?_, h5, h6⟩
          obtain ⟨q1, q2, q3, q4, q5, q6⟩ := h4 e he
          exact ⟨q1, q2, q3, q4, q5, fun x hx => (up x (q6 x hx)).1⟩
    · cases hr
  | [], _, _ :: _, _, _, _, _, _, _, _, _, _, _, _, hr => by cases hr
  | _ :: _, _, [], _, _, _, _, _, _, _, _, _, _, _, hr => by cases hr

theorem flatOs_get : ∀ {os : List Bool} {ts : List TypeId}, flatOs P os ts = true → ∀ (i : Nat) (t : TypeId), os.getD i false = false → ts[i]? = some t → flatC P t = true
  | _, [], _, i, t, _, ht => by simp at ht
  | [], t :: ts, h, i, t', ho, ht => by
    rw [flatOs, Bool.and_eq_true] at h
    cases i with
    | zero => simp at ht; subst ht; exact h.1
    | succ i => exact flatOs_get h.2 i t' (by simp) (by simpa using ht)
  | o :: os, t :: ts, h, i, t', ho, ht => by
    rw [flatOs, Bool.and_eq_true, Bool.or_eq_true] at h
    cases i with
    | zero =>
      simp at ht ho; subst ht
      rcases h.1 with h1 | h1
      · rw [ho] at h1; cases h1
      · exact h1
    | succ i => exact flatOs_get h.2 i t' (by simpa using ho) (by simpa using ht)

theorem back_sound {I1 J1 : Nat → Prop} {fl : Bool} {md : Mode} {d : Nat} {t : TypeId} (hfl : fl = true → flatMd P md t = true) (hgn : Gone s s1 G) {bk : Bk} {u : Value} (hbk : BkOk c s w val fp md G u bk) {y : T} {F : List Nat} (hy : OutT w1 I1 J1 md y u F) {p : Prog}
    (hr : runP E (back P md d t bk [y] p) s1 l K = some r) : ∃ s' l' N, runP E p s' l' K = some r ∧ Backed w1 I1 J1 fl val s1 s' G N F := by
  unfold back at hr
  rw [run_uncons] at hr
  simp only [run_unnil] at hr
  split at hr
  · rename_i k sz
    obtain ⟨rfl, hk, hu⟩ := hbk
    obtain ⟨⟨sz', cs', rfl⟩, hro⟩ := hy
    rw [run_asSl] at hr
    simp only at hr
    replace hr := ev_true hr
    obtain ⟨hsz, hr⟩ := hr
    have hsz : sz' = sz := Nat.eq_of_beq_eq_true hsz
    subst hsz
    rw [run_setO] at hr
    refine ⟨_, _, [⟨k, .arr true true sz' cs', val k, F⟩], hr, ⟨fun _ => rfl, fun j _ hj => ?_, fun j hj hn => ?_, fun e he => ?_, by simp, fun fr s'' hw _ _ _ e he => ?_⟩⟩
    · rw [getO_setO, if_neg (show ¬ k = j from hj _ List.mem_cons_self)]
    · rw [getO_setO, if_neg (show ¬ k = j from hn _ List.mem_cons_self)]; exact (hgn.gone j hj).2.2
    · rw [List.mem_singleton.1 he]
      exact ⟨by rw [getO_setO, if_pos rfl], rfl, .inr ⟨hk, rfl⟩, fun _ h => h⟩
    · rw [List.mem_singleton.1 he]
      show RO fr.w _ _ _
      rw [hw, ← hu]; exact hro
  · rename_i k old os
    obtain ⟨hk, hu, ⟨b, hb⟩, os', hmd, hG⟩ := hbk
    cases hmd
    obtain ⟨ys, rfl, b', cur, e, fs, hv', hF, hbn, hh, hcr⟩ := hy
    rw [hb] at hv'
    cases hv'
    rw [run_asAgg] at hr
    simp only at hr
    obtain ⟨cs, s', l', N, h1, h2, h3⟩ := backCs_sound (G := G) (I1 := I1) (J1 := J1) (fl := fl) (fun e i t' ho ht => flatOs_get (hfl e) i t' ho ht) hcr hG (fun k hk => (hgn.gone k hk).2.2) hr
    rw [run_setO] at h1
    have hng : ∀ e, e ∈ N → e.key ∉ G := fun e he hk => by
      have := (h2.ent e he).1
      rcases (hgn.gone _ hk).2.2 with hg | ⟨i, hg⟩ <;> rw [hg] at this <;> cases this
    have hNk : ∀ e, e ∈ N → k ≠ e.key := fun e he e' => hng e he (e' ▸ hk)
    refine ⟨_, _, ⟨k, .box cs, val k, [b]⟩ :: N.map Ent.g, h1, ⟨h2.tm, fun j hj hn => ?_, fun j hj hn => ?_, fun e he => ?_, ?_, fun fr s'' hw hI hJ hN e he => ?_⟩⟩
    · rw [getO_setO, if_neg (show ¬ k = j from hn _ List.mem_cons_self), h2.same j hj fun e he => hn e.g (List.mem_cons_of_mem _ (List.mem_map_of_mem he))]
    · rw [getO_setO, if_neg (show ¬ k = j from hn _ List.mem_cons_self)]
      exact h2.gone j hj (hgn.gone j hj).2.2
    · rcases List.mem_cons.1 he with rfl | he
      · exact ⟨by rw [getO_setO, if_pos rfl], rfl, .inr ⟨hk, rfl⟩, fun x hx => by rw [hF]; rw [List.mem_singleton.1 hx]; simp⟩
      · obtain ⟨e0, he0, rfl⟩ := List.mem_map.1 he
        obtain ⟨q1, q2, q3, q4⟩ := h2.ent e0 he0
        exact ⟨by rw [getO_setO, if_neg (show ¬ k = e0.g.key from hNk e0 he0)]; exact q2, rfl, .inl q1, fun x hx => by rw [hF]; exact List.mem_cons_of_mem _ (q4 x hx)⟩
    · rw [List.pairwise_cons]
      refine ⟨fun e he => ?_, List.pairwise_map.2 h2.dis⟩
      obtain ⟨e0, he0, rfl⟩ := List.mem_map.1 he
      refine ⟨hNk e0 he0, fun x hx hx' => hbn ?_⟩
      rw [List.mem_singleton.1 hx] at hx'
      exact (h2.ent e0 he0).2.2.2 b hx'
    · rcases List.mem_cons.1 he with rfl | he
      · have hc := h3 fr s'' ⟨hw, hI, hJ, fun e0 he0 => hN e0.g (List.mem_cons_of_mem _ (List.mem_map_of_mem he0))⟩
        exact ⟨b, cur, e, by rw [← hu, hb], rfl, by rw [hw]; exact hh, hc⟩
      · obtain ⟨e0, he0, rfl⟩ := List.mem_map.1 he
        show RO fr.w _ _ _
        rw [hw]; exact (h2.ent e0 he0).2.2.1
  · rename_i old _
    obtain ⟨rfl, vs, hu, hcs, hG⟩ := hbk
    obtain ⟨ys, rfl, vs', fs, hu', hF, hcr⟩ := hy
    rw [hu] at hu'
    cases hu'
    rw [run_asAgg] at hr
    simp only at hr
    obtain ⟨s', l', N, h1, h2, h3, h4, h5, h6⟩ := backVs_sound (I1 := I1) (J1 := J1) (fl := fl) (fun k hk => (hgn.gone k hk).1) hcr hcs hG hr
    refine ⟨s', l', N, h1, ⟨h2, fun k _ hk => h3 k hk, fun k hk hn => by rw [h3 k hn]; exact (hgn.gone k hk).2.2, fun e he => ?_, h5, fun fr s'' hw _ _ _ e he => h6 fr s'' hw e he⟩⟩
    obtain ⟨q1, q2, q3, q4, q5, q6⟩ := h4 e he
    exact ⟨q2, q3, .inr ⟨q4, q5⟩, fun x hx => by rw [hF]; exact q6 x hx⟩
  · cases hr
end
end Ev
/- Ev: calls, whole. -/
namespace Ev
open Go

section
variable {P : Program} {A : Attrs} {E : Env} {c : Ctx} {s s1 s2 s3 : St} {a : Act} {w w1 : World} {val : Key → Value} {fp : Key → List Nat} {Ft Fr Fo : List Nat} {G : List Key}
variable {l : Log} {K : St → Log → R} {r : T × List T}

/-- A call is over: what comes back, what is new. -/
theorem call_over (h : Inv c s a w val fp) {d : Nat} (hd : d < a.tmps.size) {N1 : List EntG} {N2 : List Ent} {own b : Bool} {v : Value} {y : V} {I1 J1 : Nat → Prop}
    (hgn : Gone s s1 G) (hFt : ∀ x, x ∈ Ft → ∃ k, k ∈ G ∧ x ∈ fp k) (hI1 : I1 = aftI (SI c w fp Ft b) w w1 Ft Fr Fo) (hJ1 : J1 = aftI (SJ c w fp Ft b) w w1 Ft Fr Fo)
    (hbk : Backed w1 I1 J1 b val s1 s2 G N1 Fo) (ht : Taken w1 s2 s3 N2 Fr)
    (hkp : Kp (· ∈ Ft) w w1) (hfr : ∀ x, x ∈ Fr ∨ x ∈ Fo → x ∈ Ft ∨ w.heap.size ≤ x) (hap : ∀ x, x ∈ Fr → x ∉ Fo)
    (hv : ∀ fr s'', Fits w1 I1 J1 own (b && !own) fr s'' N2 → VR fr s'' y v) {l3 : Log} (hK : K (s3.setT d y) l3 = some r) : Post c w K r (a.put (some d) v) w1 := by
  subst hI1; subst hJ1
  -- what is free stays apart from what comes back
  have hN1 : ∀ e, e ∈ N1 → ∀ e', e' ∈ N2 → e.key ≠ e'.key := fun e he e' he' hk => by
    have h1 := (hbk.ent e he).1
    have h2 := (ht.ent e' he').1
    have h3 := (hbk.ent e he).2.1
    rw [hk, h2] at h1
    rw [← h1] at h3; cases h3
  have hG2 : ∀ e', e' ∈ N2 → e'.key ∉ G := fun e' he' hk => by
    have h2 := (ht.ent e' he').1
    by_cases hn : ∀ e, e ∈ N1 → e.key ≠ e'.key
    · rcases hbk.gone _ hk hn with hg | ⟨i, hg⟩ <;> rw [hg] at h2 <;> cases h2
    · exact hn fun e he => hN1 e he e' he'
  have free : ∀ k, k ∉ G → s1.getO k = .free → s.getO k = .free := fun k hk hf => by rw [← hgn.same k hk]; exact hf
  have mem : ∀ e, e ∈ N1 ++ N2.map Ent.g → e ∈ N1 ∨ ∃ e', e' ∈ N2 ∧ e'.g = e := fun e he => (List.mem_append.1 he).imp id fun h => List.mem_map.1 h
  have ka : ∀ {k : Key}, (∀ e, e ∈ N1 ++ N2.map Ent.g → e.key ≠ k) → (∀ e, e ∈ N1 → e.key ≠ k) ∧ ∀ e, e ∈ N2 → e.key ≠ k := fun hn =>
    ⟨fun e he => hn e (List.mem_append_left _ he), fun e he => hn e.g (List.mem_append_right _ (List.mem_map_of_mem he))⟩
  have fin : ∀ (fr : Ev.Fr), fr.w = w1 → (∀ x, aftG (inI c w fp) w w1 Ft (N1 ++ N2.map Ent.g) x → fr.I x) → (∀ x, aftG (inJ c w fp) w w1 Ft (N1 ++ N2.map Ent.g) x → fr.J x) →
      (b = false → ∀ x, aftI (SI c w fp Ft b) w w1 Ft Fr Fo x → fr.I x) ∧ (b = false → ∀ x, aftI (SJ c w fp Ft b) w w1 Ft Fr Fo x → fr.J x) := fun fr _ hI hJ => by
    have out : ∀ x, x ∉ Fr → x ∉ Fo → ∀ e, e ∈ N1 ++ N2.map Ent.g → x ∉ e.F := fun x h1 h2 e he hx => by
      rcases mem e he with he | ⟨e', he', rfl⟩
      · exact h2 ((hbk.ent e he).2.2.2 x hx)
      · exact h1 ((ht.ent e' he').2.2.2 x hx)
    refine ⟨fun hb x hx => hI x ⟨?_, hx.2.1, out x hx.2.2.1 hx.2.2.2⟩, fun hb x hx => hJ x ⟨?_, hx.2.1, out x hx.2.2.1 hx.2.2.2⟩⟩
    · rcases hx.1 with h4 | h4
      · exact .inl ⟨h4.1, h4.2.1, h4.2.2.2 hb⟩
      · exact .inr h4
    · rcases hx.1 with h4 | h4
      · exact .inl ⟨h4.1, h4.2.1, h4.2.2.2 hb⟩
      · exact .inr h4
  have g3 : ∀ e, e ∈ N1 ++ N2.map Ent.g → s3.getO e.key = e.ob := fun e he => by
    rcases mem e he with he | ⟨e', he', rfl⟩
    · rw [ht.same e.key fun e' he' hk => hN1 e he e' he' hk.symm]; exact (hbk.ent e he).1
    · exact (ht.ent e' he').2.1
  obtain ⟨val', fp', q1, q2, q3, q4, q5⟩ := after_call (N := N1 ++ N2.map Ent.g) (s3 := s3) (G := G) (Ft := Ft) h (fun i => (ht.tm i).trans ((hbk.tm i).trans (hgn.tm i)))
    (fun k hk hn => by rw [ht.same k (ka hn).2, hbk.same k hk (ka hn).1, hgn.same k hk])
    (fun k hk => ⟨(hgn.gone k hk).1, (hgn.gone k hk).2.1, fun hn => by rw [ht.same k (ka hn).2]; exact hbk.gone k hk (ka hn).1⟩)
    (fun e he => ⟨g3 e he, by
      rcases mem e he with he | ⟨e', he', rfl⟩
      · exact (hbk.ent e he).2.1
      · rfl, by
      rcases mem e he with he | ⟨e', he', rfl⟩
      · rcases (hbk.ent e he).2.2.1 with h1 | h1
        · by_cases hk : e.key ∈ G
          · rcases (hgn.gone _ hk).2.2 with hg | ⟨i, hg⟩ <;> rw [hg] at h1 <;> cases h1
          · exact .inl (free _ hk h1)
        · exact .inr h1
      · have h2 := (ht.ent e' he').1
        refine .inl (free _ (hG2 e' he') ?_)
        show s1.getO e'.key = .free
        rw [← hbk.same e'.key (hG2 e' he') fun e he hk => hN1 e he e' he' hk]; exact h2, fun x hx => by
      rcases mem e he with he | ⟨e', he', rfl⟩
      · exact hfr x (.inr ((hbk.ent e he).2.2.2 x hx))
      · exact hfr x (.inl ((ht.ent e' he').2.2.2 x hx))⟩)
    (by
      rw [List.pairwise_append]
      refine ⟨hbk.dis, List.pairwise_map.2 ht.dis, fun e he e'' he'' => ?_⟩
      obtain ⟨e', he', rfl⟩ := List.mem_map.1 he''
      exact ⟨hN1 e he e' he', fun x hx hx' => hap x ((ht.ent e' he').2.2.2 x hx') ((hbk.ent e he).2.2.2 x hx)⟩)
    hFt hkp
    (fun fr hw hI hJ hval e he => by
      obtain ⟨f1, f2⟩ := fin fr hw hI hJ
      rcases mem e he with he | ⟨e', he', rfl⟩
      · exact hbk.ob fr s3 hw f1 f2 (fun e he => ⟨g3 e (List.mem_append_left _ he), hval e (List.mem_append_left _ he)⟩) e he
      · show RO fr.w _ _ _
        rw [hw]; exact (ht.ent e' he').2.2.1)
  obtain ⟨f1, f2⟩ := fin (mkFr c w1 val' fp') rfl q3 q4
  refine ⟨_, _, val', fp', hK, q1.setT hd (hv _ _ ⟨rfl, fun ho hf => f1 ?_, fun ho hf => f2 ?_, fun e he => ⟨(ht.ent e he).2.1, q5 e.g (List.mem_append_right _ (List.mem_map_of_mem he))⟩⟩), rfl, q2⟩
  · subst ho; simpa using hf
  · subst ho; simpa using hf

theorem callP_sound (h : Inv c s a w val fp) (hE : ∀ g args r, E g args = some r → Meets P (A g) g args r) {o : Oper} {d : Nat} (hd' : o.dst = some d) (hd : d < a.tmps.size) {g : FuncId} {tys : List TypeId}
    {vs : List V} {us : Array Value} (hl : vs.length = us.size) (hvs : ∀ (i : Nat) (v : V) (u : Value), vs[i]? = some v → us[i]? = some u → VR (mkFr c w val fp) s v u)
    {caps : List T} {cvs : Array Value} {sn : Bool} (hcl : caps.length = cvs.size) (hcaps : ∀ (i : Nat) (y : T) (u : Value), caps[i]? = some y → cvs[i]? = some u → SR c w fp [] sn y u)
    (hr : runP E (callP P A o g tys vs caps sn) s l K = some r) : Does P g (us ++ cvs) w fun v w' => Post c w K r (a.put o.dst v) w' := by
  have hlent : ∀ {G : List Key} {s1 : St} {Ft : List Nat}, Gone s s1 G → (∀ x, x ∈ Ft → ∃ k, k ∈ G ∧ x ∈ fp k) → Snap c s s1 a w val fp Ft := fun {G s1 Ft} hgn hFt => by
    refine ⟨h, fun k hk => ?_, fun x hx => (hFt x hx).imp fun _ h => h.2, ?_⟩
    · have hkG : k ∉ G := fun hkG => by
        rcases (hgn.gone k hkG).2.2 with e | ⟨j, e⟩ <;> rw [e] at hk <;> cases hk
      refine ⟨(hgn.same k hkG).symm, fun x hx hx' => ?_⟩
      obtain ⟨k', hk', hx2⟩ := hFt x hx'
      exact h.disj k k' (fun e => hkG (e ▸ hk')) x hx hx2
    · rintro x ⟨k, hk, hx⟩ hx'
      obtain ⟨k', hk', hx2⟩ := hFt x hx'
      have hne : k ≠ k' := fun e => by
        subst e
        have := (hgn.gone k hk').2.1
        rw [hk] at this; cases this
      exact h.disj k k' hne x hx hx2
  unfold callP at hr
  rw [hd'] at hr
  simp only at hr
  split at hr
  · -- nothing is turned
    rename_i hturn
    have hg0 : Gone s s [] := ⟨fun _ => rfl, by simp, fun _ _ => rfl⟩
    have hsn : Snap c s s a w val fp [] := hlent hg0 (by simp)
    obtain ⟨xs, b, l1, h1, hxl, hxs⟩ := snapArgs_sound hsn (us := us.toList) (by simpa using hl) (fun j v u h1 h2 => hvs j v u h1 (by simpa using h2)) hr
    rw [run_ite, run_fail] at h1
    rcases ev_wrap h1 with ⟨_, h1⟩ | ⟨hchk, h1⟩
    · cases h1
    rw [run_call, Option.bind_eq_some_iff] at h1
    obtain ⟨⟨x, outs⟩, hcall, h1⟩ := h1
    have hmeets := hE _ _ _ hcall
    let b' := b || sn
    have hpre : Pre (A g) (xs ++ caps) w (SI c w fp [] b') (SJ c w fp [] b') (us ++ cvs) [] := by
      refine ⟨fun x hx => ⟨hx.1.imp (h.ij x) id, hx.2⟩, by simp [hxl, hl, hcl], fun i y u _ hy hu => ?_, fun i hi => (by rw [hturn] at hi; cases hi), fun _ => rfl, by simp, fun b hb => hb.2.1⟩
      rw [List.getElem?_append] at hy
      split at hy
      · rename_i hi
        have hiu : i < us.size := by omega
        rw [Array.getElem?_append_left hiu] at hu
        rcases hxs i y hy with h2 | ⟨_, h2⟩
        · cases h2
        · exact (h2 u (by simpa using hu)).or (by simp [b']; intro h; exact .inl h)
      · rename_i hi
        have hiu : us.size ≤ i := by omega
        rw [Array.getElem?_append_right hiu] at hu
        exact RB.resV (SR.or (hcaps _ y u hy (by rw [hxl, hl]; exact hu)) (by simp [b']; intro h; exact .inr h))
    refine (hmeets w _ _ _ _ hpre).mono fun v w1 ⟨Fr, Fo, hdone⟩ => ?_
    have hout : outs = [] ∧ Fo = [] := by
      rcases hdone.out with ⟨_, ho1, ho2⟩ | ⟨i, y, u, hi, _⟩ | ⟨_, ho1, ho2⟩
      · exact ⟨ho1, ho2⟩
      · rw [hturn] at hi; cases hi
      · exact ⟨ho1, ho2⟩
    obtain ⟨ho1, ho2⟩ := hout
    subst ho2
    subst ho1
    rw [run_unnil] at h1
    simp only at h1
    have hflat : b' = true → (A g).own = false → flatTs P o.type = true := fun hb ho => by
      cases hf : flatTs P o.type with
      | true => rfl
      | false => simp only [b'] at hb; rw [hb, hf, ho] at hchk; cases hchk
    obtain ⟨y, s3, l3, N, h3, ht, hv⟩ := takeR_sound (fl := b' && !(A g).own) (fun e => by
      simp only [Bool.and_eq_true, Bool.not_eq_true'] at e
      exact hflat e.1 e.2) hdone.res h1
    rw [run_setT, run_done] at h3
    rw [hd']
    exact call_over h hd (N1 := []) hg0 (by simp) rfl rfl ⟨fun _ => rfl, fun _ _ _ => rfl, by simp, by simp, List.Pairwise.nil, by simp⟩ ht hdone.kp hdone.fr hdone.ap hv h3
  · -- one parameter is turned
    rename_i i hturn
    split at hr
    · rename_i v t hvi hti
      have hcv : cvs = #[] := Array.eq_empty_of_size_eq_zero (by simpa using hcl.symm)
      subst hcv
      rw [Array.append_empty]
      have hiv : i < us.size := by rw [← hl]; exact (List.getElem?_eq_some_iff.1 hvi).1
      have hu : us[i]? = some us[i] := by simp [hiv]
      have hvr := hvs i v _ hvi hu
      obtain ⟨x, bk, s1, l1, G, Ft, hr, hgn, harg, hFt, hbk⟩ := give_sound h hvr hr
      have hsn : Snap c s s1 a w val fp Ft := hlent hgn hFt
      obtain ⟨xs, b, l2, h1, hxl, hxs⟩ := snapArgs_sound hsn (us := us.toList) (by simpa using hl) (fun j v u h1 h2 => hvs j v u h1 (by simpa using h2)) hr
      rw [run_ite, run_fail] at h1
      rcases ev_wrap h1 with ⟨_, h1⟩ | ⟨hchk, h1⟩
      · cases h1
      rw [run_call, Option.bind_eq_some_iff] at h1
      obtain ⟨⟨y, outs⟩, hcall, h1⟩ := h1
      have hmeets := hE _ _ _ hcall
      have hii : Nat.beq i i = true := by simp
      have hargS : ArgT w (SI c w fp Ft b) (SJ c w fp Ft b) (A g).md x us[i] Ft := by
        revert harg
        cases (A g).md with
        | ptr os =>
          rintro ⟨ys, rfl, b', cur, e, fs, r1, r2, r3, r4, r5, r6, r7⟩
          refine ⟨ys, rfl, b', cur, e, fs, r1, r2, r3, r4, r5, r6, fun j y u hy hu => ?_⟩
          have := r7 j y u hy hu
          unfold El at *
          split
          · rename_i ho; rw [if_pos ho] at this; exact this
          · rename_i ho
            rw [if_neg ho] at this
            exact ⟨RB.move this.1 (fun x hx => ⟨hsn.I_le b hx, rfl⟩) (fun x hx => ⟨hsn.J_le b hx, rfl⟩), this.2⟩
        | sl => exact id
        | val => exact id
      have hpre : Pre (A g) xs w (SI c w fp Ft b) (SJ c w fp Ft b) us Ft := by
        refine ⟨fun x hx => ⟨hx.1.imp (h.ij x) id, hx.2⟩, by omega, fun j y u hj hy hu => ?_, fun j hj => ?_, fun hn => (by rw [hturn] at hn; cases hn), fun x hx hJ => hJ.2.2.1 hx, fun b hb => hb.2.1⟩
        · have hne : i ≠ j := fun e => hj (by rw [hturn, e])
          rcases hxs j y hy with h2 | ⟨_, h2⟩
          · simp only [Nat.zero_add] at h2
            rw [nbeq hne] at h2
            cases h2
          · exact h2 u (by simpa using hu)
        · rw [hturn] at hj
          cases hj
          have hix : i < xs.length := by omega
          refine ⟨xs[i], us[i], by simp [hix], hu, ?_⟩
          rcases hxs i xs[i] (by simp [hix]) with h2 | ⟨h2, _⟩
          · simp only [Nat.zero_add] at h2
            rw [hii, cond_true] at h2
            cases h2
            exact hargS
          · simp only [Nat.zero_add] at h2
            rw [hii, cond_true] at h2
            cases h2
      refine (hmeets w _ _ _ _ hpre).mono fun v w1 ⟨Fr, Fo, hdone⟩ => ?_
      have hfl : b = true → flatMd P (A g).md t = true := fun hb => by
        cases hf : flatMd P (A g).md t with
        | true => rfl
        | false => rw [hb, hf, Bool.and_false] at hchk; cases hchk
      have fin : ∃ sx l3 N1, runP E (takeR P (A g).own (keyOf d 0) o.type y fun v => .setT d v .done) sx l3 K = some r ∧ Backed w1 (aftI (SI c w fp Ft b) w w1 Ft Fr Fo) (aftI (SJ c w fp Ft b) w w1 Ft Fr Fo) b val s1 sx G N1 Fo := by
        rcases hdone.out with ⟨hn, _⟩ | ⟨j, z, u, hj, htk, hz, hu', hout⟩ | ⟨htk, hz, hfo⟩
        · rw [hturn] at hn; cases hn
        · rw [hturn] at hj
          cases hj
          rw [hu] at hu'
          cases hu'
          simp only at hz
          subst hz
          rw [htk, cond_false] at h1
          exact back_sound (fl := b) hfl hgn hbk hout h1
        · simp only at hz
          subst hz
          subst hfo
          rw [htk, cond_true, run_unnil] at h1
          exact ⟨_, _, [], h1, ⟨fun _ => rfl, fun _ _ _ => rfl, fun k hk _ => (hgn.gone k hk).2.2, by simp, List.Pairwise.nil, by simp⟩⟩
      obtain ⟨sx, l3, N1, h3, hbd⟩ := fin
      have hflat : b = true → (A g).own = false → flatTs P o.type = true := fun hb ho => by
        cases hf : flatTs P o.type with
        | true => rfl
        | false => rw [hb, hf, ho] at hchk; cases hchk
      obtain ⟨y', s3, l4, N, h4, ht, hv⟩ := takeR_sound (fl := b && !(A g).own) (fun e => by
        simp only [Bool.and_eq_true, Bool.not_eq_true'] at e
        exact hflat e.1 e.2) hdone.res h3
      rw [run_setT, run_done] at h4
      rw [hd']
      exact call_over h hd hgn hFt rfl rfl hbd ht hdone.kp hdone.fr hdone.ap hv h4
    · cases hr
end
end Ev
