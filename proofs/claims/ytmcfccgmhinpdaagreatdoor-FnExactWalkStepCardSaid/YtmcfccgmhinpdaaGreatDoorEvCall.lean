/- Ev: what a callee promises; what its caller makes of it. -/
import Derived.Test.YtmcfccgmhinpdaaGreatDoorEvSnap
namespace Ev
open Go

/-! ## the promise -/
/-- What a call of a function does, with or without a body. -/
def Does (P : Program) (g : FuncId) (vs : Array Value) (w : World) (R : Value → World → Prop) : Prop :=
  match (callFunc g vs).run P w with
  | .ok (.value v) w' => R v w'
  | .ok (.enter f args) w' => Calls P f args w' fun e w'' => ∃ v, e = .returned v ∧ R v w''
  | _ => False
/-- Cells that lead to memory of one's own, or to what is only read. -/
def CellsR (w : World) (I J : Nat → Prop) (os : List Bool) (ys : List T) (us : List Value) (fs : Nat → List Nat) : Prop :=
  ys.length = us.length ∧ ND ys.length fs ∧ ∀ (i : Nat) (y : T) (u : Value), ys[i]? = some y → us[i]? = some u → El w I J (os.getD i false) y u (fs i)
def CellsT (w : World) (I J : Nat → Prop) (os : List Bool) (ys : List T) (v : Value) (F : List Nat) : Prop :=
  ∃ b cur e fs, v = .pointer (some ⟨b, 0, none⟩) ∧ F = b :: flat ys.length fs ∧ b ∉ flat ys.length fs ∧ w.heap[b]? = some (.cells cur e (0, 0)) ∧ CellsR w I J os ys cur.toList fs
def AggT (w : World) (ys : List T) (v : Value) (F : List Nat) : Prop :=
  ∃ vs : Array Value, ∃ fs, v = .agg vs ∧ F = flat ys.length fs ∧ CellsR w (fun _ => False) (fun _ => False) (truesT ys) ys vs.toList fs
def ArgT (w : World) (I J : Nat → Prop) (md : Mode) (x : T) (v : Value) (F : List Nat) : Prop :=
  match md with
  | .ptr os => ∃ ys, x = .rref ys 0 ∧ CellsT w I J os ys v F
  | .sl => (∃ sz cs, x = .sl sz cs) ∧ RO w x v F
  | .val => ∃ ys, x = .agg ys ∧ AggT w ys v F
def OutT (w : World) (I J : Nat → Prop) (md : Mode) (x : T) (v : Value) (F : List Nat) : Prop :=
  match md with
  | .ptr os => ∃ ys, x = .agg ys ∧ CellsT w I J os ys v F
  | .sl => (∃ sz cs, x = .sl sz cs) ∧ RO w x v F
  | .val => ∃ ys, x = .agg ys ∧ AggT w ys v F
structure Pre (at_ : Attr) (args : List T) (w : World) (I J : Nat → Prop) (vs : Array Value) (F : List Nat) : Prop where
  ij : ∀ b, I b → J b
  len : vs.size = args.length
  vals : ∀ (i : Nat) (x : T) (v : Value), at_.turn ≠ some i → args[i]? = some x → vs[i]? = some v → ResV w I J false x v []
  turned : ∀ i, at_.turn = some i → ∃ x v, args[i]? = some x ∧ vs[i]? = some v ∧ ArgT w I J at_.md x v F
  none : at_.turn = none → F = []
  ap : ∀ b, b ∈ F → ¬ J b
  lt : ∀ b, J b → b < w.heap.size
def aftI (I : Nat → Prop) (w w' : World) (F Fr Fo : List Nat) (b : Nat) : Prop := (I b ∨ b ∈ F ∨ w.heap.size ≤ b) ∧ b < w'.heap.size ∧ b ∉ Fr ∧ b ∉ Fo
structure Done (at_ : Attr) (w : World) (I J : Nat → Prop) (vs : Array Value) (F : List Nat) (r : T × List T) (v : Value) (w' : World) (Fr Fo : List Nat) : Prop where
  kp : Kp (· ∈ F) w w'
  fr : ∀ b, b ∈ Fr ∨ b ∈ Fo → b ∈ F ∨ w.heap.size ≤ b
  ap : ∀ b, b ∈ Fr → b ∉ Fo
  res : ResT w' (aftI I w w' F Fr Fo) (aftI J w w' F Fr Fo) at_.own r.1 v Fr
  out : (at_.turn = none ∧ r.2 = [] ∧ Fo = []) ∨ (∃ i y u, at_.turn = some i ∧ at_.take = false ∧ r.2 = [y] ∧ vs[i]? = some u ∧ OutT w' (aftI I w w' F Fr Fo) (aftI J w w' F Fr Fo) at_.md y u Fo) ∨ (at_.take = true ∧ r.2 = [] ∧ Fo = [])
def Meets (P : Program) (at_ : Attr) (f : FuncId) (args : List T) (r : T × List T) : Prop :=
  ∀ w I J vs F, Pre at_ args w I J vs F → Does P f vs w fun v w' => ∃ Fr Fo, Done at_ w I J vs F r v w' Fr Fo

/-! ## results taken -/
structure Ent where
  key : Key
  sz : Nat
  cells : List T
  v : Value
  F : List Nat
structure Taken (w1 : World) (s s' : St) (N : List Ent) (F : List Nat) : Prop where
  tm : ∀ i, s'.getT i = s.getT i
  same : ∀ k, (∀ e, e ∈ N → e.key ≠ k) → s'.getO k = s.getO k
  ent : ∀ e, e ∈ N → s.getO e.key = .free ∧ s'.getO e.key = .arr true true e.sz e.cells ∧ RO w1 (.sl e.sz e.cells) e.v e.F ∧ ∀ x, x ∈ e.F → x ∈ F
  dis : N.Pairwise fun a b => a.key ≠ b.key ∧ ∀ x, x ∈ a.F → x ∉ b.F
structure Fits (w1 : World) (I1 J1 : Nat → Prop) (own fl : Bool) (fr : Fr) (s : St) (N : List Ent) : Prop where
  w : fr.w = w1
  I : own = false → fl = false → ∀ b, I1 b → fr.I b
  J : own = false → fl = false → ∀ b, J1 b → fr.J b
  ent : ∀ e, e ∈ N → s.getO e.key = .arr true true e.sz e.cells ∧ fr.val e.key = e.v
theorem Fits.sub {w1 : World} {I1 J1 : Nat → Prop} {own fl : Bool} {fr : Fr} {s : St} {N N' : List Ent} (h : Fits w1 I1 J1 own fl fr s N) (hn : ∀ e, e ∈ N' → e ∈ N) : Fits w1 I1 J1 own fl fr s N' :=
  ⟨h.w, h.I, h.J, fun e he => h.ent e (hn e he)⟩
theorem Taken.refl (w1 : World) (s : St) (F : List Nat) : Taken w1 s s [] F := ⟨fun _ => rfl, fun _ _ => rfl, by simp, List.Pairwise.nil⟩
theorem Taken.trans {w1 : World} {s s' s'' : St} {N N' : List Ent} {F F' G : List Nat} (h : Taken w1 s s' N F) (h' : Taken w1 s' s'' N' F') (hd : ∀ x, x ∈ F → x ∉ F') (hG : ∀ x, x ∈ F ∨ x ∈ F' → x ∈ G) : Taken w1 s s'' (N ++ N') G := by
  have hne : ∀ e e', e ∈ N → e' ∈ N' → e.key ≠ e'.key := fun e e' he he' hk => by
    have h1 := (h.ent e he).2.1
    have h2 := (h'.ent e' he').1
    rw [hk, h2] at h1; cases h1
  refine ⟨fun i => (h'.tm i).trans (h.tm i), fun k hk => ?_, fun e he => ?_, ?_⟩
  · rw [h'.same k (fun e he => hk e (List.mem_append_right _ he)), h.same k (fun e he => hk e (List.mem_append_left _ he))]
  · rcases List.mem_append.1 he with he | he
    · obtain ⟨h1, h2, h3, h4⟩ := h.ent e he
      refine ⟨h1, ?_, h3, fun x hx => hG x (.inl (h4 x hx))⟩
      rw [h'.same e.key (fun e' he' hk => hne e e' he he' hk.symm)]; exact h2
    · obtain ⟨h1, h2, h3, h4⟩ := h'.ent e he
      refine ⟨?_, h2, h3, fun x hx => hG x (.inr (h4 x hx))⟩
      rw [← h.same e.key (fun e' he' hk => hne e' e he' he hk)]; exact h1
  · rw [List.pairwise_append]
    exact ⟨h.dis, h'.dis, fun e he e' he' => ⟨hne e e' he he', fun x hx hx' => hd x ((h.ent e he).2.2.2 x hx) ((h'.ent e' he').2.2.2 x hx')⟩⟩
theorem Taken.mono {w1 : World} {s s' : St} {N : List Ent} {F G : List Nat} (h : Taken w1 s s' N F) (hG : ∀ x, x ∈ F → x ∈ G) : Taken w1 s s' N G :=
  ⟨h.tm, h.same, fun e he => ⟨(h.ent e he).1, (h.ent e he).2.1, (h.ent e he).2.2.1, fun x hx => hG x ((h.ent e he).2.2.2 x hx)⟩, h.dis⟩

section
variable {P : Program} {E : Env} {s : St} {w1 : World} {I1 J1 : Nat → Prop} {own fl : Bool}
variable {l : Log} {K : St → Log → R} {r : T × List T}

theorem takeC_sound {key : Key} {t : TypeId} (hfl : fl = true → flatC P t = true) {x : T} {v : Value} {F : List Nat} (hx : El w1 I1 J1 own x v F) {f : C → Prog} (hr : runP E (takeC P own key t x f) s l K = some r) :
    ∃ c s' l' N, runP E (f c) s' l' K = some r ∧ Taken w1 s s' N F ∧ ∀ fr s'', Fits w1 I1 J1 own fl fr s'' N → CR fr s'' c v := by
  have borrowed : own = false → (fl = true → x.scalar = true) → ∀ fr s'', Fits w1 I1 J1 own fl fr s'' [] → CR fr s'' (.t x) v := fun ho hsc fr s'' hf => by
    subst ho
    have h1 : RB w1 I1 J1 x v := hx.1
    show RB fr.w fr.I fr.J x v
    cases fl with
    | true => exact scalar_rb h1 (hsc rfl)
    | false =>
      rw [hf.w]
      exact RB.move h1 (fun b hb => ⟨hf.I rfl rfl b hb, rfl⟩) (fun b hb => ⟨hf.J rfl rfl b hb, rfl⟩)
  unfold takeC at hr
  split at hr
  · rename_i e he
    rw [run_asSl] at hr
    split at hr
    · rename_i sz cs
      replace hr := ev_true hr
      obtain ⟨hsz, hr⟩ := hr
      have hsz : sz = sizeT P e := Nat.eq_of_beq_eq_true hsz
      subst hsz
      cases own with
      | true =>
        rw [cond_true] at hr
        obtain ⟨hfree, l1, h1⟩ := newO_sound hr
        have hro : RO w1 (.sl (sizeT P e) cs) v F := hx
        refine ⟨.obj key, _, l1, [⟨key, sizeT P e, cs, v, F⟩], h1, ⟨fun _ => rfl, fun k hk => ?_, fun e' he' => ?_, by simp⟩, fun fr s'' hf => ?_⟩
        · have hne : key ≠ k := hk _ (List.mem_singleton.2 rfl)
          rw [getO_setO, if_neg hne]
        · rw [List.mem_singleton.1 he']
          exact ⟨hfree, by simp, hro, fun _ h => h⟩
        · obtain ⟨h2, h3⟩ := hf.ent _ (List.mem_singleton.2 rfl)
          refine ⟨?_, hro.one⟩
          rw [h2]; exact h3.symm
      | false =>
        rw [cond_false] at hr
        exact ⟨_, s, _, [], hr, Taken.refl _ _ _, borrowed rfl fun e => by have := hfl e; simp [flatC, he] at this⟩
    · cases hr
  · obtain ⟨l1, h1, hsc, _⟩ := asTy_sound hr
    cases own with
    | true =>
      rw [cond_true, run_iteF] at h1
      replace h1 := ev_true h1
      obtain ⟨hs, h1⟩ := h1
      have hro : RO w1 x v F := hx
      refine ⟨_, s, l1, [], h1, Taken.refl _ _ _, fun fr s'' hf => ?_⟩
      show RB fr.w fr.I fr.J x v
      exact scalar_rb (hro.rb (I := fun _ => True) (J := fun _ => True) fun _ _ => trivial) hs
    | false =>
      rw [cond_false] at h1
      exact ⟨_, s, l1, [], h1, Taken.refl _ _ _, borrowed rfl fun e => hsc (hfl e)⟩

theorem takeCs_sound : ∀ {ts : List TypeId} {key : Key} {xs : List T} {vs : List Value} {fs : Nat → List Nat} {s : St} {l : Log} {f : List C → Prog}, (fl = true → ∀ t, t ∈ ts → flatC P t = true) → xs.length = vs.length → ND xs.length fs →
    (∀ (i : Nat) (y : T) (u : Value), xs[i]? = some y → vs[i]? = some u → El w1 I1 J1 own y u (fs i)) → runP E (takeCs P own key ts xs f) s l K = some r →
    ∃ cs s' l' N, runP E (f cs) s' l' K = some r ∧ Taken w1 s s' N (flat xs.length fs) ∧ ∀ fr s'', Fits w1 I1 J1 own fl fr s'' N → CRs fr s'' cs vs
  | [], key, xs, vs, fs, s, l, f, hfl, hl, hnd, hx, hr => by
    rw [takeCs, run_unnil] at hr
    split at hr
    · have : vs = [] := List.eq_nil_of_length_eq_zero (by simpa using hl.symm)
      subst this
      exact ⟨[], s, l, [], hr, Taken.refl _ _ _, fun _ _ _ => ⟨rfl, by simp⟩⟩
    · cases hr
  | t :: ts, key, xs, vs, fs, s, l, f, hfl, hl, hnd, hx, hr => by
    rw [takeCs, run_uncons] at hr
    split at hr
    · rename_i x xs
      cases vs with
      | nil => simp at hl
      | cons v vs =>
        obtain ⟨c, s1, l1, N, h1, ht1, hc1⟩ := takeC_sound (fun e => hfl e t (by simp)) (hx 0 x v rfl rfl) hr
        obtain ⟨cs, s2, l2, N', h2, ht2, hc2⟩ := takeCs_sound (xs := xs) (vs := vs) (fs := fun i => fs (i + 1)) (fun e t ht => hfl e t (List.mem_cons_of_mem _ ht)) (by simpa using hl)
          ⟨fun i hi => hnd.1 (i + 1) (by simp; omega), fun i j hi hj hne => hnd.2 (i + 1) (j + 1) (by simp; omega) (by simp; omega) (by omega)⟩
          (fun i y u hy hu => hx (i + 1) y u (by simpa using hy) (by simpa using hu)) h1
        refine ⟨c :: cs, s2, l2, N ++ N', h2, ht1.trans ht2 (fun x hx hx' => ?_) (fun x hx => ?_), fun fr s'' hf => ?_⟩
        · obtain ⟨i, hi, hx'⟩ := mem_flat.1 hx'
          exact hnd.2 0 (i + 1) (by simp) (by simp; omega) (by omega) x hx hx'
        · rcases hx with hx | hx
          · exact mem_flat.2 ⟨0, by simp, hx⟩
          · obtain ⟨i, hi, hx⟩ := mem_flat.1 hx; exact mem_flat.2 ⟨i + 1, by simp; omega, hx⟩
        · have q1 := hc1 fr s'' (hf.sub fun e he => List.mem_append_left _ he)
          have q2 := hc2 fr s'' (hf.sub fun e he => List.mem_append_right _ he)
          refine ⟨by simpa using q2.1, fun i c' v' hc' hv' => ?_⟩
          cases i with
          | zero => simp at hc' hv'; subst hc'; subst hv'; exact q1
          | succ i => exact q2.2 i c' v' (by simpa using hc') (by simpa using hv')
    · cases hr

theorem ResV.cell {w : World} {I J : Nat → Prop} {x : T} {v : Value} {F : List Nat} (h : ResV w I J own x v F) (hc : x.cell = true) : El w I J own x v F := by
  cases x <;> first | exact h | (simp [T.cell] at hc)
theorem takeC_cell {key : Key} {t : TypeId} {x : T} {f : C → Prog} (hr : runP E (takeC P own key t x f) s l K = some r) : x.cell = true := by
  unfold takeC at hr
  split at hr
  · rw [run_asSl] at hr
    split at hr
    · rfl
    · cases hr
  · obtain ⟨_, _, _, h⟩ := asTy_sound hr; exact h

theorem flatT_one {t : TypeId} (ha : isAggT P t = false) (h : flatT P t = true) : flatC P t = true := by
  have : cellTys P 8 t = [t] := by
    unfold isAggT at ha
    rw [cellTys]
    split at ha
    · cases ha
    · cases ha
    · rfl
  unfold flatT at h
  rw [this] at h
  simp only [List.all_cons, List.all_nil, Bool.and_true] at h
  exact h
theorem takeV_sound {key : Key} {t : TypeId} (hfl : fl = true → flatT P t = true) {x : T} {v : Value} {F : List Nat} (hx : ResV w1 I1 J1 own x v F) {f : V → Prog} (hr : runP E (takeV P own key t x f) s l K = some r) :
    ∃ y s' l' N, runP E (f y) s' l' K = some r ∧ Taken w1 s s' N F ∧ ((isAggT P t = true ∧ ∃ cs, y = .agg cs ∧ ∃ vs : Array Value, v = .agg vs ∧ ∀ fr s'', Fits w1 I1 J1 own fl fr s'' N → CRs fr s'' cs vs.toList) ∨
      (isAggT P t = false ∧ ∃ c, y = .one c ∧ ∀ fr s'', Fits w1 I1 J1 own fl fr s'' N → CR fr s'' c v)) := by
  unfold takeV at hr
  cases ha : isAggT P t with
  | true =>
    rw [ha, cond_true, run_asAgg] at hr
    split at hr
    · rename_i xs
      obtain ⟨vs, fs, rfl, hl, hnd, rfl, hel⟩ := hx
      obtain ⟨cs, s', l', N, h1, h2, h3⟩ := takeCs_sound (vs := vs.toList) (fun e t' ht => List.all_eq_true.1 (hfl e) t' ht) (by simpa using hl) hnd (fun i y u hy hu => hel i y u hy (by simpa using hu)) hr
      exact ⟨_, s', l', N, h1, h2, .inl ⟨rfl, cs, rfl, vs, rfl, h3⟩⟩
    · cases hr
  | false =>
    rw [ha, cond_false] at hr
    obtain ⟨c, s', l', N, h1, h2, h3⟩ := takeC_sound (fun e => flatT_one ha (hfl e)) (hx.cell (takeC_cell hr)) hr
    exact ⟨_, s', l', N, h1, h2, .inr ⟨rfl, c, rfl, h3⟩⟩

theorem takePs_sound : ∀ {ts : List TypeId} {key : Key} {xs : List T} {vs : List Value} {fs : Nat → List Nat} {s : St} {l : Log} {f : List (Bool × List C) → Prog}, (fl = true → ∀ t, t ∈ ts → flatT P t = true) → xs.length = vs.length → ND xs.length fs →
    (∀ (i : Nat) (y : T) (u : Value), xs[i]? = some y → vs[i]? = some u → ResV w1 I1 J1 own y u (fs i)) → runP E (takePs P own key ts xs f) s l K = some r →
    ∃ ps s' l' N, runP E (f ps) s' l' K = some r ∧ Taken w1 s s' N (flat xs.length fs) ∧ ps.length = vs.length ∧ ∀ fr s'', Fits w1 I1 J1 own fl fr s'' N →
      ∀ (i : Nat) (p : Bool × List C) (u : Value), ps[i]? = some p → vs[i]? = some u → (p.1 = true ∧ (∃ vs : Array Value, u = .agg vs ∧ CRs fr s'' p.2 vs.toList)) ∨ (p.1 = false ∧ ∃ c, p.2 = [c] ∧ CR fr s'' c u)
  | [], key, xs, vs, fs, s, l, f, hfl, hl, hnd, hx, hr => by
    rw [takePs, run_unnil] at hr
    split at hr
    · have : vs = [] := List.eq_nil_of_length_eq_zero (by simpa using hl.symm)
      subst this
      exact ⟨[], s, l, [], hr, Taken.refl _ _ _, rfl, fun _ _ _ => by simp⟩
    · cases hr
  | t :: ts, key, xs, vs, fs, s, l, f, hfl, hl, hnd, hx, hr => by
    rw [takePs, run_uncons] at hr
    split at hr
    · rename_i x xs
      cases vs with
      | nil => simp at hl
      | cons v vs =>
        obtain ⟨y, s1, l1, N, h1, ht1, hc1⟩ := takeV_sound (fun e => hfl e t (by simp)) (hx 0 x v rfl rfl) hr
        obtain ⟨ps, s2, l2, N', h2, ht2, hpl, hc2⟩ := takePs_sound (xs := xs) (vs := vs) (fs := fun i => fs (i + 1)) (fun e t ht => hfl e t (List.mem_cons_of_mem _ ht)) (by simpa using hl)
          ⟨fun i hi => hnd.1 (i + 1) (by simp; omega), fun i j hi hj hne => hnd.2 (i + 1) (j + 1) (by simp; omega) (by simp; omega) (by omega)⟩
          (fun i y u hy hu => hx (i + 1) y u (by simpa using hy) (by simpa using hu)) h1
        refine ⟨_ :: ps, s2, l2, N ++ N', h2, ht1.trans ht2 (fun x hx hx' => ?_) (fun x hx => ?_), by simp [hpl], fun fr s'' hf i p u hp hu => ?_⟩
        · obtain ⟨i, hi, hx'⟩ := mem_flat.1 hx'
          exact hnd.2 0 (i + 1) (by simp) (by simp; omega) (by omega) x hx hx'
        · rcases hx with hx | hx
          · exact mem_flat.2 ⟨0, by simp, hx⟩
          · obtain ⟨i, hi, hx⟩ := mem_flat.1 hx; exact mem_flat.2 ⟨i + 1, by simp; omega, hx⟩
        · cases i with
          | zero =>
            simp at hp hu
            subst hp; subst hu
            rcases hc1 with ⟨ha, cs, rfl, us, rfl, hc1⟩ | ⟨ha, c, rfl, hc1⟩
            · exact .inl ⟨ha, us, rfl, hc1 fr s'' (hf.sub fun e he => List.mem_append_left _ he)⟩
            · exact .inr ⟨ha, c, rfl, hc1 fr s'' (hf.sub fun e he => List.mem_append_left _ he)⟩
          | succ i => exact hc2 fr s'' (hf.sub fun e he => List.mem_append_right _ he) i p u (by simpa using hp) (by simpa using hu)
    · cases hr

theorem takeR_sound {key : Key} {t : TypeId} (hfl : fl = true → flatTs P t = true) {x : T} {v : Value} {F : List Nat} (hx : ResT w1 I1 J1 own x v F) {f : V → Prog} (hr : runP E (takeR P own key t x f) s l K = some r) :
    ∃ y s' l' N, runP E (f y) s' l' K = some r ∧ Taken w1 s s' N F ∧ ∀ fr s'', Fits w1 I1 J1 own fl fr s'' N → VR fr s'' y v := by
  unfold takeR at hr
  split at hr
  · rename_i ts hts
    rw [run_asTup] at hr
    split at hr
    · rename_i ps
      obtain ⟨us, fs, rfl, hl, hnd, rfl, hel⟩ := hx
      obtain ⟨qs, s', l', N, h1, h2, h3, h4⟩ := takePs_sound (vs := us.toList) (fun e t' ht => by have := hfl e; unfold flatTs at this; rw [hts] at this; exact List.all_eq_true.1 this t' ht) (by simpa using hl) hnd (fun i y u hy hu => hel i y u hy (by simpa using hu)) hr
      exact ⟨_, s', l', N, h1, h2, fun fr s'' hf => ⟨us, rfl, by simpa using h3, fun i p u hp hu => h4 fr s'' hf i p u hp (by simpa using hu)⟩⟩
    · cases hr
  · rename_i hts
    have hfl' : fl = true → flatT P t = true := fun e => by
      have := hfl e
      unfold flatTs at this
      split at this
      · rename_i ts h; exact absurd h (hts ts)
      · exact this
    have hx' : ResV w1 I1 J1 own x v F := by
      cases x with
      | tup ps =>
        exfalso
        unfold takeV at hr
        cases ha : isAggT P t with
        | true => rw [ha, cond_true, run_asAgg] at hr; cases hr
        | false => rw [ha, cond_false] at hr; have := takeC_cell hr; simp [T.cell] at this
      | _ => exact hx
    obtain ⟨y, s', l', N, h1, h2, h3⟩ := takeV_sound hfl' hx' hr
    refine ⟨y, s', l', N, h1, h2, fun fr s'' hf => ?_⟩
    rcases h3 with ⟨_, cs, rfl, vs, rfl, h3⟩ | ⟨_, c, rfl, h3⟩
    · exact ⟨vs, rfl, h3 fr s'' hf⟩
    · exact h3 fr s'' hf
end
end Ev
/- Ev: calls. -/
namespace Ev
open Go

structure EntG where
  key : Key
  ob : Ob
  v : Value
  F : List Nat
def Ent.g (e : Ent) : EntG := ⟨e.key, .arr true true e.sz e.cells, e.v, e.F⟩
def findE (N : List EntG) (k : Key) : Option EntG := N.find? fun e => Nat.beq e.key k
theorem findE_none {N : List EntG} {k : Key} (h : ∀ e, e ∈ N → e.key ≠ k) : findE N k = none := by
  unfold findE
  rw [List.find?_eq_none]
  intro e he
  rw [nbeq (h e he)]
  simp
theorem findE_some {N : List EntG} (hp : N.Pairwise fun a b => a.key ≠ b.key ∧ ∀ x, x ∈ a.F → x ∉ b.F) {e : EntG} (he : e ∈ N) : findE N e.key = some e := by
  unfold findE
  induction N with
  | nil => simp at he
  | cons x N ih =>
    rw [List.pairwise_cons] at hp
    rcases List.mem_cons.1 he with rfl | he
    · simp
    · have : Nat.beq x.key e.key = false := nbeq (hp.1 e he).1
      rw [List.find?_cons, this]
      exact ih hp.2 he
theorem ents_dis {N : List EntG} (hp : N.Pairwise fun a b => a.key ≠ b.key ∧ ∀ x, x ∈ a.F → x ∉ b.F) {e e' : EntG} (he : e ∈ N) (he' : e' ∈ N) (hne : e.key ≠ e'.key) : ∀ x, x ∈ e.F → x ∉ e'.F := by
  induction N with
  | nil => simp at he
  | cons y N ih =>
    rw [List.pairwise_cons] at hp
    rcases List.mem_cons.1 he with h1 | h1
    · rcases List.mem_cons.1 he' with h2 | h2
      · exact absurd (by rw [h1, h2]) hne
      · subst h1; exact (hp.1 e' h2).2
    · rcases List.mem_cons.1 he' with h2 | h2
      · subst h2; exact fun x hx hx' => (hp.1 e h1).2 x hx' hx
      · exact ih hp.2 h1 h2

section
variable {P : Program} {A : Attrs} {E : Env} {c : Ctx} {s s1 s2 s3 : St} {a : Act} {w w1 : World} {val : Key → Value} {fp : Key → List Nat} {Ft Fr Fo : List Nat} {G : List Key}
variable {l : Log} {K : St → Log → R} {r : T × List T}

/-- What is read after a call: what was read, what was turned, what is new, but what is one's own. -/
def aftG (Q : Nat → Prop) (w w1 : World) (Ft : List Nat) (N : List EntG) (x : Nat) : Prop := (Q x ∨ x ∈ Ft ∨ w.heap.size ≤ x) ∧ x < w1.heap.size ∧ ∀ e, e ∈ N → x ∉ e.F
theorem after_call (h : Inv c s a w val fp) {N : List EntG} (htm : ∀ i, s3.getT i = s.getT i)
    (hsame : ∀ k, k ∉ G → (∀ e, e ∈ N → e.key ≠ k) → s3.getO k = s.getO k)
    (hG : ∀ k, k ∈ G → Alive (s.getO k) ∧ (s.getO k).isLent = false ∧ ((∀ e, e ∈ N → e.key ≠ k) → s3.getO k = .gone ∨ ∃ j, s3.getO k = .moved j))
    (hN : ∀ e, e ∈ N → s3.getO e.key = e.ob ∧ Alive e.ob ∧ (s.getO e.key = .free ∨ (e.key ∈ G ∧ e.v = val e.key)) ∧ ∀ x, x ∈ e.F → x ∈ Ft ∨ w.heap.size ≤ x)
    (dis : N.Pairwise fun a b => a.key ≠ b.key ∧ ∀ x, x ∈ a.F → x ∉ b.F) (hFt : ∀ x, x ∈ Ft → ∃ k, k ∈ G ∧ x ∈ fp k) (hkp : Kp (· ∈ Ft) w w1)
    (hob : ∀ fr, fr.w = w1 → (∀ x, aftG (inI c w fp) w w1 Ft N x → fr.I x) → (∀ x, aftG (inJ c w fp) w w1 Ft N x → fr.J x) → (∀ e, e ∈ N → fr.val e.key = e.v) → ∀ e, e ∈ N → ObR fr s3 e.ob e.v e.F) :
    ∃ val' fp', Inv c s3 a w1 val' fp' ∧ Kp c.own w w1 ∧ (∀ x, aftG (inI c w fp) w w1 Ft N x → inI c w1 fp' x) ∧ (∀ x, aftG (inJ c w fp) w w1 Ft N x → inJ c w1 fp' x) ∧ ∀ e, e ∈ N → val' e.key = e.v := by
  let val' : Key → Value := fun k => match findE N k with | some e => e.v | none => val k
  let fp' : Key → List Nat := fun k => match findE N k with | some e => e.F | none => if k ∈ G then [] else fp k
  have v1 : ∀ e, e ∈ N → val' e.key = e.v := fun e he => by simp only [val', findE_some dis he]
  have v2 : ∀ k, (∀ e, e ∈ N → e.key ≠ k) → val' k = val k := fun k hk => by simp only [val', findE_none hk]
  have f1 : ∀ e, e ∈ N → fp' e.key = e.F := fun e he => by simp only [fp', findE_some dis he]
  have f2 : ∀ k, (∀ e, e ∈ N → e.key ≠ k) → fp' k = if k ∈ G then [] else fp k := fun k hk => by simp only [fp', findE_none hk]
  have cases_fp : ∀ k x, x ∈ fp' k → (∃ e, e ∈ N ∧ e.key = k ∧ x ∈ e.F) ∨ (k ∉ G ∧ (∀ e, e ∈ N → e.key ≠ k) ∧ x ∈ fp k) := fun k x hx => by
    by_cases hk : ∃ e, e ∈ N ∧ e.key = k
    · obtain ⟨e, he, rfl⟩ := hk
      rw [f1 e he] at hx
      exact .inl ⟨e, he, rfl, hx⟩
    · have hk' : ∀ e, e ∈ N → e.key ≠ k := fun e he hek => hk ⟨e, he, hek⟩
      rw [f2 k hk'] at hx
      split at hx
      · simp at hx
      · exact .inr ⟨by assumption, hk', hx⟩
  have good : ∀ (Q : Nat → Prop) x, (∀ y, Q y → (∀ k, y ∉ fp k)) → aftG Q w w1 Ft N x → ∀ k, x ∉ fp' k := fun Q x hQ hx k hk => by
    obtain ⟨h1, h2, h3⟩ := hx
    rcases cases_fp k x hk with ⟨e, he, rfl, hxe⟩ | ⟨hkG, _, hxk⟩
    · exact h3 e he hxe
    · rcases h1 with h1 | h1 | h1
      · exact hQ x h1 k hxk
      · obtain ⟨k1, hk1, hb1⟩ := hFt x h1
        exact h.disj k1 k (fun e => hkG (e ▸ hk1)) x hb1 hxk
      · have := h.lt hxk; omega
  have ownx : ∀ x, x ∈ Ft ∨ w.heap.size ≤ x → c.own x := fun x hx => by
    rcases hx with hx | hx
    · obtain ⟨k1, _, hb1⟩ := hFt x hx; exact h.mine k1 x hb1
    · exact .inl (Nat.le_trans h.size hx)
  have hI : ∀ x, aftG (inI c w fp) w w1 Ft N x → inI c w1 fp' x := fun x hx => ⟨by
    rcases hx.1 with h1 | h1
    · exact h1.1
    · exact .inr (ownx x h1), hx.2.1, good _ x (fun y hy => hy.2.2) hx⟩
  have hJ : ∀ x, aftG (inJ c w fp) w w1 Ft N x → inJ c w1 fp' x := fun x hx => ⟨by
    rcases hx.1 with h1 | h1
    · exact h1.1
    · exact .inr (ownx x h1), hx.2.1, good _ x (fun y hy => hy.2.2) hx⟩
  obtain ⟨r1, r2, r3⟩ := h.changes (s' := s3) (w' := w1) (val' := val') (fp' := fp') (fun k => k ∈ G ∨ ∃ e, e ∈ N ∧ e.key = k) htm (fun k hk => by
      rw [not_or] at hk
      have hk' : ∀ e, e ∈ N → e.key ≠ k := fun e he hek => hk.2 ⟨e, he, hek⟩
      exact ⟨hsame k hk.1 hk', v2 k hk', by rw [f2 k hk', if_neg hk.1]⟩)
    (fun k hk => by
      by_cases hke : ∃ e, e ∈ N ∧ e.key = k
      · obtain ⟨e, he, rfl⟩ := hke
        obtain ⟨e1, e2, e3, _⟩ := hN e he
        rw [v1 e he, e1]
        rcases e3 with e3 | ⟨e3, e4⟩
        · rw [e3]; trivial
        · rw [e4]
          have ha := (hG _ e3).1
          unfold Alive at ha e2
          cases ho : s.getO e.key <;> cases ho' : e.ob <;> rw [ho] at ha <;> rw [ho'] at e2 <;> first | trivial | rfl | cases ha | cases e2
      · have hk' : ∀ e, e ∈ N → e.key ≠ k := fun e he hek => hke ⟨e, he, hek⟩
        rcases hk with hk | hk
        · obtain ⟨g1, _, g3⟩ := hG k hk
          unfold Alive at g1
          rcases g3 hk' with g | ⟨j, g⟩ <;> rw [g] <;> cases ho : s.getO k <;> rw [ho] at g1 <;> first | trivial | cases g1
        · exact absurd hk hke)
    (fun k hk => by
      rcases hk with hk | ⟨e, he, rfl⟩
      · exact (hG k hk).2.1
      · rcases (hN e he).2.2.1 with h1 | ⟨h1, _⟩
        · rw [h1]; rfl
        · exact (hG _ h1).2.1)
    (fun k b hk hb => by
      rcases cases_fp k b hb with ⟨e, he, rfl, hbe⟩ | ⟨h1, h2, _⟩
      · rcases (hN e he).2.2.2 b hbe with h1 | h1
        · obtain ⟨k1, hk1, hb1⟩ := hFt b h1; exact .inl ⟨k1, .inl hk1, hb1⟩
        · exact .inr h1
      · rcases hk with hk | ⟨e, he, hek⟩
        · exact absurd hk h1
        · exact absurd hek (h2 e he))
    (fun k k' hk hk' hkk b hb hb' => by
      have pick : ∀ k, (k ∈ G ∨ ∃ e, e ∈ N ∧ e.key = k) → b ∈ fp' k → ∃ e, e ∈ N ∧ e.key = k ∧ b ∈ e.F := fun k hk hb => by
        rcases cases_fp k b hb with h1 | ⟨h1, h2, _⟩
        · exact h1
        · rcases hk with hk | ⟨e, he, hek⟩
          · exact absurd hk h1
          · exact absurd hek (h2 e he)
      obtain ⟨e, he, e1, e2⟩ := pick k hk hb
      obtain ⟨e', he', e1', e2'⟩ := pick k' hk' hb'
      exact ents_dis dis he he' (by rw [e1, e1']; exact hkk) b e2 e2')
    (fun b hb hn => hkp.block b hb fun hbt => by obtain ⟨k1, hk1, hb1⟩ := hFt b hbt; exact hn k1 (.inl hk1) hb1) hkp.size hkp.os hkp.tape hkp.output
    (fun _ k hk => by
      by_cases hke : ∃ e, e ∈ N ∧ e.key = k
      · obtain ⟨e, he, rfl⟩ := hke
        rw [(hN e he).1, f1 e he, v1 e he]
        exact hob (mkFr c w1 val' fp') rfl hI hJ v1 e he
      · have hk' : ∀ e, e ∈ N → e.key ≠ k := fun e he hek => hke ⟨e, he, hek⟩
        rcases hk with hk | hk
        · have e2 : fp' k = [] := by rw [f2 k hk', if_pos hk]
          rw [e2]
          rcases (hG k hk).2.2 hk' with g | ⟨j, g⟩ <;> rw [g] <;> rfl
        · exact absurd hk hke)
  exact ⟨val', fp', r1, r3, hI, hJ, v1⟩

theorem snapArgs_sound (h : Snap c s s1 a w val fp Ft) {tr : Nat → Option T} : ∀ {i : Nat} {ts : List TypeId} {vs : List V} {us : List Value} {f : List T → Bool → Prog} {l : Log}, vs.length = us.length →
    (∀ (j : Nat) (v : V) (u : Value), vs[j]? = some v → us[j]? = some u → VR (mkFr c w val fp) s v u) → runP E (snapArgs P tr i ts vs f) s1 l K = some r →
    ∃ ys b l', runP E (f ys b) s1 l' K = some r ∧ ys.length = vs.length ∧ ∀ (j : Nat) (y : T), ys[j]? = some y → tr (i + j) = some y ∨ (tr (i + j) = none ∧ ∀ u, us[j]? = some u → ResV w (SI c w fp Ft b) (SJ c w fp Ft b) false y u [])
  | i, [], [], us, f, l, hl, hv, hr => ⟨[], false, l, hr, rfl, by simp⟩
  | i, t :: ts, v :: vs, [], f, l, hl, hv, hr => by simp at hl
  | i, t :: ts, v :: vs, u :: us, f, l, hl, hv, hr => by
    have hv' : ∀ (j : Nat) (v : V) (u : Value), vs[j]? = some v → us[j]? = some u → VR (mkFr c w val fp) s v u := fun j v' u' h1 h2 => hv (j + 1) v' u' (by simpa using h1) (by simpa using h2)
    rw [snapArgs] at hr
    split at hr
    · rename_i x hx
      obtain ⟨ys, b, l1, h1, hl1, hys⟩ := snapArgs_sound h (us := us) (by simpa using hl) hv' hr
      refine ⟨x :: ys, b, l1, h1, by simp [hl1], fun j y hy => ?_⟩
      cases j with
      | zero => simp at hy; subst hy; exact .inl hx
      | succ j =>
        have := hys j y (by simpa using hy)
        rw [show i + 1 + j = i + (j + 1) by omega] at this
        simpa using this
    · rename_i hx
      obtain ⟨y0, b0, l0, h0, hy0⟩ := snapV_sound h (hv 0 v u rfl rfl) hr
      obtain ⟨ys, b, l1, h1, hl1, hys⟩ := snapArgs_sound h (us := us) (by simpa using hl) hv' h0
      refine ⟨y0 :: ys, b0 || b, l1, h1, by simp [hl1], fun j y hy => ?_⟩
      cases j with
      | zero =>
        simp at hy; subst hy
        refine .inr ⟨hx, fun u' hu' => ?_⟩
        simp at hu'
        subst hu'
        exact hy0.or (by simp; intro h; exact .inl h)
      | succ j =>
        have := hys j y (by simpa using hy)
        rw [show i + 1 + j = i + (j + 1) by omega] at this
        rcases this with h2 | ⟨h2, h3⟩
        · exact .inl h2
        · exact .inr ⟨h2, fun u' hu' => (h3 u' (by simpa using hu')).or (by simp; intro h; exact .inr h)⟩
  | i, [], _ :: _, _, _, _, _, _, hr => by cases hr
  | i, _ :: _, [], _, _, _, _, _, hr => by cases hr

theorem Does.mono {g : FuncId} {vs : Array Value} {R R' : Value → World → Prop} (h : Does P g vs w R) (hR : ∀ v w, R v w → R' v w) : Does P g vs w R' := by
  unfold Does at *
  split
  · rename_i heq; rw [heq] at h; exact hR _ _ h
  · rename_i heq; rw [heq] at h
    exact Calls.mono h fun e w' ⟨v, he, hr⟩ => ⟨v, he, hR _ _ hr⟩
  · rename_i h1 h2
    split at h
    · rename_i heq; exact (h1 _ _ heq).elim
    · rename_i heq; exact (h2 _ _ _ heq).elim
    · exact h.elim

theorem RB.resV {I J : Nat → Prop} {y : T} {u : Value} (h : RB w I J y u) : ResV w I J false y u [] := RB.notAgg h

end
end Ev
