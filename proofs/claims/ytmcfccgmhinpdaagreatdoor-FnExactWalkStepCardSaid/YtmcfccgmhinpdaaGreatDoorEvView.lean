/- Calls that may hand back what they were shown. -/
import Derived.Test.YtmcfccgmhinpdaaGreatDoorEvTurn
namespace Ev
open Go
section
variable {P : Program} {A : Attrs} {E : Env} {c : Ctx} {s : St} {a : Act} {w w1 : World} {val : Key → Value} {fp : Key → List Nat}
variable {l : Log} {K : St → Log → R} {r : T × List T}

/-- What such a callee may read. -/
def VI (c : Ctx) (w : World) (val : Key → Value) (fp : Key → List Nat) (s : St) (b : Bool) (x : Nat) : Prop := inI c w fp x ∨ (b = true ∧ Lent (mkFr c w val fp) s x)
def VJ (c : Ctx) (w : World) (fp : Key → List Nat) (x : Nat) : Prop := inJ c w fp x ∨ ∃ k, x ∈ fp k
abbrev VB (c : Ctx) (w : World) (val : Key → Value) (fp : Key → List Nat) (s : St) (b : Bool) (x : T) (v : Value) : Prop := RB w (VI c w val fp s b) (VJ c w fp) x v
theorem VB.or {b b' : Bool} {x : T} {v : Value} (h : VB c w val fp s b x v) (hb : b = true → b' = true) : VB c w val fp s b' x v :=
  RB.move h (fun x hx => ⟨hx.imp id fun h => ⟨hb h.1, h.2⟩, rfl⟩) (fun x hx => ⟨hx, rfl⟩)
theorem VB.of {b : Bool} {x : T} {v : Value} (h : RB w (inI c w fp) (inJ c w fp) x v) : VB c w val fp s b x v :=
  RB.move h (fun x hx => ⟨.inl hx, rfl⟩) (fun x hx => ⟨.inl hx, rfl⟩)
theorem obj_live {f : Fr} {k : Key} {v : Value} (h : CR f s (.obj k) v) {o : Ob} (ho : s.getO k = o) (hl : o.ref (v = f.val k) = (v = f.val k)) : v = f.val k := by
  have h1 := h.1
  rw [ho, hl] at h1
  exact h1
theorem viewC_sound (h : Inv c s a w val fp) {t : TypeId} {x : C} {v : Value} (hx : CR (mkFr c w val fp) s x v) {f : T → Bool → Prog} (hr : runP E (viewC P t x f) s l K = some r) :
    ∃ y b l', runP E (f y b) s l' K = some r ∧ VB c w val fp s b y v := by
  unfold viewC at hr
  split at hr
  · rename_i y; exact ⟨y, false, l, hr, VB.of hx⟩
  · have hv : v = .slice none 0 0 := hx
    subst hv
    split at hr
    · rename_i e he
      rw [run_iteF] at hr
      replace hr := ev_true hr
      obtain ⟨hs, hr⟩ := hr
      exact ⟨_, false, l, hr, RB.sl (fun _ => undef) (blt_pos hs) (by simp) (Nat.le_refl _) (fun h => absurd rfl h) (by simp)⟩
    · cases hr
  · rename_i k
    rw [run_getO] at hr
    split at hr
    · rename_i deep sz cs hk
      have hv := obj_alive hx hk
      have hob := h.obs k
      rw [hk] at hob
      exact ⟨_, false, _, hr, by rw [hv]; exact VB.of hob.1⟩
    · rename_i deep sz cs hk
      have hv : v = val k := obj_live hx hk rfl
      have hob := h.obs k
      rw [hk] at hob
      have hob : ObR (mkFr c w val fp) s (.arr true deep sz cs) (val k) (fp k) := by cases deep <;> exact hob
      obtain ⟨xs, Fg, fs, ho, hF⟩ := own_iff.1 hob
      refine ⟨_, true, _, hr, ?_⟩
      rw [hv]
      exact ho.rb (fun b hb => .inr ⟨rfl, k, by rw [hk]; rfl, by show b ∈ fp k; rw [hF]; exact hb⟩) (fun b hb => .inl hb) (fun b hb => .inl hb)
    · cases hr
  · rename_i y
    have hx : RB w (fun b => inI c w fp b ∨ Lent (mkFr c w val fp) s b) (fun b => inJ c w fp b ∨ Lent (mkFr c w val fp) s b) y v := hx
    refine ⟨y, true, l, hr, RB.move hx (fun b hb => ⟨hb.imp id fun h => ⟨rfl, h⟩, rfl⟩) (fun b hb => ⟨hb.imp id ?_, rfl⟩)⟩
    rintro ⟨k, _, hb⟩
    exact ⟨k, hb⟩
  · cases hr
theorem viewCs_sound (h : Inv c s a w val fp) : ∀ {ts : List TypeId} {cs : List C} {vs : List Value} {f : List T → Bool → Prog} {l : Log}, CRs (mkFr c w val fp) s cs vs → runP E (viewCs P ts cs f) s l K = some r →
    ∃ ys b l', runP E (f ys b) s l' K = some r ∧ ys.length = vs.length ∧ ∀ (i : Nat) (y : T) (v : Value), ys[i]? = some y → vs[i]? = some v → VB c w val fp s b y v
  | [], [], vs, f, l, hx, hr => by
    have : vs = [] := List.eq_nil_of_length_eq_zero (by simpa using hx.1.symm)
    subst this
    exact ⟨[], false, l, hr, rfl, by simp⟩
  | t :: ts, x :: cs, [], f, l, hx, hr => by have := hx.1; simp at this
  | t :: ts, x :: cs, v :: vs, f, l, hx, hr => by
    rw [viewCs] at hr
    obtain ⟨y, b, l1, h1, hy⟩ := viewC_sound h (hx.2 0 x v rfl rfl) hr
    obtain ⟨ys, b', l2, h2, hl, hys⟩ := viewCs_sound h (vs := vs) ⟨by simpa using hx.1, fun i c v hc hv => hx.2 (i + 1) c v (by simpa using hc) (by simpa using hv)⟩ h1
    refine ⟨y :: ys, b || b', l2, h2, by simp [hl], fun i z u hz hu => ?_⟩
    cases i with
    | zero => simp at hz hu; subst hz; subst hu; exact hy.or (by simp; intro h; exact .inl h)
    | succ i => exact (hys i z u (by simpa using hz) (by simpa using hu)).or (by simp; intro h; exact .inr h)
  | [], _ :: _, _, _, _, _, hr => by cases hr
  | _ :: _, [], _, _, _, _, hr => by cases hr
theorem rref_cut {I J : Nat → Prop} {cells : List T} {q n : Nat} {v : Value} (h : RB w I J (.rref cells q) v) : RB w I J (.rref ((cells.drop q).take n) 0) v := by
  generalize hx : T.rref cells q = x at h
  cases h with
  | rref vs hJ hcell hc =>
    rename_i cells' q' b o
    injection hx with e1 e2
    subst e1
    subst e2
    refine RB.rref (q := 0) (o := o + q) (fun i => vs (q + i)) (fun hne => hJ (fun e => hne (by rw [e]; simp))) (fun i hi => ?_) (fun i y hy => ?_)
    · simp at hi
      rw [Nat.add_assoc]
      exact hcell _ (by omega)
    · rw [List.getElem?_take] at hy
      split at hy
      · rw [List.getElem?_drop] at hy; exact hc _ _ hy
      · cases hy
  | _ => cases hx
theorem viewV_sound (h : Inv c s a w val fp) {t : TypeId} {x : V} {v : Value} (hx : VR (mkFr c w val fp) s x v) {f : T → Bool → Prog} (hr : runP E (viewV P t x f) s l K = some r) :
    ∃ y b l', runP E (f y b) s l' K = some r ∧ ResV w (VI c w val fp s b) (VJ c w fp) false y v [] := by
  unfold viewV at hr
  split at hr
  · rename_i k q
    rw [run_getO] at hr
    split at hr
    · rename_i cells hk
      have hob := h.obs k
      rw [hk] at hob
      obtain ⟨b, cur, e, hu, hF, hh, hcs⟩ := hob
      have hp : ptrTo (val k) q v := ptr_alive hx hk (.inl ⟨_, rfl⟩)
      rw [hu] at hp
      have hv : v = .pointer (some ⟨b, 0 + q, none⟩) := hp
      rw [Nat.zero_add] at hv
      obtain ⟨ys, b', l1, h1, hl, hys⟩ := viewCs_sound h (hcs.cut q (sizeT P (elemT P t))) hr
      refine ⟨_, b', l1, h1, ?_⟩
      rw [hv]
      have hget : ∀ i, i < ys.length → ((cur.toList.drop q).take (sizeT P (elemT P t)))[i]? = some (cur.getD (q + i) undef) := fun i hi => by
        rw [hl] at hi
        have h4 := hi
        rw [List.length_take, List.length_drop, Array.length_toList] at h4
        rw [List.getElem?_take, if_pos (by omega), List.getElem?_drop, Array.getElem?_toList]
        have : q + i < cur.size := by omega
        simp [this]
      refine RB.notAgg (RB.rref (q := 0) (fun i => cur.getD (q + i) undef) (fun _ => .inr ⟨k, by rw [hF]; simp⟩) (fun i hi => ?_) (fun i y hy => hys i y _ hy (hget i (List.getElem?_eq_some_iff.1 hy).1)))
      rw [cell_of_cells (w := w) hh]
      have h4 := hi
      rw [hl, List.length_take, List.length_drop, Array.length_toList] at h4
      have : q + i < cur.size := by omega
      simp [this]
    · cases hr
  · rename_i cells q
    refine ⟨_, false, l, hr, ?_⟩
    have hx : RB w (inI c w fp) (inJ c w fp) (.rref cells q) v := hx
    exact RB.notAgg (VB.of (rref_cut hx))
  · rename_i x _ _
    obtain ⟨y, b, l1, h1, hy⟩ := viewC_sound h hx hr
    exact ⟨y, b, l1, h1, RB.notAgg hy⟩
  · obtain ⟨vs, rfl, hcs⟩ := hx
    obtain ⟨ys, b, l1, h1, hl, hys⟩ := viewCs_sound h hcs hr
    refine ⟨_, b, l1, h1, vs, fun _ => [], rfl, by simpa using hl, ND.nil _, by simp [flat], fun i y u hy hu => ⟨hys i y u hy (by simpa using hu), rfl⟩⟩
  · cases hr
theorem ResV.vor {b b' : Bool} {x : T} {v : Value} (h : ResV w (VI c w val fp s b) (VJ c w fp) false x v []) (hb : b = true → b' = true) : ResV w (VI c w val fp s b') (VJ c w fp) false x v [] := by
  unfold ResV at *
  cases x with
  | agg xs =>
    obtain ⟨vs, fs, h1, h2, h3, h4, h5⟩ := h
    exact ⟨vs, fs, h1, h2, h3, h4, fun i y u hy hu => ⟨VB.or (h5 i y u hy hu).1 hb, (h5 i y u hy hu).2⟩⟩
  | tup _ => exact h
  | int _ _ => exact ⟨VB.or h.1 hb, rfl⟩
  | bool _ => exact ⟨VB.or h.1 hb, rfl⟩
  | str _ => exact ⟨VB.or h.1 hb, rfl⟩
  | sl _ _ => exact ⟨VB.or h.1 hb, rfl⟩
  | rref _ _ => exact ⟨VB.or h.1 hb, rfl⟩
  | clo _ _ => exact ⟨VB.or h.1 hb, rfl⟩
  | hole => exact ⟨VB.or h.1 hb, rfl⟩
  | mp _ => exact ⟨VB.or h.1 hb, rfl⟩
theorem viewArgs_sound (h : Inv c s a w val fp) : ∀ {ts : List TypeId} {vs : List V} {us : List Value} {f : List T → Bool → Prog} {l : Log}, vs.length = us.length →
    (∀ (j : Nat) (v : V) (u : Value), vs[j]? = some v → us[j]? = some u → VR (mkFr c w val fp) s v u) → runP E (viewArgs P ts vs f) s l K = some r →
    ∃ ys b l', runP E (f ys b) s l' K = some r ∧ ys.length = vs.length ∧ ∀ (j : Nat) (y : T) (u : Value), ys[j]? = some y → us[j]? = some u → ResV w (VI c w val fp s b) (VJ c w fp) false y u []
  | [], [], us, f, l, hl, hv, hr => ⟨[], false, l, hr, rfl, by simp⟩
  | t :: ts, v :: vs, [], f, l, hl, hv, hr => by simp at hl
  | t :: ts, v :: vs, u :: us, f, l, hl, hv, hr => by
    have hv' : ∀ (j : Nat) (v : V) (u : Value), vs[j]? = some v → us[j]? = some u → VR (mkFr c w val fp) s v u := fun j v' u' h1 h2 => hv (j + 1) v' u' (by simpa using h1) (by simpa using h2)
    rw [viewArgs] at hr
    obtain ⟨y0, b0, l0, h0, hy0⟩ := viewV_sound h (hv 0 v u rfl rfl) hr
    obtain ⟨ys, b, l1, h1, hl1, hys⟩ := viewArgs_sound h (us := us) (by simpa using hl) hv' h0
    refine ⟨y0 :: ys, b0 || b, l1, h1, by simp [hl1], fun j y u' hy hu => ?_⟩
    cases j with
    | zero => simp at hy hu; subst hy; subst hu; exact hy0.vor (by simp; intro h; exact .inl h)
    | succ j => exact (hys j y u' (by simpa using hy) (by simpa using hu)).vor (by simp; intro h; exact .inr h)
  | [], _ :: _, _, _, _, _, _, hr => by cases hr
  | _ :: _, [], _, _, _, _, _, hr => by cases hr
/-! ## what comes back -/
theorem seenC_cell {b : Bool} {t : TypeId} {x : T} {f : C → Prog} (hr : runP E (seenC P b t x f) s l K = some r) : x.cell = true := by
  unfold seenC at hr
  split at hr
  · rw [run_asSl] at hr
    split at hr
    · rfl
    · cases hr
  · obtain ⟨_, _, _, h⟩ := asTy_sound hr; exact h
theorem scalars_rb {I J I' J' : Nat → Prop} {sz : Nat} {cs : List T} {v : Value} (h : RB w I J (.sl sz cs) v) (hs : cs.all T.scalar = true) (hI : ∀ b, I b → I' b) : RB w I' J' (.sl sz cs) v := by
  cases h with
  | sl vs hsz hlen hcap ha hc =>
    refine .sl vs hsz hlen hcap (fun hne => ?_) fun i x hx => scalar_rb (hc i x hx) (List.all_eq_true.1 hs x (List.mem_of_getElem? hx))
    obtain ⟨b, o, e, hb, hcell⟩ := ha hne
    exact ⟨b, o, e, hI b hb, hcell⟩
/-- The frame behind the call. -/
structure Behind (w1 : World) (I1 : Nat → Prop) (b : Bool) (fr : Fr) (s : St) : Prop where
  w : fr.w = w1
  plain : b = false → ∀ x, I1 x → fr.I x
  lent : ∀ x, I1 x → fr.I x ∨ Lent fr s x
variable {I1 J1 : Nat → Prop} {b : Bool}
theorem seenC_sound {t : TypeId} {x : T} {v : Value} (hx : x.cell = true → RB w1 I1 J1 x v) {f : C → Prog} (hr : runP E (seenC P b t x f) s l K = some r) :
    ∃ y l', runP E (f y) s l' K = some r ∧ ∀ fr, Behind w1 I1 b fr s → CR fr s y v := by
  unfold seenC at hr
  split at hr
  · rename_i e he
    rw [run_asSl] at hr
    split at hr
    · rename_i sz cs
      replace hr := ev_true hr
      obtain ⟨hsz, hr⟩ := hr
      rw [run_iteF] at hr
      replace hr := ev_true hr
      obtain ⟨hs, hr⟩ := hr
      have hsz : sz = sizeT P e := Nat.eq_of_beq_eq_true hsz
      subst hsz
      refine ⟨_, _, hr, fun fr hf => ?_⟩
      have hx := hx rfl
      cases hb : b with
      | true =>
        show RB fr.w _ _ _ v
        rw [hf.w]
        exact scalars_rb hx hs hf.lent
      | false =>
        show RB fr.w _ _ _ v
        rw [hf.w]
        exact scalars_rb hx hs (hf.plain hb)
    · cases hr
  · obtain ⟨l1, h1, _, hc⟩ := asTy_sound hr
    rw [run_iteF] at h1
    replace h1 := ev_true h1
    obtain ⟨hs, h1⟩ := h1
    refine ⟨_, _, h1, fun fr hf => ?_⟩
    show RB fr.w _ _ x v
    rw [hf.w]
    exact scalar_rb (hx hc) hs
theorem seenCs_sound : ∀ {ts : List TypeId} {xs : List T} {vs : List Value} {l : Log} {f : List C → Prog}, xs.length = vs.length → (∀ (i : Nat) (y : T) (u : Value), xs[i]? = some y → vs[i]? = some u → RB w1 I1 J1 y u) →
    runP E (seenCs P b ts xs f) s l K = some r → ∃ ys l', runP E (f ys) s l' K = some r ∧ ∀ fr, Behind w1 I1 b fr s → CRs fr s ys vs
  | [], xs, vs, l, f, hl, hx, hr => by
    rw [seenCs, run_unnil] at hr
    split at hr
    · have : vs = [] := List.eq_nil_of_length_eq_zero (by simpa using hl.symm)
      subst this
      exact ⟨[], l, hr, fun _ _ => ⟨rfl, by simp⟩⟩
    · cases hr
  | t :: ts, xs, vs, l, f, hl, hx, hr => by
    rw [seenCs, run_uncons] at hr
    split at hr
    · rename_i x xs
      cases vs with
      | nil => simp at hl
      | cons v vs =>
        obtain ⟨y, l1, h1, hc1⟩ := seenC_sound (fun _ => hx 0 x v rfl rfl) hr
        obtain ⟨ys, l2, h2, hc2⟩ := seenCs_sound (xs := xs) (vs := vs) (by simpa using hl) (fun i y u hy hu => hx (i + 1) y u (by simpa using hy) (by simpa using hu)) h1
        refine ⟨_ :: ys, l2, h2, fun fr hf => ⟨by have := (hc2 fr hf).1; simp [this], fun i c u hc hu => ?_⟩⟩
        cases i with
        | zero => simp at hc hu; subst hc; subst hu; exact hc1 fr hf
        | succ i => exact (hc2 fr hf).2 i c u (by simpa using hc) (by simpa using hu)
    · cases hr
theorem seenV_sound {t : TypeId} {x : T} {v : Value} {F : List Nat} (hx : ResV w1 I1 J1 false x v F) {f : V → Prog} (hr : runP E (seenV P b t x f) s l K = some r) :
    ∃ y l', runP E (f y) s l' K = some r ∧ ((isAggT P t = true ∧ ∃ cs, y = .agg cs ∧ ∃ vs : Array Value, v = .agg vs ∧ ∀ fr, Behind w1 I1 b fr s → CRs fr s cs vs.toList) ∨
      (isAggT P t = false ∧ ∃ c, y = .one c ∧ ∀ fr, Behind w1 I1 b fr s → CR fr s c v)) := by
  unfold seenV at hr
  cases ha : isAggT P t with
  | true =>
    rw [ha, cond_true, run_asAgg] at hr
    split at hr
    · rename_i xs
      obtain ⟨vs, fs, rfl, hl, hnd, rfl, hel⟩ := hx
      obtain ⟨cs, l', h1, h2⟩ := seenCs_sound (vs := vs.toList) (by simpa using hl) (fun i y u hy hu => (hel i y u hy (by simpa using hu)).1) hr
      exact ⟨_, l', h1, .inl ⟨rfl, cs, rfl, vs, rfl, h2⟩⟩
    · cases hr
  | false =>
    rw [ha, cond_false] at hr
    obtain ⟨c, l', h1, h2⟩ := seenC_sound (fun hc => (hx.cell hc).1) hr
    exact ⟨_, l', h1, .inr ⟨rfl, c, rfl, h2⟩⟩
theorem seenPs_sound : ∀ {ts : List TypeId} {xs : List T} {vs : List Value} {fs : Nat → List Nat} {l : Log} {f : List (Bool × List C) → Prog}, xs.length = vs.length →
    (∀ (i : Nat) (y : T) (u : Value), xs[i]? = some y → vs[i]? = some u → ResV w1 I1 J1 false y u (fs i)) → runP E (seenPs P b ts xs f) s l K = some r →
    ∃ ps l', runP E (f ps) s l' K = some r ∧ ps.length = vs.length ∧ ∀ fr, Behind w1 I1 b fr s →
      ∀ (i : Nat) (p : Bool × List C) (u : Value), ps[i]? = some p → vs[i]? = some u → (p.1 = true ∧ (∃ vs : Array Value, u = .agg vs ∧ CRs fr s p.2 vs.toList)) ∨ (p.1 = false ∧ ∃ c, p.2 = [c] ∧ CR fr s c u)
  | [], xs, vs, fs, l, f, hl, hx, hr => by
    rw [seenPs, run_unnil] at hr
    split at hr
    · have : vs = [] := List.eq_nil_of_length_eq_zero (by simpa using hl.symm)
      subst this
      exact ⟨[], l, hr, rfl, fun _ _ => by simp⟩
    · cases hr
  | t :: ts, xs, vs, fs, l, f, hl, hx, hr => by
    rw [seenPs, run_uncons] at hr
    split at hr
    · rename_i x xs
      cases vs with
      | nil => simp at hl
      | cons v vs =>
        obtain ⟨y, l1, h1, hc1⟩ := seenV_sound (hx 0 x v rfl rfl) hr
        obtain ⟨ps, l2, h2, hpl, hc2⟩ := seenPs_sound (xs := xs) (vs := vs) (fs := fun i => fs (i + 1)) (by simpa using hl) (fun i y u hy hu => hx (i + 1) y u (by simpa using hy) (by simpa using hu)) h1
        refine ⟨_ :: ps, l2, h2, by simp [hpl], fun fr hf i p u hp hu => ?_⟩
        cases i with
        | zero =>
          simp at hp hu
          subst hp; subst hu
          rcases hc1 with ⟨ha, cs, rfl, us, rfl, hc1⟩ | ⟨ha, c, rfl, hc1⟩
          · exact .inl ⟨ha, us, rfl, hc1 fr hf⟩
          · exact .inr ⟨ha, c, rfl, hc1 fr hf⟩
        | succ i => exact hc2 fr hf i p u (by simpa using hp) (by simpa using hu)
    · cases hr
theorem seenR_sound {t : TypeId} {x : T} {v : Value} {F : List Nat} (hx : ResT w1 I1 J1 false x v F) {f : V → Prog} (hr : runP E (seenR P b t x f) s l K = some r) :
    ∃ y l', runP E (f y) s l' K = some r ∧ ∀ fr, Behind w1 I1 b fr s → VR fr s y v := by
  unfold seenR at hr
  split at hr
  · rename_i ts hts
    rw [run_asTup] at hr
    split at hr
    · rename_i ps
      obtain ⟨us, fs, rfl, hl, hnd, rfl, hel⟩ := hx
      obtain ⟨qs, l', h1, h3, h4⟩ := seenPs_sound (vs := us.toList) (by simpa using hl) (fun i y u hy hu => hel i y u hy (by simpa using hu)) hr
      exact ⟨_, l', h1, fun fr hf => ⟨us, rfl, by simpa using h3, fun i p u hp hu => h4 fr hf i p u hp (by simpa using hu)⟩⟩
    · cases hr
  · have hx' : ResV w1 I1 J1 false x v F := by
      cases x with
      | tup ps =>
        exfalso
        unfold seenV at hr
        cases ha : isAggT P t with
        | true => rw [ha, cond_true, run_asAgg] at hr; cases hr
        | false => rw [ha, cond_false] at hr; have := seenC_cell hr; simp [T.cell] at this
      | _ => exact hx
    obtain ⟨y, l1, h1, h2⟩ := seenV_sound hx' hr
    refine ⟨y, l1, h1, fun fr hf => ?_⟩
    rcases h2 with ⟨_, cs, rfl, vs, rfl, h2⟩ | ⟨_, c, rfl, h2⟩
    · exact ⟨vs, rfl, h2 fr hf⟩
    · exact h2 fr hf
theorem callV_sound (h : Inv c s a w val fp) (hE : ∀ g args r, E g args = some r → Meets P (A g) g args r) {o : Oper} {d : Nat} (hd' : o.dst = some d) (hd : d < a.tmps.size) {g : FuncId} {tys : List TypeId}
    {vs : List V} {us : Array Value} (hl : vs.length = us.size) (hvs : ∀ (i : Nat) (v : V) (u : Value), vs[i]? = some v → us[i]? = some u → VR (mkFr c w val fp) s v u)
    (hr : runP E (callV P A o g tys vs) s l K = some r) : Does P g us w fun v w' => Post c w K r (a.put o.dst v) w' := by
  unfold callV at hr
  rw [hd'] at hr
  simp only at hr
  rw [run_iteF] at hr
  replace hr := ev_true hr
  obtain ⟨hat, hr⟩ := hr
  rw [Bool.and_eq_true, Option.isNone_iff_eq_none] at hat
  obtain ⟨hturn, hown⟩ := hat
  have hown : (A g).own = false := by simpa using hown
  obtain ⟨xs, b, l1, h1, hxl, hxs⟩ := viewArgs_sound h (us := us.toList) (by simpa using hl) (fun j v u h1 h2 => hvs j v u h1 (by simpa using h2)) hr
  rw [run_call, Option.bind_eq_some_iff] at h1
  obtain ⟨⟨x, outs⟩, hcall, h1⟩ := h1
  have hmeets := hE _ _ _ hcall
  have hlentlt : ∀ x, Lent (mkFr c w val fp) s x → x < w.heap.size := by rintro x ⟨k, _, hx⟩; exact h.lt hx
  have hpre : Pre (A g) xs w (VI c w val fp s b) (VJ c w fp) us [] := by
    refine ⟨fun x hx => ?_, by rw [hxl, hl], fun i y u _ hy hu => hxs i y u hy (by simpa using hu), fun i hi => (by rw [hturn] at hi; cases hi), fun _ => rfl, by simp, fun x hx => ?_⟩
    · rcases hx with hx | ⟨_, k, _, hx⟩
      · exact .inl ⟨hx.1.imp (h.ij x) id, hx.2⟩
      · exact .inr ⟨k, hx⟩
    · rcases hx with hx | ⟨k, hx⟩
      · exact hx.2.1
      · exact h.lt hx
  refine (hmeets w _ _ _ _ hpre).mono fun v w1 ⟨Fr, Fo, hdone⟩ => ?_
  have hout : outs = [] ∧ Fo = [] := by
    rcases hdone.out with ⟨_, ho1, ho2⟩ | ⟨i, y, u, hi, _⟩ | ⟨_, ho1, ho2⟩
    · exact ⟨ho1, ho2⟩
    · rw [hturn] at hi; cases hi
    · exact ⟨ho1, ho2⟩
  obtain ⟨ho1, ho2⟩ := hout
  subst ho1
  rw [run_unnil] at h1
  simp only at h1
  have hres := hdone.res
  rw [hown] at hres
  obtain ⟨y, l2, h2, hv⟩ := seenR_sound hres h1
  rw [run_setT, run_done] at h2
  have hkp := hdone.kp
  obtain ⟨q1, q2, q3⟩ := h.changes (s' := s) (w' := w1) (val' := val) (fp' := fp) (fun _ => False) (fun _ => rfl) (fun _ _ => ⟨rfl, rfl, rfl⟩) (fun _ h => h.elim) (fun _ h => h.elim) (fun _ _ h => h.elim) (fun _ _ h => h.elim)
    (fun b hb _ => hkp.block b hb (by simp)) hkp.size hkp.os hkp.tape hkp.output (fun _ _ h => h.elim)
  rw [hd']
  refine ⟨_, _, val, fp, h2, q1.setT hd (hv _ ⟨rfl, fun hb x hx => ?_, fun x hx => ?_⟩), rfl, q3⟩
  · obtain ⟨hx, hlt, _, _⟩ := hx
    rcases hx with hx | hx | hx
    · rcases hx with hx | ⟨hb', _⟩
      · exact (q2.hI x hx).1
      · rw [hb] at hb'; cases hb'
    · simp at hx
    · exact ⟨.inr (.inl (Nat.le_trans h.size hx)), hlt, fun k hk => absurd (h.lt hk) (by omega)⟩
  · obtain ⟨hx, hlt, _, _⟩ := hx
    rcases hx with hx | hx | hx
    · rcases hx with hx | ⟨_, hx⟩
      · exact .inl (q2.hI x hx).1
      · exact .inr hx
    · simp at hx
    · exact .inl ⟨.inr (.inl (Nat.le_trans h.size hx)), hlt, fun k hk => absurd (h.lt hk) (by omega)⟩
end
end Ev
