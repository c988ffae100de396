/- Ev: what is handed over to be read. -/
import Derived.Test.YtfolgfbhllmdiaaGreatDoorEvOpsG
namespace Ev
open Go

/-! ## arguments and results as trees -/
def ResV (w : World) (I J : Nat → Prop) (own : Bool) (x : T) (v : Value) (F : List Nat) : Prop :=
  match x with
  | .agg xs => ∃ vs : Array Value, ∃ fs, v = .agg vs ∧ xs.length = vs.size ∧ ND xs.length fs ∧ F = flat xs.length fs ∧ ∀ (i : Nat) (y : T) (u : Value), xs[i]? = some y → vs[i]? = some u → El w I J own y u (fs i)
  | .tup _ => False
  | x => El w I J own x v F
def ResT (w : World) (I J : Nat → Prop) (own : Bool) (x : T) (v : Value) (F : List Nat) : Prop :=
  match x with
  | .tup ps => ∃ us : Array Value, ∃ fs, v = .tuple us ∧ ps.length = us.size ∧ ND ps.length fs ∧ F = flat ps.length fs ∧ ∀ (i : Nat) (y : T) (u : Value), ps[i]? = some y → us[i]? = some u → ResV w I J own y u (fs i)
  | x => ResV w I J own x v F

section
variable {P : Program} {E : Env} {c : Ctx} {s s1 : St} {a : Act} {w : World} {val : Key → Value} {fp : Key → List Nat} {Ft : List Nat}
variable {l : Log} {K : St → Log → R} {r : T × List T}

/-- What a callee may read: all that is borrowed; with 'b' what is own, too, but what is turned. -/
def SI (c : Ctx) (w : World) (fp : Key → List Nat) (Ft : List Nat) (b : Bool) (x : Nat) : Prop := (c.I x ∨ c.own x) ∧ x < w.heap.size ∧ x ∉ Ft ∧ (b = false → ∀ k, x ∉ fp k)
def SJ (c : Ctx) (w : World) (fp : Key → List Nat) (Ft : List Nat) (b : Bool) (x : Nat) : Prop := (c.J x ∨ c.own x) ∧ x < w.heap.size ∧ x ∉ Ft ∧ (b = false → ∀ k, x ∉ fp k)
def Alive (o : Ob) : Prop := (∃ cs, o = .box cs) ∨ ∃ x y z cs, o = .arr x y z cs
structure Snap (c : Ctx) (s s1 : St) (a : Act) (w : World) (val : Key → Value) (fp : Key → List Nat) (Ft : List Nat) : Prop where
  inv : Inv c s a w val fp
  obs : ∀ k, Alive (s1.getO k) → s.getO k = s1.getO k ∧ ∀ x, x ∈ fp k → x ∉ Ft
  ft : ∀ x, x ∈ Ft → ∃ k, x ∈ fp k
abbrev SR (c : Ctx) (w : World) (fp : Key → List Nat) (Ft : List Nat) (b : Bool) (x : T) (v : Value) : Prop := RB w (SI c w fp Ft b) (SJ c w fp Ft b) x v

theorem SR.or {b b' : Bool} {x : T} {v : Value} (h : SR c w fp Ft b x v) (hb : b = true → b' = true) : SR c w fp Ft b' x v := by
  have hb' : b' = false → b = false := fun e => by cases b <;> simp_all
  exact RB.move h (fun x hx => ⟨⟨hx.1, hx.2.1, hx.2.2.1, fun e => hx.2.2.2 (hb' e)⟩, rfl⟩) (fun x hx => ⟨⟨hx.1, hx.2.1, hx.2.2.1, fun e => hx.2.2.2 (hb' e)⟩, rfl⟩)
theorem Snap.rb (h : Snap c s s1 a w val fp Ft) (b : Bool) {x : T} {v : Value} (hx : RB w (inI c w fp) (inJ c w fp) x v) : SR c w fp Ft b x v :=
  RB.move hx (fun x hx => ⟨⟨hx.1, hx.2.1, fun e => by obtain ⟨k, hk⟩ := h.ft x e; exact hx.2.2 k hk, fun _ => hx.2.2⟩, rfl⟩)
    (fun x hx => ⟨⟨hx.1, hx.2.1, fun e => by obtain ⟨k, hk⟩ := h.ft x e; exact hx.2.2 k hk, fun _ => hx.2.2⟩, rfl⟩)
theorem Snap.ownI (h : Snap c s s1 a w val fp Ft) {k : Key} (hk : Alive (s1.getO k)) {x : Nat} (hx : x ∈ fp k) : SI c w fp Ft true x :=
  ⟨.inr (h.inv.mine k x hx), h.inv.lt hx, (h.obs k hk).2 x hx, fun e => by cases e⟩
theorem Snap.ownJ (h : Snap c s s1 a w val fp Ft) {k : Key} (hk : Alive (s1.getO k)) {x : Nat} (hx : x ∈ fp k) : SJ c w fp Ft true x :=
  ⟨.inr (h.inv.mine k x hx), h.inv.lt hx, (h.obs k hk).2 x hx, fun e => by cases e⟩
theorem Snap.I_le (h : Snap c s s1 a w val fp Ft) (b : Bool) {x : Nat} (hx : inI c w fp x) : SI c w fp Ft b x :=
  ⟨hx.1, hx.2.1, fun e => by obtain ⟨k, hk⟩ := h.ft x e; exact hx.2.2 k hk, fun _ => hx.2.2⟩
theorem Snap.J_le (h : Snap c s s1 a w val fp Ft) (b : Bool) {x : Nat} (hx : inJ c w fp x) : SJ c w fp Ft b x :=
  ⟨hx.1, hx.2.1, fun e => by obtain ⟨k, hk⟩ := h.ft x e; exact hx.2.2 k hk, fun _ => hx.2.2⟩

/-- A slice object as it stands. -/
theorem Snap.arr (h : Snap c s s1 a w val fp Ft) {k : Key} {own deep : Bool} {sz : Nat} {cs : List T} (hk : s1.getO k = .arr own deep sz cs) : SR c w fp Ft own (.sl sz cs) (val k) := by
  have hal : Alive (s1.getO k) := .inr ⟨_, _, _, _, hk⟩
  have h0 := (h.obs k hal).1
  rw [hk] at h0
  have hob := h.inv.obs k
  rw [h0] at hob
  cases own with
  | false => exact h.rb false hob.1
  | true =>
    obtain ⟨xs, Fg, fs, ho, hF⟩ := own_iff.1 hob
    exact ho.rb (fun b hb => h.ownI hal (by rw [hF]; exact hb)) (fun b hb => h.I_le true hb) (fun b hb => h.J_le true hb)
theorem Snap.objv (h : Snap c s s1 a w val fp Ft) {k : Key} {own deep : Bool} {sz : Nat} {cs : List T} (hk : s1.getO k = .arr own deep sz cs) {v : Value} (hx : CR (mkFr c w val fp) s (.obj k) v) : v = val k := by
  have h0 := (h.obs k (.inr ⟨_, _, _, _, hk⟩)).1
  rw [hk] at h0
  exact obj_alive hx h0

theorem snapC0_sound (h : Snap c s s1 a w val fp Ft) {t : TypeId} {x : C} {v : Value} (hx : CR (mkFr c w val fp) s x v) {f : T → Bool → Prog} (hr : runP E (snapC0 P t x f) s1 l K = some r) :
    ∃ y b l', runP E (f y b) s1 l' K = some r ∧ SR c w fp Ft b y v := by
  unfold snapC0 at hr
  split at hr
  · rename_i y; exact ⟨y, false, l, hr, h.rb false hx⟩
  · have hv : v = .slice none 0 0 := hx
    subst hv
    split at hr
    · rename_i e he
      rw [run_iteF] at hr
      replace hr := ev_true hr
      obtain ⟨hs, hr⟩ := hr
      exact ⟨_, false, l, hr, RB.sl (fun _ => undef) (blt_pos hs) (by simp) (Nat.le_refl _) (fun h => absurd rfl h) (by simp)⟩
    · cases hr
  · rename_i k
    rw [run_getO] at hr
    split at hr
    · rename_i own deep sz cs hk
      exact ⟨_, own, _, hr, by rw [h.objv hk hx]; exact h.arr hk⟩
    · cases hr
  · cases hr

theorem snapCs0_sound (h : Snap c s s1 a w val fp Ft) : ∀ {ts : List TypeId} {cs : List C} {vs : List Value} {f : List T → Bool → Prog} {l : Log}, CRs (mkFr c w val fp) s cs vs → runP E (snapCs0 P ts cs f) s1 l K = some r →
    ∃ ys b l', runP E (f ys b) s1 l' K = some r ∧ ys.length = vs.length ∧ ∀ (i : Nat) (y : T) (v : Value), ys[i]? = some y → vs[i]? = some v → SR c w fp Ft b y v
  | [], [], vs, f, l, hx, hr => by
    have : vs = [] := List.eq_nil_of_length_eq_zero (by simpa using hx.1.symm)
    subst this
    exact ⟨[], false, l, hr, rfl, by simp⟩
  | t :: ts, x :: cs, [], f, l, hx, hr => by have := hx.1; simp at this
  | t :: ts, x :: cs, v :: vs, f, l, hx, hr => by
    rw [snapCs0] at hr
    obtain ⟨y, b, l1, h1, hy⟩ := snapC0_sound h (hx.2 0 x v rfl rfl) hr
    obtain ⟨ys, b', l2, h2, hl, hys⟩ := snapCs0_sound h (vs := vs) ⟨by simpa using hx.1, fun i c v hc hv => hx.2 (i + 1) c v (by simpa using hc) (by simpa using hv)⟩ h1
    refine ⟨y :: ys, b || b', l2, h2, by simp [hl], fun i z u hz hu => ?_⟩
    cases i with
    | zero => simp at hz hu; subst hz; subst hu; exact hy.or (by simp; intro h; exact .inl h)
    | succ i => exact (hys i z u (by simpa using hz) (by simpa using hu)).or (by simp; intro h; exact .inr h)
  | [], _ :: _, _, _, _, _, hr => by cases hr
  | _ :: _, [], _, _, _, _, hr => by cases hr

theorem getD_of {vs : List Value} {i : Nat} {v : Value} (h : vs[i]? = some v) : vs.getD i undef = v := by
  rw [List.getD_eq_getElem?_getD, h]; rfl

/-- Trees of a block's cells, behind a pointer. -/
theorem SR.rref {b : Nat} {q : Nat} {ys : List T} {f : Nat → Value} (hJ : ys ≠ [] → SJ c w fp Ft true b) (hc : ∀ i, i < ys.length → w.cell? ⟨b, q + i, none⟩ = some (f i))
    (hr : ∀ (i : Nat) (y : T), ys[i]? = some y → SR c w fp Ft true y (f i)) : SR c w fp Ft true (.rref ys 0) (.pointer (some ⟨b, q, none⟩)) :=
  RB.rref (q := 0) f hJ hc hr

theorem Snap.box (h : Snap c s s1 a w val fp Ft) {k : Key} {cells : List C} (hk : s1.getO k = .box cells) :
    ∃ b cur e, val k = .pointer (some ⟨b, 0, none⟩) ∧ fp k = [b] ∧ w.heap[b]? = some (.cells cur e (0, 0)) ∧ CRs (mkFr c w val fp) s cells cur.toList ∧ s.getO k = .box cells := by
  have h0 := (h.obs k (.inl ⟨_, hk⟩)).1
  rw [hk] at h0
  have hob := h.inv.obs k
  rw [h0] at hob
  obtain ⟨b, cur, e, hu, hF, hh, hcs⟩ := hob
  exact ⟨b, cur, e, hu, hF, hh, hcs, h0⟩

theorem CRs.cut {f : Fr} {s : St} {cs : List C} {vs : List Value} (h : CRs f s cs vs) (q n : Nat) : CRs f s ((cs.drop q).take n) ((vs.drop q).take n) := by
  refine ⟨by simp [h.1], fun i c v hc hv => ?_⟩
  rw [List.getElem?_take] at hc hv
  split at hc
  · rename_i hi
    rw [if_pos hi] at hv
    rw [List.getElem?_drop] at hc hv
    exact h.2 _ c v hc hv
  · cases hc

theorem snapC1_sound (h : Snap c s s1 a w val fp Ft) {t : TypeId} {x : C} {v : Value} (hx : CR (mkFr c w val fp) s x v) {f : T → Bool → Prog} (hr : runP E (snapC1 P t x f) s1 l K = some r) :
    ∃ y b l', runP E (f y b) s1 l' K = some r ∧ SR c w fp Ft b y v := by
  unfold snapC1 at hr
  split at hr
  · rename_i k q
    rw [run_getO] at hr
    split at hr
    · rename_i cells hk
      obtain ⟨b, cur, e, hu, hF, hh, hcs, h0⟩ := h.box hk
      have hp : ptrTo (val k) q v := ptr_alive hx h0 (.inl ⟨_, rfl⟩)
      rw [hu] at hp
      have hv : v = .pointer (some ⟨b, 0 + q, none⟩) := hp
      rw [Nat.zero_add] at hv
      obtain ⟨ys, b', l1, h1, hl, hys⟩ := snapCs0_sound h (hcs.cut q (sizeT P (elemT P t))) hr
      refine ⟨_, true, l1, h1, ?_⟩
      rw [hv]
      have hget : ∀ i, i < ys.length → ((cur.toList.drop q).take (sizeT P (elemT P t)))[i]? = some (cur.getD (q + i) undef) := fun i hi => by
        rw [hl] at hi
        have h4 := hi
        rw [List.length_take, List.length_drop, Array.length_toList] at h4
        rw [List.getElem?_take, if_pos (by omega), List.getElem?_drop, Array.getElem?_toList]
        have : q + i < cur.size := by omega
        simp [this]
      refine SR.rref (f := fun i => cur.getD (q + i) undef) (fun _ => h.ownJ (.inl ⟨_, hk⟩) (by rw [hF]; simp)) (fun i hi => ?_) (fun i y hy => (hys i y _ hy (hget i (List.getElem?_eq_some_iff.1 hy).1)).or fun _ => rfl)
      rw [cell_of_cells hh]
      have h4 := hi
      rw [hl, List.length_take, List.length_drop, Array.length_toList] at h4
      have : q + i < cur.size := by omega
      simp [this]
    · rename_i own deep sz cells hk
      have hal : Alive (s1.getO k) := .inr ⟨_, _, _, _, hk⟩
      have h0 := (h.obs k hal).1
      rw [hk] at h0
      have hp : ptrTo (val k) q v := ptr_alive hx h0 (.inr ⟨_, _, _, _, rfl⟩)
      have hsr := h.arr hk
      refine ⟨_, own, _, hr, ?_⟩
      generalize hn : sizeT P (elemT P t) = n
      obtain ⟨A, len, cap, hv, hpos, hlen, hcap, vs, hc, hcells⟩ := RB.sl_inv hsr
      rw [hv] at hp
      have hget : ∀ (i : Nat) (y : T), ((cells.drop q).take n)[i]? = some y → cells[q + i]? = some y := fun i y hy => by
        rw [List.getElem?_take] at hy
        split at hy
        · rwa [List.getElem?_drop] at hy
        · cases hy
      have hlt : ∀ i, i < ((cells.drop q).take n).length → q + i < cells.length := fun i hi => by simp at hi; omega
      -- the pointer
      have hpv : ∃ b o, A = some ⟨b, o, none⟩ ∧ v = .pointer (some ⟨b, o + q, none⟩) := by
        cases A with
        | none => exact hp.elim
        | some A =>
          obtain ⟨b, o, sp⟩ := A
          cases sp with
          | none => exact ⟨b, o, rfl, hp⟩
          | some _ => exact hp.elim
      obtain ⟨b, o, rfl, rfl⟩ := hpv
      refine RB.rref (q := 0) (fun i => vs (q + i)) (fun hne => ?_) (fun i hi => ?_) (fun i y hy => hc _ _ (hget i y hy))
      · have hne' : cells ≠ [] := by intro e; rw [e] at hne; simp at hne
        obtain ⟨b', o', e, hI, _⟩ := hcells hne'
        cases e
        exact ⟨hI.1.imp (h.inv.ij b) id, hI.2⟩
      · have hi' := hlt i hi
        have hne' : cells ≠ [] := by intro e; rw [e] at hi'; simp at hi'
        obtain ⟨b', o', e, hI, hcell⟩ := hcells hne'
        cases e
        have h5 := hcell (q + i) hi'
        rw [← Nat.add_assoc] at h5
        exact h5
    · cases hr
  · rename_i cells q
    refine ⟨_, false, l, hr, ?_⟩
    have hx' := h.rb false (CR_t hx)
    generalize hn : sizeT P (elemT P t) = n
    cases hx' with
    | rref vs hJ hcell hc =>
      rename_i b o
      refine RB.rref (q := 0) (o := o + q) (fun i => vs (q + i)) (fun hne => hJ (fun e => hne (by rw [e]; simp))) (fun i hi => ?_) (fun i y hy => ?_)
      · simp at hi
        rw [Nat.add_assoc]
        exact hcell _ (by omega)
      · rw [List.getElem?_take] at hy
        split at hy
        · rw [List.getElem?_drop] at hy; exact hc _ _ hy
        · cases hy
  · exact snapC0_sound h hx hr

theorem snapAll_sound (h : Snap c s s1 a w val fp Ft) : ∀ {cs : List C} {vs : List Value} {f : List T → Prog} {l : Log}, CRs (mkFr c w val fp) s cs vs → runP E (snapCap.snapAll cs f) s1 l K = some r →
    ∃ ys l', runP E (f ys) s1 l' K = some r ∧ ys.length = vs.length ∧ ∀ (i : Nat) (y : T) (v : Value), ys[i]? = some y → vs[i]? = some v → SR c w fp Ft true y v
  | [], vs, f, l, hx, hr => by
    have : vs = [] := List.eq_nil_of_length_eq_zero (by simpa using hx.1.symm)
    subst this
    exact ⟨[], l, hr, rfl, by simp⟩
  | x :: cs, [], f, l, hx, hr => by have := hx.1; simp at this
  | x :: cs, v :: vs, f, l, hx, hr => by
    have hx0 := hx.2 0 x v rfl rfl
    have hxr : CRs (mkFr c w val fp) s cs vs := ⟨by simpa using hx.1, fun i c v hc hv => hx.2 (i + 1) c v (by simpa using hc) (by simpa using hv)⟩
    cases x with
    | t y =>
      rw [snapCap.snapAll] at hr
      obtain ⟨ys, l2, h2, hl, hys⟩ := snapAll_sound h hxr hr
      refine ⟨y :: ys, l2, h2, by simp [hl], fun i z u hz hu => ?_⟩
      cases i with
      | zero => simp at hz hu; subst hz; subst hu; exact h.rb true hx0
      | succ i => exact hys i z u (by simpa using hz) (by simpa using hu)
    | obj k =>
      rw [snapCap.snapAll, run_getO] at hr
      split at hr
      · rename_i own deep sz cells hk
        obtain ⟨ys, l2, h2, hl, hys⟩ := snapAll_sound h hxr hr
        refine ⟨_ :: ys, l2, h2, by simp [hl], fun i z u hz hu => ?_⟩
        cases i with
        | zero =>
          simp at hz hu; subst hz; subst hu
          rw [h.objv hk hx0]
          exact (h.arr hk).or fun _ => rfl
        | succ i => exact hys i z u (by simpa using hz) (by simpa using hu)
      · cases hr
    | nil => simp [snapCap.snapAll, runP] at hr
    | ptr k q => simp [snapCap.snapAll, runP] at hr
    | undef => simp [snapCap.snapAll, runP] at hr

theorem snapCap_sound (h : Snap c s s1 a w val fp Ft) {x : C} {v : Value} (hx : CR (mkFr c w val fp) s x v) {f : T → Bool → Prog} (hr : runP E (snapCap x f) s1 l K = some r) :
    ∃ y b l', runP E (f y b) s1 l' K = some r ∧ SR c w fp Ft b y v := by
  unfold snapCap at hr
  split at hr
  · rename_i k q
    rw [run_getO] at hr
    split at hr
    · rename_i cells hk
      obtain ⟨b, cur, e, hu, hF, hh, hcs, h0⟩ := h.box hk
      have hp : ptrTo (val k) q v := ptr_alive hx h0 (.inl ⟨_, rfl⟩)
      rw [hu] at hp
      have hv : v = .pointer (some ⟨b, 0 + q, none⟩) := hp
      split at hr
      · rename_i cs
        rw [Nat.add_zero] at hv
        obtain ⟨ys, l1, h1, hl, hys⟩ := snapAll_sound h hcs hr
        refine ⟨_, true, l1, h1, ?_⟩
        rw [hv]
        have hget : ∀ i, i < ys.length → cur[i]? = some (cur.getD i undef) := fun i hi => by
          rw [hl, Array.length_toList] at hi
          simp [hi]
        refine SR.rref (f := fun i => cur.getD i undef) (fun _ => h.ownJ (.inl ⟨_, hk⟩) (by rw [hF]; simp)) (fun i hi => ?_) (fun i y hy => hys i y _ hy (by rw [Array.getElem?_toList]; exact hget i (List.getElem?_eq_some_iff.1 hy).1))
        rw [cell_of_cells hh, Nat.zero_add]
        exact hget i hi
      · cases hr
    · cases hr
  · rename_i y; exact ⟨y, false, l, hr, h.rb false hx⟩
  · rename_i k
    rw [run_getO] at hr
    split at hr
    · rename_i own deep sz cs hk
      exact ⟨_, own, _, hr, by rw [h.objv hk hx]; exact h.arr hk⟩
    · cases hr
  · cases hr

theorem snapCaps_sound (h : Snap c s s1 a w val fp Ft) : ∀ {cs : List C} {vs : List Value} {f : List T → Bool → Prog} {l : Log}, CRs (mkFr c w val fp) s cs vs → runP E (snapCaps cs f) s1 l K = some r →
    ∃ ys b l', runP E (f ys b) s1 l' K = some r ∧ ys.length = vs.length ∧ ∀ (i : Nat) (y : T) (v : Value), ys[i]? = some y → vs[i]? = some v → SR c w fp Ft b y v
  | [], vs, f, l, hx, hr => by
    have : vs = [] := List.eq_nil_of_length_eq_zero (by simpa using hx.1.symm)
    subst this
    exact ⟨[], false, l, hr, rfl, by simp⟩
  | x :: cs, [], f, l, hx, hr => by have := hx.1; simp at this
  | x :: cs, v :: vs, f, l, hx, hr => by
    rw [snapCaps] at hr
    obtain ⟨y, b, l1, h1, hy⟩ := snapCap_sound h (hx.2 0 x v rfl rfl) hr
    obtain ⟨ys, b', l2, h2, hl, hys⟩ := snapCaps_sound h (vs := vs) ⟨by simpa using hx.1, fun i c v hc hv => hx.2 (i + 1) c v (by simpa using hc) (by simpa using hv)⟩ h1
    refine ⟨y :: ys, b || b', l2, h2, by simp [hl], fun i z u hz hu => ?_⟩
    cases i with
    | zero => simp at hz hu; subst hz; subst hu; exact hy.or (by simp; intro h; exact .inl h)
    | succ i => exact (hys i z u (by simpa using hz) (by simpa using hu)).or (by simp; intro h; exact .inr h)

theorem RB.notAgg {I J : Nat → Prop} {y : T} {u : Value} (hy : RB w I J y u) : ResV w I J false y u [] := by
  cases hy <;> (refine ⟨?_, rfl⟩)
  · exact .int _ _
  · exact .bool _
  · exact .str _
  · exact .sl _ (by assumption) (by assumption) (by assumption) (by assumption) (by assumption)
  · exact .rref _ (by assumption) (by assumption) (by assumption)
  · exact .clo _ (by assumption) (by assumption)

theorem snapV_sound (h : Snap c s s1 a w val fp Ft) {t : TypeId} {x : V} {v : Value} (hx : VR (mkFr c w val fp) s x v) {f : T → Bool → Prog} (hr : runP E (snapV P t x f) s1 l K = some r) :
    ∃ y b l', runP E (f y b) s1 l' K = some r ∧ ResV w (SI c w fp Ft b) (SJ c w fp Ft b) false y v [] := by
  unfold snapV at hr
  split at hr
  · obtain ⟨y, b, l1, h1, hy⟩ := snapC1_sound h hx hr
    exact ⟨y, b, l1, h1, RB.notAgg hy⟩
  · obtain ⟨vs, rfl, hcs⟩ := hx
    obtain ⟨ys, b, l1, h1, hl, hys⟩ := snapCs0_sound h hcs hr
    refine ⟨_, b, l1, h1, vs, fun _ => [], rfl, by simpa using hl, ND.nil _, by simp [flat], fun i y u hy hu => ⟨hys i y u hy (by simpa using hu), rfl⟩⟩
  · rename_i fn cs
    obtain ⟨vs, rfl, hcs⟩ := hx
    obtain ⟨ys, b, l1, h1, hl, hys⟩ := snapCaps_sound h hcs hr
    refine ⟨_, b, l1, h1, RB.notAgg (RB.clo (fun i => vs.getD i undef) ?_ fun i y hy => ?_)⟩
    · apply Array.ext'
      apply List.ext_getElem?
      intro i
      rw [List.getElem?_map]
      by_cases hi : i < ys.length
      · have : i < vs.size := by rw [hl] at hi; simpa using hi
        simp [hi, this]
      · have : ¬ i < vs.size := by rw [hl] at hi; simpa using hi
        simp [hi, this]
    · have hi := (List.getElem?_eq_some_iff.1 hy).1
      have : i < vs.size := by rw [hl] at hi; simpa using hi
      exact hys i y _ hy (by simp [this])
  · cases hr

theorem ResV.or {b b' : Bool} {x : T} {v : Value} (h : ResV w (SI c w fp Ft b) (SJ c w fp Ft b) false x v []) (hb : b = true → b' = true) : ResV w (SI c w fp Ft b') (SJ c w fp Ft b') false x v [] := by
  unfold ResV at *
  cases x with
  | agg xs =>
    obtain ⟨vs, fs, h1, h2, h3, h4, h5⟩ := h
    exact ⟨vs, fs, h1, h2, h3, h4, fun i y u hy hu => ⟨SR.or (h5 i y u hy hu).1 hb, (h5 i y u hy hu).2⟩⟩
  | tup _ => exact h
  | int _ _ => exact ⟨SR.or h.1 hb, rfl⟩
  | bool _ => exact ⟨SR.or h.1 hb, rfl⟩
  | str _ => exact ⟨SR.or h.1 hb, rfl⟩
  | sl _ _ => exact ⟨SR.or h.1 hb, rfl⟩
  | rref _ _ => exact ⟨SR.or h.1 hb, rfl⟩
  | clo _ _ => exact ⟨SR.or h.1 hb, rfl⟩
end
end Ev
