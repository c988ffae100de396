/- Ev: what is handed over to be read. -/
import Derived.Test.YtmcfccgmhinpdaaGreatDoorEvOpsG
namespace Ev
open Go

/-! ## arguments and results as trees -/
def ResV (w : World) (I J : Nat → Prop) (own : Bool) (x : T) (v : Value) (F : List Nat) : Prop :=
  match x with
  | .agg xs => ∃ vs : Array Value, ∃ fs, v = .agg vs ∧ xs.length = vs.size ∧ ND xs.length fs ∧ F = flat xs.length fs ∧ ∀ (i : Nat) (y : T) (u : Value), xs[i]? = some y → vs[i]? = some u → El w I J own y u (fs i)
  | .tup _ => False
  | x => El w I J own x v F
def ResT (w : World) (I J : Nat → Prop) (own : Bool) (x : T) (v : Value) (F : List Nat) : Prop :=
  match x with
  | .tup ps => ∃ us : Array Value, ∃ fs, v = .tuple us ∧ ps.length = us.size ∧ ND ps.length fs ∧ F = flat ps.length fs ∧ ∀ (i : Nat) (y : T) (u : Value), ps[i]? = some y → us[i]? = some u → ResV w I J own y u (fs i)
  | x => ResV w I J own x v F

section
variable {P : Program} {E : Env} {c : Ctx} {s s1 : St} {a : Act} {w : World} {val : Key → Value} {fp : Key → List Nat} {Ft : List Nat}
variable {l : Log} {K : St → Log → R} {r : T × List T}

/-- What a callee may read: all that is borrowed; with 'b' what is own, too, but what is turned. -/
def SI (c : Ctx) (w : World) (fp : Key → List Nat) (Ft : List Nat) (b : Bool) (x : Nat) : Prop := (c.I x ∨ c.own x) ∧ x < w.heap.size ∧ x ∉ Ft ∧ (b = false → ∀ k, x ∉ fp k)
def SJ (c : Ctx) (w : World) (fp : Key → List Nat) (Ft : List Nat) (b : Bool) (x : Nat) : Prop := (c.J x ∨ c.own x) ∧ x < w.heap.size ∧ x ∉ Ft ∧ (b = false → ∀ k, x ∉ fp k)
def Ob.live : Ob → Bool
  | .free | .gone | .moved _ => false
  | _ => true
def Alive (o : Ob) : Prop := o.live = true
structure Snap (c : Ctx) (s s1 : St) (a : Act) (w : World) (val : Key → Value) (fp : Key → List Nat) (Ft : List Nat) : Prop where
  inv : Inv c s a w val fp
  obs : ∀ k, Alive (s1.getO k) → s.getO k = s1.getO k ∧ ∀ x, x ∈ fp k → x ∉ Ft
  ft : ∀ x, x ∈ Ft → ∃ k, x ∈ fp k
  lent : ∀ x, Lent (mkFr c w val fp) s x → x ∉ Ft
abbrev SR (c : Ctx) (w : World) (fp : Key → List Nat) (Ft : List Nat) (b : Bool) (x : T) (v : Value) : Prop := RB w (SI c w fp Ft b) (SJ c w fp Ft b) x v

theorem SR.or {b b' : Bool} {x : T} {v : Value} (h : SR c w fp Ft b x v) (hb : b = true → b' = true) : SR c w fp Ft b' x v := by
  have hb' : b' = false → b = false := fun e => by cases b <;> simp_all
  exact RB.move h (fun x hx => ⟨⟨hx.1, hx.2.1, hx.2.2.1, fun e => hx.2.2.2 (hb' e)⟩, rfl⟩) (fun x hx => ⟨⟨hx.1, hx.2.1, hx.2.2.1, fun e => hx.2.2.2 (hb' e)⟩, rfl⟩)
theorem Snap.rb (h : Snap c s s1 a w val fp Ft) (b : Bool) {x : T} {v : Value} (hx : RB w (inI c w fp) (inJ c w fp) x v) : SR c w fp Ft b x v :=
  RB.move hx (fun x hx => ⟨⟨hx.1, hx.2.1, fun e => by obtain ⟨k, hk⟩ := h.ft x e; exact hx.2.2 k hk, fun _ => hx.2.2⟩, rfl⟩)
    (fun x hx => ⟨⟨hx.1, hx.2.1, fun e => by obtain ⟨k, hk⟩ := h.ft x e; exact hx.2.2 k hk, fun _ => hx.2.2⟩, rfl⟩)
theorem Snap.ownI (h : Snap c s s1 a w val fp Ft) {k : Key} (hk : Alive (s1.getO k)) {x : Nat} (hx : x ∈ fp k) : SI c w fp Ft true x :=
  ⟨.inr (h.inv.mine k x hx), h.inv.lt hx, (h.obs k hk).2 x hx, fun e => by cases e⟩
theorem Snap.ownJ (h : Snap c s s1 a w val fp Ft) {k : Key} (hk : Alive (s1.getO k)) {x : Nat} (hx : x ∈ fp k) : SJ c w fp Ft true x :=
  ⟨.inr (h.inv.mine k x hx), h.inv.lt hx, (h.obs k hk).2 x hx, fun e => by cases e⟩
theorem Snap.I_le (h : Snap c s s1 a w val fp Ft) (b : Bool) {x : Nat} (hx : inI c w fp x) : SI c w fp Ft b x :=
  ⟨hx.1, hx.2.1, fun e => by obtain ⟨k, hk⟩ := h.ft x e; exact hx.2.2 k hk, fun _ => hx.2.2⟩
theorem Snap.J_le (h : Snap c s s1 a w val fp Ft) (b : Bool) {x : Nat} (hx : inJ c w fp x) : SJ c w fp Ft b x :=
  ⟨hx.1, hx.2.1, fun e => by obtain ⟨k, hk⟩ := h.ft x e; exact hx.2.2 k hk, fun _ => hx.2.2⟩

/-- A slice object as it stands. -/
theorem Snap.arr (h : Snap c s s1 a w val fp Ft) {k : Key} {own deep : Bool} {sz : Nat} {cs : List T} (hk : s1.getO k = .arr own deep sz cs) : SR c w fp Ft own (.sl sz cs) (val k) := by
  have hal : Alive (s1.getO k) := by rw [hk]; rfl
  have h0 := (h.obs k hal).1
  rw [hk] at h0
  have hob := h.inv.obs k
  rw [h0] at hob
  cases own with
  | false => exact h.rb false hob.1
  | true =>
    obtain ⟨xs, Fg, fs, ho, hF⟩ := own_iff.1 hob
    exact ho.rb (fun b hb => h.ownI hal (by rw [hF]; exact hb)) (fun b hb => h.I_le true hb) (fun b hb => h.J_le true hb)
theorem Snap.objv (h : Snap c s s1 a w val fp Ft) {k : Key} {own deep : Bool} {sz : Nat} {cs : List T} (hk : s1.getO k = .arr own deep sz cs) {v : Value} (hx : CR (mkFr c w val fp) s (.obj k) v) : v = val k := by
  have h0 := (h.obs k (by rw [hk]; rfl)).1
  rw [hk] at h0
  exact obj_alive hx h0

theorem ref_live {f : Fr} {s : St} {k : Key} {v : Value} (h : CR f s (.obj k) v) (hl : Alive (s.getO k)) : v = f.val k := by
  have h1 := h.1
  unfold Alive at hl
  cases ho : s.getO k <;> rw [ho] at h1 hl <;> first | exact h1 | cases hl
theorem Snap.objL (h : Snap c s s1 a w val fp Ft) {k : Key} (hk : Alive (s1.getO k)) {v : Value} (hx : CR (mkFr c w val fp) s (.obj k) v) : v = val k :=
  ref_live hx (by rw [(h.obs k hk).1]; exact hk)
/-- A slice of one's own, as it is read. -/
theorem ShR.rb {f : Fr} {I J : Nat → Prop} {sz : Nat} {cells : List T} {u : Value} {F : List Nat} (h : ShR f sz cells u F) (hF : ∀ b, b ∈ F → I b) (hI : ∀ b, f.I b → I b) (hJ : ∀ b, f.J b → J b) : RB f.w I J (.sl sz cells) u := by
  rcases h with ⟨hsz, rfl, rfl, a, rfl⟩ | ⟨g, len, cap, cur, e, vs, rfl, rfl, hsz, hg, hlen, hcap, hmax, hcur, hv, hc⟩
  · exact .sl (fun _ => undef) hsz (by simp) (Nat.le_refl _) (fun h => absurd rfl h) (by simp)
  · refine .sl vs hsz hlen hcap (fun _ => ⟨g, 0, rfl, hF g (by simp), fun i hi => ?_⟩) (fun i x hx => RB.move (hc i x hx) (fun b hb => ⟨hI b hb, rfl⟩) (fun b hb => ⟨hJ b hb, rfl⟩))
    rw [Nat.zero_add, cell_of_cells hg]; exact hv i hi
theorem Snap.lentR (h : Snap c s s1 a w val fp Ft) {k : Key} {deep : Bool} {sz : Nat} {cs : List T} (hk : s1.getO k = .lent deep sz cs) : SR c w fp Ft true (.sl sz cs) (val k) := by
  have hal : Alive (s1.getO k) := by rw [hk]; rfl
  have h0 := (h.obs k hal).1
  rw [hk] at h0
  have hob := h.inv.obs k
  rw [h0] at hob
  cases deep with
  | true => exact RO.rb hob fun b hb => h.ownI hal hb
  | false => exact ShR.rb hob (fun b hb => h.ownI hal hb) (fun b hb => h.I_le true hb) (fun b hb => h.J_le true hb)
def findT : List (Nat × T) → Nat → Option T
  | [], _ => none
  | (q, x) :: r, i => if q = i then some x else findT r i
theorem fillT_len : ∀ (xs : List (Nat × T)) (l : List T), (fillT l xs).length = l.length
  | [], _ => rfl
  | (q, x) :: r, l => by rw [fillT, List.length_set, fillT_len r l]
theorem fillT_get : ∀ (xs : List (Nat × T)) (l : List T) (i : Nat), i < l.length → (fillT l xs)[i]? = match findT xs i with | some x => some x | none => l[i]?
  | [], _, _, _ => rfl
  | (q, x) :: r, l, i, hi => by
    rw [fillT, List.getElem?_set, findT]
    by_cases hq : q = i
    · rw [if_pos hq, if_pos hq, if_pos (by rw [fillT_len]; omega)]
    · rw [if_neg hq, if_neg hq]; exact fillT_get r l i hi
/-- What the named cells are: each where it is named. -/
def Named (ws : List (Nat × C)) (xs : List (Nat × T)) (p : C → T → Prop) : Prop := ∀ i, (findW ws i = none ∧ findT xs i = none) ∨ ∃ c x, findW ws i = some c ∧ findT xs i = some x ∧ p c x
theorem Named.nil {p : C → T → Prop} : Named [] [] p := fun _ => .inl ⟨rfl, rfl⟩
theorem Named.cons {ws : List (Nat × C)} {xs : List (Nat × T)} {p : C → T → Prop} (h : Named ws xs p) {q : Nat} {c : C} {x : T} (hp : p c x) : Named ((q, c) :: ws) ((q, x) :: xs) p := fun i => by
  rw [findW, findT]
  by_cases hq : q = i
  · rw [if_pos hq, if_pos hq]; exact .inr ⟨c, x, rfl, rfl, hp⟩
  · rw [if_neg hq, if_neg hq]; exact h i
theorem snapW_sound (h : Snap c s s1 a w val fp Ft) {x : C} {f : T → Prog} {l : Log} (hr : runP E (snapW x f) s1 l K = some r) :
    ∃ y l', runP E (f y) s1 l' K = some r ∧ ∀ v, CR (mkFr c w val fp) s x v → SR c w fp Ft true y v := by
  unfold snapW at hr
  split at hr
  · rename_i y; exact ⟨y, l, hr, fun v hx => h.rb true hx⟩
  · rename_i k
    rw [run_getO] at hr
    split at hr
    · rename_i own deep sz cs hk
      exact ⟨_, _, hr, fun v hx => by rw [h.objv hk hx]; exact (h.arr hk).or fun _ => rfl⟩
    · cases hr
  · exact ⟨.hole, l, hr, fun v hx => .hole (CR.one hx)⟩
  · cases hr
theorem snapWs_sound (h : Snap c s s1 a w val fp Ft) : ∀ {ws : List (Nat × C)} {f : List (Nat × T) → Prog} {l : Log}, runP E (snapWs ws f) s1 l K = some r →
    ∃ xs l', runP E (f xs) s1 l' K = some r ∧ Named ws xs fun x y => ∀ v, CR (mkFr c w val fp) s x v → SR c w fp Ft true y v
  | [], f, l, hr => ⟨[], l, hr, Named.nil⟩
  | (q, x) :: ws, f, l, hr => by
    rw [snapWs] at hr
    obtain ⟨y, l1, h1, hy⟩ := snapW_sound h hr
    obtain ⟨xs, l2, h2, hxs⟩ := snapWs_sound h h1
    exact ⟨(q, y) :: xs, l2, h2, hxs.cons hy⟩
theorem Snap.opnR (h : Snap c s s1 a w val fp Ft) {k : Key} {sz : Nat} {cs : List T} {ws : List (Nat × C)} (hk : s1.getO k = .opn sz cs ws) {xs : List (Nat × T)}
    (hxs : Named ws xs fun x y => ∀ v, CR (mkFr c w val fp) s x v → SR c w fp Ft true y v) : SR c w fp Ft true (.sl sz (fillT cs xs)) (val k) := by
  have hal : Alive (s1.getO k) := by rw [hk]; rfl
  have h0 := (h.obs k hal).1
  rw [hk] at h0
  have hob := h.inv.obs k
  rw [h0] at hob
  obtain ⟨g, len, cap, cur, e, vs, fs, hu, hF, hsz, hg, hlen, hcap, hmax, hcur, hv, hel, hnd⟩ := hob
  have hg : w.heap[g]? = some (.cells cur e (0, 0)) := hg
  rw [hu]
  refine .sl vs hsz.1 (by rw [fillT_len]; exact hlen) hcap (fun _ => ⟨g, 0, rfl, h.ownI hal (by rw [hF]; simp), fun i hi => ?_⟩) (fun i x hx => ?_)
  · rw [Nat.zero_add, cell_of_cells hg]; exact hv i (by rwa [fillT_len] at hi)
  · have hi : i < cs.length := by have := (List.getElem?_eq_some_iff.1 hx).1; rwa [fillT_len] at this
    rw [fillT_get _ _ _ hi] at hx
    have hw := hel i _ (List.getElem?_eq_getElem hi)
    unfold WR at hw
    rcases hxs i with ⟨h1, h2⟩ | ⟨cc, y, h1, h2, h3⟩
    · rw [h1] at hw
      rw [h2] at hx
      have hx : cs[i]? = some x := hx
      rw [List.getElem?_eq_getElem hi] at hx
      cases hx
      refine RO.rb hw fun b hb => h.ownI hal ?_
      rw [hF]
      exact List.mem_cons_of_mem _ (List.mem_flatMap.2 ⟨i, by simpa using hi, hb⟩)
    · rw [h1] at hw
      rw [h2] at hx
      have hx : some y = some x := hx
      cases hx
      exact h3 _ hw.1
theorem snapC0_sound (h : Snap c s s1 a w val fp Ft) {t : TypeId} {x : C} {v : Value} (hx : CR (mkFr c w val fp) s x v) {f : T → Bool → Prog} (hr : runP E (snapC0 P t x f) s1 l K = some r) :
    ∃ y b l', runP E (f y b) s1 l' K = some r ∧ SR c w fp Ft b y v := by
  unfold snapC0 at hr
  split at hr
  · rename_i y; exact ⟨y, false, l, hr, h.rb false hx⟩
  · have hv : v = .slice none 0 0 := hx
    subst hv
    split at hr
    · rename_i e he
      rw [run_iteF] at hr
      replace hr := ev_true hr
      obtain ⟨hs, hr⟩ := hr
      exact ⟨_, false, l, hr, RB.sl (fun _ => undef) (blt_pos hs) (by simp) (Nat.le_refl _) (fun h => absurd rfl h) (by simp)⟩
    · cases hr
  · rename_i k
    rw [run_getO] at hr
    split at hr
    · rename_i own deep sz cs hk
      exact ⟨_, own, _, hr, by rw [h.objv hk hx]; exact h.arr hk⟩
    · rename_i deep sz cs hk
      exact ⟨_, true, _, hr, by rw [h.objL (by rw [hk]; rfl) hx]; exact h.lentR hk⟩
    · rename_i sz cs ws hk
      obtain ⟨xs, l1, h1, hxs⟩ := snapWs_sound h hr
      exact ⟨_, true, l1, h1, by rw [h.objL (by rw [hk]; rfl) hx]; exact h.opnR hk hxs⟩
    · cases hr
  · rename_i y
    refine ⟨y, true, l, hr, ?_⟩
    have hx : RB w (fun b => inI c w fp b ∨ Lent (mkFr c w val fp) s b) (fun b => inJ c w fp b ∨ Lent (mkFr c w val fp) s b) y v := hx
    have lt : ∀ b, Lent (mkFr c w val fp) s b → (c.own b ∧ b < w.heap.size) := by
      rintro b ⟨k, _, hb⟩; exact ⟨h.inv.mine k b hb, h.inv.lt hb⟩
    refine RB.move hx (fun b hb => ⟨?_, rfl⟩) (fun b hb => ⟨?_, rfl⟩)
    · rcases hb with hb | hb
      · exact h.I_le true hb
      · exact ⟨.inr (lt b hb).1, (lt b hb).2, h.lent b hb, fun e => by cases e⟩
    · rcases hb with hb | hb
      · exact h.J_le true hb
      · exact ⟨.inr (lt b hb).1, (lt b hb).2, h.lent b hb, fun e => by cases e⟩
  · cases hr

theorem snapCs0_sound (h : Snap c s s1 a w val fp Ft) : ∀ {ts : List TypeId} {cs : List C} {vs : List Value} {f : List T → Bool → Prog} {l : Log}, CRs (mkFr c w val fp) s cs vs → runP E (snapCs0 P ts cs f) s1 l K = some r →
    ∃ ys b l', runP E (f ys b) s1 l' K = some r ∧ ys.length = vs.length ∧ ∀ (i : Nat) (y : T) (v : Value), ys[i]? = some y → vs[i]? = some v → SR c w fp Ft b y v
  | [], [], vs, f, l, hx, hr => by
    have : vs = [] := List.eq_nil_of_length_eq_zero (by simpa using hx.1.symm)
    subst this
    exact ⟨[], false, l, hr, rfl, by simp⟩
  | t :: ts, x :: cs, [], f, l, hx, hr => by have := hx.1; simp at this
  | t :: ts, x :: cs, v :: vs, f, l, hx, hr => by
    rw [snapCs0] at hr
    obtain ⟨y, b, l1, h1, hy⟩ := snapC0_sound h (hx.2 0 x v rfl rfl) hr
    obtain ⟨ys, b', l2, h2, hl, hys⟩ := snapCs0_sound h (vs := vs) ⟨by simpa using hx.1, fun i c v hc hv => hx.2 (i + 1) c v (by simpa using hc) (by simpa using hv)⟩ h1
    refine ⟨y :: ys, b || b', l2, h2, by simp [hl], fun i z u hz hu => ?_⟩
    cases i with
    | zero => simp at hz hu; subst hz; subst hu; exact hy.or (by simp; intro h; exact .inl h)
    | succ i => exact (hys i z u (by simpa using hz) (by simpa using hu)).or (by simp; intro h; exact .inr h)
  | [], _ :: _, _, _, _, _, hr => by cases hr
  | _ :: _, [], _, _, _, _, hr => by cases hr

theorem getD_of {vs : List Value} {i : Nat} {v : Value} (h : vs[i]? = some v) : vs.getD i undef = v := by
  rw [List.getD_eq_getElem?_getD, h]; rfl

/-- Trees of a block's cells, behind a pointer. -/
theorem SR.rref {b : Nat} {q : Nat} {ys : List T} {f : Nat → Value} (hJ : ys ≠ [] → SJ c w fp Ft true b) (hc : ∀ i, i < ys.length → w.cell? ⟨b, q + i, none⟩ = some (f i))
    (hr : ∀ (i : Nat) (y : T), ys[i]? = some y → SR c w fp Ft true y (f i)) : SR c w fp Ft true (.rref ys 0) (.pointer (some ⟨b, q, none⟩)) :=
  RB.rref (q := 0) f hJ hc hr

theorem Snap.box (h : Snap c s s1 a w val fp Ft) {k : Key} {cells : List C} (hk : s1.getO k = .box cells) :
    ∃ b cur e, val k = .pointer (some ⟨b, 0, none⟩) ∧ fp k = [b] ∧ w.heap[b]? = some (.cells cur e (0, 0)) ∧ CRs (mkFr c w val fp) s cells cur.toList ∧ s.getO k = .box cells := by
  have h0 := (h.obs k (by rw [hk]; rfl)).1
  rw [hk] at h0
  have hob := h.inv.obs k
  rw [h0] at hob
  obtain ⟨b, cur, e, hu, hF, hh, hcs⟩ := hob
  exact ⟨b, cur, e, hu, hF, hh, hcs, h0⟩

theorem CRs.cut {f : Fr} {s : St} {cs : List C} {vs : List Value} (h : CRs f s cs vs) (q n : Nat) : CRs f s ((cs.drop q).take n) ((vs.drop q).take n) := by
  refine ⟨by simp [h.1], fun i c v hc hv => ?_⟩
  rw [List.getElem?_take] at hc hv
  split at hc
  · rename_i hi
    rw [if_pos hi] at hv
    rw [List.getElem?_drop] at hc hv
    exact h.2 _ c v hc hv
  · cases hc

theorem snapC1_sound (h : Snap c s s1 a w val fp Ft) {t : TypeId} {x : C} {v : Value} (hx : CR (mkFr c w val fp) s x v) {f : T → Bool → Prog} (hr : runP E (snapC1 P t x f) s1 l K = some r) :
    ∃ y b l', runP E (f y b) s1 l' K = some r ∧ SR c w fp Ft b y v := by
  unfold snapC1 at hr
  split at hr
  · rename_i k q
    rw [run_getO] at hr
    split at hr
    · rename_i cells hk
      obtain ⟨b, cur, e, hu, hF, hh, hcs, h0⟩ := h.box hk
      have hp : ptrTo (val k) q v := ptr_alive hx h0 (.inl ⟨_, rfl⟩)
      rw [hu] at hp
      have hv : v = .pointer (some ⟨b, 0 + q, none⟩) := hp
      rw [Nat.zero_add] at hv
      obtain ⟨ys, b', l1, h1, hl, hys⟩ := snapCs0_sound h (hcs.cut q (sizeT P (elemT P t))) hr
      refine ⟨_, true, l1, h1, ?_⟩
      rw [hv]
      have hget : ∀ i, i < ys.length → ((cur.toList.drop q).take (sizeT P (elemT P t)))[i]? = some (cur.getD (q + i) undef) := fun i hi => by
        rw [hl] at hi
        have h4 := hi
        rw [List.length_take, List.length_drop, Array.length_toList] at h4
        rw [List.getElem?_take, if_pos (by omega), List.getElem?_drop, Array.getElem?_toList]
        have : q + i < cur.size := by omega
        simp [this]
      refine SR.rref (f := fun i => cur.getD (q + i) undef) (fun _ => h.ownJ (by rw [hk]; rfl) (by rw [hF]; simp)) (fun i hi => ?_) (fun i y hy => (hys i y _ hy (hget i (List.getElem?_eq_some_iff.1 hy).1)).or fun _ => rfl)
      rw [cell_of_cells hh]
      have h4 := hi
      rw [hl, List.length_take, List.length_drop, Array.length_toList] at h4
      have : q + i < cur.size := by omega
      simp [this]
    · rename_i own deep sz cells hk
      have hal : Alive (s1.getO k) := by rw [hk]; rfl
      have h0 := (h.obs k hal).1
      rw [hk] at h0
      have hp : ptrTo (val k) q v := ptr_alive hx h0 (.inr ⟨_, _, _, _, rfl⟩)
      have hsr := h.arr hk
      refine ⟨_, own, _, hr, ?_⟩
      generalize hn : sizeT P (elemT P t) = n
      obtain ⟨A, len, cap, hv, hpos, hlen, hcap, vs, hc, hcells⟩ := RB.sl_inv hsr
      rw [hv] at hp
      have hget : ∀ (i : Nat) (y : T), ((cells.drop q).take n)[i]? = some y → cells[q + i]? = some y := fun i y hy => by
        rw [List.getElem?_take] at hy
        split at hy
        · rwa [List.getElem?_drop] at hy
        · cases hy
      have hlt : ∀ i, i < ((cells.drop q).take n).length → q + i < cells.length := fun i hi => by simp at hi; omega
      -- the pointer
      have hpv : ∃ b o, A = some ⟨b, o, none⟩ ∧ v = .pointer (some ⟨b, o + q, none⟩) := by
        cases A with
        | none => exact hp.elim
        | some A =>
          obtain ⟨b, o, sp⟩ := A
          cases sp with
          | none => exact ⟨b, o, rfl, hp⟩
          | some _ => exact hp.elim
      obtain ⟨b, o, rfl, rfl⟩ := hpv
      refine RB.rref (q := 0) (fun i => vs (q + i)) (fun hne => ?_) (fun i hi => ?_) (fun i y hy => hc _ _ (hget i y hy))
      · have hne' : cells ≠ [] := by intro e; rw [e] at hne; simp at hne
        obtain ⟨b', o', e, hI, _⟩ := hcells hne'
        cases e
        exact ⟨hI.1.imp (h.inv.ij b) id, hI.2⟩
      · have hi' := hlt i hi
        have hne' : cells ≠ [] := by intro e; rw [e] at hi'; simp at hi'
        obtain ⟨b', o', e, hI, hcell⟩ := hcells hne'
        cases e
        have h5 := hcell (q + i) hi'
        rw [← Nat.add_assoc] at h5
        exact h5
    · cases hr
  · rename_i cells q
    refine ⟨_, false, l, hr, ?_⟩
    have hx' := h.rb false (CR_t hx)
    generalize hn : sizeT P (elemT P t) = n
    cases hx' with
    | rref vs hJ hcell hc =>
      rename_i b o
      refine RB.rref (q := 0) (o := o + q) (fun i => vs (q + i)) (fun hne => hJ (fun e => hne (by rw [e]; simp))) (fun i hi => ?_) (fun i y hy => ?_)
      · simp at hi
        rw [Nat.add_assoc]
        exact hcell _ (by omega)
      · rw [List.getElem?_take] at hy
        split at hy
        · rw [List.getElem?_drop] at hy; exact hc _ _ hy
        · cases hy
  · exact snapC0_sound h hx hr

theorem snapAll_sound (h : Snap c s s1 a w val fp Ft) : ∀ {cs : List C} {vs : List Value} {f : List T → Prog} {l : Log}, CRs (mkFr c w val fp) s cs vs → runP E (snapCap.snapAll cs f) s1 l K = some r →
    ∃ ys l', runP E (f ys) s1 l' K = some r ∧ ys.length = vs.length ∧ ∀ (i : Nat) (y : T) (v : Value), ys[i]? = some y → vs[i]? = some v → SR c w fp Ft true y v
  | [], vs, f, l, hx, hr => by
    have : vs = [] := List.eq_nil_of_length_eq_zero (by simpa using hx.1.symm)
    subst this
    exact ⟨[], l, hr, rfl, by simp⟩
  | x :: cs, [], f, l, hx, hr => by have := hx.1; simp at this
  | x :: cs, v :: vs, f, l, hx, hr => by
    have hx0 := hx.2 0 x v rfl rfl
    have hxr : CRs (mkFr c w val fp) s cs vs := ⟨by simpa using hx.1, fun i c v hc hv => hx.2 (i + 1) c v (by simpa using hc) (by simpa using hv)⟩
    cases x with
    | t y =>
      rw [snapCap.snapAll] at hr
      obtain ⟨ys, l2, h2, hl, hys⟩ := snapAll_sound h hxr hr
      refine ⟨y :: ys, l2, h2, by simp [hl], fun i z u hz hu => ?_⟩
      cases i with
      | zero => simp at hz hu; subst hz; subst hu; exact h.rb true hx0
      | succ i => exact hys i z u (by simpa using hz) (by simpa using hu)
    | obj k =>
      rw [snapCap.snapAll, run_getO] at hr
      split at hr
      · rename_i own deep sz cells hk
        obtain ⟨ys, l2, h2, hl, hys⟩ := snapAll_sound h hxr hr
        refine ⟨_ :: ys, l2, h2, by simp [hl], fun i z u hz hu => ?_⟩
        cases i with
        | zero =>
          simp at hz hu; subst hz; subst hu
          rw [h.objv hk hx0]
          exact (h.arr hk).or fun _ => rfl
        | succ i => exact hys i z u (by simpa using hz) (by simpa using hu)
      · cases hr
    | nil => simp [snapCap.snapAll, runP] at hr
    | ptr k q => simp [snapCap.snapAll, runP] at hr
    | undef => simp [snapCap.snapAll, runP] at hr
    | view _ => simp [snapCap.snapAll, runP] at hr

theorem snapCap_sound (h : Snap c s s1 a w val fp Ft) {x : C} {v : Value} (hx : CR (mkFr c w val fp) s x v) {f : T → Bool → Prog} (hr : runP E (snapCap x f) s1 l K = some r) :
    ∃ y b l', runP E (f y b) s1 l' K = some r ∧ SR c w fp Ft b y v := by
  unfold snapCap at hr
  split at hr
  · rename_i k q
    rw [run_getO] at hr
    split at hr
    · rename_i cells hk
      obtain ⟨b, cur, e, hu, hF, hh, hcs, h0⟩ := h.box hk
      have hp : ptrTo (val k) q v := ptr_alive hx h0 (.inl ⟨_, rfl⟩)
      rw [hu] at hp
      have hv : v = .pointer (some ⟨b, 0 + q, none⟩) := hp
      split at hr
      · rename_i cs
        rw [Nat.add_zero] at hv
        obtain ⟨ys, l1, h1, hl, hys⟩ := snapAll_sound h hcs hr
        refine ⟨_, true, l1, h1, ?_⟩
        rw [hv]
        have hget : ∀ i, i < ys.length → cur[i]? = some (cur.getD i undef) := fun i hi => by
          rw [hl, Array.length_toList] at hi
          simp [hi]
        refine SR.rref (f := fun i => cur.getD i undef) (fun _ => h.ownJ (by rw [hk]; rfl) (by rw [hF]; simp)) (fun i hi => ?_) (fun i y hy => hys i y _ hy (by rw [Array.getElem?_toList]; exact hget i (List.getElem?_eq_some_iff.1 hy).1))
        rw [cell_of_cells hh, Nat.zero_add]
        exact hget i hi
      · cases hr
    · cases hr
  · rename_i y; exact ⟨y, false, l, hr, h.rb false hx⟩
  · rename_i k
    rw [run_getO] at hr
    split at hr
    · rename_i own deep sz cs hk
      exact ⟨_, own, _, hr, by rw [h.objv hk hx]; exact h.arr hk⟩
    · cases hr
  · cases hr

theorem snapCaps_sound (h : Snap c s s1 a w val fp Ft) : ∀ {cs : List C} {vs : List Value} {f : List T → Bool → Prog} {l : Log}, CRs (mkFr c w val fp) s cs vs → runP E (snapCaps cs f) s1 l K = some r →
    ∃ ys b l', runP E (f ys b) s1 l' K = some r ∧ ys.length = vs.length ∧ ∀ (i : Nat) (y : T) (v : Value), ys[i]? = some y → vs[i]? = some v → SR c w fp Ft b y v
  | [], vs, f, l, hx, hr => by
    have : vs = [] := List.eq_nil_of_length_eq_zero (by simpa using hx.1.symm)
    subst this
    exact ⟨[], false, l, hr, rfl, by simp⟩
  | x :: cs, [], f, l, hx, hr => by have := hx.1; simp at this
  | x :: cs, v :: vs, f, l, hx, hr => by
    rw [snapCaps] at hr
    obtain ⟨y, b, l1, h1, hy⟩ := snapCap_sound h (hx.2 0 x v rfl rfl) hr
    obtain ⟨ys, b', l2, h2, hl, hys⟩ := snapCaps_sound h (vs := vs) ⟨by simpa using hx.1, fun i c v hc hv => hx.2 (i + 1) c v (by simpa using hc) (by simpa using hv)⟩ h1
    refine ⟨y :: ys, b || b', l2, h2, by simp [hl], fun i z u hz hu => ?_⟩
    cases i with
    | zero => simp at hz hu; subst hz; subst hu; exact hy.or (by simp; intro h; exact .inl h)
    | succ i => exact (hys i z u (by simpa using hz) (by simpa using hu)).or (by simp; intro h; exact .inr h)

theorem RB.notAgg {I J : Nat → Prop} {y : T} {u : Value} (hy : RB w I J y u) : ResV w I J false y u [] := by
  cases hy <;> (refine ⟨?_, rfl⟩)
  · exact .int _ _
  · exact .bool _
  · exact .str _
  · exact .sl _ (by assumption) (by assumption) (by assumption) (by assumption) (by assumption)
  · exact .rref _ (by assumption) (by assumption) (by assumption)
  · exact .clo _ (by assumption) (by assumption)
  · exact .hole (by assumption)
  · exact .mp (by assumption) (by assumption) (by assumption)

theorem snapV_sound (h : Snap c s s1 a w val fp Ft) {t : TypeId} {x : V} {v : Value} (hx : VR (mkFr c w val fp) s x v) {f : T → Bool → Prog} (hr : runP E (snapV P t x f) s1 l K = some r) :
    ∃ y b l', runP E (f y b) s1 l' K = some r ∧ ResV w (SI c w fp Ft b) (SJ c w fp Ft b) false y v [] := by
  unfold snapV at hr
  split at hr
  · obtain ⟨y, b, l1, h1, hy⟩ := snapC1_sound h hx hr
    exact ⟨y, b, l1, h1, RB.notAgg hy⟩
  · obtain ⟨vs, rfl, hcs⟩ := hx
    obtain ⟨ys, b, l1, h1, hl, hys⟩ := snapCs0_sound h hcs hr
    refine ⟨_, b, l1, h1, vs, fun _ => [], rfl, by simpa using hl, ND.nil _, by simp [flat], fun i y u hy hu => ⟨hys i y u hy (by simpa using hu), rfl⟩⟩
  · rename_i fn cs
    obtain ⟨vs, rfl, hcs⟩ := hx
    obtain ⟨ys, b, l1, h1, hl, hys⟩ := snapCaps_sound h hcs hr
    refine ⟨_, b, l1, h1, RB.notAgg (RB.clo (fun i => vs.getD i undef) ?_ fun i y hy => ?_)⟩
    · apply Array.ext'
      apply List.ext_getElem?
      intro i
      rw [List.getElem?_map]
      by_cases hi : i < ys.length
      · have : i < vs.size := by rw [hl] at hi; simpa using hi
        simp [hi, this]
      · have : ¬ i < vs.size := by rw [hl] at hi; simpa using hi
        simp [hi, this]
    · have hi := (List.getElem?_eq_some_iff.1 hy).1
      have : i < vs.size := by rw [hl] at hi; simpa using hi
      exact hys i y _ hy (by simp [this])
  · cases hr

theorem ResV.or {b b' : Bool} {x : T} {v : Value} (h : ResV w (SI c w fp Ft b) (SJ c w fp Ft b) false x v []) (hb : b = true → b' = true) : ResV w (SI c w fp Ft b') (SJ c w fp Ft b') false x v [] := by
  unfold ResV at *
  cases x with
  | agg xs =>
    obtain ⟨vs, fs, h1, h2, h3, h4, h5⟩ := h
    exact ⟨vs, fs, h1, h2, h3, h4, fun i y u hy hu => ⟨SR.or (h5 i y u hy hu).1 hb, (h5 i y u hy hu).2⟩⟩
  | tup _ => exact h
  | int _ _ => exact ⟨SR.or h.1 hb, rfl⟩
  | bool _ => exact ⟨SR.or h.1 hb, rfl⟩
  | str _ => exact ⟨SR.or h.1 hb, rfl⟩
  | sl _ _ => exact ⟨SR.or h.1 hb, rfl⟩
  | rref _ _ => exact ⟨SR.or h.1 hb, rfl⟩
  | clo _ _ => exact ⟨SR.or h.1 hb, rfl⟩
  | hole => exact ⟨SR.or h.1 hb, rfl⟩
  | mp _ => exact ⟨SR.or h.1 hb, rfl⟩
end
end Ev
