/- Ev: what moves out of its object, what a new object takes up. -/
import Derived.Test.YtmcfccgmhinpdaaGreatDoorEvOwn
namespace Ev
open Go

section
variable {P : Program} {A : Attrs} {E : Env} {c : Ctx} {s s0 s1 : St} {a : Act} {w w' : World} {val : Key → Value} {fp : Key → List Nat}
variable {l : Log} {K : St → Log → R} {r : T × List T}

def clr (fp : Key → List Nat) (L : List Key) : Key → List Nat := fun k => if k ∈ L then [] else fp k
theorem mem_clr {fp : Key → List Nat} {L : List Key} {k : Key} {b : Nat} (h : b ∈ clr fp L k) : k ∉ L ∧ b ∈ fp k := by
  unfold clr at h
  split at h
  · simp at h
  · exact ⟨by assumption, h⟩

/-- From s0 to s own slices have moved out of their objects. -/
structure Moved (s0 s : St) (L : List Key) : Prop where
  tm : ∀ i, s.getT i = s0.getT i
  gone : ∀ k, k ∈ L → (s.getO k = .gone ∨ ∃ j, s.getO k = .moved j) ∧ ∃ deep sz cells, s0.getO k = .arr true deep sz cells
  same : ∀ k, k ∉ L → s.getO k = s0.getO k
  nd : L.Nodup
theorem Moved.refl (s : St) : Moved s s [] := ⟨fun _ => rfl, by simp, fun _ _ => rfl, List.nodup_nil⟩
theorem Moved.add {L : List Key} (h : Moved s0 s L) {k : Key} {o : Ob} (ho : o = .gone ∨ ∃ j, o = .moved j) {deep : Bool} {sz : Nat} {cells : List T} (hk : s.getO k = .arr true deep sz cells) :
    k ∉ L ∧ s0.getO k = .arr true deep sz cells ∧ Moved s0 (s.setO k o) (k :: L) := by
  have hn : k ∉ L := fun hl => by
    rcases (h.gone k hl).1 with e | ⟨j, e⟩ <;> rw [hk] at e <;> cases e
  have h0 : s0.getO k = .arr true deep sz cells := by rw [← h.same k hn]; exact hk
  refine ⟨hn, h0, ⟨h.tm, fun j hj => ?_, fun j hj => ?_, List.nodup_cons.2 ⟨hn, h.nd⟩⟩⟩
  · rw [getO_setO]
    rcases List.mem_cons.1 hj with rfl | hj
    · simp only [if_true]; exact ⟨ho, deep, sz, cells, h0⟩
    · have : k ≠ j := fun e => hn (e ▸ hj)
      rw [if_neg this]; exact h.gone j hj
  · rw [List.mem_cons, not_or] at hj
    rw [getO_setO, if_neg (fun e => hj.1 e.symm)]; exact h.same j hj.2

theorem inI_clr {L : List Key} {b : Nat} (h : inI c w fp b) : inI c w (clr fp L) b := ⟨h.1, h.2.1, fun k hk => h.2.2 k (mem_clr hk).2⟩
theorem inJ_clr {L : List Key} {b : Nat} (h : inJ c w fp b) : inJ c w (clr fp L) b := ⟨h.1, h.2.1, fun k hk => h.2.2 k (mem_clr hk).2⟩
theorem inI_moved (h : Inv c s a w val fp) {L : List Key} {k : Key} (hk : k ∈ L) {b : Nat} (hb : b ∈ fp k) : inI c w (clr fp L) b := by
  refine ⟨.inr (h.mine k b hb), h.lt hb, fun j hj => ?_⟩
  obtain ⟨h1, h2⟩ := mem_clr hj
  exact h.disj k j (fun e => h1 (e ▸ hk)) b hb h2

/-- The frame once the keys of L have moved. -/
def mkFr1 (c : Ctx) (w : World) (val : Key → Value) (fp : Key → List Nat) (L : List Key) : Fr := mkFr c w val (clr fp L)
theorem RB.clr {L : List Key} {x : T} {v : Value} (h : RB w (inI c w fp) (inJ c w fp) x v) : RB w (inI c w (clr fp L)) (inJ c w (clr fp L)) x v :=
  RB.move h (fun _ hb => ⟨inI_clr hb, rfl⟩) (fun _ hb => ⟨inJ_clr hb, rfl⟩)
theorem clr_more {L M : List Key} {k : Key} {b : Nat} (h : b ∈ clr fp (M ++ L) k) : b ∈ clr fp L k := by
  obtain ⟨h1, h2⟩ := mem_clr h
  unfold clr
  rw [if_neg (fun e => h1 (List.mem_append_right _ e))]
  exact h2
theorem RB.clr_more {L M : List Key} {x : T} {v : Value} (h : RB w (inI c w (Ev.clr fp L)) (inJ c w (Ev.clr fp L)) x v) : RB w (inI c w (Ev.clr fp (M ++ L))) (inJ c w (Ev.clr fp (M ++ L))) x v :=
  RB.move h (fun _ hb => ⟨⟨hb.1, hb.2.1, fun k hk => hb.2.2 k (Ev.clr_more hk)⟩, rfl⟩) (fun _ hb => ⟨⟨hb.1, hb.2.1, fun k hk => hb.2.2 k (Ev.clr_more hk)⟩, rfl⟩)

theorem CR_t {f : Fr} {s : St} {x : T} {v : Value} (h : CR f s (.t x) v) : RB f.w f.I f.J x v := h
theorem scalar_ro {w : World} {I J : Nat → Prop} {x : T} {v : Value} (h : RB w I J x v) (hs : x.scalar = true) : RO w x v [] := by
  cases h with
  | int k n => exact .int k n
  | bool b => exact .bool b
  | str s => exact .str s
  | sl _ _ _ _ _ _ => simp [T.scalar] at hs
  | rref _ _ _ _ => simp [T.scalar] at hs
  | clo _ _ _ => simp [T.scalar] at hs
  | hole _ => simp [T.scalar] at hs
  | mp _ _ _ => simp [T.scalar] at hs

/-- The outcome of a move: a tree; the keys that moved for it. -/
structure MovedC (c : Ctx) (w : World) (fp : Key → List Nat) (L M : List Key) (b : Bool) (x : C) (y : T) (v : Value) (F : List Nat) : Prop where
  rb : RB w (inI c w (clr fp (M ++ L))) (inJ c w (clr fp (M ++ L))) y v
  ro : b = true → RO w y v F ∧ ∀ x, x ∈ F → ∃ k, k ∈ M ∧ x ∈ fp k
  obj : b = true → ∀ k, x = .obj k → k ∈ M

theorem moveC_sound (h : Inv c s0 a w val fp) {L : List Key} (hm : Moved s0 s L) {t : TypeId} {x : C} {v : Value} (hx : CR (mkFr c w val fp) s0 x v) {f : T → Bool → Prog}
    (hr : runP E (moveC P t x f) s l K = some r) : ∃ y b s' l' M F, runP E (f y b) s' l' K = some r ∧ Moved s0 s' (M ++ L) ∧ MovedC c w fp L M b x y v F := by
  unfold moveC at hr
  split at hr
  · rename_i y
    have hy := CR_t hx
    cases hf : flatC P t with
    | true =>
      rw [hf, cond_true, run_iteF] at hr
      replace hr := ev_true hr
      obtain ⟨hs, hr⟩ := hr
      exact ⟨y, true, s, l, [], [], hr, hm, ⟨RB.clr hy, fun _ => ⟨scalar_ro hy hs, by simp⟩, fun _ k e => by cases e⟩⟩
    | false =>
      rw [hf, cond_false] at hr
      exact ⟨y, false, s, l, [], [], hr, hm, ⟨RB.clr hy, (fun h => by cases h), fun _ k e => by cases e⟩⟩
  · have hv : v = .slice none 0 0 := hx
    subst hv
    split at hr
    · rename_i e he
      rw [run_iteF] at hr
      replace hr := ev_true hr
      obtain ⟨hs, hr⟩ := hr
      have hs : 0 < sizeT P e := Nat.le_of_ble_eq_true hs
      exact ⟨_, true, s, l, [], [], hr, hm, ⟨RB.sl (fun _ => undef) hs (by simp) (Nat.le_refl _) (fun h => absurd rfl h) (by simp), fun _ => ⟨RO.nil hs, by simp⟩, fun _ k e => by cases e⟩⟩
    · cases hr
  · rename_i k
    rw [run_getO] at hr
    split at hr
    · rename_i own deep sz cs hk
      cases own with
      | false =>
        rw [cond_false] at hr
        have hk0 : s0.getO k = .arr false deep sz cs := by
          by_cases hl : k ∈ L
          · rcases (hm.gone k hl).1 with e | ⟨j, e⟩ <;> rw [hk] at e <;> cases e
          · rw [← hm.same k hl]; exact hk
        have hv := obj_alive hx hk0
        have hob := h.obs k
        rw [hk0] at hob
        exact ⟨_, false, s, _, [], [], hr, hm, ⟨RB.clr (hv ▸ hob.1), (fun h => by cases h), fun h => by cases h⟩⟩
      | true =>
        rw [cond_true, run_setO] at hr
        obtain ⟨hn, hk0, hm'⟩ := hm.add (o := .gone) (.inl rfl) hk
        have hv := obj_alive hx hk0
        have hob := h.obs k
        rw [hk0] at hob
        obtain ⟨xs, Fg, fs, ho, hF⟩ := own_iff.1 hob
        refine ⟨_, deep, _, _, [k], fp k, hr, hm', ⟨?_, fun hd => ?_, fun _ j e => by cases e; simp⟩⟩
        · rw [hv]
          refine ho.rb (fun b hb => ?_) (fun b hb => inI_clr hb) (fun b hb => inJ_clr hb)
          rw [← hF] at hb
          exact inI_moved h (by simp) hb
        · subst hd
          rw [hv]
          exact ⟨hob, fun x hx => ⟨k, by simp, hx⟩⟩
    · cases hr
  · cases hr

structure MovedCs (c : Ctx) (w : World) (fp : Key → List Nat) (L M : List Key) (b : Bool) (ys : List T) (vs : List Value) (fs : Nat → List Nat) : Prop where
  len : ys.length = vs.length
  rb : ∀ (i : Nat) (y : T) (v : Value), ys[i]? = some y → vs[i]? = some v → RB w (inI c w (clr fp (M ++ L))) (inJ c w (clr fp (M ++ L))) y v
  ro : b = true → (∀ (i : Nat) (y : T) (v : Value), ys[i]? = some y → vs[i]? = some v → RO w y v (fs i)) ∧ ND ys.length fs ∧ ∀ i x, i < ys.length → x ∈ fs i → ∃ k, k ∈ M ∧ x ∈ fp k

theorem moveCs_sound (h : Inv c s0 a w val fp) : ∀ {ts : List TypeId} {L : List Key} {s : St} {l : Log} {cs : List C} {vs : List Value} {f : List T → Bool → Prog}, Moved s0 s L → CRs (mkFr c w val fp) s0 cs vs →
    runP E (moveCs P ts cs f) s l K = some r → ∃ ys b s' l' M fs, runP E (f ys b) s' l' K = some r ∧ Moved s0 s' (M ++ L) ∧ MovedCs c w fp L M b ys vs fs
  | [], L, s, l, [], vs, f, hm, hx, hr => by
    have : vs = [] := List.eq_nil_of_length_eq_zero (by simpa using hx.1.symm)
    subst this
    exact ⟨[], true, s, l, [], fun _ => [], hr, hm, ⟨rfl, by simp, fun _ => ⟨by simp, ND.nil _, by simp⟩⟩⟩
  | t :: ts, L, s, l, x :: cs, [], f, hm, hx, hr => by have := hx.1; simp at this
  | t :: ts, L, s, l, x :: cs, v :: vs, f, hm, hx, hr => by
    rw [moveCs] at hr
    obtain ⟨y, b, s1, l1, M, F, h1, hm1, hc1⟩ := moveC_sound h hm (hx.2 0 x v rfl rfl) hr
    obtain ⟨ys, b', s2, l2, M', fs, h2, hm2, hc2⟩ := moveCs_sound h hm1 ⟨by simpa using hx.1, fun i c v hc hv => hx.2 (i + 1) c v (by simpa using hc) (by simpa using hv)⟩ h1
    have hap : ∀ k, k ∈ M → k ∉ M' := fun k hk hk' => by
      have := hm2.nd
      rw [List.nodup_append] at this
      exact this.2.2 k hk' k (List.mem_append_left _ hk) rfl
    refine ⟨y :: ys, b && b', s2, l2, M' ++ M, fun i => match i with | 0 => F | i + 1 => fs i, h2, by rw [List.append_assoc]; exact hm2, ⟨by simp [hc2.len], fun i z u hz hu => ?_, fun hb => ?_⟩⟩
    · rw [List.append_assoc]
      cases i with
      | zero => simp at hz hu; subst hz; subst hu; exact RB.clr_more hc1.rb
      | succ i => exact hc2.rb i z u (by simpa using hz) (by simpa using hu)
    · rw [Bool.and_eq_true] at hb
      obtain ⟨r1, r2⟩ := hc1.ro hb.1
      obtain ⟨q1, q2, q3⟩ := hc2.ro hb.2
      have cross : ∀ b, b ∈ F → ∀ i, i < ys.length → b ∉ fs i := fun b hb i hi hbi => by
        obtain ⟨k, hk, hbk⟩ := r2 b hb
        obtain ⟨k', hk', hbk'⟩ := q3 i b hi hbi
        exact h.disj k k' (fun e => hap k hk (e ▸ hk')) b hbk hbk'
      refine ⟨fun i z u hz hu => ?_, ⟨fun i hi => ?_, fun i j hi hj hne b hb hb' => ?_⟩, fun i x hi hx => ?_⟩
      · cases i with
        | zero => simp at hz hu; subst hz; subst hu; exact r1
        | succ i => exact q1 i z u (by simpa using hz) (by simpa using hu)
      · cases i with
        | zero => exact r1.nodup
        | succ i => exact q2.1 i (by simpa using hi)
      · cases i with
        | zero =>
          cases j with
          | zero => exact hne rfl
          | succ j => exact cross b hb j (by simpa using hj) hb'
        | succ i =>
          cases j with
          | zero => exact cross b hb' i (by simpa using hi) hb
          | succ j => exact q2.2 i j (by simpa using hi) (by simpa using hj) (by omega) b hb hb'
      · cases i with
        | zero => obtain ⟨k, hk, hb⟩ := r2 x hx; exact ⟨k, List.mem_append_right _ hk, hb⟩
        | succ i => obtain ⟨k, hk, hb⟩ := q3 i x (by simpa using hi) hx; exact ⟨k, List.mem_append_left _ hk, hb⟩
  | [], L, s, l, x :: cs, vs, f, hm, hx, hr => by cases hr
  | t :: ts, L, s, l, [], vs, f, hm, hx, hr => by cases hr

/-- The keys of L have moved, k0 takes up what it takes up. -/
theorem Inv.finish (h : Inv c s a w val fp) {L : List Key} (hm : Moved s s1 L) {k0 : Key} (hk0 : k0 ∉ L) {o' : Ob} {u' : Value} {F' : List Nat} (hturn : Turns (s.getO k0) o' (val k0) u') (hlent : (s.getO k0).isLent = false)
    (hsub : ∀ b, b ∈ F' → (∃ k, (k ∈ L ∨ k = k0) ∧ b ∈ fp k) ∨ w.heap.size ≤ b)
    (hw : ∀ b, b < w.heap.size → (∀ k, k ∈ L ∨ k = k0 → b ∉ fp k) → w'.heap[b]? = w.heap[b]?)
    (hsize : w.heap.size ≤ w'.heap.size) (ho : w'.os = w.os) (ht : w'.tape = w.tape) (hu : w'.output = w.output)
    (hob : Goes (mkFr c w val fp) (mkFr c w' (upd val k0 u') (upd (clr fp L) k0 F')) s (s1.setO k0 o') → ObR (mkFr c w' (upd val k0 u') (upd (clr fp L) k0 F')) (s1.setO k0 o') o' u' F') :
    Inv c (s1.setO k0 o') a w' (upd val k0 u') (upd (clr fp L) k0 F') ∧ Goes (mkFr c w val fp) (mkFr c w' (upd val k0 u') (upd (clr fp L) k0 F')) s (s1.setO k0 o') ∧ Kp c.own w w' := by
  have hL : ∀ k, k ∈ L → k0 ≠ k := fun k hk e => hk0 (e ▸ hk)
  refine h.changes (fun k => k ∈ L ∨ k = k0) hm.tm (fun k hk => ?_) (fun k hk => ?_) (fun k hk => ?_) (fun k b hk hb => ?_) (fun k k' hk hk' hne b hb hb' => ?_) hw hsize ho ht hu (fun g k hk => ?_)
  · rw [not_or] at hk
    have : k0 ≠ k := fun e => hk.2 e.symm
    refine ⟨by rw [getO_setO, if_neg this]; exact hm.same k hk.1, by simp [upd, this], by simp [upd, this, clr, hk.1]⟩
  · rcases hk with hk | rfl
    · obtain ⟨h1, d, sz, cells, h2⟩ := hm.gone k hk
      rw [h2, getO_setO, if_neg (hL k hk)]
      rcases h1 with e | ⟨j, e⟩ <;> rw [e] <;> trivial
    · simpa using hturn
  · rcases hk with hk | rfl
    · obtain ⟨_, d, sz, cells, h2⟩ := hm.gone k hk
      rw [h2]; rfl
    · exact hlent
  · rcases hk with hk | rfl
    · have : b ∈ upd (clr fp L) k0 F' k := hb
      rw [upd_ne _ _ (hL k hk)] at this
      exact absurd hk (mem_clr this).1
    · rw [upd_same] at hb; exact hsub b hb
  · rcases hk with hk | rfl
    · rw [upd_ne _ _ (hL k hk)] at hb
      exact absurd hk (mem_clr hb).1
    · rcases hk' with hk' | rfl
      · rw [upd_ne _ _ (hL k' hk')] at hb'
        exact absurd hk' (mem_clr hb').1
      · exact absurd rfl hne
  · rcases hk with hk | rfl
    · have e1 : (s1.setO k0 o').getO k = s1.getO k := by rw [getO_setO, if_neg (hL k hk)]
      have e2 : upd (clr fp L) k0 F' k = [] := by rw [upd_ne _ _ (hL k hk)]; simp [clr, hk]
      rw [e1, e2]
      rcases (hm.gone k hk).1 with e | ⟨j, e⟩ <;> rw [e] <;> rfl
    · simpa using hob g
end
end Ev
/- Ev: operations. Part D: what writes memory. -/
namespace Ev
open Go

/-! ## cells set -/
theorem setCells_get {α : Type} : ∀ (xs l : List α) (q : Nat) (i : Nat), q + xs.length ≤ l.length → (setCells l q xs)[i]? = if q ≤ i ∧ i < q + xs.length then xs[i - q]? else l[i]?
  | [], l, q, i, h => by rw [if_neg (by simp), setCells]
  | x :: xs, l, q, i, h => by
    simp only [List.length_cons] at h
    rw [setCells, setCells_get xs (l.set q x) (q + 1) i (by simp; omega)]
    by_cases h1 : q = i
    · subst h1
      have : ¬ (q + 1 ≤ q ∧ q < q + 1 + xs.length) := by omega
      rw [if_neg this, if_pos (by simp)]
      have hq : q < l.length := by omega
      simp [hq]
    · by_cases h2 : q + 1 ≤ i ∧ i < q + 1 + xs.length
      · rw [if_pos h2, if_pos (by simp; omega)]
        rw [show i - q = (i - (q + 1)) + 1 by omega]; simp
      · rw [if_neg h2, if_neg (by simp; omega)]
        simp [h1]
theorem setCells_len {α : Type} : ∀ (xs l : List α) (q : Nat), (setCells l q xs).length = l.length
  | [], _, _ => rfl
  | x :: xs, l, q => by rw [setCells, setCells_len xs]; simp
theorem seg_eq {α : Type} (l xs : List α) (q : Nat) (h : q + xs.length ≤ l.length) : l.take q ++ xs ++ l.drop (q + xs.length) = setCells l q xs := by
  apply List.ext_getElem?
  intro i
  rw [setCells_get _ _ _ _ h, List.append_assoc, List.getElem?_append, List.getElem?_append]
  simp only [List.length_take, List.getElem?_take, List.getElem?_drop]
  by_cases h1 : i < q
  · simp [h1, show i < min q l.length by omega, show ¬ q ≤ i by omega]
  · have : ¬ i < min q l.length := by omega
    rw [if_neg this, show min q l.length = q by omega]
    by_cases h2 : i - q < xs.length
    · rw [if_pos h2, if_pos (by omega)]
    · rw [if_neg h2, if_neg (by omega)]
      congr 1; omega
theorem CRs_set {f : Fr} {s : St} {cs : List C} {vs : List Value} (h : CRs f s cs vs) {xs : List C} {us : List Value} (hx : CRs f s xs us) {q : Nat} (hq : q + xs.length ≤ cs.length) : CRs f s (setCells cs q xs) (setCells vs q us) := by
  refine ⟨by rw [setCells_len, setCells_len]; exact h.1, fun i c v hc hv => ?_⟩
  rw [setCells_get _ _ _ _ hq] at hc
  rw [setCells_get _ _ _ _ (by rw [← hx.1, ← h.1]; exact hq), ← hx.1] at hv
  split at hc
  · rename_i h1; rw [if_pos h1] at hv; exact hx.2 _ _ _ hc hv
  · rename_i h1; rw [if_neg h1] at hv; exact h.2 _ _ _ hc hv

theorem VR_cells {f : Fr} {s : St} {v : V} {u : Value} (h : VR f s v u) (hp : 0 < v.cells.length) : CRs f s v.cells u.cells.toList := by
  cases v with
  | one c =>
    rw [cells_one (CR.one h)]
    refine ⟨rfl, fun i c' v' hc hv' => ?_⟩
    cases i with
    | zero => simp [V.cells] at hc hv'; subst hc; subst hv'; exact h
    | succ i => simp [V.cells] at hc
  | agg cs => obtain ⟨vs, rfl, h⟩ := h; exact h
  | tup _ => simp [V.cells] at hp
  | clo _ _ => simp [V.cells] at hp
  | skip => simp [V.cells] at hp
  | any => simp [V.cells] at hp
theorem blt_pos {n : Nat} (h : Nat.blt 0 n = true) : 0 < n := Nat.le_of_ble_eq_true h

theorem foldl_set : ∀ (xs : List Value) (k off : Nat) (cells : Array Value), ((xs.zipIdx k).foldl (fun cs (p : Value × Nat) => cs.setIfInBounds (off + p.2) p.1) cells).toList = setCells cells.toList (off + k) xs
  | [], _, _, _ => rfl
  | x :: xs, k, off, cells => by
    rw [List.zipIdx_cons, List.foldl_cons, foldl_set xs (k + 1) off]
    simp [setCells, Nat.add_assoc]
theorem fill_step (xs cells : Array Value) (off : Nat) : (xs.zipIdx.foldl (fun cs (p : Value × Nat) => cs.setIfInBounds (off + p.2) p.1) cells).toList = setCells cells.toList off xs.toList := by
  have := foldl_set xs.toList 0 off cells
  rw [Nat.add_zero] at this
  rw [← this, ← Array.foldl_toList, Array.toList_zipIdx]

theorem fill_sound {f : Fr} {s : St} {place place' : Nat → Option (Nat × Nat)} (hp : ∀ i, place i = place' i) : ∀ {vs : List (Nat × V)} {us : List (Nat × Value)} {cs : List C} {cells : Array Value} {cs' : List C},
    CRs f s cs cells.toList → vs.length = us.length → (∀ (i : Nat) (p : Nat × V) (u : Nat × Value), vs[i]? = some p → us[i]? = some u → p.1 = u.1 ∧ VR f s p.2 u.2) → fillCs place cs vs = some cs' →
    ∃ cells', Instr.fill place' cells us = some cells' ∧ CRs f s cs' cells'.toList
  | [], [], cs, cells, cs', hc, _, _, hf => by cases hf; exact ⟨cells, rfl, hc⟩
  | [], _ :: _, _, _, _, _, hl, _, _ => by simp at hl
  | _ :: _, [], _, _, _, _, hl, _, _ => by simp at hl
  | (i, v) :: vs, (j, u) :: us, cs, cells, cs', hc, hl, hv, hf => by
    obtain ⟨e1, e2⟩ := hv 0 _ _ rfl rfl
    simp only at e1 e2
    subst e1
    rw [fillCs] at hf
    split at hf
    · rename_i off size hpl
      replace hf := ev_true hf
      obtain ⟨hb, hf⟩ := hf
      rw [Bool.and_eq_true, Bool.and_eq_true] at hb
      have h1 := blt_pos hb.1.1
      have h2 : v.cells.length = size := Nat.eq_of_beq_eq_true hb.1.2
      have h3 := of_decide_eq_true hb.2
      have hvc := VR_cells e2 (by omega)
      have hsz : u.cells.size = size := by have := hvc.1; simp at this; omega
      obtain ⟨cells', r1, r2⟩ := fill_sound hp (cells := (u.cells.zipIdx.foldl (fun cs (p : Value × Nat) => cs.setIfInBounds (off + p.2) p.1) cells)) (us := us) (by
        rw [fill_step]; exact CRs_set hc hvc (by omega)) (by simpa using hl) (fun i p u' hp' hu' => hv (i + 1) p u' (by simpa using hp') (by simpa using hu')) hf
      refine ⟨cells', ?_, r2⟩
      have hcl := hc.1
      simp at hcl
      rw [Instr.fill, ← hp, hpl]
      simp only
      rw [if_neg (by simp; omega)]
      exact r1
    · cases hf

section
variable {P : Program} {A : Attrs} {E : Env} {c : Ctx} {s : St} {a : Act} {w : World} {val : Key → Value} {fp : Key → List Nat}
variable {l : Log} {K : St → Log → R} {r : T × List T}

theorem getPs_sound (h : Inv c s a w val fp) : ∀ {xs : List (Nat × Operand)} {f : List (Nat × V) → Prog} {l : Log}, runP E (getPs xs f) s l K = some r →
    ∃ vs l', runP E (f vs) s l' K = some r ∧ vs.length = (xs.map fun (i, x) => (i, a.eval x)).length ∧
      ∀ (i : Nat) (p : Nat × V) (u : Nat × Value), vs[i]? = some p → (xs.map fun (i, x) => (i, a.eval x))[i]? = some u → p.1 = u.1 ∧ VR (mkFr c w val fp) s p.2 u.2
  | [], f, l, hr => ⟨[], l, hr, rfl, by simp⟩
  | (i, x) :: xs, f, l, hr => by
    rw [getPs] at hr
    obtain ⟨v, l1, h1, hv⟩ := getV_sound h hr
    obtain ⟨vs, l2, h2, hl, hvs⟩ := getPs_sound h h1
    refine ⟨(i, v) :: vs, l2, h2, by simp at hl ⊢; exact hl, fun j p u hp hu => ?_⟩
    cases j with
    | zero => simp at hp hu; subst hp; subst hu; exact ⟨rfl, hv⟩
    | succ j => exact hvs j p u (by simpa using hp) (by simpa using hu)

theorem zeroC_some {t : TypeId} {cs : List C} (h : zeroC P t = some cs) : ∃ i z, P.info? t = some i ∧ i.zero = some z ∧ z.cells.size = i.size ∧ z.cells.toList.all (·.oneCell') = true ∧ cs = z.cells.toList.map ofC := by
  unfold zeroC at h
  split at h
  · rename_i i hi
    split at h
    · rename_i z hz
      replace h := ev_true h
      obtain ⟨hb, h⟩ := h
      rw [Bool.and_eq_true] at hb
      cases h
      exact ⟨i, z, hi, hz, Nat.eq_of_beq_eq_true hb.2, hb.1, rfl⟩
    · cases h
  · cases h
theorem fillV_some {t : TypeId} {z : Option (List C)} {vs : List (Nat × V)} {cs : List C} (h : fillV P t z vs = some cs) : ∃ z' p, z = some z' ∧ placesT P t = some p ∧ fillCs p z' vs = some cs := by
  unfold fillV at h
  split at h
  · rename_i z' p hp; exact ⟨z', p, rfl, hp, h⟩
  · cases h

theorem op_build (h : Inv c s a w val fp) {o : Oper} {t : TypeId} {ps : Array (Nat × Operand)} (ho : o.op = .build t ps) (hd : ∀ d, o.dst = some d → d < a.tmps.size)
    {Q : Exit → Act → World → Prop} (hr : runP E (opP P A o) s l K = some r) : o.wp P a w (Post c w K r) Q := by
  unfold opP at hr
  simp only [ho] at hr
  rw [run_iteF] at hr
  replace hr := ev_true hr
  obtain ⟨hag, hr⟩ := hr
  obtain ⟨vs, l1, h1, hl, hvs⟩ := getPs_sound h hr
  split at h1
  · rename_i cs hcs
    obtain ⟨z', p, hz, hp, hf⟩ := fillV_some hcs
    obtain ⟨i, z, hi, hiz, hzs, hzo, rfl⟩ := zeroC_some hz
    obtain ⟨d, l2, hd', h2⟩ := setD_sound h1
    have fin : ∀ {place' : Nat → Option (Nat × Nat)}, (∀ i, p i = place' i) → (∀ cells, Instr.fill place' z.cells (ps.toList.map fun (i, x) => (i, a.eval x)) = some cells → P.built t (ps.toList.map fun (i, x) => (i, a.eval x)) = some cells) →
        o.wp P a w (Post c w K r) Q := by
      intro place' hpl hb
      obtain ⟨cells', r1, r2⟩ := fill_sound (f := mkFr c w val fp) hpl (CRs_ofC hzo) hl hvs hf
      have hrun := run_build (P := P) w t (ps.map fun (i, x) => (i, a.eval x)) cells' (by simpa using hb _ r1)
      refine wp_value (v := .agg cells') (w' := w) (by simp [execOp, ho, hrun]) ?_
      rw [hd']
      exact post_value (o := o) (x := .agg _) h (hd d hd') ⟨cells', rfl, r2⟩ h2
    unfold placesT at hp
    split at hp
    · rename_i fs hu
      rw [Option.map_eq_some_iff] at hp
      obtain ⟨pl, hpl, rfl⟩ := hp
      exact fin (place' := (pl[·]?)) (fun i => rfl) fun cells hcells => by simpa [Program.built, hi, hu, hiz, hpl] using hcells
    · rename_i m e hu
      rw [Option.map_eq_some_iff] at hp
      obtain ⟨ie, hie, rfl⟩ := hp
      exact fin (place' := fun i => some (i * ie.size, ie.size)) (fun i => rfl) fun cells hcells => by simpa [Program.built, hi, hu, hiz, hie] using hcells
    · rename_i e hu
      simp [isAggT, hu] at hag
    · cases hp
  · cases h1
end
end Ev
