/- Ev: what a step does to the invariant. -/
import Derived.Test.YtfolgfbhllmdiaaGreatDoorEvRel
namespace Ev
open Go

theorem nbeq {i j : Nat} (h : i ≠ j) : Nat.beq i j = false := by
  rw [← Bool.not_eq_true, Nat.beq_eq]; exact h
theorem look_put {α : Type} (d : α) : ∀ (l : List (Nat × α)) (i j : Nat) (v : α), look d (put l i v) j = if i = j then v else look d l j
  | [], i, j, v => by
    simp only [put, look]
    by_cases h : i = j
    · subst h; simp
    · have : Nat.beq i j = false := nbeq h
      simp [this, h]
  | (k, u) :: r, i, j, v => by
    simp only [put]
    by_cases h : k = i
    · subst h
      have : Nat.beq k k = true := by simp
      simp only [this, cond_true, look]
      by_cases h2 : k = j
      · subst h2; simp
      · have : Nat.beq k j = false := nbeq h2
        simp [this, h2]
    · have h1 : Nat.beq k i = false := nbeq h
      simp only [h1, cond_false, look, look_put d r i j v]
      by_cases h2 : k = j
      · subst h2
        simp [Ne.symm h]
      · have : Nat.beq k j = false := nbeq h2
        simp [this]
@[simp] theorem getT_setT (s : St) (i j : Nat) (v : V) : (s.setT i v).getT j = if i = j then v else s.getT j := look_put _ _ _ _ _
@[simp] theorem getO_setT (s : St) (i : Nat) (v : V) (k : Key) : (s.setT i v).getO k = s.getO k := rfl
@[simp] theorem getT_setO (s : St) (k : Key) (o : Ob) (i : Nat) : (s.setO k o).getT i = s.getT i := rfl
@[simp] theorem getO_setO (s : St) (k j : Key) (o : Ob) : (s.setO k o).getO j = if k = j then o else s.getO j := look_put _ _ _ _ _

def upd {α : Type} (f : Key → α) (k : Key) (x : α) : Key → α := fun j => if k = j then x else f j
@[simp] theorem upd_same {α : Type} (f : Key → α) (k : Key) (x : α) : upd f k x k = x := by simp [upd]
theorem upd_ne {α : Type} (f : Key → α) {k j : Key} (x : α) (h : k ≠ j) : upd f k x j = f j := by simp [upd, h]

section
variable {c : Ctx} {s s' : St} {a : Act} {w w' : World} {val val' : Key → Value} {fp fp' : Key → List Nat}


theorem Inv.changes (h : Inv c s a w val fp) (Ks : Key → Prop)
    (htm : ∀ i, s'.getT i = s.getT i)
    (hsame : ∀ k, ¬ Ks k → s'.getO k = s.getO k ∧ val' k = val k ∧ fp' k = fp k)
    (hturn : ∀ k, Ks k → Turns (s.getO k) (s'.getO k) (val k) (val' k))
    (hsub : ∀ k b, Ks k → b ∈ fp' k → (∃ k1, Ks k1 ∧ b ∈ fp k1) ∨ w.heap.size ≤ b)
    (hdis : ∀ k k', Ks k → Ks k' → k ≠ k' → ∀ b, b ∈ fp' k → b ∉ fp' k')
    (hw : ∀ b, b < w.heap.size → (∀ k, Ks k → b ∉ fp k) → w'.heap[b]? = w.heap[b]?)
    (hsize : w.heap.size ≤ w'.heap.size) (ho : w'.os = w.os) (ht : w'.tape = w.tape) (hu : w'.output = w.output)
    (hob : Goes (mkFr c w val fp) (mkFr c w' val' fp') s s' → ∀ k, Ks k → ObR (mkFr c w' val' fp') s' (s'.getO k) (val' k) (fp' k)) :
    Inv c s' a w' val' fp' ∧ Goes (mkFr c w val fp) (mkFr c w' val' fp') s s' ∧ Kp c.own w w' := by
  have hfree : ∀ b, b < w.heap.size → (∀ k, b ∉ fp k) → ∀ k, b ∉ fp' k := by
    intro b hb hn k hk
    by_cases hK : Ks k
    · rcases hsub k b hK hk with ⟨k1, _, h1⟩ | h1
      · exact hn k1 h1
      · omega
    · rw [(hsame k hK).2.2] at hk; exact hn k hk
  have g : Goes (mkFr c w val fp) (mkFr c w' val' fp') s s' := by
    refine ⟨fun b hb => ⟨⟨hb.1, Nat.lt_of_lt_of_le hb.2.1 hsize, hfree b hb.2.1 hb.2.2⟩, hw b hb.2.1 fun k _ => hb.2.2 k⟩,
      fun b hb => ⟨⟨hb.1, Nat.lt_of_lt_of_le hb.2.1 hsize, hfree b hb.2.1 hb.2.2⟩, hw b hb.2.1 fun k _ => hb.2.2 k⟩, fun k => ?_⟩
    by_cases hK : Ks k
    · exact hturn k hK
    · show Turns (s.getO k) (s'.getO k) (val k) (val' k)
      rw [(hsame k hK).1, (hsame k hK).2.1]; exact Turns.refl _ _
  refine ⟨⟨fun k => ?_, fun i => ?_, fun k k' hne b hb hb' => ?_, fun k b hb => ?_, Nat.le_trans h.size hsize, h.defers, h.ij⟩, g, ⟨ho, ht, hu, hsize, fun b hb hn => hw b hb fun k _ hk => hn (h.mine k b hk)⟩⟩
  · by_cases hK : Ks k
    · exact hob g k hK
    · obtain ⟨e1, e2, e3⟩ := hsame k hK
      rw [e1, e2, e3]
      exact (h.obs k).goes g fun b hb => hw b (h.lt hb) fun k1 hk1 hb1 => h.disj k k1 (fun e => hK (e ▸ hk1)) b hb hb1
  · rw [htm i]; exact (h.tms i).goes g
  · by_cases hK : Ks k
    · by_cases hK' : Ks k'
      · exact hdis k k' hK hK' hne b hb hb'
      · rw [(hsame k' hK').2.2] at hb'
        rcases hsub k b hK hb with ⟨k1, hk1, h1⟩ | h1
        · exact h.disj k1 k' (fun e => hK' (e ▸ hk1)) b h1 hb'
        · have := h.lt hb'; omega
    · rw [(hsame k hK).2.2] at hb
      by_cases hK' : Ks k'
      · rcases hsub k' b hK' hb' with ⟨k1, hk1, h1⟩ | h1
        · exact h.disj k k1 (fun e => hK (e ▸ hk1)) b hb h1
        · have := h.lt hb; omega
      · rw [(hsame k' hK').2.2] at hb'
        exact h.disj k k' hne b hb hb'
  · by_cases hK : Ks k
    · rcases hsub k b hK hb with ⟨k1, _, h1⟩ | h1
      · exact h.mine k1 b h1
      · exact .inl (Nat.le_trans h.size h1)
    · rw [(hsame k hK).2.2] at hb; exact h.mine k b hb

/-- One key turns. -/
theorem Inv.change1 (h : Inv c s a w val fp) (k0 : Key) (o' : Ob) (u' : Value) (F' : List Nat)
    (hturn : Turns (s.getO k0) o' (val k0) u')
    (hsub : ∀ b, b ∈ F' → b ∈ fp k0 ∨ w.heap.size ≤ b)
    (hw : ∀ b, b < w.heap.size → b ∉ fp k0 → w'.heap[b]? = w.heap[b]?)
    (hsize : w.heap.size ≤ w'.heap.size) (ho : w'.os = w.os) (ht : w'.tape = w.tape) (hu : w'.output = w.output)
    (hob : Goes (mkFr c w val fp) (mkFr c w' (upd val k0 u') (upd fp k0 F')) s (s.setO k0 o') → ObR (mkFr c w' (upd val k0 u') (upd fp k0 F')) (s.setO k0 o') o' u' F') :
    Inv c (s.setO k0 o') a w' (upd val k0 u') (upd fp k0 F') ∧ Goes (mkFr c w val fp) (mkFr c w' (upd val k0 u') (upd fp k0 F')) s (s.setO k0 o') ∧ Kp c.own w w' := by
  refine h.changes (· = k0) (fun _ => rfl) (fun k hk => ?_) ?_ ?_ ?_ (fun b hb hn => hw b hb (hn k0 rfl)) hsize ho ht hu ?_
  · have : k0 ≠ k := fun e => hk e.symm
    simp [upd, this]
  · rintro k rfl; simpa using hturn
  · rintro k b rfl hb
    simp only [upd_same] at hb
    exact (hsub b hb).imp (fun h => ⟨k, rfl, h⟩) id
  · rintro k k' rfl rfl hne; exact absurd rfl hne
  · rintro g k rfl; simpa using hob g

/-- No key turns, the heap stays. -/
theorem Inv.world (h : Inv c s a w val fp) (hh : w'.heap = w.heap) (ho : w'.os = w.os) (ht : w'.tape = w.tape) (hu : w'.output = w.output) :
    Inv c s a w' val fp ∧ Kp c.own w w' := by
  have := h.changes (s' := s) (w' := w') (val' := val) (fp' := fp) (fun _ => False) (fun _ => rfl) (fun _ _ => ⟨rfl, rfl, rfl⟩) (fun _ h => h.elim) (fun _ _ h => h.elim) (fun _ _ h => h.elim)
    (fun b _ _ => by rw [hh]) (by rw [hh]; exact Nat.le_refl _) ho ht hu (fun _ _ h => h.elim)
  exact ⟨this.1, this.2.2⟩

theorem CR.setT {f : Fr} {s : St} {x : C} {v : Value} (h : CR f s x v) (i : Nat) (y : V) : CR f (s.setT i y) x v := by
  cases x <;> exact h
theorem CRs.setT {f : Fr} {s : St} {cs : List C} {vs : List Value} (h : CRs f s cs vs) (i : Nat) (y : V) : CRs f (s.setT i y) cs vs :=
  ⟨h.1, fun j c v hc hv => (h.2 j c v hc hv).setT i y⟩
theorem VR.setT {f : Fr} {s : St} {x : V} {v : Value} (h : VR f s x v) (i : Nat) (y : V) : VR f (s.setT i y) x v := by
  cases x with
  | one c => exact CR.setT h i y
  | agg cs => obtain ⟨vs, e, h⟩ := h; exact ⟨vs, e, h.setT i y⟩
  | tup ps =>
    obtain ⟨us, e, hl, h⟩ := h
    refine ⟨us, e, hl, fun j p u hp hu => ?_⟩
    rcases h j p u hp hu with ⟨h1, vs, h2, h3⟩ | ⟨h1, c, h2, h3⟩
    · exact .inl ⟨h1, vs, h2, h3.setT i y⟩
    · exact .inr ⟨h1, c, h2, CR.setT h3 i y⟩
  | clo fn cs => obtain ⟨vs, e, h⟩ := h; exact ⟨vs, e, h.setT i y⟩
  | skip => exact h
  | any => trivial
theorem ObR.setT {f : Fr} {s : St} {o : Ob} {u : Value} {F : List Nat} (h : ObR f s o u F) (i : Nat) (y : V) : ObR f (s.setT i y) o u F := by
  cases o with
  | box cs =>
    obtain ⟨b, cur, e, hu, rfl, hh, hc⟩ := h
    exact ⟨b, cur, e, hu, rfl, hh, hc.setT i y⟩
  | arr own deep sz cells => exact h
  | free => exact h
  | gone => exact h
  | moved k => exact h
theorem Inv.setT (h : Inv c s a w val fp) {d : Nat} {x : V} {v : Value} (hd : d < a.tmps.size) (hv : VR (mkFr c w val fp) s x v) : Inv c (s.setT d x) (a.put (some d) v) w val fp := by
  refine ⟨fun k => (h.obs k).setT d x, fun i => ?_, h.disj, h.mine, h.size, h.defers, h.ij⟩
  rw [getT_setT]
  have he : (a.put (some d) v).tmps.getD i undef = if d = i then v else a.tmps.getD i undef := by
    simp only [Act.put, Array.getD_eq_getD_getElem?]
    by_cases hi : d = i
    · subst hi; simp [hd]
    · rw [Array.getElem?_setIfInBounds_ne hi, if_neg hi]
  rw [he]
  by_cases hi : d = i
  · subst hi; simpa using hv.setT d x
  · simpa [hi] using (h.tms i).setT d x
end
end Ev
