/- Ev: what is done to a state between operations. -/
import Derived.Test.YtmcfccgmhinpdaaGreatDoorEvOrder
namespace Ev
open Go

theorem look_map {α β : Type} (d : α) (g : α → β) : ∀ (l : List (Nat × α)) (i : Nat), look (g d) (l.map fun q => (q.1, g q.2)) i = g (look d l i)
  | [], _ => rfl
  | (j, v) :: r, i => by
    simp only [List.map_cons, look]
    cases Nat.beq j i
    · exact look_map d g r i
    · rfl
theorem look_filter {α : Type} (d : α) (p : Nat → Bool) : ∀ (l : List (Nat × α)) (i : Nat), look d (l.filter fun q => p q.1) i = if p i = true then look d l i else d
  | [], i => by simp [look]
  | (j, v) :: r, i => by
    have ih := look_filter d p r i
    have e : ((j, v) :: r).filter (fun q => p q.1) = if p j = true then (j, v) :: r.filter (fun q => p q.1) else r.filter (fun q => p q.1) := List.filter_cons
    rw [e]
    cases hp : p j with
    | true =>
      simp only [if_true, look]
      cases hj : Nat.beq j i with
      | true =>
        have : j = i := Nat.eq_of_beq_eq_true hj
        subst this
        rw [if_pos hp]; rfl
      | false => simp only [cond_false]; exact ih
    | false =>
      simp only [Bool.false_eq_true, if_false, look]
      rw [ih]
      cases hj : Nat.beq j i with
      | true =>
        have : j = i := Nat.eq_of_beq_eq_true hj
        subst this
        rw [if_neg (by simp [hp]), if_neg (by simp [hp])]
      | false => rfl

theorem getT_map (f : C → C) (s : St) (i : Nat) : (s.map f).getT i = mapV f (s.getT i) := look_map V.any (mapV f) s.tm i
theorem getO_map (f : C → C) (s : St) (k : Key) : (s.map f).getO k = mapO f (s.getO k) := look_map Ob.free (mapO f) s.ob k
theorem getT_clear (p : Key → Bool) (s : St) (i : Nat) : (s.clear p).getT i = mapV (killC p) (s.getT i) := getT_map _ _ _
theorem getO_clear (p : Key → Bool) (s : St) (k : Key) : (s.clear p).getO k = if p k = true then .free else mapO (killC p) (s.getO k) := by
  have h : (s.clear p).getO k = look Ob.free ((s.map (killC p)).ob.filter fun (j, _) => !p j) k := rfl
  rw [h, look_filter Ob.free (fun j => !p j)]
  have h2 := getO_map (killC p) s k
  unfold St.getO at h2 ⊢
  rw [h2]
  cases p k <;> simp

section
variable {c : Ctx} {s s' : St} {a : Act} {w : World} {val val' : Key → Value} {fp fp' : Key → List Nat}

/-- Cells turned by f lead on rightly. -/
structure Leads (fr fr' : Fr) (s s' : St) (f : C → C) : Prop where
  cr : ∀ x v, CR fr s x v → CR fr' s' (f x) v
theorem Leads.crs {fr fr' : Fr} {f : C → C} (h : Leads fr fr' s s' f) {cs : List C} {vs : List Value} (hc : CRs fr s cs vs) : CRs fr' s' (cs.map f) vs := by
  refine ⟨by simpa using hc.1, fun i x v hx hv => ?_⟩
  rw [List.getElem?_map, Option.map_eq_some_iff] at hx
  obtain ⟨y, hy, rfl⟩ := hx
  exact h.cr y v (hc.2 i y v hy hv)
theorem Leads.vr {fr fr' : Fr} {f : C → C} (h : Leads fr fr' s s' f) {x : V} {v : Value} (hv : VR fr s x v) : VR fr' s' (mapV f x) v := by
  cases x with
  | one y => exact h.cr y v hv
  | agg cs => obtain ⟨vs, e, hc⟩ := hv; exact ⟨vs, e, h.crs hc⟩
  | tup ps =>
    obtain ⟨us, e, hl, hp⟩ := hv
    refine ⟨us, e, by simpa using hl, fun i p u hpi hu => ?_⟩
    rw [List.getElem?_map, Option.map_eq_some_iff] at hpi
    obtain ⟨⟨b, cs⟩, hq, rfl⟩ := hpi
    rcases hp i _ u hq hu with ⟨h1, vs, h2, h3⟩ | ⟨h1, y, h2, h3⟩
    · exact .inl ⟨h1, vs, h2, h.crs h3⟩
    · simp only at h1 h2
      subst h2
      exact .inr ⟨h1, f y, rfl, h.cr y u h3⟩
  | clo fn cs => obtain ⟨vs, e, hc⟩ := hv; exact ⟨vs, e, h.crs hc⟩
  | skip => exact hv
  | any => trivial

/-- The memory stays; keys turn, blocks leave what is one's own. -/
theorem Inv.recast (h : Inv c s a w val fp) {f : C → C} (uo : Ob → Ob) (huo : (∀ o, uo o = o) ∨ ∀ o, uo o = unlend o) (g : Key → Option Key) (hl : Leads (mkFr c w val fp) (mkFr c w val' fp') s s' f)
    (ht : ∀ i, s'.getT i = mapV f (s.getT i) ∨ s'.getT i = .any)
    (hg : ∀ k, (g k = none ∧ s'.getO k = .free ∧ fp' k = []) ∨ ∃ j, g k = some j ∧ s'.getO k = uo (mapO f (s.getO j)) ∧ val' k = val j ∧ fp' k = fp j) (hinj : ∀ k k' j, g k = some j → g k' = some j → k = k')
    (hrb : ∀ x v, RB w (inI c w fp) (inJ c w fp) x v → RB w (inI c w fp') (inJ c w fp') x v) : Inv c s' a w val' fp' := by
  have shr : ∀ {sz : Nat} {cells : List T} {u : Value} {F : List Nat}, ShR (mkFr c w val fp) sz cells u F → ShR (mkFr c w val' fp') sz cells u F := fun hob => by
    rcases hob with h1 | ⟨g', len, cap, cur, e, vs, r0, r1, r2, r3, r4, r5, r6, r7, r8, r9⟩
    · exact .inl h1
    · exact .inr ⟨g', len, cap, cur, e, vs, r0, r1, r2, r3, r4, r5, r6, r7, r8, fun i x hx => hrb x _ (r9 i x hx)⟩
  refine ⟨fun k => ?_, fun i => ?_, fun k k' hne b hb hb' => ?_, fun k b hb => ?_, h.size, h.defers, h.ij⟩
  · rcases hg k with ⟨_, e1, e2⟩ | ⟨j, _, e1, e2, e3⟩
    · rw [e1, e2]; rfl
    · rw [e1, e2, e3]
      have hob := h.obs j
      have un : ∀ {o : Ob}, ObR (mkFr c w val' fp') s' o (val j) (fp j) → ObR (mkFr c w val' fp') s' (uo o) (val j) (fp j) := fun {o} ho => by
        rcases huo with e | e
        · rw [e]; exact ho
        · rw [e]
          cases o with
          | lent deep sz cells => cases deep <;> exact ho
          | _ => exact ho
      refine un ?_
      cases ho : s.getO j with
      | box cs =>
        rw [ho] at hob
        obtain ⟨b, cur, e, hu, hF, hh, hc⟩ := hob
        exact ⟨b, cur, e, hu, hF, hh, hl.crs hc⟩
      | arr own deep sz cells =>
        rw [ho] at hob
        cases own with
        | true =>
          cases deep with
          | true => exact hob
          | false => exact shr hob
        | false => exact ⟨hrb _ _ hob.1, hob.2⟩
      | free => rw [ho] at hob; exact hob
      | gone => rw [ho] at hob; exact hob
      | moved k' => rw [ho] at hob; exact hob
      | lent deep sz cells =>
        rw [ho] at hob
        cases deep with
        | true => exact hob
        | false => exact shr hob
      | opn sz cells ws =>
        rw [ho] at hob
        obtain ⟨g', len, cap, cur, e, vs, fs, r0, r1, r2, r3, r4, r5, r6, r7, r8, r9, r10⟩ := hob
        refine ⟨g', len, cap, cur, e, vs, fs, r0, r1, ⟨r2.1, fun i hi => r2.2 i (by rw [findW_map] at hi; simpa using hi)⟩, r3, r4, r5, r6, r7, r8, fun i x hx => ?_, r10⟩
        have := r9 i x hx
        unfold WR at *
        rw [findW_map]
        cases hc : findW ws i with
        | none => rw [hc] at this; exact this
        | some c => rw [hc] at this; exact ⟨hl.cr _ _ this.1, this.2⟩
      | mp l => rw [ho] at hob; exact hob
  · rcases ht i with e | e
    · rw [e]; exact hl.vr (h.tms i)
    · rw [e]; trivial
  · rcases hg k with ⟨_, _, e2⟩ | ⟨j, e0, _, _, e3⟩
    · rw [e2] at hb; simp at hb
    · rcases hg k' with ⟨_, _, e2'⟩ | ⟨j', e0', _, _, e3'⟩
      · rw [e2'] at hb'; simp at hb'
      · rw [e3] at hb
        rw [e3'] at hb'
        exact h.disj j j' (fun e => hne (hinj k k' j e0 (e ▸ e0'))) b hb hb'
  · rcases hg k with ⟨_, _, e2⟩ | ⟨j, _, _, _, e3⟩
    · rw [e2] at hb; simp at hb
    · rw [e3] at hb; exact h.mine j b hb

theorem ref_map {o : Ob} {f : C → C} {p : Prop} : (mapO f o).ref p ↔ o.ref p := by cases o <;> exact Iff.rfl

theorem Inv.clear (h : Inv c s a w val fp) (p : Key → Bool) : ∃ fp', Inv c (s.clear p) a w val fp' := by
  let fp' : Key → List Nat := fun k => if p k = true then [] else fp k
  have hsub : ∀ k b, b ∈ fp' k → b ∈ fp k := fun k b hb => by
    simp only [fp'] at hb
    split at hb
    · simp at hb
    · exact hb
  have hrb : ∀ x v, RB w (inI c w fp) (inJ c w fp) x v → RB w (inI c w fp') (inJ c w fp') x v := fun x v hx =>
    RB.move hx (fun b hb => ⟨⟨hb.1, hb.2.1, fun k hk => hb.2.2 k (hsub k b hk)⟩, rfl⟩) (fun b hb => ⟨⟨hb.1, hb.2.1, fun k hk => hb.2.2 k (hsub k b hk)⟩, rfl⟩)
  refine ⟨fp', h.recast (f := killC p) (val' := val) id (.inl fun _ => rfl) (fun k => if p k = true then none else some k) ⟨fun x v hx => ?_⟩ (fun i => .inl (getT_clear p s i)) (fun k => ?_) (fun k k' j h1 h2 => ?_) hrb⟩
  · cases x with
    | t y => exact hrb y v hx
    | nil => exact hx
    | undef => exact hx
    | ptr k q =>
      show CR _ _ (bif p k then C.undef else C.ptr k q) v
      cases hp : p k with
      | true => exact CR.one hx
      | false =>
        refine ⟨?_, hx.2⟩
        rw [getO_clear, hp]
        exact ref_map.2 hx.1
    | view y =>
      have key : ∀ b, Lent (mkFr c w val fp) s b → Lent (mkFr c w val fp') (s.clear p) b ∨ (inI c w fp' b ∧ inJ c w fp' b) := by
        rintro b ⟨k, hk, hb⟩
        have hb : b ∈ fp k := hb
        cases hp : p k with
        | true =>
          have hn : ∀ j, b ∉ fp' j := fun j hj => by
            have hj' := hsub j b hj
            by_cases hjk : j = k
            · subst hjk; simp [fp', hp] at hj
            · exact h.disj j k hjk b hj' hb
          exact .inr ⟨⟨.inr (h.mine k b hb), h.lt hb, hn⟩, ⟨.inr (h.mine k b hb), h.lt hb, hn⟩⟩
        | false =>
          refine .inl ⟨k, ?_, by show b ∈ fp' k; simp [fp', hp]; exact hb⟩
          rw [getO_clear, hp]
          simp only [Bool.false_eq_true, if_false]
          revert hk
          cases s.getO k <;> simp [mapO, Ob.isLent]
      have hx : RB w (fun b => inI c w fp b ∨ Lent (mkFr c w val fp) s b) (fun b => inJ c w fp b ∨ Lent (mkFr c w val fp) s b) y v := hx
      refine RB.move hx (fun b hb => ⟨?_, rfl⟩) (fun b hb => ⟨?_, rfl⟩)
      · rcases hb with hb | hb
        · exact .inl ⟨hb.1, hb.2.1, fun k hk => hb.2.2 k (hsub k b hk)⟩
        · exact (key b hb).symm.imp (fun h => h.1) id
      · rcases hb with hb | hb
        · exact .inl ⟨hb.1, hb.2.1, fun k hk => hb.2.2 k (hsub k b hk)⟩
        · exact (key b hb).symm.imp (fun h => h.2) id
    | obj k =>
      show CR _ _ (bif p k then C.undef else C.obj k) v
      cases hp : p k with
      | true => exact CR.one hx
      | false =>
        refine ⟨?_, hx.2⟩
        rw [getO_clear, hp]
        exact ref_map.2 hx.1
  · cases hp : p k with
    | true => exact .inl ⟨by simp, by rw [getO_clear, hp]; simp, by simp [fp', hp]⟩
    | false => exact .inr ⟨k, by simp, by rw [getO_clear, hp]; simp, rfl, by simp [fp', hp]⟩
  · split at h1
    · cases h1
    · split at h2
      · cases h2
      · cases h1; cases h2; rfl

theorem look_none {α : Type} (d : α) : ∀ (l : List (Nat × α)) (i : Nat), (∀ q, q ∈ l → q.1 ≠ i) → look d l i = d
  | [], _, _ => rfl
  | (j, v) :: r, i, h => by
    rw [look, nbeq (h (j, v) (by simp))]
    exact look_none d r i fun q hq => h q (by simp [hq])
theorem look_ren {α : Type} (d : α) (k k' : Key) (hne : k ≠ k') : ∀ (l : List (Nat × α)), (∀ q, q ∈ l → q.1 ≠ k) → ∀ j, look d (l.map fun q => (renK k k' q.1, q.2)) j = if j = k then look d l k' else if j = k' then d else look d l j
  | [], _, j => by simp [look]
  | (i, v) :: r, h, j => by
    have ih := look_ren d k k' hne r (fun q hq => h q (by simp [hq])) j
    have hik : i ≠ k := h (i, v) (by simp)
    rw [List.map_cons]
    show (bif Nat.beq (renK k k' i) j then v else look d (r.map fun q => (renK k k' q.1, q.2)) j) = if j = k then (bif Nat.beq i k' then v else look d r k') else if j = k' then d else (bif Nat.beq i j then v else look d r j)
    by_cases hi : i = k'
    · subst hi
      have eK : renK k i i = k := by unfold renK; simp
      have e1 : Nat.beq i i = true := by simp
      rw [eK, e1]
      simp only [cond_true]
      by_cases hj : j = k
      · subst hj
        have e2 : Nat.beq j j = true := by simp
        rw [e2, if_pos rfl]; rfl
      · rw [nbeq (fun e => hj e.symm), if_neg hj]
        simp only [cond_false]
        rw [ih, if_neg hj]
        by_cases hj' : j = i
        · rw [if_pos hj', if_pos hj']
        · rw [if_neg hj', if_neg hj', nbeq (fun e => hj' e.symm)]; rfl
    · have eK : renK k k' i = i := by unfold renK; rw [nbeq hi]; rfl
      rw [eK, nbeq hi]
      simp only [cond_false]
      by_cases hj : j = k
      · subst hj
        rw [nbeq hik, if_pos rfl]
        simp only [cond_false]
        rw [ih, if_pos rfl]
      · rw [if_neg hj]
        by_cases hj' : j = k'
        · subst hj'
          rw [nbeq hi, if_pos rfl]
          simp only [cond_false]
          rw [ih, if_neg hj, if_pos rfl]
        · rw [if_neg hj']
          cases hij : Nat.beq i j with
          | true => rfl
          | false => simp only [cond_false]; rw [ih, if_neg hj, if_neg hj']

theorem clear_keys (p : Key → Bool) (s : St) : ∀ q, q ∈ (s.clear p).ob → p q.1 = false := by
  intro q hq
  have : q ∈ (s.map (killC p)).ob.filter fun (k, _) => !p k := hq
  rw [List.mem_filter] at this
  simpa using this.2

theorem Inv.rename (h : Inv c s a w val fp) (k k' : Key) : ∃ val' fp', Inv c (s.rename k k') a w val' fp' := by
  obtain ⟨fp0, h0⟩ := h.clear (Nat.beq k)
  by_cases hne : k = k'
  · subst hne
    -- nothing is left that bears the name
    have hren : ∀ x, renC k k x = x := fun x => by
      cases x with
      | ptr j q =>
        show (bif Nat.beq j k then C.ptr k q else C.ptr j q) = C.ptr j q
        cases hj : Nat.beq j k with
        | true => rw [Nat.eq_of_beq_eq_true hj]; rfl
        | false => rfl
      | obj j =>
        show (bif Nat.beq j k then C.obj k else C.obj j) = C.obj j
        cases hj : Nat.beq j k with
        | true => rw [Nat.eq_of_beq_eq_true hj]; rfl
        | false => rfl
      | _ => rfl
    have hid : renC k k = id := funext hren
    have hK : ∀ j, renK k k j = j := fun j => by
      unfold renK
      cases hj : Nat.beq j k with
      | true => rw [Nat.eq_of_beq_eq_true hj]; rfl
      | false => rfl
    refine ⟨val, fp0, h0.eqv ⟨fun i => ?_, fun j => ?_⟩⟩
    · show (((s.clear (Nat.beq k)).map (renC k k)).getT i) = _
      rw [getT_map, hid]
      cases (s.clear (Nat.beq k)).getT i <;> simp [mapV]
    · have e : (s.rename k k).getO j = look Ob.free (((s.clear (Nat.beq k)).map (renC k k)).ob.map fun (j, o) => (renK k k j, o)) j := rfl
      rw [e]
      simp only [hK]
      have e2 : (((s.clear (Nat.beq k)).map (renC k k)).ob.map fun x : Key × Ob => (x.1, x.2)) = ((s.clear (Nat.beq k)).map (renC k k)).ob := by simp
      rw [e2]
      have e3 := getO_map (renC k k) (s.clear (Nat.beq k)) j
      unfold St.getO at e3 ⊢
      rw [e3, hid]
      cases look Ob.free (s.clear (Nat.beq k)).ob j <;> simp [mapO]
  · have hO : ∀ j, (s.rename k k').getO j = if j = k then mapO (renC k k') ((s.clear (Nat.beq k)).getO k') else if j = k' then .free else mapO (renC k k') ((s.clear (Nat.beq k)).getO j) := fun j => by
      have e : (s.rename k k').getO j = look Ob.free (((s.clear (Nat.beq k)).map (renC k k')).ob.map fun (j, o) => (renK k k' j, o)) j := rfl
      have hkeys : ∀ q, q ∈ ((s.clear (Nat.beq k)).map (renC k k')).ob → q.1 ≠ k := by
        intro q hq
        have : q ∈ (s.clear (Nat.beq k)).ob.map fun (k_1, o) => (k_1, mapO (renC k k') o) := hq
        rw [List.mem_map] at this
        obtain ⟨q', hq', rfl⟩ := this
        have := clear_keys (Nat.beq k) s q' hq'
        intro e
        simp only at e
        rw [e] at this
        simp at this
      rw [e, look_ren Ob.free k k' hne _ hkeys]
      have e3 : ∀ j, look Ob.free ((s.clear (Nat.beq k)).map (renC k k')).ob j = mapO (renC k k') ((s.clear (Nat.beq k)).getO j) := fun j => getO_map (renC k k') (s.clear (Nat.beq k)) j
      rw [e3, e3]
    have hkfree : (s.clear (Nat.beq k)).getO k = .free := by rw [getO_clear]; simp
    let val' : Key → Value := fun j => if j = k then val k' else val j
    let fp' : Key → List Nat := fun j => if j = k then fp0 k' else if j = k' then [] else fp0 j
    have hrb : ∀ x v, RB w (inI c w fp0) (inJ c w fp0) x v → RB w (inI c w fp') (inJ c w fp') x v := fun x v hx => by
      have key : ∀ b, (∀ j, b ∉ fp0 j) → ∀ j, b ∉ fp' j := fun b hb j hj => by
        simp only [fp'] at hj
        split at hj
        · exact hb k' hj
        · split at hj
          · simp at hj
          · exact hb j hj
      exact RB.move hx (fun b hb => ⟨⟨hb.1, hb.2.1, key b hb.2.2⟩, rfl⟩) (fun b hb => ⟨⟨hb.1, hb.2.1, key b hb.2.2⟩, rfl⟩)
    refine ⟨val', fp', h0.recast (f := renC k k') id (.inl fun _ => rfl) (fun j => if j = k then some k' else if j = k' then none else some j) ⟨fun x v hx => ?_⟩ (fun i => .inl ?_) (fun j => ?_) (fun j j' i h1 h2 => ?_) hrb⟩
    · have refs : ∀ (j : Key) (q : Value → Prop), ((s.clear (Nat.beq k)).getO j).ref (q (val j)) → ((s.rename k k').getO (renK k k' j)).ref (q (val' (renK k k' j))) := by
        intro j q hq
        unfold renK
        cases hj : Nat.beq j k' with
        | true =>
          have : j = k' := Nat.eq_of_beq_eq_true hj
          subst this
          simp only [cond_true, val', if_true]
          rw [hO, if_pos rfl]
          exact ref_map.2 hq
        | false =>
          have hj' : j ≠ k' := fun e => by rw [e] at hj; simp at hj
          have hjk : j ≠ k := fun e => by
            rw [e, hkfree] at hq
            exact hq.elim
          simp only [cond_false, val', if_neg hjk]
          rw [hO, if_neg hjk, if_neg hj']
          exact ref_map.2 hq
      cases x with
      | t y => exact hrb y v hx
      | nil => exact hx
      | undef => exact hx
      | ptr j q =>
        have := refs j (fun u => ptrTo u q v) hx.1
        show CR _ _ (bif Nat.beq j k' then C.ptr k q else C.ptr j q) v
        unfold renK at this
        cases hj : Nat.beq j k' with
        | true => rw [hj] at this; exact ⟨this, hx.2⟩
        | false => rw [hj] at this; exact ⟨this, hx.2⟩
      | view y =>
        have key : ∀ b, Lent (mkFr c w val fp0) (s.clear (Nat.beq k)) b → Lent (mkFr c w val' fp') (s.rename k k') b := by
          rintro b ⟨j, hj, hb⟩
          have hb : b ∈ fp0 j := hb
          have lm : ∀ o : Ob, o.isLent = true → (mapO (renC k k') o).isLent = true := fun o ho => by cases o <;> first | exact ho | cases ho
          have hjk : j ≠ k := fun e => by rw [e, hkfree] at hj; cases hj
          by_cases hj' : j = k'
          · refine ⟨k, by rw [hO, if_pos rfl]; exact lm _ (hj' ▸ hj), ?_⟩
            show b ∈ fp' k
            simp only [fp', if_true]; exact hj' ▸ hb
          · refine ⟨j, by rw [hO, if_neg hjk, if_neg hj']; exact lm _ hj, ?_⟩
            show b ∈ fp' j
            simp only [fp', if_neg hjk, if_neg hj']; exact hb
        have keyN : ∀ b, (∀ j, b ∉ fp0 j) → ∀ j, b ∉ fp' j := fun b hb j hj => by
          simp only [fp'] at hj
          split at hj
          · exact hb k' hj
          · split at hj
            · simp at hj
            · exact hb j hj
        have hx : RB w (fun b => inI c w fp0 b ∨ Lent (mkFr c w val fp0) (s.clear (Nat.beq k)) b) (fun b => inJ c w fp0 b ∨ Lent (mkFr c w val fp0) (s.clear (Nat.beq k)) b) y v := hx
        exact RB.move hx (fun b hb => ⟨hb.imp (fun hb => ⟨hb.1, hb.2.1, keyN b hb.2.2⟩) (key b), rfl⟩) (fun b hb => ⟨hb.imp (fun hb => ⟨hb.1, hb.2.1, keyN b hb.2.2⟩) (key b), rfl⟩)
      | obj j =>
        have := refs j (fun u => v = u) hx.1
        show CR _ _ (bif Nat.beq j k' then C.obj k else C.obj j) v
        unfold renK at this
        cases hj : Nat.beq j k' with
        | true => rw [hj] at this; exact ⟨this, hx.2⟩
        | false => rw [hj] at this; exact ⟨this, hx.2⟩
    · show ((s.clear (Nat.beq k)).map (renC k k')).getT i = _
      rw [getT_map]
    · by_cases h1 : j = k
      · subst h1
        exact .inr ⟨k', by simp, by rw [hO, if_pos rfl]; rfl, by simp [val'], by simp [fp']⟩
      · by_cases h2 : j = k'
        · subst h2
          exact .inl ⟨by simp [h1], by rw [hO, if_neg h1, if_pos rfl], by simp [fp', h1]⟩
        · exact .inr ⟨j, by simp [h1, h2], by rw [hO, if_neg h1, if_neg h2]; rfl, by simp [val', h1], by simp [fp', h1, h2]⟩
    · by_cases a1 : j = k <;> by_cases a2 : j' = k
      · rw [a1, a2]
      · exfalso
        rw [if_pos a1] at h1
        rw [if_neg a2] at h2
        cases h1
        split at h2
        · cases h2
        · rename_i a3; cases h2; exact a3 rfl
      · exfalso
        rw [if_neg a1] at h1
        rw [if_pos a2] at h2
        cases h2
        split at h1
        · cases h1
        · rename_i a3; cases h1; exact a3 rfl
      · rw [if_neg a1] at h1
        rw [if_neg a2] at h2
        split at h1
        · cases h1
        · split at h2
          · cases h2
          · cases h1; cases h2; rfl

theorem Inv.settle : ∀ (n : Nat) {s : St} {val : Key → Value} {fp : Key → List Nat}, Inv c s a w val fp → ∃ val' fp', Inv c (settle n s) a w val' fp'
  | 0, s, val, fp, h => ⟨val, fp, h⟩
  | n + 1, s, val, fp, h => by
    unfold Ev.settle
    split
    · obtain ⟨val', fp', h'⟩ := h.rename _ _
      exact h'.settle n
    · exact ⟨val, fp, h⟩
theorem Inv.prepare (h : Inv c s a w val fp) (ops : List Oper) : ∃ fp', Inv c (prepare ops s) a w val fp' := h.clear _

/-- What is one's own is read alone from now on: fewer blocks are one's own. -/
theorem Inv.release (h : Inv c s a w val fp) {k : Key} {own deep own' deep' : Bool} {sz : Nat} {cells : List T} (hk : s.getO k = .arr own deep sz cells) {F' : List Nat} (hF : ∀ b, b ∈ F' → b ∈ fp k)
    (hob : (∀ x v, RB w (inI c w fp) (inJ c w fp) x v → RB w (inI c w (upd fp k F')) (inJ c w (upd fp k F')) x v) → ObR (mkFr c w val (upd fp k F')) (s.setO k (.arr own' deep' sz cells)) (.arr own' deep' sz cells) (val k) F') :
    Inv c (s.setO k (.arr own' deep' sz cells)) a w val (upd fp k F') := by
  have e1 : upd val k (val k) = val := by funext j; by_cases hj : k = j <;> simp [upd, hj]
  have := (h.change1 (w' := w) k (.arr own' deep' sz cells) (val k) F' (by rw [hk]; rfl) (by rw [hk]; rfl) (fun b hb => .inl (hF b hb)) (fun _ _ _ => rfl) (Nat.le_refl _) rfl rfl rfl (fun g => by
    rw [e1]
    exact hob fun x v hx => RB.move hx (fun b hb => g.hI b hb) (fun b hb => g.hJ b hb))).1
  rwa [e1] at this

theorem pack1_sound (h : Inv c s a w val fp) {L : List Key} {s1 : St} (hm : Moved s s1 L) (x : C) : ∃ M F, Moved s (pack1 s1 x).2 (M ++ L) ∧ (∀ v, CR (mkFr c w val fp) s x v → RO w (pack1 s1 x).1 v F) ∧ F.Nodup ∧ ∀ b, b ∈ F → ∃ k, k ∈ M ∧ b ∈ fp k := by
  cases x with
  | t y =>
    refine ⟨[], [], hm, fun v hv => ?_, List.nodup_nil, by simp⟩
    show RO w (bif y.scalar then y else T.hole) v []
    cases hs : y.scalar with
    | true => exact scalar_ro (CR_t hv) hs
    | false => exact .hole (CR.one hv)
  | obj j =>
    show ∃ M F, Moved s (match s1.getO j with
      | .arr true true sz cs => (T.sl sz cs, s1.setO j .gone)
      | _ => (.hole, s1)).2 (M ++ L) ∧ (∀ v, CR (mkFr c w val fp) s (.obj j) v → RO w (match s1.getO j with
      | .arr true true sz cs => (T.sl sz cs, s1.setO j .gone)
      | _ => (.hole, s1)).1 v F) ∧ F.Nodup ∧ ∀ b, b ∈ F → ∃ k, k ∈ M ∧ b ∈ fp k
    split
    · rename_i sz cs hj
      obtain ⟨hn, hj0, hm'⟩ := hm.add (o := .gone) (.inl rfl) hj
      have hob := h.obs j
      rw [hj0] at hob
      refine ⟨[j], fp j, hm', fun v hv => ?_, RO.nodup hob, fun b hb => ⟨j, by simp, hb⟩⟩
      rw [ref_live hv (by rw [hj0]; rfl)]; exact hob
    · exact ⟨[], [], hm, fun v hv => .hole (CR.one hv), List.nodup_nil, by simp⟩
  | nil => exact ⟨[], [], hm, fun v hv => .hole (CR.one hv), List.nodup_nil, by simp⟩
  | ptr k q => exact ⟨[], [], hm, fun v hv => .hole (CR.one hv), List.nodup_nil, by simp⟩
  | undef => exact ⟨[], [], hm, fun v hv => .hole (CR.one hv), List.nodup_nil, by simp⟩
  | view y => exact ⟨[], [], hm, fun v hv => .hole (CR.one hv), List.nodup_nil, by simp⟩
theorem packW_sound (h : Inv c s a w val fp) : ∀ (ws : List (Nat × C)) {L : List Key} {s1 : St}, Moved s s1 L → ∃ M, ∃ fs : Nat → List Nat, Moved s (packW s1 ws).2 (M ++ L) ∧
    (∀ i, (findW ws i = none ∧ findT (packW s1 ws).1 i = none) ∨ ∃ x y, findW ws i = some x ∧ findT (packW s1 ws).1 i = some y ∧ ∀ v, CR (mkFr c w val fp) s x v → RO w y v (fs i)) ∧
    (∀ i, (fs i).Nodup) ∧ (∀ i j, i ≠ j → ∀ b, b ∈ fs i → b ∉ fs j) ∧ ∀ i b, b ∈ fs i → ∃ k, k ∈ M ∧ b ∈ fp k
  | [], L, s1, hm => ⟨[], fun _ => [], hm, fun _ => .inl ⟨rfl, rfl⟩, fun _ => List.nodup_nil, by simp, by simp⟩
  | (q, x) :: r, L, s1, hm => by
    obtain ⟨M, F, hm1, h1, h2, h3⟩ := pack1_sound h hm x
    obtain ⟨M', fs, hm2, g1, g2, g3, g4⟩ := packW_sound h r hm1
    have hap : ∀ k, k ∈ M → k ∉ M' := fun k hk hk' => by
      have := hm2.nd
      rw [List.nodup_append] at this
      exact this.2.2 k hk' k (List.mem_append_left _ hk) rfl
    have cross : ∀ b, b ∈ F → ∀ i, b ∉ fs i := fun b hb i hbi => by
      obtain ⟨k, hk, hbk⟩ := h3 b hb
      obtain ⟨k', hk', hbk'⟩ := g4 i b hbi
      exact h.disj k k' (fun e => hap k hk (e ▸ hk')) b hbk hbk'
    refine ⟨M' ++ M, fun i => if q = i then F else fs i, by rw [List.append_assoc]; exact hm2, fun i => ?_, fun i => ?_, fun i j hne b hb hb' => ?_, fun i b hb => ?_⟩
    · by_cases hq : q = i
      · refine .inr ⟨x, (pack1 s1 x).1, by rw [findW, if_pos hq], by show findT ((q, _) :: _) i = _; rw [findT, if_pos hq], ?_⟩
        simp only [if_pos hq]; exact h1
      · have e1 : findW ((q, x) :: r) i = findW r i := by rw [findW, if_neg hq]
        have e2 : findT (packW s1 ((q, x) :: r)).1 i = findT (packW (pack1 s1 x).2 r).1 i := by
          show findT ((q, _) :: _) i = _
          rw [findT, if_neg hq]
        rw [e1, e2]; simp only [if_neg hq]; exact g1 i
    · by_cases hq : q = i
      · simp only [hq, if_true]; exact h2
      · simp only [if_neg hq]; exact g2 i
    · by_cases hq : q = i
      · simp only [if_pos hq, if_neg (fun e => hne (hq.symm.trans e))] at hb hb'
        exact cross b hb j hb'
      · by_cases hq' : q = j
        · simp only [if_neg hq, if_pos hq'] at hb hb'
          exact cross b hb' i hb
        · simp only [if_neg hq, if_neg hq'] at hb hb'
          exact g3 i j hne b hb hb'
    · by_cases hq : q = i
      · simp only [if_pos hq] at hb
        obtain ⟨k, hk, hb⟩ := h3 b hb; exact ⟨k, List.mem_append_right _ hk, hb⟩
      · simp only [if_neg hq] at hb
        obtain ⟨k, hk, hb⟩ := g4 i b hb; exact ⟨k, List.mem_append_left _ hk, hb⟩
theorem Inv.pack (h : Inv c s a w val fp) {k : Key} {sz : Nat} {cells : List T} {ws : List (Nat × C)} (hk : s.getO k = .opn sz cells ws) :
    ∃ val' fp', Inv c ((packW s ws).2.setO k (.arr true true sz (fillT cells (packW s ws).1))) a w val' fp' := by
  obtain ⟨M, fs, hm, g1, g2, g3, g4⟩ := packW_sound h ws (Moved.refl s)
  rw [List.append_nil] at hm
  have hkM : k ∉ M := fun hkM => by
    obtain ⟨_, d, sz', cells', e⟩ := hm.gone k hkM
    rw [hk] at e; cases e
  have hob := h.obs k
  rw [hk] at hob
  obtain ⟨g, len, cap, cur, e, vs, fs0, hu, hF, hsz, hg, hlen, hcap, hmax, hcur, hv, hel, hnd⟩ := hob
  have hg : w.heap[g]? = some (.cells cur e (0, 0)) := hg
  let fs' : Nat → List Nat := fun i => match findW ws i with | some _ => fs i | none => fs0 i
  rw [List.nodup_cons] at hnd
  have hnd2 := (nodup_flat cells.length fs0).1 hnd.2
  have old : ∀ i b, i < cells.length → b ∈ fs0 i → b ∈ fp k := fun i b hi hb => by
    rw [hF]; exact List.mem_cons_of_mem _ (mem_flat.2 ⟨i, hi, hb⟩)
  have hgk : g ∈ fp k := by rw [hF]; simp
  have cross : ∀ b, b ∈ fp k → ∀ i, b ∉ fs i := fun b hb i hbi => by
    obtain ⟨k', hk', hbk'⟩ := g4 i b hbi
    exact h.disj k k' (fun e => hkM (e ▸ hk')) b hb hbk'
  have cs : ∀ i b, i < cells.length → b ∈ fs' i → (b ∈ fs i ∧ (findW ws i).isSome) ∨ (b ∈ fs0 i ∧ findW ws i = none) := fun i b hi hb => by
    simp only [fs'] at hb
    cases hw : findW ws i with
    | some x => rw [hw] at hb; exact .inl ⟨hb, rfl⟩
    | none => rw [hw] at hb; exact .inr ⟨hb, rfl⟩
  have hnd' : (g :: (List.range cells.length).flatMap fs').Nodup := by
    rw [List.nodup_cons]
    refine ⟨fun hb => ?_, (nodup_flat cells.length fs').2 ⟨fun i hi => ?_, fun i j hi hj hne b hb hb' => ?_⟩⟩
    · obtain ⟨i, hi, hbi⟩ := mem_flat.1 hb
      rcases cs i g hi hbi with ⟨h1, _⟩ | ⟨h1, _⟩
      · exact cross g hgk i h1
      · exact hnd.1 (mem_flat.2 ⟨i, hi, h1⟩)
    · simp only [fs']
      split
      · exact g2 i
      · exact hnd2.1 i hi
    · rcases cs i b hi hb with ⟨h1, _⟩ | ⟨h1, _⟩
      · rcases cs j b hj hb' with ⟨h2, _⟩ | ⟨h2, _⟩
        · exact g3 i j hne b h1 h2
        · exact cross b (old j b hj h2) i h1
      · rcases cs j b hj hb' with ⟨h2, _⟩ | ⟨h2, _⟩
        · exact cross b (old i b hi h1) j h2
        · exact hnd2.2 i j hi hj hne b h1 h2
  refine ⟨_, _, (h.finish (w' := w) hm hkM (o' := .arr true true sz (fillT cells (packW s ws).1)) (u' := val k) (F' := g :: (List.range cells.length).flatMap fs') (by rw [hk]; rfl) (by rw [hk]; rfl) (fun b hb => .inl ?_)
    (fun _ _ _ => rfl) (Nat.le_refl _) rfl rfl rfl (fun _ => ?_)).1⟩
  · rcases List.mem_cons.1 hb with rfl | hb
    · exact ⟨k, .inr rfl, hgk⟩
    · obtain ⟨i, hi, hbi⟩ := mem_flat.1 hb
      rcases cs i b hi hbi with ⟨h1, _⟩ | ⟨h1, _⟩
      · obtain ⟨k', hk', hbk'⟩ := g4 i b h1; exact ⟨k', .inl hk', hbk'⟩
      · exact ⟨k, .inr rfl, old i b hi h1⟩
  · have hl := fillT_len (packW s ws).1 cells
    show RO w _ (val k) _
    rw [hu, ← hl]
    rw [← hl] at hnd'
    refine RO.sl vs fs' hsz.1 hg (by rw [hl]; exact hlen) hcap hmax hcur (fun i hi => hv i (by rwa [hl] at hi)) (fun i x hx => ?_) hnd'
    have hi : i < cells.length := by have := (List.getElem?_eq_some_iff.1 hx).1; rwa [hl] at this
    rw [fillT_get _ _ _ hi] at hx
    have hw := hel i _ (List.getElem?_eq_getElem hi)
    unfold WR at hw
    rcases g1 i with ⟨h1, h2⟩ | ⟨x', y, h1, h2, h3⟩
    · rw [h1] at hw
      rw [h2] at hx
      have hx : cells[i]? = some x := hx
      rw [List.getElem?_eq_getElem hi] at hx
      cases hx
      simp only [fs', h1]
      exact hw
    · rw [h1] at hw
      rw [h2] at hx
      have hx : some y = some x := hx
      cases hx
      simp only [fs', h1]
      exact h3 _ hw.1

theorem look_skip {α : Type} (d : α) (p : Nat → Bool) (j : Nat) (hj : p j = true) : ∀ m : List (Nat × α), look d (m.filter fun q => p q.1) j = look d m j
  | [] => rfl
  | (k, v) :: m => by
    rw [List.filter_cons]
    by_cases hk : k = j
    · subst hk
      simp [hj, look]
    · have hb : Nat.beq k j = false := by
        cases h : Nat.beq k j with
        | false => rfl
        | true => exact absurd (Nat.eq_of_beq_eq_true h) hk
      split
      · rw [look, look, hb, cond_false, cond_false]; exact look_skip d p j hj m
      · rw [look, hb, cond_false]; exact look_skip d p j hj m
theorem look_front {α : Type} (d : α) (f : Nat → α) (j : Nat) (m : List (Nat × α)) (hm : look d m j = f j) : ∀ l : List Nat, look d ((l.map fun k => (k, f k)) ++ m) j = f j
  | [] => hm
  | k :: l => by
    rw [List.map_cons, List.cons_append, look]
    by_cases hk : k = j
    · subst hk; simp
    · have hb : Nat.beq k j = false := by
        cases h : Nat.beq k j with
        | false => rfl
        | true => exact absurd (Nat.eq_of_beq_eq_true h) hk
      rw [hb, cond_false]; exact look_front d f j m hm l
theorem look_order (ob : List (Key × Ob)) (l : List Key) (j : Key) : look Ob.free ((l.map fun k => (k, look Ob.free ob k)) ++ ob.filter fun q => !memN l q.1) j = look Ob.free ob j := by
  cases hj : memN l j with
  | false => exact look_front _ (fun k => look Ob.free ob k) j _ (look_skip Ob.free (fun k => !memN l k) j (by simp [hj]) ob) l
  | true =>
    have hmem : j ∈ l := by
      unfold memN at hj
      obtain ⟨x, hx, e⟩ := List.any_eq_true.1 hj
      rwa [Nat.eq_of_beq_eq_true e]
    revert hmem
    generalize (ob.filter fun q => !memN l q.1) = m
    clear hj
    induction l with
    | nil => intro h; cases h
    | cons k l ih =>
      intro hmem
      rw [List.map_cons, List.cons_append, look]
      by_cases hk : k = j
      · subst hk; simp
      · have hb : Nat.beq k j = false := by
          cases h : Nat.beq k j with
          | false => rfl
          | true => exact absurd (Nat.eq_of_beq_eq_true h) hk
        rw [hb, cond_false]
        exact ih ((List.mem_cons.1 hmem).resolve_left fun e => hk e.symm)
theorem treesC_some : ∀ {cs : List C} {xs : List T}, treesC cs = some xs → cs.length = xs.length ∧ ∀ (i : Nat) (x : T), xs[i]? = some x → cs[i]? = some (C.t x)
  | [], xs, h => by cases h; simp
  | c :: r, xs, h => by
    cases c with
    | t x =>
      simp only [treesC] at h
      cases hr : treesC r with
      | none => rw [hr] at h; cases h
      | some l =>
        rw [hr] at h
        cases h
        have ih := treesC_some hr
        refine ⟨by simp [ih.1], fun i y hy => ?_⟩
        cases i with
        | zero => simp at hy ⊢; exact hy
        | succ i => simp at hy ⊢; exact ih.2 i y hy
    | _ => cases h
theorem Inv.freezeO (h : Inv c s a w val fp) (k : Key) : ∃ val' fp', Inv c (freezeO s k) a w val' fp' := by
  unfold Ev.freezeO
  split
  · rename_i deep sz cs hk
    have hob := h.obs k
    rw [hk] at hob
    obtain ⟨xs, Fg, fs, ho, hF⟩ := own_iff.1 hob
    refine ⟨val, upd fp k [], h.release hk (by simp) fun hrb => ⟨ho.rb (fun b hb => ?_) (fun b hb => ?_) (fun b hb => ?_), rfl⟩⟩
    · rw [← hF] at hb
      refine ⟨.inr (h.mine k b hb), h.lt hb, fun j hj => ?_⟩
      by_cases hkj : k = j
      · subst hkj; rw [upd_same] at hj; simp at hj
      · rw [upd_ne _ _ hkj] at hj; exact h.disj k j hkj b hb hj
    · refine ⟨hb.1, hb.2.1, fun j hj => ?_⟩
      by_cases hkj : k = j
      · subst hkj; rw [upd_same] at hj; simp at hj
      · rw [upd_ne _ _ hkj] at hj; exact hb.2.2 j hj
    · refine ⟨hb.1, hb.2.1, fun j hj => ?_⟩
      by_cases hkj : k = j
      · subst hkj; rw [upd_same] at hj; simp at hj
      · rw [upd_ne _ _ hkj] at hj; exact hb.2.2 j hj
  · exact ⟨val, fp, h⟩
theorem Inv.lendO (h : Inv c s a w val fp) (k : Key) : ∃ val' fp', Inv c (lendO s k) a w val' fp' := by
  unfold Ev.lendO
  split
  · rename_i deep sz cs hk
    have hob := h.obs k
    rw [hk] at hob
    refine ⟨_, _, (h.change1 (w' := w) k (.lent deep sz cs) (val k) (fp k) (by rw [hk]; rfl) (by rw [hk]; rfl) (fun b hb => .inl hb) (fun _ _ _ => rfl) (Nat.le_refl _) rfl rfl rfl (fun g => ?_)).1⟩
    cases deep with
    | true => exact hob
    | false => exact ShR.goes g hob fun _ _ => rfl
  · exact ⟨val, fp, h⟩
theorem Inv.eachO {f : St → Key → St} : ∀ {l : List Key} {s : St} {val : Key → Value} {fp : Key → List Nat}, Inv c s a w val fp → (∀ {s : St} {val : Key → Value} {fp : Key → List Nat}, Inv c s a w val fp → ∀ k, ∃ val' fp', Inv c (f s k) a w val' fp') → ∃ val' fp', Inv c (eachO f s l) a w val' fp'
  | [], s, val, fp, h, _ => ⟨val, fp, h⟩
  | k :: l, s, val, fp, h, hf => by
    obtain ⟨val', fp', h'⟩ := hf h k
    exact h'.eachO hf
theorem getO_reclaim (s : St) (k : Key) : (Ev.ghost s .reclaim).getO k = unlend (mapO killV (s.getO k)) := by
  have h1 := getO_map killV s k
  have h2 := look_map Ob.free unlend (s.map killV).ob k
  show look Ob.free ((s.map killV).ob.map fun q => (q.1, unlend q.2)) k = _
  rw [← h1]
  exact h2
theorem Inv.ghost (h : Inv c s a w val fp) (g : Gh) : ∃ val' fp', Inv c (ghost s g) a w val' fp' := by
  cases g with
  | keepT l =>
    have g : Goes (mkFr c w val fp) (mkFr c w val fp) s (Ev.ghost s (.keepT l)) := ⟨fun b hb => ⟨hb, rfl⟩, fun b hb => ⟨hb, rfl⟩, fun k => Turns.refl _ _, fun b hb => ⟨.inl hb, rfl⟩⟩
    refine ⟨val, fp, fun k => (h.obs k).goes g fun _ _ => rfl, fun i => ?_, h.disj, h.mine, h.size, h.defers, h.ij⟩
    have e : (Ev.ghost s (.keepT l)).getT i = if memN l i = true then s.getT i else .any := look_filter V.any (memN l) s.tm i
    rw [e]
    split
    · exact (h.tms i).goes g
    · trivial
  | keepO l => obtain ⟨fp', h'⟩ := h.clear fun k => !memN l k; exact ⟨val, fp', h'⟩
  | adoptT i k sz =>
    simp only [Ev.ghost]
    split
    · rename_i hi hk
      cases hsz : Nat.blt 0 sz with
      | false => exact ⟨val, fp, h⟩
      | true =>
        simp only [cond_true]
        obtain ⟨F'', r1, r2⟩ := new_nil h hk (blt_pos hsz) none
        refine ⟨upd val k (.slice none 0 0), upd fp k F'', ⟨fun k' => ?_, fun j => ?_, r1.disj, r1.mine, r1.size, r1.defers, r1.ij⟩⟩
        · have := (r1.obs k').setT i (.one (.obj k))
          exact this
        · have e : ((s.setT i (.one (.obj k))).setO k (.arr true true sz [])).getT j = if i = j then .one (.obj k) else s.getT j := by rw [getT_setO, getT_setT]
          rw [e]
          by_cases hij : i = j
          · subst hij
            rw [if_pos rfl]
            have hv := h.tms i
            rw [hi] at hv
            have hv : a.tmps.getD i undef = .slice none 0 0 := hv
            rw [hv]
            exact CR.setT (x := .obj k) r2 i _
          · rw [if_neg hij]
            exact (r1.tms j).setT i _
    · exact ⟨val, fp, h⟩
  | adoptO o j k sz =>
    simp only [Ev.ghost]
    split
    · rename_i cells ho hk
      split
      · rename_i hj
        cases hsz : (Nat.blt 0 sz && !Nat.beq o k) with
        | false => exact ⟨val, fp, h⟩
        | true =>
          simp only [cond_true]
          rw [Bool.and_eq_true, Bool.not_eq_true'] at hsz
          have hok : o ≠ k := fun e => by rw [e] at hsz; simp at hsz
          obtain ⟨F'', r1, r2⟩ := new_nil h hk (blt_pos hsz.1) none
          have ho1 : (s.setO k (.arr true true sz [])).getO o = .box cells := by rw [getO_setO, if_neg (fun e => hok e.symm)]; exact ho
          have hob := r1.obs o
          rw [ho1] at hob
          obtain ⟨b, cur, e, hu, hF, hh, hcs⟩ := hob
          obtain ⟨q1, q2, q3⟩ := r1.change1 (w' := w) o (.box (cells.set j (.obj k))) _ _ (by rw [ho1]; rfl) (by rw [ho1]; rfl) (fun b hb => .inl hb) (fun _ _ _ => rfl) (Nat.le_refl _) rfl rfl rfl (fun g => by
            refine ⟨b, cur, e, hu, hF, hh, by simpa using (hcs.goes g).1, fun i x v hx hv => ?_⟩
            rw [List.getElem?_set] at hx
            split at hx
            · rename_i hji
              subst hji
              split at hx
              · cases hx
                have hnil := hcs.2 j .nil v hj hv
                have hnil : v = .slice none 0 0 := hnil
                rw [hnil]
                exact CR.goes g r2
              · cases hx
            · exact (hcs.goes g).2 i x v hx hv)
          have hsw : Eqv ((s.setO k (.arr true true sz [])).setO o (.box (cells.set j (.obj k)))) ((s.setO o (.box (cells.set j (.obj k)))).setO k (.arr true true sz [])) := by
            refine ⟨fun i => rfl, fun i => ?_⟩
            simp only [getO_setO]
            by_cases h1 : k = i <;> by_cases h2 : o = i
            · exact absurd (h2.trans h1.symm) hok
            · simp [h1, h2]
            · simp [h1, h2]
            · simp [h1, h2]
          exact ⟨_, _, q1.eqv hsw⟩
      · exact ⟨val, fp, h⟩
    · exact ⟨val, fp, h⟩
  | freeze k => exact h.freezeO k
  | shallow k =>
    simp only [Ev.ghost]
    split
    · rename_i deep sz cs hk
      have hob := h.obs k
      rw [hk] at hob
      obtain ⟨xs, Fg, fs, ho, hF⟩ := own_iff.1 hob
      refine ⟨val, upd fp k Fg, h.release hk (fun b hb => by rw [hF]; exact List.mem_append_left _ hb) fun hrb => own_iff.2 ⟨xs, Fg, fun _ => [], ⟨ho.pos, ho.row, ho.len, ND.nil _, by simp, fun i x y hx hy => ?_⟩, by simp [flat]⟩⟩
      have hi := (List.getElem?_eq_some_iff.1 hx).1
      have hel := ho.el i x y hx hy
      refine ⟨?_, rfl⟩
      unfold El at hel
      split at hel
      · refine RO.rb hel fun b hb => ?_
        have hbf : b ∈ fp k := by rw [hF]; exact List.mem_append_right _ (mem_flat.2 ⟨i, hi, hb⟩)
        refine ⟨.inr (h.mine k b hbf), h.lt hbf, fun j hj => ?_⟩
        by_cases hkj : k = j
        · subst hkj; rw [upd_same] at hj; exact ho.apart b hj i hi hb
        · rw [upd_ne _ _ hkj] at hj; exact h.disj k j hkj b hbf hj
      · exact hrb _ _ hel.1
    · exact ⟨val, fp, h⟩
  | rename k k' => exact h.rename k k'
  | pack k =>
    simp only [Ev.ghost]
    split
    · rename_i hk; exact h.pack hk
    · exact ⟨val, fp, h⟩
  | melt i =>
    simp only [Ev.ghost]
    split
    · rename_i k hi
      split
      · rename_i deep sz cs hk
        refine ⟨val, fp, fun k' => (h.obs k').setT i _, fun j => ?_, h.disj, h.mine, h.size, h.defers, h.ij⟩
        rw [getT_setT]
        by_cases hij : i = j
        · subst hij
          rw [if_pos rfl]
          have hv := h.tms i
          rw [hi] at hv
          rw [obj_alive hv hk]
          have hob := h.obs k
          rw [hk] at hob
          exact hob.1
        · rw [if_neg hij]; exact (h.tms j).setT i _
      · exact ⟨val, fp, h⟩
    · exact ⟨val, fp, h⟩
  | meltO o j sz =>
    simp only [Ev.ghost]
    split
    · rename_i cells ho
      have hob := h.obs o
      rw [ho] at hob
      obtain ⟨b, cur, e, hu, hF, hh, hcs⟩ := hob
      have put : ∀ x, (∀ v, cur.toList[j]? = some v → RB w (inI c w fp) (inJ c w fp) x v) → ∃ val' fp', Inv c (s.setO o (.box (cells.set j (.t x)))) a w val' fp' := fun x hx => by
        refine ⟨_, _, (h.change1 (w' := w) o (.box (cells.set j (.t x))) _ _ (by rw [ho]; rfl) (by rw [ho]; rfl) (fun b hb => .inl hb) (fun _ _ _ => rfl) (Nat.le_refl _) rfl rfl rfl (fun g => ?_)).1⟩
        refine ⟨b, cur, e, hu, hF, hh, by simpa using (hcs.goes g).1, fun i y v hy hv => ?_⟩
        rw [List.getElem?_set] at hy
        split at hy
        · rename_i hji
          subst hji
          split at hy
          · cases hy
            exact RB.move (hx v hv) g.hI g.hJ
          · cases hy
        · exact (hcs.goes g).2 i y v hy hv
      split
      · rename_i k hj
        split
        · rename_i deep sz' cs hk
          refine put _ fun v hv => ?_
          rw [obj_alive (hcs.2 j _ v hj hv) hk]
          have hob := h.obs k
          rw [hk] at hob
          exact hob.1
        · exact ⟨val, fp, h⟩
      · rename_i hj
        cases hsz : Nat.blt 0 sz with
        | false => exact ⟨val, fp, h⟩
        | true =>
          simp only [cond_true]
          refine put _ fun v hv => ?_
          have : v = .slice none 0 0 := hcs.2 j .nil v hj hv
          rw [this]
          exact .sl (fun _ => undef) (blt_pos hsz) (by simp) (Nat.le_refl _) (fun h => absurd rfl h) (by simp)
      · exact ⟨val, fp, h⟩
    · exact ⟨val, fp, h⟩
  | lend k => exact h.lendO k
  | freezeT i => exact h.eachO fun h k => h.freezeO k
  | lendT i => exact h.eachO fun h k => h.lendO k
  | freezeB k => exact h.eachO fun h k => h.freezeO k
  | lendB k => exact h.eachO fun h k => h.lendO k
  | orderO l =>
    refine ⟨val, fp, h.eqv ⟨fun i => rfl, fun j => ?_⟩⟩
    exact look_order s.ob l j
  | nameT i k =>
    simp only [Ev.ghost]
    split
    · rename_i x _
      cases Nat.beq x k with
      | true => exact ⟨val, fp, h⟩
      | false => exact h.rename k x
    · exact ⟨val, fp, h⟩
  | nameB o j k =>
    simp only [Ev.ghost]
    split
    · split
      · rename_i x _
        cases Nat.beq x k with
        | true => exact ⟨val, fp, h⟩
        | false => exact h.rename k x
      · exact ⟨val, fp, h⟩
    · exact ⟨val, fp, h⟩
  | meltP i =>
    simp only [Ev.ghost]
    split
    · rename_i k q hi
      split
      · rename_i cs hk
        split
        · rename_i xs hx
          have hob := h.obs k
          rw [hk] at hob
          obtain ⟨b, cur, e, hu, hF, hh, hcs⟩ := hob
          have hb : b ∈ fp k := by rw [hF]; simp
          obtain ⟨q1, g, _⟩ := h.change1 (w' := w) k .gone (val k) [] (by rw [hk]; trivial) (by rw [hk]; rfl) (by simp) (fun _ _ _ => rfl) (Nat.le_refl _) rfl rfl rfl (fun _ => rfl)
          refine ⟨_, _, fun k' => (q1.obs k').setT i _, fun j => ?_, q1.disj, q1.mine, q1.size, q1.defers, q1.ij⟩
          rw [getT_setT]
          by_cases hij : i = j
          · subst hij
            rw [if_pos rfl]
            have hv := h.tms i
            rw [hi] at hv
            have hp : ptrTo (val k) q (a.tmps.getD i undef) := ptr_alive hv hk (.inl ⟨_, rfl⟩)
            rw [hu] at hp
            have hp : a.tmps.getD i undef = .pointer (some ⟨b, 0 + q, none⟩) := hp
            rw [hp]
            have hl := treesC_some hx
            have hcur : ∀ i, i < xs.length → cur[i]? = some (cur.getD i undef) := fun i hi => by
              have h0 := hcs.1
              have : xs.length = cur.size := by rw [← hl.1, h0]; exact Array.length_toList
              rw [Array.getElem?_eq_getElem (by omega), Array.getD_eq_getD_getElem?, Array.getElem?_eq_getElem (by omega)]; rfl
            refine RB.rref (fun i => cur.getD i undef) (fun _ => ⟨.inr (h.mine k b hb), h.lt hb, fun j hj => ?_⟩) (fun i hi => ?_) (fun i x hxi => ?_)
            · by_cases hkj : k = j
              · subst hkj; rw [upd_same] at hj; simp at hj
              · rw [upd_ne _ _ hkj] at hj; exact h.disj k j hkj b hb hj
            · rw [Nat.zero_add]; show w.cell? _ = _; rw [cell_of_cells (w := w) hh]; exact hcur i hi
            · have hi := (List.getElem?_eq_some_iff.1 hxi).1
              exact RB.move (hcs.2 i (.t x) _ (hl.2 i x hxi) (by rw [Array.getElem?_toList]; exact hcur i hi)) g.hI g.hJ
          · rw [if_neg hij]; exact (q1.tms j).setT i _
        · exact ⟨val, fp, h⟩
      · exact ⟨val, fp, h⟩
    · exact ⟨val, fp, h⟩
  | reclaim =>
    refine ⟨val, fp, h.recast (f := killV) (val' := val) (fp' := fp) unlend (.inr fun _ => rfl) some ⟨fun x v hx => ?_⟩ (fun i => .inl (getT_map killV s i)) (fun k => .inr ⟨k, rfl, ?_, rfl, rfl⟩) (fun k k' j h1 h2 => by cases h1; cases h2; rfl) (fun _ _ h => h)⟩
    · have refs : ∀ (j : Key) (p : Prop), (s.getO j).ref p → ((Ev.ghost s .reclaim).getO j).ref p := fun j p hp => by
        rw [getO_reclaim]
        revert hp
        cases s.getO j <;> exact id
      cases x with
      | t y => exact hx
      | nil => exact hx
      | undef => exact hx
      | ptr j q => exact ⟨refs j _ hx.1, hx.2⟩
      | obj j => exact ⟨refs j _ hx.1, hx.2⟩
      | view y => exact CR.one hx
    · exact getO_reclaim s k
theorem Inv.ghosts : ∀ (l : List Gh) {s : St} {val : Key → Value} {fp : Key → List Nat}, Inv c s a w val fp → ∃ val' fp', Inv c (ghosts s l) a w val' fp'
  | [], s, val, fp, h => ⟨val, fp, h⟩
  | g :: l, s, val, fp, h => by
    obtain ⟨val', fp', h'⟩ := h.ghost g
    exact h'.ghosts l
end
end Ev
