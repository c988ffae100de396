/- Ev: a function, from its entry to its end. -/
import Derived.Test.YtmcfccgmhinpdaaGreatDoorEvCode
namespace Ev
open Go

/-! ## entry -/
theorem argsV_spec (at_ : Attr) : ∀ {args : List T} {i : Nat} {l : List (Nat × V)} {os : List (Key × Ob)}, argsV at_ i args = some (l, os) →
    (∀ j, j < i → look V.any l j = .any) ∧ (∀ j x, args[j]? = some x → (at_.turn = some (i + j) ∧ turnV at_.md x = some (look V.any l (i + j), os)) ∨ (at_.turn ≠ some (i + j) ∧ argV x = some (look V.any l (i + j)))) ∧
      (∀ j, i + args.length ≤ j → look V.any l j = .any) ∧ ((∀ j, j < args.length → at_.turn ≠ some (i + j)) → os = [])
  | [], i, l, os, h => by simp [argsV] at h; obtain ⟨rfl, rfl⟩ := h; simp [look]
  | x :: xs, i, l, os, h => by
    rw [argsV, Option.bind_eq_some_iff] at h
    obtain ⟨⟨v, os1⟩, hv, h⟩ := h
    rw [Option.map_eq_some_iff] at h
    obtain ⟨⟨l2, os2⟩, h2, h⟩ := h
    simp only [Prod.mk.injEq] at h
    obtain ⟨rfl, rfl⟩ := h
    obtain ⟨r1, r2, r3, r4⟩ := argsV_spec at_ h2
    have hii : Nat.beq i i = true := by simp
    have first : (at_.turn = some i ∧ turnV at_.md x = some (v, os1)) ∨ (at_.turn ≠ some i ∧ argV x = some v ∧ os1 = []) := by
      split at hv
      · rename_i j hj
        cases hji : Nat.beq j i with
        | true =>
          rw [hji] at hv
          have : j = i := Nat.eq_of_beq_eq_true hji
          exact .inl ⟨by rw [hj, this], hv⟩
        | false =>
          rw [hji] at hv
          simp only [cond_false, Option.map_eq_some_iff, Prod.mk.injEq] at hv
          obtain ⟨v', hv', rfl, rfl⟩ := hv
          refine .inr ⟨fun e => ?_, hv', rfl⟩
          rw [hj] at e
          cases e
          simp at hji
      · rename_i hj
        simp only [Option.map_eq_some_iff, Prod.mk.injEq] at hv
        obtain ⟨v', hv', rfl, rfl⟩ := hv
        exact .inr ⟨by rw [hj]; simp, hv', rfl⟩
    refine ⟨fun j hj => ?_, fun j y hy => ?_, fun j hj => ?_, fun hn => ?_⟩
    · rw [look, nbeq (by omega : i ≠ j), cond_false]; exact r1 j (by omega)
    · cases j with
      | zero =>
        simp at hy
        subst hy
        simp only [Nat.add_zero, look, hii, cond_true]
        rcases first with ⟨f1, f2⟩ | ⟨f1, f2, f3⟩
        · refine .inl ⟨f1, ?_⟩
          have : os2 = [] := r4 fun j hj e => by rw [f1] at e; have := Option.some.inj e; omega
          rw [this, List.append_nil]; exact f2
        · exact .inr ⟨f1, f2⟩
      | succ j =>
        have hy' : xs[j]? = some y := by simpa using hy
        have := r2 j y hy'
        rw [look, nbeq (by omega : i ≠ i + (j + 1)), cond_false, show i + (j + 1) = i + 1 + j by omega]
        rcases this with ⟨f1, f2⟩ | h
        · refine .inl ⟨f1, ?_⟩
          rcases first with ⟨g1, _⟩ | ⟨_, _, g3⟩
          · rw [f1] at g1; have := Option.some.inj g1; omega
          · rw [g3]; exact f2
        · exact .inr h
    · simp only [List.length_cons] at hj
      rw [look, nbeq (by omega : i ≠ j), cond_false]; exact r3 j (by omega)
    · have e1 : os1 = [] := by
        rcases first with ⟨f1, _⟩ | ⟨_, _, f3⟩
        · exact absurd f1 (by have := hn 0 (by simp); simpa using this)
        · exact f3
      have e2 : os2 = [] := r4 fun j hj => by have := hn (j + 1) (by simp; omega); rwa [show i + (j + 1) = i + 1 + j by omega] at this
      rw [e1, e2]; rfl

section
variable {P : Program} {A : Attrs} {E : Env} {c : Ctx} {s : St} {a : Act} {w : World} {val : Key → Value} {fp : Key → List Nat}
variable {l : Log} {r : T × List T}

theorem getD_args {vs : Array Value} {n i : Nat} (h : i < vs.size) : (vs ++ Array.replicate n undef).getD i undef = vs.getD i undef := by
  simp only [Array.getD_eq_getD_getElem?]
  rw [Array.getElem?_append_left h]

theorem look_cons {α : Type} (d : α) (k : Nat) (v : α) (l : List (Nat × α)) (i : Nat) : look d ((k, v) :: l) i = if k = i then v else look d l i := by
  rw [look]
  by_cases h : k = i
  · subst h; simp
  · rw [nbeq h, if_neg h]; rfl
theorem turnCs_spec : ∀ {os : List Bool} {key : Nat} {xs : List T} {cs : List C} {obs : List (Key × Ob)}, turnCs os key xs = some (cs, obs) → cs.length = xs.length ∧ os.length = xs.length ∧
    (∀ k : Nat, k < key ∨ key + xs.length ≤ k → look Ob.free obs k = .free) ∧
    ∀ (i : Nat) (x : T), xs[i]? = some x → (cs[i]? = some (.t x) ∧ look Ob.free obs (key + i) = .free ∧ (os.getD i false = true → (∀ sz c, x ≠ .sl sz c) ∧ ∀ l, x ≠ .mp l)) ∨
      (os.getD i false = true ∧ cs[i]? = some (.obj (key + i)) ∧ ((∃ sz c, x = .sl sz c ∧ look Ob.free obs (key + i) = .arr true true sz c) ∨ ∃ l, x = .mp l ∧ look Ob.free obs (key + i) = .mp l))
  | [], key, [], cs, obs, h => by simp [turnCs] at h; obtain ⟨rfl, rfl⟩ := h; simp [look]
  | o :: os, key, x :: xs, cs, obs, h => by
    rw [turnCs, Option.map_eq_some_iff] at h
    obtain ⟨⟨cs', obs'⟩, h1, h2⟩ := h
    obtain ⟨r1, r2, r3, r4⟩ := turnCs_spec h1
    simp only [Prod.mk.injEq] at h2
    obtain ⟨rfl, rfl⟩ := h2
    have up : ∀ j : Nat, key < j → look Ob.free ((turnC o key x).2 ++ obs') j = look Ob.free obs' j := fun j hj => by
      unfold turnC
      split
      · show look Ob.free ((key, _) :: obs') j = _
        rw [look_cons, if_neg (by omega)]
      · show look Ob.free ((key, _) :: obs') j = _
        rw [look_cons, if_neg (by omega)]
      · rfl
    refine ⟨by simp [r1], by simp [r2], fun k hk => ?_, fun i y hy => ?_⟩
    · rcases hk with hk | hk
      · unfold turnC
        split
        · show look Ob.free ((key, _) :: obs') k = _
          rw [look_cons, if_neg (by omega)]; exact r3 k (.inl (by omega))
        · show look Ob.free ((key, _) :: obs') k = _
          rw [look_cons, if_neg (by omega)]; exact r3 k (.inl (by omega))
        · exact r3 k (.inl (by omega))
      · simp only [List.length_cons] at hk
        rw [up k (by omega)]; exact r3 k (.inr (by omega))
    · cases i with
      | zero =>
        simp only [List.getElem?_cons_zero, Option.some.injEq] at hy
        subst hy
        unfold turnC
        split
        · refine .inr ⟨rfl, rfl, .inl ⟨_, _, rfl, ?_⟩⟩
          show look Ob.free ((key, _) :: obs') (key + 0) = _
          rw [look_cons, if_pos (by omega)]
        · refine .inr ⟨rfl, rfl, .inr ⟨_, rfl, ?_⟩⟩
          show look Ob.free ((key, _) :: obs') (key + 0) = _
          rw [look_cons, if_pos (by omega)]
        · rename_i hn1 hn2
          refine .inl ⟨rfl, r3 _ (.inl (by omega)), fun ho => ?_⟩
          have ho : o = true := by simpa using ho
          subst ho
          exact ⟨fun sz c e => hn1 sz c rfl e, fun l e => hn2 l rfl e⟩
      | succ i =>
        have := r4 i y (by simpa using hy)
        rw [up _ (by omega), show key + (i + 1) = key + 1 + i by omega]
        simpa using this
  | [], _, _ :: _, _, _, h => by simp [turnCs] at h
  | _ :: _, _, [], _, _, h => by simp [turnCs] at h

def fpo (o : Ob) (F : List Nat) : List Nat := match o with | .free => [] | _ => F
/-- Cells that are turned, as the frame takes them. -/
theorem turned_cells {I J : Nat → Prop} {os : List Bool} {key : Nat} {xs : List T} {us : List Value} {fs : Nat → List Nat} {cs : List C} {obs : List (Key × Ob)} (hx : CellsR w I J os xs us fs) (ht : turnCs os key xs = some (cs, obs))
    (fr : Ev.Fr) (s' : St) (hw : fr.w = w) (hI : ∀ b, I b → fr.I b) (hJ : ∀ b, J b → fr.J b) (hs : ∀ i, i < us.length → s'.getO (key + i) = look Ob.free obs (key + i)) (hv : ∀ i, i < us.length → fr.val (key + i) = us.getD i undef) :
    CRs fr s' cs us ∧ ∀ i, i < us.length → ObR fr s' (look Ob.free obs (key + i)) (us.getD i undef) (fpo (look Ob.free obs (key + i)) (fs i)) := by
  obtain ⟨r1, r2, r3, r4⟩ := turnCs_spec ht
  refine ⟨⟨r1.trans hx.1, fun i cc v hc hv' => ?_⟩, fun i hi => ?_⟩
  · have hiu := (List.getElem?_eq_some_iff.1 hv').1
    have hix : i < xs.length := by rw [hx.1]; exact hiu
    have hel := hx.2.2 i _ v (List.getElem?_eq_getElem hix) hv'
    rcases r4 i _ (List.getElem?_eq_getElem hix) with ⟨h1, h2, h3⟩ | ⟨ho, h1, h2⟩
    · rw [h1] at hc
      cases hc
      show RB fr.w fr.I fr.J _ v
      rw [hw]
      unfold El at hel
      split at hel
      · rename_i ho
        obtain ⟨n1, n2⟩ := h3 ho
        revert n1 n2 hel
        generalize xs[i] = x
        generalize fs i = F
        intro hel n1 n2
        cases hel with
        | int k n => exact .int k n
        | bool b => exact .bool b
        | str s => exact .str s
        | nil hsz => exact absurd rfl (n1 _ _)
        | sl _ _ _ _ _ _ _ _ _ _ _ => exact absurd rfl (n1 _ _)
        | hole h => exact .hole h
        | mp _ _ => exact absurd rfl (n2 _)
      · exact RB.move hel.1 (fun b hb => ⟨hI b hb, rfl⟩) (fun b hb => ⟨hJ b hb, rfl⟩)
    · rw [h1] at hc
      cases hc
      have hval : fr.val (key + i) = v := by
        rw [hv i hiu]; exact getD_of hv'
      unfold El at hel
      rw [if_pos ho] at hel
      refine ⟨?_, RO.one hel⟩
      rw [hs i hiu, ← hval]
      rcases h2 with ⟨sz, c', _, h3⟩ | ⟨l, _, h3⟩ <;> rw [h3] <;> rfl
  · have hix : i < xs.length := by rw [hx.1]; exact hi
    have hu : us[i]? = some (us.getD i undef) := by simp [List.getD_eq_getElem?_getD, hi]
    have hel := hx.2.2 i _ _ (List.getElem?_eq_getElem hix) hu
    rcases r4 i _ (List.getElem?_eq_getElem hix) with ⟨h1, h2, h3⟩ | ⟨ho, h1, h2⟩
    · rw [h2]; rfl
    · unfold El at hel
      rw [if_pos ho] at hel
      rcases h2 with ⟨sz, c', h4, h3⟩ | ⟨l, h4, h3⟩
      · rw [h3]
        show RO fr.w _ _ _
        rw [hw, ← h4]; exact hel
      · rw [h3]
        show RO fr.w _ _ _
        rw [hw, ← h4]; exact hel

/-- The state a function starts in. -/
theorem entry {at_ : Attr} {args : List T} {I J : Nat → Prop} {vs : Array Value} {F : List Nat} (hp : Pre at_ args w I J vs F) {l : List (Nat × V)} {os : List (Key × Ob)} (ha : argsV at_ 0 args = some (l, os)) (n : Nat) :
    ∃ val fp, Inv ⟨w.heap.size, I, J, (· ∈ F)⟩ ⟨l, os⟩ { tmps := vs ++ Array.replicate n undef, defers := [] } w val fp := by
  obtain ⟨r1, r2, r3, r4⟩ := argsV_spec at_ ha
  simp only [Nat.zero_add] at r1 r2 r3 r4
  -- what is turned
  have key : ∃ (u0 : Value) (F0 : List Nat) (us : List Value) (fs : Nat → List Nat), (∀ b, b ∈ F0 → b ∈ F) ∧ (∀ i b, i < us.length → b ∈ fs i → b ∈ F ∧ b ∉ F0) ∧ ND us.length fs ∧
      (∀ k : Nat, k ≠ turnKey → (k < turnKey ∨ turnKey + 1 + us.length ≤ k) → look Ob.free os k = .free) ∧
      ∀ (fr : Ev.Fr), fr.w = w → (∀ b, I b → fr.I b) → (∀ b, J b → fr.J b) → fr.val turnKey = u0 → (∀ i, i < us.length → fr.val (turnKey + 1 + i) = us.getD i undef) →
        ObR fr ⟨l, os⟩ (look Ob.free os turnKey) u0 F0 ∧ (∀ i, i < us.length → ObR fr ⟨l, os⟩ (look Ob.free os (turnKey + 1 + i)) (us.getD i undef) (fpo (look Ob.free os (turnKey + 1 + i)) (fs i))) ∧
        ∀ i x v, at_.turn = some i → args[i]? = some x → vs[i]? = some v → VR fr ⟨l, os⟩ (look V.any l i) v := by
    cases ht : at_.turn with
    | none =>
      have hos : os = [] := r4 fun j _ e => by rw [ht] at e; cases e
      subst hos
      exact ⟨undef, [], [], fun _ => [], by simp, by simp, ND.nil _, fun _ _ _ => rfl, fun fr _ _ _ _ _ => ⟨rfl, by simp, fun i x v e => by cases e⟩⟩
    | some i =>
      obtain ⟨x, v, hx, hv, harg⟩ := hp.turned i ht
      have same : ∀ {fr : Ev.Fr} {y : V}, look V.any l i = y → VR fr ⟨l, os⟩ y v → ∀ i' x' v', some i = some i' → args[i']? = some x' → vs[i']? = some v' → VR fr ⟨l, os⟩ (look V.any l i') v' := fun {fr y} hy hvr i' x' v' hi _ hv'' => by
        cases hi
        rw [hv] at hv''
        cases hv''
        rw [hy]; exact hvr
      rcases r2 i x hx with ⟨_, hturn⟩ | ⟨hn, _⟩
      · unfold turnV at hturn
        split at hturn
        · rename_i bs cells0 hmd
          rw [hmd] at harg
          obtain ⟨ys, e, b, cur, ty, fs, hv', hF, hbn, hh, hcr⟩ := harg
          cases e
          rw [Option.map_eq_some_iff] at hturn
          obtain ⟨⟨cs, obs⟩, htc, e1⟩ := hturn
          simp only [Prod.mk.injEq] at e1
          obtain ⟨e1, rfl⟩ := e1
          obtain ⟨q1, q2, q3, q4⟩ := turnCs_spec htc
          have hl1 : ∀ k : Nat, k ≠ turnKey → look Ob.free ((turnKey, Ob.box cs) :: obs) k = look Ob.free obs k := fun k hk => by rw [look_cons, if_neg (fun e => hk e.symm)]
          have hl0 : look Ob.free ((turnKey, Ob.box cs) :: obs) turnKey = .box cs := by rw [look_cons, if_pos rfl]
          have hlen : cur.toList.length = cells0.length := hcr.1.symm
          refine ⟨v, [b], cur.toList, fs, fun b' hb' => by rw [List.mem_singleton.1 hb', hF]; simp, fun j b' hj hb' => ⟨by rw [hF]; exact List.mem_cons_of_mem _ (mem_flat.2 ⟨j, by omega, hb'⟩), fun hbb => ?_⟩, by rw [hlen]; exact hcr.2.1, fun k hk hk2 => ?_, fun fr hw hI hJ hv0 hvs => ?_⟩
          · rw [List.mem_singleton.1 hbb] at hb'
            exact hbn (mem_flat.2 ⟨j, by omega, hb'⟩)
          · rw [hl1 k hk]; exact q3 k (by rw [hlen] at hk2; omega)
          · have hob : ∀ j, j < cur.toList.length → (⟨l, (turnKey, Ob.box cs) :: obs⟩ : St).getO (turnKey + 1 + j) = look Ob.free obs (turnKey + 1 + j) := fun j _ => hl1 _ (by omega)
            obtain ⟨c1, c2⟩ := turned_cells hcr htc fr ⟨l, (turnKey, Ob.box cs) :: obs⟩ hw hI hJ hob hvs
            refine ⟨?_, fun j hj => by rw [hl1 _ (by omega)]; exact c2 j hj, same e1.symm ?_⟩
            · rw [hl0]
              exact ⟨b, cur, ty, hv', rfl, by rw [hw]; exact hh, c1⟩
            · refine ⟨?_, by rw [hv']; rfl⟩
              show (look Ob.free ((turnKey, Ob.box cs) :: obs) turnKey).ref _
              rw [hl0]
              show ptrTo (fr.val turnKey) 0 v
              rw [hv0, hv']
              rfl
        · rename_i sz0 cs0 hmd
          rw [hmd] at harg
          obtain ⟨⟨sz, cs, e⟩, hro⟩ := harg
          cases e
          simp only [Option.some.injEq, Prod.mk.injEq] at hturn
          obtain ⟨e1, rfl⟩ := hturn
          have hl0 : look Ob.free [(turnKey, Ob.arr true true sz0 cs0)] turnKey = .arr true true sz0 cs0 := by rw [look_cons, if_pos rfl]
          refine ⟨v, F, [], fun _ => [], fun _ h => h, by simp, ND.nil _, fun k hk _ => by rw [look_cons, if_neg (fun e => hk e.symm)]; rfl, fun fr hw hI hJ hv0 _ => ⟨?_, by simp, same e1.symm ?_⟩⟩
          · rw [hl0]
            show RO fr.w _ _ _
            rw [hw]; exact hro
          · refine ⟨?_, hro.one⟩
            show (look Ob.free [(turnKey, Ob.arr true true sz0 cs0)] turnKey).ref _
            rw [hl0]
            exact hv0.symm
        · rename_i cs0 hmd
          rw [hmd] at harg
          obtain ⟨ys, e, us, fs, hv', hF, hcr⟩ := harg
          cases e
          rw [Option.map_eq_some_iff] at hturn
          obtain ⟨⟨cs, obs⟩, htc, e1⟩ := hturn
          simp only [Prod.mk.injEq] at e1
          obtain ⟨e1, rfl⟩ := e1
          obtain ⟨q1, q2, q3, q4⟩ := turnCs_spec htc
          have hlen : us.toList.length = cs0.length := hcr.1.symm
          have hl0 : look Ob.free obs turnKey = .free := q3 _ (.inl (by omega))
          refine ⟨undef, [], us.toList, fs, by simp, fun j b' hj hb' => ⟨by rw [hF]; exact mem_flat.2 ⟨j, by omega, hb'⟩, by simp⟩, by rw [hlen]; exact hcr.2.1, fun k hk hk2 => q3 k (by rw [hlen] at hk2; omega), fun fr hw hI hJ hv0 hvs => ?_⟩
          obtain ⟨c1, c2⟩ := turned_cells hcr htc fr ⟨l, obs⟩ hw (fun _ h => h.elim) (fun _ h => h.elim) (fun j _ => rfl) hvs
          refine ⟨by rw [hl0]; rfl, c2, same e1.symm ⟨us, hv', c1⟩⟩
        · cases hturn
      · exact absurd ht hn
  obtain ⟨u0, F0, us, fs, k1, k2, k3, k4, k5⟩ := key
  let val : Nat → Value := fun k => if k = turnKey then u0 else us.getD (k - turnKey - 1) undef
  let fp : Nat → List Nat := fun k => if k = turnKey then F0 else if turnKey < k ∧ k - turnKey - 1 < us.length then fpo (look Ob.free os k) (fs (k - turnKey - 1)) else []
  have fpo_sub : ∀ (o : Ob) (G : List Nat) b, b ∈ fpo o G → b ∈ G := fun o G b hb => by unfold fpo at hb; split at hb <;> first | exact hb | simp at hb
  have fpF : ∀ (k : Nat) b, b ∈ fp k → b ∈ F := fun k b hb => by
    simp only [fp] at hb
    split at hb
    · exact k1 b hb
    · split at hb
      · rename_i h2; exact (k2 _ b h2.2 (fpo_sub _ _ b hb)).1
      · simp at hb
  have hI : ∀ b, I b → inI ⟨w.heap.size, I, J, (· ∈ F)⟩ w fp b := fun b hb => ⟨.inl hb, hp.lt b (hp.ij b hb), fun k hk => hp.ap b (fpF k b hk) (hp.ij b hb)⟩
  have hJ : ∀ b, J b → inJ ⟨w.heap.size, I, J, (· ∈ F)⟩ w fp b := fun b hb => ⟨.inl hb, hp.lt b hb, fun k hk => hp.ap b (fpF k b hk) hb⟩
  have hrb : ∀ {x : T} {v : Value}, RB w I J x v → RB w (inI ⟨w.heap.size, I, J, (· ∈ F)⟩ w fp) (inJ ⟨w.heap.size, I, J, (· ∈ F)⟩ w fp) x v := fun h => RB.move h (fun b hb => ⟨hI b hb, rfl⟩) (fun b hb => ⟨hJ b hb, rfl⟩)
  have hval : ∀ i, i < us.length → val (turnKey + 1 + i) = us.getD i undef := fun i _ => by
    have e1 : ¬ turnKey + 1 + i = turnKey := by omega
    have e2 : turnKey + 1 + i - turnKey - 1 = i := by omega
    simp only [val, if_neg e1, e2]
  obtain ⟨c1, c2, c3⟩ := k5 (mkFr ⟨w.heap.size, I, J, (· ∈ F)⟩ w val fp) rfl hI hJ (by simp [mkFr, val]) (fun i hi => hval i hi)
  refine ⟨val, fp, fun (k : Nat) => ?_, fun i => ?_, fun (k k' : Nat) hne b hb hb' => ?_, fun k b hb => .inr (fpF k b hb), Nat.le_refl _, rfl, hp.ij⟩
  · by_cases hk : k = turnKey
    · subst hk
      have e1 : val turnKey = u0 := by simp [val]
      have e2 : fp turnKey = F0 := by simp [fp]
      rw [e1, e2]
      exact c1
    · by_cases hk2 : turnKey < k ∧ k - turnKey - 1 < us.length
      · have h3 := c2 (k - turnKey - 1) hk2.2
        have e : turnKey + 1 + (k - turnKey - 1) = k := by omega
        rw [e] at h3
        have e1 : val k = us.getD (k - turnKey - 1) undef := by simp only [val, if_neg hk]
        have e2 : fp k = fpo (look Ob.free os k) (fs (k - turnKey - 1)) := by simp only [fp, if_neg hk, if_pos hk2]
        rw [e1, e2]
        exact h3
      · have e : (⟨l, os⟩ : St).getO k = .free := k4 k hk (by omega)
        rw [e]
        show fp k = []
        simp only [fp, if_neg hk, if_neg hk2]
  · have hg : (⟨l, os⟩ : St).getT i = look V.any l i := rfl
    rw [hg]
    by_cases hi : i < args.length
    · have hiv : i < vs.size := by rw [hp.len]; exact hi
      have hv : vs[i]? = some vs[i] := by simp [hiv]
      have hx : args[i]? = some args[i] := by simp [hi]
      have hval : (vs ++ Array.replicate n undef).getD i undef = vs[i] := by
        rw [getD_args hiv]; simp [Array.getD_eq_getD_getElem?, hiv]
      show VR _ _ _ ((vs ++ Array.replicate n undef).getD i undef)
      rw [hval]
      rcases r2 i _ hx with ⟨ht, _⟩ | ⟨ht, hargV⟩
      · exact c3 i _ _ ht hx hv
      · have hres := hp.vals i _ _ ht hx hv
        unfold argV at hargV
        split at hargV
        · rename_i cs hcs
          rw [hcs] at hres
          cases hargV' : look V.any l i with
          | agg ds =>
            rw [hargV'] at hargV
            cases hargV
            obtain ⟨us, fs, e1, e2, _, _, hel⟩ := hres
            refine ⟨us, e1, by simpa using e2, fun j cj u hcj hu => ?_⟩
            rw [List.getElem?_map, Option.map_eq_some_iff] at hcj
            obtain ⟨y, hy, rfl⟩ := hcj
            exact hrb (hel j y u hy (by simpa using hu)).1
          | _ => rw [hargV'] at hargV; cases hargV
        · cases hargV
        · rename_i h1 h2
          cases hargV' : look V.any l i with
          | one d =>
            rw [hargV'] at hargV
            cases hargV
            have hrb' : RB w I J args[i] vs[i] := by
              revert hres
              cases hc : args[i] with
              | agg cs => exact absurd hc (h1 cs)
              | tup ps => exact absurd hc (h2 ps)
              | _ => exact fun hres => hres.1
            exact hrb hrb'
          | _ => rw [hargV'] at hargV; cases hargV
    · rw [r3 i (by omega)]
      trivial
  · have big : ∀ (k : Nat) b, k ≠ turnKey → b ∈ fp k → (turnKey < k ∧ k - turnKey - 1 < us.length) ∧ b ∈ fs (k - turnKey - 1) := fun k b hk hb => by
      simp only [fp, if_neg hk] at hb
      split at hb
      · exact ⟨by assumption, fpo_sub _ _ b hb⟩
      · simp at hb
    by_cases e1 : k = turnKey
    · by_cases e2 : k' = turnKey
      · exact hne (e1.trans e2.symm)
      · obtain ⟨g1, g2⟩ := big k' b e2 hb'
        subst e1
        simp only [fp, if_true] at hb
        exact (k2 _ b g1.2 g2).2 hb
    · obtain ⟨g1, g2⟩ := big k b e1 hb
      by_cases e2 : k' = turnKey
      · subst e2
        simp only [fp, if_true] at hb'
        exact (k2 _ b g1.2 g2).2 hb'
      · obtain ⟨g3, g4⟩ := big k' b e2 hb'
        have hne' : ¬ (k : Nat) = k' := hne
        exact k3.2 _ _ g1.2 g3.2 (by omega) b g2 g4
end
end Ev
