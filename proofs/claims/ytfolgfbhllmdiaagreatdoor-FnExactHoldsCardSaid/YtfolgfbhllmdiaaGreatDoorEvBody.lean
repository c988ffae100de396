/- Ev: a function, from its entry to its end. -/
import Derived.Test.YtfolgfbhllmdiaaGreatDoorEvCode
namespace Ev
open Go

/-! ## entry -/
theorem argsV_spec (at_ : Attr) : ∀ {args : List T} {i : Nat} {l : List (Nat × V)} {os : List (Key × Ob)}, argsV at_ i args = some (l, os) →
    (∀ j, j < i → look V.any l j = .any) ∧ (∀ j x, args[j]? = some x → (at_.turn = some (i + j) ∧ turnV at_.sl x = some (look V.any l (i + j), os)) ∨ (at_.turn ≠ some (i + j) ∧ argV x = some (look V.any l (i + j)))) ∧
      (∀ j, i + args.length ≤ j → look V.any l j = .any) ∧ ((∀ j, j < args.length → at_.turn ≠ some (i + j)) → os = [])
  | [], i, l, os, h => by simp [argsV] at h; obtain ⟨rfl, rfl⟩ := h; simp [look]
  | x :: xs, i, l, os, h => by
    rw [argsV, Option.bind_eq_some_iff] at h
    obtain ⟨⟨v, os1⟩, hv, h⟩ := h
    rw [Option.map_eq_some_iff] at h
    obtain ⟨⟨l2, os2⟩, h2, h⟩ := h
    simp only [Prod.mk.injEq] at h
    obtain ⟨rfl, rfl⟩ := h
    obtain ⟨r1, r2, r3, r4⟩ := argsV_spec at_ h2
    have hii : Nat.beq i i = true := by simp
    have first : (at_.turn = some i ∧ turnV at_.sl x = some (v, os1)) ∨ (at_.turn ≠ some i ∧ argV x = some v ∧ os1 = []) := by
      split at hv
      · rename_i j hj
        cases hji : Nat.beq j i with
        | true =>
          rw [hji] at hv
          have : j = i := Nat.eq_of_beq_eq_true hji
          exact .inl ⟨by rw [hj, this], hv⟩
        | false =>
          rw [hji] at hv
          simp only [cond_false, Option.map_eq_some_iff, Prod.mk.injEq] at hv
          obtain ⟨v', hv', rfl, rfl⟩ := hv
          refine .inr ⟨fun e => ?_, hv', rfl⟩
          rw [hj] at e
          cases e
          simp at hji
      · rename_i hj
        simp only [Option.map_eq_some_iff, Prod.mk.injEq] at hv
        obtain ⟨v', hv', rfl, rfl⟩ := hv
        exact .inr ⟨by rw [hj]; simp, hv', rfl⟩
    refine ⟨fun j hj => ?_, fun j y hy => ?_, fun j hj => ?_, fun hn => ?_⟩
    · rw [look, nbeq (by omega : i ≠ j), cond_false]; exact r1 j (by omega)
    · cases j with
      | zero =>
        simp at hy
        subst hy
        simp only [Nat.add_zero, look, hii, cond_true]
        rcases first with ⟨f1, f2⟩ | ⟨f1, f2, f3⟩
        · refine .inl ⟨f1, ?_⟩
          have : os2 = [] := r4 fun j hj e => by rw [f1] at e; have := Option.some.inj e; omega
          rw [this, List.append_nil]; exact f2
        · exact .inr ⟨f1, f2⟩
      | succ j =>
        have hy' : xs[j]? = some y := by simpa using hy
        have := r2 j y hy'
        rw [look, nbeq (by omega : i ≠ i + (j + 1)), cond_false, show i + (j + 1) = i + 1 + j by omega]
        rcases this with ⟨f1, f2⟩ | h
        · refine .inl ⟨f1, ?_⟩
          rcases first with ⟨g1, _⟩ | ⟨_, _, g3⟩
          · rw [f1] at g1; have := Option.some.inj g1; omega
          · rw [g3]; exact f2
        · exact .inr h
    · simp only [List.length_cons] at hj
      rw [look, nbeq (by omega : i ≠ j), cond_false]; exact r3 j (by omega)
    · have e1 : os1 = [] := by
        rcases first with ⟨f1, _⟩ | ⟨_, _, f3⟩
        · exact absurd f1 (by have := hn 0 (by simp); simpa using this)
        · exact f3
      have e2 : os2 = [] := r4 fun j hj => by have := hn (j + 1) (by simp; omega); rwa [show i + (j + 1) = i + 1 + j by omega] at this
      rw [e1, e2]; rfl

section
variable {P : Program} {A : Attrs} {E : Env} {c : Ctx} {s : St} {a : Act} {w : World} {val : Key → Value} {fp : Key → List Nat}
variable {l : Log} {r : T × List T}

theorem getD_args {vs : Array Value} {n i : Nat} (h : i < vs.size) : (vs ++ Array.replicate n undef).getD i undef = vs.getD i undef := by
  simp only [Array.getD_eq_getD_getElem?]
  rw [Array.getElem?_append_left h]

/-- The state a function starts in. -/
theorem entry {at_ : Attr} {args : List T} {I J : Nat → Prop} {vs : Array Value} {F : List Nat} (hp : Pre at_ args w I J vs F) {l : List (Nat × V)} {os : List (Key × Ob)} (ha : argsV at_ 0 args = some (l, os)) (n : Nat) :
    ∃ val fp, Inv ⟨w.heap.size, I, J, (· ∈ F)⟩ ⟨l, os⟩ { tmps := vs ++ Array.replicate n undef, defers := [] } w val fp := by
  obtain ⟨r1, r2, r3, r4⟩ := argsV_spec at_ ha
  simp only [Nat.zero_add] at r1 r2 r3 r4
  -- what is turned
  have key : ∃ u, (∀ fr s', fr.w = w → ObR fr s' (look Ob.free os turnKey) u F) ∧ (∀ k, k ≠ turnKey → look Ob.free os k = .free) ∧
      ∀ i x v, at_.turn = some i → args[i]? = some x → vs[i]? = some v → ∀ fr, fr.val turnKey = u → VR fr ⟨l, os⟩ (look V.any l i) v := by
    cases ht : at_.turn with
    | none =>
      have hos : os = [] := r4 fun j _ e => by rw [ht] at e; cases e
      subst hos
      exact ⟨undef, fun _ _ _ => hp.none ht, fun _ _ => rfl, fun i x v e => by cases e⟩
    | some i =>
      obtain ⟨x, v, hx, hv, harg⟩ := hp.turned i ht
      rcases r2 i x hx with ⟨_, hturn⟩ | ⟨hn, _⟩
      · unfold turnV at hturn
        split at hturn
        · rename_i cells0 hsl
          rw [hsl] at harg
          obtain ⟨cells, e, b, cur, ty, hv', hF, hh, hl, hro⟩ := harg
          cases e
          simp only [Option.some.injEq, Prod.mk.injEq] at hturn
          obtain ⟨e1, rfl⟩ := hturn
          refine ⟨v, fun fr s' hw => ?_, fun k hk => ?_, fun i' x' v' hi hx' hv'' fr hfr => ?_⟩
          · have : look Ob.free [(turnKey, Ob.box (cells0.map C.t))] turnKey = .box (cells0.map C.t) := by simp [look]
            rw [this]
            refine ⟨b, cur, ty, hv', hF, by rw [hw]; exact hh, by simpa using hl, fun j cj u hcj hu => ?_⟩
            rw [List.getElem?_map, Option.map_eq_some_iff] at hcj
            obtain ⟨y, hy, rfl⟩ := hcj
            show RB fr.w fr.I fr.J y u
            rw [hw]
            exact (hro j y u hy (by simpa using hu)).rb (by simp)
          · rw [look, nbeq (fun e => hk e.symm)]; rfl
          · cases hi
            rw [hv] at hv''
            cases hv''
            rw [← e1]
            refine ⟨?_, by rw [hv']; rfl⟩
            have : (⟨l, [(turnKey, Ob.box (cells0.map C.t))]⟩ : St).getO turnKey = .box (cells0.map C.t) := by simp [St.getO, look]
            rw [this]
            show ptrTo (fr.val turnKey) 0 v
            rw [hfr, hv']
            rfl
        · rename_i sz0 cs0 hsl
          rw [hsl] at harg
          obtain ⟨⟨sz, cs, e⟩, hro⟩ := harg
          cases e
          simp only [Option.some.injEq, Prod.mk.injEq] at hturn
          obtain ⟨e1, rfl⟩ := hturn
          refine ⟨v, fun fr s' hw => ?_, fun k hk => ?_, fun i' x' v' hi hx' hv'' fr hfr => ?_⟩
          · have : look Ob.free [(turnKey, Ob.arr true true sz0 cs0)] turnKey = .arr true true sz0 cs0 := by simp [look]
            rw [this]
            show RO fr.w _ _ _
            rw [hw]; exact hro
          · rw [look, nbeq (fun e => hk e.symm)]; rfl
          · cases hi
            rw [hv] at hv''
            cases hv''
            rw [← e1]
            refine ⟨?_, hro.one⟩
            have : (⟨l, [(turnKey, Ob.arr true true sz0 cs0)]⟩ : St).getO turnKey = .arr true true sz0 cs0 := by simp [St.getO, look]
            rw [this]
            exact hfr.symm
        · cases hturn
      · exact absurd ht hn
  obtain ⟨u, k1, k2, k3⟩ := key
  let val : Key → Value := fun k => if k = turnKey then u else undef
  let fp : Key → List Nat := fun k => if k = turnKey then F else []
  have hI : ∀ b, I b → inI ⟨w.heap.size, I, J, (· ∈ F)⟩ w fp b := fun b hb => ⟨.inl hb, hp.lt b (hp.ij b hb), fun k hk => by
    simp only [fp] at hk
    split at hk
    · exact hp.ap b hk (hp.ij b hb)
    · simp at hk⟩
  have hJ : ∀ b, J b → inJ ⟨w.heap.size, I, J, (· ∈ F)⟩ w fp b := fun b hb => ⟨.inl hb, hp.lt b hb, fun k hk => by
    simp only [fp] at hk
    split at hk
    · exact hp.ap b hk hb
    · simp at hk⟩
  have hrb : ∀ {x : T} {v : Value}, RB w I J x v → RB w (inI ⟨w.heap.size, I, J, (· ∈ F)⟩ w fp) (inJ ⟨w.heap.size, I, J, (· ∈ F)⟩ w fp) x v := fun h => RB.move h (fun b hb => ⟨hI b hb, rfl⟩) (fun b hb => ⟨hJ b hb, rfl⟩)
  refine ⟨val, fp, fun k => ?_, fun i => ?_, fun k k' hne b hb hb' => ?_, fun k b hb => ?_, Nat.le_refl _, rfl, hp.ij⟩
  · by_cases hk : k = turnKey
    · subst hk
      have e1 : val turnKey = u := by simp [val]
      have e2 : fp turnKey = F := by simp [fp]
      rw [e1, e2]
      exact k1 _ _ rfl
    · have e : (⟨l, os⟩ : St).getO k = .free := k2 k hk
      rw [e]
      show fp k = []
      simp [fp, hk]
  · have hg : (⟨l, os⟩ : St).getT i = look V.any l i := rfl
    rw [hg]
    by_cases hi : i < args.length
    · have hiv : i < vs.size := by rw [hp.len]; exact hi
      have hv : vs[i]? = some vs[i] := by simp [hiv]
      have hx : args[i]? = some args[i] := by simp [hi]
      have hval : (vs ++ Array.replicate n undef).getD i undef = vs[i] := by
        rw [getD_args hiv]; simp [Array.getD_eq_getD_getElem?, hiv]
      show VR _ _ _ ((vs ++ Array.replicate n undef).getD i undef)
      rw [hval]
      rcases r2 i _ hx with ⟨ht, _⟩ | ⟨ht, hargV⟩
      · exact k3 i _ _ ht hx hv _ (by simp [mkFr, val])
      · have hres := hp.vals i _ _ ht hx hv
        unfold argV at hargV
        split at hargV
        · rename_i cs hcs
          rw [hcs] at hres
          cases hargV' : look V.any l i with
          | agg ds =>
            rw [hargV'] at hargV
            cases hargV
            obtain ⟨us, fs, e1, e2, _, _, hel⟩ := hres
            refine ⟨us, e1, by simpa using e2, fun j cj u hcj hu => ?_⟩
            rw [List.getElem?_map, Option.map_eq_some_iff] at hcj
            obtain ⟨y, hy, rfl⟩ := hcj
            exact hrb (hel j y u hy (by simpa using hu)).1
          | _ => rw [hargV'] at hargV; cases hargV
        · cases hargV
        · rename_i h1 h2
          cases hargV' : look V.any l i with
          | one d =>
            rw [hargV'] at hargV
            cases hargV
            have hrb' : RB w I J args[i] vs[i] := by
              revert hres
              cases hc : args[i] with
              | agg cs => exact absurd hc (h1 cs)
              | tup ps => exact absurd hc (h2 ps)
              | _ => exact fun hres => hres.1
            exact hrb hrb'
          | _ => rw [hargV'] at hargV; cases hargV
    · rw [r3 i (by omega)]
      trivial
  · simp only [fp] at hb hb'
    split at hb
    · split at hb'
      · rename_i e1 e2; exact hne (e1.trans e2.symm)
      · simp at hb'
    · simp at hb
  · simp only [fp] at hb
    split at hb
    · exact .inr hb
    · simp at hb
end
end Ev
