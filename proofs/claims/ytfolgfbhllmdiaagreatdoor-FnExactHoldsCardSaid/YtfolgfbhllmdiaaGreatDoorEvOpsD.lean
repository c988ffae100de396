/- Ev: operations. Part D: what writes memory. -/
import Derived.Test.YtfolgfbhllmdiaaGreatDoorEvMove
namespace Ev
open Go

/-! ## cells set -/
theorem setCells_get {α : Type} : ∀ (xs l : List α) (q : Nat) (i : Nat), q + xs.length ≤ l.length → (setCells l q xs)[i]? = if q ≤ i ∧ i < q + xs.length then xs[i - q]? else l[i]?
  | [], l, q, i, h => by rw [if_neg (by simp), setCells]
  | x :: xs, l, q, i, h => by
    simp only [List.length_cons] at h
    rw [setCells, setCells_get xs (l.set q x) (q + 1) i (by simp; omega)]
    by_cases h1 : q = i
    · subst h1
      have : ¬ (q + 1 ≤ q ∧ q < q + 1 + xs.length) := by omega
      rw [if_neg this, if_pos (by simp)]
      have hq : q < l.length := by omega
      simp [hq]
    · by_cases h2 : q + 1 ≤ i ∧ i < q + 1 + xs.length
      · rw [if_pos h2, if_pos (by simp; omega)]
        rw [show i - q = (i - (q + 1)) + 1 by omega]; simp
      · rw [if_neg h2, if_neg (by simp; omega)]
        simp [h1]
theorem setCells_len {α : Type} : ∀ (xs l : List α) (q : Nat), (setCells l q xs).length = l.length
  | [], _, _ => rfl
  | x :: xs, l, q => by rw [setCells, setCells_len xs]; simp
theorem seg_eq {α : Type} (l xs : List α) (q : Nat) (h : q + xs.length ≤ l.length) : l.take q ++ xs ++ l.drop (q + xs.length) = setCells l q xs := by
  apply List.ext_getElem?
  intro i
  rw [setCells_get _ _ _ _ h, List.append_assoc, List.getElem?_append, List.getElem?_append]
  simp only [List.length_take, List.getElem?_take, List.getElem?_drop]
  by_cases h1 : i < q
  · simp [h1, show i < min q l.length by omega, show ¬ q ≤ i by omega]
  · have : ¬ i < min q l.length := by omega
    rw [if_neg this, show min q l.length = q by omega]
    by_cases h2 : i - q < xs.length
    · rw [if_pos h2, if_pos (by omega)]
    · rw [if_neg h2, if_neg (by omega)]
      congr 1; omega
theorem CRs_set {f : Fr} {s : St} {cs : List C} {vs : List Value} (h : CRs f s cs vs) {xs : List C} {us : List Value} (hx : CRs f s xs us) {q : Nat} (hq : q + xs.length ≤ cs.length) : CRs f s (setCells cs q xs) (setCells vs q us) := by
  refine ⟨by rw [setCells_len, setCells_len]; exact h.1, fun i c v hc hv => ?_⟩
  rw [setCells_get _ _ _ _ hq] at hc
  rw [setCells_get _ _ _ _ (by rw [← hx.1, ← h.1]; exact hq), ← hx.1] at hv
  split at hc
  · rename_i h1; rw [if_pos h1] at hv; exact hx.2 _ _ _ hc hv
  · rename_i h1; rw [if_neg h1] at hv; exact h.2 _ _ _ hc hv

theorem VR_cells {f : Fr} {s : St} {v : V} {u : Value} (h : VR f s v u) (hp : 0 < v.cells.length) : CRs f s v.cells u.cells.toList := by
  cases v with
  | one c =>
    rw [cells_one (CR.one h)]
    refine ⟨rfl, fun i c' v' hc hv' => ?_⟩
    cases i with
    | zero => simp [V.cells] at hc hv'; subst hc; subst hv'; exact h
    | succ i => simp [V.cells] at hc
  | agg cs => obtain ⟨vs, rfl, h⟩ := h; exact h
  | tup _ => simp [V.cells] at hp
  | clo _ _ => simp [V.cells] at hp
  | skip => simp [V.cells] at hp
  | any => simp [V.cells] at hp
theorem blt_pos {n : Nat} (h : Nat.blt 0 n = true) : 0 < n := Nat.le_of_ble_eq_true h

theorem foldl_set : ∀ (xs : List Value) (k off : Nat) (cells : Array Value), ((xs.zipIdx k).foldl (fun cs (p : Value × Nat) => cs.setIfInBounds (off + p.2) p.1) cells).toList = setCells cells.toList (off + k) xs
  | [], _, _, _ => rfl
  | x :: xs, k, off, cells => by
    rw [List.zipIdx_cons, List.foldl_cons, foldl_set xs (k + 1) off]
    simp [setCells, Nat.add_assoc]
theorem fill_step (xs cells : Array Value) (off : Nat) : (xs.zipIdx.foldl (fun cs (p : Value × Nat) => cs.setIfInBounds (off + p.2) p.1) cells).toList = setCells cells.toList off xs.toList := by
  have := foldl_set xs.toList 0 off cells
  rw [Nat.add_zero] at this
  rw [← this, ← Array.foldl_toList, Array.toList_zipIdx]

theorem fill_sound {f : Fr} {s : St} {place place' : Nat → Option (Nat × Nat)} (hp : ∀ i, place i = place' i) : ∀ {vs : List (Nat × V)} {us : List (Nat × Value)} {cs : List C} {cells : Array Value} {cs' : List C},
    CRs f s cs cells.toList → vs.length = us.length → (∀ (i : Nat) (p : Nat × V) (u : Nat × Value), vs[i]? = some p → us[i]? = some u → p.1 = u.1 ∧ VR f s p.2 u.2) → fillCs place cs vs = some cs' →
    ∃ cells', Instr.fill place' cells us = some cells' ∧ CRs f s cs' cells'.toList
  | [], [], cs, cells, cs', hc, _, _, hf => by cases hf; exact ⟨cells, rfl, hc⟩
  | [], _ :: _, _, _, _, _, hl, _, _ => by simp at hl
  | _ :: _, [], _, _, _, _, hl, _, _ => by simp at hl
  | (i, v) :: vs, (j, u) :: us, cs, cells, cs', hc, hl, hv, hf => by
    obtain ⟨e1, e2⟩ := hv 0 _ _ rfl rfl
    simp only at e1 e2
    subst e1
    rw [fillCs] at hf
    split at hf
    · rename_i off size hpl
      replace hf := ev_true hf
      obtain ⟨hb, hf⟩ := hf
      rw [Bool.and_eq_true, Bool.and_eq_true] at hb
      have h1 := blt_pos hb.1.1
      have h2 : v.cells.length = size := Nat.eq_of_beq_eq_true hb.1.2
      have h3 := of_decide_eq_true hb.2
      have hvc := VR_cells e2 (by omega)
      have hsz : u.cells.size = size := by have := hvc.1; simp at this; omega
      obtain ⟨cells', r1, r2⟩ := fill_sound hp (cells := (u.cells.zipIdx.foldl (fun cs (p : Value × Nat) => cs.setIfInBounds (off + p.2) p.1) cells)) (us := us) (by
        rw [fill_step]; exact CRs_set hc hvc (by omega)) (by simpa using hl) (fun i p u' hp' hu' => hv (i + 1) p u' (by simpa using hp') (by simpa using hu')) hf
      refine ⟨cells', ?_, r2⟩
      have hcl := hc.1
      simp at hcl
      rw [Instr.fill, ← hp, hpl]
      simp only
      rw [if_neg (by simp; omega)]
      exact r1
    · cases hf

section
variable {P : Program} {A : Attrs} {E : Env} {c : Ctx} {s : St} {a : Act} {w : World} {val : Key → Value} {fp : Key → List Nat}
variable {l : Log} {K : St → Log → R} {r : T × List T}

theorem getPs_sound (h : Inv c s a w val fp) : ∀ {xs : List (Nat × Operand)} {f : List (Nat × V) → Prog} {l : Log}, runP E (getPs xs f) s l K = some r →
    ∃ vs l', runP E (f vs) s l' K = some r ∧ vs.length = (xs.map fun (i, x) => (i, a.eval x)).length ∧
      ∀ (i : Nat) (p : Nat × V) (u : Nat × Value), vs[i]? = some p → (xs.map fun (i, x) => (i, a.eval x))[i]? = some u → p.1 = u.1 ∧ VR (mkFr c w val fp) s p.2 u.2
  | [], f, l, hr => ⟨[], l, hr, rfl, by simp⟩
  | (i, x) :: xs, f, l, hr => by
    rw [getPs] at hr
    obtain ⟨v, l1, h1, hv⟩ := getV_sound h hr
    obtain ⟨vs, l2, h2, hl, hvs⟩ := getPs_sound h h1
    refine ⟨(i, v) :: vs, l2, h2, by simp at hl ⊢; exact hl, fun j p u hp hu => ?_⟩
    cases j with
    | zero => simp at hp hu; subst hp; subst hu; exact ⟨rfl, hv⟩
    | succ j => exact hvs j p u (by simpa using hp) (by simpa using hu)

theorem zeroC_some {t : TypeId} {cs : List C} (h : zeroC P t = some cs) : ∃ i z, P.info? t = some i ∧ i.zero = some z ∧ z.cells.size = i.size ∧ z.cells.toList.all (·.oneCell') = true ∧ cs = z.cells.toList.map ofC := by
  unfold zeroC at h
  split at h
  · rename_i i hi
    split at h
    · rename_i z hz
      replace h := ev_true h
      obtain ⟨hb, h⟩ := h
      rw [Bool.and_eq_true] at hb
      cases h
      exact ⟨i, z, hi, hz, Nat.eq_of_beq_eq_true hb.2, hb.1, rfl⟩
    · cases h
  · cases h
theorem fillV_some {t : TypeId} {z : Option (List C)} {vs : List (Nat × V)} {cs : List C} (h : fillV P t z vs = some cs) : ∃ z' p, z = some z' ∧ placesT P t = some p ∧ fillCs p z' vs = some cs := by
  unfold fillV at h
  split at h
  · rename_i z' p hp; exact ⟨z', p, rfl, hp, h⟩
  · cases h

theorem op_build (h : Inv c s a w val fp) {o : Oper} {t : TypeId} {ps : Array (Nat × Operand)} (ho : o.op = .build t ps) (hd : ∀ d, o.dst = some d → d < a.tmps.size)
    {Q : Exit → Act → World → Prop} (hr : runP E (opP P A o) s l K = some r) : o.wp P a w (Post c w K r) Q := by
  unfold opP at hr
  simp only [ho] at hr
  rw [run_iteF] at hr
  replace hr := ev_true hr
  obtain ⟨hag, hr⟩ := hr
  obtain ⟨vs, l1, h1, hl, hvs⟩ := getPs_sound h hr
  split at h1
  · rename_i cs hcs
    obtain ⟨z', p, hz, hp, hf⟩ := fillV_some hcs
    obtain ⟨i, z, hi, hiz, hzs, hzo, rfl⟩ := zeroC_some hz
    obtain ⟨d, l2, hd', h2⟩ := setD_sound h1
    have fin : ∀ {place' : Nat → Option (Nat × Nat)}, (∀ i, p i = place' i) → (∀ cells, Instr.fill place' z.cells (ps.toList.map fun (i, x) => (i, a.eval x)) = some cells → P.built t (ps.toList.map fun (i, x) => (i, a.eval x)) = some cells) →
        o.wp P a w (Post c w K r) Q := by
      intro place' hpl hb
      obtain ⟨cells', r1, r2⟩ := fill_sound (f := mkFr c w val fp) hpl (CRs_ofC hzo) hl hvs hf
      have hrun := run_build (P := P) w t (ps.map fun (i, x) => (i, a.eval x)) cells' (by simpa using hb _ r1)
      refine wp_value (v := .agg cells') (w' := w) (by simp [execOp, ho, hrun]) ?_
      rw [hd']
      exact post_value (o := o) (x := .agg _) h (hd d hd') ⟨cells', rfl, r2⟩ h2
    unfold placesT at hp
    split at hp
    · rename_i fs hu
      rw [Option.map_eq_some_iff] at hp
      obtain ⟨pl, hpl, rfl⟩ := hp
      exact fin (place' := (pl[·]?)) (fun i => rfl) fun cells hcells => by simpa [Program.built, hi, hu, hiz, hpl] using hcells
    · rename_i m e hu
      rw [Option.map_eq_some_iff] at hp
      obtain ⟨ie, hie, rfl⟩ := hp
      exact fin (place' := fun i => some (i * ie.size, ie.size)) (fun i => rfl) fun cells hcells => by simpa [Program.built, hi, hu, hiz, hie] using hcells
    · rename_i e hu
      simp [isAggT, hu] at hag
    · cases hp
  · cases h1
end
end Ev
