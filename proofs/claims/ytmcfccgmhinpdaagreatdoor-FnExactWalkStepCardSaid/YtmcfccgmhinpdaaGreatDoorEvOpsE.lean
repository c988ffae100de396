/- Ev: operations. Part E: slices made and appended to, stores. -/
import Derived.Test.YtmcfccgmhinpdaaGreatDoorEvMove
namespace Ev
open Go

section
variable {P : Program} {A : Attrs} {E : Env} {c : Ctx} {s s1 : St} {a : Act} {w w' : World} {val : Key → Value} {fp : Key → List Nat}
variable {l : Log} {K : St → Log → R} {r : T × List T}

structure SlTy (P : Program) (t e : TypeId) (i : TypeInfo) (z : Value) : Prop where
  hu : P.underlying t = some (.slice e)
  hi : P.info? e = some i
  hz : i.zero = some z
  hzs : z.cells.size = i.size
  hzo : z.cells.toList.all (·.oneCell') = true
  pos : 0 < i.size
  bpos : 0 < i.bytes
  stride : strideT P t = i.size
  elem : elemS P t = e
  size : sizeT P e = i.size
  bytes : bytesT P e = i.bytes
  tys : tyOk P e = true
  ntys : (cellTys P 8 e).length = i.size
  zeroC : zeroC P e = some (z.cells.toList.map ofC)
theorem slOk_some {t : TypeId} (h : slOk P t = true) : ∃ e i z, SlTy P t e i z := by
  unfold slOk at h
  split at h
  · rename_i e hu
    simp only [Bool.and_eq_true] at h
    obtain ⟨⟨⟨h1, h2⟩, h3⟩, h4⟩ := h
    obtain ⟨cs, hcs⟩ := Option.isSome_iff_exists.1 h4
    obtain ⟨i, z, hi, hz, hzs, hzo, rfl⟩ := zeroC_some hcs
    obtain ⟨i', d, hi', hd, hs, _⟩ := tyOk_size h1
    rw [hi] at hi'; cases hi'
    have es : sizeT P e = i.size := by simp [sizeT, hi]
    have eb : bytesT P e = i.bytes := by simp [bytesT, hi]
    have h2 := blt_pos h2
    have h3 := blt_pos h3
    exact ⟨e, i, z, hu, hi, hz, hzs, hzo, by omega, by omega, by simp [strideT, hu, es], by simp [elemS, hu], es, eb, h1, hs.symm, hcs⟩
  · cases h
theorem fits_le {e : TypeId} {i : TypeInfo} (hi : P.info? e = some i) {n : Nat} (h : fits P e n = true) : n * i.bytes ≤ 140737488355328 * i.size := by
  have := Nat.le_of_ble_eq_true h
  simpa [sizeT, bytesT, hi] using this

/-- A living slice object's cells, to be copied. -/
theorem arr_cells (h : Inv c s a w val fp) {k : Key} {own deep : Bool} {sz : Nat} {cells : List T} (hk : s.getO k = .arr own deep sz cells) :
    ∃ A m cp, ∃ news : List Value, val k = .slice A m cp ∧ 0 < sz ∧ cells.length = m * sz ∧ news.length = cells.length ∧
      (news ≠ [] → ∃ ad, A = some ad ∧ ∀ (j : Nat) (u : Value), news[j]? = some u → w.cell? (ad.add j) = some u) ∧
      (∀ (i : Nat) (y : T) (v : Value), cells[i]? = some y → news[i]? = some v → RB w (inI c w (clr fp [k])) (inJ c w (clr fp [k])) y v) ∧
      (own = true → deep = true → ∃ fs, ND cells.length fs ∧ (∀ i b, i < cells.length → b ∈ fs i → b ∈ fp k) ∧
        ∀ (i : Nat) (y : T) (v : Value), cells[i]? = some y → news[i]? = some v → RO w y v (fs i)) := by
  have hob := h.obs k
  rw [hk] at hob
  cases own with
  | false =>
    obtain ⟨A, m, cp, e, h1, h2, h3, vs, hc, h4⟩ := RB.sl_inv hob.1
    refine ⟨A, m, cp, (List.range cells.length).map vs, e, h1, h2, by simp, fun hne => ?_, fun i y v hy hv => ?_, fun h => by cases h⟩
    · have hne' : cells ≠ [] := by intro h; rw [h] at hne; simp at hne
      obtain ⟨b, o, rfl, _, h5⟩ := h4 hne'
      refine ⟨_, rfl, fun j u hu => ?_⟩
      simp only [List.getElem?_map, Option.map_eq_some_iff] at hu
      obtain ⟨j', hj, rfl⟩ := hu
      rw [List.getElem?_eq_some_iff] at hj
      obtain ⟨hj1, hj2⟩ := hj
      simp at hj1 hj2
      subst hj2
      rw [add_at]; exact h5 j hj1
    · have hi := (List.getElem?_eq_some_iff.1 hy).1
      simp [hi] at hv
      subst hv
      exact RB.clr (hc i y hy)
  | true =>
    obtain ⟨xs, Fg, fs, ho, hF⟩ := own_iff.1 hob
    obtain ⟨A, m, cp, hv, hl, hcp⟩ := ho.row.slice
    refine ⟨A, m, cp, xs, hv, ho.pos, by rw [← ho.len]; exact hl, ho.len, fun hne => ?_, fun i y v hy hvv => ?_, fun _ hd => ?_⟩
    · obtain ⟨g, len, cap, e1, e2, _⟩ := ho.row.cell (List.getElem?_eq_getElem (List.length_pos_iff.2 hne))
      rw [hv] at e1
      cases e1
      refine ⟨_, rfl, fun j u hu => ?_⟩
      obtain ⟨g', _, _, e3, e4, e5⟩ := ho.row.cell hu
      rw [hv] at e3
      cases e3
      rw [add_at, Nat.zero_add]; exact e5
    · have hi := (List.getElem?_eq_some_iff.1 hy).1
      have hel := ho.el i y v hy hvv
      unfold El at hel
      split at hel
      · refine RO.rb hel fun b hb => inI_moved h (List.mem_singleton.2 rfl) ?_
        rw [hF]
        exact List.mem_append_right _ (mem_flat.2 ⟨i, hi, hb⟩)
      · exact RB.clr hel.1
    · subst hd
      refine ⟨fs, ho.nd, fun i b hi hb => ?_, fun i y v hy hvv => by have h1 := ho.el i y v hy hvv; rw [El, if_pos rfl] at h1; exact h1⟩
      rw [hF]
      exact List.mem_append_right _ (mem_flat.2 ⟨i, hi, hb⟩)

theorem scalar_rb {w w' : World} {I J I' J' : Nat → Prop} {x : T} {v : Value} (h : RB w I J x v) (hs : x.scalar = true) : RB w' I' J' x v := by
  cases h with
  | int k n => exact .int k n
  | bool b => exact .bool b
  | str s => exact .str s
  | sl _ _ _ _ _ _ => simp [T.scalar] at hs
  | rref _ _ _ _ => simp [T.scalar] at hs
  | clo _ _ _ => simp [T.scalar] at hs
  | hole _ => simp [T.scalar] at hs
  | mp _ _ _ => simp [T.scalar] at hs

/-- Cells that are copied without their memory. -/
theorem scalars_moved {L : List Key} {ys : List T} {news : List Value} (hl : ys.length = news.length) (hs : ys.all T.scalar = true) {I J : Nat → Prop} (h : ∀ (i : Nat) (y : T) (v : Value), ys[i]? = some y → news[i]? = some v → RB w I J y v) :
    MovedCs c w fp L [] true ys news fun _ => [] := by
  refine ⟨hl, fun i y v hy hv => ?_, fun _ => ⟨fun i y v hy hv => ?_, ND.nil _, by simp⟩⟩
  · exact scalar_rb (h i y v hy hv) (List.all_eq_true.1 hs y (List.mem_of_getElem? hy))
  · exact scalar_ro (h i y v hy hv) (List.all_eq_true.1 hs y (List.mem_of_getElem? hy))

theorem takeSl_sound (h : Inv c s a w val fp) {sz : Nat} (hsz : 0 < sz) {fl : Bool} {x : V} {vx : Value} (hx : VR (mkFr c w val fp) s x vx) {f : List T → Bool → Prog} (hr : runP E (takeSl sz fl x f) s l K = some r) :
    ∃ ys b s' l' M fs A m cp, ∃ news : List Value, runP E (f ys b) s' l' K = some r ∧ Moved s s' M ∧ vx = .slice A m cp ∧ news.length = m * sz ∧
      (news ≠ [] → ∃ ad, A = some ad ∧ ∀ (j : Nat) (u : Value), news[j]? = some u → w.cell? (ad.add j) = some u) ∧ MovedCs c w fp [] M b ys news fs := by
  unfold takeSl at hr
  split at hr
  · rename_i y
    rw [run_asSl] at hr
    split at hr
    · rename_i sz' cs
      replace hr := ev_true hr
      obtain ⟨h1, hr⟩ := hr
      have : sz' = sz := Nat.eq_of_beq_eq_true h1
      subst this
      obtain ⟨A, m, cp, e, e1, e2, e3, vs, hc, hcells⟩ := RB.sl_inv hx
      have hrb : ∀ (i : Nat) (y : T) (v : Value), cs[i]? = some y → ((List.range cs.length).map vs)[i]? = some v → RB w (inI c w fp) (inJ c w fp) y v := fun i y v hy hv => by
        have hi := (List.getElem?_eq_some_iff.1 hy).1
        simp [hi] at hv
        subst hv
        exact hc i y hy
      have hn : ((List.range cs.length).map vs) ≠ [] → ∃ ad, A = some ad ∧ ∀ (j : Nat) (u : Value), ((List.range cs.length).map vs)[j]? = some u → w.cell? (ad.add j) = some u := fun hne => by
        have hne' : cs ≠ [] := by intro h; rw [h] at hne; simp at hne
        obtain ⟨b, o, rfl, _, h5⟩ := hcells hne'
        refine ⟨_, rfl, fun j u hu => ?_⟩
        simp only [List.getElem?_map, Option.map_eq_some_iff] at hu
        obtain ⟨j', hj, rfl⟩ := hu
        rw [List.getElem?_eq_some_iff] at hj
        obtain ⟨hj1, hj2⟩ := hj
        simp at hj1 hj2
        subst hj2
        rw [add_at]; exact h5 j hj1
      cases fl with
      | true =>
        rw [cond_true, run_iteF] at hr
        replace hr := ev_true hr
        obtain ⟨hs, hr⟩ := hr
        exact ⟨cs, true, s, _, [], _, A, m, cp, _, hr, Moved.refl s, e, by simp [e2], hn, scalars_moved (by simp) hs hrb⟩
      | false =>
        rw [cond_false] at hr
        exact ⟨cs, false, s, _, [], fun _ => [], A, m, cp, _, hr, Moved.refl s, e, by simp [e2], hn, ⟨by simp, fun i y v hy hv => RB.clr (hrb i y v hy hv), fun h => by cases h⟩⟩
    · cases hr
  · have hv : vx = .slice none 0 0 := hx
    exact ⟨[], true, s, _, [], fun _ => [], none, 0, 0, [], hr, Moved.refl s, hv, by simp, fun h => absurd rfl h, ⟨rfl, by simp, fun _ => ⟨by simp, ND.nil _, by simp⟩⟩⟩
  · rename_i k
    rw [run_getO] at hr
    split at hr
    · rename_i own deep sz' cs hk
      rw [run_iteF] at hr
      replace hr := ev_true hr
      obtain ⟨h1, hr⟩ := hr
      have : sz' = sz := Nat.eq_of_beq_eq_true h1
      subst this
      have hv := obj_alive hx hk
      obtain ⟨A, m, cp, news, e, e1, e2, e3, hn, hrb, hro⟩ := arr_cells h hk
      have hvx : vx = .slice A m cp := hv.trans e
      cases fl with
      | true =>
        rw [cond_true, run_iteF] at hr
        replace hr := ev_true hr
        obtain ⟨hs, hr⟩ := hr
        exact ⟨cs, true, s, _, [], _, A, m, cp, news, hr, Moved.refl s, hvx, by omega, hn, scalars_moved e3.symm hs hrb⟩
      | false =>
        rw [cond_false] at hr
        cases own with
        | true =>
          rw [cond_true, run_setO] at hr
          obtain ⟨_, _, hm⟩ := (Moved.refl s).add (o := .gone) (.inl rfl) hk
          cases deep with
          | true =>
            obtain ⟨fs, f1, f2, f3⟩ := hro rfl rfl
            exact ⟨cs, true, _, _, [k], fs, A, m, cp, news, hr, hm, hvx, by omega, hn, ⟨e3.symm, hrb, fun _ => ⟨f3, f1, fun i b hi hb => ⟨k, by simp, f2 i b hi hb⟩⟩⟩⟩
          | false => exact ⟨cs, false, _, _, [k], fun _ => [], A, m, cp, news, hr, hm, hvx, by omega, hn, ⟨e3.symm, hrb, fun h => by cases h⟩⟩
        | false =>
          rw [cond_false] at hr
          have hob := h.obs k
          rw [hk] at hob
          refine ⟨cs, false, s, _, [], fun _ => [], A, m, cp, news, hr, Moved.refl s, hvx, by omega, hn, ⟨e3.symm, fun i y v hy hv => ?_, fun h => by cases h⟩⟩
          refine RB.move (hrb i y v hy hv) (fun b hb => ⟨⟨hb.1, hb.2.1, fun j hj => ?_⟩, rfl⟩) (fun b hb => ⟨⟨hb.1, hb.2.1, fun j hj => ?_⟩, rfl⟩)
          · obtain ⟨_, hj2⟩ := mem_clr hj
            by_cases hjk : j = k
            · rw [hjk, show fp k = [] from hob.2] at hj2; simp at hj2
            · exact hb.2.2 j (by simp [clr, hjk, hj2])
          · obtain ⟨_, hj2⟩ := mem_clr hj
            by_cases hjk : j = k
            · rw [hjk, show fp k = [] from hob.2] at hj2; simp at hj2
            · exact hb.2.2 j (by simp [clr, hjk, hj2])
    · cases hr
  · cases hr

/-- A slice is laid down under a new key: what of it was there, what has come. -/
theorem new_arr (h : Inv c s a w val fp) {L M : List Key} (hm : Moved s s1 L) (hML : ∀ k, k ∈ M → k ∈ L) {deep b : Bool} {sz : Nat} {cells ys : List T} {u : Value} {xs news : List Value} {Fg : List Nat} {fs gs : Nat → List Nat}
    (ho : OwnR w (inI c w fp) (inJ c w fp) deep sz cells u xs Fg fs) (hin : ∀ x, x ∈ Fg ++ flat cells.length fs → ∃ k, k ∈ L ∧ k ∉ M ∧ x ∈ fp k) (hmv : MovedCs c w fp [] M b ys news gs)
    {k0 : Key} (hfree : s1.getO k0 = .free) {u' : Value} {F' : List Nat} (hrow : RowAt w' sz u' (xs ++ news) F') (hF : ∀ x, x ∈ F' → x ∈ Fg ∨ x = w.heap.size)
    (hw : ∀ x, x < w.heap.size → x ∉ Fg → w'.heap[x]? = w.heap[x]?) (hsize : w.heap.size ≤ w'.heap.size) (hos : w'.os = w.os) (ht : w'.tape = w.tape) (hu : w'.output = w.output) :
    ∃ F'', Inv c (s1.setO k0 (.arr true (deep && b) sz (cells ++ ys))) a w' (upd val k0 u') (upd (clr fp L) k0 F'') ∧ Kp c.own w w' ∧
      CR (mkFr c w' (upd val k0 u') (upd (clr fp L) k0 F'')) (s1.setO k0 (.arr true (deep && b) sz (cells ++ ys))) (.obj k0) u' := by
  have hk0 : k0 ∉ L := fun hk => by rcases (hm.gone k0 hk).1 with e | ⟨j, e⟩ <;> rw [hfree] at e <;> cases e
  have hfree0 : s.getO k0 = .free := by rw [← hm.same k0 hk0]; exact hfree
  have hlt : ∀ x, x ∈ Fg ++ flat cells.length fs → x < w.heap.size := fun x hx => by obtain ⟨k, _, _, hk⟩ := hin x hx; exact h.lt hk
  have hFg : ∀ k x, k ∉ L → x ∈ Fg ++ flat cells.length fs → x ∉ fp k := fun k x hk hx hxk => by
    obtain ⟨k', hk', _, hx'⟩ := hin x hx
    exact h.disj k k' (fun e => hk (e ▸ hk')) x hxk hx'
  -- the cells' footprints
  let hs : Nat → List Nat := fun i => if i < cells.length then fs i else gs (i - cells.length)
  let F'' : List Nat := F' ++ (if (deep && b) = true then flat (cells ++ ys).length hs else [])
  have good : ∀ x, (c.own x ∨ c.I x) → x < w.heap.size → x ∉ Fg → (∀ k, k ∉ L → x ∉ fp k) → (deep && b) = false → inI c w' (upd (clr fp L) k0 F'') x ∧ w'.heap[x]? = w.heap[x]? := by
    intro x h1 h2 h3 h4 hdb
    refine ⟨⟨h1.symm, Nat.lt_of_lt_of_le h2 hsize, fun k hk => ?_⟩, hw x h2 h3⟩
    by_cases hkk : k0 = k
    · subst hkk
      rw [upd_same] at hk
      have : F'' = F' := by show F' ++ _ = F'; rw [hdb]; simp
      rw [this] at hk
      rcases hF x hk with h | h
      · exact h3 h
      · omega
    · rw [upd_ne _ _ hkk] at hk
      obtain ⟨e1, e2⟩ := mem_clr hk
      exact h4 k e1 e2
  have goodJ : ∀ x, (c.own x ∨ c.J x) → x < w.heap.size → x ∉ Fg → (∀ k, k ∉ L → x ∉ fp k) → (deep && b) = false → inJ c w' (upd (clr fp L) k0 F'') x ∧ w'.heap[x]? = w.heap[x]? := by
    intro x h1 h2 h3 h4 hdb
    refine ⟨⟨h1.symm, Nat.lt_of_lt_of_le h2 hsize, fun k hk => ?_⟩, hw x h2 h3⟩
    by_cases hkk : k0 = k
    · subst hkk
      rw [upd_same] at hk
      have : F'' = F' := by show F' ++ _ = F'; rw [hdb]; simp
      rw [this] at hk
      rcases hF x hk with h | h
      · exact h3 h
      · omega
    · rw [upd_ne _ _ hkk] at hk
      obtain ⟨e1, e2⟩ := mem_clr hk
      exact h4 k e1 e2
  have fgM : ∀ x k, k ∈ M → x ∈ fp k → x ∉ Fg := fun x k hk hx hxg => by
    obtain ⟨k', _, h2, h3⟩ := hin x (List.mem_append_left _ hxg)
    exact h.disj k k' (fun e => h2 (e ▸ hk)) x hx h3
  have own' : OwnR w' (inI c w' (upd (clr fp L) k0 F'')) (inJ c w' (upd (clr fp L) k0 F'')) (deep && b) sz (cells ++ ys) u' (xs ++ news) F' (fun i => if (deep && b) = true then hs i else []) := by
    refine ⟨ho.pos, hrow, by simp [ho.len, hmv.len], ?_, fun x hx i hi => ?_, fun i y v hy hv => ?_⟩
    · cases hdb : (deep && b) with
      | false => simpa using ND.nil _
      | true =>
        simp only [if_true]
        rw [Bool.and_eq_true] at hdb
        obtain ⟨q1, q2, q3⟩ := hmv.ro hdb.2
        rw [List.length_append]
        refine ⟨fun i hi => ?_, fun i j hi hj hne x hx hx' => ?_⟩
        · show (hs i).Nodup
          simp only [hs]
          split
          · exact ho.nd.1 i (by assumption)
          · exact q2.1 _ (by omega)
        · simp only [hs] at hx hx'
          split at hx
          · split at hx'
            · exact ho.nd.2 i j (by assumption) (by assumption) hne x hx hx'
            · obtain ⟨k, hk, hxk⟩ := q3 _ x (by omega) hx'
              obtain ⟨k', _, h2, h3⟩ := hin x (List.mem_append_right _ (mem_flat.2 ⟨i, by assumption, hx⟩))
              exact h.disj k k' (fun e => h2 (e ▸ hk)) x hxk h3
          · split at hx'
            · obtain ⟨k, hk, hxk⟩ := q3 _ x (by omega) hx
              obtain ⟨k', _, h2, h3⟩ := hin x (List.mem_append_right _ (mem_flat.2 ⟨j, by assumption, hx'⟩))
              exact h.disj k k' (fun e => h2 (e ▸ hk)) x hxk h3
            · exact q2.2 _ _ (by omega) (by omega) (by omega) x hx hx'
    · cases hdb : (deep && b) with
      | false => simp
      | true =>
        simp only [if_true]
        rw [Bool.and_eq_true] at hdb
        obtain ⟨q1, q2, q3⟩ := hmv.ro hdb.2
        rw [List.length_append] at hi
        intro hxh
        have hxlt : x < w.heap.size := by
          simp only [hs] at hxh
          split at hxh
          · exact hlt x (List.mem_append_right _ (mem_flat.2 ⟨i, by assumption, hxh⟩))
          · obtain ⟨k, hk, hxk⟩ := q3 _ x (by omega) hxh
            exact h.lt hxk
        rcases hF x hx with h1 | h1
        · simp only [hs] at hxh
          split at hxh
          · exact ho.apart x h1 i (by assumption) hxh
          · obtain ⟨k, hk, hxk⟩ := q3 _ x (by omega) hxh
            exact fgM x k hk hxk h1
        · omega
    · have hcase : (i < cells.length ∧ cells[i]? = some y ∧ xs[i]? = some v) ∨ (¬ i < cells.length ∧ ys[i - cells.length]? = some y ∧ news[i - cells.length]? = some v) := by
        rw [List.getElem?_append] at hy hv
        rw [ho.len] at hv
        split at hy
        · rename_i hlt'; rw [if_pos hlt'] at hv; exact .inl ⟨hlt', hy, hv⟩
        · rename_i hlt'; rw [if_neg hlt'] at hv; exact .inr ⟨hlt', hy, hv⟩
      cases hdb : (deep && b) with
      | true =>
        simp only [El, if_true]
        rw [Bool.and_eq_true] at hdb
        obtain ⟨q1, q2, q3⟩ := hmv.ro hdb.2
        rcases hcase with ⟨h1, h2, h3⟩ | ⟨h1, h2, h3⟩
        · have hel := ho.el i y v h2 h3
          rw [El, if_pos hdb.1] at hel
          simp only [hs, if_pos h1]
          refine RO.move hel fun x hx => hw x (hlt x (List.mem_append_right _ (mem_flat.2 ⟨i, h1, hx⟩))) fun hxg => ho.apart x hxg i h1 hx
        · simp only [hs, if_neg h1]
          refine RO.move (q1 _ y v h2 h3) fun x hx => ?_
          obtain ⟨k, hk, hxk⟩ := q3 _ x (List.getElem?_eq_some_iff.1 h2).1 hx
          exact hw x (h.lt hxk) (fgM x k hk hxk)
      | false =>
        simp only [El, Bool.false_eq_true, if_false, and_true]
        rcases hcase with ⟨h1, h2, h3⟩ | ⟨h1, h2, h3⟩
        · have hel := ho.el i y v h2 h3
          rw [El] at hel
          split at hel
          · refine RO.rb (I := inI c w' (upd (clr fp L) k0 F'')) (RO.move hel fun x hx => hw x (hlt x (List.mem_append_right _ (mem_flat.2 ⟨i, h1, hx⟩))) fun hxg => ho.apart x hxg i h1 hx) fun x hx => ?_
            have hxm : x ∈ Fg ++ flat cells.length fs := List.mem_append_right _ (mem_flat.2 ⟨i, h1, hx⟩)
            obtain ⟨k, _, _, hk⟩ := hin x hxm
            exact (good x (.inl (h.mine k x hk)) (h.lt hk) (fun hxg => ho.apart x hxg i h1 hx) (fun k hk => hFg k x hk hxm) hdb).1
          · have key : ∀ x, (∀ k, x ∉ fp k) → x ∉ Fg := fun x hx hxg => by obtain ⟨k, _, _, hk⟩ := hin x (List.mem_append_left _ hxg); exact hx k hk
            exact RB.move hel.1 (fun x hx => good x hx.1.symm hx.2.1 (key x hx.2.2) (fun k _ => hx.2.2 k) hdb) (fun x hx => goodJ x hx.1.symm hx.2.1 (key x hx.2.2) (fun k _ => hx.2.2 k) hdb)
        · have hrb := hmv.rb _ y v h2 h3
          have key : ∀ x, (∀ k, x ∉ clr fp (M ++ []) k) → x ∉ Fg ∧ ∀ k, k ∉ L → x ∉ fp k := fun x hx => by
            refine ⟨fun hxg => ?_, fun k hk hxk => ?_⟩
            · obtain ⟨k, _, hkM, hk⟩ := hin x (List.mem_append_left _ hxg)
              exact hx k (by simp [clr, hkM, hk])
            · exact hx k (by have : k ∉ M := fun e => hk (hML k e); simp [clr, this, hxk])
          exact RB.move hrb (fun x hx => good x hx.1.symm hx.2.1 (key x hx.2.2).1 (key x hx.2.2).2 hdb) (fun x hx => goodJ x hx.1.symm hx.2.1 (key x hx.2.2).1 (key x hx.2.2).2 hdb)
  have hF'' : F'' = F' ++ flat (cells ++ ys).length (fun i => if (deep && b) = true then hs i else []) := by
    show F' ++ _ = _
    congr 1
    cases hdb : (deep && b) with
    | true => simp
    | false => simp [flat]
  obtain ⟨r1, r2, r3⟩ := h.finish (w' := w') hm hk0 (o' := .arr true (deep && b) sz (cells ++ ys)) (u' := u') (F' := F'') (by rw [hfree0]; trivial) (by rw [hfree0]; rfl) (fun x hx => by
      rcases List.mem_append.1 hx with hx | hx
      · rcases hF x hx with h1 | h1
        · obtain ⟨k, hk, _, hxk⟩ := hin x (List.mem_append_left _ h1); exact .inl ⟨k, .inl hk, hxk⟩
        · exact .inr (by omega)
      · split at hx
        · rename_i hdb
          rw [Bool.and_eq_true] at hdb
          obtain ⟨q1, q2, q3⟩ := hmv.ro hdb.2
          obtain ⟨i, hi, hx⟩ := mem_flat.1 hx
          rw [List.length_append] at hi
          simp only [hs] at hx
          split at hx
          · obtain ⟨k, hk, _, hxk⟩ := hin x (List.mem_append_right _ (mem_flat.2 ⟨i, by assumption, hx⟩)); exact .inl ⟨k, .inl hk, hxk⟩
          · obtain ⟨k, hk, hxk⟩ := q3 _ x (by omega) hx
            exact .inl ⟨k, .inl (hML k hk), hxk⟩
        · simp at hx)
    (fun x hx hn => hw x hx fun hxg => by obtain ⟨k, hk, _, hxk⟩ := hin x (List.mem_append_left _ hxg); exact hn k (.inl hk) hxk) hsize hos ht hu
    (fun _ => own_iff.2 ⟨xs ++ news, F', _, own', hF''⟩)
  refine ⟨F'', r1, r3, ?_, ?_⟩
  · show Ob.ref _ _
    rw [getO_setO, if_pos rfl]
    show u' = upd val k0 u' k0
    rw [upd_same]
  · obtain ⟨a1, a2, a3, e, _⟩ := hrow.slice
    rw [e]; rfl
end
end Ev
/- Ev: operations. Part F: append, literals of slices, make, stores. -/
namespace Ev
open Go

section
variable {P : Program} {A : Attrs} {E : Env} {c : Ctx} {s s1 : St} {a : Act} {w w' : World} {val : Key → Value} {fp : Key → List Nat}
variable {l : Log} {K : St → Log → R} {r : T × List T}

theorem slT_some {t : TypeId} (h : isSlT P t = true) : ∃ e, P.underlying t = some (.slice e) := by
  unfold isSlT at h
  split at h
  · exact ⟨_, by assumption⟩
  · cases h
theorem OwnR_nil {w : World} {I J : Nat → Prop} {sz : Nat} (hsz : 0 < sz) {a : Option Addr} : OwnR w I J true sz [] (.slice a 0 0) [] [] fun _ => [] :=
  ⟨hsz, .inl ⟨rfl, rfl, _, rfl⟩, rfl, ND.nil _, by simp, by simp⟩

theorem op_append (h : Inv c s a w val fp) {o : Oper} {cl : Call} {t t' : TypeId} {x y : Operand} (ho : o.op = .call cl) (hcl : cl.callee = .builtin .append) (hargs : cl.args = #[x, y]) (htys : cl.argTypes = #[t, t']) {d : Nat} (hd' : o.dst = some d) (hd : d < a.tmps.size)
    {Q : Exit → Act → World → Prop} (hr : runP E (getV x fun vs => getV y fun vx => appendP P t t' d vs vx) s l K = some r) : o.wp P a w (Post c w K r) Q := by
  obtain ⟨vs, l1, h1, hs⟩ := getV_sound h hr
  obtain ⟨vx, l2, h2, hx⟩ := getV_sound h h1
  unfold appendP at h2
  rw [run_iteF] at h2
  replace h2 := ev_true h2
  obtain ⟨hok, h2⟩ := h2
  rw [Bool.and_eq_true] at hok
  obtain ⟨e, i, z, st⟩ := slOk_some hok.1
  obtain ⟨e2, ht2⟩ := slT_some hok.2
  obtain ⟨ys, b, s2, l3, M, gs, A', m, cp, news, h3, hm, hvx, hnl, hnc, hmv⟩ := takeSl_sound h (by rw [st.stride]; exact st.pos) hx h2
  have hones : ∀ u ∈ news, u.oneCell' = true := fun u hu => by
    obtain ⟨j, hj⟩ := List.mem_iff_getElem?.1 hu
    have hjl := (List.getElem?_eq_some_iff.1 hj).1
    exact RB.one (hmv.rb j _ u (List.getElem?_eq_getElem (by rw [hmv.len]; exact hjl)) hj)
  have fin : ∀ {L : List Key} {s3 : St} {deep : Bool} {cells : List T} {u : Value} {xs : List Value} {Fg : List Nat} {fs : Nat → List Nat} {l4 : Log},
      Moved s s3 L → (∀ k, k ∈ M → k ∈ L) → OwnR w (inI c w fp) (inJ c w fp) deep (strideT P t) cells u xs Fg fs → (∀ x, x ∈ Fg ++ flat cells.length fs → ∃ k, k ∈ L ∧ k ∉ M ∧ x ∈ fp k) → a.eval x = u →
      fits P (elemS P t) (cells.length + ys.length) = true →
      runP E (newO (keyOf d 0) (.arr true (deep && b) (strideT P t) (cells ++ ys)) (.setT d (.one (.obj (keyOf d 0))) .done)) s3 l4 K = some r → o.wp P a w (Post c w K r) Q := by
    intro L s3 deep cells u xs Fg fs l4 hm3 hML hown hin hu hfit h4
    obtain ⟨hfree, l5, h5⟩ := newO_sound h4
    rw [run_setT, run_done] at h5
    rw [st.stride] at hown hnl h5
    have hb := fits_le st.hi (st.elem ▸ hfit)
    obtain ⟨v', w', F', e1, e2, e3, e4, e5, e6, e7, e8⟩ := run_app (P := P) (w := w) (ty := o.type) st.hu ht2 st.hi st.hz st.hzs st.pos hown.row hnl hnc hones (by rw [hown.len, ← hmv.len]; exact hb) st.bpos
    obtain ⟨F'', r1, r2, r3⟩ := new_arr h hm3 hML hown hin hmv hfree e2 e3 e4 e5 e6 e7 e8
    refine wp_value (v := v') (w' := w') ?_ ?_
    · simp only [execOp, ho, resolve, hcl, hargs, htys, invoke, builtin, Sem.run_bind, Sem.run_pure, Result.andThen_ok, List.map_toArray, List.map_cons, List.map_nil, hu, hvx]
      rw [e1]; rfl
    · rw [hd']
      exact ⟨_, _, _, _, h5, r1.setT hd (VR_c r3), rfl, r2⟩
  split at h3
  · rw [run_iteF] at h3
    replace h3 := ev_true h3
    obtain ⟨hfit, h3⟩ := h3
    have hu : a.eval x = .slice none 0 0 := hs
    exact fin (deep := true) (cells := []) hm (fun _ hk => hk) (OwnR_nil (by rw [st.stride]; exact st.pos)) (by simp [flat]) hu (by simpa using hfit) h3
  · rename_i k
    rw [run_getO] at h3
    split at h3
    · rename_i own deep sz' cs hk
      rw [run_iteF] at h3
      replace h3 := ev_true h3
      obtain ⟨hb, h3⟩ := h3
      rw [Bool.and_eq_true, Bool.and_eq_true] at hb
      obtain ⟨⟨rfl, hsz⟩, hfit⟩ := hb
      have hsz : sz' = strideT P t := Nat.eq_of_beq_eq_true hsz
      subst hsz
      rw [run_setO] at h3
      obtain ⟨hn, hk0, hm'⟩ := hm.add (o := .moved (keyOf d 0)) (.inr ⟨_, rfl⟩) hk
      have hv := obj_alive hs hk0
      have hob := h.obs k
      rw [hk0] at hob
      obtain ⟨xs, Fg, fs, hown, hF⟩ := own_iff.1 hob
      exact fin hm' (fun k' hk' => List.mem_cons_of_mem _ hk') hown (fun x hx => ⟨k, by simp, hn, by rw [hF]; exact hx⟩) hv hfit h3
    · cases h3
  · cases h3

/-- A row laid down, its cells moved there. -/
theorem new_row (h : Inv c s a w val fp) {M : List Key} (hm : Moved s s1 M) {b : Bool} {sz : Nat} (hsz : 0 < sz) {ys : List T} {news : List Value} {gs : Nat → List Nat} (hmv : MovedCs c w fp [] M b ys news gs)
    {k0 : Key} (hfree : s1.getO k0 = .free) {n : Nat} (hn : news.length = n * sz) (hmax : n ≤ maxLen) (e : TypeId) :
    ∃ F'', Inv c (s1.setO k0 (.arr true b sz ys)) a (w.alloc (.cells news.toArray e)) (upd val k0 (.slice (some ⟨w.heap.size, 0, none⟩) n n)) (upd (clr fp M) k0 F'') ∧ Kp c.own w (w.alloc (.cells news.toArray e)) ∧
      CR (mkFr c (w.alloc (.cells news.toArray e)) (upd val k0 (.slice (some ⟨w.heap.size, 0, none⟩) n n)) (upd (clr fp M) k0 F'')) (s1.setO k0 (.arr true b sz ys)) (.obj k0) (.slice (some ⟨w.heap.size, 0, none⟩) n n) := by
  have := new_arr (w' := w.alloc (.cells news.toArray e)) (u' := .slice (some ⟨w.heap.size, 0, none⟩) n n) (F' := [w.heap.size]) h hm (fun _ hk => hk) (OwnR_nil (w := w) (I := inI c w fp) (J := inJ c w fp) (a := none) hsz) (by simp [flat]) hmv hfree
    (.inr ⟨w.heap.size, n, n, news.toArray, e, rfl, rfl, heap_alloc_new w _, by simpa using hn, Nat.le_refl _, hmax, by simpa using hn, by rw [← hn]; simp⟩) (by simp) (fun x hx _ => heap_alloc_old w _ x hx) (by simp) rfl rfl rfl
  simpa using this

theorem get_rep {α : Type} (z : List α) : ∀ (n i : Nat), i < n * z.length → ((List.replicate n z).flatten)[i]? = z[i % z.length]?
  | 0, i, h => by simp at h
  | n + 1, i, h => by
    rw [List.replicate_succ, List.flatten_cons, List.getElem?_append]
    split
    · rename_i hi; rw [Nat.mod_eq_of_lt hi]
    · rename_i hi
      rw [get_rep z n (i - z.length) (by rw [Nat.add_mul] at h; omega), ← Nat.mod_eq_sub_mod (by omega)]
theorem len_rep {α : Type} (z : List α) (n : Nat) : ((List.replicate n z).flatten).length = n * z.length := by simp
theorem madeCells_get (z : Array Value) (n i : Nat) (hz : 0 < z.size) (hi : i < n) : (madeCells z n).toList[i]? = some (z[i % z.size]'(Nat.mod_lt _ hz)) := by
  have hlt := Nat.mod_lt i hz
  simp [madeCells, hi, hlt]

theorem findW_nums : ∀ (cs : List C) (i j : Nat), findW (nums i cs) j = if i ≤ j then cs[j - i]? else none
  | [], i, j => by simp [nums, findW]
  | c :: cs, i, j => by
    rw [nums, findW, findW_nums cs (i + 1) j]
    by_cases h : i = j
    · subst h; simp
    · rw [if_neg h]
      by_cases h1 : i + 1 ≤ j
      · rw [if_pos h1, if_pos (by omega), show j - i = j - (i + 1) + 1 by omega, List.getElem?_cons_succ]
      · rw [if_neg h1, if_neg (by omega)]
/-- A new row whose cells stay named. -/
theorem new_opn (h : Inv c s a w val fp) {k0 : Key} (hfree : s.getO k0 = .free) {cs : List C} {vs : Array Value} (hc : CRs (mkFr c w val fp) s cs vs.toList) {n sz : Nat} (hsz : 0 < sz) (hl : cs.length = n * sz) (hmax : n ≤ maxLen) (e : TypeId) :
    ∃ val' fp', Inv c (s.setO k0 (.opn sz (cs.map fun _ => .bool false) (nums 0 cs))) a (w.alloc (.cells vs e)) val' fp' ∧ Kp c.own w (w.alloc (.cells vs e)) ∧
      CR (mkFr c (w.alloc (.cells vs e)) val' fp') (s.setO k0 (.opn sz (cs.map fun _ => .bool false) (nums 0 cs))) (.obj k0) (.slice (some ⟨w.heap.size, 0, none⟩) n n) := by
  have hnil : ∀ n : Nat, ((List.range n).flatMap fun _ => ([] : List Nat)) = [] := fun n => by simp
  obtain ⟨r1, r2, r3⟩ := h.change1 (w' := w.alloc (.cells vs e)) k0 (.opn sz (cs.map fun _ => .bool false) (nums 0 cs)) (.slice (some ⟨w.heap.size, 0, none⟩) n n) [w.heap.size] (by rw [hfree]; trivial) (by rw [hfree]; rfl)
    (by intro b hb; right; rw [List.mem_singleton.1 hb]; exact Nat.le_refl _) (fun b hb _ => heap_alloc_old w _ b hb) (by simp) rfl rfl rfl
    (fun g => by
      refine ⟨w.heap.size, n, n, vs, e, fun i => vs.getD i undef, fun _ => [], rfl, by rw [hnil], ⟨hsz, fun i hi => ?_⟩, heap_alloc_new w _, by simpa using hl, Nat.le_refl _, hmax, by have := hc.1; simp at this; omega, fun i hi => ?_, fun i x hx => ?_, by rw [hnil]; simp⟩
      · rw [findW_nums, if_pos (Nat.zero_le _), Nat.sub_zero] at hi
        simp only [List.length_map]
        rcases Nat.lt_or_ge i cs.length with h1 | h1
        · exact h1
        · rw [List.getElem?_eq_none h1] at hi; cases hi
      · have h1 : i < vs.size := by have := hc.1; simp at hi this; omega
        simp [h1]
      · have hi : i < cs.length := by have := (List.getElem?_eq_some_iff.1 hx).1; simpa using this
        unfold WR
        rw [findW_nums, if_pos (Nat.zero_le _), Nat.sub_zero, List.getElem?_eq_getElem hi]
        refine ⟨(hc.goes g).2 i _ _ (List.getElem?_eq_getElem hi) ?_, rfl⟩
        have h1 : i < vs.size := by have := hc.1; simp at this; omega
        simp [h1])
  refine ⟨_, _, r1, r3, ?_, rfl⟩
  rw [getO_setO, if_pos rfl]
  show _ = upd val k0 _ k0
  rw [upd_same]
theorem op_buildSlice (h : Inv c s a w val fp) {o : Oper} {t : TypeId} {n : Nat} {ps : Array (Nat × Operand)} (ho : o.op = .buildSlice t n ps) (hd : ∀ d, o.dst = some d → d < a.tmps.size)
    {Q : Exit → Act → World → Prop} (hr : runP E (opP P A o) s l K = some r) : o.wp P a w (Post c w K r) Q := by
  unfold opP at hr
  simp only [ho] at hr
  split at hr
  · rename_i d hd'
    rw [run_iteF] at hr
    replace hr := ev_true hr
    obtain ⟨hok, hr⟩ := hr
    rw [Bool.and_eq_true] at hok
    obtain ⟨e, i, z, st⟩ := slOk_some hok.1
    have hsmall : n * strideT P t ≤ 65536 := Nat.le_of_ble_eq_true hok.2
    rw [st.stride] at hsmall
    obtain ⟨vs, l1, h1, hl, hvs⟩ := getPs_sound h hr
    rw [st.elem, st.zeroC, Option.map_some] at h1
    split at h1
    · rename_i cs hcs
      obtain ⟨z', p, hz, hp, hf⟩ := fillV_some hcs
      cases hz
      have hpp : ∀ j, p j = some (j * i.size, i.size) := by
        unfold placesT at hp
        rw [st.hu] at hp
        simp only [st.hi, Option.map_some, Option.some.injEq] at hp
        subst hp
        exact fun _ => rfl
      have hzpos : 0 < z.cells.size := by rw [st.hzs]; exact st.pos
      have hcr : CRs (mkFr c w val fp) s ((List.replicate n (z.cells.toList.map ofC)).flatten) (madeCells z.cells (n * i.size)).toList := by
        refine ⟨by simp [size_madeCells, st.hzs], fun j c' v' hc hv => ?_⟩
        have hj : j < n * i.size := by
          have := (List.getElem?_eq_some_iff.1 hc).1
          simpa [st.hzs] using this
        rw [madeCells_get _ _ _ hzpos hj] at hv
        rw [get_rep _ _ _ (by simpa [st.hzs] using hj)] at hc
        simp only [List.length_map, Array.length_toList, List.getElem?_map, Option.map_eq_some_iff] at hc
        obtain ⟨v2, hv2, rfl⟩ := hc
        rw [Array.getElem?_toList, Array.getElem?_eq_getElem (Nat.mod_lt _ hzpos)] at hv2
        rw [hv2] at hv
        cases hv
        exact CR_ofC (List.all_eq_true.1 st.hzo v' (by
          have := List.mem_of_getElem? (l := z.cells.toList) (i := j % z.cells.size) (a := v') (by rw [Array.getElem?_toList, Array.getElem?_eq_getElem (Nat.mod_lt _ hzpos), hv2])
          exact this))
      obtain ⟨cells', r1, r2⟩ := fill_sound (f := mkFr c w val fp) hpp hcr hl hvs hf
      have hsz : cells'.toList.length = n * i.size := by
        have h5 := r2.1
        have h6 : cs.length = ((List.replicate n (z.cells.toList.map ofC)).flatten).length := by
          have fl : ∀ {pl : Nat → Option (Nat × Nat)} {vs : List (Nat × V)} {cs cs' : List C}, fillCs pl cs vs = some cs' → cs'.length = cs.length := by
            intro pl vs
            induction vs with
            | nil => intro cs cs' h; cases h; rfl
            | cons q vs ih =>
              obtain ⟨qi, qv⟩ := q
              intro cs cs' h
              rw [fillCs] at h
              split at h
              · replace h := ev_true h
                obtain ⟨_, h⟩ := h
                rw [ih h, setCells_len]
              · cases h
          exact fl hf
        rw [← h5, h6]
        simp [st.hzs]
      have hn1 : n ≤ 65536 := Nat.le_trans (Nat.le_mul_of_pos_right _ st.pos) hsmall
      have hpost : Post c w K r (a.put (some d) (.slice (some ⟨w.heap.size, 0, none⟩) n n)) (w.alloc (.cells cells' e)) := by
        cases hlit : refsLit P t cs with
        | true =>
          rw [hlit, cond_true] at h1
          obtain ⟨hfree, l3, h3⟩ := newO_sound h1
          rw [run_setT, run_done, st.stride] at h3
          obtain ⟨val', fp', q1, q2, q3⟩ := new_opn h hfree r2 st.pos (n := n) (by rw [r2.1]; exact hsz) (by simp only [maxLen]; omega) e
          exact ⟨_, _, _, _, h3, q1.setT (hd d hd') (VR_c q3), rfl, q2⟩
        | false =>
          rw [hlit, cond_false] at h1
          obtain ⟨ys, b, s2, l2, M, fs, h2, hm, hmv⟩ := moveCs_sound h (Moved.refl s) r2 h1
          rw [List.append_nil] at hm
          obtain ⟨hfree, l3, h3⟩ := newO_sound h2
          rw [run_setT, run_done, st.stride] at h3
          obtain ⟨F'', q1, q2, q3⟩ := new_row h hm st.pos hmv hfree (n := n) hsz (by simp only [maxLen]; omega) e
          rw [Array.toArray_toList] at q1 q2 q3
          exact ⟨_, _, _, _, h3, q1.setT (hd d hd') (VR_c q3), rfl, q2⟩
      refine wp_value (v := .slice (some ⟨w.heap.size, 0, none⟩) n n) (w' := w.alloc (.cells cells' e)) ?_ ?_
      · have hbig : ¬ 16777216 < n * i.size := by omega
        have hzz : n * i.size = 0 → n = 0 := fun h0 => by
          rcases Nat.eq_zero_or_pos n with h1 | h1
          · exact h1
          · have := Nat.mul_pos h1 st.pos; omega
        have hff : Instr.fill (fun j => some (j * i.size, i.size)) (madeCells z.cells (n * i.size)) (ps.toList.map fun (i, x) => (i, a.eval x)) = some cells' := r1
        unfold madeCells at hff
        by_cases h0 : n * i.size = 0
        · have hn0 := hzz h0
          subst hn0
          simp only [Nat.zero_mul] at hff
          have hz0 : Array.range 0 = #[] := rfl
          simp only [hz0, Array.map_empty] at hff
          simp [execOp, ho, Instr.buildSlice, run_underlying st.hu, Go.sizeOf, typeInfo, st.hi, newRow, hz0]
          simp [hff]
        · have hn0 : ¬ n = 0 := fun e => h0 (by rw [e]; simp)
          have hi0 : ¬ i.size = 0 := by have := st.pos; omega
          simp at hff
          simp [execOp, ho, Instr.buildSlice, run_underlying st.hu, Go.sizeOf, typeInfo, st.hi, zeroValue, st.hz, hbig, h0, newRow, hff]
      · rw [hd']; exact hpost
    · cases h1
  · cases hr
end
end Ev
