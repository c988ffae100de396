/- Ev: operations. Part E: slices made and appended to, stores. -/
import Derived.Test.YtfolgfbhllmdiaaGreatDoorEvOpsD
namespace Ev
open Go

section
variable {P : Program} {A : Attrs} {E : Env} {c : Ctx} {s s1 : St} {a : Act} {w w' : World} {val : Key → Value} {fp : Key → List Nat}
variable {l : Log} {K : St → Log → R} {r : T × List T}

structure SlTy (P : Program) (t e : TypeId) (i : TypeInfo) (z : Value) : Prop where
  hu : P.underlying t = some (.slice e)
  hi : P.info? e = some i
  hz : i.zero = some z
  hzs : z.cells.size = i.size
  hzo : z.cells.toList.all (·.oneCell') = true
  pos : 0 < i.size
  bpos : 0 < i.bytes
  stride : strideT P t = i.size
  elem : elemS P t = e
  size : sizeT P e = i.size
  bytes : bytesT P e = i.bytes
  tys : tyOk P e = true
  ntys : (cellTys P 8 e).length = i.size
  zeroC : zeroC P e = some (z.cells.toList.map ofC)
theorem slOk_some {t : TypeId} (h : slOk P t = true) : ∃ e i z, SlTy P t e i z := by
  unfold slOk at h
  split at h
  · rename_i e hu
    simp only [Bool.and_eq_true] at h
    obtain ⟨⟨⟨h1, h2⟩, h3⟩, h4⟩ := h
    obtain ⟨cs, hcs⟩ := Option.isSome_iff_exists.1 h4
    obtain ⟨i, z, hi, hz, hzs, hzo, rfl⟩ := zeroC_some hcs
    obtain ⟨i', d, hi', hd, hs, _⟩ := tyOk_size h1
    rw [hi] at hi'; cases hi'
    have es : sizeT P e = i.size := by simp [sizeT, hi]
    have eb : bytesT P e = i.bytes := by simp [bytesT, hi]
    have h2 := blt_pos h2
    have h3 := blt_pos h3
    exact ⟨e, i, z, hu, hi, hz, hzs, hzo, by omega, by omega, by simp [strideT, hu, es], by simp [elemS, hu], es, eb, h1, hs.symm, hcs⟩
  · cases h
theorem fits_le {e : TypeId} {i : TypeInfo} (hi : P.info? e = some i) {n : Nat} (h : fits P e n = true) : n * i.bytes ≤ 140737488355328 * i.size := by
  have := Nat.le_of_ble_eq_true h
  simpa [sizeT, bytesT, hi] using this

/-- A living slice object's cells, to be copied. -/
theorem arr_cells (h : Inv c s a w val fp) {k : Key} {own deep : Bool} {sz : Nat} {cells : List T} (hk : s.getO k = .arr own deep sz cells) :
    ∃ A m cp, ∃ news : List Value, val k = .slice A m cp ∧ 0 < sz ∧ cells.length = m * sz ∧ news.length = cells.length ∧
      (news ≠ [] → ∃ ad, A = some ad ∧ ∀ (j : Nat) (u : Value), news[j]? = some u → w.cell? (ad.add j) = some u) ∧
      (∀ (i : Nat) (y : T) (v : Value), cells[i]? = some y → news[i]? = some v → RB w (inI c w (clr fp [k])) (inJ c w (clr fp [k])) y v) ∧
      (own = true → deep = true → ∃ fs, ND cells.length fs ∧ (∀ i b, i < cells.length → b ∈ fs i → b ∈ fp k) ∧
        ∀ (i : Nat) (y : T) (v : Value), cells[i]? = some y → news[i]? = some v → RO w y v (fs i)) := by
  have hob := h.obs k
  rw [hk] at hob
  cases own with
  | false =>
    obtain ⟨A, m, cp, e, h1, h2, h3, vs, hc, h4⟩ := RB.sl_inv hob.1
    refine ⟨A, m, cp, (List.range cells.length).map vs, e, h1, h2, by simp, fun hne => ?_, fun i y v hy hv => ?_, fun h => by cases h⟩
    · have hne' : cells ≠ [] := by intro h; rw [h] at hne; simp at hne
      obtain ⟨b, o, rfl, _, h5⟩ := h4 hne'
      refine ⟨_, rfl, fun j u hu => ?_⟩
      simp only [List.getElem?_map, Option.map_eq_some_iff] at hu
      obtain ⟨j', hj, rfl⟩ := hu
      rw [List.getElem?_eq_some_iff] at hj
      obtain ⟨hj1, hj2⟩ := hj
      simp at hj1 hj2
      subst hj2
      rw [add_at]; exact h5 j hj1
    · have hi := (List.getElem?_eq_some_iff.1 hy).1
      simp [hi] at hv
      subst hv
      exact RB.clr (hc i y hy)
  | true =>
    obtain ⟨xs, Fg, fs, ho, hF⟩ := own_iff.1 hob
    obtain ⟨A, m, cp, hv, hl, hcp⟩ := ho.row.slice
    refine ⟨A, m, cp, xs, hv, ho.pos, by rw [← ho.len]; exact hl, ho.len, fun hne => ?_, fun i y v hy hvv => ?_, fun _ hd => ?_⟩
    · obtain ⟨g, len, cap, e1, e2, _⟩ := ho.row.cell (List.getElem?_eq_getElem (List.length_pos_iff.2 hne))
      rw [hv] at e1
      cases e1
      refine ⟨_, rfl, fun j u hu => ?_⟩
      obtain ⟨g', _, _, e3, e4, e5⟩ := ho.row.cell hu
      rw [hv] at e3
      cases e3
      rw [add_at, Nat.zero_add]; exact e5
    · have hi := (List.getElem?_eq_some_iff.1 hy).1
      have hel := ho.el i y v hy hvv
      unfold El at hel
      split at hel
      · refine RO.rb hel fun b hb => inI_moved h (List.mem_singleton.2 rfl) ?_
        rw [hF]
        exact List.mem_append_right _ (mem_flat.2 ⟨i, hi, hb⟩)
      · exact RB.clr hel.1
    · subst hd
      refine ⟨fs, ho.nd, fun i b hi hb => ?_, fun i y v hy hvv => by have h1 := ho.el i y v hy hvv; rw [El, if_pos rfl] at h1; exact h1⟩
      rw [hF]
      exact List.mem_append_right _ (mem_flat.2 ⟨i, hi, hb⟩)

theorem scalar_rb {w w' : World} {I J I' J' : Nat → Prop} {x : T} {v : Value} (h : RB w I J x v) (hs : x.scalar = true) : RB w' I' J' x v := by
  cases h with
  | int k n => exact .int k n
  | bool b => exact .bool b
  | str s => exact .str s
  | sl _ _ _ _ _ _ => simp [T.scalar] at hs
  | rref _ _ _ _ => simp [T.scalar] at hs
  | clo _ _ _ => simp [T.scalar] at hs

/-- Cells that are copied without their memory. -/
theorem scalars_moved {L : List Key} {ys : List T} {news : List Value} (hl : ys.length = news.length) (hs : ys.all T.scalar = true) {I J : Nat → Prop} (h : ∀ (i : Nat) (y : T) (v : Value), ys[i]? = some y → news[i]? = some v → RB w I J y v) :
    MovedCs c w fp L [] true ys news fun _ => [] := by
  refine ⟨hl, fun i y v hy hv => ?_, fun _ => ⟨fun i y v hy hv => ?_, ND.nil _, by simp⟩⟩
  · exact scalar_rb (h i y v hy hv) (List.all_eq_true.1 hs y (List.mem_of_getElem? hy))
  · exact scalar_ro (h i y v hy hv) (List.all_eq_true.1 hs y (List.mem_of_getElem? hy))

theorem takeSl_sound (h : Inv c s a w val fp) {sz : Nat} (hsz : 0 < sz) {fl : Bool} {x : V} {vx : Value} (hx : VR (mkFr c w val fp) s x vx) {f : List T → Bool → Prog} (hr : runP E (takeSl sz fl x f) s l K = some r) :
    ∃ ys b s' l' M fs A m cp, ∃ news : List Value, runP E (f ys b) s' l' K = some r ∧ Moved s s' M ∧ vx = .slice A m cp ∧ news.length = m * sz ∧
      (news ≠ [] → ∃ ad, A = some ad ∧ ∀ (j : Nat) (u : Value), news[j]? = some u → w.cell? (ad.add j) = some u) ∧ MovedCs c w fp [] M b ys news fs := by
  unfold takeSl at hr
  split at hr
  · rename_i y
    rw [run_asSl] at hr
    split at hr
    · rename_i sz' cs
      replace hr := ev_true hr
      obtain ⟨h1, hr⟩ := hr
      have : sz' = sz := Nat.eq_of_beq_eq_true h1
      subst this
      obtain ⟨A, m, cp, e, e1, e2, e3, vs, hc, hcells⟩ := RB.sl_inv hx
      have hrb : ∀ (i : Nat) (y : T) (v : Value), cs[i]? = some y → ((List.range cs.length).map vs)[i]? = some v → RB w (inI c w fp) (inJ c w fp) y v := fun i y v hy hv => by
        have hi := (List.getElem?_eq_some_iff.1 hy).1
        simp [hi] at hv
        subst hv
        exact hc i y hy
      have hn : ((List.range cs.length).map vs) ≠ [] → ∃ ad, A = some ad ∧ ∀ (j : Nat) (u : Value), ((List.range cs.length).map vs)[j]? = some u → w.cell? (ad.add j) = some u := fun hne => by
        have hne' : cs ≠ [] := by intro h; rw [h] at hne; simp at hne
        obtain ⟨b, o, rfl, _, h5⟩ := hcells hne'
        refine ⟨_, rfl, fun j u hu => ?_⟩
        simp only [List.getElem?_map, Option.map_eq_some_iff] at hu
        obtain ⟨j', hj, rfl⟩ := hu
        rw [List.getElem?_eq_some_iff] at hj
        obtain ⟨hj1, hj2⟩ := hj
        simp at hj1 hj2
        subst hj2
        rw [add_at]; exact h5 j hj1
      cases fl with
      | true =>
        rw [cond_true, run_iteF] at hr
        replace hr := ev_true hr
        obtain ⟨hs, hr⟩ := hr
        exact ⟨cs, true, s, _, [], _, A, m, cp, _, hr, Moved.refl s, e, by simp [e2], hn, scalars_moved (by simp) hs hrb⟩
      | false =>
        rw [cond_false] at hr
        exact ⟨cs, false, s, _, [], fun _ => [], A, m, cp, _, hr, Moved.refl s, e, by simp [e2], hn, ⟨by simp, fun i y v hy hv => RB.clr (hrb i y v hy hv), fun h => by cases h⟩⟩
    · cases hr
  · have hv : vx = .slice none 0 0 := hx
    exact ⟨[], true, s, _, [], fun _ => [], none, 0, 0, [], hr, Moved.refl s, hv, by simp, fun h => absurd rfl h, ⟨rfl, by simp, fun _ => ⟨by simp, ND.nil _, by simp⟩⟩⟩
  · rename_i k
    rw [run_getO] at hr
    split at hr
    · rename_i own deep sz' cs hk
      rw [run_iteF] at hr
      replace hr := ev_true hr
      obtain ⟨h1, hr⟩ := hr
      have : sz' = sz := Nat.eq_of_beq_eq_true h1
      subst this
      have hv := obj_alive hx hk
      obtain ⟨A, m, cp, news, e, e1, e2, e3, hn, hrb, hro⟩ := arr_cells h hk
      have hvx : vx = .slice A m cp := hv.trans e
      cases fl with
      | true =>
        rw [cond_true, run_iteF] at hr
        replace hr := ev_true hr
        obtain ⟨hs, hr⟩ := hr
        exact ⟨cs, true, s, _, [], _, A, m, cp, news, hr, Moved.refl s, hvx, by omega, hn, scalars_moved e3.symm hs hrb⟩
      | false =>
        rw [cond_false] at hr
        cases own with
        | true =>
          rw [cond_true, run_setO] at hr
          obtain ⟨_, _, hm⟩ := (Moved.refl s).add (o := .gone) (.inl rfl) hk
          cases deep with
          | true =>
            obtain ⟨fs, f1, f2, f3⟩ := hro rfl rfl
            exact ⟨cs, true, _, _, [k], fs, A, m, cp, news, hr, hm, hvx, by omega, hn, ⟨e3.symm, hrb, fun _ => ⟨f3, f1, fun i b hi hb => ⟨k, by simp, f2 i b hi hb⟩⟩⟩⟩
          | false => exact ⟨cs, false, _, _, [k], fun _ => [], A, m, cp, news, hr, hm, hvx, by omega, hn, ⟨e3.symm, hrb, fun h => by cases h⟩⟩
        | false =>
          rw [cond_false] at hr
          have hob := h.obs k
          rw [hk] at hob
          refine ⟨cs, false, s, _, [], fun _ => [], A, m, cp, news, hr, Moved.refl s, hvx, by omega, hn, ⟨e3.symm, fun i y v hy hv => ?_, fun h => by cases h⟩⟩
          refine RB.move (hrb i y v hy hv) (fun b hb => ⟨⟨hb.1, hb.2.1, fun j hj => ?_⟩, rfl⟩) (fun b hb => ⟨⟨hb.1, hb.2.1, fun j hj => ?_⟩, rfl⟩)
          · obtain ⟨_, hj2⟩ := mem_clr hj
            by_cases hjk : j = k
            · rw [hjk, show fp k = [] from hob.2] at hj2; simp at hj2
            · exact hb.2.2 j (by simp [clr, hjk, hj2])
          · obtain ⟨_, hj2⟩ := mem_clr hj
            by_cases hjk : j = k
            · rw [hjk, show fp k = [] from hob.2] at hj2; simp at hj2
            · exact hb.2.2 j (by simp [clr, hjk, hj2])
    · cases hr
  · cases hr

/-- A slice is laid down under a new key: what of it was there, what has come. -/
theorem new_arr (h : Inv c s a w val fp) {L M : List Key} (hm : Moved s s1 L) (hML : ∀ k, k ∈ M → k ∈ L) {deep b : Bool} {sz : Nat} {cells ys : List T} {u : Value} {xs news : List Value} {Fg : List Nat} {fs gs : Nat → List Nat}
    (ho : OwnR w (inI c w fp) (inJ c w fp) deep sz cells u xs Fg fs) (hin : ∀ x, x ∈ Fg ++ flat cells.length fs → ∃ k, k ∈ L ∧ k ∉ M ∧ x ∈ fp k) (hmv : MovedCs c w fp [] M b ys news gs)
    {k0 : Key} (hfree : s1.getO k0 = .free) {u' : Value} {F' : List Nat} (hrow : RowAt w' sz u' (xs ++ news) F') (hF : ∀ x, x ∈ F' → x ∈ Fg ∨ x = w.heap.size)
    (hw : ∀ x, x < w.heap.size → x ∉ Fg → w'.heap[x]? = w.heap[x]?) (hsize : w.heap.size ≤ w'.heap.size) (hos : w'.os = w.os) (ht : w'.tape = w.tape) (hu : w'.output = w.output) :
    ∃ F'', Inv c (s1.setO k0 (.arr true (deep && b) sz (cells ++ ys))) a w' (upd val k0 u') (upd (clr fp L) k0 F'') ∧ Kp c.own w w' ∧
      CR (mkFr c w' (upd val k0 u') (upd (clr fp L) k0 F'')) (s1.setO k0 (.arr true (deep && b) sz (cells ++ ys))) (.obj k0) u' := by
  have hk0 : k0 ∉ L := fun hk => by rcases (hm.gone k0 hk).1 with e | ⟨j, e⟩ <;> rw [hfree] at e <;> cases e
  have hfree0 : s.getO k0 = .free := by rw [← hm.same k0 hk0]; exact hfree
  have hlt : ∀ x, x ∈ Fg ++ flat cells.length fs → x < w.heap.size := fun x hx => by obtain ⟨k, _, _, hk⟩ := hin x hx; exact h.lt hk
  have hFg : ∀ k x, k ∉ L → x ∈ Fg ++ flat cells.length fs → x ∉ fp k := fun k x hk hx hxk => by
    obtain ⟨k', hk', _, hx'⟩ := hin x hx
    exact h.disj k k' (fun e => hk (e ▸ hk')) x hxk hx'
  -- the cells' footprints
  let hs : Nat → List Nat := fun i => if i < cells.length then fs i else gs (i - cells.length)
  let F'' : List Nat := F' ++ (if (deep && b) = true then flat (cells ++ ys).length hs else [])
  have good : ∀ x, (c.own x ∨ c.I x) → x < w.heap.size → x ∉ Fg → (∀ k, k ∉ L → x ∉ fp k) → (deep && b) = false → inI c w' (upd (clr fp L) k0 F'') x ∧ w'.heap[x]? = w.heap[x]? := by
    intro x h1 h2 h3 h4 hdb
    refine ⟨⟨h1.symm, Nat.lt_of_lt_of_le h2 hsize, fun k hk => ?_⟩, hw x h2 h3⟩
    by_cases hkk : k0 = k
    · subst hkk
      rw [upd_same] at hk
      have : F'' = F' := by show F' ++ _ = F'; rw [hdb]; simp
      rw [this] at hk
      rcases hF x hk with h | h
      · exact h3 h
      · omega
    · rw [upd_ne _ _ hkk] at hk
      obtain ⟨e1, e2⟩ := mem_clr hk
      exact h4 k e1 e2
  have goodJ : ∀ x, (c.own x ∨ c.J x) → x < w.heap.size → x ∉ Fg → (∀ k, k ∉ L → x ∉ fp k) → (deep && b) = false → inJ c w' (upd (clr fp L) k0 F'') x ∧ w'.heap[x]? = w.heap[x]? := by
    intro x h1 h2 h3 h4 hdb
    refine ⟨⟨h1.symm, Nat.lt_of_lt_of_le h2 hsize, fun k hk => ?_⟩, hw x h2 h3⟩
    by_cases hkk : k0 = k
    · subst hkk
      rw [upd_same] at hk
      have : F'' = F' := by show F' ++ _ = F'; rw [hdb]; simp
      rw [this] at hk
      rcases hF x hk with h | h
      · exact h3 h
      · omega
    · rw [upd_ne _ _ hkk] at hk
      obtain ⟨e1, e2⟩ := mem_clr hk
      exact h4 k e1 e2
  have fgM : ∀ x k, k ∈ M → x ∈ fp k → x ∉ Fg := fun x k hk hx hxg => by
    obtain ⟨k', _, h2, h3⟩ := hin x (List.mem_append_left _ hxg)
    exact h.disj k k' (fun e => h2 (e ▸ hk)) x hx h3
  have own' : OwnR w' (inI c w' (upd (clr fp L) k0 F'')) (inJ c w' (upd (clr fp L) k0 F'')) (deep && b) sz (cells ++ ys) u' (xs ++ news) F' (fun i => if (deep && b) = true then hs i else []) := by
    refine ⟨ho.pos, hrow, by simp [ho.len, hmv.len], ?_, fun x hx i hi => ?_, fun i y v hy hv => ?_⟩
    · cases hdb : (deep && b) with
      | false => simpa using ND.nil _
      | true =>
        simp only [if_true]
        rw [Bool.and_eq_true] at hdb
        obtain ⟨q1, q2, q3⟩ := hmv.ro hdb.2
        rw [List.length_append]
        refine ⟨fun i hi => ?_, fun i j hi hj hne x hx hx' => ?_⟩
        · show (hs i).Nodup
          simp only [hs]
          split
          · exact ho.nd.1 i (by assumption)
          · exact q2.1 _ (by omega)
        · simp only [hs] at hx hx'
          split at hx
          · split at hx'
            · exact ho.nd.2 i j (by assumption) (by assumption) hne x hx hx'
            · obtain ⟨k, hk, hxk⟩ := q3 _ x (by omega) hx'
              obtain ⟨k', _, h2, h3⟩ := hin x (List.mem_append_right _ (mem_flat.2 ⟨i, by assumption, hx⟩))
              exact h.disj k k' (fun e => h2 (e ▸ hk)) x hxk h3
          · split at hx'
            · obtain ⟨k, hk, hxk⟩ := q3 _ x (by omega) hx
              obtain ⟨k', _, h2, h3⟩ := hin x (List.mem_append_right _ (mem_flat.2 ⟨j, by assumption, hx'⟩))
              exact h.disj k k' (fun e => h2 (e ▸ hk)) x hxk h3
            · exact q2.2 _ _ (by omega) (by omega) (by omega) x hx hx'
    · cases hdb : (deep && b) with
      | false => simp
      | true =>
        simp only [if_true]
        rw [Bool.and_eq_true] at hdb
        obtain ⟨q1, q2, q3⟩ := hmv.ro hdb.2
        rw [List.length_append] at hi
        intro hxh
        have hxlt : x < w.heap.size := by
          simp only [hs] at hxh
          split at hxh
          · exact hlt x (List.mem_append_right _ (mem_flat.2 ⟨i, by assumption, hxh⟩))
          · obtain ⟨k, hk, hxk⟩ := q3 _ x (by omega) hxh
            exact h.lt hxk
        rcases hF x hx with h1 | h1
        · simp only [hs] at hxh
          split at hxh
          · exact ho.apart x h1 i (by assumption) hxh
          · obtain ⟨k, hk, hxk⟩ := q3 _ x (by omega) hxh
            exact fgM x k hk hxk h1
        · omega
    · have hcase : (i < cells.length ∧ cells[i]? = some y ∧ xs[i]? = some v) ∨ (¬ i < cells.length ∧ ys[i - cells.length]? = some y ∧ news[i - cells.length]? = some v) := by
        rw [List.getElem?_append] at hy hv
        rw [ho.len] at hv
        split at hy
        · rename_i hlt'; rw [if_pos hlt'] at hv; exact .inl ⟨hlt', hy, hv⟩
        · rename_i hlt'; rw [if_neg hlt'] at hv; exact .inr ⟨hlt', hy, hv⟩
      cases hdb : (deep && b) with
      | true =>
        simp only [El, if_true]
        rw [Bool.and_eq_true] at hdb
        obtain ⟨q1, q2, q3⟩ := hmv.ro hdb.2
        rcases hcase with ⟨h1, h2, h3⟩ | ⟨h1, h2, h3⟩
        · have hel := ho.el i y v h2 h3
          rw [El, if_pos hdb.1] at hel
          simp only [hs, if_pos h1]
          refine RO.move hel fun x hx => hw x (hlt x (List.mem_append_right _ (mem_flat.2 ⟨i, h1, hx⟩))) fun hxg => ho.apart x hxg i h1 hx
        · simp only [hs, if_neg h1]
          refine RO.move (q1 _ y v h2 h3) fun x hx => ?_
          obtain ⟨k, hk, hxk⟩ := q3 _ x (List.getElem?_eq_some_iff.1 h2).1 hx
          exact hw x (h.lt hxk) (fgM x k hk hxk)
      | false =>
        simp only [El, Bool.false_eq_true, if_false, and_true]
        rcases hcase with ⟨h1, h2, h3⟩ | ⟨h1, h2, h3⟩
        · have hel := ho.el i y v h2 h3
          rw [El] at hel
          split at hel
          · refine RO.rb (I := inI c w' (upd (clr fp L) k0 F'')) (RO.move hel fun x hx => hw x (hlt x (List.mem_append_right _ (mem_flat.2 ⟨i, h1, hx⟩))) fun hxg => ho.apart x hxg i h1 hx) fun x hx => ?_
            have hxm : x ∈ Fg ++ flat cells.length fs := List.mem_append_right _ (mem_flat.2 ⟨i, h1, hx⟩)
            obtain ⟨k, _, _, hk⟩ := hin x hxm
            exact (good x (.inl (h.mine k x hk)) (h.lt hk) (fun hxg => ho.apart x hxg i h1 hx) (fun k hk => hFg k x hk hxm) hdb).1
          · have key : ∀ x, (∀ k, x ∉ fp k) → x ∉ Fg := fun x hx hxg => by obtain ⟨k, _, _, hk⟩ := hin x (List.mem_append_left _ hxg); exact hx k hk
            exact RB.move hel.1 (fun x hx => good x hx.1.symm hx.2.1 (key x hx.2.2) (fun k _ => hx.2.2 k) hdb) (fun x hx => goodJ x hx.1.symm hx.2.1 (key x hx.2.2) (fun k _ => hx.2.2 k) hdb)
        · have hrb := hmv.rb _ y v h2 h3
          have key : ∀ x, (∀ k, x ∉ clr fp (M ++ []) k) → x ∉ Fg ∧ ∀ k, k ∉ L → x ∉ fp k := fun x hx => by
            refine ⟨fun hxg => ?_, fun k hk hxk => ?_⟩
            · obtain ⟨k, _, hkM, hk⟩ := hin x (List.mem_append_left _ hxg)
              exact hx k (by simp [clr, hkM, hk])
            · exact hx k (by have : k ∉ M := fun e => hk (hML k e); simp [clr, this, hxk])
          exact RB.move hrb (fun x hx => good x hx.1.symm hx.2.1 (key x hx.2.2).1 (key x hx.2.2).2 hdb) (fun x hx => goodJ x hx.1.symm hx.2.1 (key x hx.2.2).1 (key x hx.2.2).2 hdb)
  have hF'' : F'' = F' ++ flat (cells ++ ys).length (fun i => if (deep && b) = true then hs i else []) := by
    show F' ++ _ = _
    congr 1
    cases hdb : (deep && b) with
    | true => simp
    | false => simp [flat]
  obtain ⟨r1, r2, r3⟩ := h.finish (w' := w') hm hk0 (o' := .arr true (deep && b) sz (cells ++ ys)) (u' := u') (F' := F'') (by rw [hfree0]; trivial) (fun x hx => by
      rcases List.mem_append.1 hx with hx | hx
      · rcases hF x hx with h1 | h1
        · obtain ⟨k, hk, _, hxk⟩ := hin x (List.mem_append_left _ h1); exact .inl ⟨k, .inl hk, hxk⟩
        · exact .inr (by omega)
      · split at hx
        · rename_i hdb
          rw [Bool.and_eq_true] at hdb
          obtain ⟨q1, q2, q3⟩ := hmv.ro hdb.2
          obtain ⟨i, hi, hx⟩ := mem_flat.1 hx
          rw [List.length_append] at hi
          simp only [hs] at hx
          split at hx
          · obtain ⟨k, hk, _, hxk⟩ := hin x (List.mem_append_right _ (mem_flat.2 ⟨i, by assumption, hx⟩)); exact .inl ⟨k, .inl hk, hxk⟩
          · obtain ⟨k, hk, hxk⟩ := q3 _ x (by omega) hx
            exact .inl ⟨k, .inl (hML k hk), hxk⟩
        · simp at hx)
    (fun x hx hn => hw x hx fun hxg => by obtain ⟨k, hk, _, hxk⟩ := hin x (List.mem_append_left _ hxg); exact hn k (.inl hk) hxk) hsize hos ht hu
    (fun _ => own_iff.2 ⟨xs ++ news, F', _, own', hF''⟩)
  refine ⟨F'', r1, r3, ?_, ?_⟩
  · show Ob.ref _ _
    rw [getO_setO, if_pos rfl]
    show u' = upd val k0 u' k0
    rw [upd_same]
  · obtain ⟨a1, a2, a3, e, _⟩ := hrow.slice
    rw [e]; rfl
end
end Ev
