/- Ev: operations. Part F: append, literals of slices, make, stores. -/
import Derived.Test.YtfolgfbhllmdiaaGreatDoorEvOpsE
namespace Ev
open Go

section
variable {P : Program} {A : Attrs} {E : Env} {c : Ctx} {s s1 : St} {a : Act} {w w' : World} {val : Key → Value} {fp : Key → List Nat}
variable {l : Log} {K : St → Log → R} {r : T × List T}

theorem slT_some {t : TypeId} (h : isSlT P t = true) : ∃ e, P.underlying t = some (.slice e) := by
  unfold isSlT at h
  split at h
  · exact ⟨_, by assumption⟩
  · cases h
theorem OwnR_nil {w : World} {I J : Nat → Prop} {sz : Nat} (hsz : 0 < sz) {a : Option Addr} : OwnR w I J true sz [] (.slice a 0 0) [] [] fun _ => [] :=
  ⟨hsz, .inl ⟨rfl, rfl, _, rfl⟩, rfl, ND.nil _, by simp, by simp⟩

theorem op_append (h : Inv c s a w val fp) {o : Oper} {cl : Call} {t t' : TypeId} {x y : Operand} (ho : o.op = .call cl) (hcl : cl.callee = .builtin .append) (hargs : cl.args = #[x, y]) (htys : cl.argTypes = #[t, t']) {d : Nat} (hd' : o.dst = some d) (hd : d < a.tmps.size)
    {Q : Exit → Act → World → Prop} (hr : runP E (getV x fun vs => getV y fun vx => appendP P t t' d vs vx) s l K = some r) : o.wp P a w (Post c w K r) Q := by
  obtain ⟨vs, l1, h1, hs⟩ := getV_sound h hr
  obtain ⟨vx, l2, h2, hx⟩ := getV_sound h h1
  unfold appendP at h2
  rw [run_iteF] at h2
  replace h2 := ev_true h2
  obtain ⟨hok, h2⟩ := h2
  rw [Bool.and_eq_true] at hok
  obtain ⟨e, i, z, st⟩ := slOk_some hok.1
  obtain ⟨e2, ht2⟩ := slT_some hok.2
  obtain ⟨ys, b, s2, l3, M, gs, A', m, cp, news, h3, hm, hvx, hnl, hnc, hmv⟩ := takeSl_sound h (by rw [st.stride]; exact st.pos) hx h2
  have hones : ∀ u ∈ news, u.oneCell' = true := fun u hu => by
    obtain ⟨j, hj⟩ := List.mem_iff_getElem?.1 hu
    have hjl := (List.getElem?_eq_some_iff.1 hj).1
    exact RB.one (hmv.rb j _ u (List.getElem?_eq_getElem (by rw [hmv.len]; exact hjl)) hj)
  have fin : ∀ {L : List Key} {s3 : St} {deep : Bool} {cells : List T} {u : Value} {xs : List Value} {Fg : List Nat} {fs : Nat → List Nat} {l4 : Log},
      Moved s s3 L → (∀ k, k ∈ M → k ∈ L) → OwnR w (inI c w fp) (inJ c w fp) deep (strideT P t) cells u xs Fg fs → (∀ x, x ∈ Fg ++ flat cells.length fs → ∃ k, k ∈ L ∧ k ∉ M ∧ x ∈ fp k) → a.eval x = u →
      fits P (elemS P t) (cells.length + ys.length) = true →
      runP E (newO (keyOf d 0) (.arr true (deep && b) (strideT P t) (cells ++ ys)) (.setT d (.one (.obj (keyOf d 0))) .done)) s3 l4 K = some r → o.wp P a w (Post c w K r) Q := by
    intro L s3 deep cells u xs Fg fs l4 hm3 hML hown hin hu hfit h4
    obtain ⟨hfree, l5, h5⟩ := newO_sound h4
    rw [run_setT, run_done] at h5
    rw [st.stride] at hown hnl h5
    have hb := fits_le st.hi (st.elem ▸ hfit)
    obtain ⟨v', w', F', e1, e2, e3, e4, e5, e6, e7, e8⟩ := run_app (P := P) (w := w) (ty := o.type) st.hu ht2 st.hi st.hz st.hzs st.pos hown.row hnl hnc hones (by rw [hown.len, ← hmv.len]; exact hb) st.bpos
    obtain ⟨F'', r1, r2, r3⟩ := new_arr h hm3 hML hown hin hmv hfree e2 e3 e4 e5 e6 e7 e8
    refine wp_value (v := v') (w' := w') ?_ ?_
    · simp only [execOp, ho, resolve, hcl, hargs, htys, invoke, builtin, Sem.run_bind, Sem.run_pure, Result.andThen_ok, List.map_toArray, List.map_cons, List.map_nil, hu, hvx]
      rw [e1]; rfl
    · rw [hd']
      exact ⟨_, _, _, _, h5, r1.setT hd (VR_c r3), rfl, r2⟩
  split at h3
  · rw [run_iteF] at h3
    replace h3 := ev_true h3
    obtain ⟨hfit, h3⟩ := h3
    have hu : a.eval x = .slice none 0 0 := hs
    exact fin (deep := true) (cells := []) hm (fun _ hk => hk) (OwnR_nil (by rw [st.stride]; exact st.pos)) (by simp [flat]) hu (by simpa using hfit) h3
  · rename_i k
    rw [run_getO] at h3
    split at h3
    · rename_i own deep sz' cs hk
      rw [run_iteF] at h3
      replace h3 := ev_true h3
      obtain ⟨hb, h3⟩ := h3
      rw [Bool.and_eq_true, Bool.and_eq_true] at hb
      obtain ⟨⟨rfl, hsz⟩, hfit⟩ := hb
      have hsz : sz' = strideT P t := Nat.eq_of_beq_eq_true hsz
      subst hsz
      rw [run_setO] at h3
      obtain ⟨hn, hk0, hm'⟩ := hm.add (o := .moved (keyOf d 0)) (.inr ⟨_, rfl⟩) hk
      have hv := obj_alive hs hk0
      have hob := h.obs k
      rw [hk0] at hob
      obtain ⟨xs, Fg, fs, hown, hF⟩ := own_iff.1 hob
      exact fin hm' (fun k' hk' => List.mem_cons_of_mem _ hk') hown (fun x hx => ⟨k, by simp, hn, by rw [hF]; exact hx⟩) hv hfit h3
    · cases h3
  · cases h3

/-- A row laid down, its cells moved there. -/
theorem new_row (h : Inv c s a w val fp) {M : List Key} (hm : Moved s s1 M) {b : Bool} {sz : Nat} (hsz : 0 < sz) {ys : List T} {news : List Value} {gs : Nat → List Nat} (hmv : MovedCs c w fp [] M b ys news gs)
    {k0 : Key} (hfree : s1.getO k0 = .free) {n : Nat} (hn : news.length = n * sz) (hmax : n ≤ maxLen) (e : TypeId) :
    ∃ F'', Inv c (s1.setO k0 (.arr true b sz ys)) a (w.alloc (.cells news.toArray e)) (upd val k0 (.slice (some ⟨w.heap.size, 0, none⟩) n n)) (upd (clr fp M) k0 F'') ∧ Kp c.own w (w.alloc (.cells news.toArray e)) ∧
      CR (mkFr c (w.alloc (.cells news.toArray e)) (upd val k0 (.slice (some ⟨w.heap.size, 0, none⟩) n n)) (upd (clr fp M) k0 F'')) (s1.setO k0 (.arr true b sz ys)) (.obj k0) (.slice (some ⟨w.heap.size, 0, none⟩) n n) := by
  have := new_arr (w' := w.alloc (.cells news.toArray e)) (u' := .slice (some ⟨w.heap.size, 0, none⟩) n n) (F' := [w.heap.size]) h hm (fun _ hk => hk) (OwnR_nil (w := w) (I := inI c w fp) (J := inJ c w fp) (a := none) hsz) (by simp [flat]) hmv hfree
    (.inr ⟨w.heap.size, n, n, news.toArray, e, rfl, rfl, heap_alloc_new w _, by simpa using hn, Nat.le_refl _, hmax, by simpa using hn, by rw [← hn]; simp⟩) (by simp) (fun x hx _ => heap_alloc_old w _ x hx) (by simp) rfl rfl rfl
  simpa using this

theorem get_rep {α : Type} (z : List α) : ∀ (n i : Nat), i < n * z.length → ((List.replicate n z).flatten)[i]? = z[i % z.length]?
  | 0, i, h => by simp at h
  | n + 1, i, h => by
    rw [List.replicate_succ, List.flatten_cons, List.getElem?_append]
    split
    · rename_i hi; rw [Nat.mod_eq_of_lt hi]
    · rename_i hi
      rw [get_rep z n (i - z.length) (by rw [Nat.add_mul] at h; omega), ← Nat.mod_eq_sub_mod (by omega)]
theorem len_rep {α : Type} (z : List α) (n : Nat) : ((List.replicate n z).flatten).length = n * z.length := by simp
theorem madeCells_get (z : Array Value) (n i : Nat) (hz : 0 < z.size) (hi : i < n) : (madeCells z n).toList[i]? = some (z[i % z.size]'(Nat.mod_lt _ hz)) := by
  have hlt := Nat.mod_lt i hz
  simp [madeCells, hi, hlt]

theorem op_buildSlice (h : Inv c s a w val fp) {o : Oper} {t : TypeId} {n : Nat} {ps : Array (Nat × Operand)} (ho : o.op = .buildSlice t n ps) (hd : ∀ d, o.dst = some d → d < a.tmps.size)
    {Q : Exit → Act → World → Prop} (hr : runP E (opP P A o) s l K = some r) : o.wp P a w (Post c w K r) Q := by
  unfold opP at hr
  simp only [ho] at hr
  split at hr
  · rename_i d hd'
    rw [run_iteF] at hr
    replace hr := ev_true hr
    obtain ⟨hok, hr⟩ := hr
    rw [Bool.and_eq_true] at hok
    obtain ⟨e, i, z, st⟩ := slOk_some hok.1
    have hsmall : n * strideT P t ≤ 65536 := Nat.le_of_ble_eq_true hok.2
    rw [st.stride] at hsmall
    obtain ⟨vs, l1, h1, hl, hvs⟩ := getPs_sound h hr
    rw [st.elem, st.zeroC, Option.map_some] at h1
    split at h1
    · rename_i cs hcs
      obtain ⟨z', p, hz, hp, hf⟩ := fillV_some hcs
      cases hz
      have hpp : ∀ j, p j = some (j * i.size, i.size) := by
        unfold placesT at hp
        rw [st.hu] at hp
        simp only [st.hi, Option.map_some, Option.some.injEq] at hp
        subst hp
        exact fun _ => rfl
      have hzpos : 0 < z.cells.size := by rw [st.hzs]; exact st.pos
      have hcr : CRs (mkFr c w val fp) s ((List.replicate n (z.cells.toList.map ofC)).flatten) (madeCells z.cells (n * i.size)).toList := by
        refine ⟨by simp [size_madeCells, st.hzs], fun j c' v' hc hv => ?_⟩
        have hj : j < n * i.size := by
          have := (List.getElem?_eq_some_iff.1 hc).1
          simpa [st.hzs] using this
        rw [madeCells_get _ _ _ hzpos hj] at hv
        rw [get_rep _ _ _ (by simpa [st.hzs] using hj)] at hc
        simp only [List.length_map, Array.length_toList, List.getElem?_map, Option.map_eq_some_iff] at hc
        obtain ⟨v2, hv2, rfl⟩ := hc
        rw [Array.getElem?_toList, Array.getElem?_eq_getElem (Nat.mod_lt _ hzpos)] at hv2
        rw [hv2] at hv
        cases hv
        exact CR_ofC (List.all_eq_true.1 st.hzo v' (by
          have := List.mem_of_getElem? (l := z.cells.toList) (i := j % z.cells.size) (a := v') (by rw [Array.getElem?_toList, Array.getElem?_eq_getElem (Nat.mod_lt _ hzpos), hv2])
          exact this))
      obtain ⟨cells', r1, r2⟩ := fill_sound (f := mkFr c w val fp) hpp hcr hl hvs hf
      obtain ⟨ys, b, s2, l2, M, fs, h2, hm, hmv⟩ := moveCs_sound h (Moved.refl s) r2 h1
      rw [List.append_nil] at hm
      obtain ⟨hfree, l3, h3⟩ := newO_sound h2
      rw [run_setT, run_done, st.stride] at h3
      have hsz : cells'.toList.length = n * i.size := by
        have h5 := r2.1
        have h6 : cs.length = ((List.replicate n (z.cells.toList.map ofC)).flatten).length := by
          have fl : ∀ {pl : Nat → Option (Nat × Nat)} {vs : List (Nat × V)} {cs cs' : List C}, fillCs pl cs vs = some cs' → cs'.length = cs.length := by
            intro pl vs
            induction vs with
            | nil => intro cs cs' h; cases h; rfl
            | cons q vs ih =>
              obtain ⟨qi, qv⟩ := q
              intro cs cs' h
              rw [fillCs] at h
              split at h
              · replace h := ev_true h
                obtain ⟨_, h⟩ := h
                rw [ih h, setCells_len]
              · cases h
          exact fl hf
        rw [← h5, h6]
        simp [st.hzs]
      have hn1 : n ≤ 65536 := Nat.le_trans (Nat.le_mul_of_pos_right _ st.pos) hsmall
      obtain ⟨F'', q1, q2, q3⟩ := new_row h hm st.pos hmv hfree (n := n) hsz (by simp only [maxLen]; omega) e
      refine wp_value (v := .slice (some ⟨w.heap.size, 0, none⟩) n n) (w' := w.alloc (.cells cells' e)) ?_ ?_
      · have hbig : ¬ 16777216 < n * i.size := by omega
        have hzz : n * i.size = 0 → n = 0 := fun h0 => by
          rcases Nat.eq_zero_or_pos n with h1 | h1
          · exact h1
          · have := Nat.mul_pos h1 st.pos; omega
        have hff : Instr.fill (fun j => some (j * i.size, i.size)) (madeCells z.cells (n * i.size)) (ps.toList.map fun (i, x) => (i, a.eval x)) = some cells' := r1
        unfold madeCells at hff
        by_cases h0 : n * i.size = 0
        · have hn0 := hzz h0
          subst hn0
          simp only [Nat.zero_mul] at hff
          have hz0 : Array.range 0 = #[] := rfl
          simp only [hz0, Array.map_empty] at hff
          simp [execOp, ho, Instr.buildSlice, run_underlying st.hu, Go.sizeOf, typeInfo, st.hi, newRow, hz0]
          simp [hff]
        · have hn0 : ¬ n = 0 := fun e => h0 (by rw [e]; simp)
          have hi0 : ¬ i.size = 0 := by have := st.pos; omega
          simp at hff
          simp [execOp, ho, Instr.buildSlice, run_underlying st.hu, Go.sizeOf, typeInfo, st.hi, zeroValue, st.hz, hbig, h0, newRow, hff]
      · rw [hd']
        rw [Array.toArray_toList] at q1 q2 q3
        exact ⟨_, _, _, _, h3, q1.setT (hd d hd') (VR_c q3), rfl, q2⟩
    · cases h1
  · cases hr
end
end Ev
