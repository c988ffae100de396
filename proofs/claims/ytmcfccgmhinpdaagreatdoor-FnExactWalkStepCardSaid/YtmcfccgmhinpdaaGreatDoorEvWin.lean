/- Ev: slices of one's own that are looked into. -/
import Derived.Test.YtmcfccgmhinpdaaGreatDoorEvTurn
namespace Ev
open Go

section
variable {P : Program} {A : Attrs} {E : Env} {c : Ctx} {s s1 s2 : St} {a : Act} {w : World} {val : Key → Value} {fp : Key → List Nat}
variable {l : Log} {K : St → Log → R} {r : T × List T}

theorem findW_cons {q : Nat} {x : C} {ws : List (Nat × C)} {i : Nat} (h : q ≠ i) : findW ((q, x) :: ws) i = findW ws i := by rw [findW, if_neg h]

/-- A slice of one's own with something in it, looked into. -/
theorem open_sound (h : Inv c s a w val fp) {k : Key} {sz : Nat} {cells : List T} (hk : s.getO k = .arr true true sz cells) (hne : cells ≠ []) :
    ∃ val' fp', Inv c (s.setO k (.opn sz cells [])) a w val' fp' ∧ Goes (mkFr c w val fp) (mkFr c w val' fp') s (s.setO k (.opn sz cells [])) ∧ val' k = val k := by
  have hob := h.obs k
  rw [hk] at hob
  obtain ⟨r1, r2, _⟩ := h.change1 (w' := w) k (.opn sz cells []) (val k) (fp k) (by rw [hk]; rfl) (by rw [hk]; rfl) (fun b hb => .inl hb) (fun _ _ _ => rfl) (Nat.le_refl _) rfl rfl rfl (fun _ => by
    have hob : RO w (.sl sz cells) (val k) (fp k) := hob
    generalize val k = u at hob
    generalize fp k = F at hob
    cases hob with
    | nil hsz => exact absurd rfl hne
    | sl vs fs hsz hg hlen hcap hmax hcur hv hc hnd => exact ⟨_, _, _, _, _, vs, fs, rfl, rfl, ⟨hsz, by simp [findW]⟩, hg, hlen, hcap, hmax, hcur, hv, fun i x hx => hc i x hx, hnd⟩)
  exact ⟨_, _, r1, r2, upd_same _ _ _⟩

/-- One cell is named. -/
theorem unpackC_sound (h : Inv c s a w val fp) {k key : Key} {t : TypeId} {q sz : Nat} {cells : List T} {ws : List (Nat × C)} {x : T} (hk : s.getO k = .opn sz cells ws) (hx : cells[q]? = some x) (hq : findW ws q = none)
    {f : C → Prog} (hr : runP E (unpackC P k key t q sz cells ws x f) s l K = some r) :
    ∃ y s' l' val' fp' ws', runP E (f y) s' l' K = some r ∧ Inv c s' a w val' fp' ∧ Goes (mkFr c w val fp) (mkFr c w val' fp') s s' ∧ (∀ i, s'.getT i = s.getT i) ∧ s'.getO k = .opn sz cells ws' ∧ (∀ i, q ≠ i → findW ws' i = findW ws i) ∧ val' k = val k ∧
      ∃ g len cap v, val k = .slice (some ⟨g, 0, none⟩) len cap ∧ w.cell? ⟨g, q, none⟩ = some v ∧ CR (mkFr c w val' fp') s' y v := by
  have hob := h.obs k
  rw [hk] at hob
  obtain ⟨g, len, cap, cur, e, vs, fs, hu, hF, hsz, hg, hlen, hcap, hmax, hcur, hv, hel, hnd⟩ := hob
  have hg : w.heap[g]? = some (.cells cur e (0, 0)) := hg
  have hql : q < cells.length := (List.getElem?_eq_some_iff.1 hx).1
  have hcell : w.cell? ⟨g, q, none⟩ = some (vs q) := by rw [cell_of_cells hg]; exact hv q hql
  have hro : RO w x (vs q) (fs q) := by
    have := hel q x hx
    unfold WR at this
    rw [hq] at this
    exact this
  unfold unpackC at hr
  split at hr
  · rename_i e' he'
    rw [run_asSl] at hr
    split at hr
    · rename_i sz' cs
      replace hr := ev_true hr
      obtain ⟨hsz', hr⟩ := hr
      have hsz' : sz' = sizeT P e' := Nat.eq_of_beq_eq_true hsz'
      subst hsz'
      obtain ⟨hfree, l1, h1⟩ := newO_sound hr
      rw [run_setO] at h1
      have hkk : k ≠ key := fun e => by rw [e, hfree] at hk; cases hk
      rw [List.nodup_cons] at hnd
      have hnd2 := (nodup_flat cells.length fs).1 hnd.2
      let fs' : Nat → List Nat := fun i => if q = i then [] else fs i
      have fs_sub : ∀ i b, b ∈ fs' i → b ∈ fs i ∧ q ≠ i := fun i b hb => by
        simp only [fs'] at hb
        split at hb
        · simp at hb
        · exact ⟨hb, by assumption⟩
      have hnd' : (g :: (List.range cells.length).flatMap fs').Nodup := by
        rw [List.nodup_cons]
        refine ⟨fun hb => ?_, (nodup_flat cells.length fs').2 ⟨fun i hi => ?_, fun i j hi hj hne b hb hb' => ?_⟩⟩
        · obtain ⟨i, hi, hbi⟩ := mem_flat.1 hb
          exact hnd.1 (mem_flat.2 ⟨i, hi, (fs_sub i g hbi).1⟩)
        · simp only [fs']
          split
          · exact List.nodup_nil
          · exact hnd2.1 i hi
        · exact hnd2.2 i j hi hj hne b (fs_sub i b hb).1 (fs_sub j b hb').1
      have hfk : ∀ b, b ∈ fs q → b ∈ fp k := fun b hb => by rw [hF]; exact List.mem_cons_of_mem _ (mem_flat.2 ⟨q, hql, hb⟩)
      have e1 : ((s.setO key (.arr true true (sizeT P e') cs)).setO k (.opn sz cells ((q, .obj key) :: ws))).getO k = .opn sz cells ((q, .obj key) :: ws) := by rw [getO_setO, if_pos rfl]
      have e2 : ((s.setO key (.arr true true (sizeT P e') cs)).setO k (.opn sz cells ((q, .obj key) :: ws))).getO key = .arr true true (sizeT P e') cs := by rw [getO_setO, if_neg hkk, getO_setO, if_pos rfl]
      let val' : Key → Value := upd val key (vs q)
      let fp' : Key → List Nat := upd (upd fp key (fs q)) k (g :: (List.range cells.length).flatMap fs')
      have v1 : val' key = vs q := upd_same _ _ _
      have v2 : ∀ j, key ≠ j → val' j = val j := fun j hj => upd_ne _ _ hj
      have f1 : fp' k = g :: (List.range cells.length).flatMap fs' := upd_same _ _ _
      have f2 : fp' key = fs q := by show upd (upd fp key (fs q)) k _ key = _; rw [upd_ne _ _ hkk, upd_same]
      have f3 : ∀ j, k ≠ j → key ≠ j → fp' j = fp j := fun j h1 h2 => by show upd (upd fp key (fs q)) k _ j = _; rw [upd_ne _ _ h1, upd_ne _ _ h2]
      have hf0 : fp key = [] := h.fp_free hfree
      have inF' : ∀ b, b ∈ fp' k → b ∈ fp k := fun b hb => by
        rw [f1] at hb
        rw [hF]
        rcases List.mem_cons.1 hb with rfl | hb
        · simp
        · obtain ⟨i, hi, hbi⟩ := mem_flat.1 hb
          exact List.mem_cons_of_mem _ (mem_flat.2 ⟨i, hi, (fs_sub i b hbi).1⟩)
      have ap : ∀ b, b ∈ fp' k → b ∉ fs q := fun b hb hbq => by
        rw [f1] at hb
        rcases List.mem_cons.1 hb with rfl | hb
        · exact hnd.1 (mem_flat.2 ⟨q, hql, hbq⟩)
        · obtain ⟨i, hi, hbi⟩ := mem_flat.1 hb
          obtain ⟨h1, h2⟩ := fs_sub i b hbi
          exact hnd2.2 q i hql hi h2 b hbq h1
      have hcr : ∀ {fr : Ev.Fr}, fr.val key = vs q → CR fr ((s.setO key (.arr true true (sizeT P e') cs)).setO k (.opn sz cells ((q, .obj key) :: ws))) (.obj key) (vs q) := fun {fr} hfr => by
        refine ⟨?_, hro.one⟩
        rw [e2]; exact hfr.symm
      obtain ⟨r1, r2, _⟩ := h.changes (s' := (s.setO key (.arr true true (sizeT P e') cs)).setO k (.opn sz cells ((q, .obj key) :: ws))) (w' := w) (val' := val') (fp' := fp') (fun j => j = k ∨ j = key) (fun _ => rfl)
        (fun j hj => by
          rw [not_or] at hj
          have h1 : k ≠ j := fun e => hj.1 e.symm
          have h2 : key ≠ j := fun e => hj.2 e.symm
          exact ⟨by rw [getO_setO, if_neg h1, getO_setO, if_neg h2], v2 j h2, f3 j h1 h2⟩)
        (by
          rintro j (rfl | rfl)
          · rw [e1, hk, v2 _ hkk.symm]; rfl
          · rw [hfree]; trivial)
        (by
          rintro j (rfl | rfl)
          · rw [hk]; rfl
          · rw [hfree]; rfl)
        (by
          rintro j b (rfl | rfl) hb
          · exact .inl ⟨j, .inl rfl, inF' b hb⟩
          · rw [f2] at hb; exact .inl ⟨k, .inl rfl, hfk b hb⟩)
        (by
          rintro j j' (rfl | rfl) (rfl | rfl) hne b hb hb'
          · exact hne rfl
          · rw [f2] at hb'; exact ap b hb hb'
          · rw [f2] at hb; exact ap b hb' hb
          · exact hne rfl)
        (fun _ _ _ => rfl) (Nat.le_refl _) rfl rfl rfl
        (by
          rintro gg j (rfl | rfl)
          · rw [e1, f1, v2 _ hkk.symm]
            refine ⟨g, len, cap, cur, e, vs, fs', hu, rfl, ⟨hsz.1, fun i hi => by
              by_cases hqi : q = i
              · subst hqi; exact hql
              · rw [findW_cons hqi] at hi; exact hsz.2 i hi⟩, hg, hlen, hcap, hmax, hcur, hv, fun i y hy => ?_, hnd'⟩
            unfold WR
            by_cases hqi : q = i
            · subst hqi
              have : findW ((q, C.obj key) :: ws) q = some (.obj key) := by rw [findW, if_pos rfl]
              rw [this]
              exact ⟨hcr v1, by simp [fs']⟩
            · rw [findW_cons hqi]
              have := hel i y hy
              unfold WR at this
              cases hc : findW ws i with
              | none => rw [hc] at this; simp only [fs', if_neg hqi]; exact this
              | some cc => rw [hc] at this; simp only [fs', if_neg hqi]; exact ⟨CR.goes gg this.1, this.2⟩
          · rw [e2, f2, v1]; exact hro)
      refine ⟨.obj key, _, _, val', fp', (q, .obj key) :: ws, h1, r1, r2, fun _ => rfl, e1, fun i hi => findW_cons hi, v2 _ hkk.symm, g, len, cap, vs q, hu, hcell, hcr v1⟩
    · cases hr
  · obtain ⟨l1, h1, _, _⟩ := asTy_sound hr
    rw [run_iteF] at h1
    replace h1 := ev_true h1
    obtain ⟨hs, h1⟩ := h1
    exact ⟨.t x, s, l1, val, fp, ws, h1, h, ⟨fun b hb => ⟨hb, rfl⟩, fun b hb => ⟨hb, rfl⟩, fun k => Turns.refl _ _, fun b hb => ⟨.inl hb, rfl⟩⟩, fun _ => rfl, hk, fun _ _ => rfl, rfl, g, len, cap, vs q, hu, hcell, hro.scalar hs⟩

theorem findP_sound : ∀ {ws : List (Nat × C)} {q : Nat} {f : C → Prog} {p : Prog} {l : Log}, runP E (findP ws q f p) s l K = some r → (∃ x, findW ws q = some x ∧ runP E (f x) s l K = some r) ∨ (findW ws q = none ∧ runP E p s l K = some r)
  | [], q, f, p, l, hr => .inr ⟨rfl, hr⟩
  | (q', x) :: ws, q, f, p, l, hr => by
    rw [findP, run_ite] at hr
    rcases ev_wrap hr with ⟨hb, hr⟩ | ⟨hb, hr⟩
    · have : q' = q := Nat.eq_of_beq_eq_true hb
      exact .inl ⟨x, by rw [findW, if_pos this], hr⟩
    · have : q' ≠ q := fun e => by subst e; simp at hb
      rw [findW_cons this]
      exact findP_sound hr

theorem Goes.refl (fr : Ev.Fr) (s : St) : Goes fr fr s s := ⟨fun b hb => ⟨hb, rfl⟩, fun b hb => ⟨hb, rfl⟩, fun k => Turns.refl _ _, fun b hb => ⟨.inl hb, rfl⟩⟩
theorem Turns.trans {o1 o2 o3 : Ob} {u1 u2 u3 : Value} (h : Turns o1 o2 u1 u2) (h' : Turns o2 o3 u2 u3) : Turns o1 o3 u1 u3 := by
  cases o1 <;> cases o2 <;> cases o3 <;> simp_all [Turns]
theorem Goes.trans {f1 f2 f3 : Ev.Fr} {s1 s2 s3 : St} (h : Goes f1 f2 s1 s2) (h' : Goes f2 f3 s2 s3) : Goes f1 f3 s1 s3 := by
  refine ⟨fun b hb => ?_, fun b hb => ?_, fun k => (h.hk k).trans (h'.hk k), fun b hb => ?_⟩
  · obtain ⟨h1, h2⟩ := h.hI b hb
    obtain ⟨h3, h4⟩ := h'.hI b h1
    exact ⟨h3, h4.trans h2⟩
  · obtain ⟨h1, h2⟩ := h.hJ b hb
    obtain ⟨h3, h4⟩ := h'.hJ b h1
    exact ⟨h3, h4.trans h2⟩
  · obtain ⟨h1, h2⟩ := h.hL b hb
    rcases h1 with h1 | h1
    · obtain ⟨h3, h4⟩ := h'.hL b h1
      exact ⟨h3, h4.trans h2⟩
    · exact ⟨.inr ⟨(h'.hI b h1.1).1, (h'.hJ b h1.2).1⟩, (h'.hI b h1.1).2.trans h2⟩

/-- What is at hand when cells are read one by one. -/
structure Reads (c : Ctx) (a : Act) (w : World) (s : St) (val : Key → Value) (fp : Key → List Nat) (k : Key) (g q : Nat) (n : Nat) (s' : St) (val' : Key → Value) (fp' : Key → List Nat) (cs : List C) : Prop where
  inv : Inv c s' a w val' fp'
  goes : Goes (mkFr c w val fp) (mkFr c w val' fp') s s'
  len : cs.length = n
  cell : ∀ (j : Nat) (y : C), cs[j]? = some y → ∃ v, w.cell? ⟨g, q + j, none⟩ = some v ∧ CR (mkFr c w val' fp') s' y v

theorem unpackPs_sound {k : Key} {ws0 : List (Nat × C)} {g len cap sz : Nat} {cells : List T} : ∀ {ts : List TypeId} {key : Key} {q : Nat} {f : List C → Prog} {s : St} {l : Log} {val : Key → Value} {fp : Key → List Nat} {ws : List (Nat × C)},
    Inv c s a w val fp → s.getO k = .opn sz cells ws → val k = .slice (some ⟨g, 0, none⟩) len cap → (∀ i, q ≤ i → findW ws i = findW ws0 i) → runP E (unpackPs P k ws0 key q ts f) s l K = some r →
    ∃ cs s' l' val' fp', runP E (f cs) s' l' K = some r ∧ Reads c a w s val fp k g q ts.length s' val' fp' cs
  | [], key, q, f, s, l, val, fp, ws, h, hk, hu, hw, hr => ⟨[], s, l, val, fp, hr, h, Goes.refl _ _, rfl, by simp⟩
  | t :: ts, key, q, f, s, l, val, fp, ws, h, hk, hu, hw, hr => by
    rw [unpackPs, unpackP, run_getO, hk] at hr
    simp only at hr
    have step : ∃ y s1 l1 val1 fp1 ws1 v, runP E (unpackPs P k ws0 (key + 1) (q + 1) ts fun r => f (y :: r)) s1 l1 K = some r ∧ Inv c s1 a w val1 fp1 ∧ Goes (mkFr c w val fp) (mkFr c w val1 fp1) s s1 ∧ s1.getO k = .opn sz cells ws1 ∧
        (∀ i, q + 1 ≤ i → findW ws1 i = findW ws0 i) ∧ val1 k = val k ∧ w.cell? ⟨g, q, none⟩ = some v ∧ CR (mkFr c w val1 fp1) s1 y v := by
      rcases findP_sound hr with ⟨y, hy, h1⟩ | ⟨hn, h1⟩
      · have hob := h.obs k
        rw [hk] at hob
        obtain ⟨g', len', cap', cur, e, vs, fs, hu', hF, hsz, hg, hlen, hcap, hmax, hcur, hv, hel, hnd⟩ := hob
        have hu' : val k = .slice (some ⟨g', 0, none⟩) len' cap' := hu'
        rw [hu] at hu'
        cases hu'
        have hg : w.heap[g]? = some (.cells cur e (0, 0)) := hg
        -- the named cell lies within
        have hql : q < cells.length := hsz.2 q (by rw [hw q (Nat.le_refl _), hy]; rfl)
        have := hel q _ (List.getElem?_eq_getElem hql)
        unfold WR at this
        rw [hw q (Nat.le_refl _), hy] at this
        exact ⟨y, s, _, val, fp, ws, vs q, h1, h, Goes.refl _ _, hk, fun i hi => hw i (by omega), rfl, by rw [cell_of_cells hg]; exact hv q hql, this.1⟩
      · rw [run_onSome] at h1
        split at h1
        · rename_i x hx
          obtain ⟨y, s1, l1, val1, fp1, ws1, g1, g2, g3, g4, g5, g6, g7, g', len', cap', v, g8, g9, g10⟩ := unpackC_sound h hk hx (by rw [hw q (Nat.le_refl _)]; exact hn) h1
          rw [hu] at g8
          cases g8
          exact ⟨y, s1, l1, val1, fp1, ws1, v, g1, g2, g3, g5, fun i hi => by rw [g6 i (by omega)]; exact hw i (by omega), g7, g9, g10⟩
        · cases h1
    obtain ⟨y, s1, l1, val1, fp1, ws1, v, h1, h2, h3, h4, h5, h6, h7, h8⟩ := step
    obtain ⟨cs, s', l', val', fp', g1, g2⟩ := unpackPs_sound h2 h4 (h6.trans hu) h5 h1
    refine ⟨y :: cs, s', l', val', fp', g1, g2.inv, h3.trans g2.goes, by simp [g2.len], fun j z hz => ?_⟩
    cases j with
    | zero => simp at hz; subst hz; exact ⟨v, h7, CR.goes g2.goes h8⟩
    | succ j =>
      have := g2.cell j z (by simpa using hz)
      rw [show q + (j + 1) = q + 1 + j by omega]; exact this

theorem op_load (h : Inv c s a w val fp) {o : Oper} {t : TypeId} {x : Operand} (ho : o.op = .load t x) (hd : ∀ d, o.dst = some d → d < a.tmps.size)
    {Q : Exit → Act → World → Prop} (hr : runP E (opP P A o) s l K = some r) : o.wp P a w (Post c w K r) Q := by
  unfold opP at hr
  simp only [ho] at hr
  split at hr
  · rename_i d hd'
    obtain ⟨v, l1, h1, hv⟩ := getV_sound h hr
    -- cells that have been read one by one
    have fin : ∀ {k : Key} {q g len cap : Nat} {s' : St} {l' : Log} {val' : Key → Value} {fp' : Key → List Nat} {cs : List C}, tyOk P t = true → val k = .slice (some ⟨g, 0, none⟩) len cap → ptrTo (val k) q (a.eval x) →
        Reads c a w s val fp k g q (cellTys P 8 t).length s' val' fp' cs → K (s'.setT d (mkV P t cs)) l' = some r → o.wp P a w (Post c w K r) Q := by
      intro k q g len cap s' l' val' fp' cs ht hu hp hrd hK
      rw [hu] at hp
      have hp : a.eval x = .pointer (some ⟨g, 0 + q, none⟩) := hp
      rw [Nat.zero_add] at hp
      have each : ∀ j, j < (cellTys P 8 t).length → ∃ v, w.cell? ⟨g, q + j, none⟩ = some v ∧ ∀ y, cs[j]? = some y → CR (mkFr c w val' fp') s' y v := fun j hj => by
        have hj' : j < cs.length := by rw [hrd.len]; exact hj
        obtain ⟨v, h1, h2⟩ := hrd.cell j _ (List.getElem?_eq_getElem hj')
        refine ⟨v, h1, fun y hy => ?_⟩
        rw [List.getElem?_eq_getElem hj'] at hy
        cases hy; exact h2
      have hg : ∀ j, j < (cellTys P 8 t).length → w.cell? ⟨g, q + j, none⟩ = some ((w.cell? ⟨g, q + j, none⟩).getD undef) := fun j hj => by
        obtain ⟨v, h1, _⟩ := each j hj
        rw [h1]; rfl
      refine wp_value (run_load_op (f := fun j => (w.cell? ⟨g, q + j, none⟩).getD undef) ho ht hp hg) ?_
      rw [hd']
      refine ⟨_, _, val', fp', hK, hrd.inv.setT (hd d hd') (VR_mkV ht hrd.len fun j y hy => ?_), rfl, Kp.refl _ _⟩
      have hj : j < (cellTys P 8 t).length := by rw [← hrd.len]; exact (List.getElem?_eq_some_iff.1 hy).1
      obtain ⟨v, h1, h2⟩ := each j hj
      have := h2 y hy
      show CR _ _ y ((w.cell? ⟨g, q + j, none⟩).getD undef)
      rw [h1]; exact this
    split at h1
    · rename_i k q
      have hv0 := hv
      rw [run_getO] at h1
      split at h1
      · rename_i sz cells hk
        cases hsl : hasSl P t with
        | false => rw [hsl, cond_false] at h1; exact loadP_sound h ho hd hd' hv0 h1
        | true =>
          rw [hsl, cond_true] at h1
          unfold loadO at h1
          rw [run_iteF] at h1
          replace h1 := ev_true h1
          obtain ⟨ht, h1⟩ := h1
          have hp : ptrTo (val k) q (a.eval x) := ptr_live hv0 (by rw [hk]; rfl)
          split at h1
          · cases h1
          · rename_i t0 ts hts
            rw [run_onSome] at h1
            split at h1
            · rename_i y hy
              rw [run_setO] at h1
              obtain ⟨val1, fp1, g1, g2, g3⟩ := open_sound h hk (by intro e; rw [e] at hy; simp at hy)
              obtain ⟨z, s2, l2, val2, fp2, ws2, u1, u2, u3, u4, u5, u6, u7, g, len, cap, v0, u8, u9, u10⟩ := unpackC_sound g1 (by rw [getO_setO, if_pos rfl]) hy rfl h1
              rw [g3] at u8
              obtain ⟨cs, s3, l3, val3, fp3, p1, p2⟩ := unpackPs_sound u2 u5 (by rw [u7, g3]; exact u8) (fun i hi => by rw [u6 i (by omega)]) u1
              rw [run_setT, run_done] at p1
              refine fin ht u8 hp ⟨p2.inv, (g2.trans u3).trans p2.goes, by rw [hts]; simp [p2.len], fun j yy hyy => ?_⟩ p1
              cases j with
              | zero => simp at hyy; subst hyy; exact ⟨v0, u9, CR.goes p2.goes u10⟩
              | succ j =>
                have := p2.cell j yy (by simpa using hyy)
                rw [show q + (j + 1) = q + 1 + j by omega]; exact this
            · cases h1
      · rename_i sz cells ws hk
        unfold loadW at h1
        rw [run_iteF] at h1
        replace h1 := ev_true h1
        obtain ⟨ht, h1⟩ := h1
        have hp : ptrTo (val k) q (a.eval x) := ptr_live hv0 (by rw [hk]; rfl)
        have hob := h.obs k
        rw [hk] at hob
        obtain ⟨g, len, cap, cur, e, vs, fs, hu, _⟩ := hob
        have hu : val k = .slice (some ⟨g, 0, none⟩) len cap := hu
        obtain ⟨cs, s3, l3, val3, fp3, p1, p2⟩ := unpackPs_sound h hk hu (fun i hi => rfl) h1
        rw [run_setT, run_done] at p1
        exact fin ht hu hp p2 p1
      · exact loadP_sound h ho hd hd' hv0 h1
    · exact loadP_sound h ho hd hd' hv h1
  · cases hr

theorem opn_slice (h : Inv c s a w val fp) {k : Key} {sz : Nat} {cells : List T} {ws : List (Nat × C)} (hk : s.getO k = .opn sz cells ws) :
    ∃ g len cap, val k = .slice (some ⟨g, 0, none⟩) len cap ∧ 0 < sz ∧ cells.length = len * sz := by
  have hob := h.obs k
  rw [hk] at hob
  obtain ⟨g, len, cap, cur, e, vs, fs, hu, hF, hsz, hg, hlen, _⟩ := hob
  exact ⟨g, len, cap, hu, hsz.1, hlen⟩

theorem op_indexAddr (h : Inv c s a w val fp) {o : Oper} {t : TypeId} {x i : Operand} (ho : o.op = .indexAddr t x i) (hd : ∀ d, o.dst = some d → d < a.tmps.size)
    {Q : Exit → Act → World → Prop} (hr : runP E (opP P A o) s l K = some r) : o.wp P a w (Post c w K r) Q := by
  unfold opP at hr
  simp only [ho] at hr
  split at hr
  · rename_i d hd'
    obtain ⟨v, l1, h1, hv⟩ := getV_sound h hr
    obtain ⟨u, l2, h2, hu⟩ := getV_sound h h1
    split at h2
    · rename_i k
      rw [run_getO] at h2
      split at h2
      · rename_i sz cells ws hk
        split at h2
        · rename_i e kk m hue
          have hui := RB.int_inv hu
          rw [run_iteF] at h2
          replace h2 := ev_true h2
          obtain ⟨hb, h2⟩ := h2
          rw [Bool.and_eq_true, Bool.and_eq_true] at hb
          obtain ⟨⟨he, hsz⟩, hb⟩ := hb
          have hsz : sz = sizeT P e := Nat.eq_of_beq_eq_true hsz
          subst hsz
          obtain ⟨g, len, cap, e1, e2, e3⟩ := opn_slice h hk
          rw [e3, Nat.mul_div_cancel _ e2] at hb
          obtain ⟨h0, h1'⟩ := inB_true hb
          have hvx : a.eval x = .slice (some ⟨g, 0, none⟩) len cap := by rw [← e1]; exact ref_live hv (by rw [hk]; rfl)
          rw [run_setT, run_done] at h2
          refine wp_value (run_indexAddr_slice ho hue he hvx hui h0 h1') ?_
          rw [hd']
          have hcr : CR (mkFr c w val fp) s (.ptr k (m.toNat * sizeT P e)) (.pointer (some ⟨g, 0 + m.toNat * sizeT P e, none⟩)) := by
            refine ⟨?_, rfl⟩
            rw [hk]
            show ptrTo (val k) _ _
            rw [e1]; rfl
          exact post_value (o := o) h (hd d hd') (VR_c hcr) h2
        · cases h2
      · exact indexAddrP_sound h ho hd hd' hv hu h2
    · exact indexAddrP_sound h ho hd hd' hv hu h2
  · cases hr

theorem op_len (h : Inv c s a w val fp) {o : Oper} {cl : Call} (ho : o.op = .call cl) (hcl : cl.callee = .builtin .len) (hd : ∀ d, o.dst = some d → d < a.tmps.size)
    {Q : Exit → Act → World → Prop} (hr : runP E (opP P A o) s l K = some r) : o.wp P a w (Post c w K r) Q := by
  unfold opP at hr
  simp only [ho, hcl] at hr
  split at hr
  · rename_i x t hx ht
    have hargs : cl.args = #[x] := by rw [← Array.toArray_toList (xs := cl.args), hx]
    have htys : cl.argTypes = #[t] := by rw [← Array.toArray_toList (xs := cl.argTypes), ht]
    obtain ⟨v, l1, h1, hv⟩ := getV_sound h hr
    have slice : ∀ {Ad : Option Addr} {len cap n : Nat} {l2 : Log}, isSlT P t = true → a.eval x = .slice Ad len cap → n = len → runP E (setD o.dst (.one (.t (.int .i64 (n : Int))))) s l2 K = some r → o.wp P a w (Post c w K r) Q := by
      intro Ad len cap n l2 ht' e1 e4 h2
      obtain ⟨d, l3, hd', h3⟩ := setD_sound h2
      refine wp_value (v := .int .i64 (len : Int)) (w' := w) ?_ ?_
      · obtain ⟨e, hu⟩ := slT_some ht'
        simp [execOp, ho, resolve, hcl, hargs, htys, invoke, builtin, Builtin.len_, run_underlying hu, e1, goInt]
      · rw [hd']
        refine post_value (o := o) h (hd d hd') (VR_t ?_) h3
        rw [e4]; exact RB.int _ _
    split at h1
    · rename_i sb
      have hv := RB.str_inv hv
      rw [run_iteF] at h1
      replace h1 := ev_true h1
      obtain ⟨ht', h1⟩ := h1
      obtain ⟨d, l3, hd', h3⟩ := setD_sound h1
      refine wp_value (v := .int .i64 (sb.size : Int)) (w' := w) ?_ ?_
      · have hu : P.underlying t = some .string := by
          unfold isStrT at ht'
          split at ht'
          · assumption
          · cases ht'
        simp [execOp, ho, resolve, hcl, hargs, htys, invoke, builtin, Builtin.len_, run_underlying hu, hv, goInt]
      · rw [hd']; exact post_value (o := o) h (hd d hd') (VR_t (RB.int _ _)) h3
    · rename_i k
      rw [run_iteF] at h1
      replace h1 := ev_true h1
      obtain ⟨ht', h1⟩ := h1
      rw [run_getO] at h1
      split at h1
      · rename_i sz cells ws hk
        rw [run_iteF] at h1
        replace h1 := ev_true h1
        obtain ⟨hsz, h1⟩ := h1
        have hsz : sz = strideT P t := Nat.eq_of_beq_eq_true hsz
        subst hsz
        obtain ⟨g, len, cap, e1, e2, e3⟩ := opn_slice h hk
        exact slice ht' (by rw [← e1]; exact ref_live hv (by rw [hk]; rfl)) (by rw [e3]; exact Nat.mul_div_cancel _ e2) h1
      · obtain ⟨cells, l2, h2, Ad, len, cap, e1, e2, e3, e4⟩ := slOf_sound h hv h1
        exact slice ht' e1 e4 h2
    · rw [run_iteF] at h1
      replace h1 := ev_true h1
      obtain ⟨ht', h1⟩ := h1
      obtain ⟨cells, l2, h2, Ad, len, cap, e1, e2, e3, e4⟩ := slOf_sound h hv h1
      exact slice ht' e1 e4 h2
  · cases hr
end
end Ev
