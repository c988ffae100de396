/- Ev: operations. Part G: make, stores, x[:0:0]. -/
import Derived.Test.YtmcfccgmhinpdaaGreatDoorEvOpsE
namespace Ev
open Go

section
variable {P : Program} {A : Attrs} {E : Env} {c : Ctx} {s s1 : St} {a : Act} {w w' : World} {val : Key → Value} {fp : Key → List Nat}
variable {l : Log} {K : St → Log → R} {r : T × List T}

theorem zeroT_go (w : World) : ∀ {ts : List TypeId} {vs : List Value} {zs : List T}, zeroT.go P ts (vs.map ofC) = some zs →
    zs.length = vs.length ∧ ∀ (i : Nat) (x : T) (v : Value), zs[i]? = some x → vs[i]? = some v → RO w x v []
  | [], [], zs, h => by simp [zeroT.go] at h; subst h; simp
  | [], v :: vs, zs, h => by simp [zeroT.go] at h
  | t :: ts, [], zs, h => by simp [zeroT.go] at h
  | t :: ts, v :: vs, zs, h => by
    rw [List.map_cons, zeroT.go, Option.bind_eq_some_iff] at h
    obtain ⟨r', hr, h⟩ := h
    obtain ⟨e1, e2⟩ := zeroT_go w hr
    split at h
    · rename_i x hx
      cases h
      refine ⟨by simp [e1], fun i y u hy hu => ?_⟩
      cases i with
      | succ i => exact e2 i y u (by simpa using hy) (by simpa using hu)
      | zero =>
        simp at hy hu
        subst hy; subst hu
        unfold ofC at hx
        split at hx <;> cases hx
        · exact .int _ _
        · exact .bool _
        · exact .str _
    · rename_i hx
      replace h := ev_true h
      obtain ⟨hp, h⟩ := h
      cases h
      refine ⟨by simp [e1], fun i y u hy hu => ?_⟩
      cases i with
      | succ i => exact e2 i y u (by simpa using hy) (by simpa using hu)
      | zero =>
        simp at hy hu
        subst hy; subst hu
        unfold ofC at hx
        split at hx <;> cases hx
        exact RO.nil (blt_pos hp)
    · cases h

theorem op_makeSlice (h : Inv c s a w val fp) {o : Oper} {t : TypeId} {x y : Operand} (ho : o.op = .makeSlice t x y) (hd : ∀ d, o.dst = some d → d < a.tmps.size)
    {Q : Exit → Act → World → Prop} (hr : runP E (opP P A o) s l K = some r) : o.wp P a w (Post c w K r) Q := by
  unfold opP at hr
  simp only [ho] at hr
  split at hr
  · rename_i d hd'
    rw [run_iteF] at hr
    replace hr := ev_true hr
    obtain ⟨hok, hr⟩ := hr
    obtain ⟨e, i, z, st⟩ := slOk_some hok
    obtain ⟨vx, l1, h1, hx⟩ := getV_sound h hr
    obtain ⟨vy, l2, h2, hy⟩ := getV_sound h h1
    split at h2
    · rename_i kx n ky m zs hz
      rw [run_iteF] at h2
      replace h2 := ev_true h2
      obtain ⟨hb, h2⟩ := h2
      rw [Bool.and_eq_true, Bool.and_eq_true] at hb
      have h0 : 0 ≤ n := of_decide_eq_true hb.1.1
      have hnm : n = m := of_decide_eq_true hb.1.2
      subst hnm
      have hfit := fits_le st.hi (st.elem ▸ hb.2)
      have hex : a.eval x = .int kx n := RB.int_inv hx
      have hey : a.eval y = .int ky n := RB.int_inv hy
      rw [st.elem] at hz
      rw [st.size] at hfit
      have hfit' : n.toNat * i.bytes ≤ 140737488355328 := by
        rw [Nat.mul_right_comm] at hfit
        exact Nat.le_of_mul_le_mul_right hfit st.pos
      have hn47 : n.toNat ≤ 140737488355328 := Nat.le_trans (Nat.le_mul_of_pos_right _ st.bpos) hfit'
      have hz1 : zeroT.go P (cellTys P 8 e) (z.cells.toList.map ofC) = some zs := by
        unfold zeroT at hz
        rw [st.zeroC] at hz
        exact hz
      obtain ⟨z1, z2⟩ := zeroT_go w hz1
      have hzpos : 0 < z.cells.size := by rw [st.hzs]; exact st.pos
      have hmv : MovedCs c w fp [] [] true (repT n.toNat zs) (madeCells z.cells (n.toNat * i.size)).toList (fun _ => []) := by
        have key : ∀ (j : Nat) (y : T) (v : Value), (repT n.toNat zs)[j]? = some y → (madeCells z.cells (n.toNat * i.size)).toList[j]? = some v → RO w y v [] := fun j y v hy hv => by
          have hj : j < n.toNat * i.size := by
            have := (List.getElem?_eq_some_iff.1 hv).1
            simpa [size_madeCells] using this
          rw [madeCells_get _ _ _ hzpos hj] at hv
          unfold repT at hy
          rw [get_rep _ _ _ (by rw [z1]; simpa [st.hzs] using hj)] at hy
          refine z2 _ y v hy ?_
          rw [z1, Array.length_toList, Array.getElem?_toList, Array.getElem?_eq_getElem (Nat.mod_lt _ hzpos)]
          exact hv
        refine ⟨by unfold repT; rw [len_rep, z1]; simp [size_madeCells, st.hzs], fun j y v hy hv => RO.rb (key j y v hy hv) (by simp), fun _ => ⟨key, ND.nil _, by simp⟩⟩
      obtain ⟨hfree, l3, h3⟩ := newO_sound h2
      rw [run_setT, run_done, st.stride] at h3
      obtain ⟨F'', q1, q2, q3⟩ := new_row h (Moved.refl s) st.pos hmv hfree (n := n.toNat) (by simp [size_madeCells]) (by simp only [maxLen]; omega) e
      rw [Array.toArray_toList] at q1 q2 q3
      have hbI : (i.bytes : Int) * n ≤ 281474976710656 := by
        have h4 : ((i.bytes * n.toNat : Nat) : Int) ≤ 281474976710656 := by rw [Nat.mul_comm]; omega
        rw [Int.natCast_mul, Int.toNat_of_nonneg h0] at h4
        exact h4
      have hrun := run_make (P := P) w t e i z st.hu st.hi st.hz kx ky n n h0 (Int.le_refl _) hbI (by omega)
      refine wp_value (v := .slice (some ⟨w.heap.size, 0, none⟩) n.toNat n.toNat) (w' := w.alloc (.cells (madeCells z.cells (n.toNat * i.size)) e)) ?_ ?_
      · simp only [execOp, ho, hex, hey, Sem.run_bind, hrun, Result.andThen_ok, Sem.run_pure]
      · rw [hd']
        exact ⟨_, _, _, _, h3, q1.setT (hd d hd') (VR_c q3), rfl, q2⟩
    · cases h2
  · cases hr

/-- A slice of nothing. -/
theorem new_nil (h : Inv c s a w val fp) {k0 : Key} (hfree : s.getO k0 = .free) {sz : Nat} (hsz : 0 < sz) (A' : Option Addr) :
    ∃ F'', Inv c (s.setO k0 (.arr true true sz [])) a w (upd val k0 (.slice A' 0 0)) (upd fp k0 F'') ∧ CR (mkFr c w (upd val k0 (.slice A' 0 0)) (upd fp k0 F'')) (s.setO k0 (.arr true true sz [])) (.obj k0) (.slice A' 0 0) := by
  obtain ⟨r1, r2, r3⟩ := h.change1 (w' := w) k0 (.arr true true sz []) (.slice A' 0 0) [] (by rw [hfree]; trivial) (by rw [hfree]; rfl) (by simp) (fun _ _ _ => rfl) (Nat.le_refl _) rfl rfl rfl (fun _ => RO.nil hsz)
  refine ⟨[], r1, ?_, rfl⟩
  show Ob.ref _ _
  rw [getO_setO, if_pos rfl]
  show _ = upd val k0 _ k0
  rw [upd_same]

/-! ### stores -/
theorem run_storeAt {t : TypeId} (ht : tyOk P t = true) {g q : Nat} {cur : Array Value} {e : TypeId} (hg : w.heap[g]? = some (.cells cur e (0, 0))) {u : Value} (hsz : u.cells.size = (cellTys P 8 t).length)
    (hq : q + u.cells.size ≤ cur.size) (h1 : ∀ v ∈ u.cells.toList, v.oneCell' = true) :
    (Instr.storeAt t (.pointer (some ⟨g, q, none⟩)) u).run P w = .ok () (w.setRow g (setCells cur.toList q u.cells.toList).toArray) := by
  obtain ⟨i, d, hi, hd, hs, _⟩ := tyOk_size ht
  have hst := run_storeCells_at P g q e u.cells.toList 0 cur w hg (by simpa using hq) h1
  simp only [Nat.add_zero] at hst
  rw [← seg_eq _ _ _ (by simpa using hq)]
  have : u.cells.size = i.size := by omega
  simp [Instr.storeAt, Instr.sureAddr, storeVar, Go.sizeOf, typeInfo, hi, this, hst]

theorem CRs_one {f : Fr} {s : St} {cs : List C} {vs : List Value} (h : CRs f s cs vs) : ∀ v ∈ vs, v.oneCell' = true := fun v hv => by
  obtain ⟨j, hj⟩ := List.mem_iff_getElem?.1 hv
  have hjl := (List.getElem?_eq_some_iff.1 hj).1
  exact CR.one (h.2 j _ v (List.getElem?_eq_getElem (by rw [h.1]; exact hjl)) hj)

theorem post_skip {o : Oper} {Q : Exit → Act → World → Prop} (hd : ∀ d, o.dst = some d → d < a.tmps.size) (hn : o.dst = none) (hrun : (execOp a.eval o).run P w = .ok .skip w')
    {s' : St} {l' : Log} {val' : Key → Value} {fp' : Key → List Nat} (hK : K s' l' = some r) (hi : Inv c s' a w' val' fp') (hp : Kp c.own w w') : o.wp P a w (Post c w K r) Q := by
  refine wp_skipN hrun ?_
  rw [hn]
  exact ⟨_, _, _, _, hK, hi, rfl, hp⟩

theorem op_store (h : Inv c s a w val fp) {o : Oper} {t : TypeId} {x y : Operand} (ho : o.op = .store t x y) (hn : o.dst = none)
    {Q : Exit → Act → World → Prop} (hr : runP E (opP P A o) s l K = some r) : o.wp P a w (Post c w K r) Q := by
  unfold opP at hr
  simp only [ho, hn] at hr
  obtain ⟨vx, l1, h1, hx⟩ := getV_sound h hr
  obtain ⟨vy, l2, h2, hy⟩ := getV_sound h h1
  unfold storeP at h2
  rw [run_iteF] at h2
  replace h2 := ev_true h2
  obtain ⟨ht, h2⟩ := h2
  split at h2
  · rename_i k q
    rw [run_getO] at h2
    split at h2
    · rename_i cells hk
      rw [run_iteF] at h2
      replace h2 := ev_true h2
      obtain ⟨hb, h2⟩ := h2
      rw [Bool.and_eq_true, Bool.and_eq_true] at hb
      have hp := blt_pos hb.1.1
      have hl : vy.cells.length = (cellTys P 8 t).length := Nat.eq_of_beq_eq_true hb.1.2
      have hq := of_decide_eq_true hb.2
      rw [run_setO, run_done] at h2
      have hptr := ptr_alive hx hk (.inl ⟨_, rfl⟩)
      have hob := h.obs k
      rw [hk] at hob
      obtain ⟨b, cur, e, hu, hF, hh, hcs⟩ := hob
      have hh : w.heap[b]? = some (.cells cur e (0, 0)) := hh
      have hpx : a.eval x = .pointer (some ⟨b, 0 + q, none⟩) := by
        have : ptrTo (val k) q (a.eval x) := hptr
        rw [show val k = _ from hu] at this
        exact this
      rw [Nat.zero_add] at hpx
      have hvc := VR_cells hy hp
      have hsz : (a.eval y).cells.size = (cellTys P 8 t).length := by have := hvc.1; simp at this; omega
      have hcl : cells.length = cur.size := by have := hcs.1; simpa using this
      have hrun := run_storeAt (q := q) ht hh hsz (by omega) (CRs_one hvc)
      obtain ⟨r1, r2, r3⟩ := h.change1 (w' := w.setRow b (setCells cur.toList q (a.eval y).cells.toList).toArray) k (.box (setCells cells q vy.cells)) (val k) (fp k) (by rw [hk]; rfl) (by rw [hk]; rfl) (fun b hb => .inl hb)
        (fun b' _ hb => setRow_other w b b' _ (fun e => hb (by rw [hF]; simp [e]))) (by simp) rfl rfl rfl
        (fun g => ⟨b, _, e, hu, hF, setRow_heap w b cur _ e _ hh, CRs_set (hcs.goes g) (hvc.goes g) hq⟩)
      have e1 : upd val k (val k) = val := by funext j; by_cases hj : k = j <;> simp [upd, hj]
      have e2 : upd fp k (fp k) = fp := by funext j; by_cases hj : k = j <;> simp [upd, hj]
      rw [e1, e2] at r1
      exact post_skip (by simp [hn]) hn (by simp [execOp, ho, hpx, hrun]) h2 r1 r3
    · rename_i own deep sz cells hk
      rw [run_iteF] at h2
      replace h2 := ev_true h2
      obtain ⟨hb, h2⟩ := h2
      rw [Bool.and_eq_true, Bool.and_eq_true, Bool.and_eq_true] at hb
      obtain ⟨⟨⟨rfl, hp⟩, hl⟩, hq⟩ := hb
      have hp := blt_pos hp
      have hl : vy.cells.length = (cellTys P 8 t).length := Nat.eq_of_beq_eq_true hl
      have hq := of_decide_eq_true hq
      have hvc := VR_cells hy hp
      obtain ⟨ys, b, s1, l3, M, gs, h3, hm, hmv⟩ := moveCs_sound h (Moved.refl s) hvc h2
      rw [List.append_nil] at hm
      rw [run_getO] at h3
      split at h3
      · rename_i deep' sz' cells' hk1
        rw [run_setO, run_done] at h3
        have hkM : k ∉ M := fun hkm => by rcases (hm.gone k hkm).1 with e | ⟨j, e⟩ <;> rw [hk1] at e <;> cases e
        have hptr := ptr_alive hx hk (.inr ⟨_, _, _, _, rfl⟩)
        have hob := h.obs k
        rw [hk] at hob
        obtain ⟨xs, Fg, fs, ho', hF⟩ := own_iff.1 hob
        have hsz : (a.eval y).cells.size = (cellTys P 8 t).length := by have := hvc.1; simp at this; omega
        have hyl : ys.length = (cellTys P 8 t).length := by rw [hmv.len]; simpa using hsz
        -- the row
        have hrow := ho'.row
        rcases hrow with ⟨hxs, _, _⟩ | ⟨g, len, cap, cur, e, hv, hFg, hg, hxl, hcap, hmax, hcur, htake⟩
        · have := ho'.len
          rw [hxs] at this
          simp at this
          rw [← this] at hq
          omega
        have hg : w.heap[g]? = some (.cells cur e (0, 0)) := hg
        have hpx : a.eval x = .pointer (some ⟨g, q, none⟩) := by
          have h4 : ptrTo (val k) q (a.eval x) := hptr
          rw [hv] at h4
          rw [show a.eval x = .pointer (some ⟨g, 0 + q, none⟩) from h4, Nat.zero_add]
        have hxlen : xs.length = cells.length := ho'.len
        have hle : len * sz ≤ cur.size := by rw [hcur]; exact Nat.mul_le_mul_right _ hcap
        have hrun := run_storeAt (q := q) ht hg hsz (by omega) (CRs_one hvc)
        let us := (a.eval y).cells.toList
        have husl : us.length = ys.length := by show (a.eval y).cells.toList.length = _; rw [hmv.len]
        let hs : Nat → List Nat := fun i => if q ≤ i ∧ i < q + ys.length then gs (i - q) else fs i
        let F'' : List Nat := [g] ++ (if (deep && b) = true then flat cells.length hs else [])
        let w1 := w.setRow g (setCells cur.toList q us).toArray
        have hw1 : ∀ x, x ≠ g → w1.heap[x]? = w.heap[x]? := fun x hx => setRow_other w g x _ hx
        have hgk : g ∈ fp k := by rw [hF, hFg]; simp
        have hgM : ∀ k' x, k' ∈ M → x ∈ fp k' → x ≠ g := fun k' x hk' hx e => h.disj k k' (fun e => hkM (e ▸ hk')) g hgk (e ▸ hx)
        have hfsg : ∀ i x, i < cells.length → x ∈ fs i → x ≠ g ∧ x ∈ fp k := fun i x hi hx => ⟨fun e => ho'.apart g (by rw [hFg]; simp) i hi (e ▸ hx), by rw [hF]; exact List.mem_append_right _ (mem_flat.2 ⟨i, hi, hx⟩)⟩
        -- blocks that stay readable
        have good : ∀ x, (c.I x ∨ c.own x) → x < w.heap.size → x ≠ g → (∀ k', k' ≠ k → k' ∉ M → x ∉ fp k') → (deep && b) = false → inI c w1 (upd (clr fp M) k F'') x ∧ w1.heap[x]? = w.heap[x]? := by
          intro x h1 h2 h3 h4 hdb
          refine ⟨⟨h1, by simpa [w1] using h2, fun k' hk' => ?_⟩, hw1 x h3⟩
          by_cases hkk : k = k'
          · subst hkk
            rw [upd_same] at hk'
            have : F'' = [g] := by show [g] ++ _ = [g]; rw [hdb]; simp
            rw [this] at hk'
            exact h3 (List.mem_singleton.1 hk')
          · rw [upd_ne _ _ hkk] at hk'
            obtain ⟨e1, e2⟩ := mem_clr hk'
            exact h4 k' (fun e => hkk e.symm) e1 e2
        have goodJ : ∀ x, (c.J x ∨ c.own x) → x < w.heap.size → x ≠ g → (∀ k', k' ≠ k → k' ∉ M → x ∉ fp k') → (deep && b) = false → inJ c w1 (upd (clr fp M) k F'') x ∧ w1.heap[x]? = w.heap[x]? := by
          intro x h1 h2 h3 h4 hdb
          refine ⟨⟨h1, by simpa [w1] using h2, fun k' hk' => ?_⟩, hw1 x h3⟩
          by_cases hkk : k = k'
          · subst hkk
            rw [upd_same] at hk'
            have : F'' = [g] := by show [g] ++ _ = [g]; rw [hdb]; simp
            rw [this] at hk'
            exact h3 (List.mem_singleton.1 hk')
          · rw [upd_ne _ _ hkk] at hk'
            obtain ⟨e1, e2⟩ := mem_clr hk'
            exact h4 k' (fun e => hkk e.symm) e1 e2
        have own' : OwnR w1 (inI c w1 (upd (clr fp M) k F'')) (inJ c w1 (upd (clr fp M) k F'')) (deep && b) sz (setCells cells q ys) (val k) (setCells xs q us) [g] (fun i => if (deep && b) = true then hs i else []) := by
          have hqx : q + us.length ≤ xs.length := by rw [husl]; omega
          refine ⟨ho'.pos, .inr ⟨g, len, cap, _, e, hv, rfl, setRow_heap w g cur _ e _ hg, by rw [setCells_len]; exact hxl, hcap, hmax, by simp [setCells_len, hcur], ?_⟩, by rw [setCells_len, setCells_len]; exact hxlen, ?_, fun x hx i hi => ?_, fun i y v hy hv' => ?_⟩
          · apply List.ext_getElem?
            intro i
            have hqc : q + us.length ≤ cur.toList.length := by simp; omega
            rw [setCells_get _ _ _ _ hqx, List.getElem?_take, setCells_get _ _ _ _ hqc, ← htake, List.getElem?_take]
            by_cases h1 : q ≤ i ∧ i < q + us.length
            · rw [if_pos h1, if_pos (by omega), if_pos h1]
            · rw [if_neg h1, if_neg h1]
          · rw [setCells_len]
            cases hdb : (deep && b) with
            | false => simpa using ND.nil _
            | true =>
              simp only [if_true]
              rw [Bool.and_eq_true] at hdb
              obtain ⟨q1, q2, q3⟩ := hmv.ro hdb.2
              have cross : ∀ i j x, i < cells.length → j < ys.length → x ∈ fs i → x ∉ gs j := fun i j x hi hj hx hx' => by
                obtain ⟨k', hk', hxk⟩ := q3 j x hj hx'
                exact h.disj k k' (fun e => hkM (e ▸ hk')) x (hfsg i x hi hx).2 hxk
              refine ⟨fun i hi => ?_, fun i j hi hj hne x hx hx' => ?_⟩
              · show (hs i).Nodup
                simp only [hs]
                split
                · exact q2.1 _ (by omega)
                · exact ho'.nd.1 i hi
              · simp only [hs] at hx hx'
                split at hx
                · split at hx'
                  · exact q2.2 _ _ (by omega) (by omega) (by omega) x hx hx'
                  · exact cross j _ x hj (by omega) hx' hx
                · split at hx'
                  · exact cross i _ x hi (by omega) hx hx'
                  · exact ho'.nd.2 i j hi hj hne x hx hx'
          · rw [setCells_len] at hi
            rw [List.mem_singleton.1 hx]
            cases hdb : (deep && b) with
            | false => simp
            | true =>
              simp only [if_true]
              rw [Bool.and_eq_true] at hdb
              obtain ⟨q1, q2, q3⟩ := hmv.ro hdb.2
              intro hxh
              simp only [hs] at hxh
              split at hxh
              · obtain ⟨k', hk', hxk⟩ := q3 _ g (by omega) hxh
                exact hgM k' g hk' hxk rfl
              · exact (hfsg i g hi hxh).1 rfl
          · have hqx' : q + ys.length ≤ cells.length := by omega
            rw [setCells_get _ _ _ _ hqx'] at hy
            rw [setCells_get _ _ _ _ hqx, husl] at hv'
            cases hdb : (deep && b) with
            | true =>
              simp only [El, if_true]
              rw [Bool.and_eq_true] at hdb
              obtain ⟨q1, q2, q3⟩ := hmv.ro hdb.2
              split at hy
              · rename_i hin
                rw [if_pos hin] at hv'
                simp only [hs, if_pos hin]
                refine RO.move (q1 _ y v hy hv') fun x hx => ?_
                obtain ⟨k', hk', hxk⟩ := q3 _ x (by omega) hx
                exact hw1 x (hgM k' x hk' hxk)
              · rename_i hin
                rw [if_neg hin] at hv'
                simp only [hs, if_neg hin]
                have hel := ho'.el i y v hy hv'
                rw [El, if_pos hdb.1] at hel
                exact RO.move hel fun x hx => hw1 x (hfsg i x (List.getElem?_eq_some_iff.1 hy).1 hx).1
            | false =>
              simp only [El, Bool.false_eq_true, if_false, and_true]
              split at hy
              · rename_i hin
                rw [if_pos hin] at hv'
                have hrb := hmv.rb _ y v hy hv'
                have key : ∀ x, (∀ k', x ∉ clr fp (M ++ []) k') → x ≠ g ∧ ∀ k', k' ≠ k → k' ∉ M → x ∉ fp k' := fun x hx =>
                  ⟨fun e => hx k (by simp [clr, hkM, e, hgk]), fun k' _ hk' hxk => hx k' (by simp [clr, hk', hxk])⟩
                exact RB.move hrb (fun x hx => good x hx.1 hx.2.1 (key x hx.2.2).1 (key x hx.2.2).2 hdb) (fun x hx => goodJ x hx.1 hx.2.1 (key x hx.2.2).1 (key x hx.2.2).2 hdb)
              · rename_i hin
                rw [if_neg hin] at hv'
                have hel := ho'.el i y v hy hv'
                have hi := (List.getElem?_eq_some_iff.1 hy).1
                rw [El] at hel
                split at hel
                · refine RO.rb (I := inI c w1 (upd (clr fp M) k F'')) (RO.move hel fun x hx => hw1 x (hfsg i x hi hx).1) fun x hx => ?_
                  obtain ⟨h5, h6⟩ := hfsg i x hi hx
                  exact (good x (.inr (h.mine k x h6)) (h.lt h6) h5 (fun k' hk' _ => h.disj k k' (fun e => hk' e.symm) x h6) hdb).1
                · have key : ∀ x, (∀ k', x ∉ fp k') → x ≠ g := fun x hx e => hx k (e ▸ hgk)
                  exact RB.move hel.1 (fun x hx => good x hx.1 hx.2.1 (key x hx.2.2) (fun k' _ _ => hx.2.2 k') hdb) (fun x hx => goodJ x hx.1 hx.2.1 (key x hx.2.2) (fun k' _ _ => hx.2.2 k') hdb)
        have hF'' : F'' = [g] ++ flat (setCells cells q ys).length (fun i => if (deep && b) = true then hs i else []) := by
          show [g] ++ _ = _
          congr 1
          rw [setCells_len]
          cases hdb : (deep && b) with
          | true => simp
          | false => simp [flat]
        obtain ⟨r1, r2, r3⟩ := h.finish (w' := w1) hm hkM (o' := .arr true (deep && b) sz (setCells cells q ys)) (u' := val k) (F' := F'') (by rw [hk]; rfl) (by rw [hk]; rfl) (fun x hx => by
            left
            rcases List.mem_append.1 hx with hx | hx
            · rw [List.mem_singleton.1 hx]; exact ⟨k, .inr rfl, hgk⟩
            · split at hx
              · rename_i hdb
                rw [Bool.and_eq_true] at hdb
                obtain ⟨q1, q2, q3⟩ := hmv.ro hdb.2
                obtain ⟨i, hi, hx⟩ := mem_flat.1 hx
                simp only [hs] at hx
                split at hx
                · obtain ⟨k', hk', hxk⟩ := q3 _ x (by omega) hx
                  exact ⟨k', .inl hk', hxk⟩
                · exact ⟨k, .inr rfl, (hfsg i x hi hx).2⟩
              · simp at hx)
          (fun x _ hn => hw1 x fun e => hn k (.inr rfl) (e ▸ hgk)) (by simp [w1]) rfl rfl rfl (fun _ => own_iff.2 ⟨_, _, _, own', hF''⟩)
        exact post_skip (by simp [hn]) hn (by simp [execOp, ho, hpx, hrun, w1, us]) h3 r1 r3
      · cases h3
    · cases h2
  · cases h2
end
end Ev
