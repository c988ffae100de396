/- Ev: more operations: bytes as text, copies, parts of what is lent. -/
import Derived.Test.YtmcfccgmhinpdaaGreatDoorEvWin
import Derived.Laws.BytesString
import Derived.Laws.IdiomCopy
namespace Ev
open Go

section
variable {P : Program} {A : Attrs} {E : Env} {c : Ctx} {s s1 s2 : St} {a : Act} {w : World} {val : Key → Value} {fp : Key → List Nat}
variable {l : Log} {K : St → Log → R} {r : T × List T}

theorem snap_self (h : Inv c s a w val fp) : Snap c s s a w val fp [] := ⟨h, fun k _ => ⟨rfl, fun _ _ => by simp⟩, by simp, by simp⟩

theorem u8s_get : ∀ {cs : List T} {ns : List Int}, u8s cs = some ns → cs.length = ns.length ∧ ∀ (i : Nat) (x : T), cs[i]? = some x → ∃ n, ns[i]? = some n ∧ x = T.int .u8 n
  | [], ns, h => by simp [u8s] at h; subst h; simp
  | x :: cs, ns, h => by
    unfold u8s at h
    split at h
    · rename_i e; cases e
    · rename_i n r' e
      cases e
      rw [Option.map_eq_some_iff] at h
      obtain ⟨ms, h1, rfl⟩ := h
      obtain ⟨g1, g2⟩ := u8s_get h1
      refine ⟨by simp [g1], fun i y hy => ?_⟩
      cases i with
      | zero => simp at hy; subst hy; exact ⟨n, rfl, rfl⟩
      | succ i => exact g2 i y (by simpa using hy)
    · cases h

theorem op_convert (h : Inv c s a w val fp) {o : Oper} {t t' : TypeId} {x : Operand} (ho : o.op = .convert t t' x) (hd : ∀ d, o.dst = some d → d < a.tmps.size)
    {Q : Exit → Act → World → Prop} (hr : runP E (opP P A o) s l K = some r) : o.wp P a w (Post c w K r) Q := by
  unfold opP at hr
  simp only [ho] at hr
  split at hr
  · rename_i d hd'
    obtain ⟨v, l1, h1, hv⟩ := getV_sound h hr
    cases hc : isBytesT P t && isStrT P t' with
    | false => rw [hc, cond_false] at h1; exact convP_sound h ho hd hd' hv h1
    | true =>
      rw [hc, cond_true] at h1
      rw [Bool.and_eq_true] at hc
      obtain ⟨hb, hs⟩ := hc
      have hut' : P.underlying t' = some .string := by
        unfold isStrT at hs
        split at hs
        · assumption
        · cases hs
      have hsl : ∃ e, P.underlying t = some (.slice e) ∧ P.underlying e = some (.int .u8) := by
        unfold isBytesT at hb
        split at hb
        · rename_i e hu
          rw [Bool.and_eq_true] at hb
          have := hb.1
          unfold isU8T at this
          split at this
          · exact ⟨e, hu, by assumption⟩
          · cases this
        · cases hb
      obtain ⟨e, hu, hel⟩ := hsl
      unfold convB at h1
      split at h1
      · rename_i cc
        obtain ⟨y, b, l2, h2, hy⟩ := snapC0_sound (snap_self h) hv h1
        rw [run_asSl] at h2
        split at h2
        · rename_i sz cs
          replace h2 := ev_true h2
          obtain ⟨hsz, h2⟩ := h2
          have hsz : sz = 1 := Nat.eq_of_beq_eq_true hsz
          subst hsz
          rw [run_onSome] at h2
          split at h2
          · rename_i z hz
            unfold bytesOf at hz
            rw [Option.map_eq_some_iff] at hz
            obtain ⟨ns, hns, rfl⟩ := hz
            rw [run_asStr] at h2
            simp only at h2
            rw [run_setT, run_done] at h2
            obtain ⟨g1, g2⟩ := u8s_get hns
            obtain ⟨Ad, len, cap, e1, e2, e3, e4, vs, hcc, hcells⟩ := RB.sl_inv hy
            rw [Nat.mul_one] at e3
            refine wp_value (v := .string (ns.foldl (fun r n => r.push (UInt8.ofNat n.toNat)) ByteArray.empty)) (w' := w) ?_ ?_
            · have hrun := run_convert_bytes_string (P := P) w t t' e Ad len cap hu hel hut'
              have hex : (Conv.bytesToString (.slice Ad len cap)).run P w = .ok (.string (ns.foldl (fun r n => r.push (UInt8.ofNat n.toNat)) ByteArray.empty)) w := by
                cases Ad with
                | none =>
                  have hnil : cs = [] := by
                    by_cases hne : cs = []
                    · exact hne
                    · obtain ⟨b', o', e5, _⟩ := hcells hne; cases e5
                  subst hnil
                  have : ns = [] := List.eq_nil_of_length_eq_zero (by simpa using g1.symm)
                  subst this
                  simp [Conv.bytesToString, Sem.run_pure]
                | some ad =>
                  refine run_bytesToString w ad len cap ns ?_
                  have := run_loadCells_list (P := P) w ad (ns.map (Value.int .u8)) (fun j v hj => by
                    rw [List.getElem?_map, Option.map_eq_some_iff] at hj
                    obtain ⟨n, hn, rfl⟩ := hj
                    have hj' : j < cs.length := by rw [g1]; exact (List.getElem?_eq_some_iff.1 hn).1
                    obtain ⟨b', o', e5, _, hcell⟩ := hcells (fun e => by rw [e] at hj'; simp at hj')
                    cases e5
                    obtain ⟨n', hn', hx'⟩ := g2 j _ (List.getElem?_eq_getElem hj')
                    rw [hn] at hn'
                    cases hn'
                    have h3 := hcc j _ (List.getElem?_eq_getElem hj')
                    rw [hx'] at h3
                    rw [add_at, hcell j hj', RB.int_inv h3])
                  rw [List.length_map, ← g1, e3] at this
                  exact this
              simp [execOp, ho, e1, hrun, hex]
            · rw [hd']; exact post_value (o := o) h (hd d hd') (VR_t (RB.str _)) h2
          · cases h2
        · cases h2
      · cases h1
  · cases hr

theorem setCells_zero {α : Type} (l xs : List α) (h : xs.length ≤ l.length) : setCells l 0 xs = xs ++ l.drop xs.length := by
  rw [← seg_eq l xs 0 (by omega)]; simp

theorem op_copy (h : Inv c s a w val fp) {o : Oper} {cl : Call} (ho : o.op = .call cl) (hcl : cl.callee = .builtin .copy) (hd : ∀ d, o.dst = some d → d < a.tmps.size)
    {Q : Exit → Act → World → Prop} (hr : runP E (opP P A o) s l K = some r) : o.wp P a w (Post c w K r) Q := by
  unfold opP at hr
  simp only [ho, hcl] at hr
  split at hr
  · rename_i x y t t' hargs htys
    have hargs : cl.args = #[x, y] := by rw [← Array.toArray_toList (xs := cl.args), hargs]
    have htys : cl.argTypes = #[t, t'] := by rw [← Array.toArray_toList (xs := cl.argTypes), htys]
    obtain ⟨v, l1, h1, hv⟩ := getV_sound h hr
    obtain ⟨sv, l2, h2, hsv⟩ := getV_sound h h1
    unfold copyP at h2
    rw [run_iteF] at h2
    replace h2 := ev_true h2
    obtain ⟨hok, h2⟩ := h2
    simp only [Bool.and_eq_true] at hok
    obtain ⟨⟨⟨hok1, hok2⟩, hok3⟩, hok4⟩ := hok
    obtain ⟨e, i, z, st⟩ := slOk_some hok1
    have hs1 : i.size = 1 := by have := Nat.eq_of_beq_eq_true hok3; rw [st.stride] at this; exact this
    split at h2
    · rename_i k cc
      obtain ⟨ty, b, l3, h3, hy⟩ := snapC0_sound (snap_self h) hsv h2
      rw [run_asSl] at h3
      split at h3
      · rename_i sz ys
        replace h3 := ev_true h3
        obtain ⟨hsz, h3⟩ := h3
        have hsz : sz = 1 := Nat.eq_of_beq_eq_true hsz
        subst hsz
        rw [run_getO] at h3
        split at h3
        · rename_i deep sz2 cs hk
          rw [run_iteF] at h3
          replace h3 := ev_true h3
          obtain ⟨hb, h3⟩ := h3
          rw [Bool.and_eq_true] at hb
          have hsz2 : sz2 = 1 := Nat.eq_of_beq_eq_true hb.1
          subst hsz2
          rw [run_setO] at h3
          obtain ⟨d, l4, hd', h4⟩ := setD_sound h3
          have hux : a.eval x = val k := obj_alive hv hk
          have hob := h.obs k
          rw [hk] at hob
          obtain ⟨xs, Fg, fs, hw, hF⟩ := own_iff.1 hob
          obtain ⟨Ad, len, cap, e1, e2, e3, e4, vs, hcc, hcells⟩ := RB.sl_inv hy
          rw [Nat.mul_one] at e3
          -- what is written
          let news := (List.range (ys.take cs.length).length).map vs
          have hnl : news.length = (ys.take cs.length).length := by simp [news]
          have hnle : news.length ≤ cs.length := by rw [hnl, List.length_take]; omega
          have hel : ∀ (j : Nat) (y : T) (u : Value), (ys.take cs.length)[j]? = some y → news[j]? = some u → RO w y u [] := fun j y u hy' hu => by
            rw [List.getElem?_take] at hy'
            split at hy'
            · have hj : j < (ys.take cs.length).length := by rw [← hnl]; exact (List.getElem?_eq_some_iff.1 hu).1
              have : news[j]? = some (vs j) := by simp only [news]; rw [List.getElem?_map, List.getElem?_range hj, Option.map_some]
              rw [this] at hu
              cases hu
              exact scalar_ro (hcc j y hy') (List.all_eq_true.1 hb.2 y (List.mem_of_getElem? hy'))
            · cases hy'
          have hone : ∀ u ∈ news, u.oneCell' = true := fun u hu => by
            obtain ⟨j, hj⟩ := List.mem_iff_getElem?.1 hu
            have hjl : j < (ys.take cs.length).length := by rw [← hnl]; exact (List.getElem?_eq_some_iff.1 hj).1
            exact (hel j _ u (List.getElem?_eq_getElem hjl) hj).one
          have hlen2 : ∀ {A2 : Option Addr} {l2 c2 : Nat}, val k = .slice A2 l2 c2 → l2 = cs.length := fun {A2 l2 c2} hval => by
            obtain ⟨A3, l3, c3, q1, q2, _⟩ := hw.row.slice
            rw [hval] at q1
            cases q1
            rw [Nat.mul_one, hw.len] at q2
            exact q2.symm
          have hrun : ∃ w', (Builtin.copy_ #[t, t'] o.type #[a.eval x, a.eval y]).run P w = .ok (goInt news.length) w' ∧ RowAt w' 1 (val k) (news ++ xs.drop news.length) Fg ∧ (∀ b, b ∉ Fg → w'.heap[b]? = w.heap[b]?) ∧ w.heap.size ≤ w'.heap.size ∧ w'.os = w.os ∧ w'.tape = w.tape ∧ w'.output = w.output := by
            have hinfo : (P.info? e).map (·.size) = some 1 := by rw [st.hi]; simp [hs1]
            rw [hux]
            rcases hw.row with ⟨hxs, hFg, ad, hval⟩ | ⟨g, len2, cap2, cur, e', hval, hFg, hg, hxl, hc2, hmax, hcur, htk⟩
            · have hcs : cs.length = 0 := by rw [← hw.len, hxs]; rfl
              have hn0 : news.length = 0 := by omega
              have hn0' : news = [] := List.eq_nil_of_length_eq_zero hn0
              refine ⟨w, ?_, ?_, fun _ _ => rfl, Nat.le_refl _, rfl, rfl, rfl⟩
              · rw [hn0, hval]
                have hvy : a.eval y = .slice Ad len cap := e1
                rw [hvy]
                exact run_copy_none w t t' o.type e _ _ 0 0 len cap st.hu hinfo (by simp)
              · rw [hn0', hval]
                exact .inl ⟨by simpa using hxs, hFg, ad, rfl⟩
            · have hl2 : len2 = cs.length := hlen2 hval
              rw [Nat.mul_one] at hxl hcur htk
              have hvy : a.eval y = .slice Ad len cap := e1
              have hmin : news.length = Nat.min len len2 := by
                rw [hnl, List.length_take, hl2, e3]
                exact Nat.min_comm _ _
              by_cases hn0 : news.length = 0
              · have hn0' : news = [] := List.eq_nil_of_length_eq_zero hn0
                refine ⟨w, ?_, ?_, fun _ _ => rfl, Nat.le_refl _, rfl, rfl, rfl⟩
                · rw [hn0, hval, hvy]
                  exact run_copy_none w t t' o.type e _ _ len2 cap2 len cap st.hu hinfo (by omega)
                · rw [hn0']
                  simp only [List.length_nil, List.drop_zero, List.nil_append]
                  exact hw.row
              · obtain ⟨b', q', rfl, _, hcell⟩ := hcells (fun e => by
                  have : news.length ≤ ys.length := by rw [hnl, List.length_take]; omega
                  rw [e] at this; simp at this; exact hn0 (by simp [this]))
                have hfit : 0 + news.length ≤ cur.size := by rw [hcur]; omega
                have hr := run_copy_row (P := P) w t t' o.type e g 0 len2 cap2 ⟨b', q', none⟩ len cap cur e' news st.hu hinfo hg hmin (fun j u hu => by
                  have hj : j < (ys.take cs.length).length := by rw [← hnl]; exact (List.getElem?_eq_some_iff.1 hu).1
                  have hj' : j < ys.length := by rw [List.length_take] at hj; omega
                  have : news[j]? = some (vs j) := by simp only [news]; rw [List.getElem?_map, List.getElem?_range hj, Option.map_some]
                  rw [this] at hu
                  cases hu
                  rw [add_at]; exact hcell j hj') hfit hone
                refine ⟨_, by rw [hval, hvy]; exact hr, .inr ⟨g, len2, cap2, _, e', hval, hFg, setRow_heap w g cur _ e' _ hg, ?_, hc2, hmax, ?_, ?_⟩, fun b hb => setRow_other w g b _ (fun e => hb (by rw [hFg, e]; simp)), by simp, rfl, rfl, rfl⟩
                · rw [List.length_append, List.length_drop, Nat.mul_one, hxl]; have := hw.len; omega
                · simp only [List.take_zero, List.nil_append, Nat.zero_add, List.size_toArray, List.length_append, List.length_drop, Array.length_toList, Nat.mul_one]; omega
                · simp only [List.take_zero, List.nil_append, Nat.zero_add, Nat.mul_one]
                  rw [← htk, List.take_append, List.take_of_length_le (by have := hw.len; omega), List.drop_take]
          obtain ⟨w', r1, r2, r3, r4, r5, r6, r7⟩ := hrun
          have hxn : ∀ j, news.length ≤ j → (news ++ xs.drop news.length)[j]? = xs[j]? := fun j hj => by
            rw [List.getElem?_append_right hj, List.getElem?_drop]; congr 1; omega
          have hcn : ∀ j, news.length ≤ j → (setCells cs 0 (ys.take cs.length))[j]? = cs[j]? := fun j hj => by
            rw [setCells_get _ _ _ _ (by rw [← hnl]; omega), if_neg (by rw [← hnl]; omega)]
          have hcl2 : (setCells cs 0 (ys.take cs.length)).length = cs.length := setCells_len _ _ _
          let fs' : Nat → List Nat := fun j => if j < news.length then [] else fs j
          have fs_sub : ∀ j b, b ∈ fs' j → b ∈ fs j := fun j b hb => by
            simp only [fs'] at hb
            split at hb
            · simp at hb
            · exact hb
          have hfg : ∀ b, b ∈ Fg → b ∈ fp k := fun b hb => by rw [hF]; exact List.mem_append_left _ hb
          obtain ⟨q1, q2, q3⟩ := h.change1 (w' := w') k (.arr true deep 1 (setCells cs 0 (ys.take cs.length))) (val k) (Fg ++ flat cs.length fs') (by rw [hk]; rfl) (by rw [hk]; rfl)
            (fun b hb => .inl (by
              rw [hF]
              rcases List.mem_append.1 hb with hb | hb
              · exact List.mem_append_left _ hb
              · obtain ⟨j, hj, hb⟩ := mem_flat.1 hb
                exact List.mem_append_right _ (mem_flat.2 ⟨j, hj, fs_sub j b hb⟩)))
            (fun b _ hb => r3 b fun hbg => hb (hfg b hbg)) r4 r5 r6 r7 (fun g => by
              have hnd' : ND cs.length fs' := ⟨fun j hj => by
                simp only [fs']
                split
                · exact List.nodup_nil
                · exact hw.nd.1 j hj, fun j j' hj hj' hne b hb hb' => hw.nd.2 j j' hj hj' hne b (fs_sub j b hb) (fs_sub j' b hb')⟩
              refine own_iff.2 ⟨news ++ xs.drop news.length, Fg, fs', ⟨hw.pos, r2, ?_, by rw [hcl2]; exact hnd', fun b hb j hj hbj => hw.apart b hb j (by rwa [hcl2] at hj) (fs_sub j b hbj), fun j y u hy hu => ?_⟩, by rw [hcl2]⟩
              · rw [hcl2, List.length_append, List.length_drop]; have := hw.len; omega
              · by_cases hj : j < news.length
                · rw [List.getElem?_append_left hj] at hu
                  rw [setCells_get _ _ _ _ (by rw [← hnl]; omega), if_pos (by rw [← hnl]; omega), Nat.sub_zero] at hy
                  have hro := hel j y u hy hu
                  simp only [fs', if_pos hj]
                  have hro' : RO w' y u [] := RO.move hro (by simp)
                  unfold El
                  split
                  · exact hro'
                  · exact ⟨hro'.rb (by simp), rfl⟩
                · rw [hxn j (by omega)] at hu
                  rw [hcn j (by omega)] at hy
                  have h5 := hw.el j y u hy hu
                  have hjl := (List.getElem?_eq_some_iff.1 hy).1
                  simp only [fs', if_neg hj]
                  unfold El at *
                  split
                  · rename_i hdp
                    rw [if_pos hdp] at h5
                    exact RO.move h5 fun b hb => r3 b fun hbg => hw.apart b hbg j hjl hb
                  · rename_i hdp
                    rw [if_neg hdp] at h5
                    exact ⟨RB.move h5.1 g.hI g.hJ, h5.2⟩)
          refine wp_value (v := goInt news.length) (w' := w') ?_ ?_
          · simp [execOp, ho, resolve, hcl, hargs, htys, invoke, builtin, r1]
          · rw [hd']
            refine ⟨_, _, _, _, h4, q1.setT (hd d hd') (VR_t ?_), rfl, q3⟩
            rw [hnl]
            exact RB.int _ _
        · cases h3
      · cases h3
    · cases h2
  · cases hr

theorem op_max (h : Inv c s a w val fp) {o : Oper} {cl : Call} (ho : o.op = .call cl) (hcl : cl.callee = .builtin .max) (hd : ∀ d, o.dst = some d → d < a.tmps.size)
    {Q : Exit → Act → World → Prop} (hr : runP E (opP P A o) s l K = some r) : o.wp P a w (Post c w K r) Q := by
  unfold opP at hr
  simp only [ho, hcl] at hr
  split at hr
  · rename_i x y hx
    have hargs : cl.args = #[x, y] := by rw [← Array.toArray_toList (xs := cl.args), hx]
    obtain ⟨v, l1, h1, hv⟩ := getV_sound h hr
    obtain ⟨u, l2, h2, hu⟩ := getV_sound h h1
    split at h2
    · rename_i k m k' n
      have hv := RB.int_inv hv
      have hu := RB.int_inv hu
      rw [run_iteF] at h2
      replace h2 := ev_true h2
      obtain ⟨hk, h2⟩ := h2
      obtain ⟨d, l3, hd', h3⟩ := setD_sound h2
      refine wp_value (v := .int k (max m n)) (w' := w) ?_ ?_
      · have : (if n > m then n else m) = max m n := by omega
        simp [execOp, ho, resolve, hcl, hargs, invoke, builtin, Builtin.max_, Builtin.max2, hv, hu, this]
      · rw [hd']; exact post_value (o := o) h (hd d hd') (VR_t (RB.int _ _)) h3
    · cases h2
  · cases hr

theorem sliceL_sound (h : Inv c s a w val fp) {o : Oper} {t : TypeId} {x : Operand} {lo hi : Option Operand} (ho : o.op = .slice t x lo hi none) (hd : ∀ d, o.dst = some d → d < a.tmps.size) {d : Nat} (hd' : o.dst = some d) {e : TypeId} (hu : P.underlying t = some (.slice e)) {cells : List T}
    (hv : RB w (fun b => inI c w fp b ∨ Lent (mkFr c w val fp) s b) (fun b => inJ c w fp b ∨ Lent (mkFr c w val fp) s b) (.sl (sizeT P e) cells) (a.eval x))
    {Q : Exit → Act → World → Prop} (h1 : runP E (sliceL P d e cells lo hi) s l K = some r) : o.wp P a w (Post c w K r) Q := by
  unfold sliceL at h1
  rw [run_iteF] at h1
  replace h1 := ev_true h1
  obtain ⟨he, h1⟩ := h1
  obtain ⟨ie, hie⟩ := Option.isSome_iff_exists.1 he
  have hs : sizeT P e = ie.size := by simp [sizeT, hie]
  obtain ⟨A', len, cap, e0, e1, e2, e3, _⟩ := RB.sl_inv hv
  have hdiv : cells.length / sizeT P e = len := by rw [e2]; exact Nat.mul_div_cancel _ e1
  rw [hdiv] at h1
  obtain ⟨m, l2, h2, hm⟩ := boundV_sound h h1
  obtain ⟨n, l3, h3, hn⟩ := boundV_sound h h2
  rw [run_iteF] at h3
  replace h3 := ev_true h3
  obtain ⟨hb, h3⟩ := h3
  simp only [Bool.and_eq_true, decide_eq_true_eq] at hb
  rw [run_setT, run_done] at h3
  rw [e0] at hv
  refine wp_value (v := .slice (if cap = m.toNat then A' else A'.map (·.add (m.toNat * sizeT P e))) (n.toNat - m.toNat) (cap - m.toNat)) (w' := w) ?_ ?_
  · have := run_bounds (P := P) (w := w) (isSlice := true) hm hn hb.1.1 hb.1.2 hb.2 e3
    simp [execOp, ho, Instr.sliceAt, run_underlying hu, Instr.slice, e0, this, Go.sizeOf, typeInfo, hie, hs]
  · rw [hd']
    have hcr : CR (mkFr c w val fp) s (.view (.sl (sizeT P e) ((cells.take (n.toNat * sizeT P e)).drop (m.toNat * sizeT P e)))) (.slice (if cap = m.toNat then A' else A'.map (·.add (m.toNat * sizeT P e))) (n.toNat - m.toNat) (cap - m.toNat)) :=
      RB_cut hv (by omega) (by omega)
    exact post_value (o := o) h (hd d hd') (VR_c hcr) h3

theorem op_slice (h : Inv c s a w val fp) {o : Oper} {t : TypeId} {x : Operand} {lo hi : Option Operand} (ho : o.op = .slice t x lo hi none) (hd : ∀ d, o.dst = some d → d < a.tmps.size)
    {Q : Exit → Act → World → Prop} (hr : runP E (opP P A o) s l K = some r) : o.wp P a w (Post c w K r) Q := by
  unfold opP at hr
  simp only [ho] at hr
  split at hr
  · rename_i d hd'
    obtain ⟨v, l1, h1, hv⟩ := getV_sound h hr
    split at h1
    · rename_i y e hu
      rw [run_asSl] at h1
      split at h1
      · rename_i sz cs
        replace h1 := ev_true h1
        obtain ⟨hsz, h1⟩ := h1
        have hsz : sz = sizeT P e := Nat.eq_of_beq_eq_true hsz
        subst hsz
        exact sliceL_sound h ho hd hd' hu hv h1
      · cases h1
    · rename_i k e hu
      rw [run_getO] at h1
      split at h1
      · rename_i deep sz cs hk
        rw [run_iteF] at h1
        replace h1 := ev_true h1
        obtain ⟨hsz, h1⟩ := h1
        have hsz : sz = sizeT P e := Nat.eq_of_beq_eq_true hsz
        subst hsz
        have hob := h.obs k
        rw [hk] at hob
        have hl : ∀ b, b ∈ fp k → Lent (mkFr c w val fp) s b := fun b hb => ⟨k, by rw [hk]; rfl, hb⟩
        refine sliceL_sound h ho hd hd' hu ?_ h1
        rw [ref_live hv (by rw [hk]; rfl)]
        cases deep with
        | true => exact RO.rb hob fun b hb => .inr (hl b hb)
        | false => exact ShR.rb hob (fun b hb => .inr (hl b hb)) (fun b hb => .inl hb) (fun b hb => .inl hb)
      · exact sliceP_sound h ho hd hd' hv h1
    · exact sliceP_sound h ho hd hd' hv h1
  · cases hr
end
end Ev
