/- Ev: operations. Part C: fields, indexes, conversions, lengths, cuts. -/
import Derived.Test.YtmcfccgmhinpdaaGreatDoorEvOpsB
namespace Ev
open Go

section
variable {P : Program} {A : Attrs} {E : Env} {c : Ctx} {s : St} {a : Act} {w : World} {val : Key → Value} {fp : Key → List Nat}
variable {l : Log} {K : St → Log → R} {r : T × List T}

theorem op_field (h : Inv c s a w val fp) {o : Oper} {t : TypeId} {x : Operand} {f : Nat} (ho : o.op = .field t x f) (hd : ∀ d, o.dst = some d → d < a.tmps.size)
    {Q : Exit → Act → World → Prop} (hr : runP E (opP P A o) s l K = some r) : o.wp P a w (Post c w K r) Q := by
  unfold opP at hr
  simp only [ho] at hr
  obtain ⟨v, l1, h1, hv⟩ := getV_sound h hr
  split at h1
  · rename_i cs fs hfs
    split at h1
    · rename_i g hg
      rw [run_iteF] at h1
      replace h1 := ev_true h1
      obtain ⟨hb, h1⟩ := h1
      rw [Bool.and_eq_true] at hb
      obtain ⟨ht, hle⟩ := hb
      have hle := of_decide_eq_true hle
      obtain ⟨vs, hu, hcs⟩ := hv
      obtain ⟨i, d', hi, hd2, hs, h11⟩ := tyOk_size ht
      obtain ⟨d, l2, hd', h2⟩ := setD_sound h1
      have hget : ∀ j, j < (cellTys P 8 g.type).length → vs[g.offset + j]? = some (vs.getD (g.offset + j) undef) := fun j hj => by
        have : g.offset + j < vs.size := by have := hcs.1; simp at this; omega
        simp [this]
      refine wp_value (v := readV P g.type (fun j => vs.getD (g.offset + j) undef)) (w' := w) ?_ ?_
      · have hsz : (Go.sizeOf g.type).run P w = .ok (cellTys P 8 g.type).length w := by simp [Go.sizeOf, typeInfo, hi, hs]
        simp only [execOp, ho, Instr.field, Sem.run_bind, run_underlying hfs, Result.andThen_ok, hg, hu, asAgg, Sem.run_pure, part, run_isAgg hd2]
        unfold readV
        cases hagg : isAggT P g.type with
        | true =>
          simp only [if_true, Sem.run_bind, hsz, Result.andThen_ok, Sem.run_pure]
          congr 3
          apply Array.ext'
          apply List.ext_getElem?
          intro j
          simp only [Array.toList_extract, List.getElem?_map, List.extract_eq_take_drop]
          rw [List.getElem?_take]
          split
          · rename_i hj
            have hj' : j < (cellTys P 8 g.type).length := by omega
            rw [List.getElem?_drop]
            rw [List.getElem?_range hj', Option.map_some, Array.getElem?_toList]
            exact hget j hj'
          · rename_i hj
            have hj' : ¬ j < (cellTys P 8 g.type).length := by omega
            simp [hj']
        | false =>
          have h0 := hget 0 (by rw [h11 hagg]; omega)
          rw [Nat.add_zero] at h0
          simp only [Bool.false_eq_true, if_false, h0, Sem.run_pure, Result.andThen_ok, Nat.add_zero]
      · rw [hd']
        refine post_value (o := o) h (hd d hd') (VR_mkV ht (by simp; omega) fun j y hy => ?_) h2
        rw [List.getElem?_take] at hy
        split at hy
        · rename_i hj
          rw [List.getElem?_drop] at hy
          exact hcs.2 _ _ _ hy (by simpa using hget j hj)
        · cases hy
    · cases h1
  · cases h1

theorem convP_sound (h : Inv c s a w val fp) {o : Oper} {t t' : TypeId} {x : Operand} (ho : o.op = .convert t t' x) (hd : ∀ d, o.dst = some d → d < a.tmps.size) {d : Nat} (hd' : o.dst = some d) {v : V} (hv : VR (mkFr c w val fp) s v (a.eval x))
    {Q : Exit → Act → World → Prop} (h1 : runP E (convP P d t t' v) s l K = some r) : o.wp P a w (Post c w K r) Q := by
  · unfold convP at h1
    split at h1
    · rename_i k0 k k1 n e1 e2
      have hv := RB.int_inv hv
      rw [run_setT, run_done] at h1
      refine wp_value (v := .int k (k.wrap n)) (w' := w) ?_ ?_
      · simp [execOp, ho, convert, run_underlying e1, run_underlying e2, hv, Conv.intToInt]
      · rw [hd']; exact post_value (o := o) h (hd d hd') (VR_t (RB.int _ _)) h1
    · cases h1

theorem op_index (h : Inv c s a w val fp) {o : Oper} {t : TypeId} {x i : Operand} (ho : o.op = .index t x i) (hd : ∀ d, o.dst = some d → d < a.tmps.size)
    {Q : Exit → Act → World → Prop} (hr : runP E (opP P A o) s l K = some r) : o.wp P a w (Post c w K r) Q := by
  unfold opP at hr
  simp only [ho] at hr
  obtain ⟨v, l1, h1, hv⟩ := getV_sound h hr
  obtain ⟨u, l2, h2, hu⟩ := getV_sound h h1
  split at h2
  · rename_i sb k n e1
    have hv := RB.str_inv hv
    have hu := RB.int_inv hu
    rw [run_iteF] at h2
    replace h2 := ev_true h2
    obtain ⟨hb, h2⟩ := h2
    unfold inB at hb
    rw [Bool.and_eq_true] at hb
    have hb1 := of_decide_eq_true hb.1
    have hb2 := of_decide_eq_true hb.2
    have hlt : n.toNat < sb.size := by omega
    obtain ⟨d, l3, hd', h3⟩ := setD_sound h2
    refine wp_value (v := .int .u8 ((sb.data.getD n.toNat 0).toNat : Int)) (w' := w) ?_ ?_
    · have hg : sb[n.toNat]? = some (sb.data.getD n.toNat 0) := by
        rw [getElem?_pos sb n.toNat hlt]
        have : n.toNat < sb.data.size := hlt
        rw [ByteArray.getElem_eq_getElem_data, Array.getD_eq_getD_getElem?, Array.getElem?_eq_getElem this]; rfl
      simp [execOp, ho, Instr.index, hv, hu, asIntOf, run_underlying e1, hb1, hg]
    · rw [hd']; exact post_value (o := o) h (hd d hd') (VR_t (RB.int _ _)) h3
  · cases h2

theorem op_min (h : Inv c s a w val fp) {o : Oper} {cl : Call} (ho : o.op = .call cl) (hcl : cl.callee = .builtin .min) (hd : ∀ d, o.dst = some d → d < a.tmps.size)
    {Q : Exit → Act → World → Prop} (hr : runP E (opP P A o) s l K = some r) : o.wp P a w (Post c w K r) Q := by
  unfold opP at hr
  simp only [ho, hcl] at hr
  split at hr
  · rename_i x y hx
    have hargs : cl.args = #[x, y] := by rw [← Array.toArray_toList (xs := cl.args), hx]
    obtain ⟨v, l1, h1, hv⟩ := getV_sound h hr
    obtain ⟨u, l2, h2, hu⟩ := getV_sound h h1
    split at h2
    · rename_i k m k' n
      have hv := RB.int_inv hv
      have hu := RB.int_inv hu
      rw [run_iteF] at h2
      replace h2 := ev_true h2
      obtain ⟨hk, h2⟩ := h2
      obtain ⟨d, l3, hd', h3⟩ := setD_sound h2
      refine wp_value (v := .int k (min m n)) (w' := w) ?_ ?_
      · have : (if n < m then n else m) = min m n := by omega
        simp [execOp, ho, resolve, hcl, hargs, invoke, builtin, Builtin.min_, Builtin.min2, hv, hu, this]
      · rw [hd']; exact post_value (o := o) h (hd d hd') (VR_t (RB.int _ _)) h3
    · cases h2
  · cases hr

theorem inB_true {n : Int} {len : Nat} (h : inB n len = true) : 0 ≤ n ∧ n < (len : Int) := by
  unfold inB at h
  rw [Bool.and_eq_true] at h
  exact ⟨of_decide_eq_true h.1, of_decide_eq_true h.2⟩

theorem run_indexAddr_slice {o : Oper} {t e : TypeId} {x i : Operand} (ho : o.op = .indexAddr t x i) (hu : P.underlying t = some (.slice e)) (he : (P.info? e).isSome = true)
    {b q len cap : Nat} {k : IntKind} {n : Int} (hx : a.eval x = .slice (some ⟨b, q, none⟩) len cap) (hi : a.eval i = .int k n) (h0 : 0 ≤ n) (h1 : n < (len : Int)) :
    (execOp a.eval o).run P w = .ok (.value (.pointer (some ⟨b, q + n.toNat * sizeT P e, none⟩))) w := by
  obtain ⟨ie, hie⟩ := Option.isSome_iff_exists.1 he
  simp [execOp, ho, Instr.indexAt, hi, asIntOf, run_underlying hu, hx, h0, h1, Go.sizeOf, typeInfo, hie, add_at, sizeT]

theorem indexAddrP_sound (h : Inv c s a w val fp) {o : Oper} {t : TypeId} {x i : Operand} (ho : o.op = .indexAddr t x i) (hd : ∀ d, o.dst = some d → d < a.tmps.size) {d : Nat} (hd' : o.dst = some d) {v u : V} (hv : VR (mkFr c w val fp) s v (a.eval x)) (hu : VR (mkFr c w val fp) s u (a.eval i))
    {Q : Exit → Act → World → Prop} (h2 : runP E (indexAddrP P d t v u) s l K = some r) : o.wp P a w (Post c w K r) Q := by
  · unfold indexAddrP at h2
    split at h2
    · rename_i k n
      have hu := RB.int_inv hu
      split at h2
      · rename_i e hue
        rw [run_iteF] at h2
        replace h2 := ev_true h2
        obtain ⟨he, h2⟩ := h2
        have hnn : ∀ {L len : Nat}, L = len * sizeT P e → 0 < sizeT P e → inB n (L / sizeT P e) = true → 0 ≤ n ∧ n < (len : Int) ∧ 0 < L := by
          intro L len e1 e2 e3
          rw [e1, Nat.mul_div_cancel _ e2] at e3
          obtain ⟨h0, h1⟩ := inB_true e3
          refine ⟨h0, h1, ?_⟩
          rw [e1]
          exact Nat.mul_pos (by omega) e2
        split at h2
        · rename_i y
          rw [run_asSl] at h2
          split at h2
          · rename_i sz' cs
            replace h2 := ev_true h2
            obtain ⟨hsz, h2⟩ := h2
            have hsz : sz' = sizeT P e := Nat.eq_of_beq_eq_true hsz
            subst hsz
            rw [run_iteF] at h2
            replace h2 := ev_true h2
            obtain ⟨hb, h2⟩ := h2
            obtain ⟨Ad, len, cap, e1, e2, e3, e4, vs, hc, hcells⟩ := RB.sl_inv hv
            obtain ⟨h0, h1', hpos⟩ := hnn e3 e2 hb
            obtain ⟨b, q, rfl, hI, hcell⟩ := hcells (fun e => by rw [e] at hpos; simp at hpos)
            rw [run_setT, run_done] at h2
            refine wp_value (run_indexAddr_slice ho hue he e1 hu h0 h1') ?_
            rw [hd']
            refine post_value (o := o) h (hd d hd') (VR_t ?_) h2
            exact RB.rref vs (fun _ => ⟨hI.1.imp (h.ij b) id, hI.2⟩) hcell hc
          · cases h2
        · rename_i k0
          rw [run_getO] at h2
          split at h2
          · rename_i own deep sz cs hk
            rw [run_iteF] at h2
            replace h2 := ev_true h2
            obtain ⟨hb, h2⟩ := h2
            rw [Bool.and_eq_true] at hb
            obtain ⟨hsz, hb⟩ := hb
            have hsz : sz = sizeT P e := Nat.eq_of_beq_eq_true hsz
            subst hsz
            have hv := obj_alive hv hk
            obtain ⟨Ad, len, cap, e1, e2, e3, e4, hcells⟩ := arr_slice h hk
            obtain ⟨h0, h1', hpos⟩ := hnn e3 e2 hb
            obtain ⟨b, q, rfl, hcell⟩ := hcells (fun e => by rw [e] at hpos; simp at hpos)
            have hv : a.eval x = .slice (some ⟨b, q, none⟩) len cap := by rw [hv]; exact e1
            rw [run_setT, run_done] at h2
            refine wp_value (run_indexAddr_slice ho hue he hv hu h0 h1') ?_
            rw [hd']
            cases own with
            | true =>
              refine post_value (o := o) h (hd d hd') (VR_c (CR_ptr ?_ hk (.inr ⟨_, _, _, _, rfl⟩))) h2
              show ptrTo (val k0) _ _
              rw [e1]; rfl
            | false =>
              have hob := h.obs k0
              rw [hk] at hob
              obtain ⟨A', len', cap', e5, _, _, _, vs, hc, hcells'⟩ := RB.sl_inv hob.1
              rw [e1] at e5
              cases e5
              obtain ⟨b', q', e6, hI, hcell'⟩ := hcells' (fun e => by rw [e] at hpos; simp at hpos)
              cases e6
              refine post_value (o := o) h (hd d hd') (VR_t ?_) h2
              exact RB.rref vs (fun _ => ⟨hI.1.imp (h.ij b) id, hI.2⟩) hcell' hc
          · cases h2
        · cases h2
      · rename_i len e hue
        rw [run_iteF] at h2
        replace h2 := ev_true h2
        obtain ⟨he, h2⟩ := h2
        obtain ⟨ie, hie⟩ := Option.isSome_iff_exists.1 he
        have hrun : ∀ {b q : Nat}, a.eval x = .pointer (some ⟨b, q, none⟩) → inB n len = true → (execOp a.eval o).run P w = .ok (.value (.pointer (some ⟨b, q + n.toNat * sizeT P e, none⟩))) w := by
          intro b q hp hb
          obtain ⟨h0, h1⟩ := inB_true hb
          simp [execOp, ho, Instr.indexAt, hu, asIntOf, run_underlying hue, hp, Instr.sureAddr, h0, h1, Go.sizeOf, typeInfo, hie, add_at, sizeT]
        split at h2
        · rename_i k0 q
          rw [run_getO] at h2
          split at h2
          · rename_i cs hk
            rw [run_iteF] at h2
            replace h2 := ev_true h2
            obtain ⟨hb, h2⟩ := h2
            rw [run_setT, run_done] at h2
            obtain ⟨b, o', hp, hq⟩ := ptrTo_add (n := n.toNat * sizeT P e) (ptr_alive hv hk (.inl ⟨_, rfl⟩))
            refine wp_value (hrun hp hb) ?_
            rw [hd']
            exact post_value (o := o) h (hd d hd') (VR_c (CR_ptr hq hk (.inl ⟨_, rfl⟩))) h2
          · rename_i hk
            rw [run_iteF] at h2
            replace h2 := ev_true h2
            obtain ⟨hb, h2⟩ := h2
            rw [run_setT, run_done] at h2
            obtain ⟨b, o', hp, hq⟩ := ptrTo_add (n := n.toNat * sizeT P e) (ptr_alive hv hk (.inr ⟨_, _, _, _, rfl⟩))
            refine wp_value (hrun hp hb) ?_
            rw [hd']
            exact post_value (o := o) h (hd d hd') (VR_c (CR_ptr hq hk (.inr ⟨_, _, _, _, rfl⟩))) h2
          · cases h2
        · rename_i cs q
          rw [run_iteF] at h2
          replace h2 := ev_true h2
          obtain ⟨hb, h2⟩ := h2
          rw [run_setT, run_done] at h2
          have hv' : RB w (inI c w fp) (inJ c w fp) (.rref cs q) (a.eval x) := hv
          generalize hux : a.eval x = u at hv'
          cases hv' with
          | rref vs hJ hcell hc =>
            refine wp_value (hrun hux hb) ?_
            rw [hd']
            refine post_value (o := o) h (hd d hd') (VR_t ?_) h2
            rw [Nat.add_assoc]
            exact RB.rref vs hJ hcell hc
        · cases h2
      · cases h2
    · cases h2

theorem boundV_sound (h : Inv c s a w val fp) {x : Option Operand} {d : Int} {f : Int → Prog} (hr : runP E (boundV x d f) s l K = some r) :
    ∃ n l', runP E (f n) s l' K = some r ∧ ((x = none ∧ n = d) ∨ ∃ y k, x = some y ∧ a.eval y = .int k n) := by
  cases x with
  | none => exact ⟨d, l, hr, .inl ⟨rfl, rfl⟩⟩
  | some y =>
    obtain ⟨v, l1, h1, hv⟩ := getV_sound h hr
    split at h1
    · rename_i k n
      exact ⟨n, l1, h1, .inr ⟨y, k, rfl, RB.int_inv hv⟩⟩
    · cases h1
theorem run_bounds {isSlice : Bool} {len cap : Nat} {lo hi : Option Operand} {m n : Int} (h1 : (lo = none ∧ m = 0) ∨ ∃ y k, lo = some y ∧ a.eval y = .int k m)
    (h2 : (hi = none ∧ n = (len : Int)) ∨ ∃ y k, hi = some y ∧ a.eval y = .int k n) (h3 : 0 ≤ m) (h4 : m ≤ n) (h5 : n ≤ (len : Int)) (h6 : len ≤ cap) :
    (Instr.sliceBounds isSlice len cap (lo.map a.eval) (hi.map a.eval) none).run P w = .ok (m.toNat, n.toNat, cap) w := by
  have eh : (n.toNat : Int) = n := Int.toNat_of_nonneg (by omega)
  rcases h1 with ⟨rfl, rfl⟩ | ⟨y1, k1, rfl, e1⟩ <;> rcases h2 with ⟨rfl, rfl⟩ | ⟨y2, k2, rfl, e2⟩
  · simp [Instr.sliceBounds]
  · have := run_sliceBound (P := P) w k2 n cap (if isSlice = true then BoundsCode.sliceAcap else BoundsCode.sliceAlen) (by omega) (by omega)
    simp [Instr.sliceBounds, e2, this]
  · have := run_sliceBound (P := P) w k1 m len .sliceB (by omega) (by omega)
    simp [Instr.sliceBounds, e1, this]
  · have t1 := run_sliceBound (P := P) w k2 n cap (if isSlice = true then BoundsCode.sliceAcap else BoundsCode.sliceAlen) (by omega) (by omega)
    have t2 := run_sliceBound (P := P) w k1 m n.toNat .sliceB (by omega) (by omega)
    simp [Instr.sliceBounds, e1, e2, t1, t2]

theorem RB_cut {w : World} {I J : Nat → Prop} {sz : Nat} {cells : List T} {A : Option Addr} {len cap : Nat} (hv : RB w I J (.sl sz cells) (.slice A len cap)) {m n : Nat} (h1 : m ≤ n) (h2 : n ≤ len) :
    RB w I J (.sl sz ((cells.take (n * sz)).drop (m * sz))) (.slice (if cap = m then A else A.map (·.add (m * sz))) (n - m) (cap - m)) := by
  obtain ⟨A', len', cap', e, e1, e2, e3, vs, hc, hcells⟩ := RB.sl_inv hv
  cases e
  have hle : n * sz ≤ cells.length := by rw [e2]; exact Nat.mul_le_mul_right _ h2
  have hmn : m * sz ≤ n * sz := Nat.mul_le_mul_right _ h1
  have hget : ∀ i, ((cells.take (n * sz)).drop (m * sz))[i]? = if m * sz + i < n * sz then cells[m * sz + i]? else none := by
    intro i; rw [List.getElem?_drop, List.getElem?_take]
  have hlen : ((cells.take (n * sz)).drop (m * sz)).length = (n - m) * sz := by
    rw [List.length_drop, List.length_take, Nat.min_eq_left hle, Nat.sub_mul]
  refine RB.sl (fun i => vs (m * sz + i)) e1 hlen (by omega) (fun hne => ?_) (fun i x hx => ?_)
  · have hpos : 0 < (n - m) * sz := by
      rw [← hlen]; exact List.length_pos_iff.2 hne
    have hlt : m < n := by
      rcases Nat.lt_or_ge m n with h | h
      · exact h
      · rw [show n - m = 0 by omega] at hpos; simp at hpos
    obtain ⟨b, q, rfl, hI, hcell⟩ := hcells (fun e => by
      rw [e] at hle; simp at hle
      have : 0 < n * sz := Nat.mul_pos (by omega) e1
      omega)
    rw [if_neg (by omega)]
    refine ⟨b, q + m * sz, by simp [add_at], hI, fun i hi => ?_⟩
    rw [hlen, Nat.sub_mul] at hi
    rw [Nat.add_assoc]
    exact hcell _ (by omega)
  · rw [hget] at hx
    split at hx
    · exact hc _ _ hx
    · cases hx

theorem sliceP_sound (h : Inv c s a w val fp) {o : Oper} {t : TypeId} {x : Operand} {lo hi : Option Operand} (ho : o.op = .slice t x lo hi none) (hd : ∀ d, o.dst = some d → d < a.tmps.size) {d : Nat} (hd' : o.dst = some d) {v : V} (hv : VR (mkFr c w val fp) s v (a.eval x))
    {Q : Exit → Act → World → Prop} (h1 : runP E (sliceP P d t v lo hi) s l K = some r) : o.wp P a w (Post c w K r) Q := by
  · unfold sliceP at h1
    split at h1
    · rename_i hu
      split at h1
      · rename_i sb
        have hv := RB.str_inv hv
        obtain ⟨m, l2, h2, hm⟩ := boundV_sound h h1
        obtain ⟨n, l3, h3, hn⟩ := boundV_sound h h2
        rw [run_iteF] at h3
        replace h3 := ev_true h3
        obtain ⟨hb, h3⟩ := h3
        simp only [Bool.and_eq_true, decide_eq_true_eq] at hb
        rw [run_setT, run_done] at h3
        refine wp_value (v := .string (sb.extract m.toNat n.toNat)) (w' := w) ?_ ?_
        · have := run_bounds (P := P) (w := w) (isSlice := false) hm hn hb.1.1 hb.1.2 hb.2 (Nat.le_refl _)
          simp [execOp, ho, Instr.sliceAt, run_underlying hu, Instr.slice, hv, this]
        · rw [hd']; exact post_value (o := o) h (hd d hd') (VR_t (RB.str _)) h3
      · cases h1
    · rename_i e hu
      rw [run_iteF] at h1
      replace h1 := ev_true h1
      obtain ⟨he, h1⟩ := h1
      obtain ⟨ie, hie⟩ := Option.isSome_iff_exists.1 he
      have hs : sizeT P e = ie.size := by simp [sizeT, hie]
      have fin : ∀ {cells : List T} {l1 : Log}, RB w (inI c w fp) (inJ c w fp) (.sl (sizeT P e) cells) (a.eval x) → runP E (boundV lo 0 fun m => boundV hi ((cells.length / sizeT P e : Nat) : Int) fun n =>
          .ite (decide (0 ≤ m) && decide (m ≤ n) && decide (n ≤ ((cells.length / sizeT P e : Nat) : Int)))
          (.setT d (.one (.t (.sl (sizeT P e) ((cells.take (n.toNat * sizeT P e)).drop (m.toNat * sizeT P e))))) .done) .fail) s l1 K = some r → o.wp P a w (Post c w K r) Q := by
        intro cells l1 hv h1
        obtain ⟨A', len, cap, e0, e1, e2, e3, _⟩ := RB.sl_inv hv
        have hdiv : cells.length / sizeT P e = len := by rw [e2]; exact Nat.mul_div_cancel _ e1
        rw [hdiv] at h1
        obtain ⟨m, l2, h2, hm⟩ := boundV_sound h h1
        obtain ⟨n, l3, h3, hn⟩ := boundV_sound h h2
        rw [run_iteF] at h3
        replace h3 := ev_true h3
        obtain ⟨hb, h3⟩ := h3
        simp only [Bool.and_eq_true, decide_eq_true_eq] at hb
        rw [run_setT, run_done] at h3
        rw [e0] at hv
        refine wp_value (v := .slice (if cap = m.toNat then A' else A'.map (·.add (m.toNat * sizeT P e))) (n.toNat - m.toNat) (cap - m.toNat)) (w' := w) ?_ ?_
        · have := run_bounds (P := P) (w := w) (isSlice := true) hm hn hb.1.1 hb.1.2 hb.2 e3
          simp [execOp, ho, Instr.sliceAt, run_underlying hu, Instr.slice, e0, this, Go.sizeOf, typeInfo, hie, hs]
        · rw [hd']
          exact post_value (o := o) h (hd d hd') (VR_t (RB_cut hv (by omega) (by omega))) h3
      split at h1
      · rename_i y
        rw [run_asSl] at h1
        split at h1
        · rename_i sz cs
          replace h1 := ev_true h1
          obtain ⟨hsz, h1⟩ := h1
          have hsz : sz = sizeT P e := Nat.eq_of_beq_eq_true hsz
          subst hsz
          exact fin hv h1
        · cases h1
      · rename_i k0
        rw [run_getO] at h1
        split at h1
        · rename_i deep sz cs hk
          have hob := h.obs k0
          rw [hk] at hob
          have hv1 := obj_alive hv hk
          by_cases hsz : Nat.beq sz (sizeT P e) = true
          · have hsz' : sz = sizeT P e := Nat.eq_of_beq_eq_true hsz
            subst hsz'
            simp only [hsz, Bool.true_and] at h1
            refine fin ?_ h1
            rw [hv1]; exact hob.1
          · have hsz' : Nat.beq sz (sizeT P e) = false := Bool.eq_false_iff.2 hsz
            simp only [hsz', Bool.false_and] at h1
            obtain ⟨m, l2, h2, hm⟩ := boundV_sound h h1
            obtain ⟨n, l3, h3, hn⟩ := boundV_sound h h2
            cases h3
        · cases h1
      · cases h1
    · cases h1
end
end Ev
