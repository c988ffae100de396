/- Ev: operations. Part B: loads, addresses, plain values. -/
import Derived.Test.YtmcfccgmhinpdaaGreatDoorEvInv
import Derived.Laws.StructEq
namespace Ev
open Go

section
variable {P : Program} {A : Attrs} {E : Env} {c : Ctx} {s : St} {a : Act} {w : World} {val : Key → Value} {fp : Key → List Nat}
variable {l : Log} {K : St → Log → R} {r : T × List T}

/-- A tree of one cell. -/
def T.cell : T → Bool
  | .agg _ | .tup _ => false
  | _ => true
theorem asTy_sound {t : TypeId} {x : T} {f : T → Prog} (hr : runP E (asTy P t x f) s l K = some r) : ∃ l', runP E (f x) s l' K = some r ∧ (flatC P t = true → x.scalar = true) ∧ x.cell = true := by
  unfold asTy at hr
  unfold flatC
  split at hr
  · rename_i k _
    rw [run_asInt] at hr
    split at hr
    · rename_i k' n
      obtain ⟨h1, h2⟩ := ev_true hr
      have : k' = k := of_decide_eq_true h1
      subst this; exact ⟨_, h2, fun _ => rfl, rfl⟩
    · cases hr
  · rw [run_asBool] at hr
    split at hr
    · exact ⟨_, hr, fun _ => rfl, rfl⟩
    · cases hr
  · rw [run_asStr] at hr
    split at hr
    · exact ⟨_, hr, fun _ => rfl, rfl⟩
    · cases hr
  · rename_i e he
    rw [run_asSl] at hr
    split at hr
    · rename_i sz cs
      obtain ⟨h1, h2⟩ := ev_true hr
      have : sz = sizeT P e := Nat.eq_of_beq_eq_true h1
      subst this; exact ⟨_, h2, fun h => by simp [he] at h, rfl⟩
    · cases hr
  · rename_i he
    rw [run_onClo] at hr
    split at hr
    · exact ⟨_, hr, fun h => by simp [he] at h, rfl⟩
    · cases hr
  · rename_i he
    rw [run_onRef] at hr
    split at hr
    · exact ⟨_, hr, fun h => by simp [he] at h, rfl⟩
    · cases hr
  · cases hr

theorem readTs_sound : ∀ {ts : List TypeId} {cells : List T} {q : Nat} {f : List C → Prog} {l : Log}, runP E (readTs P cells q ts f) s l K = some r →
    ∃ cs l', runP E (f cs) s l' K = some r ∧ cs.length = ts.length ∧ ∀ j t, ts[j]? = some t → ∃ x, cells[q + j]? = some x ∧ cs[j]? = some (C.t x) ∧ (flatC P t = true → x.scalar = true)
  | [], cells, q, f, l, hr => ⟨[], l, hr, rfl, fun j t h => by simp at h⟩
  | t :: ts, cells, q, f, l, hr => by
    rw [readTs, run_onSome] at hr
    split at hr
    · rename_i x hx
      obtain ⟨l1, h1, hs, _⟩ := asTy_sound hr
      obtain ⟨cs, l2, h2, hl, hc⟩ := readTs_sound h1
      refine ⟨C.t x :: cs, l2, h2, by simp [hl], fun j t' hj => ?_⟩
      cases j with
      | zero => simp at hj; subst hj; exact ⟨x, hx, rfl, hs⟩
      | succ j =>
        obtain ⟨y, h3, h4, h5⟩ := hc j t' (by simpa using hj)
        exact ⟨y, by rw [show q + (j + 1) = q + 1 + j by omega]; exact h3, by simpa using h4, h5⟩
    · cases hr

theorem RO.scalar {w : World} {I J : Nat → Prop} {x : T} {v : Value} {F : List Nat} (h : RO w x v F) (hs : x.scalar = true) : RB w I J x v := by
  cases h with
  | int k n => exact .int k n
  | bool b => exact .bool b
  | str s => exact .str s
  | nil hsz => simp [T.scalar] at hs
  | sl _ _ _ _ _ _ _ _ _ _ _ => simp [T.scalar] at hs
  | hole _ => simp [T.scalar] at hs
  | mp _ _ => simp [T.scalar] at hs
theorem flatT_cell {t : TypeId} (h : flatT P t = true) {j : Nat} {t' : TypeId} (hj : (cellTys P 8 t)[j]? = some t') : flatC P t' = true := by
  unfold flatT at h
  exact List.all_eq_true.1 h t' (List.mem_of_getElem? hj)

theorem tyOk_size {t : TypeId} (h : tyOk P t = true) : ∃ i d, P.info? t = some i ∧ P.underlying t = some d ∧ i.size = (cellTys P 8 t).length ∧ (isAggT P t = false → (cellTys P 8 t).length = 1) := by
  unfold tyOk at h
  simp only [Bool.and_eq_true, Bool.or_eq_true, Nat.beq_eq] at h
  obtain ⟨⟨⟨h1, h2⟩, h3⟩, h4⟩ := h
  obtain ⟨i, hi⟩ := Option.isSome_iff_exists.1 h1
  obtain ⟨d, hd⟩ := Option.isSome_iff_exists.1 h2
  have hs : sizeT P t = i.size := by simp [sizeT, hi]
  refine ⟨i, d, hi, hd, by rw [← hs]; exact h3, fun hn => ?_⟩
  rcases h4 with h4 | h4
  · rw [hn] at h4; cases h4
  · omega

theorem run_isAgg {t : TypeId} {d : TypeDesc} (hd : P.underlying t = some d) (w : World) : (isAgg t).run P w = .ok (isAggT P t) w := by
  unfold isAgg isAggT
  simp only [Sem.run_bind, run_underlying hd, Result.andThen_ok, hd]
  cases d <;> rfl

/-- What a read of a variable gives. -/
def readV (P : Program) (t : TypeId) (f : Nat → Value) : Value := if isAggT P t then .agg ((List.range (cellTys P 8 t).length).map f).toArray else f 0
theorem add_at (b o j : Nat) : (⟨b, o, none⟩ : Addr).add j = ⟨b, o + j, none⟩ := by unfold Addr.add; split <;> simp_all
theorem run_loadVar {t : TypeId} (ht : tyOk P t = true) {b o : Nat} {f : Nat → Value} (hf : ∀ j, j < (cellTys P 8 t).length → w.cell? ⟨b, o + j, none⟩ = some (f j)) :
    (loadVar t ⟨b, o, none⟩).run P w = .ok (readV P t f) w := by
  obtain ⟨i, d, hi, hd, hs, h1⟩ := tyOk_size ht
  unfold loadVar readV
  simp only [Sem.run_bind, run_isAgg hd, Result.andThen_ok]
  cases hagg : isAggT P t with
  | true =>
    have hsz : (Go.sizeOf t).run P w = .ok (cellTys P 8 t).length w := by simp [Go.sizeOf, typeInfo, hi, hs]
    have hl := run_loadCells (P := P) w ⟨b, o, none⟩ (cellTys P 8 t).length f (fun j hj => by rw [add_at]; exact hf j hj)
    simp [hsz, hl]
  | false =>
    have := hf 0 (by rw [h1 hagg]; omega)
    simp at this
    simp [this]

/-- Cells read make a slot. -/
theorem VR_mkV {f : Fr} {t : TypeId} (ht : tyOk P t = true) {cs : List C} {g : Nat → Value} (hl : cs.length = (cellTys P 8 t).length)
    (hc : ∀ j x, cs[j]? = some x → CR f s x (g j)) : VR f s (mkV P t cs) (readV P t g) := by
  obtain ⟨i, d, hi, hd, hs, h1⟩ := tyOk_size ht
  unfold mkV readV
  cases hagg : isAggT P t with
  | true =>
    refine ⟨_, rfl, by simp [hl], fun j x v hx hv => ?_⟩
    have hj : j < (cellTys P 8 t).length := by rw [← hl]; exact (List.getElem?_eq_some_iff.1 hx).1
    simp [hj] at hv
    subst hv
    exact hc j x hx
  | false =>
    have hl1 := h1 hagg
    rw [hl1] at hl
    cases cs with
    | nil => simp at hl
    | cons x r => exact hc 0 x rfl

theorem run_load_op {o : Oper} {t : TypeId} {x : Operand} (ho : o.op = .load t x) (ht : tyOk P t = true) {b q : Nat} {f : Nat → Value} (hx : a.eval x = .pointer (some ⟨b, q, none⟩))
    (hf : ∀ j, j < (cellTys P 8 t).length → w.cell? ⟨b, q + j, none⟩ = some (f j)) : (execOp a.eval o).run P w = .ok (.value (readV P t f)) w := by
  simp only [execOp, ho, Instr.loadAt, hx, Instr.sureAddr]
  simp [run_loadVar ht hf]

theorem loadP_sound (h : Inv c s a w val fp) {o : Oper} {t : TypeId} {x : Operand} (ho : o.op = .load t x) (hd : ∀ d, o.dst = some d → d < a.tmps.size) {d : Nat} (hd' : o.dst = some d) {v : V} (hv : VR (mkFr c w val fp) s v (a.eval x))
    {Q : Exit → Act → World → Prop} (h1 : runP E (loadP P d t v) s l K = some r) : o.wp P a w (Post c w K r) Q := by
  · unfold loadP at h1
    rw [run_iteF] at h1
    replace h1 := ev_true h1
    obtain ⟨ht, h1⟩ := h1
    split at h1
    · rename_i k q
      rw [run_getO] at h1
      obtain ⟨hv1, hv2⟩ := hv
      have hob := h.obs k
      split at h1
      · rename_i cells hk
        rw [hk] at hob hv1
        obtain ⟨b, cur, e, hu, hF, hh, hcs⟩ := hob
        have hh : w.heap[b]? = some (.cells cur e (0, 0)) := hh
        rw [run_iteF] at h1
        obtain ⟨hle, h1⟩ := ev_true h1
        have hle := of_decide_eq_true hle
        have hptr : a.eval x = .pointer (some ⟨b, 0 + q, none⟩) := by
          have : ptrTo (val k) q (a.eval x) := hv1
          rw [show val k = _ from hu] at this
          exact this
        have hget : ∀ j, j < (cellTys P 8 t).length → cur[q + j]? = some (cur.getD (q + j) undef) := fun j hj => by
          have : q + j < cur.size := by have := hcs.1; simp at this; omega
          simp [this]
        refine wp_value (run_load_op (f := fun j => cur.getD (q + j) undef) ho ht hptr fun j hj => ?_) ?_
        · rw [Nat.zero_add, cell_of_cells hh]; exact hget j hj
        · rw [hd']
          refine post_value (o := o) h (hd d hd') (VR_mkV ht (by simp; omega) fun j y hy => ?_) h1
          rw [List.getElem?_take] at hy
          split at hy
          · rename_i hj
            rw [List.getElem?_drop] at hy
            refine hcs.2 (q + j) y _ hy ?_
            simpa using hget j hj
          · cases hy
      · rename_i own deep sz cells hk
        rw [hk] at hob hv1
        rw [run_ite, run_fail] at h1
        rcases ev_wrap h1 with ⟨_, h1⟩ | ⟨hnd, h1⟩
        · cases h1
        obtain ⟨cs, l2, h2, hl, hcs⟩ := readTs_sound h1
        rw [run_setT, run_done] at h2
        -- where the cells lie, and what they are
        have key : ∃ b o, (a.eval x = .pointer (some ⟨b, o + q, none⟩)) ∧ ∃ vs : Nat → Value, (∀ i, i < cells.length → w.cell? ⟨b, o + i, none⟩ = some (vs i)) ∧
            ∀ j y, j < (cellTys P 8 t).length → cells[q + j]? = some y → RB w (inI c w fp) (inJ c w fp) y (vs (q + j)) := by
          have hp : ptrTo (val k) q (a.eval x) := hv1
          have nilp : ∀ {a' l' c'}, val k = .slice a' l' c' → cells = [] → ∃ b o, (a.eval x = .pointer (some ⟨b, o + q, none⟩)) ∧ ∃ vs : Nat → Value, (∀ i, i < cells.length → w.cell? ⟨b, o + i, none⟩ = some (vs i)) ∧
            ∀ j y, j < (cellTys P 8 t).length → cells[q + j]? = some y → RB w (inI c w fp) (inJ c w fp) y (vs (q + j)) := by
            intro a' l' c' he hce
            subst hce
            rw [he] at hp
            cases a' with
            | none => exact hp.elim
            | some a' =>
              obtain ⟨b, o, sp⟩ := a'
              cases sp with
              | none => exact ⟨b, o, hp, fun _ => default, by simp, by simp⟩
              | some sp => exact hp.elim
          cases own with
          | false =>
            have hob1 := hob.1
            generalize hu : val k = u at hob1
            cases hob1 with
            | sl vs hsz hlen hcap ha hc =>
              by_cases hne : cells = []
              · exact nilp hu hne
              · obtain ⟨b, o, ha', hI, hcell⟩ := ha hne
                subst ha'
                rw [hu] at hp
                exact ⟨b, o, hp, vs, hcell, fun j y _ hy => hc _ _ hy⟩
          | true =>
            cases deep with
            | true =>
              have hflat : flatT P t = true := by simpa [hasSl] using hnd
              have hob' : RO w (.sl sz cells) (val k) (fp k) := hob
              generalize hu : val k = u at hob'
              generalize hF : fp k = F at hob'
              cases hob' with
              | nil hsz => exact nilp hu rfl
              | sl vs fs hsz hg hlen hcap hmax hcur hvv hc hnd' =>
                rename_i g len cap cur e
                rw [hu] at hp
                refine ⟨g, 0, hp, vs, fun i hi => by rw [Nat.zero_add, cell_of_cells hg]; exact hvv i hi, fun j y hj hy => ?_⟩
                obtain ⟨y', hy1, hy2, hy3⟩ := hcs j _ (List.getElem?_eq_getElem hj)
                rw [hy] at hy1; cases hy1
                exact (hc _ _ hy).scalar (hy3 (flatT_cell hflat (List.getElem?_eq_getElem hj)))
            | false =>
              rcases hob with ⟨hsz, hce, hF, a', hu⟩ | ⟨g, len, cap, cur, e, vs, hu, hF, hsz, hh, r1, r2, r3, r4, r5, r6⟩
              · exact nilp hu hce
              · rw [show val k = _ from hu] at hp
                have hh : w.heap[g]? = some (.cells cur e (0, 0)) := hh
                exact ⟨g, 0, hp, vs, fun i hi => by rw [Nat.zero_add, cell_of_cells hh]; exact r5 i hi, fun j y _ hy => r6 _ _ hy⟩
        obtain ⟨b, o', hptr, vs, hcell, hrb⟩ := key
        refine wp_value (run_load_op (f := fun j => vs (q + j)) ho ht hptr fun j hj => ?_) ?_
        · obtain ⟨y, hy1, _⟩ := hcs j _ (List.getElem?_eq_getElem hj)
          rw [Nat.add_assoc]
          exact hcell _ (List.getElem?_eq_some_iff.1 hy1).1
        · rw [hd']
          refine post_value (o := o) h (hd d hd') (VR_mkV ht hl fun j y hy => ?_) h2
          have hj : j < (cellTys P 8 t).length := by rw [← hl]; exact (List.getElem?_eq_some_iff.1 hy).1
          obtain ⟨z, hz1, hz2, _⟩ := hcs j _ (List.getElem?_eq_getElem hj)
          rw [hz2] at hy; cases hy
          exact hrb j z hj hz1
      · cases h1
    · rename_i cells q
      obtain ⟨cs, l2, h2, hl, hcs⟩ := readTs_sound h1
      rw [run_setT, run_done] at h2
      have hv' : RB w (inI c w fp) (inJ c w fp) (.rref cells q) (a.eval x) := hv
      generalize hu : a.eval x = u at hv'
      cases hv' with
      | rref vs hJ hcell hc =>
        refine wp_value (run_load_op (f := fun j => vs (q + j)) ho ht hu fun j hj => ?_) ?_
        · obtain ⟨y, hy1, _⟩ := hcs j _ (List.getElem?_eq_getElem hj)
          rw [Nat.add_assoc]
          exact hcell _ (List.getElem?_eq_some_iff.1 hy1).1
        · rw [hd']
          refine post_value (o := o) h (hd d hd') (VR_mkV ht hl fun j y hy => ?_) h2
          have hj : j < (cellTys P 8 t).length := by rw [← hl]; exact (List.getElem?_eq_some_iff.1 hy).1
          obtain ⟨z, hz1, hz2, _⟩ := hcs j _ (List.getElem?_eq_getElem hj)
          rw [hz2] at hy; cases hy
          exact hc _ _ hz1
    · cases h1

/-! ### plain values -/
theorem VR_c {f : Fr} {x : C} {v : Value} (h : CR f s x v) : VR f s (.one x) v := h
theorem VR_t {f : Fr} {x : T} {v : Value} (h : RB f.w f.I f.J x v) : VR f s (.one (.t x)) v := h

theorem op_unOp (h : Inv c s a w val fp) {o : Oper} {op : UnOp} {t : TypeId} {x : Operand} (ho : o.op = .unOp op t x) (hd : ∀ d, o.dst = some d → d < a.tmps.size)
    {Q : Exit → Act → World → Prop} (hr : runP E (opP P A o) s l K = some r) : o.wp P a w (Post c w K r) Q := by
  unfold opP at hr
  simp only [ho] at hr
  obtain ⟨v, l1, h1, hv⟩ := getV_sound h hr
  split at h1
  · rename_i b
    have hb := RB.bool_inv hv
    obtain ⟨d, l2, hd', h2⟩ := setD_sound h1
    refine wp_value (v := .bool (!b)) (w' := w) (by simp [execOp, ho, hb, Op.unary]) ?_
    rw [hd']; exact post_value (o := o) h (hd d hd') (VR_t (RB.bool _)) h2
  · rename_i k n
    have hb := RB.int_inv hv
    obtain ⟨d, l2, hd', h2⟩ := setD_sound h1
    refine wp_value (v := .int k (k.wrap (0 - n))) (w' := w) (by simp [execOp, ho, hb, Op.unary, Op.intArith]) ?_
    rw [hd']; exact post_value (o := o) h (hd d hd') (VR_t (RB.int _ _)) h2
  · cases h1

theorem intBin_sound {op : BinOp} {k : IntKind} {m n : Int} {f : T → Prog} (hr : runP E (intBin op k m n f) s l K = some r) :
    ∃ y v l', runP E (f y) s l' K = some r ∧ RB w (inI c w fp) (inJ c w fp) y v ∧ ∀ t, (binOp op t (.int k m) (.int k n)).run P w = .ok v w := by
  unfold intBin at hr
  have bound : ∀ {v : Value} {z : T} {b : Bool}, (bif b then runP E .fail s l K else runP E (f z) s l K) = some r → b = false ∧ runP E (f z) s l K = some r := by
    intro v z b hh
    cases b
    · exact ⟨rfl, hh⟩
    · cases hh
  split at hr
  case h_4 =>
    rw [run_ite] at hr
    obtain ⟨hb, hr⟩ := bound (v := .nilFunc) hr
    have hb : ¬ n = 0 := of_decide_eq_false hb
    exact ⟨_, .int k (k.wrap (m.tdiv n)), _, hr, RB.int _ _, fun t => by simp [binOp, Op.intDiv, hb]⟩
  case h_5 =>
    rw [run_ite] at hr
    obtain ⟨hb, hr⟩ := bound (v := .nilFunc) hr
    have hb : ¬ n = 0 := of_decide_eq_false hb
    exact ⟨_, .int k (m.tmod n), _, hr, RB.int _ _, fun t => by simp [binOp, Op.intDiv, hb]⟩
  case h_9 =>
    rw [run_ite] at hr
    obtain ⟨hb, hr⟩ := bound (v := .nilFunc) hr
    have hb : ¬ n < 0 := of_decide_eq_false hb
    exact ⟨_, .int k (k.wrap (m * 2 ^ (min n.toNat k.bits))), _, hr, RB.int _ _, fun t => by simp [binOp, Op.shift, hb]⟩
  case h_10 =>
    rw [run_ite] at hr
    obtain ⟨hb, hr⟩ := bound (v := .nilFunc) hr
    have hb : ¬ n < 0 := of_decide_eq_false hb
    exact ⟨_, .int k (m.fdiv (2 ^ (min n.toNat k.bits))), _, hr, RB.int _ _, fun t => by simp [binOp, Op.shift, hb]⟩
  case h_1 => exact ⟨_, _, _, hr, RB.int _ _, fun t => by simp [binOp, Op.intArith]⟩
  case h_2 => exact ⟨_, _, _, hr, RB.int _ _, fun t => by simp [binOp, Op.intArith]⟩
  case h_3 => exact ⟨_, _, _, hr, RB.int _ _, fun t => by simp [binOp, Op.intArith]⟩
  case h_6 => exact ⟨_, _, _, hr, RB.int _ _, fun t => by simp [binOp, Op.intBits]⟩
  case h_7 => exact ⟨_, _, _, hr, RB.int _ _, fun t => by simp [binOp, Op.intBits]⟩
  case h_8 => exact ⟨_, _, _, hr, RB.int _ _, fun t => by simp [binOp, Op.intBits]⟩
  case h_11 => exact ⟨_, _, _, hr, RB.bool _, fun t => by simp [binOp, Op.intCmp]⟩
  case h_12 => exact ⟨_, _, _, hr, RB.bool _, fun t => by simp [binOp, Op.intCmp]⟩
  case h_13 => exact ⟨_, _, _, hr, RB.bool _, fun t => by simp [binOp, Op.intCmp]⟩
  case h_14 => exact ⟨_, _, _, hr, RB.bool _, fun t => by simp [binOp, Op.intCmp]⟩
  case h_15 => exact ⟨_, _, _, hr, RB.bool _, fun t => by simp [binOp, Op.intCmp]⟩
  case h_16 => exact ⟨_, _, _, hr, RB.bool _, fun t => by simp [binOp, Op.intCmp]⟩
  case h_17 => cases hr

theorem eqGuard_int (o : BinOp) (t : TypeId) (x y : Operand) (k k' : IntKind) (m n : Int) : (eqGuard o t x y (.int k m) (.int k' n)).run P w = .ok () w := by
  cases o <;> simp [eqGuard]
theorem eqGuard_bool (o : BinOp) (t : TypeId) (x y : Operand) (m n : Bool) : (eqGuard o t x y (.bool m) (.bool n)).run P w = .ok () w := by
  cases o <;> simp [eqGuard]
theorem eqGuard_str (o : BinOp) (t : TypeId) (x y : Operand) (m n : ByteArray) : (eqGuard o t x y (.string m) (.string n)).run P w = .ok () w := by
  cases o <;> simp [eqGuard]
theorem run_equal_bool {t : TypeId} (h : P.underlying t = some .bool) (m n : Bool) : (Op.equal t (.bool m) (.bool n)).run P w = .ok (m == n) w := run_equalIn_bool' w 9999 t m n h
theorem binP_sound {op : BinOp} {t : TypeId} {x y : V} {u v : Value} {f : T → Prog} (hx : VR (mkFr c w val fp) s x u) (hy : VR (mkFr c w val fp) s y v) (hr : runP E (binP P op t x y f) s l K = some r) :
    ∃ z vz l', runP E (f z) s l' K = some r ∧ RB w (inI c w fp) (inJ c w fp) z vz ∧ (binOp op t u v).run P w = .ok vz w ∧ ∀ o t p q, (eqGuard o t p q u v).run P w = .ok () w := by
  unfold binP at hr
  split at hr
  · rename_i k m k' n
    have hu := RB.int_inv hx
    have hv := RB.int_inv hy
    subst hu; subst hv
    have heq : ∀ o t p q, (eqGuard o t p q (.int k m) (.int k' n)).run P w = .ok () w := fun o t p q => eqGuard_int _ _ _ _ _ _ _ _
    split at hr
    · unfold intBin at hr
      simp only [run_ite, run_fail] at hr
      rcases ev_wrap hr with ⟨_, hr⟩ | ⟨hb, hr⟩
      · cases hr
      · have hb : ¬ n < 0 := of_decide_eq_false hb
        exact ⟨_, .int k (k.wrap (m * 2 ^ (min n.toNat k.bits))), _, hr, RB.int _ _, by simp [binOp, Op.shift, hb], heq⟩
    · unfold intBin at hr
      simp only [run_ite, run_fail] at hr
      rcases ev_wrap hr with ⟨_, hr⟩ | ⟨hb, hr⟩
      · cases hr
      · have hb : ¬ n < 0 := of_decide_eq_false hb
        exact ⟨_, .int k (m.fdiv (2 ^ (min n.toNat k.bits))), _, hr, RB.int _ _, by simp [binOp, Op.shift, hb], heq⟩
    · rw [run_iteF] at hr
      replace hr := ev_true hr
      obtain ⟨hk, hr⟩ := hr
      have hk := of_decide_eq_true hk
      subst hk
      obtain ⟨z, vz, l', h1, h2, h3⟩ := intBin_sound (c := c) (w := w) (fp := fp) (P := P) hr
      exact ⟨z, vz, l', h1, h2, h3 t, heq⟩
  · rename_i m n
    have hu := RB.bool_inv hx
    have hv := RB.bool_inv hy
    subst hu; subst hv
    have heq : ∀ o t p q, (eqGuard o t p q (.bool m) (.bool n)).run P w = .ok () w := fun o t p q => eqGuard_bool _ _ _ _ _ _
    rw [run_iteF] at hr
    replace hr := ev_true hr
    obtain ⟨hk, hr⟩ := hr
    have ht : P.underlying t = some .bool := by
      unfold isBoolT at hk
      split at hk
      · assumption
      · cases hk
    split at hr
    · exact ⟨_, _, _, hr, RB.bool _, by simp [binOp, run_equal_bool ht], heq⟩
    · exact ⟨_, _, _, hr, RB.bool _, by simp [binOp, run_equal_bool ht], heq⟩
    · cases hr
  · rename_i m n
    have hu := RB.str_inv hx
    have hv := RB.str_inv hy
    subst hu; subst hv
    have heq : ∀ o t p q, (eqGuard o t p q (.string m) (.string n)).run P w = .ok () w := fun o t p q => eqGuard_str _ _ _ _ _ _
    split at hr
    · exact ⟨_, _, _, hr, RB.bool _, by simp [binOp, Op.stringOp], heq⟩
    · exact ⟨_, _, _, hr, RB.bool _, by simp [binOp, Op.stringOp], heq⟩
    · rw [run_iteF] at hr
      replace hr := ev_true hr
      obtain ⟨hk, hr⟩ := hr
      have hk := of_decide_eq_true hk
      have hn : ¬ (((m.size + n.size : Nat) : Int) > IntKind.i64.max) := by
        have : IntKind.i64.max = 9223372036854775807 := rfl
        rw [this]; omega
      exact ⟨_, _, _, hr, RB.str _, by simp only [binOp, Op.stringOp, if_neg hn]; rfl, heq⟩
    · cases hr
  · cases hr

theorem op_binOp (h : Inv c s a w val fp) {o : Oper} {op : BinOp} {t t' : TypeId} {x y : Operand} (ho : o.op = .binOp op t x y t') (hd : ∀ d, o.dst = some d → d < a.tmps.size)
    {Q : Exit → Act → World → Prop} (hr : runP E (opP P A o) s l K = some r) : o.wp P a w (Post c w K r) Q := by
  unfold opP at hr
  simp only [ho] at hr
  obtain ⟨u, l1, h1, hu⟩ := getV_sound h hr
  obtain ⟨v, l2, h2, hv⟩ := getV_sound h h1
  obtain ⟨z, vz, l3, h3, hz, hrun, hg⟩ := binP_sound hu hv h2
  obtain ⟨d, l4, hd', h4⟩ := setD_sound h3
  refine wp_value (v := vz) (w' := w) (by simp [execOp, ho, hg, hrun]) ?_
  rw [hd']; exact post_value (o := o) h (hd d hd') (VR_t hz) h4


/-- A pointer into a living object. -/
theorem ptr_alive {f : Fr} {s : St} {k : Key} {q : Nat} {v : Value} (h : CR f s (.ptr k q) v) {o : Ob} (ho : s.getO k = o) (hl : (∃ cs, o = .box cs) ∨ ∃ x y z cs, o = .arr x y z cs) : ptrTo (f.val k) q v := by
  have h1 := h.1
  rw [ho] at h1
  rcases hl with ⟨cs, rfl⟩ | ⟨x, y, z, cs, rfl⟩ <;> exact h1
theorem ptrTo_add {u v : Value} {q n : Nat} (h : ptrTo u q v) : ∃ b o, v = .pointer (some ⟨b, o, none⟩) ∧ ptrTo u (q + n) (.pointer (some ⟨b, o + n, none⟩)) := by
  unfold ptrTo at h
  split at h
  · rename_i b o; exact ⟨b, o + q, h, by simp [ptrTo, Nat.add_assoc]⟩
  · rename_i b o l c; exact ⟨b, o + q, h, by simp [ptrTo, Nat.add_assoc]⟩
  · exact h.elim
theorem CR_ptr {f : Fr} {s : St} {k : Key} {q : Nat} {a : Option Addr} (h : ptrTo (f.val k) q (.pointer a)) {o : Ob} (ho : s.getO k = o) (hl : (∃ cs, o = .box cs) ∨ ∃ x y z cs, o = .arr x y z cs) : CR f s (.ptr k q) (.pointer a) := by
  refine ⟨?_, rfl⟩
  rw [ho]
  rcases hl with ⟨cs, rfl⟩ | ⟨x, y, z, cs, rfl⟩ <;> exact h

theorem op_nilCheck (h : Inv c s a w val fp) {o : Oper} {x : Operand} (ho : o.op = .nilCheck x) (hd : ∀ d, o.dst = some d → d < a.tmps.size)
    {Q : Exit → Act → World → Prop} (hr : runP E (opP P A o) s l K = some r) : o.wp P a w (Post c w K r) Q := by
  unfold opP at hr
  simp only [ho] at hr
  obtain ⟨v, l1, h1, hv⟩ := getV_sound h hr
  have go : ∀ {y : V} {l1 : Log}, runP E (setD o.dst y) s l1 K = some r → VR (mkFr c w val fp) s y (a.eval x) → (∃ b q, a.eval x = .pointer (some ⟨b, q, none⟩)) → o.wp P a w (Post c w K r) Q := by
    intro y l1 h1 hy ⟨b, q, hp⟩
    obtain ⟨d, l2, hd', h2⟩ := setD_sound h1
    refine wp_value (v := a.eval x) (w' := w) (by simp [execOp, ho, hp]) ?_
    rw [hd']; exact post_value (o := o) h (hd d hd') hy h2
  split at h1
  · rename_i k q
    rw [run_getO] at h1
    split at h1
    · rename_i cs hk
      obtain ⟨b, o', hp, _⟩ := ptrTo_add (n := 0) (ptr_alive hv hk (.inl ⟨_, rfl⟩))
      exact go h1 hv ⟨b, o', hp⟩
    · rename_i hk
      obtain ⟨b, o', hp, _⟩ := ptrTo_add (n := 0) (ptr_alive hv hk (.inr ⟨_, _, _, _, rfl⟩))
      exact go h1 hv ⟨b, o', hp⟩
    · cases h1
  · rename_i cells q
    have hv' : RB w (inI c w fp) (inJ c w fp) (.rref cells q) (a.eval x) := hv
    generalize hu : a.eval x = u at hv'
    cases hv' with
    | rref vs hJ hcell hc => exact go h1 hv ⟨_, _, hu⟩
  · cases h1

theorem fieldT_some {t : TypeId} {f off size : Nat} (h : fieldT P t f = some (off, size)) : ∃ fs g i, P.underlying t = some (.struct fs) ∧ fs[f]? = some g ∧ P.info? g.type = some i ∧ i.size ≠ 0 ∧ off = g.offset := by
  unfold fieldT at h
  split at h
  · rename_i fs hfs
    split at h
    · rename_i g hg
      split at h
      · rename_i i hi
        cases hz : Nat.beq i.size 0 with
        | true => rw [hz] at h; cases h
        | false =>
          rw [hz] at h; cases h
          refine ⟨fs, g, i, hfs, hg, hi, ?_, rfl⟩
          intro e
          rw [e] at hz
          cases hz
      · cases h
    · cases h
  · cases h

theorem op_fieldAddr (h : Inv c s a w val fp) {o : Oper} {t : TypeId} {x : Operand} {f : Nat} (ho : o.op = .fieldAddr t x f) (hd : ∀ d, o.dst = some d → d < a.tmps.size)
    {Q : Exit → Act → World → Prop} (hr : runP E (opP P A o) s l K = some r) : o.wp P a w (Post c w K r) Q := by
  unfold opP at hr
  simp only [ho] at hr
  obtain ⟨v, l1, h1, hv⟩ := getV_sound h hr
  have hrun : ∀ {off size b q : Nat}, fieldT P t f = some (off, size) → a.eval x = .pointer (some ⟨b, q, none⟩) → (execOp a.eval o).run P w = .ok (.value (.pointer (some ⟨b, q + off, none⟩))) w := by
    intro off size b q hf hp
    obtain ⟨fs, g, i, e1, e2, e3, e4, rfl⟩ := fieldT_some hf
    simp [execOp, ho, Instr.fieldAt, run_underlying e1, e2, hp, Instr.sureAddr, fieldPlace, Go.sizeOf, typeInfo, e3, e4, add_at]
  split at h1
  · rename_i k q off size hf
    rw [run_getO] at h1
    split at h1
    · rename_i cs hk
      obtain ⟨b, o', hp, hq⟩ := ptrTo_add (n := off) (ptr_alive hv hk (.inl ⟨_, rfl⟩))
      obtain ⟨d, l2, hd', h2⟩ := setD_sound h1
      refine wp_value (hrun hf hp) ?_
      rw [hd']; exact post_value (o := o) h (hd d hd') (VR_c (CR_ptr hq hk (.inl ⟨_, rfl⟩))) h2
    · rename_i hk
      obtain ⟨b, o', hp, hq⟩ := ptrTo_add (n := off) (ptr_alive hv hk (.inr ⟨_, _, _, _, rfl⟩))
      obtain ⟨d, l2, hd', h2⟩ := setD_sound h1
      refine wp_value (hrun hf hp) ?_
      rw [hd']; exact post_value (o := o) h (hd d hd') (VR_c (CR_ptr hq hk (.inr ⟨_, _, _, _, rfl⟩))) h2
    · cases h1
  · rename_i cells q off size hf
    have hv' : RB w (inI c w fp) (inJ c w fp) (.rref cells q) (a.eval x) := hv
    obtain ⟨d, l2, hd', h2⟩ := setD_sound h1
    generalize hu : a.eval x = u at hv'
    cases hv' with
    | rref vs hJ hcell hc =>
      refine wp_value (hrun hf hu) ?_
      rw [hd']
      refine post_value (o := o) h (hd d hd') (VR_t ?_) h2
      rw [Nat.add_assoc]
      exact RB.rref vs hJ hcell hc
  · cases h1

theorem getVs_sound (h : Inv c s a w val fp) : ∀ {xs : List Operand} {f : List V → Prog} {l : Log}, runP E (getVs xs f) s l K = some r →
    ∃ vs l', runP E (f vs) s l' K = some r ∧ vs.length = xs.length ∧ ∀ (i : Nat) (x : Operand) (v : V), xs[i]? = some x → vs[i]? = some v → VR (mkFr c w val fp) s v (a.eval x)
  | [], f, l, hr => ⟨[], l, hr, rfl, by simp⟩
  | x :: xs, f, l, hr => by
    rw [getVs] at hr
    obtain ⟨v, l1, h1, hv⟩ := getV_sound h hr
    obtain ⟨vs, l2, h2, hl, hvs⟩ := getVs_sound h h1
    refine ⟨v :: vs, l2, h2, by simp [hl], fun i y u hy hu => ?_⟩
    cases i with
    | zero => simp at hy hu; subst hy; subst hu; exact hv
    | succ i => exact hvs i y u (by simpa using hy) (by simpa using hu)
theorem onesV_some : ∀ {vs : List V} {cs : List C}, onesV vs = some cs → vs.length = cs.length ∧ ∀ (i : Nat) (v : V) (c : C), vs[i]? = some v → cs[i]? = some c → v = V.one c
  | [], cs, h => by simp [onesV] at h; subst h; simp
  | .one c :: r, cs, h => by
    simp only [onesV, Option.map_eq_some_iff] at h
    obtain ⟨r', h1, rfl⟩ := h
    obtain ⟨h2, h3⟩ := onesV_some h1
    refine ⟨by simp [h2], fun i v c' hv hc => ?_⟩
    cases i with
    | zero => simp at hv hc; rw [← hv, ← hc]
    | succ i => exact h3 i v c' (by simpa using hv) (by simpa using hc)
  | .agg _ :: _, cs, h => by simp [onesV] at h
  | .tup _ :: _, cs, h => by simp [onesV] at h
  | .clo _ _ :: _, cs, h => by simp [onesV] at h
  | .skip :: _, cs, h => by simp [onesV] at h
  | .any :: _, cs, h => by simp [onesV] at h

theorem op_makeFunc (h : Inv c s a w val fp) {o : Oper} {g : FuncId} {first caps : Array Operand} (ho : o.op = .makeFunc (.func g) first caps) (hd : ∀ d, o.dst = some d → d < a.tmps.size)
    {Q : Exit → Act → World → Prop} (hr : runP E (opP P A o) s l K = some r) : o.wp P a w (Post c w K r) Q := by
  unfold opP at hr
  simp only [ho] at hr
  split at hr
  · rename_i d hd'
    cases hf : Nat.beq first.size 0 with
    | false => rw [hf] at hr; cases hr
    | true =>
      rw [hf, cond_true] at hr
      have hfirst : first = #[] := by
        have := Nat.eq_of_beq_eq_true hf
        exact Array.eq_empty_of_size_eq_zero this
      obtain ⟨vs, l1, h1, hl, hvs⟩ := getVs_sound h hr
      split at h1
      · rename_i cs hcs
        rw [run_setT, run_done] at h1
        obtain ⟨e1, e2⟩ := onesV_some hcs
        refine wp_value (v := .func (.func g) #[] (caps.map a.eval)) (w' := w) (by simp [execOp, ho, Instr.makeFunc, hfirst]) ?_
        rw [hd']
        refine post_value (o := o) (x := .clo g cs) h (hd d hd') ⟨_, rfl, ?_, fun i c1 u hc hu => ?_⟩ h1
        · simp at hl ⊢; omega
        · have hi : i < caps.size := by
            have := (List.getElem?_eq_some_iff.1 hu).1
            simpa using this
          have hiv : i < vs.length := by rw [hl]; simpa using hi
          have hx : caps.toList[i]? = some caps[i] := by simp [hi]
          have hv := hvs i _ _ hx (List.getElem?_eq_getElem hiv)
          rw [e2 i _ _ (List.getElem?_eq_getElem hiv) hc] at hv
          simp [hi] at hu
          rw [← hu]; exact hv
      · cases h1
  · cases hr

theorem op_extract (h : Inv c s a w val fp) {o : Oper} {x : Operand} {i : Nat} (ho : o.op = .extract x i) (hd : ∀ d, o.dst = some d → d < a.tmps.size)
    {Q : Exit → Act → World → Prop} (hr : runP E (opP P A o) s l K = some r) : o.wp P a w (Post c w K r) Q := by
  unfold opP at hr
  simp only [ho] at hr
  obtain ⟨v, l1, h1, hv⟩ := getV_sound h hr
  split at h1
  · rename_i ps
    obtain ⟨us, hu, hl, hps⟩ := hv
    have hget : ∀ {p}, ps[i]? = some p → ∃ u, us[i]? = some u := fun {p} hp => by
      have : i < us.size := by rw [← hl]; exact (List.getElem?_eq_some_iff.1 hp).1
      exact ⟨us[i], by simp [this]⟩
    have hrun : ∀ {u}, us[i]? = some u → (execOp a.eval o).run P w = .ok (.value u) w := fun {u} h => by simp [execOp, ho, hu, Instr.extract, h]
    split at h1
    · rename_i cs hp
      obtain ⟨u, hu'⟩ := hget hp
      obtain ⟨d, l2, hd', h2⟩ := setD_sound h1
      refine wp_value (hrun hu') ?_
      rw [hd']
      refine post_value (o := o) h (hd d hd') ?_ h2
      rcases hps i _ u hp hu' with ⟨_, vs, e, hc⟩ | ⟨e, _⟩
      · exact ⟨vs, e, hc⟩
      · cases e
    · rename_i c1 hp
      obtain ⟨u, hu'⟩ := hget hp
      obtain ⟨d, l2, hd', h2⟩ := setD_sound h1
      refine wp_value (hrun hu') ?_
      rw [hd']
      refine post_value (o := o) h (hd d hd') ?_ h2
      rcases hps i _ u hp hu' with ⟨e, _⟩ | ⟨_, c2, e, hc⟩
      · cases e
      · cases e; exact hc
    · cases h1
  · cases h1

/-! ### slices read as they stand -/
theorem RB.sl_inv {w : World} {I J : Nat → Prop} {sz : Nat} {cells : List T} {v : Value} (h : RB w I J (.sl sz cells) v) :
    ∃ a len cap, v = .slice a len cap ∧ 0 < sz ∧ cells.length = len * sz ∧ len ≤ cap ∧ ∃ vs : Nat → Value, (∀ i x, cells[i]? = some x → RB w I J x (vs i)) ∧
      (cells ≠ [] → ∃ b o, a = some ⟨b, o, none⟩ ∧ I b ∧ ∀ i, i < cells.length → w.cell? ⟨b, o + i, none⟩ = some (vs i)) := by
  cases h with
  | sl vs hsz hlen hcap ha hc => exact ⟨_, _, _, rfl, hsz, hlen, hcap, vs, hc, ha⟩

/-- A living slice object, as a value. -/
theorem obj_alive {f : Fr} {s : St} {k : Key} {v : Value} (h : CR f s (.obj k) v) {own deep : Bool} {sz : Nat} {cells : List T} (ho : s.getO k = .arr own deep sz cells) : v = f.val k := by
  have h1 := h.1
  rw [ho] at h1
  exact h1
/-- What a slice object is as a value: its length, its cells in memory. -/
theorem arr_slice (h : Inv c s a w val fp) {k : Key} {own deep : Bool} {sz : Nat} {cells : List T} (ho : s.getO k = .arr own deep sz cells) :
    ∃ A len cap, val k = .slice A len cap ∧ 0 < sz ∧ cells.length = len * sz ∧ len ≤ cap ∧
      (cells ≠ [] → ∃ b o, A = some ⟨b, o, none⟩ ∧ ∀ i, i < cells.length → ∃ u, w.cell? ⟨b, o + i, none⟩ = some u ∧ u.oneCell' = true) := by
  have hob := h.obs k
  rw [ho] at hob
  cases own with
  | false =>
    obtain ⟨A, len, cap, e, h1, h2, h3, vs, hc, h4⟩ := RB.sl_inv hob.1
    refine ⟨A, len, cap, e, h1, h2, h3, fun hne => ?_⟩
    obtain ⟨b, o, e1, _, e2⟩ := h4 hne
    exact ⟨b, o, e1, fun i hi => ⟨vs i, e2 i hi, (hc i _ (List.getElem?_eq_getElem hi)).one⟩⟩
  | true =>
    cases deep with
    | true =>
      have hob' : RO w (.sl sz cells) (val k) (fp k) := hob
      generalize hu : val k = u at hob'
      generalize fp k = F at hob'
      cases hob' with
      | nil hsz => exact ⟨_, 0, 0, rfl, hsz, by simp, Nat.le_refl _, fun h => absurd rfl h⟩
      | sl vs fs hsz hg hlen hcap hmax hcur hvv hc hnd' =>
        exact ⟨_, _, _, rfl, hsz, hlen, hcap, fun _ => ⟨_, 0, rfl, fun i hi => ⟨vs i, by rw [Nat.zero_add, cell_of_cells hg]; exact hvv i hi, (hc i _ (List.getElem?_eq_getElem hi)).one⟩⟩⟩
    | false =>
      rcases hob with ⟨hsz, hce, hF, a', hu⟩ | ⟨g, len, cap, cur, e, vs, hu, hF, hsz, hh, r1, r2, r3, r4, r5, r6⟩
      · exact ⟨a', 0, 0, hu, hsz, by rw [hce]; simp, Nat.le_refl _, fun h => absurd hce h⟩
      · have hh : w.heap[g]? = some (.cells cur e (0, 0)) := hh
        exact ⟨_, len, cap, hu, hsz, r1, r2, fun _ => ⟨g, 0, rfl, fun i hi => ⟨vs i, by rw [Nat.zero_add, cell_of_cells hh]; exact r5 i hi, (r6 i _ (List.getElem?_eq_getElem hi)).one⟩⟩⟩

theorem slOf_sound (h : Inv c s a w val fp) {sz : Nat} {x : V} {v : Value} {f : List T → Prog} (hx : VR (mkFr c w val fp) s x v) (hr : runP E (slOf sz x f) s l K = some r) :
    ∃ cells l', runP E (f cells) s l' K = some r ∧ ∃ A len cap, v = .slice A len cap ∧ cells.length = len * sz ∧ len ≤ cap ∧ cells.length / sz = len := by
  unfold slOf at hr
  split at hr
  · rename_i y
    rw [run_asSl] at hr
    split at hr
    · rename_i sz' cs
      obtain ⟨h1, h2⟩ := ev_true hr
      have : sz' = sz := Nat.eq_of_beq_eq_true h1
      subst this
      obtain ⟨A, len, cap, e, e1, e2, e3, _⟩ := RB.sl_inv hx
      exact ⟨cs, _, h2, A, len, cap, e, e2, e3, by rw [e2]; exact Nat.mul_div_cancel _ e1⟩
    · cases hr
  · exact ⟨[], _, hr, none, 0, 0, hx, by simp, Nat.le_refl _, by simp⟩
  · rename_i k
    rw [run_getO] at hr
    split at hr
    · rename_i own deep sz' cs hk
      rw [run_iteF] at hr
      obtain ⟨h1, h2⟩ := ev_true hr
      have : sz' = sz := Nat.eq_of_beq_eq_true h1
      subst this
      obtain ⟨A, len, cap, e, e1, e2, e3, _⟩ := arr_slice h hk
      have hv := obj_alive hx hk
      exact ⟨cs, _, h2, A, len, cap, hv.trans e, e2, e3, by rw [e2]; exact Nat.mul_div_cancel _ e1⟩
    · cases hr
  · rename_i y
    rw [run_asSl] at hr
    split at hr
    · rename_i sz' cs
      obtain ⟨h1, h2⟩ := ev_true hr
      have : sz' = sz := Nat.eq_of_beq_eq_true h1
      subst this
      obtain ⟨A, len, cap, e, e1, e2, e3, _⟩ := RB.sl_inv (show RB _ _ _ _ _ from hx)
      exact ⟨cs, _, h2, A, len, cap, e, e2, e3, by rw [e2]; exact Nat.mul_div_cancel _ e1⟩
    · cases hr
  · cases hr
end
end Ev
