/- Ev: operations in any order that the program leaves open. -/
import Derived.Test.YtmcfccgmhinpdaaGreatDoorEvStep
namespace Ev
open Go

section
variable {P : Program} {A : Attrs} {E : Env} {c : Ctx} {s : St} {a : Act} {w w0 : World} {val : Key → Value} {fp : Key → List Nat} {r : T × List T}

theorem opsK_sound (hE : ∀ g args r, E g args = some r → Meets P (A g) g args r) {ops : Array Oper} {n : Nat} {tp : Option Nat} {a0 : Array Value} (hdst : ∀ (i : Nat) (o : Oper), ops[i]? = some o → ∀ d, o.dst = some d → d < n ∧ tp ≠ some d) {K : St → R} {Q : Exit → Act → World → Prop}
    (hQ : ∀ s' a' w' val' fp', K s' = some r → Inv c s' a' w' val' fp' → KT a0 tp n a' → Kp c.own w0 w' → Q .normal a' w') :
    ∀ (rest : List Oper) (j : Nat) (s : St) (a : Act) (w : World) (val : Key → Value) (fp : Key → List Nat), (∀ i, rest[i]? = ops[j + i]?) → Inv c s a w val fp → KT a0 tp n a → Kp c.own w0 w →
      opsK P A E ops.toList rest s K = some r → wpOps P ops Q (List.range' j rest.length) a w
  | [], j, s, a, w, val, fp, _, h, hn, hk, hr => hQ s a w val fp hr h hn hk
  | o :: rest, j, s, a, w, val, fp, hrest, h, hn, hk, hr => by
    have hj : ops[j]? = some o := by have := hrest 0; simp at this; exact this.symm
    rw [List.length_cons, List.range'_succ, wpOps_cons]
    rw [opsK, runP_step, Option.bind_eq_some_iff] at hr
    obtain ⟨⟨s', L⟩, hstep, hr⟩ := hr
    refine wpOp_mono (fun a' w' ⟨h1, val', fp', h2, h3⟩ => ?_) (guard_sound h hE hj (fun d hd => by rw [hn.1]; exact (hdst j o hj d hd).1) hstep)
    exact opsK_sound hE hdst hQ rest (j + 1) s' a' w' val' fp' (fun i => by have := hrest (i + 1); simp at this; rw [this]; congr 1; omega) h2 (hn.next h1 fun d hd => (hdst j o hj d hd).2) (hk.trans h3) hr

/-! ## the order of the text: states and what was touched -/
structure Run (P : Program) (A : Attrs) (E : Env) (ops : Array Oper) (n : Nat) (st : Nat → St) (lg : Nat → Log) : Prop where
  step : ∀ i o, i < n → ops[i]? = some o → stepP E (guardP ops.toList o (opP P A o)) (st i) emptyLog = some (st (i + 1), lg i)

theorem opsL_run {ops : Array Oper} {K : St → List Log → R} : ∀ (rest : List Oper) (j : Nat) (s : St) (ls : List Log), (∀ i, rest[i]? = ops[j + i]?) → opsL P A E ops.toList rest s ls K = some r →
    ∃ (st : Nat → St) (lg : Nat → Log), st j = s ∧ (∀ i o, j ≤ i → i < j + rest.length → ops[i]? = some o → stepP E (guardP ops.toList o (opP P A o)) (st i) emptyLog = some (st (i + 1), lg i)) ∧
      K (st (j + rest.length)) (((List.range' j rest.length).map lg).reverse ++ ls) = some r
  | [], j, s, ls, _, hr => ⟨fun _ => s, fun _ => emptyLog, rfl, fun i o h1 h2 => by simp at h2; omega, by simpa [opsL] using hr⟩
  | o :: rest, j, s, ls, hrest, hr => by
    have hj : ops[j]? = some o := by have := hrest 0; simp at this; exact this.symm
    rw [opsL, runP_step, Option.bind_eq_some_iff] at hr
    obtain ⟨⟨s', L⟩, hstep, hr⟩ := hr
    obtain ⟨st, lg, e1, e2, e3⟩ := opsL_run rest (j + 1) s' (L :: ls) (fun i => by have := hrest (i + 1); simp at this; rw [this]; congr 1; omega) hr
    refine ⟨fun i => if i = j then s else st i, fun i => if i = j then L else lg i, by simp, fun i o' h1 h2 ho => ?_, ?_⟩
    · by_cases hij : i = j
      · subst hij
        rw [hj] at ho; cases ho
        show stepP E _ (if i = i then s else st i) emptyLog = some (if i + 1 = i then s else st (i + 1), if i = i then L else lg i)
        rw [if_pos rfl, if_pos rfl, if_neg (by omega), e1]; exact hstep
      · show stepP E _ (if i = j then s else st i) emptyLog = some (if i + 1 = j then s else st (i + 1), if i = j then L else lg i)
        rw [if_neg hij, if_neg (by omega), if_neg hij]
        exact e2 i o' (by omega) (by simp at h2; omega) ho
    · show K (if j + (rest.length + 1) = j then s else st (j + (rest.length + 1))) (((List.range' j (rest.length + 1)).map fun i => if i = j then L else lg i).reverse ++ ls) = some r
      rw [if_neg (by omega), List.range'_succ, List.map_cons, if_pos rfl, List.reverse_cons, List.append_assoc, List.singleton_append]
      have : (List.range' (j + 1) rest.length).map (fun i => if i = j then L else lg i) = (List.range' (j + 1) rest.length).map lg := by
        apply List.map_congr_left
        intro i hi
        have := List.mem_range'_1.1 hi
        rw [if_neg (by omega)]
      rw [this, show j + (rest.length + 1) = j + 1 + rest.length by omega]
      exact e3

section
variable {ops : Array Oper} {st : Nat → St} {lg : Nat → Log}

/-- The state when the operations of D have been done: each place as its last writer left it. -/
def MgT (n : Nat) (st : Nat → St) (lg : Nat → Log) (D : Nat → Prop) (t : St) (x : Nat) : Prop :=
  (∃ j, j < n ∧ D j ∧ x ∈ (lg j).wrT ∧ (∀ j', j < j' → j' < n → D j' → x ∉ (lg j').wrT) ∧ t.getT x = (st (j + 1)).getT x) ∨ ((∀ j, j < n → D j → x ∉ (lg j).wrT) ∧ t.getT x = (st 0).getT x)
def MgO (n : Nat) (st : Nat → St) (lg : Nat → Log) (D : Nat → Prop) (t : St) (x : Key) : Prop :=
  (∃ j, j < n ∧ D j ∧ x ∈ (lg j).wrO ∧ (∀ j', j < j' → j' < n → D j' → x ∉ (lg j').wrO) ∧ t.getO x = (st (j + 1)).getO x) ∨ ((∀ j, j < n → D j → x ∉ (lg j).wrO) ∧ t.getO x = (st 0).getO x)

theorem Run.mgT (h : Run P A E ops ops.size st lg) (x : Nat) : ∀ i, i ≤ ops.size → MgT ops.size st lg (· < i) (st i) x := by
  intro i
  induction i with
  | zero => intro _; exact .inr ⟨fun _ _ h => absurd h (Nat.not_lt_zero _), rfl⟩
  | succ i ih =>
    intro hi
    have ho : ops[i]? = some ops[i] := by simp [show i < ops.size by omega]
    have hs := step_log E _ (h.step i _ (by omega) ho)
    by_cases hx : x ∈ (lg i).wrT
    · exact .inl ⟨i, by omega, Nat.lt_succ_self i, hx, fun j' h1 _ h3 => by omega, rfl⟩
    · have hsame : (st (i + 1)).getT x = (st i).getT x := hs.2.2.2.2.1 x hx
      rcases ih (by omega) with ⟨j, h1, h2, h3, h4, h5⟩ | ⟨h1, h2⟩
      · refine .inl ⟨j, h1, by omega, h3, fun j' q1 q2 q3 => ?_, hsame.trans h5⟩
        by_cases hj : j' = i
        · rw [hj]; exact hx
        · exact h4 j' q1 q2 (by omega)
      · refine .inr ⟨fun j q1 q2 => ?_, hsame.trans h2⟩
        by_cases hj : j = i
        · rw [hj]; exact hx
        · exact h1 j q1 (by omega)
theorem Run.mgO (h : Run P A E ops ops.size st lg) (x : Key) : ∀ i, i ≤ ops.size → MgO ops.size st lg (· < i) (st i) x := by
  intro i
  induction i with
  | zero => intro _; exact .inr ⟨fun _ _ h => absurd h (Nat.not_lt_zero _), rfl⟩
  | succ i ih =>
    intro hi
    have ho : ops[i]? = some ops[i] := by simp [show i < ops.size by omega]
    have hs := step_log E _ (h.step i _ (by omega) ho)
    by_cases hx : x ∈ (lg i).wrO
    · exact .inl ⟨i, by omega, Nat.lt_succ_self i, hx, fun j' h1 _ h3 => by omega, rfl⟩
    · have hsame : (st (i + 1)).getO x = (st i).getO x := hs.2.2.2.2.2 x hx
      rcases ih (by omega) with ⟨j, h1, h2, h3, h4, h5⟩ | ⟨h1, h2⟩
      · refine .inl ⟨j, h1, by omega, h3, fun j' q1 q2 q3 => ?_, hsame.trans h5⟩
        by_cases hj : j' = i
        · rw [hj]; exact hx
        · exact h4 j' q1 q2 (by omega)
      · refine .inr ⟨fun j q1 q2 => ?_, hsame.trans h2⟩
        by_cases hj : j = i
        · rw [hj]; exact hx
        · exact h1 j q1 (by omega)

/-- Two such states agree at x where they know the same writers of it. -/
theorem MgT.same {n : Nat} {D D' : Nat → Prop} {t t' : St} {x : Nat} (h : MgT n st lg D t x) (h' : MgT n st lg D' t' x) (hw : ∀ j, j < n → x ∈ (lg j).wrT → (D j ↔ D' j)) : t'.getT x = t.getT x := by
  rcases h with ⟨j, a1, a2, a3, a4, a5⟩ | ⟨a1, a2⟩ <;> rcases h' with ⟨j', b1, b2, b3, b4, b5⟩ | ⟨b1, b2⟩
  · have : j = j' := by
      rcases Nat.lt_trichotomy j j' with h | h | h
      · exact absurd b3 (a4 j' h b1 ((hw j' b1 b3).2 b2))
      · exact h
      · exact absurd a3 (b4 j h a1 ((hw j a1 a3).1 a2))
    subst this
    rw [a5, b5]
  · exact absurd a3 (b1 j a1 ((hw j a1 a3).1 a2))
  · exact absurd b3 (a1 j' b1 ((hw j' b1 b3).2 b2))
  · rw [a2, b2]
theorem MgO.same {n : Nat} {D D' : Nat → Prop} {t t' : St} {x : Key} (h : MgO n st lg D t x) (h' : MgO n st lg D' t' x) (hw : ∀ j, j < n → x ∈ (lg j).wrO → (D j ↔ D' j)) : t'.getO x = t.getO x := by
  rcases h with ⟨j, a1, a2, a3, a4, a5⟩ | ⟨a1, a2⟩ <;> rcases h' with ⟨j', b1, b2, b3, b4, b5⟩ | ⟨b1, b2⟩
  · have : j = j' := by
      rcases Nat.lt_trichotomy j j' with h | h | h
      · exact absurd b3 (a4 j' h b1 ((hw j' b1 b3).2 b2))
      · exact h
      · exact absurd a3 (b4 j h a1 ((hw j a1 a3).1 a2))
    subst this
    rw [a5, b5]
  · exact absurd a3 (b1 j a1 ((hw j a1 a3).1 a2))
  · exact absurd b3 (a1 j' b1 ((hw j' b1 b3).2 b2))
  · rw [a2, b2]

/-! ### what must come ahead -/
theorem memN_iff {l : List Nat} {i : Nat} : memN l i = true ↔ i ∈ l := by
  unfold memN
  rw [List.any_eq_true]
  constructor
  · rintro ⟨x, hx, he⟩; rw [Nat.eq_of_beq_eq_true he]; exact hx
  · intro h; exact ⟨i, h, by simp⟩
theorem disj_spec {a b : List Nat} (h : disj a b = true) : ∀ x, x ∈ a → x ∉ b := by
  intro x hx hb
  have := List.all_eq_true.1 h x hx
  rw [memN_iff.2 hb] at this
  cases this
theorem edgesOk_spec : ∀ {rest : List Oper} {j : Nat}, edgesOk j rest = true → ∀ (i : Nat) (o : Oper), rest[i]? = some o → ∀ e ∈ o.after.toList, Region.binds .any e = true → e.on < j + i
  | [], j, _, i, o, ho => by simp at ho
  | x :: rest, j, h, i, o, ho => by
    rw [edgesOk, Bool.and_eq_true] at h
    intro e he hb
    cases i with
    | zero =>
      simp at ho
      subst ho
      have := List.all_eq_true.1 h.1 e he
      rw [hb] at this
      simp only [Bool.not_true, Bool.false_or] at this
      exact Nat.le_of_ble_eq_true this
    | succ i =>
      have := edgesOk_spec h.2 i o (by simpa using ho) e he hb
      omega

theorem testBit_orAll : ∀ {l : List Nat} {j : Nat}, (orAll l).testBit j = true ↔ ∃ x, x ∈ l ∧ x.testBit j = true
  | [], j => by simp [orAll]
  | x :: r, j => by
    rw [orAll, Nat.testBit_or, Bool.or_eq_true, testBit_orAll]
    constructor
    · rintro (h | ⟨y, hy, h⟩)
      · exact ⟨x, by simp, h⟩
      · exact ⟨y, by simp [hy], h⟩
    · rintro ⟨y, hy, h⟩
      rcases List.mem_cons.1 hy with rfl | hy
      · exact .inl h
      · exact .inr ⟨y, hy, h⟩
/-- The list of what comes ahead: by edges. -/
theorem ancs_spec : ∀ {rest : List Oper} {acc : List Nat}, edgesOk acc.length rest = true → ∃ l, ancs rest acc = acc ++ l ∧ l.length = rest.length ∧
    ∀ (i : Nat) (o : Oper), rest[i]? = some o → ∀ j, ((ancs rest acc).getD (acc.length + i) 0).testBit j = true ↔
      ∃ e, e ∈ o.after.toList ∧ Region.binds .any e = true ∧ (j = e.on ∨ ((ancs rest acc).getD e.on 0).testBit j = true)
  | [], acc, _ => ⟨[], by simp [ancs], rfl, by simp⟩
  | x :: rest, acc, h => by
    rw [edgesOk, Bool.and_eq_true] at h
    let y := orAll ((x.after.toList.filter (Region.binds .any)).map fun e => 2 ^ e.on ||| acc.getD e.on 0)
    have hlen : (acc ++ [y]).length = acc.length + 1 := by simp
    obtain ⟨l, e1, e2, e3⟩ := ancs_spec (rest := rest) (acc := acc ++ [y]) (by rw [hlen]; exact h.2)
    have e0 : ancs (x :: rest) acc = ancs rest (acc ++ [y]) := rfl
    have e1' : ancs (x :: rest) acc = acc ++ (y :: l) := by rw [e0, e1]; simp
    refine ⟨y :: l, e1', by simp [e2], fun i o ho j => ?_⟩
    cases i with
    | zero =>
      simp at ho
      subst ho
      have hy : (ancs (x :: rest) acc).getD (acc.length + 0) 0 = y := by rw [e1']; simp
      rw [hy]
      have hlt : ∀ e, e ∈ x.after.toList → Region.binds .any e = true → ((ancs (x :: rest) acc).getD e.on 0) = acc.getD e.on 0 := fun e he hb => by
        have : e.on < acc.length := by
          have := List.all_eq_true.1 h.1 e he
          rw [hb] at this
          simp only [Bool.not_true, Bool.false_or] at this
          exact Nat.le_of_ble_eq_true this
        rw [e1']
        simp only [List.getD_eq_getElem?_getD]
        rw [List.getElem?_append_left this]
      show y.testBit j = true ↔ _
      rw [show y = orAll _ from rfl, testBit_orAll]
      constructor
      · rintro ⟨m, hm, hj⟩
        obtain ⟨e, he, rfl⟩ := List.mem_map.1 hm
        rw [List.mem_filter] at he
        refine ⟨e, he.1, he.2, ?_⟩
        rw [hlt e he.1 he.2]
        rw [Nat.testBit_or, Bool.or_eq_true, Nat.testBit_two_pow, decide_eq_true_eq] at hj
        exact hj.imp Eq.symm id
      · rintro ⟨e, he, hb, hj⟩
        rw [hlt e he hb] at hj
        refine ⟨_, List.mem_map.2 ⟨e, List.mem_filter.2 ⟨he, hb⟩, rfl⟩, ?_⟩
        rw [Nat.testBit_or, Bool.or_eq_true, Nat.testBit_two_pow, decide_eq_true_eq]
        exact hj.imp Eq.symm id
    | succ i =>
      have := e3 i o (by simpa using ho) j
      rw [hlen] at this
      rw [e0, show acc.length + (i + 1) = acc.length + 1 + i by omega]
      exact this

/-- What is known of the order: what must come ahead, edge by edge; what is not ordered does not touch. -/
structure Ordered (ops : Array Oper) (lg : Nat → Log) (anc : Nat → Nat → Prop) : Prop where
  edge : ∀ (i : Nat) (o : Oper), ops[i]? = some o → ∀ j, anc i j ↔ ∃ e, e ∈ o.after.toList ∧ Region.binds .any e = true ∧ (j = e.on ∨ anc e.on j)
  less : ∀ (i : Nat) (o : Oper), ops[i]? = some o → ∀ e, e ∈ o.after.toList → Region.binds .any e = true → e.on < i
  apart : ∀ i j, i < j → j < ops.size → anc j i ∨ apartL (lg i) (lg j) = true

theorem ordered_of (h1 : edgesOk 0 ops.toList = true) (h2 : apartAll (ancs ops.toList []) ((List.range ops.size).map lg) = true) :
    Ordered ops lg fun i j => ((ancs ops.toList []).getD i 0).testBit j = true := by
  obtain ⟨l, e1, e2, e3⟩ := ancs_spec (acc := []) h1
  refine ⟨fun i o ho j => ?_, fun i o ho e he hb => ?_, fun i j hij hj => ?_⟩
  · have := e3 i o (by simpa using ho) j
    rw [List.length_nil, Nat.zero_add] at this
    exact this
  · have := edgesOk_spec h1 i o (by simpa using ho) e he hb
    omega
  · unfold apartAll at h2
    have h3 := List.all_eq_true.1 h2 j (by simp [hj])
    have h4 := List.all_eq_true.1 h3 i (List.mem_range.2 hij)
    rw [Bool.or_eq_true] at h4
    rcases h4 with h4 | h4
    · exact .inl h4
    · right
      have g : ∀ k, k < ops.size → ((List.range ops.size).map lg).getD k emptyLog = lg k := fun k hk => by simp [List.getD_eq_getElem?_getD, hk]
      rw [g i (by omega), g j hj] at h4
      exact h4

theorem apartL_spec {a b : Log} (h : apartL a b = true) : (∀ x, x ∈ a.wrT → x ∉ b.rdT ∧ x ∉ b.wrT) ∧ (∀ x, x ∈ b.wrT → x ∉ a.rdT) ∧ (∀ x, x ∈ a.wrO → x ∉ b.rdO ∧ x ∉ b.wrO) ∧ (∀ x, x ∈ b.wrO → x ∉ a.rdO) := by
  unfold apartL at h
  simp only [Bool.and_eq_true] at h
  obtain ⟨⟨⟨⟨⟨h1, h2⟩, h3⟩, h4⟩, h5⟩, h6⟩ := h
  exact ⟨fun x hx => ⟨disj_spec h1 x hx, disj_spec h2 x hx⟩, fun x hx => disj_spec h3 x hx, fun x hx => ⟨disj_spec h4 x hx, disj_spec h5 x hx⟩, fun x hx => disj_spec h6 x hx⟩

/-- D holds with each all that must come ahead of it. -/
def Closed (n : Nat) (anc : Nat → Nat → Prop) (D : Nat → Prop) : Prop := ∀ j, j < n → D j → ∀ k, anc j k → D k

/-- One more operation, its turn come: the state stays right. -/
theorem mg_step {anc : Nat → Nat → Prop} (ho : Ordered ops lg anc) (hr : Run P A E ops ops.size st lg) {D : Nat → Prop} (hD : Closed ops.size anc D) {t : St} (hT : ∀ x, MgT ops.size st lg D t x) (hO : ∀ x, MgO ops.size st lg D t x)
    {i : Nat} (hi : i < ops.size) (hn : ¬ D i) (hanc : ∀ k, anc i k → D k) :
    ∃ t', stepP E (guardP ops.toList ops[i] (opP P A ops[i])) t emptyLog = some (t', lg i) ∧ (∀ x, MgT ops.size st lg (fun j => D j ∨ j = i) t' x) ∧ (∀ x, MgO ops.size st lg (fun j => D j ∨ j = i) t' x) := by
  have hoi : ops[i]? = some ops[i] := by simp [hi]
  have hstep := hr.step i _ hi hoi
  have hs := step_log E _ hstep
  -- who touches what op i touches is ordered against it
  have cmp : ∀ j, j < ops.size → j ≠ i → (apartL (lg j) (lg i) = true → False) → (apartL (lg i) (lg j) = true → False) → (j < i ↔ D j) := fun j hj hne h1 h2 => by
    constructor
    · intro hlt
      rcases ho.apart j i hlt hi with h | h
      · exact hanc j h
      · exact (h1 h).elim
    · intro hDj
      rcases Nat.lt_or_gt_of_ne hne with h | h
      · exact h
      · rcases ho.apart i j h hj with h' | h'
        · exact absurd (hD j hj hDj i h') hn
        · exact (h2 h').elim
  have agree : Agrees (lg i) (st i) t := by
    refine ⟨fun x hx => ?_, fun x hx => ?_⟩
    · refine (hr.mgT x i (by omega)).same (hT x) fun j hj hw => ?_
      by_cases hji : j = i
      · subst hji; simp [hn]
      · exact cmp j hj hji (fun h => (apartL_spec h).1 x hw |>.1 hx) (fun h => (apartL_spec h).2.1 x hw hx)
    · refine (hr.mgO x i (by omega)).same (hO x) fun j hj hw => ?_
      by_cases hji : j = i
      · subst hji; simp [hn]
      · exact cmp j hj hji (fun h => (apartL_spec h).2.2.1 x hw |>.1 hx) (fun h => (apartL_spec h).2.2.2 x hw hx)
  obtain ⟨t', h1, h2, h3, h4, h5⟩ := step_local E _ hstep agree
  have hs' := step_log E _ h1
  refine ⟨t', h1, fun x => ?_, fun x => ?_⟩
  · by_cases hx : x ∈ (lg i).wrT
    · refine .inl ⟨i, hi, .inr rfl, hx, fun j' q1 q2 q3 hw => ?_, h4 x hx (by simp [emptyLog])⟩
      rcases q3 with q3 | q3
      · rcases ho.apart i j' q1 q2 with h | h
        · exact hn (hD j' q2 q3 i h)
        · exact ((apartL_spec h).1 x hx).2 hw
      · omega
    · have e : t'.getT x = t.getT x := hs'.2.2.2.2.1 x hx
      rcases hT x with ⟨j, a1, a2, a3, a4, a5⟩ | ⟨a1, a2⟩
      · refine .inl ⟨j, a1, .inl a2, a3, fun j' q1 q2 q3 => ?_, e.trans a5⟩
        rcases q3 with q3 | q3
        · exact a4 j' q1 q2 q3
        · rw [q3]; exact hx
      · refine .inr ⟨fun j q1 q2 => ?_, e.trans a2⟩
        rcases q2 with q2 | q2
        · exact a1 j q1 q2
        · rw [q2]; exact hx
  · by_cases hx : x ∈ (lg i).wrO
    · refine .inl ⟨i, hi, .inr rfl, hx, fun j' q1 q2 q3 hw => ?_, h5 x hx (by simp [emptyLog])⟩
      rcases q3 with q3 | q3
      · rcases ho.apart i j' q1 q2 with h | h
        · exact hn (hD j' q2 q3 i h)
        · exact ((apartL_spec h).2.2.1 x hx).2 hw
      · omega
    · have e : t'.getO x = t.getO x := hs'.2.2.2.2.2 x hx
      rcases hO x with ⟨j, a1, a2, a3, a4, a5⟩ | ⟨a1, a2⟩
      · refine .inl ⟨j, a1, .inl a2, a3, fun j' q1 q2 q3 => ?_, e.trans a5⟩
        rcases q3 with q3 | q3
        · exact a4 j' q1 q2 q3
        · rw [q3]; exact hx
      · refine .inr ⟨fun j q1 q2 => ?_, e.trans a2⟩
        rcases q2 with q2 | q2
        · exact a1 j q1 q2
        · rw [q2]; exact hx

/-- How many are still to come. -/
def left (n : Nat) (listed : Array Bool) : List Nat := (List.range n).filter fun i => !listed.getD i true
theorem mem_ready {listed : Array Bool} {i : Nat} : i ∈ Region.ready .any ops listed ↔ i < ops.size ∧ listed.getD i true = false ∧ ∀ o, ops[i]? = some o → ∀ e, e ∈ o.after.toList → Region.binds .any e = true → listed.getD e.on false = true := by
  unfold Region.ready
  rw [List.mem_filter, List.mem_range]
  constructor
  · rintro ⟨h1, h2⟩
    rw [Bool.and_eq_true, Bool.not_eq_true'] at h2
    refine ⟨h1, h2.1, fun o ho e he hb => ?_⟩
    rw [ho] at h2
    simp only [Option.map_some, Option.getD_some] at h2
    have := Array.all_eq_true_iff_forall_mem.1 h2.2 e (by simpa using he)
    rw [hb] at this
    simpa using this
  · rintro ⟨h1, h2, h3⟩
    refine ⟨h1, ?_⟩
    have ho : ops[i]? = some ops[i] := by simp [h1]
    rw [Bool.and_eq_true, Bool.not_eq_true', ho]
    refine ⟨h2, ?_⟩
    simp only [Option.map_some, Option.getD_some]
    refine Array.all_eq_true_iff_forall_mem.2 fun e he => ?_
    cases hb : Region.binds .any e with
    | false => rfl
    | true => simpa using h3 _ ho e (by simpa using he) hb

theorem anyOrder (hE : ∀ g args r, E g args = some r → Meets P (A g) g args r) {n : Nat} {tp : Option Nat} {a0 : Array Value} (hdst : ∀ (i : Nat) (o : Oper), ops[i]? = some o → ∀ d, o.dst = some d → d < n ∧ tp ≠ some d) {anc : Nat → Nat → Prop} (ho : Ordered ops lg anc) (hr : Run P A E ops ops.size st lg)
    {Q : Exit → Act → World → Prop} (hQ : ∀ a' w' val' fp', Inv c (st ops.size) a' w' val' fp' → KT a0 tp n a' → Kp c.own w0 w' → Q .normal a' w') :
    ∀ (fuel : Nat) (listed : Array Bool) (t : St) (a : Act) (w : World) (val : Key → Value) (fp : Key → List Nat), listed.size = ops.size → (left ops.size listed).length = fuel →
      Closed ops.size anc (fun i => listed.getD i false = true) → (∀ x, MgT ops.size st lg (fun i => listed.getD i false = true) t x) → (∀ x, MgO ops.size st lg (fun i => listed.getD i false = true) t x) →
      Inv c t a w val fp → KT a0 tp n a → Kp c.own w0 w → wpAny P .any ops Q fuel listed a w := by
  -- all done: the state is the one at the end of the text
  have fin : ∀ (listed : Array Bool) (t : St) (a : Act) (w : World) (val : Key → Value) (fp : Key → List Nat), (∀ i, i < ops.size → listed.getD i false = true) → (∀ x, MgT ops.size st lg (fun i => listed.getD i false = true) t x) →
      (∀ x, MgO ops.size st lg (fun i => listed.getD i false = true) t x) → Inv c t a w val fp → KT a0 tp n a → Kp c.own w0 w → Q .normal a w := by
    intro listed t a w val fp hall hT hO hinv hn hk
    refine hQ a w val fp (hinv.eqv ⟨fun x => ?_, fun x => ?_⟩) hn hk
    · exact (hT x).same (hr.mgT x ops.size (Nat.le_refl _)) fun j hj _ => by simp [hall j hj, hj]
    · exact (hO x).same (hr.mgO x ops.size (Nat.le_refl _)) fun j hj _ => by simp [hall j hj, hj]
  have none_ready : ∀ (listed : Array Bool), listed.size = ops.size → Region.ready .any ops listed = [] → ∀ i, i < ops.size → listed.getD i false = true := by
    intro listed hsz hnil i
    induction i using Nat.strongRecOn with
    | _ i ih =>
      intro hi
      have hoi : ops[i]? = some ops[i] := by simp [hi]
      cases hl : listed.getD i true with
      | true =>
        have : i < listed.size := by omega
        simp only [Array.getD_eq_getD_getElem?, this, getElem?_pos, Option.getD_some] at hl ⊢
        exact hl
      | false =>
        exfalso
        have hm : i ∈ Region.ready .any ops listed := mem_ready.2 ⟨hi, hl, fun o hoo e he hb => ih e.on (ho.less i o hoo e he hb) (Nat.lt_trans (ho.less i o hoo e he hb) hi)⟩
        rw [hnil] at hm
        simp at hm
  intro fuel
  induction fuel with
  | zero =>
    intro listed t a w val fp hsz hfuel hcl hT hO hinv hn hk
    have hnil : left ops.size listed = [] := List.eq_nil_of_length_eq_zero hfuel
    have hready : Region.ready .any ops listed = [] := by
      cases hq : Region.ready .any ops listed with
      | nil => rfl
      | cons i l =>
        have hm : i ∈ Region.ready .any ops listed := by rw [hq]; simp
        obtain ⟨h1, h2, _⟩ := mem_ready.1 hm
        have : i ∈ left ops.size listed := by unfold left; rw [List.mem_filter, List.mem_range]; exact ⟨h1, by rw [h2]; rfl⟩
        rw [hnil] at this
        simp at this
    exact ⟨hready, fin listed t a w val fp (none_ready listed hsz hready) hT hO hinv hn hk⟩
  | succ fuel ih =>
    intro listed t a w val fp hsz hfuel hcl hT hO hinv hn hk
    refine ⟨fun hready => fin listed t a w val fp (none_ready listed hsz hready) hT hO hinv hn hk, fun i hi => ?_⟩
    obtain ⟨h1, h2, h3⟩ := mem_ready.1 hi
    have hoi : ops[i]? = some ops[i] := by simp [h1]
    have hnD : ¬ listed.getD i false = true := by
      have : i < listed.size := by omega
      simp only [Array.getD_eq_getD_getElem?, this, getElem?_pos, Option.getD_some] at h2 ⊢
      rw [h2]; simp
    have hlt : ∀ k, anc i k → listed.getD k false = true := fun k hk => by
      obtain ⟨e, he, hb, hj⟩ := (ho.edge i _ hoi k).1 hk
      have hl := h3 _ hoi e he hb
      rcases hj with rfl | hj
      · exact hl
      · exact hcl e.on (Nat.lt_trans (ho.less i _ hoi e he hb) h1) hl k hj
    obtain ⟨t', hstep, hT', hO'⟩ := mg_step ho hr hcl hT hO h1 hnD hlt
    have hD : ∀ j, (listed.setIfInBounds i true).getD j false = true ↔ (listed.getD j false = true ∨ j = i) := fun j => by
      simp only [Array.getD_eq_getD_getElem?]
      by_cases hji : j = i
      · subst hji
        have : j < listed.size := by omega
        simp [this]
      · rw [Array.getElem?_setIfInBounds_ne (fun e => hji e.symm)]
        simp [hji]
    refine wpOp_mono (fun a' w' ⟨q1, val', fp', q2, q3⟩ => ?_) (guard_sound hinv hE hoi (fun d hd => by rw [hn.1]; exact (hdst i _ hoi d hd).1) hstep)
    refine ih (listed.setIfInBounds i true) t' a' w' val' fp' (by simpa using hsz) ?_ ?_ (fun x => ?_) (fun x => ?_) q2 (hn.next q1 fun d hd => (hdst i _ hoi d hd).2) (hk.trans q3)
    · have e : left ops.size (listed.setIfInBounds i true) = (left ops.size listed).filter fun j => !Nat.beq j i := by
        unfold left
        rw [List.filter_filter]
        apply List.filter_congr
        intro j hj
        have hj' := List.mem_range.1 hj
        simp only [Array.getD_eq_getD_getElem?]
        by_cases hji : j = i
        · subst hji
          have : j < listed.size := by omega
          simp [this]
        · rw [Array.getElem?_setIfInBounds_ne (fun e => hji e.symm), nbeq hji]
          simp
      have hcount : ∀ (l : List Nat), l.Nodup → i ∈ l → (l.filter fun j => !Nat.beq j i).length + 1 = l.length := by
        intro l
        induction l with
        | nil => intro _ h; simp at h
        | cons y l ih =>
          intro hnd hm
          rw [List.nodup_cons] at hnd
          by_cases hy : y = i
          · subst hy
            have : (l.filter fun j => !Nat.beq j y) = l := List.filter_eq_self.2 fun j hj => by rw [nbeq (fun e => hnd.1 (by rw [← e]; exact hj))]; rfl
            simp [this]
          · have hm' : i ∈ l := (List.mem_cons.1 hm).resolve_left fun e => hy e.symm
            rw [List.filter_cons, nbeq hy]
            simp only [Bool.not_false, if_true, List.length_cons]
            have := ih hnd.2 hm'
            omega
      have hmem : i ∈ left ops.size listed := by unfold left; rw [List.mem_filter, List.mem_range]; exact ⟨h1, by rw [h2]; rfl⟩
      have := hcount (left ops.size listed) (List.Nodup.sublist List.filter_sublist List.nodup_range) hmem
      rw [e]; omega
    · intro j hj hDj k hk
      rw [hD] at hDj ⊢
      rcases hDj with hDj | rfl
      · exact .inl (hcl j hj hDj k hk)
      · exact .inl (hlt k hk)
    · have := hT' x
      unfold MgT at this ⊢
      simp only [hD]
      exact this
    · have := hO' x
      unfold MgO at this ⊢
      simp only [hD]
      exact this
end
end
end Ev
