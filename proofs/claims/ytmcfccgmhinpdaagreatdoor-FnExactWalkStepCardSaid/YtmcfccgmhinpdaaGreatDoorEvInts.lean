/- Ev: own arrays of whole numbers, in the words of the kit's contracts (Holds, putRow, grow). -/
import Derived.Test.YtmcfccgmhinpdaaGreatDoorEvRow
import Derived.Sort.Row
import Derived.Sort.Grow
import Derived.Lib.SlicesCompact
namespace Ev
open Go Go.Sort Go.RowKit

def intsOf : List T → Option (List Int)
  | [] => some []
  | x :: r => match x with
    | .int .i64 n => (intsOf r).map (n :: ·)
    | _ => none
def intsT (zs : List Int) : List T := zs.map (T.int .i64)
theorem intsOf_intsT : ∀ zs : List Int, intsOf (intsT zs) = some zs
  | [] => rfl
  | z :: zs => by
    show (intsOf (intsT zs)).map (z :: ·) = some (z :: zs)
    rw [intsOf_intsT zs]; rfl
theorem intsOf_eq : ∀ {cs : List T} {zs : List Int}, intsOf cs = some zs → cs = intsT zs
  | [], zs, h => by
    have : some [] = some zs := h
    cases this; rfl
  | x :: r, zs, h => by
    unfold intsOf at h
    split at h
    · rename_i n
      rw [Option.map_eq_some_iff] at h
      obtain ⟨zs', h1, rfl⟩ := h
      rw [intsOf_eq h1]; rfl
    · cases h

theorem get_intsT {zs : List Int} {i : Nat} {x : T} (h : (intsT zs)[i]? = some x) : x = .int .i64 zs[i]! := by
  unfold intsT at h
  rw [List.getElem?_map, Option.map_eq_some_iff] at h
  obtain ⟨n, hn, rfl⟩ := h
  have := List.getElem?_eq_some_iff.1 hn
  obtain ⟨hi, hn⟩ := this
  rw [getElem!_pos zs i hi, hn]

theorem ro_ints {w : World} {g cap : Nat} {cur : Array Value} {e : TypeId} {zs : List Int} (hg : w.heap[g]? = some (.cells cur e (0, 0))) (hcap : zs.length ≤ cap) (hmax : cap ≤ maxLen) (hcur : cur.size = cap)
    (hv : ∀ i, i < zs.length → cur[i]? = some (.int .i64 zs[i]!)) : RO w (.sl 1 (intsT zs)) (.slice (some ⟨g, 0, none⟩) zs.length cap) [g] := by
  have hF : (List.range (intsT zs).length).flatMap (fun _ : Nat => ([] : List Nat)) = [] := by
    simp
  have h := RO.sl (w := w) (sz := 1) (cells := intsT zs) (g := g) (len := zs.length) (cap := cap) (cur := cur) (e := e) (fun i => .int .i64 zs[i]!) (fun _ => []) (Nat.one_pos) hg
    (by simp [intsT]) hcap hmax (by rw [hcur, Nat.mul_one]) (fun i hi => hv i (by simpa [intsT] using hi)) (fun i x hi => by rw [get_intsT hi]; exact .int _ _) (by rw [hF]; simp)
  rw [hF] at h
  exact h

theorem ro_ints_inv {w : World} {zs : List Int} {v : Value} {F : List Nat} (h : RO w (.sl 1 (intsT zs)) v F) :
    (zs = [] ∧ F = [] ∧ ∃ a, v = .slice a 0 0) ∨ ∃ g cap cur e, v = .slice (some ⟨g, 0, none⟩) zs.length cap ∧ F = [g] ∧ w.heap[g]? = some (.cells cur e (0, 0)) ∧ zs.length ≤ cap ∧ cap ≤ maxLen ∧ cur.size = cap ∧
      ∀ i, i < zs.length → cur[i]? = some (.int .i64 zs[i]!) := by
  generalize hx : T.sl 1 (intsT zs) = x at h
  cases h with
  | int => cases hx
  | bool => cases hx
  | str => cases hx
  | hole => cases hx
  | mp => cases hx
  | nil hsz =>
    rename_i sz a
    injection hx with h1 h2
    have : zs = [] := by
      cases zs with
      | nil => rfl
      | cons => simp [intsT] at h2
    exact .inl ⟨this, rfl, _, rfl⟩
  | sl vs fs hsz hg hlen hcap hmax hcur hv hc hnd =>
    rename_i sz cells g len cap cur e
    injection hx with h1 h2
    subst h1
    subst h2
    have hl : len = zs.length := by simpa [intsT] using hlen.symm
    subst hl
    have each : ∀ i, i < zs.length → vs i = .int .i64 zs[i]! ∧ fs i = [] := fun i hi => by
      have hi' : i < (intsT zs).length := by simpa [intsT] using hi
      have h3 := hc i _ (List.getElem?_eq_getElem hi')
      rw [get_intsT (List.getElem?_eq_getElem hi')] at h3
      generalize vs i = u at h3
      generalize fs i = G at h3
      cases h3
      exact ⟨rfl, rfl⟩
    have hF : (List.range (intsT zs).length).flatMap fs = [] := by
      rw [List.flatMap_eq_nil_iff]
      intro i hi
      exact (each i (by simpa [intsT] using hi)).2
    rw [hF]
    exact .inr ⟨g, cap, cur, e, rfl, rfl, hg, hcap, hmax, by simpa using hcur, fun i hi => by rw [hv i (by simpa [intsT] using hi), (each i hi).1]⟩

theorem holds_ints {w : World} {g : Nat} {cur : Array Value} {e : TypeId} {zs : List Int} (hg : w.heap[g]? = some (.cells cur e (0, 0))) (hv : ∀ i, i < zs.length → cur[i]? = some (.int .i64 zs[i]!)) :
    Holds (Value.int .i64) w g 0 zs.toArray := fun j hj => by
  have hj' : j < zs.length := by simpa using hj
  refine ⟨?_, ?_⟩
  · rw [Nat.zero_add, cell_of_cells hg, hv j hj']
    simp [hj']
  · simp [World.frozen?, hg]

/-- What a contract of the kit leaves: the row's cells are new, behind the heap there is more. -/
theorem after_row {w : World} {g n : Nat} {cur : Array Value} {e : TypeId} {d : Array Int} {os : Array Obj} (hg : w.heap[g]? = some (.cells cur e (0, 0))) :
    Kp (· ∈ [g]) w (grow (putRow (Value.int .i64) (Sort.ahead w n) g 0 d) os) ∧
    (grow (putRow (Value.int .i64) (Sort.ahead w n) g 0 d) os).heap[g]? = some (.cells (putCells (Value.int .i64) 0 d cur) e (0, 0)) := by
  have hlt := heap_lt hg
  have hs : (putRow (Value.int .i64) (Sort.ahead w n) g 0 d).heap.size = w.heap.size := by rw [size_putRow]; rfl
  refine ⟨⟨rfl, rfl, rfl, ?_, fun b hb hn => ?_⟩, ?_⟩
  · show w.heap.size ≤ ((putRow (Value.int .i64) (Sort.ahead w n) g 0 d).heap ++ os).size
    rw [Array.size_append, hs]; omega
  · show ((putRow (Value.int .i64) (Sort.ahead w n) g 0 d).heap ++ os)[b]? = _
    rw [Array.getElem?_append_left (by rw [hs]; exact hb)]
    have hne : g ≠ b := fun e => hn (by simp [e])
    simp [putRow, mapBlock, Array.getElem?_modify, hne, Sort.ahead]
  · show ((putRow (Value.int .i64) (Sort.ahead w n) g 0 d).heap ++ os)[g]? = _
    rw [Array.getElem?_append_left (by rw [hs]; exact hlt)]
    simp [putRow, mapBlock, Array.getElem?_modify, Sort.ahead, hg, onCells]
theorem put_get {d : Array Int} {cur : Array Value} {i : Nat} (hd : d.size ≤ cur.size) (hi : i < d.size) : (putCells (Value.int .i64) 0 d cur)[i]? = some (.int .i64 d[i]!) := by
  have : i < cur.size := by omega
  simp [putCells, Array.getElem?_mapIdx, this, hi]

/-- slices.Sort: what it computes. -/
def sortE : Env → List T → R := fun _ args => match args with
  | [.sl 1 cs] => (intsOf cs).bind fun zs => bif decide (zs.length < 4611686018427387904) then some (.tup [], [.sl 1 (intsT (zs.mergeSort fun x y => decide (x ≤ y)))]) else none
  | _ => none
theorem sort_sound {P : Program} {f : FuncId} {fn : Func} (hf : P.funcs[f]? = some fn) (hb : fn.body.isSome = true) (hname : (fn.name == "runtime.NumGoroutine") = false)
    (h1 : ∀ (blk off cap : Nat) (zs : List Int) (w : World), Holds (Value.int .i64) w blk off zs.toArray → blk < w.heap.size → zs.length < 4611686018427387904 →
      Calls P f #[.slice (some ⟨blk, off, none⟩) zs.length cap] w fun e w' => e = .returned (.tuple #[]) ∧ ∃ n os, w' = grow (putRow (Value.int .i64) (Sort.ahead w n) blk off (zs.mergeSort fun x y => decide (x ≤ y)).toArray) os)
    (h0 : ∀ (p : Option Addr) (cap : Nat) (w : World), Calls P f #[.slice p 0 cap] w fun e w' => e = .returned (.tuple #[]) ∧ w' = w)
    {E : Env} {args : List T} {r : T × List T} (h : sortE E args = some r) : Meets P ⟨some 0, .sl, false, false, false⟩ f args r := by
  unfold sortE at h
  split at h
  case h_2 => cases h
  rename_i cs
  rw [Option.bind_eq_some_iff] at h
  obtain ⟨zs, hcs, h⟩ := h
  replace h := ev_true h
  obtain ⟨hlen, h⟩ := h
  have hlen : zs.length < 4611686018427387904 := by simpa using hlen
  cases h
  have := intsOf_eq hcs
  subst this
  intro w I J vs F hp
  obtain ⟨x, v, hx, hv, ha⟩ := hp.turned 0 rfl
  have hx : T.sl 1 (intsT zs) = x := by simpa using hx
  subst hx
  have hvs : vs = #[v] := by
    have hl : vs.size = 1 := hp.len
    apply Array.ext
    · rw [hl]; rfl
    · intro i h2 h3
      have : i = 0 := by rw [hl] at h2; omega
      subst this
      have := Array.getElem?_eq_some_iff.1 hv
      obtain ⟨_, h4⟩ := this
      simpa using h4
  subst hvs
  have hro : RO w (.sl 1 (intsT zs)) v F := ha.2
  refine does_calls hf hb hname ?_
  have hres : ∀ (w' : World) (I' J' : Nat → Prop), ResT w' I' J' false (.tup []) (.tuple #[]) [] := fun w' I' J' => ⟨#[], fun _ => [], rfl, rfl, by simp [ND, flat], rfl, by simp⟩
  rcases ro_ints_inv hro with ⟨rfl, rfl, a, rfl⟩ | ⟨g, cap, cur, e, rfl, rfl, hg, hcap, hmax, hcur, hcells⟩
  · refine Calls.mono (h0 a 0 w) ?_
    rintro _ _ ⟨rfl, rfl⟩
    refine ⟨_, rfl, [], [], Kp.refl _ _, by simp, by simp, hres _ _ _, .inr (.inl ⟨0, _, _, rfl, rfl, rfl, hv, ⟨_, _, rfl⟩, ?_⟩)⟩
    have : (([] : List Int).mergeSort fun x y => decide (x ≤ y)) = [] := List.mergeSort_nil
    rw [this]
    exact .nil Nat.one_pos
  · refine Calls.mono (h1 g 0 cap zs w (holds_ints hg hcells) (heap_lt hg) hlen) ?_
    rintro _ _ ⟨rfl, n, os, rfl⟩
    obtain ⟨q1, q2⟩ := after_row (n := n) (d := (zs.mergeSort fun x y => decide (x ≤ y)).toArray) (os := os) hg
    refine ⟨_, rfl, [], [g], q1, fun b hb => .inl (by simpa using hb), by simp, hres _ _ _, .inr (.inl ⟨0, _, _, rfl, rfl, rfl, hv, ⟨_, _, rfl⟩, ?_⟩)⟩
    have hl : (zs.mergeSort fun x y => decide (x ≤ y)).length = zs.length := List.length_mergeSort _
    have h5 := ro_ints (zs := zs.mergeSort fun x y => decide (x ≤ y)) (cap := cap) q2 (by rw [hl]; exact hcap) hmax (by simpa [putCells] using hcur) (fun i hi => by
      rw [put_get (by simp; omega) (by simpa using hi)]
      simp [hi])
    rw [hl] at h5
    exact h5

/-- slices.Compact: what it computes. -/
def compactE : Env → List T → R := fun _ args => match args with
  | [.sl 1 cs] => (intsOf cs).bind fun zs => bif decide (zs.length < 4611686018427387904) then some (.sl 1 (intsT (Lib.compact zs)), []) else none
  | _ => none
theorem compact_len (zs : List Int) : (Lib.compact zs).length ≤ zs.length := by
  unfold Lib.compact Lib.compactUpTo
  rw [List.length_map]
  exact Nat.le_trans (List.length_filter_le _ _) (by simp)
theorem compact_sound {P : Program} {f : FuncId} {fn : Func} (hf : P.funcs[f]? = some fn) (hb : fn.body.isSome = true) (hname : (fn.name == "runtime.NumGoroutine") = false)
    (h1 : ∀ (blk off cap : Nat) (zs : List Int) (w : World), Holds (Value.int .i64) w blk off zs.toArray → zs.length ≤ 9223372036854775807 → zs.length ≤ cap →
      Calls P f #[.slice (some ⟨blk, off, none⟩) zs.length cap] w fun e w' => e = .returned (.slice (some ⟨blk, off, none⟩) (Lib.compact zs).length cap) ∧
        ∃ q, w' = putRow (Value.int .i64) (Sort.ahead w q) blk off (Lib.compact zs ++ List.replicate (zs.length - (Lib.compact zs).length) 0).toArray)
    (h0 : ∀ (p : Option Addr) (cap : Nat) (w : World), Calls P f #[.slice p 0 cap] w fun e w' => e = .returned (.slice p 0 cap) ∧ w' = w)
    {E : Env} {args : List T} {r : T × List T} (h : compactE E args = some r) : Meets P ⟨some 0, .sl, true, true, false⟩ f args r := by
  unfold compactE at h
  split at h
  case h_2 => cases h
  rename_i cs
  rw [Option.bind_eq_some_iff] at h
  obtain ⟨zs, hcs, h⟩ := h
  replace h := ev_true h
  obtain ⟨hlen, h⟩ := h
  have hlen : zs.length < 4611686018427387904 := by simpa using hlen
  cases h
  have := intsOf_eq hcs
  subst this
  intro w I J vs F hp
  obtain ⟨x, v, hx, hv, ha⟩ := hp.turned 0 rfl
  have hx : T.sl 1 (intsT zs) = x := by simpa using hx
  subst hx
  have hvs : vs = #[v] := by
    have hl : vs.size = 1 := hp.len
    apply Array.ext
    · rw [hl]; rfl
    · intro i h2 h3
      have : i = 0 := by rw [hl] at h2; omega
      subst this
      have := Array.getElem?_eq_some_iff.1 hv
      obtain ⟨_, h4⟩ := this
      simpa using h4
  subst hvs
  have hro : RO w (.sl 1 (intsT zs)) v F := ha.2
  refine does_calls hf hb hname ?_
  rcases ro_ints_inv hro with ⟨rfl, rfl, a, rfl⟩ | ⟨g, cap, cur, e, rfl, rfl, hg, hcap, hmax, hcur, hcells⟩
  · refine Calls.mono (h0 a 0 w) ?_
    rintro _ _ ⟨rfl, rfl⟩
    refine ⟨_, rfl, [], [], Kp.refl _ _, by simp, by simp, ?_, .inr (.inr ⟨rfl, rfl, rfl⟩)⟩
    exact RO.nil Nat.one_pos
  · refine Calls.mono (h1 g 0 cap zs w (holds_ints hg hcells) (by omega) hcap) ?_
    rintro _ _ ⟨rfl, n, rfl⟩
    obtain ⟨q1, q2⟩ := after_row (n := n) (d := (Lib.compact zs ++ List.replicate (zs.length - (Lib.compact zs).length) 0).toArray) (os := #[]) hg
    rw [grow_empty] at q1 q2
    refine ⟨_, rfl, [g], [], q1, fun b hb => .inl (by simpa using hb), by simp, ?_, .inr (.inr ⟨rfl, rfl, rfl⟩)⟩
    have hl := compact_len zs
    have hds : (Lib.compact zs ++ List.replicate (zs.length - (Lib.compact zs).length) 0).length = zs.length := by simp; omega
    exact ro_ints (zs := Lib.compact zs) (cap := cap) q2 (by omega) hmax (by simpa [putCells] using hcur) (fun i hi => by
      rw [put_get (by rw [List.size_toArray, hds]; omega) (by rw [List.size_toArray, hds]; omega)]
      rw [getElem!_pos _ i (by rw [List.size_toArray, hds]; omega), List.getElem_toArray, List.getElem_append_left hi, getElem!_pos _ i hi])

/-- slices.Clone of whole numbers: what it computes. -/
def cloneE : Env → List T → R := fun _ args => match args with
  | [.sl 1 cs] => (intsOf cs).bind fun zs => bif decide (zs.length * 8 ≤ 140737488355328) then some (.sl 1 (intsT zs), []) else none
  | _ => none
theorem clone_sound {P : Program} {f : FuncId} {fn : Func} {el : TypeId} (hf : P.funcs[f]? = some fn) (hb : fn.body.isSome = true) (hname : (fn.name == "runtime.NumGoroutine") = false)
    (h1 : ∀ (b off n c : Nat) (zs : List Int) (w : World), n ≤ zs.length → n * 8 ≤ 140737488355328 → (∀ j, j < zs.length → w.cell? ⟨b, off + j, none⟩ = some (.int .i64 (zs.getD j 0))) →
      Calls P f #[.slice (some ⟨b, off, none⟩) n c] w fun e w' => ∃ v', e = .returned v' ∧ w'.ownsRow w.heap.size el 1 v' n ((zs.take n).map (Value.int .i64)) ∧ v' ≠ .slice none 0 0 ∧ Below w.heap.size w w')
    (h00 : ∀ (a : Addr) (c : Nat) (w : World), Calls P f #[.slice (some a) 0 c] w fun e w' => ∃ v', e = .returned v' ∧ w'.ownsRow w.heap.size el 1 v' 0 [] ∧ v' ≠ .slice none 0 0 ∧ Below w.heap.size w w')
    (h0 : ∀ (n c : Nat) (w : World), Calls P f #[.slice none n c] w fun e w' => e = .returned (.slice none 0 0) ∧ w' = w)
    {E : Env} {args : List T} {r : T × List T} (h : cloneE E args = some r) : Meets P ⟨none, .sl, true, false, false⟩ f args r := by
  unfold cloneE at h
  split at h
  case h_2 => cases h
  rename_i cs
  rw [Option.bind_eq_some_iff] at h
  obtain ⟨zs, hcs, h⟩ := h
  replace h := ev_true h
  obtain ⟨hbig, h⟩ := h
  have hbig : zs.length * 8 ≤ 140737488355328 := by simpa using hbig
  cases h
  have := intsOf_eq hcs
  subst this
  intro w I J vs F hp
  obtain rfl : F = [] := hp.none rfl
  have hl : vs.size = 1 := hp.len
  obtain ⟨v, rfl⟩ : ∃ v, vs = #[v] := ⟨vs[0], by
    apply Array.ext
    · simp [hl]
    · intro i h2 h3
      have : i = 0 := by rw [hl] at h2; omega
      subst this
      rfl⟩
  have hv := hp.vals 0 (.sl 1 (intsT zs)) v (fun h => by cases h) rfl rfl
  have hrb : RB w I J (.sl 1 (intsT zs)) v := hv.1
  refine does_calls hf hb hname ?_
  have hil : (intsT zs).length = zs.length := by simp [intsT]
  have fin : ∀ (v' : Value) (w' : World), w'.ownsRow w.heap.size el 1 v' zs.length (zs.map (Value.int .i64)) → Below w.heap.size w w' →
      ∃ Fr Fo, Done ⟨none, .sl, true, false, false⟩ w I J #[v] [] (.sl 1 (intsT zs), []) v' w' Fr Fo := fun v' w' ho hbel => by
    have hkp : Kp (· ∈ ([] : List Nat)) w w' := ⟨hbel.os, hbel.tape, hbel.output, hbel.size, fun b hb _ => hbel.block b hb⟩
    obtain ⟨_, ⟨rfl, hn⟩ | ⟨g, cap, cur, rfl, hbase, hg, hcap, hcm, hcur, htake⟩⟩ := ho
    · have : zs = [] := List.eq_nil_of_length_eq_zero hn
      subst this
      exact ⟨[], [], hkp, by simp, by simp, RO.nil Nat.one_pos, .inl ⟨rfl, rfl, rfl⟩⟩
    · refine ⟨[g], [], hkp, fun b hb => .inr (by simp at hb; omega), by simp, ro_ints hg hcap hcm (by simpa using hcur) fun i hi => ?_, .inl ⟨rfl, rfl, rfl⟩⟩
      have h3 : (zs.map (Value.int .i64))[i]? = cur.toList[i]? := by
        rw [← htake, List.getElem?_take, if_pos (by omega)]
      rw [List.getElem?_map, List.getElem?_eq_getElem hi] at h3
      rw [getElem!_pos zs i hi, ← Array.getElem?_toList, ← h3]
      rfl
  generalize hx : T.sl 1 (intsT zs) = x at hrb
  cases hrb with
  | sl us hs' hlen hcap ha hcs' =>
    rename_i sz' cells a len cap
    injection hx with e1 e2
    subst e1
    subst e2
    have hlen : zs.length = len := by rw [hil, Nat.mul_one] at hlen; exact hlen
    subst hlen
    by_cases h0c : zs = []
    · subst h0c
      cases a with
      | none =>
        refine Calls.mono (h0 0 cap w) ?_
        rintro _ _ ⟨rfl, rfl⟩
        exact ⟨_, rfl, [], [], Kp.refl _ _, by simp, by simp, RO.nil Nat.one_pos, .inl ⟨rfl, rfl, rfl⟩⟩
      | some a =>
        refine Calls.mono (h00 a cap w) ?_
        rintro _ w' ⟨v', rfl, ho, _, hbel⟩
        exact ⟨v', rfl, fin v' w' ho hbel⟩
    · obtain ⟨b, o, rfl, _, hcell⟩ := ha (by intro h; apply h0c; cases zs with | nil => rfl | cons => simp [intsT] at h)
      refine Calls.mono (h1 b o zs.length cap zs w (Nat.le_refl _) hbig fun j hj => ?_) ?_
      · rw [hcell j (by rw [hil]; exact hj)]
        have hj' : j < (intsT zs).length := by rw [hil]; exact hj
        have h5 := hcs' j _ (List.getElem?_eq_getElem hj')
        rw [get_intsT (List.getElem?_eq_getElem hj')] at h5
        generalize us j = u at h5
        cases h5
        rw [getElem!_pos zs j hj, List.getD_eq_getElem?_getD, List.getElem?_eq_getElem hj]
        rfl
      · rintro _ w' ⟨v', rfl, ho, _, hbel⟩
        rw [List.take_length] at ho
        exact ⟨v', rfl, fin v' w' ho hbel⟩
  | _ => cases hx
end Ev
