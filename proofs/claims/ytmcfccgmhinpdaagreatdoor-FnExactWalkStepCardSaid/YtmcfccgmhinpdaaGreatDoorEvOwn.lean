/- Ev: slices of one's own: their rows, what is moved into them. -/
import Derived.Test.YtmcfccgmhinpdaaGreatDoorEvOpsC
namespace Ev
open Go

/-! ## footprints -/
def ND (n : Nat) (f : Nat → List Nat) : Prop := (∀ i, i < n → (f i).Nodup) ∧ ∀ i j, i < n → j < n → i ≠ j → ∀ b, b ∈ f i → b ∉ f j
def flat (n : Nat) (f : Nat → List Nat) : List Nat := (List.range n).flatMap f
theorem mem_flat {n : Nat} {f : Nat → List Nat} {b : Nat} : b ∈ flat n f ↔ ∃ i, i < n ∧ b ∈ f i := by simp [flat]
theorem nodup_flat (n : Nat) (f : Nat → List Nat) : (flat n f).Nodup ↔ ND n f := by
  induction n with
  | zero => simp [flat, ND]
  | succ n ih =>
    have : flat (n + 1) f = flat n f ++ f n := by simp [flat, List.range_succ]
    rw [this, List.nodup_append, ih]
    constructor
    · rintro ⟨⟨h1, h2⟩, h3, h4⟩
      refine ⟨fun i hi => ?_, fun i j hi hj hne b hb hb' => ?_⟩
      · rcases Nat.lt_or_ge i n with h | h
        · exact h1 i h
        · rwa [show i = n by omega]
      · rcases Nat.lt_or_ge i n with h | h
        · rcases Nat.lt_or_ge j n with h' | h'
          · exact h2 i j h h' hne b hb hb'
          · rw [show j = n by omega] at hb'
            exact h4 b (mem_flat.2 ⟨i, h, hb⟩) b hb' rfl
        · rw [show i = n by omega] at hb
          exact h4 b (mem_flat.2 ⟨j, by omega, hb'⟩) b hb rfl
    · rintro ⟨h1, h2⟩
      refine ⟨⟨fun i hi => h1 i (by omega), fun i j hi hj => h2 i j (by omega) (by omega)⟩, h1 n (by omega), fun b hb b' hb' e => ?_⟩
      subst e
      obtain ⟨i, hi, hbi⟩ := mem_flat.1 hb
      exact h2 i n (by omega) (by omega) (by omega) b hbi hb'
theorem ND.nil (n : Nat) : ND n fun _ => [] := ⟨fun _ _ => List.nodup_nil, fun _ _ _ _ _ b hb => by simp at hb⟩

/-! ## rows -/
/-- A slice value that has a row of its own (or none, where it is empty): its cells in memory. -/
def RowAt (w : World) (size : Nat) (v : Value) (xs : List Value) (F : List Nat) : Prop :=
  (xs = [] ∧ F = [] ∧ ∃ a, v = .slice a 0 0) ∨
  ∃ g len cap cur e, v = .slice (some ⟨g, 0, none⟩) len cap ∧ F = [g] ∧ w.heap[g]? = some (.cells cur e (0, 0)) ∧ xs.length = len * size ∧ len ≤ cap ∧ cap ≤ maxLen ∧ cur.size = cap * size ∧ cur.toList.take (len * size) = xs
/-- A tree and its value, of one's own to the bottom or not. -/
def El (w : World) (I J : Nat → Prop) (deep : Bool) (x : T) (y : Value) (F : List Nat) : Prop := if deep = true then RO w x y F else RB w I J x y ∧ F = []
structure OwnR (w : World) (I J : Nat → Prop) (deep : Bool) (sz : Nat) (cells : List T) (u : Value) (xs : List Value) (Fg : List Nat) (fs : Nat → List Nat) : Prop where
  pos : 0 < sz
  row : RowAt w sz u xs Fg
  len : xs.length = cells.length
  nd : ND cells.length fs
  apart : ∀ b, b ∈ Fg → ∀ i, i < cells.length → b ∉ fs i
  el : ∀ (i : Nat) (x : T) (y : Value), cells[i]? = some x → xs[i]? = some y → El w I J deep x y (fs i)

theorem RowAt.nodup {w : World} {size : Nat} {v : Value} {xs : List Value} {F : List Nat} (h : RowAt w size v xs F) : F.Nodup := by
  rcases h with ⟨_, rfl, _⟩ | ⟨g, _, _, _, _, _, rfl, _⟩ <;> simp
theorem RowAt.cell {w : World} {size : Nat} {v : Value} {xs : List Value} {F : List Nat} (h : RowAt w size v xs F) {j : Nat} {u : Value} (hj : xs[j]? = some u) :
    ∃ g len cap, v = .slice (some ⟨g, 0, none⟩) len cap ∧ F = [g] ∧ w.cell? ⟨g, j, none⟩ = some u := by
  rcases h with ⟨rfl, _, _⟩ | ⟨g, len, cap, cur, e, hv, hF, hg, hl, _, _, _, ht⟩
  · simp at hj
  · refine ⟨g, len, cap, hv, hF, ?_⟩
    rw [cell_of_cells hg]
    rw [← ht, List.getElem?_take] at hj
    split at hj
    · simpa using hj
    · cases hj
theorem RowAt.slice {w : World} {size : Nat} {v : Value} {xs : List Value} {F : List Nat} (h : RowAt w size v xs F) : ∃ a len cap, v = .slice a len cap ∧ xs.length = len * size ∧ len ≤ cap := by
  rcases h with ⟨rfl, _, a, hv⟩ | ⟨g, len, cap, cur, e, hv, hF, hg, hl, hc, _, _, ht⟩
  · exact ⟨a, 0, 0, hv, by simp, Nat.le_refl _⟩
  · exact ⟨_, len, cap, hv, hl, hc⟩

theorem own_iff {f : Fr} {s : St} {deep : Bool} {sz : Nat} {cells : List T} {u : Value} {F : List Nat} :
    ObR f s (.arr true deep sz cells) u F ↔ ∃ xs Fg fs, OwnR f.w f.I f.J deep sz cells u xs Fg fs ∧ F = Fg ++ flat cells.length fs := by
  constructor
  · intro h
    cases deep with
    | true =>
      have h : RO f.w (.sl sz cells) u F := h
      cases h with
      | nil hsz => exact ⟨[], [], fun _ => [], ⟨hsz, .inl ⟨rfl, rfl, _, rfl⟩, rfl, ND.nil _, by simp, by simp⟩, by simp [flat]⟩
      | sl vs fs hsz hg hlen hcap hmax hcur hv hc hnd =>
        rename_i g len cap cur e
        rw [List.nodup_cons] at hnd
        have hle : len * sz ≤ cur.size := by rw [hcur]; exact Nat.mul_le_mul_right _ hcap
        refine ⟨cur.toList.take (len * sz), [g], fs, ⟨hsz, .inr ⟨g, len, cap, cur, e, rfl, rfl, hg, by simp; omega, hcap, hmax, hcur, rfl⟩, by simp; omega, (nodup_flat _ _).1 hnd.2,
          fun b hb i hi hbi => hnd.1 (by rw [List.mem_singleton.1 hb] at hbi; exact mem_flat.2 ⟨i, hi, hbi⟩), fun i x y hx hy => ?_⟩, rfl⟩
        rw [List.getElem?_take] at hy
        split at hy
        · have := hv i (by omega)
          rw [Array.getElem?_toList, this] at hy
          cases hy
          exact hc i x hx
        · cases hy
    | false =>
      rcases h with ⟨hsz, rfl, rfl, a, rfl⟩ | ⟨g, len, cap, cur, e, vs, rfl, rfl, hsz, hg, hlen, hcap, hmax, hcur, hv, hc⟩
      · exact ⟨[], [], fun _ => [], ⟨hsz, .inl ⟨rfl, rfl, _, rfl⟩, rfl, ND.nil _, by simp, by simp⟩, by simp [flat]⟩
      · have hle : len * sz ≤ cur.size := by rw [hcur]; exact Nat.mul_le_mul_right _ hcap
        refine ⟨cur.toList.take (len * sz), [g], fun _ => [], ⟨hsz, .inr ⟨g, len, cap, cur, e, rfl, rfl, hg, by simp; omega, hcap, hmax, hcur, rfl⟩, by simp; omega, ND.nil _, by simp, fun i x y hx hy => ?_⟩, by simp [flat]⟩
        rw [List.getElem?_take] at hy
        split at hy
        · have := hv i (by omega)
          rw [Array.getElem?_toList, this] at hy
          cases hy
          exact ⟨hc i x hx, rfl⟩
        · cases hy
  · rintro ⟨xs, Fg, fs, ⟨hsz, hrow, hlen, hnd, hap, hel⟩, rfl⟩
    rcases hrow with ⟨rfl, rfl, a, rfl⟩ | ⟨g, len, cap, cur, e, rfl, rfl, hg, hl, hcap, hmax, hcur, ht⟩
    · have : cells = [] := List.eq_nil_of_length_eq_zero (by simpa using hlen.symm)
      subst this
      cases deep with
      | true => exact RO.nil hsz
      | false => exact .inl ⟨hsz, rfl, by simp [flat], _, rfl⟩
    · have hget : ∀ i, i < cells.length → cur[i]? = some (cur.getD i undef) := fun i hi => by
        have : i < cur.size := by
          have : len * sz ≤ cur.size := by rw [hcur]; exact Nat.mul_le_mul_right _ hcap
          omega
        simp [this]
      have hxs : ∀ i, i < cells.length → xs[i]? = some (cur.getD i undef) := fun i hi => by
        rw [← ht, List.getElem?_take, if_pos (by omega), Array.getElem?_toList]; exact hget i hi
      cases deep with
      | true =>
        refine RO.sl (fun i => cur.getD i undef) fs hsz hg (by omega) hcap hmax hcur hget (fun i x hx => ?_) ?_
        · have hi := (List.getElem?_eq_some_iff.1 hx).1
          exact hel i x _ hx (hxs i hi)
        · rw [List.nodup_cons]
          exact ⟨fun hb => by obtain ⟨i, hi, hbi⟩ := mem_flat.1 hb; exact hap g (by simp) i hi hbi, (nodup_flat _ _).2 hnd⟩
      | false =>
        have hfs : flat cells.length fs = [] := by
          simp only [flat, List.flatMap_eq_nil_iff, List.mem_range]
          intro i hi
          exact (hel i _ _ (List.getElem?_eq_getElem hi) (hxs i hi)).2
        refine .inr ⟨g, len, cap, cur, e, fun i => cur.getD i undef, rfl, by rw [hfs]; rfl, hsz, hg, by omega, hcap, hmax, hcur, hget, fun i x hx => ?_⟩
        have hi := (List.getElem?_eq_some_iff.1 hx).1
        exact (hel i x _ hx (hxs i hi)).1

/-- What is one's own can be read. -/
theorem OwnR.rb {w : World} {I J I' J' : Nat → Prop} {deep : Bool} {sz : Nat} {cells : List T} {u : Value} {xs : List Value} {Fg : List Nat} {fs : Nat → List Nat} (h : OwnR w I J deep sz cells u xs Fg fs)
    (hF : ∀ b, b ∈ Fg ++ flat cells.length fs → I' b) (hI : ∀ b, I b → I' b) (hJ : ∀ b, J b → J' b) : RB w I' J' (.sl sz cells) u := by
  have hget : ∀ i, i < cells.length → xs[i]? = some (xs.getD i undef) := fun i hi => by
    have : i < xs.length := by rw [h.len]; exact hi
    simp [this]
  obtain ⟨a, len, cap, hv, hl, hc⟩ := h.row.slice
  rw [hv]
  refine RB.sl (fun i => xs.getD i undef) h.pos (by rw [← h.len]; exact hl) hc (fun hne => ?_) (fun i x hx => ?_)
  · have h0 := hget 0 (List.length_pos_iff.2 hne)
    obtain ⟨g, len', cap', e, e2, _⟩ := h.row.cell h0
    rw [hv] at e
    cases e
    refine ⟨g, 0, rfl, hF g (by simp [e2]), fun i hi => ?_⟩
    obtain ⟨g', len'', cap'', e3, e4, e5⟩ := h.row.cell (hget i hi)
    rw [hv] at e3
    cases e3
    rw [Nat.zero_add]; exact e5
  · have hi := (List.getElem?_eq_some_iff.1 hx).1
    have := h.el i x _ hx (hget i hi)
    unfold El at this
    split at this
    · exact RO.rb this fun b hb => hF b (List.mem_append_right _ (mem_flat.2 ⟨i, hi, hb⟩))
    · exact RB.move this.1 (fun b hb => ⟨hI b hb, rfl⟩) (fun b hb => ⟨hJ b hb, rfl⟩)

/-! ## appending -/
theorem append_types {P : Program} {w : World} {t t2 ty e e2 : TypeId} {i : TypeInfo} {a : Option Addr} {n k : Nat} {x : Value} (ht : P.underlying t = some (.slice e)) (ht2 : P.underlying t2 = some (.slice e2)) (hi : P.info? e = some i) :
    (Builtin.append_ #[t, t2] ty #[.slice a n k, x]).run P w = (Builtin.append_ #[t, t] ty #[.slice a n k, x]).run P w := by
  simp [Builtin.append_, run_underlying ht, run_underlying ht2, Go.sizeOf, typeInfo, hi]

theorem run_app {P : Program} {w : World} {t t2 ty e e2 : TypeId} {i : TypeInfo} {z : Value} (ht : P.underlying t = some (.slice e)) (ht2 : P.underlying t2 = some (.slice e2)) (hi : P.info? e = some i) (hz : i.zero = some z)
    (hzs : z.cells.size = i.size) (hsz : 0 < i.size) {v : Value} {xs : List Value} {F : List Nat} (hv : RowAt w i.size v xs F)
    {A : Option Addr} {m c : Nat} {news : List Value} (hl : news.length = m * i.size) (hn : news ≠ [] → ∃ ad, A = some ad ∧ ∀ (j : Nat) (u : Value), news[j]? = some u → w.cell? (ad.add j) = some u) (h1 : ∀ u ∈ news, u.oneCell' = true)
    (hb : (xs.length + news.length) * i.bytes ≤ 140737488355328 * i.size) (hb1 : 0 < i.bytes) :
    ∃ v' w' F', (Builtin.append_ #[t, t2] ty #[v, .slice A m c]).run P w = .ok v' w' ∧ RowAt w' i.size v' (xs ++ news) F' ∧ (∀ b, b ∈ F' → b ∈ F ∨ b = w.heap.size) ∧
      (∀ b, b < w.heap.size → b ∉ F → w'.heap[b]? = w.heap[b]?) ∧ w.heap.size ≤ w'.heap.size ∧ w'.os = w.os ∧ w'.tape = w.tape ∧ w'.output = w.output := by
  obtain ⟨a0, n, cap, hv0, hxl, hncap⟩ := hv.slice
  have hty := append_types (w := w) (ty := ty) (a := a0) (n := n) (k := cap) (x := .slice A m c) ht ht2 hi
  rw [← hv0] at hty
  rw [hty]
  have hbb : (n + m) * i.bytes ≤ 140737488355328 := by
    rw [hxl, hl, ← Nat.add_mul, Nat.mul_right_comm] at hb
    exact Nat.le_of_mul_le_mul_right hb hsz
  have hnm : n + m ≤ 140737488355328 := Nat.le_trans (Nat.le_mul_of_pos_right _ hb1) hbb
  have hml : n + m ≤ maxLen := by simp only [maxLen]; omega
  by_cases hm : m = 0
  · subst hm
    have hnews : news = [] := List.eq_nil_of_length_eq_zero (by simpa using hl)
    subst hnews
    refine ⟨v, w, F, ?_, by simpa using hv, fun b hb => .inl hb, fun _ _ _ => rfl, Nat.le_refl _, rfl, rfl, rfl⟩
    rw [hv0]
    cases A <;> cases a0 <;> simp [Builtin.append_, run_underlying ht, Go.sizeOf, typeInfo, hi, Builtin.lenOf, Builtin.firstCells, hncap, storeCells, loadCells, loadCellsFrom]
  · have hne : news ≠ [] := by
      intro h
      rw [h] at hl
      have : 0 < m * i.size := Nat.mul_pos (by omega) hsz
      simp at hl; omega
    obtain ⟨ad, rfl, hnews⟩ := hn hne
    have grown : ∀ (old : Nat), RowAt (w.drew.alloc (.cells (xs.toArray ++ news.toArray ++ Builtin.zeroCells z.cells (grownCap w (n + m) old e - (n + m))) e)) i.size
        (.slice (some ⟨w.heap.size, 0, none⟩) (n + m) (grownCap w (n + m) old e)) (xs ++ news) [w.heap.size] := by
      intro old
      refine .inr ⟨w.heap.size, _, _, _, e, rfl, rfl, heap_alloc_new w.drew _, by rw [List.length_append, hxl, hl, Nat.add_mul], grownCap_ge w (n + m) old e, grownCap_le_maxLen w (n + m) old e hml, ?_, ?_⟩
      · have := grownCap_ge w (n + m) old e
        simp only [Array.size_append, List.size_toArray, size_zeroCells, hzs, hxl, hl, ← Nat.add_mul]
        congr 1
        omega
      · have hlen : (xs ++ news).length = (n + m) * i.size := by rw [List.length_append, hxl, hl, Nat.add_mul]
        simp only [Array.toList_append, List.append_assoc]
        rw [← List.append_assoc, ← hlen]
        exact List.take_left
    have tail : ∀ (o : Obj) (b : Nat), b < w.heap.size → b ∉ F → (w.drew.alloc o).heap[b]? = w.heap[b]? := fun o b hb _ => heap_alloc_old w.drew o b hb
    rcases hv with ⟨rfl, rfl, a, rfl⟩ | ⟨g, len, cap', cur, e', rfl, rfl, hg, hl', hc', hmax, hcur, htake⟩
    · cases hv0
      have hgr := grown 0
      have hbm : m * i.bytes ≤ 140737488355328 := by simpa using hbb
      cases a0 with
      | none =>
        have hr := run_append_nil (P := P) w t ty e i z ht hi hz ad m c news hl hnews (by omega) (by omega) (by omega)
        simp only [Nat.zero_add, List.nil_append, Array.empty_append] at hgr ⊢
        exact ⟨_, _, _, hr, hgr, by simp, tail _, by simp, rfl, rfl, rfl⟩
      | some b =>
        have hr := run_append_grow (P := P) w t ty e i z ht hi hz b 0 0 [] (by simp) (by simp) ad m c news hl hnews (by omega) (by omega) (growslice_fits (by omega) hbb)
        exact ⟨_, _, _, hr, hgr, by simp, tail _, by simp, rfl, rfl, rfl⟩
    · cases hv0
      by_cases hroom : n + m ≤ cap
      · have hfit : n * i.size + news.length ≤ cur.size := by rw [hl, hcur, ← Nat.add_mul]; exact Nat.mul_le_mul_right _ hroom
        have hf := run_firstCells_some (P := P) w i.size m ad m c news hl hnews
        have hst := run_storeCells_at P g (n * i.size) e' news 0 cur w hg (by simpa using hfit) h1
        simp only [Nat.add_zero] at hst
        have hr : (Builtin.append_ #[t, t] ty #[.slice (some ⟨g, 0, none⟩) n cap, .slice (some ad) m c]).run P w =
          .ok (.slice (some ⟨g, 0, none⟩) (n + m) cap) (w.setRow g (cur.toList.take (n * i.size) ++ news ++ cur.toList.drop (n * i.size + news.length)).toArray) := by
          simp [Builtin.append_, run_underlying ht, Go.sizeOf, typeInfo, hi, Builtin.lenOf, hroom, hf, Addr.add_lit, hst]
        refine ⟨_, _, [g], hr, .inr ⟨g, _, _, _, e', rfl, rfl, setRow_heap w g cur _ e' _ hg, by rw [List.length_append, hxl, hl, Nat.add_mul], hroom, hmax, ?_, ?_⟩, fun b hb => .inl hb,
          fun b _ hb => setRow_other w g b _ (fun e => hb (by simp [e])), by simp, rfl, rfl, rfl⟩
        · simp only [List.size_toArray, List.length_append, List.length_take, List.length_drop, Array.length_toList]
          omega
        · have hlen : (xs ++ news).length = (n + m) * i.size := by rw [List.length_append, hxl, hl, Nat.add_mul]
          rw [htake, ← hlen]
          exact List.take_left
      · have holds : ∀ (j : Nat) (u : Value), xs[j]? = some u → w.cell? ((⟨g, 0, none⟩ : Addr).add j) = some u := by
          intro j u hu
          rw [add_at, Nat.zero_add, cell_of_cells hg]
          rw [← htake, List.getElem?_take] at hu
          split at hu
          · simpa using hu
          · cases hu
        have hr := run_append_grow (P := P) w t ty e i z ht hi hz ⟨g, 0, none⟩ n cap xs hxl holds ad m c news hl hnews (by omega) (by omega) (growslice_fits (by omega) hbb)
        exact ⟨_, _, _, hr, grown cap, by simp, tail _, by simp, rfl, rfl, rfl⟩
end Ev
