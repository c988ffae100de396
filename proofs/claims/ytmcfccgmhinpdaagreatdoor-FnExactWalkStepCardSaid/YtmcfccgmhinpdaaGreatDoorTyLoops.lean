/- Rounds: what a loop comes to, out of what one round does. -/
import Derived.Test.YtmcfccgmhinpdaaGreatDoorTyData
namespace Ev.Ty
open Go Ev
open Enc (enc)
open Sm (sm)

/-- The place of the first element of a kind, or -1. -/
def idx {α : Type} (p : α → Bool) (l : List α) : Int := match l.findIdx? p with
  | some i => (i : Nat)
  | none => -1
theorem any_loop {n : Nat} {bad : Nat → Bool} {S : Nat → Nat → R} {r z : R}
    (step : ∀ m k, k < n → S (m + 1) k = if bad k = true then r else S m (k + 1)) (stop : ∀ m, S (m + 1) n = z) {f : Nat} (hf : n < f) :
    S f 0 = if (List.range n).any bad = true then r else z := by
  have : ∀ m k, k ≤ n → n < m + k → S m k = if (List.range' k (n - k)).any bad = true then r else z := by
    intro m
    induction m with
    | zero => intros; omega
    | succ m ih =>
      intro k hk hm
      by_cases h : k < n
      · rw [step m k h, ih (k + 1) (by omega) (by omega), show n - k = (n - (k + 1)) + 1 by omega, List.range'_succ, List.any_cons]
        by_cases hb : bad k = true
        · rw [if_pos hb, hb, Bool.true_or, if_pos rfl]
        · have hb' := Bool.eq_false_iff.2 hb; rw [if_neg hb, hb', Bool.false_or]
      · obtain rfl : k = n := by omega
        rw [stop m]; simp
  have := this f 0 (by omega) (by omega)
  rwa [Nat.sub_zero, ← List.range_eq_range'] at this
theorem scan_loop {α : Type} {l : List α} {g : α → Option R} {S : Nat → Nat → R} {z : R}
    (step : ∀ m k (h : k < l.length), S (m + 1) k = match g l[k] with | some r => r | none => S m (k + 1)) (stop : ∀ m, S (m + 1) l.length = z) {f : Nat} (hf : l.length < f) :
    S f 0 = match l.findSome? g with | some r => r | none => z := by
  have : ∀ m k, k ≤ l.length → l.length < m + k → S m k = match (l.drop k).findSome? g with | some r => r | none => z := by
    intro m
    induction m with
    | zero => intros; omega
    | succ m ih =>
      intro k hk hm
      by_cases h : k < l.length
      · rw [step m k h, List.drop_eq_getElem_cons h, List.findSome?_cons]
        cases g l[k] with
        | none => exact ih (k + 1) (by omega) (by omega)
        | some r => rfl
      · obtain rfl : k = l.length := by omega
        rw [stop m]; simp
  simpa using this f 0 (by omega) (by omega)
theorem any_loopL {α : Type} {l : List α} {p : α → Bool} {S : Nat → Nat → R} {r z : R}
    (step : ∀ m k (h : k < l.length), S (m + 1) k = if p l[k] = true then r else S m (k + 1)) (stop : ∀ m, S (m + 1) l.length = z) {f : Nat} (hf : l.length < f) :
    S f 0 = if l.any p = true then r else z := by
  have : ∀ m k, k ≤ l.length → l.length < m + k → S m k = if (l.drop k).any p = true then r else z := by
    intro m
    induction m with
    | zero => intros; omega
    | succ m ih =>
      intro k hk hm
      by_cases h : k < l.length
      · rw [step m k h, List.drop_eq_getElem_cons h, List.any_cons, ih (k + 1) (by omega) (by omega)]
        by_cases hb : p l[k] = true
        · rw [if_pos hb, hb, Bool.true_or, if_pos rfl]
        · have hb' := Bool.eq_false_iff.2 hb; rw [if_neg hb, hb', Bool.false_or]
      · obtain rfl : k = l.length := by omega
        rw [stop m]; simp
  simpa using this f 0 (by omega) (by omega)
theorem hit_loop {α : Type} {l : List α} {p : α → Bool} {S : Nat → Nat → R} {r : R}
    (step : ∀ m k (h : k < l.length), S (m + 1) k = if p l[k] = true then r else S m (k + 1)) (ha : l.any p = true) {f : Nat} (hf : l.length < f) : S f 0 = r := by
  have : ∀ m k, l.length < m + k → k ≤ l.length → (l.drop k).any p = true → S m k = r := by
    intro m
    induction m with
    | zero => intros; omega
    | succ m ih =>
      intro k hm hk ha
      by_cases h : k < l.length
      · rw [List.drop_eq_getElem_cons h, List.any_cons, Bool.or_eq_true] at ha
        rw [step m k h]
        by_cases hb : p l[k] = true
        · rw [if_pos hb]
        · rw [if_neg hb]; exact ih (k + 1) (by omega) (by omega) (ha.resolve_left hb)
      · rw [List.drop_of_length_le (by omega)] at ha; cases ha
  exact this f 0 (by omega) (by omega) (by simpa using ha)
theorem idx_loop {α : Type} {l : List α} {p : α → Bool} {S : Nat → Nat → R}
    (step : ∀ m k (h : k < l.length), S (m + 1) k = if p l[k] = true then some (.int .i64 (k : Nat), []) else S m (k + 1)) (stop : ∀ m, S (m + 1) l.length = some (.int .i64 (-1), [])) {f : Nat} (hf : l.length < f) :
    S f 0 = some (.int .i64 (idx p l), []) := by
  have : ∀ m k, k ≤ l.length → l.length < m + k → S m k = some (.int .i64 (match (l.drop k).findIdx? p with | some i => ((i + k : Nat) : Int) | none => -1), []) := by
    intro m
    induction m with
    | zero => intros; omega
    | succ m ih =>
      intro k hk hm
      by_cases h : k < l.length
      · rw [step m k h, List.drop_eq_getElem_cons h, List.findIdx?_cons, ih (k + 1) (by omega) (by omega)]
        by_cases hb : p l[k] = true
        · simp [hb]
        · simp only [hb]
          cases (l.drop (k + 1)).findIdx? p with
          | none => simp
          | some i => simp; omega
      · obtain rfl : k = l.length := by omega
        rw [stop m]; simp
  simpa [idx] using this f 0 (by omega) (by omega)
theorem idx_nonneg {α : Type} (p : α → Bool) (l : List α) : decide (idx p l ≥ 0) = l.any p := by
  unfold idx
  cases h : l.findIdx? p with
  | none =>
    rw [List.findIdx?_eq_none_iff] at h
    rw [Bool.eq_iff_iff]
    simp
    intro x hx; simpa using h x hx
  | some i =>
    rw [List.findIdx?_eq_some_iff_getElem] at h
    obtain ⟨h1, h2, _⟩ := h
    rw [Bool.eq_iff_iff]
    simp
    exact ⟨l[i], List.getElem_mem h1, h2⟩
theorem idx_spec {α : Type} (p : α → Bool) (l : List α) : (idx p l = -1 ∧ ∀ x, x ∈ l → p x = false) ∨ ∃ i, ∃ h : i < l.length, idx p l = (i : Nat) ∧ p l[i] = true ∧ ∀ j (hj : j < i), p (l[j]'(Nat.lt_trans hj h)) = false := by
  unfold idx
  cases hx : l.findIdx? p with
  | none => rw [List.findIdx?_eq_none_iff] at hx; exact .inl ⟨rfl, hx⟩
  | some i =>
    rw [List.findIdx?_eq_some_iff_getElem] at hx
    obtain ⟨h1, h2, h3⟩ := hx
    exact .inr ⟨i, h1, rfl, h2, fun j hj => by simpa using h3 j hj⟩
theorem findSome_map {α β γ : Type} (f : α → Option β) (g : β → γ) : ∀ l : List α, l.findSome? (fun x => (f x).map g) = (l.findSome? f).map g
  | [] => rfl
  | x :: l => by
    rw [List.findSome?_cons, List.findSome?_cons]
    cases f x with
    | none => exact findSome_map f g l
    | some b => rfl
/-- Rounds that bear something on. -/
def iter {α σ ρ : Type} (g : Nat → α → σ → ρ ⊕ σ) (z : σ → ρ) : Nat → List α → σ → ρ
  | _, [], s => z s
  | k, x :: r, s => match g k x s with
    | .inl a => a
    | .inr s' => iter g z (k + 1) r s'
theorem iter_loop {α σ : Type} {l : List α} {S : Nat → Nat → σ → R} {g : Nat → α → σ → R ⊕ σ} {z : σ → R} (I : Nat → σ → Prop)
    (step : ∀ m k s (h : k < l.length), I k s → S (m + 1) k s = match g k l[k] s with | .inl a => a | .inr s' => S m (k + 1) s')
    (inv : ∀ k s s' (h : k < l.length), I k s → g k l[k] s = .inr s' → I (k + 1) s')
    (stop : ∀ m s, I l.length s → S (m + 1) l.length s = z s) (s : σ) (h0 : I 0 s) {f : Nat} (hf : l.length < f) : S f 0 s = iter g z 0 l s := by
  have : ∀ m k s, k ≤ l.length → l.length < m + k → I k s → S m k s = iter g z k (l.drop k) s := by
    intro m
    induction m with
    | zero => intros; omega
    | succ m ih =>
      intro k s hk hm hi
      by_cases h : k < l.length
      · rw [step m k s h hi, List.drop_eq_getElem_cons h, iter]
        cases hg : g k l[k] s with
        | inl a => rfl
        | inr s' => exact ih (k + 1) s' (by omega) (by omega) (inv k s s' h hi hg)
      · obtain rfl : k = l.length := by omega
        rw [stop m s hi, List.drop_of_length_le (Nat.le_refl _), iter]
  simpa using this f 0 s (by omega) (by omega) h0
/-- Rounds that only bear something on. -/
theorem fold_loop {α σ : Type} {l : List α} {S : Nat → Nat → σ → R} {g : σ → α → σ} {z : σ → R} (I : Nat → σ → Prop)
    (step : ∀ m k s (h : k < l.length), I k s → S (m + 1) k s = S m (k + 1) (g s l[k]))
    (inv : ∀ k s (h : k < l.length), I k s → I (k + 1) (g s l[k]))
    (stop : ∀ m s, I l.length s → S (m + 1) l.length s = z s) (s : σ) (h0 : I 0 s) {f : Nat} (hf : l.length < f) : S f 0 s = z (l.foldl g s) := by
  have : ∀ m k s, k ≤ l.length → l.length < m + k → I k s → S m k s = z ((l.drop k).foldl g s) := by
    intro m
    induction m with
    | zero => intros; omega
    | succ m ih =>
      intro k s hk hm hi
      by_cases h : k < l.length
      · rw [step m k s h hi, List.drop_eq_getElem_cons h, List.foldl_cons]
        exact ih (k + 1) _ (by omega) (by omega) (inv k s h hi)
      · obtain rfl : k = l.length := by omega
        rw [stop m s hi, List.drop_of_length_le (Nat.le_refl _), List.foldl_nil]
  simpa using this f 0 s (by omega) (by omega) h0
theorem fold_inv {α σ : Type} {l : List α} {g : σ → α → σ} (I : Nat → σ → Prop) (inv : ∀ k s (h : k < l.length), I k s → I (k + 1) (g s l[k])) (s : σ) (h0 : I 0 s) : I l.length (l.foldl g s) := by
  have : ∀ n k s, k + n = l.length → I k s → I l.length ((l.drop k).foldl g s) := by
    intro n
    induction n with
    | zero => intro k s hk hi; obtain rfl : k = l.length := by omega
              rw [List.drop_of_length_le (Nat.le_refl _)]; exact hi
    | succ n ih =>
      intro k s hk hi
      have h : k < l.length := by omega
      rw [List.drop_eq_getElem_cons h, List.foldl_cons]
      exact ih (k + 1) _ (by omega) (inv k s h hi)
  simpa using this l.length 0 s (by omega) h0
theorem slc_nil {α : Type} [Enc α] : slc ([] : List α) = T.sl (Enc.sz α) [] := rfl
theorem cells_snoc_int (l : List Int) (x : Int) : cells l ++ [.int .i64 x] = cells (l ++ [x]) := by rw [cells_append, ← enc_int, enc_cells_one]
theorem cells_snoc_list {α : Type} [Enc α] (l : List (List α)) (x : List α) : cells l ++ [slc x] = cells (l ++ [x]) := by rw [cells_append, ← enc_list, enc_cells_one]
theorem cells_snoc_u8 (l : List UInt8) (x : UInt8) : cells l ++ [.int .u8 x.toNat] = cells (l ++ [x]) := by rw [cells_append, ← enc_u8, enc_cells_one]
theorem ble_ok {a b : Nat} (h : a ≤ b) : Nat.ble a b = true := Nat.ble_eq_true_of_le h
/-- Rounds by their number. -/
theorem run_loop {σ : Type} {n : Nat} {S : Nat → Nat → σ → R} {st : Nat → σ} {z : R} (step : ∀ m k, k < n → S (m + 1) k (st k) = S m (k + 1) (st (k + 1))) (stop : ∀ m, S (m + 1) n (st n) = z) {f : Nat} (hf : n < f) :
    S f 0 (st 0) = z := by
  have : ∀ m k, k ≤ n → n < m + k → S m k (st k) = z := by
    intro m
    induction m with
    | zero => intros; omega
    | succ m ih =>
      intro k hk hm
      by_cases h : k < n
      · rw [step m k h]; exact ih (k + 1) (by omega) (by omega)
      · obtain rfl : k = n := by omega
        exact stop m
  exact this f 0 (by omega) (by omega)
theorem u8s_cells : ∀ l : List UInt8, u8s (cells l) = some (l.map fun x => ((x.toNat : Nat) : Int))
  | [] => rfl
  | x :: l => by
    rw [cells_cons]
    show (u8s (cells l)).map (_ :: ·) = _
    rw [u8s_cells l]; rfl
theorem foldl_push (l : List UInt8) : ∀ b : ByteArray, (l.map fun x => ((x.toNat : Nat) : Int)).foldl (fun r n => r.push (UInt8.ofNat n.toNat)) b = ⟨b.data ++ l.toArray⟩ := by
  induction l with
  | nil => intro b; simp
  | cons x l ih =>
    intro b
    rw [List.map_cons, List.foldl_cons, ih]
    simp [ByteArray.push]
theorem bytesOf_cells (l : List UInt8) : bytesOf (cells l) = some (.str ⟨l.toArray⟩) := by
  unfold bytesOf
  rw [u8s_cells, Option.map_some, foldl_push]
  have : ByteArray.empty.data ++ l.toArray = l.toArray := Array.empty_append
  rw [this]
theorem bytes_inj {l r : List UInt8} : ((ByteArray.mk l.toArray).toList = (ByteArray.mk r.toArray).toList) = (l = r) := by
  rw [str_inj, eq_iff_iff]
  constructor
  · intro h; simpa using congrArg ByteArray.data h
  · rintro rfl; rfl
theorem ba_inj {l r : List UInt8} : (ByteArray.mk l.toArray = ByteArray.mk r.toArray) = (l = r) := by
  rw [eq_iff_iff]
  constructor
  · intro h; simpa using congrArg ByteArray.data h
  · rintro rfl; rfl
theorem scalars_u8 (l : List UInt8) : (cells l).all T.scalar = true := by
  rw [List.all_eq_true]
  intro x hx
  obtain ⟨y, _, hy⟩ := List.mem_flatMap.1 hx
  obtain rfl := List.mem_singleton.1 hy
  rfl
theorem scalars_int (l : List Int) : (cells l).all T.scalar = true := by
  rw [List.all_eq_true]
  intro x hx
  obtain ⟨y, _, hy⟩ := List.mem_flatMap.1 hx
  obtain rfl := List.mem_singleton.1 hy
  rfl
theorem eq_loopR {α : Type} [DecidableEq α] {a b : List α} (hl : a.length = b.length) {S : Nat → Nat → R} {z : R}
    (step : ∀ m k (h : k < a.length) (h' : k < b.length), S (m + 1) k = if a[k] = b[k] then S m (k + 1) else some (.bool false, []))
    (stop : ∀ m, S (m + 1) a.length = z) {f : Nat} (hf : a.length < f) : S f 0 = if a = b then z else some (.bool false, []) := by
  have : ∀ m k, k ≤ a.length → a.length < m + k → S m k = if a.drop k = b.drop k then z else some (.bool false, []) := by
    intro m
    induction m with
    | zero => intros; omega
    | succ m ih =>
      intro k hk hm
      by_cases h : k < a.length
      · have h' : k < b.length := hl ▸ h
        rw [step m k h h', ih (k + 1) (by omega) (by omega), List.drop_eq_getElem_cons h, List.drop_eq_getElem_cons h']
        by_cases e : a[k] = b[k]
        · rw [if_pos e]; simp only [List.cons.injEq, e, true_and]
        · rw [if_neg e]; simp only [List.cons.injEq, e, false_and, if_false]
      · obtain rfl : k = a.length := by omega
        rw [stop m, List.drop_of_length_le (Nat.le_refl _), List.drop_of_length_le (by omega)]
        simp
  simpa using this f 0 (by omega) (by omega)
theorem eq_loopF {α : Type} [DecidableEq α] {a b : List α} (hl : a.length = b.length) {S : Nat → Nat → R}
    (step : ∀ m k (h : k < a.length) (h' : k < b.length), S (m + 1) k = if a[k] = b[k] then S m (k + 1) else some (.bool false, []))
    (stop : ∀ m, S (m + 1) a.length = some (.bool true, [])) {f : Nat} (hf : a.length < f) : S f 0 = some (.bool (decide (a = b)), []) := by
  rw [eq_loopR hl step stop hf]
  by_cases h : a = b <;> simp [h]
end Ev.Ty
