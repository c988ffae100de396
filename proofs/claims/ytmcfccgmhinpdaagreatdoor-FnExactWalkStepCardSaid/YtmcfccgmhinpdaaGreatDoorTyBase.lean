/- Typed values as trees, and the rules by which the printed functions are computed. -/
import Derived.Test.YtmcfccgmhinpdaaGreatDoorF
import Derived.Lib.Strings
namespace Ev.Ty
open Go Ev

/-- A type whose values stand as so many cells. -/
class Enc (α : Type) where
  sz : Nat
  pos : 0 < sz
  enc : α → List T
  len : ∀ x, (enc x).length = sz
open Enc (enc)
def cells {α : Type} [Enc α] (l : List α) : List T := l.flatMap enc
/-- A slice of such values. -/
def slc {α : Type} [Enc α] (l : List α) : T := .sl (Enc.sz α) (cells l)
instance : Enc Int := ⟨1, by decide, fun n => [.int .i64 n], fun _ => rfl⟩
@[simp] theorem sz_int : Enc.sz Int = 1 := rfl
instance : Enc UInt8 := ⟨1, by decide, fun n => [.int .u8 n.toNat], fun _ => rfl⟩
instance : Enc Bool := ⟨1, by decide, fun b => [.bool b], fun _ => rfl⟩
instance : Enc ByteArray := ⟨1, by decide, fun b => [.str b], fun _ => rfl⟩
@[simp] theorem sz_u8 : Enc.sz UInt8 = 1 := rfl
instance {α : Type} [Enc α] : Enc (List α) := ⟨1, by decide, fun l => [.sl (Enc.sz α) (cells l)], fun _ => rfl⟩
@[simp] theorem sz_list {α : Type} [Enc α] : Enc.sz (List α) = 1 := rfl
@[simp] theorem enc_int (n : Int) : enc n = [.int .i64 n] := rfl
@[simp] theorem enc_u8 (n : UInt8) : enc n = [.int .u8 n.toNat] := rfl
@[simp] theorem enc_list {α : Type} [Enc α] (l : List α) : enc l = [slc l] := rfl
@[simp] theorem oSl_slc {α : Type} [Enc α] {k : Nat} (l : List α) (h : Enc.sz α = k) : oSl k (slc l) = some (cells l) := by subst h; simp [slc, oSl]

section
variable {α : Type} [Enc α]
@[simp] theorem cells_nil : cells ([] : List α) = [] := rfl
theorem cells_cons (x : α) (l : List α) : cells (x :: l) = enc x ++ cells l := List.flatMap_cons
@[simp] theorem cells_append (l r : List α) : cells (l ++ r) = cells l ++ cells r := List.flatMap_append
theorem cells_length : ∀ l : List α, (cells l).length = l.length * Enc.sz α
  | [] => by simp
  | x :: l => by rw [cells_cons, List.length_append, Enc.len, cells_length l, List.length_cons, Nat.succ_mul, Nat.add_comm]
theorem cells_div {l : List α} {k : Nat} (h : Enc.sz α = k) : (cells l).length / k = l.length := by
  subst h; rw [cells_length, Nat.mul_div_cancel _ Enc.pos]
theorem cells_get (l : List α) (k i j : Nat) (h : Enc.sz α = k) (hj : j < k) : (cells l)[i * k + j]? = (l[i]?).bind fun x => (enc x)[j]? := by
  subst h
  rw [cells, flatMap_get Enc.pos Enc.len]
  have e1 : (i * Enc.sz α + j) / Enc.sz α = i := by
    rw [Nat.mul_comm, Nat.mul_add_div Enc.pos, Nat.div_eq_of_lt hj, Nat.add_zero]
  have e2 : (i * Enc.sz α + j) % Enc.sz α = j := by
    rw [Nat.mul_comm, Nat.mul_add_mod, Nat.mod_eq_of_lt hj]
  rw [e1, e2]
theorem get0 {l : List α} {k i : Nat} (h : Enc.sz α = k) : (cells l)[i * k]? = (l[i]?).bind fun x => (enc x)[0]? :=
  cells_get l k i 0 h (h ▸ Enc.pos)
theorem get1 {l : List α} {k i : Nat} (h : Enc.sz α = k) (hj : 1 < k) : (cells l)[i * k + 1]? = (l[i]?).bind fun x => (enc x)[1]? :=
  cells_get l k i 1 h hj
theorem get2 {l : List α} {k i : Nat} (h : Enc.sz α = k) (hj : 2 < k) : (cells l)[i * k + 1 + 1]? = (l[i]?).bind fun x => (enc x)[2]? :=
  cells_get l k i 2 h hj
theorem get3 {l : List α} {k i : Nat} (h : Enc.sz α = k) (hj : 3 < k) : (cells l)[i * k + 1 + 1 + 1]? = (l[i]?).bind fun x => (enc x)[3]? :=
  cells_get l k i 3 h hj
theorem get4 {l : List α} {k i : Nat} (h : Enc.sz α = k) (hj : 4 < k) : (cells l)[i * k + 1 + 1 + 1 + 1]? = (l[i]?).bind fun x => (enc x)[4]? :=
  cells_get l k i 4 h hj
theorem get5 {l : List α} {k i : Nat} (h : Enc.sz α = k) (hj : 5 < k) : (cells l)[i * k + 1 + 1 + 1 + 1 + 1]? = (l[i]?).bind fun x => (enc x)[5]? :=
  cells_get l k i 5 h hj
theorem get6 {l : List α} {k i : Nat} (h : Enc.sz α = k) (hj : 6 < k) : (cells l)[i * k + 1 + 1 + 1 + 1 + 1 + 1]? = (l[i]?).bind fun x => (enc x)[6]? :=
  cells_get l k i 6 h hj
theorem get7 {l : List α} {k i : Nat} (h : Enc.sz α = k) (hj : 7 < k) : (cells l)[i * k + 1 + 1 + 1 + 1 + 1 + 1 + 1]? = (l[i]?).bind fun x => (enc x)[7]? :=
  cells_get l k i 7 h hj
theorem get8 {l : List α} {k i : Nat} (h : Enc.sz α = k) (hj : 8 < k) : (cells l)[i * k + 1 + 1 + 1 + 1 + 1 + 1 + 1 + 1]? = (l[i]?).bind fun x => (enc x)[8]? :=
  cells_get l k i 8 h hj
theorem cells_window {l : List α} {k i : Nat} (h : Enc.sz α = k) {x : α} (hx : l[i]? = some x) : ((cells l).drop (i * k)).take k = enc x := by
  subst h
  refine List.ext_getElem? fun j => ?_
  rw [List.getElem?_take]
  split
  · rename_i hj
    rw [List.getElem?_drop, cells_get l _ i j rfl hj, hx]
    rfl
  · rename_i hj
    rw [List.getElem?_eq_none (by rw [Enc.len]; omega)]
theorem cells_take (l : List α) (k i : Nat) (h : Enc.sz α = k) : (cells l).take (i * k) = cells (l.take i) := by
  subst h
  induction i generalizing l with
  | zero => simp
  | succ i ih =>
    cases l with
    | nil => simp
    | cons x l =>
      rw [List.take_succ_cons, cells_cons, cells_cons, Nat.succ_mul, Nat.add_comm, List.take_append, Enc.len]
      rw [List.take_of_length_le (by rw [Enc.len]; omega), Nat.add_sub_cancel_left, ih]
theorem cells_drop (l : List α) (k i : Nat) (h : Enc.sz α = k) : (cells l).drop (i * k) = cells (l.drop i) := by
  subst h
  induction i generalizing l with
  | zero => simp
  | succ i ih =>
    cases l with
    | nil => simp
    | cons x l =>
      rw [List.drop_succ_cons, cells_cons, Nat.succ_mul, Nat.add_comm, List.drop_append, Enc.len]
      rw [List.drop_of_length_le (by rw [Enc.len]; omega), Nat.add_sub_cancel_left, ih, List.nil_append]
theorem cells_set (l : List α) (k i : Nat) (h : Enc.sz α = k) (x : α) (hi : i < l.length) : setCells (cells l) (i * k) (enc x) = cells (l.set i x) := by
  subst h
  refine List.ext_getElem? fun j => ?_
  have hle : i * Enc.sz α + Enc.sz α ≤ l.length * Enc.sz α := by
    rw [← Nat.succ_mul]; exact Nat.mul_le_mul_right _ hi
  rw [setCells_get _ _ _ _ (by rw [Enc.len, cells_length]; exact hle), Enc.len]
  have hp : 0 < Enc.sz α := Enc.pos
  have hj : j = j / Enc.sz α * Enc.sz α + j % Enc.sz α := by rw [Nat.mul_comm]; exact (Nat.div_add_mod j _).symm
  have hm : j % Enc.sz α < Enc.sz α := Nat.mod_lt _ hp
  have hset : (cells (l.set i x))[j]? = ((l.set i x)[j / Enc.sz α]?).bind fun y => (enc y)[j % Enc.sz α]? := by
    conv => lhs; rw [hj]
    exact cells_get _ _ _ _ rfl hm
  have hl : (cells l)[j]? = (l[j / Enc.sz α]?).bind fun y => (enc y)[j % Enc.sz α]? := by
    conv => lhs; rw [hj]
    exact cells_get _ _ _ _ rfl hm
  rw [hset, hl]
  by_cases hij : i = j / Enc.sz α
  · have h1 : i * Enc.sz α ≤ j := by rw [hij]; exact Nat.div_mul_le_self _ _
    have h2 : j < i * Enc.sz α + Enc.sz α := by rw [hij]; omega
    rw [if_pos ⟨h1, h2⟩, ← hij, List.getElem?_set_self hi]
    have : j - i * Enc.sz α = j % Enc.sz α := by rw [hij]; omega
    rw [this]; rfl
  · rw [if_neg, List.getElem?_set_ne hij]
    rintro ⟨h1, h2⟩
    apply hij
    refine (Nat.div_eq_of_lt_le ?_ ?_).symm
    · exact h1
    · rw [Nat.succ_mul]; exact h2
theorem cells_rep (n : Nat) (x : α) : repT n (enc x) = cells (List.replicate n x) := by
  unfold repT cells
  induction n with
  | zero => rfl
  | succ n ih => rw [List.replicate_succ, List.replicate_succ, List.flatten_cons, List.flatMap_cons, ih]
theorem enc_cells_one (x : α) : cells [x] = enc x := by simp [cells]
end

/-! ## trees read -/
@[simp] theorem oInt_int (k : IntKind) (n : Int) : oInt k (.int k n) = some n := by simp [oInt]
@[simp] theorem oBool_bool (b : Bool) : oBool (.bool b) = some b := Eq.trans rfl rfl
@[simp] theorem oStr_str (b : ByteArray) : oStr (.str b) = some b := Eq.trans rfl rfl
@[simp] theorem oSl_sl (k : Nat) (c : List T) : oSl k (.sl k c) = some c := by simp [oSl]
@[simp] theorem oAgg_agg (c : List T) : oAgg (.agg c) = some c := Eq.trans rfl rfl
@[simp] theorem oTup_tup (c : List T) : oTup (.tup c) = some c := Eq.trans rfl rfl
@[simp] theorem oCons_cons (x : T) (c : List T) : oCons (x :: c) = some (x, c) := Eq.trans rfl rfl
@[simp] theorem oNil_nil : oNil [] = some () := Eq.trans rfl rfl
theorem bind_of {α β : Type} {x : α} {f : α → Option β} : (Option.bind (some x) f) = f x := Eq.trans rfl rfl
theorem inB_nat (i n : Nat) : inB (i : Int) n = decide (i < n) := by
  unfold inB
  rw [Bool.eq_iff_iff]; simp
theorem wrap64 {x : Int} (h : -9223372036854775808 ≤ x ∧ x < 9223372036854775808) : IntKind.wrap .i64 x = x := by
  unfold IntKind.wrap
  simp [IntKind.signed, IntKind.bits]
  omega
theorem wrap8 {x : Int} (h : 0 ≤ x ∧ x < 256) : IntKind.wrap .u8 x = x := by
  unfold IntKind.wrap
  simp [IntKind.signed, IntKind.bits]
  omega
theorem wrap_succ {k : Nat} (h : k < 9223372036854775807) : IntKind.wrap .i64 ((k : Int) + 1) = ((k + 1 : Nat) : Int) := by
  rw [wrap64 (by omega)]; rfl
/-- What a call gives. -/
def Call (g : FuncId) (args : List T) (r : T) : Prop := LIM g args = some (r, [])
theorem Call.eq {g : FuncId} {args : List T} {r : T} (h : Call g args r) : LIM g args = some (r, []) := h
theorem call_of {g : FuncId} {args : List T} {r : T} (hx : X g = none) (n : Nat) (h : callK prog A H LIM n g args = some (r, [])) : Call g args r := lim_of hx n h
/-! ## how large -/
class Sm (α : Type) where
  sm : Nat → α → Prop
  mono : ∀ {n m : Nat} {x : α}, n ≤ m → sm n x → sm m x
open Sm (sm)
theorem sm_mono {α : Type} [Sm α] {n m : Nat} {x : α} (h : n ≤ m) (hx : sm n x) : sm m x := Sm.mono h hx
instance : Sm Int := ⟨fun _ _ => True, fun _ h => h⟩
instance : Sm Bool := ⟨fun _ _ => True, fun _ h => h⟩
instance : Sm UInt8 := ⟨fun _ _ => True, fun _ h => h⟩
instance : Sm ByteArray := ⟨fun n x => x.size ≤ n, fun h hx => Nat.le_trans hx h⟩
instance {α : Type} [Sm α] : Sm (List α) := ⟨fun n l => l.length ≤ n ∧ ∀ x, x ∈ l → sm n x, fun h hx => ⟨Nat.le_trans hx.1 h, fun x hm => sm_mono h (hx.2 x hm)⟩⟩

theorem sl_cells {α : Type} [Enc α] {k : Nat} {l : List α} (h : Enc.sz α = k) : T.sl k (cells l) = slc l := by subst h; rfl
theorem set_Int {l : List Int} {i : Nat} (h : i < l.length) (v : Int) : setCells (cells l) (i * 1) [.int .i64 v] = cells (l.set i v) := cells_set l 1 i rfl v h
theorem set_UInt8 {l : List UInt8} {i : Nat} (h : i < l.length) (v : UInt8) : setCells (cells l) (i * 1) [.int .u8 v.toNat] = cells (l.set i v) := cells_set l 1 i rfl v h
theorem set_List {α : Type} [Enc α] {l : List (List α)} {i : Nat} (h : i < l.length) (v : List α) : setCells (cells l) (i * 1) [slc v] = cells (l.set i v) := cells_set l 1 i rfl v h
theorem rep_Int (n : Nat) : repT n [.int .i64 0] = cells (List.replicate n (0 : Int)) := cells_rep n (0 : Int)
theorem rep_UInt8 (n : Nat) : repT n [.int .u8 0] = cells (List.replicate n (0 : UInt8)) := cells_rep n (0 : UInt8)
theorem rep_List {α : Type} [Enc α] {k : Nat} (h : Enc.sz α = k) (n : Nat) : repT n [.sl k []] = cells (List.replicate n ([] : List α)) := by subst h; exact cells_rep n ([] : List α)
theorem cond_pos {α : Type} {c : Bool} {a b : α} (h : c = true) : (bif c then a else b) = a := by rw [h]; rfl
theorem cond_neg {α : Type} {c : Bool} {a b : α} (h : c = false) : (bif c then a else b) = b := by rw [h]; rfl

theorem cond_bne {α β : Type} [BEq α] [LawfulBEq α] [DecidableEq α] {a b : α} {x y : β} : (bif (a != b) then x else y) = if a = b then y else x := by
  by_cases h : a = b
  · subst h; simp
  · have : (a != b) = true := by simpa using h
    rw [this, if_neg h]; rfl
theorem cond_beq {α β : Type} [BEq α] [LawfulBEq α] [DecidableEq α] {a b : α} {x y : β} : (bif (a == b) then x else y) = if a = b then x else y := by
  by_cases h : a = b
  · subst h; simp
  · have : (a == b) = false := by simpa using h
    rw [this, if_neg h]; rfl
theorem cond_dec {β : Type} {p : Prop} [Decidable p] {x y : β} : (bif decide p then x else y) = if p then x else y := by
  by_cases h : p <;> simp [h]
theorem beq_dec {α : Type} [BEq α] [LawfulBEq α] [DecidableEq α] {a b : α} : (a == b) = decide (a = b) := by
  by_cases h : a = b <;> simp [h]
theorem bne_dec {α : Type} [BEq α] [LawfulBEq α] [DecidableEq α] {a b : α} : (a != b) = !decide (a = b) := by
  by_cases h : a = b <;> simp [h]
theorem cond_nt {β : Type} {b : Bool} {x y : β} : (bif !b then x else y) = bif b then y else x := by cases b <;> rfl
theorem u8_inj {a b : UInt8} : ((a.toNat : Int) = (b.toNat : Int)) = (a = b) := by
  rw [eq_iff_iff, Int.ofNat_inj, UInt8.toNat_inj]
theorem str_inj {a b : ByteArray} : (a.toList = b.toList) = (a = b) := by
  rw [eq_iff_iff, Lib.toList_data, Lib.toList_data]
  constructor
  · intro h
    have := Array.toList_inj.1 h
    cases a; cases b; simp_all
  · rintro rfl; rfl
/-! ## rounds -/
theorem take_set_succ {α : Type} {l o : List α} {k : Nat} (h : k < l.length) (hl : o.length = l.length) (ht : o.take k = l.take k) : (o.set k l[k]).take (k + 1) = l.take (k + 1) := by
  refine List.ext_getElem? fun i => ?_
  rw [List.getElem?_take, List.getElem?_take]
  split
  · rename_i hi
    by_cases e : k = i
    · subst e; rw [List.getElem?_set_self (by omega), List.getElem?_eq_getElem h]
    · rw [List.getElem?_set_ne e]
      have := congrArg (fun l => l[i]?) ht
      simpa [List.getElem?_take, show i < k by omega] using this
  · rfl
theorem to_loop {α : Type} {l : List α} {S : Nat → Nat → List α → R} {z : T}
    (step : ∀ m k o (h : k < l.length), o.length = l.length → S (m + 1) k o = S m (k + 1) (o.set k l[k]))
    (stop : ∀ m (o : List α), o = l → S (m + 1) l.length o = some (z, [])) (o : List α) (ho : o.length = l.length) : S (l.length + 1) 0 o = some (z, []) := by
  have : ∀ m k o, k ≤ l.length → l.length < m + k → o.length = l.length → o.take k = l.take k → S m k o = some (z, []) := by
    intro m
    induction m with
    | zero => intros; omega
    | succ m ih =>
      intro k o hk hm hl ht
      by_cases h : k < l.length
      · rw [step m k o h hl]
        exact ih (k + 1) _ (by omega) (by omega) (by simpa using hl) (take_set_succ h hl ht)
      · obtain rfl : k = l.length := by omega
        refine stop m o ?_
        rw [List.take_of_length_le (by omega), List.take_of_length_le (by omega)] at ht
        exact ht
  exact this _ 0 o (by omega) (by omega) ho (by simp)
theorem eq_loop {α : Type} [DecidableEq α] {a b : List α} (hl : a.length = b.length) {S : Nat → Nat → R}
    (step : ∀ m k (h : k < a.length) (h' : k < b.length), S (m + 1) k = if a[k] = b[k] then S m (k + 1) else some (.bool false, []))
    (stop : ∀ m, S (m + 1) a.length = some (.bool true, [])) : S (a.length + 1) 0 = some (.bool (decide (a = b)), []) := by
  have : ∀ m k, k ≤ a.length → a.length < m + k → S m k = some (.bool (decide (a.drop k = b.drop k)), []) := by
    intro m
    induction m with
    | zero => intros; omega
    | succ m ih =>
      intro k hk hm
      by_cases h : k < a.length
      · have h' : k < b.length := hl ▸ h
        rw [step m k h h', ih (k + 1) (by omega) (by omega), List.drop_eq_getElem_cons h, List.drop_eq_getElem_cons h']
        by_cases e : a[k] = b[k]
        · rw [if_pos e]; simp only [List.cons.injEq, e, true_and]
        · rw [if_neg e]; simp only [List.cons.injEq, e, false_and, decide_false]
      · obtain rfl : k = a.length := by omega
        rw [stop m, List.drop_of_length_le (Nat.le_refl _), List.drop_of_length_le (by omega)]
        simp
  have := this (a.length + 1) 0 (by omega) (by omega)
  simpa using this
theorem sz_loop {α : Type} {l : List α} {P : α → Prop} {S : Nat → Nat → Int → R}
    (step : ∀ m k left (h : k < l.length), 0 ≤ left → left ≤ 1048576 → ∃ r, r ≤ left ∧ (0 ≤ r → P l[k]) ∧ S (m + 1) k left = if r < 0 then some (.int .i64 (-1), []) else S m (k + 1) r)
    (stop : ∀ m left, S (m + 1) l.length left = some (.int .i64 left, [])) (left : Int) (h0 : 0 ≤ left) (h1 : left ≤ 1048576) :
    ∃ r, S (l.length + 1) 0 left = some (.int .i64 r, []) ∧ r ≤ left ∧ (0 ≤ r → ∀ x, x ∈ l → P x) := by
  have : ∀ m k left, k ≤ l.length → l.length < m + k → 0 ≤ left → left ≤ 1048576 → ∃ r, S m k left = some (.int .i64 r, []) ∧ r ≤ left ∧ (0 ≤ r → ∀ x, x ∈ l.drop k → P x) := by
    intro m
    induction m with
    | zero => intros; omega
    | succ m ih =>
      intro k left hk hm h0 h1
      by_cases h : k < l.length
      · obtain ⟨r, hr, hp, e⟩ := step m k left h h0 h1
        by_cases hn : r < 0
        · rw [if_pos hn] at e
          exact ⟨-1, e, by omega, by omega⟩
        · rw [if_neg hn] at e
          obtain ⟨r', e', hr', hp'⟩ := ih (k + 1) r (by omega) (by omega) (by omega) (by omega)
          refine ⟨r', e.trans e', by omega, fun h2 x hx => ?_⟩
          rw [List.drop_eq_getElem_cons h] at hx
          rcases List.mem_cons.1 hx with rfl | hx
          · exact hp (by omega)
          · exact hp' h2 x hx
      · obtain rfl : k = l.length := by omega
        refine ⟨left, stop m left, by omega, fun _ x hx => ?_⟩
        rw [List.drop_of_length_le (Nat.le_refl _)] at hx
        simp at hx
  obtain ⟨r, h1, h2, h3⟩ := this (l.length + 1) 0 left (by omega) (by omega) h0 h1
  exact ⟨r, h1, h2, by simpa using h3⟩
end Ev.Ty
