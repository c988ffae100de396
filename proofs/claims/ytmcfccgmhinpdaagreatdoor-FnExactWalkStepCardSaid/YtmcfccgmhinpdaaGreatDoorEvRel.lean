/- Ev: how trees and memory go together. -/
import Derived.Test.YtmcfccgmhinpdaaGreatDoorEvDefs
import Derived.Laws.Append
import Derived.Laws.AppendOwn
import Derived.Laws.OwnMore
import Derived.Laws.MakeOwn
import Derived.Laws.CopyRow
import Derived.Laws.Rows
import Derived.Below
namespace Ev
open Go

/-! ## trees that are read -/
/-- The entries of a map. -/
def MpR (es : Array MapEntry) (l : List (Int × Int × Bool)) : Prop :=
  es.toList.map (fun e => (e.key, e.val)) = l.map fun q => (.agg #[.int .i64 q.1, .int .i64 q.2.1], .bool q.2.2)
/-- The value leads to the tree; what is read of slices lies in blocks of I, behind pointers in blocks of J. -/
inductive RB (w : World) (I J : Nat → Prop) : T → Value → Prop
  | int (k n) : RB w I J (.int k n) (.int k n)
  | bool (b) : RB w I J (.bool b) (.bool b)
  | str (s) : RB w I J (.str s) (.string s)
  | sl {sz cells a len cap} (vs : Nat → Value) (hsz : 0 < sz) (hlen : cells.length = len * sz) (hcap : len ≤ cap)
      (ha : cells ≠ [] → ∃ b o, a = some ⟨b, o, none⟩ ∧ I b ∧ ∀ i, i < cells.length → w.cell? ⟨b, o + i, none⟩ = some (vs i))
      (hc : ∀ i x, cells[i]? = some x → RB w I J x (vs i)) : RB w I J (.sl sz cells) (.slice a len cap)
  | rref {cells q b o} (vs : Nat → Value) (hJ : cells ≠ [] → J b) (hcell : ∀ i, i < cells.length → w.cell? ⟨b, o + i, none⟩ = some (vs i))
      (hc : ∀ i x, cells[i]? = some x → RB w I J x (vs i)) : RB w I J (.rref cells q) (.pointer (some ⟨b, o + q, none⟩))
  | clo {fn caps cs} (vs : Nat → Value) (hl : cs = ((List.range caps.length).map vs).toArray)
      (hc : ∀ i x, caps[i]? = some x → RB w I J x (vs i)) : RB w I J (.clo fn caps) (.func (.func fn) #[] cs)
  | hole {v} (h : v.oneCell' = true) : RB w I J .hole v
  | mp {g l es clock} (hI : I g) (hg : w.heap[g]? = some (.map es clock)) (hl : MpR es l) : RB w I J (.mp l) (.map (some g))

theorem cell_of_heap {w w' : World} {b o : Nat} (h : w'.heap[b]? = w.heap[b]?) : w'.cell? ⟨b, o, none⟩ = w.cell? ⟨b, o, none⟩ := by
  simp [World.cell?, h]

theorem RB.move {w w' : World} {I J I' J' : Nat → Prop} {x : T} {v : Value} (h : RB w I J x v)
    (hI : ∀ b, I b → I' b ∧ w'.heap[b]? = w.heap[b]?) (hJ : ∀ b, J b → J' b ∧ w'.heap[b]? = w.heap[b]?) : RB w' I' J' x v := by
  induction h with
  | int k n => exact .int k n
  | bool b => exact .bool b
  | str s => exact .str s
  | sl vs hsz hlen hcap ha hc ih =>
    refine .sl vs hsz hlen hcap (fun hne => ?_) ih
    obtain ⟨b, o, e, hb, hcell⟩ := ha hne
    exact ⟨b, o, e, (hI b hb).1, fun i hi => by rw [cell_of_heap (hI b hb).2]; exact hcell i hi⟩
  | rref vs hj hcell hc ih =>
    exact .rref vs (fun hne => (hJ _ (hj hne)).1) (fun i hi => by rw [cell_of_heap (hJ _ (hj (fun e => by rw [e] at hi; simp at hi))).2]; exact hcell i hi) ih
  | clo vs hl hc ih => exact .clo vs hl ih
  | hole h => exact .hole h
  | mp hi hg hl => exact .mp (hI _ hi).1 (by rw [(hI _ hi).2]; exact hg) hl

theorem RB.one {w : World} {I J : Nat → Prop} {x : T} {v : Value} (h : RB w I J x v) : v.oneCell' = true := by
  cases h <;> first | rfl | assumption

/-! ## trees all of whose memory is one's own -/
inductive RO (w : World) : T → Value → List Nat → Prop
  | int (k n) : RO w (.int k n) (.int k n) []
  | bool (b) : RO w (.bool b) (.bool b) []
  | str (s) : RO w (.str s) (.string s) []
  | nil {sz a} (hsz : 0 < sz) : RO w (.sl sz []) (.slice a 0 0) []
  | sl {sz cells g len cap} {cur : Array Value} {e} (vs : Nat → Value) (fs : Nat → List Nat) (hsz : 0 < sz)
      (hg : w.heap[g]? = some (.cells cur e (0, 0))) (hlen : cells.length = len * sz) (hcap : len ≤ cap) (hmax : cap ≤ maxLen) (hcur : cur.size = cap * sz)
      (hv : ∀ i, i < cells.length → cur[i]? = some (vs i)) (hc : ∀ i x, cells[i]? = some x → RO w x (vs i) (fs i))
      (hnd : (g :: (List.range cells.length).flatMap fs).Nodup) :
      RO w (.sl sz cells) (.slice (some ⟨g, 0, none⟩) len cap) (g :: (List.range cells.length).flatMap fs)
  | hole {v} (h : v.oneCell' = true) : RO w .hole v []
  | mp {g l es clock} (hg : w.heap[g]? = some (.map es clock)) (hl : MpR es l) : RO w (.mp l) (.map (some g)) [g]

theorem RO.move {w w' : World} {x : T} {v : Value} {F : List Nat} (h : RO w x v F) (hF : ∀ b, b ∈ F → w'.heap[b]? = w.heap[b]?) : RO w' x v F := by
  induction h with
  | int k n => exact .int k n
  | bool b => exact .bool b
  | str s => exact .str s
  | nil hsz => exact .nil hsz
  | sl vs fs hsz hg hlen hcap hmax hcur hv hc hnd ih =>
    refine .sl vs fs hsz (by rw [hF _ (by simp)]; exact hg) hlen hcap hmax hcur hv (fun i x hi => ih i x hi fun b hb => hF b ?_) hnd
    refine List.mem_cons_of_mem _ (List.mem_flatMap.2 ⟨i, ?_, hb⟩)
    have := (List.getElem?_eq_some_iff.1 hi).1
    simpa using this
  | hole h => exact .hole h
  | mp hg hl => exact .mp (by rw [hF _ (by simp)]; exact hg) hl

theorem RO.one {w : World} {x : T} {v : Value} {F : List Nat} (h : RO w x v F) : v.oneCell' = true := by
  cases h <;> first | rfl | assumption
theorem RO.nodup {w : World} {x : T} {v : Value} {F : List Nat} (h : RO w x v F) : F.Nodup := by
  cases h <;> first | exact List.nodup_nil | assumption | simp
theorem heap_lt {w : World} {g : Nat} {o : Obj} (h : w.heap[g]? = some o) : g < w.heap.size := by
  rcases Nat.lt_or_ge g w.heap.size with h1 | h1
  · exact h1
  · rw [Array.getElem?_eq_none h1] at h; cases h
theorem RO.lt {w : World} {x : T} {v : Value} {F : List Nat} (h : RO w x v F) : ∀ b, b ∈ F → b < w.heap.size := by
  induction h with
  | int k n => simp
  | bool b => simp
  | str s => simp
  | nil hsz => simp
  | sl vs fs hsz hg hlen hcap hmax hcur hv hc hnd ih =>
    intro b hb
    rcases List.mem_cons.1 hb with rfl | hb
    · exact heap_lt hg
    · obtain ⟨i, hi, hbi⟩ := List.mem_flatMap.1 hb
      have hi' := List.mem_range.1 hi
      exact ih i _ (List.getElem?_eq_getElem hi') b hbi
  | hole h => simp
  | mp hg hl => intro b hb; rw [List.mem_singleton.1 hb]; exact heap_lt hg
theorem cell_of_cells {w : World} {g : Nat} {cur : Array Value} {e fr} (h : w.heap[g]? = some (.cells cur e fr)) (o : Nat) : w.cell? ⟨g, o, none⟩ = cur[o]? := by
  simp [World.cell?, h]
/-- What is one's own can be read. -/
theorem RO.rb {w : World} {I J : Nat → Prop} {x : T} {v : Value} {F : List Nat} (h : RO w x v F) (hI : ∀ b, b ∈ F → I b) : RB w I J x v := by
  induction h with
  | int k n => exact .int k n
  | bool b => exact .bool b
  | str s => exact .str s
  | nil hsz => exact .sl (fun _ => default) hsz (by simp) (Nat.le_refl _) (fun h => absurd rfl h) (by simp)
  | sl vs fs hsz hg hlen hcap hmax hcur hv hc hnd ih =>
    refine .sl vs hsz hlen hcap (fun _ => ⟨_, 0, rfl, hI _ (by simp), fun i hi => ?_⟩) (fun i x hi => ih i x hi fun b hb => hI b ?_)
    · rw [Nat.zero_add, cell_of_cells hg]; exact hv i hi
    · refine List.mem_cons_of_mem _ (List.mem_flatMap.2 ⟨i, ?_, hb⟩)
      have := (List.getElem?_eq_some_iff.1 hi).1
      simpa using this
  | hole h => exact .hole h
  | mp hg hl => exact .mp (hI _ (by simp)) hg hl

/-! ## a frame's cells, slots and objects -/
/-- The pointer to cell q of what a key names. -/
def ptrTo (u : Value) (q : Nat) (v : Value) : Prop :=
  match u with
  | .pointer (some ⟨b, o, none⟩) => v = .pointer (some ⟨b, o + q, none⟩)
  | .slice (some ⟨b, o, none⟩) _ _ => v = .pointer (some ⟨b, o + q, none⟩)
  | _ => False
/-- Refs to an object: what they must be. -/
def Ob.ref (o : Ob) (p : Prop) : Prop :=
  match o with
  | .free => False
  | .gone | .moved _ => True
  | _ => p

structure Fr where
  w : World
  I : Nat → Prop
  J : Nat → Prop
  val : Key → Value
  fp : Key → List Nat
/-- The blocks that are lent out. -/
def Lent (f : Fr) (s : St) (b : Nat) : Prop := ∃ k, (s.getO k).isLent = true ∧ b ∈ f.fp k

def CR (f : Fr) (s : St) : C → Value → Prop
  | .t x, v => RB f.w f.I f.J x v
  | .nil, v => v = .slice none 0 0
  | .ptr k q, v => (s.getO k).ref (ptrTo (f.val k) q v) ∧ v.oneCell' = true
  | .obj k, v => (s.getO k).ref (v = f.val k) ∧ v.oneCell' = true
  | .undef, v => v.oneCell' = true
  | .view x, v => RB f.w (fun b => f.I b ∨ Lent f s b) (fun b => f.J b ∨ Lent f s b) x v
theorem CR.one {f : Fr} {s : St} {c : C} {v : Value} (h : CR f s c v) : v.oneCell' = true := by
  cases c with
  | t x => exact RB.one h
  | nil => cases h; rfl
  | ptr k q => exact h.2
  | obj k => exact h.2
  | undef => exact h
  | view x => exact RB.one h
def CRs (f : Fr) (s : St) (cs : List C) (vs : List Value) : Prop := cs.length = vs.length ∧ ∀ (i : Nat) (c : C) (v : Value), cs[i]? = some c → vs[i]? = some v → CR f s c v
def VR (f : Fr) (s : St) : V → Value → Prop
  | .one c, v => CR f s c v
  | .agg cs, v => ∃ vs : Array Value, v = .agg vs ∧ CRs f s cs vs.toList
  | .tup ps, v => ∃ us : Array Value, v = .tuple us ∧ ps.length = us.size ∧ ∀ (i : Nat) (p : Bool × List C) (u : Value), ps[i]? = some p → us[i]? = some u →
      (p.1 = true ∧ (∃ vs : Array Value, u = .agg vs ∧ CRs f s p.2 vs.toList)) ∨ (p.1 = false ∧ ∃ c, p.2 = [c] ∧ CR f s c u)
  | .clo fn cs, v => ∃ vs : Array Value, v = .func (.func fn) #[] vs ∧ CRs f s cs vs.toList
  | .skip, v => v = undef
  | .any, _ => True

/-- A slice of one's own, whose elements may lead to memory that is not. -/
def ShR (f : Fr) (sz : Nat) (cells : List T) (u : Value) (F : List Nat) : Prop :=
      (0 < sz ∧ cells = [] ∧ F = [] ∧ ∃ a, u = .slice a 0 0) ∨
      ∃ g len cap cur e, ∃ vs : Nat → Value, u = .slice (some ⟨g, 0, none⟩) len cap ∧ F = [g] ∧ 0 < sz ∧ f.w.heap[g]? = some (.cells cur e (0, 0)) ∧ cells.length = len * sz ∧ len ≤ cap ∧ cap ≤ maxLen ∧
        cur.size = cap * sz ∧ (∀ i, i < cells.length → cur[i]? = some (vs i)) ∧ ∀ i x, cells[i]? = some x → RB f.w f.I f.J x (vs i)
/-- A cell of a slice that is looked into: named, or a tree of one's own. -/
def findW : List (Nat × C) → Nat → Option C
  | [], _ => none
  | (q, c) :: r, i => if q = i then some c else findW r i
theorem findW_map (f : C → C) : ∀ (ws : List (Nat × C)) (i : Nat), findW (ws.map fun q => (q.1, f q.2)) i = (findW ws i).map f
  | [], _ => rfl
  | (q, c) :: r, i => by
    simp only [List.map_cons, findW]
    split
    · rfl
    · exact findW_map f r i
def WR (f : Fr) (s : St) (ws : List (Nat × C)) (i : Nat) (x : T) (v : Value) (F : List Nat) : Prop :=
  match findW ws i with
  | some c => CR f s c v ∧ F = []
  | none => RO f.w x v F
/-- A slice of one's own that is looked into. -/
def OpR (f : Fr) (s : St) (sz : Nat) (cells : List T) (ws : List (Nat × C)) (u : Value) (F : List Nat) : Prop :=
  ∃ g len cap cur e, ∃ vs : Nat → Value, ∃ fs : Nat → List Nat, u = .slice (some ⟨g, 0, none⟩) len cap ∧ F = g :: (List.range cells.length).flatMap fs ∧ (0 < sz ∧ ∀ i, (findW ws i).isSome = true → i < cells.length) ∧ f.w.heap[g]? = some (.cells cur e (0, 0)) ∧
    cells.length = len * sz ∧ len ≤ cap ∧ cap ≤ maxLen ∧ cur.size = cap * sz ∧ (∀ i, i < cells.length → cur[i]? = some (vs i)) ∧ (∀ i x, cells[i]? = some x → WR f s ws i x (vs i) (fs i)) ∧
    (g :: (List.range cells.length).flatMap fs).Nodup
/-- What an object is in memory: the value that names it, and the blocks that are its own. -/
def ObR (f : Fr) (s : St) (o : Ob) (u : Value) (F : List Nat) : Prop :=
  match o with
  | .box cs => ∃ b cur e, u = .pointer (some ⟨b, 0, none⟩) ∧ F = [b] ∧ f.w.heap[b]? = some (.cells cur e (0, 0)) ∧ CRs f s cs cur.toList
  | .arr true true sz cells => RO f.w (.sl sz cells) u F
  | .arr true false sz cells => ShR f sz cells u F
  | .arr false _ sz cells => RB f.w f.I f.J (.sl sz cells) u ∧ F = []
  | .free | .gone | .moved _ => F = []
  | .lent true sz cells => RO f.w (.sl sz cells) u F
  | .lent false sz cells => ShR f sz cells u F
  | .opn sz cells ws => OpR f s sz cells ws u F
  | .mp l => RO f.w (.mp l) u F

/-- The world's other parts stay; blocks outside S stay. -/
structure Kp (S : Nat → Prop) (w w' : World) : Prop where
  os : w'.os = w.os
  tape : w'.tape = w.tape
  output : w'.output = w.output
  size : w.heap.size ≤ w'.heap.size
  block : ∀ b, b < w.heap.size → ¬ S b → w'.heap[b]? = w.heap[b]?
theorem Kp.refl (S : Nat → Prop) (w : World) : Kp S w w := ⟨rfl, rfl, rfl, Nat.le_refl _, fun _ _ _ => rfl⟩
theorem Kp.trans {S : Nat → Prop} {a b c : World} (h : Kp S a b) (k : Kp S b c) : Kp S a c :=
  ⟨k.os.trans h.os, k.tape.trans h.tape, k.output.trans h.output, Nat.le_trans h.size k.size, fun i hi hn => (k.block i (Nat.lt_of_lt_of_le hi h.size) hn).trans (h.block i hi hn)⟩

/-- The setting of a call: how large the heap was; the slices' and the pointers' blocks that came in to be read; the blocks that came in to be turned. -/
structure Ctx where
  N : Nat
  I : Nat → Prop
  J : Nat → Prop
  S : Nat → Prop

/-- What may be written: blocks of the call's own and those that came in to be turned. -/
def Ctx.own (c : Ctx) (b : Nat) : Prop := c.N ≤ b ∨ c.S b
def inI (c : Ctx) (w : World) (fp : Key → List Nat) (b : Nat) : Prop := (c.I b ∨ c.own b) ∧ b < w.heap.size ∧ ∀ k, b ∉ fp k
def inJ (c : Ctx) (w : World) (fp : Key → List Nat) (b : Nat) : Prop := (c.J b ∨ c.own b) ∧ b < w.heap.size ∧ ∀ k, b ∉ fp k
def mkFr (c : Ctx) (w : World) (val : Key → Value) (fp : Key → List Nat) : Fr := ⟨w, inI c w fp, inJ c w fp, val, fp⟩

structure Inv (c : Ctx) (s : St) (a : Act) (w : World) (val : Key → Value) (fp : Key → List Nat) : Prop where
  obs : ∀ k, ObR (mkFr c w val fp) s (s.getO k) (val k) (fp k)
  tms : ∀ i, VR (mkFr c w val fp) s (s.getT i) (a.tmps.getD i undef)
  disj : ∀ k k', k ≠ k' → ∀ b, b ∈ fp k → b ∉ fp k'
  mine : ∀ k b, b ∈ fp k → c.N ≤ b ∨ c.S b
  size : c.N ≤ w.heap.size
  defers : a.defers = []
  ij : ∀ b, c.I b → c.J b

theorem ShR.lt {f : Fr} {sz : Nat} {cells : List T} {u : Value} {F : List Nat} (h : ShR f sz cells u F) : ∀ b, b ∈ F → b < f.w.heap.size := by
  rcases h with ⟨_, _, rfl, _⟩ | ⟨g, len, cap, cur, e, vs, _, rfl, _, hh, _⟩
  · simp
  · intro b' hb'; rw [List.mem_singleton.1 hb']; exact heap_lt hh
theorem WR.lt {f : Fr} {s : St} {ws : List (Nat × C)} {i : Nat} {x : T} {v : Value} {F : List Nat} (h : WR f s ws i x v F) : ∀ b, b ∈ F → b < f.w.heap.size := by
  unfold WR at h
  split at h
  · rw [h.2]; simp
  · exact RO.lt h
theorem OpR.lt {f : Fr} {s : St} {sz : Nat} {cells : List T} {ws : List (Nat × C)} {u : Value} {F : List Nat} (h : OpR f s sz cells ws u F) : ∀ b, b ∈ F → b < f.w.heap.size := by
  obtain ⟨g, len, cap, cur, e, vs, fs, _, rfl, _, hh, _, _, _, _, _, hel, _⟩ := h
  intro b hb
  rcases List.mem_cons.1 hb with rfl | hb
  · exact heap_lt hh
  · obtain ⟨i, hi, hbi⟩ := List.mem_flatMap.1 hb
    have hi' := List.mem_range.1 hi
    exact WR.lt (hel i _ (List.getElem?_eq_getElem hi')) b hbi
theorem ObR.lt {f : Fr} {s : St} {o : Ob} {u : Value} {F : List Nat} (h : ObR f s o u F) : ∀ b, b ∈ F → b < f.w.heap.size := by
  cases o with
  | box cs => obtain ⟨b, cur, e, _, rfl, hh, _⟩ := h; intro b' hb'; rw [List.mem_singleton.1 hb']; exact heap_lt hh
  | arr own deep sz cells =>
    cases own with
    | true =>
      cases deep with
      | true => exact RO.lt h
      | false => exact ShR.lt h
    | false => obtain ⟨_, rfl⟩ := h; simp
  | free => intro b hb; rw [show F = [] from h] at hb; simp at hb
  | gone => intro b hb; rw [show F = [] from h] at hb; simp at hb
  | moved k => intro b hb; rw [show F = [] from h] at hb; simp at hb
  | lent deep sz cells => cases deep with
    | true => exact RO.lt h
    | false => exact ShR.lt h
  | opn sz cells ws => exact OpR.lt h
  | mp l => exact RO.lt h
theorem Inv.lt {c : Ctx} {s : St} {a : Act} {w : World} {val : Key → Value} {fp : Key → List Nat} (h : Inv c s a w val fp) {k : Key} {b : Nat} (hb : b ∈ fp k) : b < w.heap.size :=
  ObR.lt (h.obs k) b hb

/-! ## changes -/
/-- How the state of a key may turn so that what leads there is still right. -/
def Turns (o o' : Ob) (u u' : Value) : Prop :=
  match o with
  | .free => True
  | .gone | .moved _ => (match o' with | .gone | .moved _ => True | _ => False)
  | _ => (match o' with | .gone | .moved _ => True | .free => False | _ => u' = u)
theorem Turns.refl (o : Ob) (u : Value) : Turns o o u u := by cases o <;> simp [Turns]
theorem Ob.ref_turns {o o' : Ob} {u u' : Value} {p : Value → Prop} (ht : Turns o o' u u') (h : o.ref (p u)) : o'.ref (p u') := by
  cases o <;> cases o' <;> simp_all [Turns, Ob.ref]

/-- From frame to frame: what was read can still be read, keys turn as they may. -/
structure Goes (f f' : Fr) (s s' : St) : Prop where
  hI : ∀ b, f.I b → f'.I b ∧ f'.w.heap[b]? = f.w.heap[b]?
  hJ : ∀ b, f.J b → f'.J b ∧ f'.w.heap[b]? = f.w.heap[b]?
  hk : ∀ k, Turns (s.getO k) (s'.getO k) (f.val k) (f'.val k)
  hL : ∀ b, Lent f s b → (Lent f' s' b ∨ f'.I b ∧ f'.J b) ∧ f'.w.heap[b]? = f.w.heap[b]?
theorem Goes.rbL {f f' : Fr} {s s' : St} (g : Goes f f' s s') {x : T} {v : Value} (h : RB f.w (fun b => f.I b ∨ Lent f s b) (fun b => f.J b ∨ Lent f s b) x v) :
    RB f'.w (fun b => f'.I b ∨ Lent f' s' b) (fun b => f'.J b ∨ Lent f' s' b) x v := by
  refine RB.move h (fun b hb => ?_) (fun b hb => ?_)
  · rcases hb with hb | hb
    · exact ⟨.inl (g.hI b hb).1, (g.hI b hb).2⟩
    · exact ⟨(g.hL b hb).1.symm.imp (fun h => h.1) id, (g.hL b hb).2⟩
  · rcases hb with hb | hb
    · exact ⟨.inl (g.hJ b hb).1, (g.hJ b hb).2⟩
    · exact ⟨(g.hL b hb).1.symm.imp (fun h => h.2) id, (g.hL b hb).2⟩
theorem CR.goes {f f' : Fr} {s s' : St} (g : Goes f f' s s') {c : C} {v : Value} (h : CR f s c v) : CR f' s' c v := by
  cases c with
  | t x => exact RB.move h g.hI g.hJ
  | nil => exact h
  | ptr k q => exact ⟨Ob.ref_turns (p := fun u => ptrTo u q v) (g.hk k) h.1, h.2⟩
  | obj k => exact ⟨Ob.ref_turns (p := fun u => v = u) (g.hk k) h.1, h.2⟩
  | undef => exact h
  | view x => exact g.rbL h
theorem CRs.goes {f f' : Fr} {s s' : St} (g : Goes f f' s s') {cs : List C} {vs : List Value} (h : CRs f s cs vs) : CRs f' s' cs vs :=
  ⟨h.1, fun i c v hc hv => (h.2 i c v hc hv).goes g⟩
theorem VR.goes {f f' : Fr} {s s' : St} (g : Goes f f' s s') {x : V} {v : Value} (h : VR f s x v) : VR f' s' x v := by
  cases x with
  | one c => exact CR.goes g h
  | agg cs => obtain ⟨vs, e, h⟩ := h; exact ⟨vs, e, h.goes g⟩
  | tup ps =>
    obtain ⟨us, e, hl, h⟩ := h
    refine ⟨us, e, hl, fun i p u hp hu => ?_⟩
    rcases h i p u hp hu with ⟨h1, vs, h2, h3⟩ | ⟨h1, c, h2, h3⟩
    · exact .inl ⟨h1, vs, h2, h3.goes g⟩
    · exact .inr ⟨h1, c, h2, CR.goes g h3⟩
  | clo fn cs => obtain ⟨vs, e, h⟩ := h; exact ⟨vs, e, h.goes g⟩
  | skip => exact h
  | any => trivial
theorem ShR.goes {f f' : Fr} {s s' : St} (g : Goes f f' s s') {sz : Nat} {cells : List T} {u : Value} {F : List Nat} (h : ShR f sz cells u F) (hF : ∀ b, b ∈ F → f'.w.heap[b]? = f.w.heap[b]?) : ShR f' sz cells u F := by
  rcases h with h | ⟨g', len, cap, cur, e, vs, hu, rfl, hsz, hh, r1, r2, r3, r4, r5, r6⟩
  · exact .inl h
  · exact .inr ⟨g', len, cap, cur, e, vs, hu, rfl, hsz, by rw [hF g' (by simp)]; exact hh, r1, r2, r3, r4, r5, fun i x hx => (r6 i x hx).move g.hI g.hJ⟩
theorem WR.goes {f f' : Fr} {s s' : St} (g : Goes f f' s s') {ws : List (Nat × C)} {i : Nat} {x : T} {v : Value} {F : List Nat} (h : WR f s ws i x v F) (hF : ∀ b, b ∈ F → f'.w.heap[b]? = f.w.heap[b]?) : WR f' s' ws i x v F := by
  unfold WR at *
  split
  · rename_i c hc; rw [hc] at h; exact ⟨CR.goes g h.1, h.2⟩
  · rename_i hc; rw [hc] at h; exact RO.move h hF
theorem OpR.goes {f f' : Fr} {s s' : St} (g : Goes f f' s s') {sz : Nat} {cells : List T} {ws : List (Nat × C)} {u : Value} {F : List Nat} (h : OpR f s sz cells ws u F) (hF : ∀ b, b ∈ F → f'.w.heap[b]? = f.w.heap[b]?) : OpR f' s' sz cells ws u F := by
  obtain ⟨g', len, cap, cur, e, vs, fs, hu, rfl, hsz, hh, r1, r2, r3, r4, r5, r6, r7⟩ := h
  refine ⟨g', len, cap, cur, e, vs, fs, hu, rfl, hsz, by rw [hF g' (by simp)]; exact hh, r1, r2, r3, r4, r5, fun i x hx => (r6 i x hx).goes g fun b hb => hF b ?_, r7⟩
  exact List.mem_cons_of_mem _ (List.mem_flatMap.2 ⟨i, by have := (List.getElem?_eq_some_iff.1 hx).1; simpa using this, hb⟩)
theorem ObR.goes {f f' : Fr} {s s' : St} (g : Goes f f' s s') {o : Ob} {u : Value} {F : List Nat} (h : ObR f s o u F) (hF : ∀ b, b ∈ F → f'.w.heap[b]? = f.w.heap[b]?) : ObR f' s' o u F := by
  cases o with
  | box cs =>
    obtain ⟨b, cur, e, hu, rfl, hh, hc⟩ := h
    exact ⟨b, cur, e, hu, rfl, by rw [hF b (by simp)]; exact hh, hc.goes g⟩
  | arr own deep sz cells =>
    cases own with
    | true =>
      cases deep with
      | true => exact RO.move h hF
      | false => exact ShR.goes g h hF
    | false => exact ⟨RB.move h.1 g.hI g.hJ, h.2⟩
  | free => exact h
  | gone => exact h
  | moved k => exact h
  | lent deep sz cells => cases deep with
    | true => exact RO.move h hF
    | false => exact ShR.goes g h hF
  | opn sz cells ws => exact OpR.goes g h hF
  | mp l => exact RO.move h hF
end Ev
