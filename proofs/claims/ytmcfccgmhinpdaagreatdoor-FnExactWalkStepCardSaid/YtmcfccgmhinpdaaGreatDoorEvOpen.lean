/- Ev: arguments read as typed values. -/
import Derived.Test.YtmcfccgmhinpdaaGreatDoorEvLim
import Derived.ChangeArms
import Derived.OpenShut
namespace Ev
open Go

/-- The shapes of the laws' arguments. -/
inductive Sh where
  | int (k : IntKind)
  | bool
  | str
  | sl (e : Sh)
  | pair (a b : Sh)
  | unit
def Sh.size : Sh → Nat
  | .int _ | .bool | .str | .sl _ => 1
  | .pair a b => a.size + b.size
  | .unit => 0
@[reducible] def Sh.Val : Sh → Type
  | .int _ => Int
  | .bool => Bool
  | .str => ByteArray
  | .sl e => List e.Val
  | .pair a b => a.Val × b.Val
  | .unit => Unit
def Sh.enc : (s : Sh) → s.Val → List T
  | .int k, n => [.int k n]
  | .bool, b => [.bool b]
  | .str, s => [.str s]
  | .sl e, l => [.sl e.size (l.flatMap e.enc)]
  | .pair a b, x => a.enc x.1 ++ b.enc x.2
  | .unit, _ => []
/-- What is known of what was read: numbers in their kind's range. -/
def Sh.wf : (s : Sh) → s.Val → Prop
  | .int k, n => (Lit.int k n).wf = true
  | .bool, _ => True
  | .str, s => s.size ≤ maxLen
  | .sl e, l => l.length ≤ maxLen ∧ ∀ x, x ∈ l → e.wf x
  | .pair a b, x => a.wf x.1 ∧ b.wf x.2
  | .unit, _ => True
theorem Sh.enc_length : ∀ (s : Sh) (x : s.Val), (s.enc x).length = s.size
  | .int _, _ => rfl
  | .bool, _ => rfl
  | .str, _ => rfl
  | .sl _, _ => rfl
  | .pair a b, x => by rw [Sh.enc, List.length_append, a.enc_length, b.enc_length]; rfl
  | .unit, _ => rfl

mutual
def okT (P : Program) : Sh → TypeId → Bool
  | .int k, t => match P.underlying t with | some (.int k') => decide (k' = k) | _ => false
  | .bool, t => match P.underlying t with | some .bool => true | _ => false
  | .str, t => match P.underlying t with | some .string => true | _ => false
  | .sl e, t => match P.underlying t with | some (.slice te) => okT P e te && Nat.beq (P.cellsOf te) e.size && Nat.blt 0 e.size | _ => false
  | .pair a b, t => match P.underlying t with
    | some (.struct fs) => (match fs.toList with
      | f :: r => Nat.beq f.offset 0 && Nat.beq (P.cellsOf f.type) a.size && okT P a f.type && okF P b r a.size
      | [] => false) && Nat.beq (P.cellsOf t) (a.size + b.size)
    | _ => false
  | .unit, t => match P.underlying t with
    | some (.struct fs) => Nat.beq fs.toList.length 0 && Nat.beq (P.cellsOf t) 0
    | _ => false
def okF (P : Program) : Sh → List Field → Nat → Bool
  | .pair a b, f :: r, off => Nat.beq f.offset off && Nat.beq (P.cellsOf f.type) a.size && okT P a f.type && okF P b r (off + a.size)
  | .unit, [], _ => true
  | _, _, _ => false
end

theorem flatMap_get {α : Type} {f : α → List T} {n : Nat} (hn : 0 < n) (hf : ∀ x, (f x).length = n) : ∀ (l : List α) (i : Nat), (l.flatMap f)[i]? = (l[i / n]?).bind fun x => (f x)[i % n]?
  | [], i => by simp
  | x :: l, i => by
    rw [List.flatMap_cons, List.getElem?_append, hf x]
    split
    · rename_i h; rw [Nat.div_eq_of_lt h, Nat.mod_eq_of_lt h]; rfl
    · rename_i h
      rw [flatMap_get hn hf l (i - n)]
      have h1 : i / n = (i - n) / n + 1 := by
        have := Nat.div_eq_sub_div hn (show n ≤ i by omega)
        omega
      have h2 : i % n = (i - n) % n := Nat.mod_eq_sub_mod (by omega)
      rw [h1, h2]; rfl
theorem flatMap_len {α : Type} {f : α → List T} {n : Nat} (hf : ∀ x, (f x).length = n) : ∀ (l : List α), (l.flatMap f).length = l.length * n
  | [] => by simp
  | x :: l => by rw [List.flatMap_cons, List.length_append, hf x, flatMap_len hf l, List.length_cons, Nat.add_mul]; omega
theorem choose_list {α : Type} {p : Nat → α → Prop} : ∀ (n : Nat), (∀ i, i < n → ∃ x, p i x) → ∃ l : List α, l.length = n ∧ ∀ i x, l[i]? = some x → p i x
  | 0, _ => ⟨[], rfl, by simp⟩
  | n + 1, h => by
    obtain ⟨l, h1, h2⟩ := choose_list n fun i hi => h i (by omega)
    obtain ⟨x, hx⟩ := h n (by omega)
    refine ⟨l ++ [x], by simp [h1], fun i y hy => ?_⟩
    rw [List.getElem?_append] at hy
    split at hy
    · exact h2 i y hy
    · rename_i hi
      have hi' : i = n := by
        have := (List.getElem?_eq_some_iff.1 hy).1
        simp at this; omega
      subst hi'
      have : i - l.length = 0 := by omega
      rw [this] at hy
      simp at hy
      subst hy; exact hx

section
variable {H : Type} {enc : TypeId × Value → H} {P : Program} {w : World} {spare : Nat → Bool} {held : Bool}

def Here (w : World) (b : Nat) : Prop := b < w.heap.size
theorem cells_get {base : Nat} {a : Addr} {n : Nat} {cs : List Value} (h : w.cells? base a n = some cs) : cs.length = n ∧ ∀ j, j < n → w.cell? (a.add j) = cs[j]? := by
  unfold World.cells? at h
  split at h
  · refine ⟨by simpa using mapM_some_length h, fun j hj => mapM_some_get h j j (by simp [hj])⟩
  · cases h

/-- What is read as data is a typed value. -/
def Opens (P : Program) (w : World) (s : Sh) (cs : List Value) : Prop := ∃ x : s.Val, s.wf x ∧ (s.enc x).length = cs.length ∧ ∀ (i : Nat) (y : T) (v : Value), (s.enc x)[i]? = some y → cs[i]? = some v → RB w (Here w) (Here w) y v

theorem open_both : ∀ (s : Sh), (∀ (t : TypeId) (fuel : Nat) (cs : List Value) (x : DataW H × List MemPlace), okT P s t = true → DataW.trod enc P w 0 spare held fuel t cs = some x → Opens P w s cs) ∧
    (∀ (fs : List Field) (off fuel : Nat) (cs : List Value), okF P s fs off = true → cs.length = off + s.size → (∀ f, f ∈ fs → ∃ x, DataW.trod enc P w 0 spare held fuel f.type ((cs.drop f.offset).take (P.cellsOf f.type)) = some x) → Opens P w s (cs.drop off)) := by
  intro s
  induction s with
  | int k =>
    refine ⟨fun t fuel cs x hok h => ?_, fun fs off fuel cs hok _ _ => by cases fs <;> cases hok⟩
    rw [okT] at hok
    split at hok
    · rename_i k' hu
      have hk : k' = k := of_decide_eq_true hok
      subst hk
      cases fuel with
      | zero => simp [DataW.trod] at h
      | succ n =>
        unfold DataW.trod at h
        rw [hu] at h
        have hex : ∃ n : Int, (Lit.int k' n).wf = true ∧ cs = [.int k' n] := by
          split at h <;> simp_all
        obtain ⟨n', hwf', hcs⟩ := hex
        subst hcs
        refine ⟨n', hwf', rfl, fun i y v hy hv => ?_⟩
        cases i with
        | zero => simp [Sh.enc] at hy hv; subst hy; subst hv; exact .int _ _
        | succ i => simp [Sh.enc] at hy
    · cases hok
  | bool =>
    refine ⟨fun t fuel cs x hok h => ?_, fun fs off fuel cs hok _ _ => by cases fs <;> cases hok⟩
    rw [okT] at hok
    split at hok
    · rename_i hu
      cases fuel with
      | zero => simp [DataW.trod] at h
      | succ n =>
        unfold DataW.trod at h
        rw [hu] at h
        split at h <;> simp_all
        refine ⟨(by assumption : Bool), trivial, rfl, fun i y v hy hv => ?_⟩
        cases i with
        | zero => simp [Sh.enc] at hy hv; subst hy; subst hv; exact .bool _
        | succ i => simp [Sh.enc] at hy
    · cases hok
  | str =>
    refine ⟨fun t fuel cs x hok h => ?_, fun fs off fuel cs hok _ _ => by cases fs <;> cases hok⟩
    rw [okT] at hok
    split at hok
    · rename_i hu
      cases fuel with
      | zero => simp [DataW.trod] at h
      | succ n =>
        unfold DataW.trod at h
        rw [hu] at h
        have hex : ∃ b : ByteArray, b.size ≤ maxLen ∧ cs = [.string b] := by
          split at h <;> simp_all
        obtain ⟨b, hb, hcs⟩ := hex
        subst hcs
        refine ⟨b, hb, rfl, fun i y v hy hv => ?_⟩
        cases i with
        | zero => simp [Sh.enc] at hy hv; subst hy; subst hv; exact .str _
        | succ i => simp [Sh.enc] at hy
    · cases hok
  | sl e ih =>
    refine ⟨fun t fuel cs x hok h => ?_, fun fs off fuel cs hok _ _ => by cases fs <;> cases hok⟩
    rw [okT] at hok
    split at hok
    · rename_i te hu
      simp only [Bool.and_eq_true] at hok
      obtain ⟨⟨h1, h2⟩, h3⟩ := hok
      have h2 : P.cellsOf te = e.size := Nat.eq_of_beq_eq_true h2
      have h3 := blt_pos h3
      rcases DataW.trod_slice hu h with ⟨rfl, _⟩ | ⟨a, len, cap, elems, rest, n, _, rfl, _, _, hle, hmax, _, hel, _⟩
      · refine ⟨[], ⟨Nat.zero_le _, by simp⟩, rfl, fun i y v hy hv => ?_⟩
        cases i with
        | zero =>
          simp [Sh.enc] at hy hv; subst hy; subst hv
          exact .sl (fun _ => undef) h3 (by simp) (Nat.le_refl _) (fun h => absurd rfl h) (by simp)
        | succ i => simp [Sh.enc] at hy
      · have each : ∀ i, i < len → ∃ x : e.Val, e.wf x ∧ ∀ (j : Nat) (y : T), (e.enc x)[j]? = some y → ∃ v, w.cell? ((a.add (i * e.size)).add j) = some v ∧ RB w (Here w) (Here w) y v := by
          intro i hi
          have hi' := hel i hi
          have hex : elems[i]? = some elems[i] := by
            rw [List.getElem?_eq_getElem]
          rw [hex, Option.bind_eq_some_iff] at hi'
          obtain ⟨ci, hci, htr⟩ := hi'
          obtain ⟨c1, c2⟩ := cells_get hci
          obtain ⟨x, w1, w2, w3⟩ := ih.1 te _ ci _ h1 htr
          refine ⟨x, w1, fun j y hy => ?_⟩
          have hj : j < e.size := by rw [← e.enc_length x]; exact (List.getElem?_eq_some_iff.1 hy).1
          have hj' : j < ci.length := by omega
          have := c2 j (by omega)
          rw [List.getElem?_eq_getElem hj', h2] at this
          exact ⟨_, this, w3 j y _ hy (List.getElem?_eq_getElem hj')⟩
        obtain ⟨l, l1, l2⟩ := choose_list len each
        have hml : len ≤ maxLen := Nat.le_trans hle hmax
        refine ⟨l, ⟨by rw [l1]; exact hml, fun x hx => by obtain ⟨i, hi⟩ := List.mem_iff_getElem?.1 hx; exact (l2 i x hi).1⟩, rfl, fun i y v hy hv => ?_⟩
        cases i with
        | succ i => simp [Sh.enc] at hy
        | zero =>
          simp [Sh.enc] at hy hv; subst hy; subst hv
          have hlen := flatMap_len (e.enc_length) l
          -- each cell, by its place
          have cell : ∀ q y, (l.flatMap e.enc)[q]? = some y → ∃ v, w.cell? ((a.add (q / e.size * e.size)).add (q % e.size)) = some v ∧ RB w (Here w) (Here w) y v := by
            intro q y hy
            rw [flatMap_get h3 e.enc_length, Option.bind_eq_some_iff] at hy
            obtain ⟨x, hx, hy⟩ := hy
            exact (l2 _ x hx).2 _ y hy
          have plain : l.flatMap e.enc ≠ [] → ∃ b o, a = ⟨b, o, none⟩ := fun hne => by
            obtain ⟨v, hv, _⟩ := cell 0 _ (List.getElem?_eq_getElem (List.length_pos_iff.2 hne))
            obtain ⟨b, off, spot⟩ := a
            have hspot : spot = none := by simpa [Addr.add] using World.cell?_spot hv
            exact ⟨b, off, by rw [hspot]⟩
          have addr : ∀ {b o : Nat} (q : Nat), ((⟨b, o, none⟩ : Addr).add (q / e.size * e.size)).add (q % e.size) = ⟨b, o + q, none⟩ := fun {b o} q => by
            rw [add_at, add_at, Nat.add_assoc, Nat.mul_comm, Nat.div_add_mod]
          have cell' : ∀ (b o : Nat), a = ⟨b, o, none⟩ → ∀ q y, (l.flatMap e.enc)[q]? = some y → ∃ v, w.cell? ⟨b, o + q, none⟩ = some v ∧ RB w (Here w) (Here w) y v := fun b o hab q y hy => by
            obtain ⟨v, hv, hr⟩ := cell q y hy
            rw [hab, addr] at hv
            exact ⟨v, hv, hr⟩
          by_cases hne : l.flatMap e.enc = []
          · refine .sl (fun _ => undef) h3 (by rw [hlen, l1]) hle (fun h => absurd hne h) (fun i x hx => by rw [hne] at hx; simp at hx)
          · obtain ⟨b, o, hab⟩ := plain hne
            refine .sl (fun q => (w.cell? ⟨b, o + q, none⟩).getD undef) h3 (by rw [hlen, l1]) hle (fun _ => ⟨b, o, by rw [hab], ?_, fun q hq => ?_⟩) (fun q y hy => ?_)
            · obtain ⟨v, hv, _⟩ := cell' b o hab 0 _ (List.getElem?_eq_getElem (List.length_pos_iff.2 hne))
              exact World.block_lt_of_cell? w _ hv
            · obtain ⟨v, hv, _⟩ := cell' b o hab q _ (List.getElem?_eq_getElem hq)
              rw [hv]; rfl
            · obtain ⟨v, hv, hr⟩ := cell' b o hab q y hy
              rw [hv]; exact hr
    · cases hok
  | pair a b iha ihb =>
    have fields : ∀ (f : Field) (r : List Field) (off fuel : Nat) (cs : List Value), f.offset = off → P.cellsOf f.type = a.size → okT P a f.type = true → okF P b r (off + a.size) = true → cs.length = off + (a.size + b.size) →
        (∀ g, g ∈ f :: r → ∃ x, DataW.trod enc P w 0 spare held fuel g.type ((cs.drop g.offset).take (P.cellsOf g.type)) = some x) → Opens P w (.pair a b) (cs.drop off) := by
      intro f r off fuel cs h1 h2 h3 h4 hlen hf
      obtain ⟨x, hx⟩ := hf f (by simp)
      obtain ⟨u, u1, u2, u3⟩ := iha.1 f.type fuel _ x h3 hx
      obtain ⟨v, v1, v2, v3⟩ := ihb.2 r (off + a.size) fuel cs h4 (by omega) (fun g hg => hf g (by simp [hg]))
      refine ⟨(u, v), ⟨u1, v1⟩, ?_, fun i y z hy hz => ?_⟩
      · rw [Sh.enc_length]
        show a.size + b.size = _
        rw [List.length_drop]; omega
      · have he : (Sh.pair a b).enc (u, v) = a.enc u ++ b.enc v := rfl
        rw [he, List.getElem?_append, a.enc_length] at hy
        split at hy
        · rename_i hi
          refine u3 i y z hy ?_
          rw [h1, h2, List.getElem?_take, if_pos hi]
          exact hz
        · rename_i hi
          refine v3 (i - a.size) y z hy ?_
          rw [List.getElem?_drop] at hz ⊢
          rw [show off + a.size + (i - a.size) = off + i by omega]
          exact hz
    refine ⟨fun t fuel cs x hok h => ?_, fun fs off fuel cs hok hlen hf => ?_⟩
    · rw [okT] at hok
      split at hok
      · rename_i fs hu
        rw [Bool.and_eq_true] at hok
        obtain ⟨hok, hsz⟩ := hok
        have hsz : P.cellsOf t = a.size + b.size := Nat.eq_of_beq_eq_true hsz
        obtain ⟨xs, n, _, _, hl, hxl, hx⟩ := DataW.trod_struct hu h
        have hall : ∀ g, g ∈ fs.toList → ∃ x, DataW.trod enc P w 0 spare held n g.type ((cs.drop g.offset).take (P.cellsOf g.type)) = some x := fun g hg => by
          obtain ⟨i, hi⟩ := List.mem_iff_getElem?.1 hg
          have hi' : fs[i]? = some g := by simpa using hi
          have hix : i < xs.length := by rw [hxl]; exact (Array.getElem?_eq_some_iff.1 hi').1
          exact ⟨xs[i], by rw [hx i g hi']; simp [hix]⟩
        split at hok
        · rename_i f r hfs
          simp only [Bool.and_eq_true] at hok
          obtain ⟨⟨⟨q1, q2⟩, q3⟩, q4⟩ := hok
          have := fields f r 0 n cs (Nat.eq_of_beq_eq_true q1) (Nat.eq_of_beq_eq_true q2) q3 (by rw [Nat.zero_add]; exact q4) (by rw [hl, hsz]; omega) (fun g hg => hall g (by rw [hfs]; exact hg))
          simpa using this
        · cases hok
      · cases hok
    · cases fs with
      | nil => cases hok
      | cons f r =>
        rw [okF] at hok
        simp only [Bool.and_eq_true] at hok
        obtain ⟨⟨⟨q1, q2⟩, q3⟩, q4⟩ := hok
        exact fields f r off fuel cs (Nat.eq_of_beq_eq_true q1) (Nat.eq_of_beq_eq_true q2) q3 q4 hlen hf
  | unit =>
    refine ⟨fun t fuel cs x hok h => ?_, fun fs off fuel cs hok hlen _ => ?_⟩
    · rw [okT] at hok
      split at hok
      · rename_i fs hu
        rw [Bool.and_eq_true] at hok
        obtain ⟨xs, n, _, _, hl, _⟩ := DataW.trod_struct hu h
        have hsz : P.cellsOf t = 0 := Nat.eq_of_beq_eq_true hok.2
        exact ⟨(), trivial, by rw [hl, hsz]; rfl, fun i y v hy => by simp [Sh.enc] at hy⟩
      · cases hok
    · refine ⟨(), trivial, ?_, fun i y v hy => by simp [Sh.enc] at hy⟩
      rw [List.length_drop, hlen]
      show 0 = _
      have : Sh.size .unit = 0 := rfl
      omega
end
end Ev
