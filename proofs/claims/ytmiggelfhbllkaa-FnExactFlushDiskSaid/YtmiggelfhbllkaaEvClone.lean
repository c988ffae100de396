/- slices.Clone of elements that lead to no memory, by the kit's contract over any element. -/
import Derived.Test.YtmiggelfhbllkaaEvRow
import Derived.Sort.Row
import Derived.Sort.Grow
import Derived.Shelf.SlLaysE0
import Derived.Shelf.RegionOpenPlain
import Derived.WalkKit
import Derived.Deep.LoopGhost
import Derived.Lib.Walk
import Derived.Lib.SliceRun
namespace Ev
open Go Go.Shelf Go.RowKit Go.Lib Go.Proofs

/-- slices.Clone of flat elements: what it computes. -/
def cloneFE (size bytes : Nat) : Env → List T → R := fun _ args => match args with
  | [.sl k cs] => bif Nat.beq k size && cs.all T.scalar && decide (cs.length / size * bytes ≤ 140737488355328) && decide (cs.length / size ≤ maxLen) then some (.sl k cs, []) else none
  | _ => none
variable {P : Program} {ρ : Ren}
set_option maxHeartbeats 2000000 in
set_option maxRecDepth 100000 in
/-- Of an empty slice that is not nil, wherever it leads: one that owns nothing comes back. -/
theorem clone_empty (L : SlLaysE0.n41 P ρ) (i0 : TypeInfo) (z : Value) (size bytes : Nat) (hi : P.info? (ρ.t 23) = some i0) (hz0 : i0.zero = some z) (hz1 : i0.size = size) (hz2 : i0.bytes = bytes) (hzs : z.cells.size = size) (hsz : 0 < size)
    (z23 : ∀ w, (Go.sizeOf (ρ.t 23)).run P w = .ok size w) (a : Addr) (c : Nat) (w : World) :
    Calls P (ρ.f 41) #[.slice (some a) 0 c] w fun e w' => ∃ v', e = .returned v' ∧ w'.ownsRow w.heap.size (ρ.t 23) size v' 0 [] ∧ Below w.heap.size w w' := by
  have mixed := L.mixed; have t4 := L.t4; have a4 := L.a4; have z4 := L.z4; have v4 := L.v4; have t22 := L.t22; have a22 := L.a22; have z22 := L.z22; have v22 := L.v22
  have q22 : ∀ (w : World) (a : Option Addr) (n c n' c' : Nat), (binOp .eql (ρ.t 22) (.slice a n c) (.slice none n' c')).run P w = .ok (.bool a.isNone) w := fun w a n c n' c' => Lib.run_eql_slice_nil w _ _ a n c n' c' L.t22
  have u22 : ∀ w, Sem.run P (underlying (ρ.t 22)) w = .ok (TypeDesc.slice (ρ.t 23)) w := run_underlying t22
  obtain ⟨_, _, FG⟩ := L.f41
  go_enter FG, SlBodyN.n41_ntmps ρ
  go_wp2_with (at_builtin; refine wpList_append_own _ rfl _ _ (ρ.t 22) rfl w.heap.size (ρ.t 23) i0 z size bytes t22 hi hz0 hz1 hz2 hzs hsz _ _ _ rfl (World.ownsRow_made w #[] 0 (Nat.le_refl _) (Nat.zero_le _) (by simp)) a 0 c [] rfl (by simp) (by intro j u hj; simp at hj) (by intro u hu; cases hu) (by unfold maxLen; omega) (by omega) (by simp) ?_)
  intro v' w1 hown hgrow hnil
  go_wp2
  go_ret
  exact ⟨v', rfl, by simpa using hown, ((Below.refl _ w).alloc (Nat.le_refl _) _).grown hgrow (by simp) (by intro k hk; simp [Value.ownBlock] at hk; omega)⟩
theorem ro_flat {w : World} {g len cap sz : Nat} {cur : Array Value} {e : TypeId} {cells : List T} {w0 : World} {I J : Nat → Prop} (vs : Nat → Value) (hsz : 0 < sz) (hg : w.heap[g]? = some (.cells cur e (0, 0))) (hlen : cells.length = len * sz) (hcap : len ≤ cap) (hmax : cap ≤ maxLen) (hcur : cur.size = cap * sz)
    (hv : ∀ i, i < cells.length → cur[i]? = some (vs i)) (hc : ∀ i x, cells[i]? = some x → RB w0 I J x (vs i)) (hs : cells.all T.scalar = true) : RO w (.sl sz cells) (.slice (some ⟨g, 0, none⟩) len cap) [g] := by
  have hF : (List.range cells.length).flatMap (fun _ : Nat => ([] : List Nat)) = [] := by simp
  have h := RO.sl (w := w) (sz := sz) (cells := cells) (g := g) (len := len) (cap := cap) (cur := cur) (e := e) vs (fun _ => []) hsz hg hlen hcap hmax hcur hv
    (fun i x hi => by
      have hx := List.all_eq_true.1 hs x (List.mem_of_getElem? hi)
      have := scalar_ro (hc i x hi) hx
      exact RO.move this (by simp)) (by rw [hF]; simp)
  rw [hF] at h
  exact h
theorem cloneF_sound {f : FuncId} {fn : Func} {el : TypeId} {size bytes : Nat} (hpos : 0 < size) (hf : P.funcs[f]? = some fn) (hb : fn.body.isSome = true) (hname : (fn.name == "runtime.NumGoroutine") = false)
    (h1 : ∀ (b off n c : Nat) (news : List Value) (w : World), news.length = n * size → n ≤ maxLen → n * bytes ≤ 140737488355328 → (∀ j u, news[j]? = some u → w.cell? ⟨b, off + j, none⟩ = some u) → (∀ u ∈ news, u.oneCell' = true) →
      Calls P f #[.slice (some ⟨b, off, none⟩) n c] w fun e w' => ∃ v', e = .returned v' ∧ w'.ownsRow w.heap.size el size v' n news ∧ v' ≠ .slice none 0 0 ∧ Below w.heap.size w w')
    (h00 : ∀ (a : Addr) (c : Nat) (w : World), Calls P f #[.slice (some a) 0 c] w fun e w' => ∃ v', e = .returned v' ∧ w'.ownsRow w.heap.size el size v' 0 [] ∧ Below w.heap.size w w')
    (h0 : ∀ (n c : Nat) (w : World), Calls P f #[.slice none n c] w fun e w' => e = .returned (.slice none 0 0) ∧ w' = w)
    {E : Env} {args : List T} {r : T × List T} (h : cloneFE size bytes E args = some r) : Meets P ⟨none, .sl, true, false, false⟩ f args r := by
  unfold cloneFE at h
  split at h
  case h_2 => cases h
  rename_i k cs
  replace h := ev_true h
  obtain ⟨hok, h⟩ := h
  cases h
  simp only [Bool.and_eq_true, decide_eq_true_eq] at hok
  obtain ⟨⟨⟨hk, hsc⟩, hbytes⟩, hmaxn⟩ := hok
  obtain rfl : k = size := Nat.eq_of_beq_eq_true hk
  intro w I J vs F hp
  obtain rfl : F = [] := hp.none rfl
  have hl : vs.size = 1 := hp.len
  obtain ⟨v, rfl⟩ : ∃ v, vs = #[v] := ⟨vs[0], by
    apply Array.ext
    · simp [hl]
    · intro i h2 h3
      have : i = 0 := by rw [hl] at h2; omega
      subst this
      rfl⟩
  have hv := hp.vals 0 (.sl k cs) v (fun h => by cases h) rfl rfl
  have hrb : RB w I J (.sl k cs) v := hv.1
  refine does_calls hf hb hname ?_
  cases hrb with
  | sl us hs' hlen hcap ha hcs' =>
    rename_i a len cap
    have hdiv : cs.length / k = len := by rw [hlen, Nat.mul_div_cancel _ hpos]
    rw [hdiv] at hbytes hmaxn
    have fin : ∀ (v' : Value) (w' : World), w'.ownsRow w.heap.size el k v' len ((List.range cs.length).map us) → Below w.heap.size w w' →
        ∃ Fr Fo, Done ⟨none, .sl, true, false, false⟩ w I J #[.slice a len cap] [] (.sl k cs, []) v' w' Fr Fo := fun v' w' ho hbel => by
      have hkp : Kp (· ∈ ([] : List Nat)) w w' := ⟨hbel.os, hbel.tape, hbel.output, hbel.size, fun b hb _ => hbel.block b hb⟩
      obtain ⟨_, ⟨rfl, hn⟩ | ⟨g, cap', cur, rfl, hbase, hg, hcap', hcm, hcur, htake⟩⟩ := ho
      · subst hn
        rw [Nat.zero_mul] at hlen
        obtain rfl : cs = [] := List.eq_nil_of_length_eq_zero hlen
        exact ⟨[], [], hkp, by simp, by simp, RO.nil hpos, .inl ⟨rfl, rfl, rfl⟩⟩
      · refine ⟨[g], [], hkp, fun b hb => .inr (by simp at hb; omega), by simp, ro_flat us hpos hg hlen hcap' hcm hcur (fun i hi => ?_) hcs' hsc, .inl ⟨rfl, rfl, rfl⟩⟩
        have h3 : ((List.range cs.length).map us)[i]? = cur.toList[i]? := by
          rw [← htake, List.getElem?_take, if_pos (by omega)]
        rw [List.getElem?_map, List.getElem?_range hi] at h3
        rw [← Array.getElem?_toList, ← h3]
        rfl
    cases a with
    | none =>
      refine Calls.mono (h0 len cap w) ?_
      rintro _ _ ⟨rfl, rfl⟩
      have : cs = [] := by
        cases cs with
        | nil => rfl
        | cons x xs => obtain ⟨b, o, e, _⟩ := ha (by simp); cases e
      subst this
      exact ⟨_, rfl, [], [], Kp.refl _ _, by simp, by simp, RO.nil hpos, .inl ⟨rfl, rfl, rfl⟩⟩
    | some a =>
      obtain ⟨b, o, q⟩ := a
      have hq : cs ≠ [] → q = none ∧ ∀ i, i < cs.length → w.cell? ⟨b, o + i, none⟩ = some (us i) := fun hne => by
        obtain ⟨b', o', e, _, hcell⟩ := ha hne
        cases e
        exact ⟨rfl, hcell⟩
      by_cases hne : cs = []
      · subst hne
        have : len = 0 := by
          simp only [List.length_nil] at hlen
          rcases Nat.mul_eq_zero.1 hlen.symm with h | h
          · exact h
          · omega
        subst this
        refine Calls.mono (h00 ⟨b, o, q⟩ cap w) ?_
        rintro _ w' ⟨v', rfl, ho, hbel⟩
        exact ⟨v', rfl, fin v' w' (by simpa using ho) hbel⟩
      · obtain ⟨rfl, hcell⟩ := hq hne
        refine Calls.mono (h1 b o len cap ((List.range cs.length).map us) w (by simpa using hlen) hmaxn hbytes (fun j u hj => ?_) (fun u hu => ?_)) ?_
        · rw [List.getElem?_map] at hj
          have hj' : j < cs.length := by
            rcases Nat.lt_or_ge j cs.length with h | h
            · exact h
            · rw [List.getElem?_eq_none (by simpa using h)] at hj; cases hj
          rw [List.getElem?_range hj'] at hj
          cases hj
          exact hcell j hj'
        · obtain ⟨j, hj, rfl⟩ := List.mem_map.1 hu
          have hj' := List.mem_range.1 hj
          exact RB.one (hcs' j _ (List.getElem?_eq_getElem hj'))
        · rintro _ w' ⟨v', rfl, ho, _, hbel⟩
          exact ⟨v', rfl, fin v' w' ho hbel⟩
end Ev
