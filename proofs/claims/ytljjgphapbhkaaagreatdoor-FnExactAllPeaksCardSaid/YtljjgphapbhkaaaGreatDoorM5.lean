/- Steps on the way to RowAllPeaks: TyUnify2, TyNormL, TyPeak, TyPeak2, TyPeaks, TyAllPeaks, TyLAllPeaks. -/
import Derived.Test.YtljjgphapbhkaaaGreatDoorM4
section
namespace Ev.Ty
open Go Ev
open Enc (enc)
open Sm (sm)
set_option linter.unusedSimpArgs false
set_option linter.unusedVariables false
def sbindR (b : Bnd) (v : Int) (t : List Int) : Bnd ⊕ Int := if -1 - v ∈ t then .inr 4 else match bindAll b v t with
  | none => .inr 2
  | some b' => .inl b'
section
variable {l : List Symbol} (ok : SigOk ⟨l⟩)
include ok
theorem spec_l6Bind {b : Bnd} (hb : UB l b) {v : Int} (hv : 0 ≤ v ∧ v ≤ 11) (hnb : v ∉ b.1) {t : List Int} (ht : TermOk l t) :
    LIM F.spec_l6Bind [.rref [slc b.1, slc b.2] 0, .int .i64 v, slc t] = uT (sbindR b v t) := by
  have hcall : ∀ r, callK prog Ev.A H LIM 20 F.spec_l6Bind [.rref [slc b.1, slc b.2] 0, .int .i64 v, slc t] = uT r → LIM F.spec_l6Bind [.rref [slc b.1, slc b.2] 0, .int .i64 v, slc t] = uT r := fun r h => by
    cases r with
    | inl x => exact call_of rfl _ h
    | inr x => exact call_of rfl _ h
  have hbl := hb.le
  have hlen := hb.mb.len
  have htl := ht.le
  have hone := one_mb (l := l) hv ht
  have hbo := hone.ok (by omega)
  refine hcall _ ((spec_l6Bind.ev _ _ _ _ _).trans ?_)
  have hc := (spec_l3Count t (-1 - v) (by omega)).eq
  have hi := (spec_l1Ints' b.1 (by omega)).eq
  unfold sbindR
  by_cases hm : -1 - v ∈ t
  · have h0 : ((t.count (-1 - v) : Nat) : Int) > 0 := by have := List.count_pos_iff.2 hm; omega
    rw [if_pos hm]
    simp only [evs, szs, if_true, if_false, decide_true, decide_false, cond_true, cond_false, Nat.reduceLT, wrap64 (x := -1 - v) (by omega), hc, h0]
    rfl
  have h0 : ¬ ((t.count (-1 - v) : Nat) : Int) > 0 := by rw [List.count_eq_zero.2 hm]; omega
  rw [if_neg hm]
  simp only [evs, szs, if_true, if_false, decide_true, decide_false, cond_true, cond_false, Nat.reduceLT, wrap64 (x := -1 - v) (by omega), hc, h0, hi]
  have loop : ∀ n k f, k + n = b.2.length → n < f → (∀ x ∈ b.2.take k, (applied [v] [t] x).length ≤ 24) →
      spec_l6Bind.at0 20 f (spec_l6Bind.st0 (cells b.1) (cells b.2) v (cells t) (k : Nat) [.int .i64 v] [slc t] (cells b.1) (cells ((b.2.take k).map (applied [v] [t])))) =
        if ((b.2.drop k).any fun x => decide (24 < (applied [v] [t] x).length)) = true then uT (.inr 2) else uT (.inl (bput (b.1, b.2.map (applied [v] [t])) v t)) := by
    intro n
    induction n with
    | zero =>
      intro k f hk hf hq
      obtain ⟨f, rfl⟩ : ∃ x, f = x + 1 := ⟨f - 1, by omega⟩
      obtain rfl : k = b.2.length := by omega
      rw [List.take_length] at hq ⊢
      rw [List.drop_of_length_le (Nat.le_refl _)]
      have hw := (spec_l6With b.1 (b.2.map (applied [v] [t])) v t (by simp; omega) (by omega) (by omega) hnb (fun x hx => by
        obtain ⟨y, hy, rfl⟩ := List.mem_map.1 hx
        have := hq y hy
        omega)).eq
      simp only [spec_l6Bind.next0, spec_l6Bind.round0, evs, szs, if_true, if_false, decide_true, decide_false, cond_true, cond_false, Nat.reduceLT, Nat.lt_irrefl, hw, List.any_nil, Bool.false_eq_true, if_false]
      rfl
    | succ n ih =>
      intro k f hk hf hq
      obtain ⟨f, rfl⟩ : ∃ x, f = x + 1 := ⟨f - 1, by omega⟩
      have hkl : k < b.2.length := by omega
      have hto := hb.mb.tm _ (List.getElem_mem hkl)
      have htol := hto.le
      have happ : LIM F.spec_l6Apply [.rref [.sl 1 [.int .i64 v], .sl 1 [slc t]] 0, slc b.2[k]] = some (slc (applied [v] [t] b.2[k]), []) := (spec_l6Apply [v] [t] hbo b.2[k] (by omega) (hto.range ok)).eq
      have hg : b.2[k]? = some b.2[k] := List.getElem?_eq_getElem hkl
      have he : ∀ x : List Int, (enc x)[0]? = some (slc x) := fun _ => rfl
      rw [List.drop_eq_getElem_cons hkl, List.any_cons]
      have e1 : (b.2.take (k + 1)).map (applied [v] [t]) = (b.2.take k).map (applied [v] [t]) ++ [applied [v] [t] b.2[k]] := by rw [← List.take_append_getElem hkl, List.map_append]; rfl
      by_cases h24 : 24 < (applied [v] [t] b.2[k]).length
      · have h24' : ((applied [v] [t] b.2[k]).length : Int) > 24 := by omega
        simp only [spec_l6Bind.next0, spec_l6Bind.round0, evs, szs, if_true, if_false, decide_true, decide_false, cond_true, cond_false, Nat.reduceLT, hkl, hg, he, happ, h24', h24, Bool.true_or]
        rfl
      · have h24' : ¬ ((applied [v] [t] b.2[k]).length : Int) > 24 := by omega
        simp only [spec_l6Bind.next0, spec_l6Bind.round0, evs, szs, if_true, if_false, decide_true, decide_false, cond_true, cond_false, Nat.reduceLT, hkl, hg, he, happ, h24', h24, Bool.false_or]
        rw [wrap_succ (by omega), cond_pos (ble_ok (by rw [cells_length, show Enc.sz (List Int) = 1 from rfl]; simp; omega))]
        have := ih (k + 1) f (by omega) (by omega) (fun x hx => by
          rw [← List.take_append_getElem hkl] at hx
          rcases List.mem_append.1 hx with hx | hx
          · exact hq x hx
          · rw [List.mem_singleton.1 hx]; omega)
        rw [e1, cells_append] at this
        exact this
  have := loop b.2.length 0 20 (by omega) (by omega) (by simp)
  rw [List.take_zero, List.map_nil, List.drop_zero] at this
  refine this.trans ?_
  unfold bindAll
  by_cases h : (b.2.any fun x => decide (24 < (applied [v] [t] x).length)) = true
  · rw [if_pos h, if_pos h]
  · rw [if_neg h, if_neg h]
theorem spec_l6Args {x y : List Int} (hx : TermOk l x) (hy : TermOk l y) (h0 : 0 ≤ x.getD 0 0) (he : x.getD 0 0 = y.getD 0 0) : Call F.spec_l6Args [.rref [slc l] 0, slc x, slc y] (slc (argsOf l x y)) := by
  have hlx := hx.le
  have hly := hy.le
  have hxp := hx.pos
  have hyp := hy.pos
  have hdx : x.getD 0 0 = x[0] := getD_at (by omega)
  have hdy : y.getD 0 0 = y[0] := getD_at (by omega)
  have har := ar_le (l := l) ok x[0]
  have hnode := nodeOk_iff.1 (hx.node _ (List.getElem_mem (n := 0) (by omega)))
  have hls : l.length ≤ 6 := ok.le
  obtain ⟨u, hu⟩ : ∃ u : Nat, x[0] = u := ⟨x[0].toNat, by omega⟩
  have hul : u < l.length := by omega
  have hare : (l[u]).arity = (ar l x[0] : Nat) := by
    have := ar_eq ok (n := x[0]) (by omega) (by rw [hu]; simpa using hul)
    simpa [hu] using this
  have hin : inB (0 : Int) x.length = true := (inB_nat 0 _).trans (by simp; omega)
  have hx0 := cells_head hx
  rw [hdx, hu] at hx0
  have hlu : l[u]? = some l[u] := List.getElem?_eq_getElem hul
  refine call_of rfl 4 ((spec_l6Args.ev _ _ _ _).trans ?_)
  have loop : ∀ n k q r f (out : List Pr) rx ry, k + n = ar l x[0] → n < f → skip (ar l) n (x.drop q) = some rx → skip (ar l) n (y.drop r) = some ry → out.length = k →
      spec_l6Args.at0 4 f (spec_l6Args.st0 (cells l) (cells x) (cells y) (q : Nat) (r : Nat) (k : Nat) (cells out)) =
        some (slc (out ++ ((startsN l x n q).zip (startsN l y n r)).map fun p => (⟨subAt l x p.1, subAt l y p.2⟩ : Pr)), []) := by
    intro n
    induction n with
    | zero =>
      intro k q r f out rx ry hk hf h1 h2 ho
      obtain ⟨f, rfl⟩ : ∃ x, f = x + 1 := ⟨f - 1, by omega⟩
      have : ¬ k < ar l x[0] := by omega
      rw [hu] at this
      simp only [spec_l6Args.next0, spec_l6Args.round0, evs, szs, if_true, if_false, decide_true, decide_false, cond_true, cond_false, Nat.reduceLT, hin, hx0, hlu, hul, enc_Symbol, hare, startsN, List.zip_nil_left, List.map_nil, List.append_nil, hu, this]
    | succ n ih =>
      intro k q r f out rx ry hk hf h1 h2 ho
      obtain ⟨f, rfl⟩ : ∃ x, f = x + 1 := ⟨f - 1, by omega⟩
      obtain ⟨a1, a2, a3, a4⟩ := skip_one h1
      obtain ⟨b1, b2, b3, b4⟩ := skip_one h2
      have hlt : k < ar l x[0] := by omega
      rw [hu] at hlt
      have sx := (spec_l3Sub ok hx a1).eq
      have sy := (spec_l3Sub ok hy b1).eq
      have ex : q + (subAt l x q).length = endAt l x q := by unfold subAt; simp; omega
      have ey : r + (subAt l y r).length = endAt l y r := by unfold subAt; simp; omega
      have ic := ih (k + 1) (endAt l x q) (endAt l y r) f (out ++ [⟨subAt l x q, subAt l y r⟩]) rx ry (by omega) (by omega) a2 b2 (by simp [ho])
      simp only [spec_l6Args.next0, spec_l6Args.round0, evs, szs, if_true, if_false, decide_true, decide_false, cond_true, cond_false, Nat.reduceLT, hin, hx0, hlu, hul, enc_Symbol, hare, hu, hlt, sx, sy]
      rw [wrap64 (x := (q : Int) + _) (by omega), wrap64 (x := (r : Int) + _) (by omega), wrap_succ (by omega), cond_pos (ble_ok (by rw [cells_length, sz_Equation]; omega))]
      rw [show (q : Int) + ((subAt l x q).length : Nat) = (endAt l x q : Nat) by omega, show (r : Int) + ((subAt l y r).length : Nat) = (endAt l y r : Nat) by omega]
      rw [cells_append] at ic
      refine Eq.trans ?_ (ic.trans ?_)
      · rfl
      · rw [startsN, startsN, List.zip_cons_cons, List.map_cons, List.append_assoc]; rfl
  obtain ⟨rx, hrx⟩ := args_skip hx (p := 0) (by omega)
  obtain ⟨ry, hry⟩ := args_skip hy (p := 0) (by omega)
  have hay : ar l y[0] = ar l x[0] := by rw [← hdx, ← hdy, he]
  rw [hay] at hry
  have := loop (ar l x[0]) 0 1 1 4 [] rx ry (by omega) (by omega) hrx hry rfl
  unfold argsOf starts
  rw [hdx, hdy, hay]
  exact this
theorem spec_l6Unify {a b : List Int} (ha : TermOk l a) (hb : TermOk l b) : LIM F.spec_l6Unify [.rref [slc l] 0, slc a, slc b] = uT (unifR l a b) := by
  obtain ⟨⟨n, hn⟩, _⟩ := unifR_spec ha hb
  have hal := ha.le
  have hbl := hb.le
  have hcall : ∀ r, callK prog Ev.A H LIM (n + 20) F.spec_l6Unify [.rref [slc l] 0, slc a, slc b] = uT r → LIM F.spec_l6Unify [.rref [slc l] 0, slc a, slc b] = uT r := fun r h => by
    cases r with
    | inl x => exact call_of rfl _ h
    | inr x => exact call_of rfl _ h
  refine hcall _ ((spec_l6Unify.ev _ _ _ _).trans ?_)
  have i1 := (spec_l1Ints' a (by omega)).eq
  have i2 := (spec_l1Ints' b (by omega)).eq
  simp only [evs, szs, if_true, if_false, decide_true, decide_false, cond_true, cond_false, Nat.reduceLT, i1, i2]
  have loop := unif_loop (l := l) (S := fun f (b : Bnd) (ps : List Pr) => spec_l6Unify.at0 (n + 20) f (spec_l6Unify.st0 (cells l) (cells ps) (cells b.1) (cells b.2))) (out := uT)
    (fun f b => by
      simp only [spec_l6Unify.next0, spec_l6Unify.round0, cells_nil, List.length_nil]
      rfl)
    (fun f b p ps hb h1 h2 hps hl => ?_) n (n + 20) ([], []) [⟨a, b⟩] _ (by omega) (UB.nil l) (fun p hp => by rw [List.mem_singleton.1 hp]; exact ⟨ha, hb⟩) ⟨[], _, rfl, by simp [psize], by simp⟩ hn
  · exact loop
  · have hbo := hb.mb.ok (by omega)
    have hl1 := h1.le
    have hl2 := h2.le
    have a1 := (spec_l6Apply b.1 b.2 hbo p.left (by omega) (h1.range ok)).eq
    have a2 := (spec_l6Apply b.1 b.2 hbo p.right (by omega) (h2.range ok)).eq
    have g0 : (cells (p :: ps))[0]? = some (slc p.left) := rfl
    have g1 : (cells (p :: ps))[1]? = some (slc p.right) := rfl
    have hpl : ((p :: ps).length : Int) > 0 := by simp
    have hin : inB (0 : Int) (p :: ps).length = true := (inB_nat 0 _).trans (by simp)
    have hfx := hb.applied_free p.left
    have hfy := hb.applied_free p.right
    have hox := fun h => hb.applied_ok h1 h
    have hoy := fun h => hb.applied_ok h2 h
    have hhx := fun h h' => hb.head_var (hox h) h'
    have hhy := fun h h' => hb.head_var (hoy h) h'
    have hb1 : decide (0 ≤ (1 : Int)) = true := rfl
    have hb2 : (1 : Int) ≤ ((p :: ps).length : Int) := by simp only [List.length_cons]; omega
    have hlx := applied_length hbo p.left
    have hly := applied_length hbo p.right
    obtain ⟨Z, hZ⟩ : ∃ Z, Z = ustep l b p ps uT (fun (b : Bnd) (ps : List Pr) => spec_l6Unify.at0 (n + 20) f (spec_l6Unify.st0 (cells l) (cells ps) (cells b.1) (cells b.2))) := ⟨_, rfl⟩
    show _ = ustep l b p ps uT (fun (b : Bnd) (ps : List Pr) => spec_l6Unify.at0 (n + 20) f (spec_l6Unify.st0 (cells l) (cells ps) (cells b.1) (cells b.2)))
    rw [← hZ]
    unfold ustep at hZ
    simp only [spec_l6Unify.next0, spec_l6Unify.round0, evs, szs, if_true, if_false, decide_true, decide_false, cond_true, cond_false, Nat.reduceLT, hpl, hin, g0, g1, a1, a2, hb1, hb2, Int.le_refl, Bool.and_self, cells_tail]
    generalize applied b.1 b.2 p.left = x at *
    generalize applied b.1 b.2 p.right = y at *
    by_cases c1 : 24 < x.length
    · have c1' : (x.length : Int) > 24 := by omega
      rw [if_pos (.inl c1)] at hZ
      simp only [c1', evs, szs, if_true, if_false, decide_true, decide_false, cond_true, cond_false, Nat.reduceLT]
      rw [hZ]
      rfl
    by_cases c1b : 24 < y.length
    · have c1' : ¬ (x.length : Int) > 24 := by omega
      have c1b' : (y.length : Int) > 24 := by omega
      rw [if_pos (.inr c1b)] at hZ
      simp only [c1', c1b', evs, szs, if_true, if_false, decide_true, decide_false, cond_true, cond_false, Nat.reduceLT]
      rw [hZ]
      rfl
    have c1' : ¬ (x.length : Int) > 24 := by omega
    have c1b' : ¬ (y.length : Int) > 24 := by omega
    have hx := hox (by omega)
    have hy := hoy (by omega)
    have hxp := hx.pos
    have hyp := hy.pos
    have heq := (spec_l1Same x y ⟨by omega, fun _ _ => trivial⟩).eq
    rw [if_neg (by omega)] at hZ
    by_cases c2 : x = y
    · rw [if_pos c2] at hZ
      rw [decide_eq_true c2] at heq
      simp only [c1', c1b', evs, szs, if_true, if_false, decide_true, decide_false, cond_true, cond_false, Nat.reduceLT, heq]
      rw [hZ]
    rw [if_neg c2] at hZ
    rw [decide_eq_false c2] at heq
    have x0 := cells_head hx
    have y0 := cells_head hy
    have inx : inB (0 : Int) x.length = true := (inB_nat 0 _).trans (by simp; omega)
    have iny : inB (0 : Int) y.length = true := (inB_nat 0 _).trans (by simp; omega)
    by_cases c3 : x.getD 0 0 < 0
    · obtain ⟨hv, hnb⟩ := hhx (by omega) c3
      have h5 := spec_l6Bind ok hb hv hnb hy
      unfold sbindR at h5
      rw [show -1 - (-1 - x.getD 0 0) = x.getD 0 0 by omega] at h5
      rw [if_pos c3] at hZ
      by_cases c4 : x.getD 0 0 ∈ y
      · rw [if_pos c4] at hZ h5
        simp only [c1', c1b', evs, szs, if_true, if_false, decide_true, decide_false, cond_true, cond_false, Nat.reduceLT, heq, inx, x0, c3, wrap64 (x := -1 - x.getD 0 0) (by omega), h5]
        rw [hZ]
        rfl
      · rw [if_neg c4] at hZ h5
        simp only [c1', c1b', evs, szs, if_true, if_false, decide_true, decide_false, cond_true, cond_false, Nat.reduceLT, heq, inx, x0, c3, wrap64 (x := -1 - x.getD 0 0) (by omega), h5]
        rw [hZ]
        cases bindAll b (-1 - x.getD 0 0) y with
        | none => rfl
        | some b' => rfl
    rw [if_neg c3] at hZ
    by_cases c5 : y.getD 0 0 < 0
    · obtain ⟨hv, hnb⟩ := hhy (by omega) c5
      have h5 := spec_l6Bind ok hb hv hnb hx
      unfold sbindR at h5
      rw [show -1 - (-1 - y.getD 0 0) = y.getD 0 0 by omega] at h5
      rw [if_pos c5] at hZ
      by_cases c4 : y.getD 0 0 ∈ x
      · rw [if_pos c4] at hZ h5
        simp only [c1', c1b', evs, szs, if_true, if_false, decide_true, decide_false, cond_true, cond_false, Nat.reduceLT, heq, inx, iny, x0, y0, c3, c5, wrap64 (x := -1 - y.getD 0 0) (by omega), h5]
        rw [hZ]
        rfl
      · rw [if_neg c4] at hZ h5
        simp only [c1', c1b', evs, szs, if_true, if_false, decide_true, decide_false, cond_true, cond_false, Nat.reduceLT, heq, inx, iny, x0, y0, c3, c5, wrap64 (x := -1 - y.getD 0 0) (by omega), h5]
        rw [hZ]
        cases bindAll b (-1 - y.getD 0 0) x with
        | none => rfl
        | some b' => rfl
    rw [if_neg c5] at hZ
    by_cases c6 : x.getD 0 0 = y.getD 0 0
    · rw [if_neg (by simpa using c6)] at hZ
      have h3 := (spec_l6Args ok hx hy (by omega) c6).eq
      have hal : (argsOf l x y).length ≤ 2 := by
        have := starts_le ok x 0
        unfold argsOf; rw [List.length_map, List.length_zip]; omega
      rw [c6] at x0 c3
      simp only [c1', c1b', evs, szs, if_true, if_false, decide_true, decide_false, cond_true, cond_false, Nat.reduceLT, heq, inx, iny, x0, y0, c3, c5, eq_self, h3]
      rw [cond_pos (ble_ok (by rw [cells_length, cells_length, sz_Equation]; omega)), ← cells_append]
      rw [hZ]
    · rw [if_pos c6] at hZ
      simp only [c1', c1b', evs, szs, if_true, if_false, decide_true, decide_false, cond_true, cond_false, Nat.reduceLT, heq, inx, iny, x0, y0, c3, c5, c6]
      rw [hZ]
      rfl
end
end Ev.Ty
end

section
namespace Ev.Ty
open Go Ev
open Enc (enc)
open Sm (sm)
set_option linter.unusedSimpArgs false
set_option linter.unusedVariables false
theorem rulesFault_ok {l : List Symbol} {rs : List Equation} (h : rulesFault ⟨l⟩ rs = 0) : sigFault ⟨l⟩ = 0 ∧ SigOk ⟨l⟩ ∧ rs.length ≤ 12 ∧ ∀ e ∈ rs, EqOk l e := by
  unfold rulesFault at h
  split at h
  · rename_i h1; exact absurd h h1
  rename_i h1
  have h1 : sigFault ⟨l⟩ = 0 := by simpa using h1
  unfold rulesFault0 at h
  split at h
  · rename_i h2; exact absurd h h2
  rename_i h2
  obtain ⟨q1, q2⟩ := eqsOk_iff.1 (show eqsFault l rs = 0 by simpa using h2)
  exact ⟨h1, (sigOk_iff _).1 h1, q1, q2⟩
end Ev.Ty
end

section
namespace Ev.Ty
open Go Ev
open Enc (enc)
open Sm (sm)
set_option linter.unusedSimpArgs false
set_option linter.unusedVariables false
theorem shiftT_length (t : List Int) (b : Int) : (shiftT t b).length = t.length := by simp [shiftT]
theorem shiftT_succ {t : List Int} {b : Int} {k : Nat} (h : k < t.length) : shiftT (t.take (k + 1)) b = shiftT (t.take k) b ++ [if t[k] < 0 then t[k] - b else t[k]] := by
  rw [← List.take_append_getElem h]; unfold shiftT; rw [List.map_append]; rfl
theorem impl_shifted (t : List Int) (ht : t.length ≤ 4096) (hr : ∀ n ∈ t, -4611686018427387904 ≤ n) : Call F.impl_shifted [slc t, .int .i64 6] (slc (shiftT t 6)) := by
  refine call_of rfl (t.length + 1) ((impl_shifted.ev _ _ _).trans ?_)
  simp only [evs, szs, if_true, if_false, decide_true, decide_false, cond_true, cond_false, Nat.reduceLT, (slices_Clone_Sint64 t (by omega)).eq]
  have key := run_loop (n := t.length) (f := t.length + 1) (S := fun m k (o : List Int) => impl_shifted.at0 (t.length + 1) m (impl_shifted.st0 6 t.length (k : Nat) (cells o)))
    (st := fun k => shiftT (t.take k) 6 ++ t.drop k) (z := some (slc (shiftT t 6), [])) (fun m k h => ?_) (fun m => ?_) (by omega)
  · exact key
  · have hn := hr t[k] (List.getElem_mem h)
    have e1 : shiftT (t.take (k + 1)) 6 ++ t.drop (k + 1) = (shiftT (t.take k) 6 ++ t.drop k).set k (if t[k] < 0 then t[k] - 6 else t[k]) := by
      rw [shiftT_succ h, List.set_append_right _ _ (by rw [shiftT_length]; simp; omega), List.drop_eq_getElem_cons h]
      rw [show k - (shiftT (t.take k) 6).length = 0 by rw [shiftT_length]; simp; omega, List.set_cons_zero]
      simp
    obtain ⟨M, hM⟩ : ∃ M, M = shiftT (t.take k) 6 ++ t.drop k := ⟨_, rfl⟩
    have hMl : M.length = t.length := by rw [hM]; simp [shiftT_length]; omega
    have hMk : M[k]? = some t[k] := by
      rw [hM, List.getElem?_append_right (by rw [shiftT_length]; simp; omega)]
      simp [shiftT_length, Nat.min_eq_left (Nat.le_of_lt h), List.getElem?_eq_getElem h]
    rw [e1, ← hM]
    have hkM : k < M.length := by omega
    have hkc : k * 1 + 1 ≤ (cells M).length := by rw [cells_length, sz_int]; omega
    simp only [impl_shifted.next0, impl_shifted.round0, evs, szs, if_true, if_false, decide_true, decide_false, cond_true, cond_false, Nat.reduceLT, h, hMk, hkM, enc_int]
    by_cases hneg : t[k] < 0
    · rw [wrap64 (x := t[k] - 6) (by omega)]
      have := set_Int hkM (t[k] - 6)
      simp only [hneg, evs, szs, if_true, if_false, decide_true, decide_false, cond_true, cond_false, Nat.reduceLT, this, hkc]
      rw [wrap_succ (by omega)]
    · have hs : M.set k t[k] = M := set_same hMk
      simp only [hneg, evs, szs, if_true, if_false, decide_true, decide_false, cond_true, cond_false, Nat.reduceLT, hs]
      rw [wrap_succ (by omega)]
  · rw [List.take_length, List.drop_of_length_le (Nat.le_refl _), List.append_nil]
    simp only [impl_shifted.next0, impl_shifted.round0, evs, szs, if_true, if_false, decide_true, decide_false, cond_true, cond_false, Nat.reduceLT, Nat.lt_irrefl]
theorem spec_l6Shift (t : List Int) (ht : t.length ≤ 4096) (hr : ∀ n ∈ t, -4611686018427387904 ≤ n) : Call F.spec_l6Shift [slc t, .int .i64 6] (slc (shiftT t 6)) := by
  refine call_of rfl (t.length + 1) ((spec_l6Shift.ev _ _ _).trans ?_)
  have key := run_loop (n := t.length) (f := t.length + 1) (S := fun m k (o : List Int) => spec_l6Shift.at0 (t.length + 1) m (spec_l6Shift.st0 (cells t) 6 (k : Nat) (cells o)))
    (st := fun k => shiftT (t.take k) 6) (z := some (slc (shiftT t 6), [])) (fun m k h => ?_) (fun m => ?_) (by omega)
  · exact key
  · have hn := hr t[k] (List.getElem_mem h)
    have hlk : t[k]? = some t[k] := List.getElem?_eq_getElem h
    have hb : Nat.ble (((cells (shiftT (t.take k) 6)).length + 1) * 8) (140737488355328 * 1) = true := ble_ok (by rw [cells_length, sz_int, shiftT_length]; simp; omega)
    rw [shiftT_succ h]
    simp only [spec_l6Shift.next0, spec_l6Shift.round0, evs, szs, if_true, if_false, decide_true, decide_false, cond_true, cond_false, Nat.reduceLT, h, hlk, enc_int]
    by_cases hneg : t[k] < 0
    · rw [wrap64 (x := t[k] - 6) (by omega)]
      simp only [hneg, evs, szs, if_true, if_false, decide_true, decide_false, cond_true, cond_false, Nat.reduceLT, cells_snoc_int]
      rw [wrap_succ (by omega), cond_pos hb]
    · simp only [hneg, evs, szs, if_true, if_false, decide_true, decide_false, cond_true, cond_false, Nat.reduceLT, cells_snoc_int]
      rw [wrap_succ (by omega), cond_pos hb]
  · rw [List.take_length]
    simp only [spec_l6Shift.next0, spec_l6Shift.round0, evs, szs, if_true, if_false, decide_true, decide_false, cond_true, cond_false, Nat.reduceLT, Nat.lt_irrefl]
theorem idx_neg_iff {s : List Int} {n : Int} : idx (fun x => decide (x = n)) s < 0 ↔ n ∉ s := by
  rcases idx_spec (fun x : Int => decide (x = n)) s with ⟨h1, h2⟩ | ⟨i, hi, h1, h2, _⟩
  · exact ⟨fun _ hm => by have := h2 n hm; simp at this, fun _ => by omega⟩
  · exact ⟨fun h => by omega, fun h => absurd ((show s[i] = n by simpa using h2) ▸ List.getElem_mem hi) h⟩
theorem idx_snoc {s : List Int} {n : Int} (h : n ∉ s) : idx (fun x => decide (x = n)) (s ++ [n]) = s.length := by
  unfold idx
  have : (s ++ [n]).findIdx? (fun x => decide (x = n)) = some s.length := by
    rw [List.findIdx?_append]
    have h0 : s.findIdx? (fun x => decide (x = n)) = none := by
      rw [List.findIdx?_eq_none_iff]
      intro x hx
      have : x ≠ n := fun e => h (e ▸ hx)
      simpa using this
    rw [h0]
    simp [List.findIdx?_cons]
  rw [this]
theorem idx_range (s : List Int) (n : Int) : -1 ≤ idx (fun x => decide (x = n)) s ∧ idx (fun x => decide (x = n)) s < s.length + 1 := by
  rcases idx_spec (fun x : Int => decide (x = n)) s with ⟨h1, _⟩ | ⟨i, hi, h1, _, _⟩ <;> omega
def plSt (seen t : List Int) (k : Nat) : List Int × List Int := ((plainL seen (t.take k)).1 ++ t.drop k, (plainL seen (t.take k)).2)
theorem plSt_len (seen t : List Int) {k : Nat} (hk : k ≤ t.length) : (plSt seen t k).1.length = t.length := by
  have := (plainL_length seen (t.take k)).1
  unfold plSt; simp only [List.length_append, this]; simp; omega
theorem plSt_get (seen t : List Int) {k : Nat} (h : k < t.length) : (plSt seen t k).1[k]? = some t[k] := by
  have hl := (plainL_length seen (t.take k)).1
  rw [List.length_take, Nat.min_eq_left (Nat.le_of_lt h)] at hl
  unfold plSt
  simp only
  rw [List.getElem?_append_right (by omega), hl, Nat.sub_self, List.drop_eq_getElem_cons h]; rfl
theorem plSt_seen (seen t : List Int) (k : Nat) : (plSt seen t k).2.length ≤ seen.length + k := by
  have := (plainL_length seen (t.take k)).2.1
  unfold plSt
  simp at this ⊢
  omega
theorem plSt_succ (seen t : List Int) {k : Nat} (h : k < t.length) : plSt seen t (k + 1) = ((plSt seen t k).1.set k (pstep (plSt seen t k).2 t[k]).1, (pstep (plSt seen t k).2 t[k]).2) := by
  have hl := (plainL_length seen (t.take k)).1
  rw [List.length_take, Nat.min_eq_left (Nat.le_of_lt h)] at hl
  unfold plSt
  simp only
  rw [← List.take_append_getElem h, plainL_append, List.set_append_right _ _ (by omega), hl, Nat.sub_self, List.drop_eq_getElem_cons h, List.set_cons_zero]
  simp [plainL]
theorem plSt_zero (seen t : List Int) : plSt seen t 0 = (t, seen) := by simp [plSt, plainL]
theorem plSt_end (seen t : List Int) : plSt seen t t.length = plainL seen t := by simp [plSt]
theorem plSt_pos (seen t : List Int) {k : Nat} (h : k < t.length) (h0 : 0 ≤ t[k]) : plSt seen t (k + 1) = plSt seen t k := by
  have e := plSt_succ seen t h
  have : pstep (plSt seen t k).2 t[k] = (t[k], (plSt seen t k).2) := by unfold pstep; rw [if_pos h0]
  rw [e, this, set_same (plSt_get seen t h)]
theorem plSt_new (seen t : List Int) {k : Nat} (h : k < t.length) (h0 : ¬ 0 ≤ t[k]) (hn : t[k] ∉ (plSt seen t k).2) :
    plSt seen t (k + 1) = ((plSt seen t k).1.set k (-1 - ((plSt seen t k).2.length : Int)), (plSt seen t k).2 ++ [t[k]]) := by
  rw [plSt_succ seen t h]
  unfold pstep
  rw [if_neg h0, if_pos (idx_neg_iff.2 hn)]
theorem plSt_old (seen t : List Int) {k : Nat} (h : k < t.length) (h0 : ¬ 0 ≤ t[k]) (hn : t[k] ∈ (plSt seen t k).2) :
    plSt seen t (k + 1) = ((plSt seen t k).1.set k (-1 - idx (fun x => decide (x = t[k])) (plSt seen t k).2), (plSt seen t k).2) := by
  rw [plSt_succ seen t h]
  unfold pstep
  rw [if_neg h0, if_neg (fun e => idx_neg_iff.1 e hn)]
theorem impl_plain2 (seen t r : List Int) (hs : seen.length ≤ 4096) (ht : t.length ≤ 4096) {N : Nat} (hN : t.length < N) (L0 : St → R) :
    impl_plain.at2 N L0 N (impl_plain.st2 2 (0 : Nat) t.length (0 : Nat) (cells seen) (cells t) (cells r)) = L0 (impl_plain.st0 2 (1 : Nat) (cells (plainL seen t).2) (cells (plainL seen t).1) (cells r)) := by
  have key := run_loop (n := t.length) (f := N) (S := fun m k (o : List Int × List Int) => impl_plain.at2 N L0 m (impl_plain.st2 2 (0 : Nat) t.length (k : Nat) (cells o.2) (cells o.1) (cells r)))
    (st := fun k => plSt seen t k) (z := L0 (impl_plain.st0 2 (1 : Nat) (cells (plainL seen t).2) (cells (plainL seen t).1) (cells r))) (fun m k h => ?_) (fun m => ?_) (by omega)
  · rw [plSt_zero] at key; exact key
  · have hl := plSt_len seen t (Nat.le_of_lt h)
    have hg := plSt_get seen t h
    have hsl := plSt_seen seen t k
    have hp := plSt_pos seen t h
    have hnw := plSt_new seen t h
    have hod := plSt_old seen t h
    generalize plSt seen t (k + 1) = P at *
    generalize plSt seen t k = Q at *
    obtain ⟨M, s⟩ := Q
    simp only at hl hg hsl hp hnw hod
    have hkM : k < M.length := by omega
    have hkc : k * 1 + 1 ≤ (cells M).length := by rw [cells_length, sz_int]; omega
    have hct := (slices_Contains_Sint64 s t[k] (by omega)).eq
    have hix := (slices_Index_Sint64 s t[k] (by omega)).eq
    have hix' := (slices_Index_Sint64 (s ++ [t[k]]) t[k] (by simp; omega)).eq
    have hrg := idx_range s t[k]
    by_cases h0 : 0 ≤ t[k]
    · have h0' : t[k] ≥ 0 := h0
      rw [hp h0]
      simp only [impl_plain.next2, impl_plain.round2, evs, szs, if_true, if_false, decide_true, decide_false, cond_true, cond_false, Nat.reduceLT, h, hg, hkM, enc_int, h0']
      rw [wrap_succ (by omega)]
    · have h0' : ¬ t[k] ≥ 0 := h0
      by_cases hm : t[k] ∈ s
      · rw [hod h0 hm]
        rw [decide_eq_true hm] at hct
        have := set_Int hkM (-1 - idx (fun x => decide (x = t[k])) s)
        simp only [impl_plain.next2, impl_plain.round2, evs, szs, if_true, if_false, decide_true, decide_false, cond_true, cond_false, Nat.reduceLT, h, hg, hkM, enc_int, h0', hct, hix, wrap64 (x := -1 - idx (fun x => decide (x = t[k])) s) (by omega), this, hkc]
        rw [wrap_succ (by omega)]
      · rw [hnw h0 hm]
        rw [decide_eq_false hm] at hct
        rw [idx_snoc hm] at hix'
        have := set_Int hkM (-1 - (s.length : Int))
        simp only [impl_plain.next2, impl_plain.round2, evs, szs, if_true, if_false, decide_true, decide_false, cond_true, cond_false, Nat.reduceLT, h, hg, hkM, enc_int, h0', hct, cells_snoc_int, hix', wrap64 (x := -1 - (s.length : Int)) (by omega), this, hkc]
        rw [wrap_succ (by omega), cond_pos (ble_ok (by rw [cells_length, sz_int]; omega))]
  · rw [plSt_end]
    simp only [impl_plain.next2, impl_plain.round2, evs, szs, if_true, if_false, decide_true, decide_false, cond_true, cond_false, Nat.reduceLT, Nat.lt_irrefl]
    rw [wrap_succ (by omega)]
theorem impl_plain3 (seen t r : List Int) (hs : seen.length ≤ 4096) (ht : t.length ≤ 4096) {N : Nat} (hN : t.length < N) (L0 : St → R) :
    impl_plain.at1002 N L0 N (impl_plain.st1002 2 (1 : Nat) t.length (0 : Nat) (cells seen) (cells r) (cells t)) = L0 (impl_plain.st0 2 (2 : Nat) (cells (plainL seen t).2) (cells r) (cells (plainL seen t).1)) := by
  have key := run_loop (n := t.length) (f := N) (S := fun m k (o : List Int × List Int) => impl_plain.at1002 N L0 m (impl_plain.st1002 2 (1 : Nat) t.length (k : Nat) (cells o.2) (cells r) (cells o.1)))
    (st := fun k => plSt seen t k) (z := L0 (impl_plain.st0 2 (2 : Nat) (cells (plainL seen t).2) (cells r) (cells (plainL seen t).1))) (fun m k h => ?_) (fun m => ?_) (by omega)
  · rw [plSt_zero] at key; exact key
  · have hl := plSt_len seen t (Nat.le_of_lt h)
    have hg := plSt_get seen t h
    have hsl := plSt_seen seen t k
    have hp := plSt_pos seen t h
    have hnw := plSt_new seen t h
    have hod := plSt_old seen t h
    generalize plSt seen t (k + 1) = P at *
    generalize plSt seen t k = Q at *
    obtain ⟨M, s⟩ := Q
    simp only at hl hg hsl hp hnw hod
    have hkM : k < M.length := by omega
    have hkc : k * 1 + 1 ≤ (cells M).length := by rw [cells_length, sz_int]; omega
    have hct := (slices_Contains_Sint64 s t[k] (by omega)).eq
    have hix := (slices_Index_Sint64 s t[k] (by omega)).eq
    have hix' := (slices_Index_Sint64 (s ++ [t[k]]) t[k] (by simp; omega)).eq
    have hrg := idx_range s t[k]
    by_cases h0 : 0 ≤ t[k]
    · have h0' : t[k] ≥ 0 := h0
      rw [hp h0]
      simp only [impl_plain.next1002, impl_plain.round1002, evs, szs, if_true, if_false, decide_true, decide_false, cond_true, cond_false, Nat.reduceLT, h, hg, hkM, enc_int, h0']
      rw [wrap_succ (by omega)]
    · have h0' : ¬ t[k] ≥ 0 := h0
      by_cases hm : t[k] ∈ s
      · rw [hod h0 hm]
        rw [decide_eq_true hm] at hct
        have := set_Int hkM (-1 - idx (fun x => decide (x = t[k])) s)
        simp only [impl_plain.next1002, impl_plain.round1002, evs, szs, if_true, if_false, decide_true, decide_false, cond_true, cond_false, Nat.reduceLT, h, hg, hkM, enc_int, h0', hct, hix, wrap64 (x := -1 - idx (fun x => decide (x = t[k])) s) (by omega), this, hkc]
        rw [wrap_succ (by omega)]
      · rw [hnw h0 hm]
        rw [decide_eq_false hm] at hct
        rw [idx_snoc hm] at hix'
        have := set_Int hkM (-1 - (s.length : Int))
        simp only [impl_plain.next1002, impl_plain.round1002, evs, szs, if_true, if_false, decide_true, decide_false, cond_true, cond_false, Nat.reduceLT, h, hg, hkM, enc_int, h0', hct, cells_snoc_int, hix', wrap64 (x := -1 - (s.length : Int)) (by omega), this, hkc]
        rw [wrap_succ (by omega), cond_pos (ble_ok (by rw [cells_length, sz_int]; omega))]
  · rw [plSt_end]
    simp only [impl_plain.next1002, impl_plain.round1002, evs, szs, if_true, if_false, decide_true, decide_false, cond_true, cond_false, Nat.reduceLT, Nat.lt_irrefl]
    rw [wrap_succ (by omega)]
theorem impl_plain0 (a b : List Int) (ha : a.length ≤ 1024) {N : Nat} (hN : 1100 ≤ N) (f : Nat) :
    impl_plain.at0 N (f + 1) (impl_plain.st0 2 (0 : Int) [] (cells a) (cells b)) = impl_plain.at0 N f (impl_plain.st0 2 (1 : Nat) (cells (plainL [] a).2) (cells (plainL [] a).1) (cells b)) := by
  have h2 := impl_plain2 [] a b (by simp) (by omega) (N := N) (by omega) (impl_plain.at0 N f)
  rw [show ((0 : Nat) : Int) = 0 from rfl, cells_nil] at h2
  rw [impl_plain.next0, impl_plain.round0]
  simp only [cells_div, sz_int]
  rw [cond_pos (by decide), cond_pos (by decide), cond_pos (by decide)]
  exact h2
theorem impl_plain1 (seen a b : List Int) (hs : seen.length ≤ 4096) (hb : b.length ≤ 1024) {N : Nat} (hN : 1100 ≤ N) (f : Nat) :
    impl_plain.at0 N (f + 1) (impl_plain.st0 2 (1 : Nat) (cells seen) (cells a) (cells b)) = impl_plain.at0 N f (impl_plain.st0 2 (2 : Nat) (cells (plainL seen b).2) (cells a) (cells (plainL seen b).1)) := by
  have h3 := impl_plain3 seen b a hs (by omega) (N := N) (by omega) (impl_plain.at0 N f)
  rw [show ((0 : Nat) : Int) = 0 from rfl] at h3
  rw [impl_plain.next0, impl_plain.round0]
  simp only [cells_div, sz_int]
  rw [cond_pos (by decide), cond_pos (by decide), cond_neg (by decide), cond_pos (by decide)]
  exact h3
theorem impl_plain4 (s a b : List Int) {N : Nat} (f : Nat) : impl_plain.at0 N (f + 1) (impl_plain.st0 2 (2 : Nat) (cells s) (cells a) (cells b)) = some (.tup [.agg [slc a, slc b], .bool (decide (s.length ≤ 6))], []) := by
  rw [impl_plain.next0, impl_plain.round0]
  simp only [cells_div, sz_int]
  rw [cond_neg (by decide), show decide (((s.length : Nat) : Int) ≤ 6) = decide (s.length ≤ 6) from decide_eq_decide.2 (by omega)]
  rfl
theorem impl_plain (a b : List Int) (ha : a.length ≤ 1024) (hb : b.length ≤ 1024) : Call F.impl_plain [.agg [slc a, slc b]] (.tup [.agg [slc (plainE ⟨a, b⟩).left, slc (plainE ⟨a, b⟩).right], .bool (decide ((seenE ⟨a, b⟩).length ≤ 6))]) := by
  obtain ⟨m, hm⟩ : ∃ m, 1100 ≤ m := ⟨1100, Nat.le_refl _⟩
  refine call_of rfl (m + 1 + 1 + 1) ((impl_plain.ev _ _ _).trans ?_)
  have ho : Call F.impl_ownEquation [.agg [slc a, slc b]] (.agg [slc a, slc b]) := by
    refine call_of rfl 0 ((impl_ownEquation.ev _ _ _).trans ?_)
    simp only [evs, szs, if_true, if_false, decide_true, decide_false, cond_true, cond_false, Nat.reduceLT, (slices_Clone_Sint64 a (by omega)).eq, (slices_Clone_Sint64 b (by omega)).eq]
  simp only [evs, szs, if_true, if_false, decide_true, decide_false, cond_true, cond_false, Nat.reduceLT, ho.eq]
  have hs1 := (plainL_length [] a).2.1
  have e0 := impl_plain0 a b ha (N := m + 1 + 1 + 1) (by omega) (m + 1 + 1)
  have e1 := impl_plain1 (plainL [] a).2 (plainL [] a).1 b (by simp at hs1; omega) hb (N := m + 1 + 1 + 1) (by omega) (m + 1)
  exact e0.trans (e1.trans (impl_plain4 _ _ _ m))
theorem spec_l4Plain (a b : List Int) (ha : a.length ≤ 1024) (hb : b.length ≤ 1024) : Call F.spec_l4Plain [.rref [slc a, slc b] 0]
    (.tup [.agg [slc (if (seenE ⟨a, b⟩).length ≤ 6 then (plainE ⟨a, b⟩).left else []), slc (if (seenE ⟨a, b⟩).length ≤ 6 then (plainE ⟨a, b⟩).right else [])], .bool (decide ((seenE ⟨a, b⟩).length ≤ 6))]) := by
  refine call_of rfl 3000 ((spec_l4Plain.ev _ _ _).trans ?_)
  simp only [evs, szs, if_true, if_false, decide_true, decide_false, cond_true, cond_false, Nat.reduceLT, (spec_l1Ints' a (by omega)).eq, scalars_int, ← cells_append]
  rw [cond_pos (ble_ok (by rw [cells_length, cells_length, sz_int]; omega))]
  have htl : (a ++ b).length ≤ 2048 := by simp; omega
  obtain ⟨t, hte⟩ : ∃ t, t = a ++ b := ⟨_, rfl⟩
  rw [← hte] at htl ⊢
  have key := run_loop (n := t.length) (f := 3000) (S := fun m k (o : List Int × List Int) => spec_l4Plain.at0 3000 m (spec_l4Plain.st0 (cells a) (cells b) (k : Nat) (cells o.1) (cells o.2)))
    (st := fun k => plSt [] t k) (z := some (.tup [.agg [slc (if (seenE ⟨a, b⟩).length ≤ 6 then (plainE ⟨a, b⟩).left else []), slc (if (seenE ⟨a, b⟩).length ≤ 6 then (plainE ⟨a, b⟩).right else [])], .bool (decide ((seenE ⟨a, b⟩).length ≤ 6))], [])) (fun m k h => ?_) (fun m => ?_) (by omega)
  · rw [plSt_zero] at key; exact key
  · have hl := plSt_len [] t (Nat.le_of_lt h)
    have hg := plSt_get [] t h
    have hsl := plSt_seen [] t k
    have hp := plSt_pos [] t h
    have hnw := plSt_new [] t h
    have hod := plSt_old [] t h
    generalize plSt [] t (k + 1) = P at *
    generalize plSt [] t k = Q at *
    obtain ⟨M, s⟩ := Q
    simp only at hl hg hsl hp hnw hod
    have hkM : k < M.length := by omega
    have hkc : k * 1 + 1 ≤ (cells M).length := by rw [cells_length, sz_int]; omega
    have hix := (spec_l2Rank s t[k] (by simp at hsl; omega)).eq
    unfold rank at hix
    have hrg := idx_range s t[k]
    have hsl' : s.length ≤ 2048 := by simp at hsl; omega
    by_cases h0 : 0 ≤ t[k]
    · have h0' : t[k] ≥ 0 := h0
      rw [hp h0]
      simp only [spec_l4Plain.next0, spec_l4Plain.round0, evs, szs, if_true, if_false, decide_true, decide_false, cond_true, cond_false, Nat.reduceLT, h, hg, hkM, enc_int, h0']
      rw [wrap_succ (by omega)]
    · have h0' : ¬ t[k] ≥ 0 := h0
      by_cases hm : t[k] ∈ s
      · rw [hod h0 hm]
        have := set_Int hkM (-1 - idx (fun x => decide (x = t[k])) s)
        have hi : ¬ idx (fun x => decide (x = t[k])) s < 0 := fun e => idx_neg_iff.1 e hm
        simp only [spec_l4Plain.next0, spec_l4Plain.round0, evs, szs, if_true, if_false, decide_true, decide_false, cond_true, cond_false, Nat.reduceLT, h, hg, hkM, enc_int, h0', hix, hi, wrap64 (x := -1 - idx (fun x => decide (x = t[k])) s) (by omega), this, hkc]
        rw [wrap_succ (by omega)]
      · rw [hnw h0 hm]
        have := set_Int hkM (-1 - (s.length : Int))
        have hi : idx (fun x => decide (x = t[k])) s < 0 := idx_neg_iff.2 hm
        simp only [spec_l4Plain.next0, spec_l4Plain.round0, evs, szs, if_true, if_false, decide_true, decide_false, cond_true, cond_false, Nat.reduceLT, h, hg, hkM, enc_int, h0', hix, hi, cells_snoc_int, wrap64 (x := -1 - (s.length : Int)) (by omega), this, hkc]
        rw [wrap_succ (by omega), cond_pos (ble_ok (by rw [cells_length, sz_int]; omega))]
  · rw [plSt_end, hte, plainL_append]
    have hl1 := (plainL_length [] a).1
    have hl2 := (plainL_length (plainL [] a).2 b).1
    have es : seenE ⟨a, b⟩ = (plainL (plainL [] a).2 b).2 := rfl
    simp only [spec_l4Plain.next0, spec_l4Plain.round0, evs, szs, if_true, if_false, decide_true, decide_false, cond_true, cond_false, Nat.reduceLT, List.length_append, hl1, hl2, Nat.lt_irrefl, es]
    by_cases h6 : (plainL (plainL [] a).2 b).2.length ≤ 6
    · have h6' : ¬ (((plainL (plainL [] a).2 b).2.length : Nat) : Int) > 6 := by omega
      have c1 : ((((plainL [] a).1 ++ (plainL (plainL [] a).2 b).1).take a.length).drop 0) = (plainL [] a).1 := by rw [List.drop_zero, ← hl1, List.take_left]
      have c2 : ((((plainL [] a).1 ++ (plainL (plainL [] a).2 b).1).take (a.length + b.length)).drop a.length) = (plainL (plainL [] a).2 b).1 := by
        rw [List.take_of_length_le (by rw [List.length_append]; omega), ← hl1, List.drop_left]
      simp only [h6, h6', evs, szs, if_true, if_false, decide_true, decide_false, cond_true, cond_false, Nat.reduceLT]
      rw [cond_pos (by simp; omega), slc_cut, c1, (spec_l1Ints' _ (by omega)).eq]
      simp only [evs, szs, if_true, if_false, decide_true, decide_false, cond_true, cond_false, Nat.reduceLT]
      rw [cond_pos (by simp; omega), slc_cut, c2, (spec_l1Ints' _ (by omega)).eq]
      simp only [evs, szs, if_true, if_false, decide_true, decide_false, cond_true, cond_false, Nat.reduceLT]
      rfl
    · have h6' : (((plainL (plainL [] a).2 b).2.length : Nat) : Int) > 6 := by omega
      simp only [h6, h6', evs, szs, if_true, if_false, decide_true, decide_false, cond_true, cond_false, Nat.reduceLT, slc_nil]
end Ev.Ty
end

section
namespace Ev.Ty
open Go Ev
open Enc (enc)
open Sm (sm)
set_option linter.unusedSimpArgs false
set_option linter.unusedVariables false
theorem unif_code {l : List Symbol} : ∀ {n : Nat} {b : Bnd} {ps : List Pr} {c : Int}, unif l n b ps = some (.inr c) → c = 2 ∨ c = 4
  | 0, b, ps, c, h => by cases h
  | n + 1, b, [], c, h => by cases h
  | n + 1, b, p :: ps, c, h => by
    rw [unif] at h
    split at h
    · cases h; exact .inl rfl
    split at h
    · exact unif_code h
    split at h
    · split at h
      · cases h; exact .inr rfl
      split at h
      · cases h; exact .inl rfl
      · exact unif_code h
    split at h
    · split at h
      · cases h; exact .inr rfl
      split at h
      · cases h; exact .inl rfl
      · exact unif_code h
    split at h
    · cases h; exact .inr rfl
    · exact unif_code h
theorem unifR_code {l : List Symbol} {a b : List Int} (ha : TermOk l a) (hb : TermOk l b) {c : Int} (h : unifR l a b = .inr c) : c = 2 ∨ c = 4 := by
  obtain ⟨⟨n, hn⟩, _⟩ := unifR_spec ha hb
  rw [h] at hn
  exact unif_code hn
theorem replAt_range {l : List Symbol} (ok : SigOk ⟨l⟩) {t u : List Int} (ht : TermOk l t) (hu : TermOk l u) (p : Nat) : ∀ n ∈ replAt l t p u, -4611686018427387904 ≤ n ∧ n ≤ 4611686018427387904 := fun n hn => by
  unfold replAt at hn
  rcases List.mem_append.1 hn with hn | hn
  · rcases List.mem_append.1 hn with hn | hn
    · exact ht.range ok n (List.mem_of_mem_take hn)
    · exact hu.range ok n hn
  · exact ht.range ok n (List.mem_of_mem_drop hn)
section
variable {l : List Symbol} (ok : SigOk ⟨l⟩)
include ok
theorem impl_peakOf {o i : Equation} (ho : EqOk l o) (hi : EqOk l i) {p : Nat} (hp : p < o.left.length) : Call F.impl_peakOf [.agg [slc l], .agg [slc o.left, slc o.right], .agg [slc i.left, slc i.right], .int .i64 p] (.agg (enc (peakR l o i p))) := by
  refine call_of rfl 0 ((impl_peakOf.ev _ _ _ _ _ _ _).trans ?_)
  have l1 := ho.left.le
  have l2 := ho.right.le
  have l3 := hi.left.le
  have l4 := hi.right.le
  have s1 := (impl_shifted i.left (by omega) (fun n hn => (hi.left.range ok n hn).1)).eq
  have s2 := (impl_shifted i.right (by omega) (fun n hn => (hi.right.range ok n hn).1)).eq
  have o1 := shift_ok hi.left hi.lowL
  have o2 := shift_ok hi.right hi.lowR
  have os := subAt_ok ho.left hp
  have hsub := (impl_subterm ok ho.left hp).eq
  have hu := impl_unify ok os o1
  have hrp := (impl_replaced ok ho.left hp (shiftT i.right 6) (by rw [shiftT_length]; omega)).eq
  have hrl := replAt_length (l := l) (t := o.left) (p := p) (by_ := shiftT i.right 6)
  rw [shiftT_length] at hrl
  simp only [evs, szs, if_true, if_false, decide_true, decide_false, cond_true, cond_false, Nat.reduceLT, s1, s2, hsub, hu, peakR]
  have hsp := unifR_spec os o1
  have hcd := fun c => unifR_code os o1 (c := c)
  generalize unifR l (subAt l o.left p) (shiftT i.left 6) = u at *
  cases u with
  | inr c =>
    have hc : ¬ c = 0 := by rcases hcd c rfl with h | h <;> omega
    simp only [uT, evs, szs, if_true, if_false, decide_true, decide_false, cond_true, cond_false, Nat.reduceLT, hc, enc_EquationResult, slc_nil]
    rfl
  | inl b =>
    have hb := hsp.2 b rfl
    have hbl := hb.le
    have hbo := hb.mb.ok (by omega)
    simp only [uT, evs, szs, if_true, if_false, decide_true, decide_false, cond_true, cond_false, Nat.reduceLT, hrp]
    have hge := applied_ge hb.mb (replAt l o.left p (shiftT i.right 6))
    have a1 := (impl_Binding_applied b.1 b.2 hbo o.right (by omega) (ho.right.range ok)).eq
    have a2 := (impl_Binding_applied b.1 b.2 hbo (replAt l o.left p (shiftT i.right 6)) (by omega) (replAt_range ok ho.left o2 p)).eq
    generalize replAt l o.left p (shiftT i.right 6) = w at *
    generalize applied b.1 b.2 o.right = x at *
    generalize applied b.1 b.2 w = y at *
    by_cases c1 : 24 < w.length
    · have c1' : (w.length : Int) > 24 := by omega
      have c2 : 24 < x.length ∨ 24 < y.length := .inr (by omega)
      simp only [c1', c2, evs, szs, if_true, if_false, decide_true, decide_false, cond_true, cond_false, Nat.reduceLT, enc_EquationResult, slc_nil]
    have c1' : ¬ (w.length : Int) > 24 := by omega
    simp only [c1', evs, szs, if_true, if_false, decide_true, decide_false, cond_true, cond_false, Nat.reduceLT, a1, a2]
    by_cases c2 : 24 < x.length
    · have c2' : (x.length : Int) > 24 := by omega
      simp only [c2, c2', true_or, evs, szs, if_true, if_false, decide_true, decide_false, cond_true, cond_false, Nat.reduceLT, enc_EquationResult, slc_nil]
    by_cases c3 : 24 < y.length
    · have c2' : ¬ (x.length : Int) > 24 := by omega
      have c3' : (y.length : Int) > 24 := by omega
      simp only [c3, c2', c3', or_true, evs, szs, if_true, if_false, decide_true, decide_false, cond_true, cond_false, Nat.reduceLT, enc_EquationResult, slc_nil]
    have c2' : ¬ (x.length : Int) > 24 := by omega
    have c3' : ¬ (y.length : Int) > 24 := by omega
    have hpl := (impl_plain x y (by omega) (by omega)).eq
    simp only [c2, c3, c2', c3', or_self, evs, szs, if_true, if_false, decide_true, decide_false, cond_true, cond_false, Nat.reduceLT, hpl]
    by_cases c4 : (seenE ⟨x, y⟩).length ≤ 6
    · have c4' : ¬ 6 < (seenE ⟨x, y⟩).length := by omega
      simp only [c4, c4', evs, szs, if_true, if_false, decide_true, decide_false, cond_true, cond_false, Nat.reduceLT, Bool.not_true, enc_EquationResult]
    · have c4' : 6 < (seenE ⟨x, y⟩).length := by omega
      simp only [c4, c4', evs, szs, if_true, if_false, decide_true, decide_false, cond_true, cond_false, Nat.reduceLT, Bool.not_false, enc_EquationResult, slc_nil]
theorem spec_l9Peak {o i : Equation} (ho : EqOk l o) (hi : EqOk l i) {p : Nat} (hp : p < o.left.length) : Call F.spec_l9Peak [.rref [slc l] 0, .rref [slc o.left, slc o.right] 0, .rref [slc i.left, slc i.right] 0, .int .i64 p]
    (.tup [.agg [slc (peakR l o i p).equation.left, slc (peakR l o i p).equation.right], .int .i64 (peakR l o i p).code]) := by
  refine call_of rfl 0 ((spec_l9Peak.ev _ _ _ _ _ _ _).trans ?_)
  have l1 := ho.left.le
  have l2 := ho.right.le
  have l3 := hi.left.le
  have l4 := hi.right.le
  have s1 := (spec_l6Shift i.left (by omega) (fun n hn => (hi.left.range ok n hn).1)).eq
  have s2 := (spec_l6Shift i.right (by omega) (fun n hn => (hi.right.range ok n hn).1)).eq
  have o1 := shift_ok hi.left hi.lowL
  have o2 := shift_ok hi.right hi.lowR
  have os := subAt_ok ho.left hp
  have hsub := (spec_l3Sub ok ho.left hp).eq
  have hu := spec_l6Unify ok os o1
  have hrp := (spec_l3Replace ok ho.left hp (shiftT i.right 6) (by rw [shiftT_length]; omega)).eq
  have hrl := replAt_length (l := l) (t := o.left) (p := p) (by_ := shiftT i.right 6)
  rw [shiftT_length] at hrl
  simp only [evs, szs, if_true, if_false, decide_true, decide_false, cond_true, cond_false, Nat.reduceLT, s1, s2, hsub, hu, peakR]
  have hsp := unifR_spec os o1
  have hcd := fun c => unifR_code os o1 (c := c)
  generalize unifR l (subAt l o.left p) (shiftT i.left 6) = u at *
  cases u with
  | inr c =>
    have hc : ¬ c = 0 := by rcases hcd c rfl with h | h <;> omega
    simp only [uT, evs, szs, if_true, if_false, decide_true, decide_false, cond_true, cond_false, Nat.reduceLT, hc, enc_EquationResult, slc_nil]
    rfl
  | inl b =>
    have hb := hsp.2 b rfl
    have hbl := hb.le
    have hbo := hb.mb.ok (by omega)
    simp only [uT, evs, szs, if_true, if_false, decide_true, decide_false, cond_true, cond_false, Nat.reduceLT, hrp]
    have hge := applied_ge hb.mb (replAt l o.left p (shiftT i.right 6))
    have a1 := (spec_l6Apply b.1 b.2 hbo o.right (by omega) (ho.right.range ok)).eq
    have a2 := (spec_l6Apply b.1 b.2 hbo (replAt l o.left p (shiftT i.right 6)) (by omega) (replAt_range ok ho.left o2 p)).eq
    generalize replAt l o.left p (shiftT i.right 6) = w at *
    generalize applied b.1 b.2 o.right = x at *
    generalize applied b.1 b.2 w = y at *
    simp only [evs, szs, if_true, if_false, decide_true, decide_false, cond_true, cond_false, Nat.reduceLT, a1, a2]
    by_cases c2 : 24 < x.length
    · have c2' : (x.length : Int) > 24 := by omega
      simp only [c2, c2', true_or, evs, szs, if_true, if_false, decide_true, decide_false, cond_true, cond_false, Nat.reduceLT, enc_EquationResult, slc_nil]
    by_cases c3 : 24 < y.length
    · have c2' : ¬ (x.length : Int) > 24 := by omega
      have c3' : (y.length : Int) > 24 := by omega
      simp only [c3, c2', c3', or_true, evs, szs, if_true, if_false, decide_true, decide_false, cond_true, cond_false, Nat.reduceLT, enc_EquationResult, slc_nil]
    have c2' : ¬ (x.length : Int) > 24 := by omega
    have c3' : ¬ (y.length : Int) > 24 := by omega
    have hpl := (spec_l4Plain x y (by omega) (by omega)).eq
    simp only [c2, c3, c2', c3', or_self, evs, szs, if_true, if_false, decide_true, decide_false, cond_true, cond_false, Nat.reduceLT, hpl]
    by_cases c4 : (seenE ⟨x, y⟩).length ≤ 6
    · have c4' : ¬ 6 < (seenE ⟨x, y⟩).length := by omega
      simp only [c4, c4', evs, szs, if_true, if_false, decide_true, decide_false, cond_true, cond_false, Nat.reduceLT, Bool.not_true, enc_EquationResult]
    · have c4' : 6 < (seenE ⟨x, y⟩).length := by omega
      simp only [c4, c4', evs, szs, if_true, if_false, decide_true, decide_false, cond_true, cond_false, Nat.reduceLT, Bool.not_false, enc_EquationResult, slc_nil]
end
noncomputable def peakOfR (s : Signature) (o i : Equation) (p : Int) : EquationResult :=
  if rulesFault s [o, i] ≠ 0 then ⟨rulesFault s [o, i], ⟨[], []⟩⟩ else if inR p 0 (o.left.length - 1) = false then ⟨3, ⟨[], []⟩⟩ else if o.left.getD p.toNat 0 < 0 then ⟨1, ⟨[], []⟩⟩ else peakR s.symbols o i p.toNat
theorem pair_sm {o i : Equation} (ho : sm 1048576 o) (hi : sm 1048576 i) : sm 4294967296 [o, i] := ⟨by simp, fun x hx => by
  rcases List.mem_cons.1 hx with rfl | hx
  · exact sm_mono (by omega) ho
  · rw [List.mem_singleton.1 hx]; exact sm_mono (by omega) hi⟩
theorem peakR_sm {l : List Symbol} {o i : Equation} {p : Nat} : sm 67108864 (peakR l o i p) := by
  unfold peakR
  split
  · exact ⟨⟨by simp, by simp⟩, ⟨by simp, by simp⟩⟩
  split
  · exact ⟨⟨by simp, by simp⟩, ⟨by simp, by simp⟩⟩
  split
  · exact ⟨⟨by simp, by simp⟩, ⟨by simp, by simp⟩⟩
  · rename_i b _ h _
    refine ⟨⟨?_, fun _ _ => trivial⟩, ⟨?_, fun _ _ => trivial⟩⟩
    · show (plainL _ _).1.length ≤ _
      rw [(plainL_length _ _).1]
      show (applied _ _ _).length ≤ _
      omega
    · show (plainL _ _).1.length ≤ _
      rw [(plainL_length _ _).1]
      show (applied _ _ _).length ≤ _
      omega
theorem impl_PeakOf (s : Signature) (o i : Equation) (p : Int) (hs : sm 1048576 s) (ho : sm 1048576 o) (hi : sm 1048576 i) : Call F.impl_PeakOf [.agg (enc s), .agg (enc o), .agg (enc i), .int .i64 p] (.agg (enc (peakOfR s o i p))) := by
  obtain ⟨l⟩ := s
  have hsl : l.length ≤ 4294967296 := Nat.le_trans hs.1 (by omega)
  have hol : o.left.length ≤ 1048576 := ho.1.1
  have hf : LIM F.impl_RulesFault [.agg [slc l], .sl 2 [slc o.left, slc o.right, slc i.left, slc i.right]] = some (.int .i64 (rulesFault ⟨l⟩ [o, i]), []) := (impl_RulesFault l hsl [o, i] (pair_sm ho hi)).eq
  show Call F.impl_PeakOf [.agg [slc l], .agg [slc o.left, slc o.right], .agg [slc i.left, slc i.right], .int .i64 p] _
  refine call_of rfl 0 ((impl_PeakOf.ev _ _ _ _ _ _ _).trans ?_)
  simp only [evs, szs, if_true, if_false, decide_true, decide_false, cond_true, cond_false, Nat.reduceLT, hf, peakOfR, wrap64 (x := (o.left.length : Int) - 1) (by omega), (impl_within _ _ _).eq]
  by_cases h : rulesFault ⟨l⟩ [o, i] = 0
  case neg => simp only [h, evs, szs, if_true, if_false, decide_true, decide_false, cond_true, cond_false, Nat.reduceLT, ne_eq, not_false_eq_true, enc_EquationResult, slc_nil]
  obtain ⟨_, ok, _, q2⟩ := rulesFault_ok h
  have q2o := q2 o (by simp)
  have q2i := q2 i (by simp)
  cases h1 : inR p 0 (o.left.length - 1) with
  | false => simp only [h, evs, szs, if_true, if_false, decide_true, decide_false, cond_true, cond_false, Nat.reduceLT, ne_eq, not_true_eq_false, Bool.not_false, enc_EquationResult, slc_nil]
  | true =>
    have hp1 := inR_iff.1 h1
    obtain ⟨a, rfl⟩ : ∃ a : Nat, p = a := ⟨p.toNat, by omega⟩
    have ha : a < o.left.length := by omega
    have hlk : o.left[a]? = some o.left[a] := List.getElem?_eq_getElem ha
    have hd : o.left.getD a 0 = o.left[a] := getD_at ha
    have hpk := (impl_peakOf ok q2o q2i ha).eq
    rw [enc_EquationResult] at hpk
    simp only [h, evs, szs, if_true, if_false, decide_true, decide_false, cond_true, cond_false, Nat.reduceLT, ne_eq, not_true_eq_false, Bool.not_true, ha, hlk, enc_int, hd, reduceCtorEq, hpk]
    by_cases h3 : o.left[a] < 0 <;> simp only [h3, evs, szs, if_true, if_false, decide_true, decide_false, cond_true, cond_false, Nat.reduceLT, enc_EquationResult, slc_nil]
theorem spec_PeakOf (s : Signature) (o i : Equation) (p : Int) (hs : sm 1048576 s) (ho : sm 1048576 o) (hi : sm 1048576 i) : Call F.spec_PeakOf [.agg (enc s), .agg (enc o), .agg (enc i), .int .i64 p] (.agg (enc (peakOfR s o i p))) := by
  obtain ⟨l⟩ := s
  have hsl : l.length ≤ 4294967296 := Nat.le_trans hs.1 (by omega)
  have hol : o.left.length ≤ 1048576 := ho.1.1
  have hf : LIM F.spec_RulesFault [.agg [slc l], .sl 2 [slc o.left, slc o.right, slc i.left, slc i.right]] = some (.int .i64 (rulesFault ⟨l⟩ [o, i]), []) := (spec_RulesFault l hsl [o, i] (pair_sm ho hi)).eq
  have h2 : Call F.spec_l9Two [.rref [slc l] 0, .rref [slc o.left, slc o.right] 0, .rref [slc i.left, slc i.right] 0] (.int .i64 (rulesFault ⟨l⟩ [o, i])) := by
    refine call_of rfl 0 ((spec_l9Two.ev _ _ _ _ _ _).trans ?_)
    simp only [evs, szs, if_true, if_false, decide_true, decide_false, cond_true, cond_false, Nat.reduceLT, hf]
  show Call F.spec_PeakOf [.agg [slc l], .agg [slc o.left, slc o.right], .agg [slc i.left, slc i.right], .int .i64 p] _
  refine call_of rfl 0 ((spec_PeakOf.ev _ _ _ _ _ _ _).trans ?_)
  simp only [evs, szs, if_true, if_false, decide_true, decide_false, cond_true, cond_false, Nat.reduceLT, h2.eq, peakOfR, (spec_l3Place o.left p (by omega)).eq]
  by_cases h : rulesFault ⟨l⟩ [o, i] = 0
  case neg => simp only [h, evs, szs, if_true, if_false, decide_true, decide_false, cond_true, cond_false, Nat.reduceLT, ne_eq, not_false_eq_true, enc_EquationResult, slc_nil]
  obtain ⟨_, ok, _, q2⟩ := rulesFault_ok h
  have q2o := q2 o (by simp)
  have q2i := q2 i (by simp)
  cases h1 : inR p 0 (o.left.length - 1) with
  | false => simp only [h, evs, szs, if_true, if_false, decide_true, decide_false, cond_true, cond_false, Nat.reduceLT, ne_eq, not_true_eq_false, Bool.not_false, enc_EquationResult, slc_nil]
  | true =>
    have hp1 := inR_iff.1 h1
    obtain ⟨a, rfl⟩ : ∃ a : Nat, p = a := ⟨p.toNat, by omega⟩
    have ha : a < o.left.length := by omega
    have hlk : o.left[a]? = some o.left[a] := List.getElem?_eq_getElem ha
    have hd : o.left.getD a 0 = o.left[a] := getD_at ha
    have hpk := (spec_l9Peak ok q2o q2i ha).eq
    simp only [h, evs, szs, if_true, if_false, decide_true, decide_false, cond_true, cond_false, Nat.reduceLT, ne_eq, not_true_eq_false, Bool.not_true, ha, hlk, enc_int, hd, reduceCtorEq, hpk]
    by_cases h3 : o.left[a] < 0 <;> simp only [h3, evs, szs, if_true, if_false, decide_true, decide_false, cond_true, cond_false, Nat.reduceLT, enc_EquationResult, slc_nil]
end Ev.Ty
end

section
namespace Ev.Ty
open Go Ev
open Enc (enc)
open Sm (sm)
set_option linter.unusedSimpArgs false
set_option linter.unusedVariables false
noncomputable def placesN (l : List Symbol) (o i : Equation) (same : Bool) : Nat → Nat → List Nat ⊕ Int
  | 0, _ => .inl []
  | n + 1, k => if o.left.getD k 0 < 0 ∨ (same = true ∧ k = 0) then placesN l o i same n (k + 1) else if (peakR l o i k).code = 4 then placesN l o i same n (k + 1) else if (peakR l o i k).code = 0 then
      match placesN l o i same n (k + 1) with
      | .inl qs => .inl (k :: qs)
      | .inr c => .inr c
    else .inr (peakR l o i k).code
noncomputable def peaksR (l : List Symbol) (o i : Equation) (same : Bool) : List Equation ⊕ Int := match placesN l o i same o.left.length 0 with
  | .inl qs => .inl (qs.map fun q => (peakR l o i q).equation)
  | .inr c => .inr c
theorem placesN_mem {l : List Symbol} {o i : Equation} {same : Bool} : ∀ {n k : Nat} {qs : List Nat}, placesN l o i same n k = .inl qs → qs.length ≤ n ∧ ∀ q ∈ qs, k ≤ q ∧ q < k + n
  | 0, k, qs, h => by cases h; exact ⟨Nat.le_refl _, by simp⟩
  | n + 1, k, qs, h => by
    have next : ∀ {qs}, placesN l o i same n (k + 1) = .inl qs → qs.length ≤ n ∧ ∀ q ∈ qs, k ≤ q ∧ q < k + (n + 1) := fun h => by
      obtain ⟨h1, h2⟩ := placesN_mem h
      exact ⟨h1, fun q hq => by have := h2 q hq; omega⟩
    rw [placesN] at h
    split at h
    · obtain ⟨h1, h2⟩ := next h; exact ⟨by omega, h2⟩
    split at h
    · obtain ⟨h1, h2⟩ := next h; exact ⟨by omega, h2⟩
    split at h
    · split at h
      · rename_i ps hp
        obtain ⟨h1, h2⟩ := next hp
        cases h
        refine ⟨by simp; omega, fun q hq => ?_⟩
        rcases List.mem_cons.1 hq with rfl | hq
        · omega
        · exact h2 q hq
      · cases h
    · cases h
theorem placesN_code {l : List Symbol} {o i : Equation} {same : Bool} : ∀ {n k : Nat} {c : Int}, placesN l o i same n k = .inr c → c ≠ 0
  | 0, k, c, h => by cases h
  | n + 1, k, c, h => by
    rw [placesN] at h
    split at h
    · exact placesN_code h
    split at h
    · exact placesN_code h
    split at h
    · split at h
      · cases h
      · rename_i c' hp; cases h; exact placesN_code hp
    · rename_i h0; cases h; exact h0
def psT (out : List Equation) : List Equation ⊕ Int → R
  | .inl ps => some (.tup [slc (out ++ ps), .int .i64 0], [])
  | .inr c => some (.tup [.sl 2 [], .int .i64 c], [])
section
variable {l : List Symbol} (ok : SigOk ⟨l⟩)
include ok
theorem impl_peaksOf {o i : Equation} (ho : EqOk l o) (hi : EqOk l i) (same : Bool) : LIM F.impl_peaksOf [.agg [slc l], .agg [slc o.left, slc o.right], .agg [slc i.left, slc i.right], .bool same] = psT [] (peaksR l o i same) := by
  have hol := ho.left.le
  have hcall : ∀ r, callK prog Ev.A H LIM (o.left.length + 1) F.impl_peaksOf [.agg [slc l], .agg [slc o.left, slc o.right], .agg [slc i.left, slc i.right], .bool same] = psT [] r → LIM F.impl_peaksOf [.agg [slc l], .agg [slc o.left, slc o.right], .agg [slc i.left, slc i.right], .bool same] = psT [] r := fun r h => by
    cases r with
    | inl x => exact call_of rfl _ h
    | inr x => exact call_of rfl _ h
  refine hcall _ ((impl_peaksOf.ev _ _ _ _ _ _ _).trans ?_)
  have loop : ∀ n k f (out : List Equation), k + n = o.left.length → n < f → out.length ≤ k →
      impl_peaksOf.at0 (o.left.length + 1) f (impl_peaksOf.st0 same (cells o.left) o.left.length (k : Nat) (cells l) (cells o.left) (cells o.right) (cells i.left) (cells i.right) (cells out)) =
        psT out (match placesN l o i same n k with
          | .inl qs => .inl (qs.map fun q => (peakR l o i q).equation)
          | .inr c => .inr c) := by
    intro n
    induction n with
    | zero =>
      intro k f out hk hf hl
      obtain ⟨f, rfl⟩ : ∃ x, f = x + 1 := ⟨f - 1, by omega⟩
      obtain rfl : k = o.left.length := by omega
      simp only [impl_peaksOf.next0, impl_peaksOf.round0, evs, szs, if_true, if_false, decide_true, decide_false, cond_true, cond_false, Nat.reduceLT, Nat.lt_irrefl, placesN, List.map_nil, psT, List.append_nil]
    | succ n ih =>
      intro k f out hk hf hl
      obtain ⟨f, rfl⟩ : ∃ x, f = x + 1 := ⟨f - 1, by omega⟩
      have h : k < o.left.length := by omega
      have hlk : o.left[k]? = some o.left[k] := List.getElem?_eq_getElem h
      have hd : o.left.getD k 0 = o.left[k] := getD_at h
      have hpk := (impl_peakOf ok ho hi h).eq
      rw [enc_EquationResult] at hpk
      have i1 := ih (k + 1) f out (by omega) (by omega) (by omega)
      have i2 := ih (k + 1) f (out ++ [(peakR l o i k).equation]) (by omega) (by omega) (by simp; omega)
      rw [placesN, hd]
      by_cases h1 : o.left[k] < 0
      · rw [if_pos (.inl h1)]
        simp only [impl_peaksOf.next0, impl_peaksOf.round0, evs, szs, if_true, if_false, decide_true, decide_false, cond_true, cond_false, Nat.reduceLT, h, hlk, enc_int, h1]
        rw [wrap_succ (by omega)]
        exact i1
      by_cases h2 : same = true ∧ k = 0
      · rw [if_pos (.inr h2)]
        have e0 : ∀ {α : Type} (a b : α), (bif ((k : Int) == 0) then (bif same then a else b) else b) = a := fun a b => by
          rw [h2.1, h2.2]; rfl
        rw [impl_peaksOf.next0, impl_peaksOf.round0, e0]
        simp only [evs, szs, if_true, if_false, decide_true, decide_false, cond_true, cond_false, Nat.reduceLT, h, hlk, enc_int, h1]
        rw [wrap_succ (by omega)]
        exact i1
      rw [if_neg (by rintro (q | q); exact h1 q; exact h2 q)]
      have e0 : ∀ {α : Type} (a b : α), (bif ((k : Int) == 0) then (bif same then a else b) else b) = b := fun a b => by
        by_cases hk0 : k = 0
        · subst hk0
          have hs : same = false := by cases same with
            | false => rfl
            | true => exact absurd ⟨rfl, rfl⟩ h2
          rw [hs]; rfl
        · rw [show ((k : Int) == 0) = false by simp; omega]; rfl
      rw [impl_peaksOf.next0, impl_peaksOf.round0, e0]
      simp only [evs, szs, if_true, if_false, decide_true, decide_false, cond_true, cond_false, Nat.reduceLT, h, hlk, enc_int, h1, hpk]
      rw [wrap_succ (by omega)]
      by_cases c4 : (peakR l o i k).code = 4
      · simp only [c4, evs, szs, if_true, if_false, decide_true, decide_false, cond_true, cond_false, Nat.reduceLT, show ¬ (4 : Int) = 0 by omega]
        exact i1
      by_cases c0 : (peakR l o i k).code = 0
      · simp only [c4, c0, evs, szs, if_true, if_false, decide_true, decide_false, cond_true, cond_false, Nat.reduceLT]
        rw [cond_pos (ble_ok (by rw [cells_length, sz_Equation]; omega))]
        rw [cells_append] at i2
        refine Eq.trans ?_ (i2.trans ?_)
        · rfl
        · cases placesN l o i same n (k + 1) with
          | inl qs => simp [psT]
          | inr c => simp [psT]
      · simp only [c4, c0, evs, szs, if_true, if_false, decide_true, decide_false, cond_true, cond_false, Nat.reduceLT, psT]
  have := loop o.left.length 0 (o.left.length + 1) [] (by omega) (by omega) (by simp)
  refine Eq.trans ?_ this
  simp only [evs, szs, if_true, if_false, decide_true, decide_false, cond_true, cond_false, Nat.reduceLT]
  rfl
theorem spec_l9Places {o i : Equation} (ho : EqOk l o) (hi : EqOk l i) (same : Bool) : Call F.spec_l9Places [.rref [slc l] 0, .rref [slc o.left, slc o.right] 0, .rref [slc i.left, slc i.right] 0, .bool same]
    (match placesN l o i same o.left.length 0 with
      | .inl qs => .tup [slc (ints qs), .int .i64 0]
      | .inr c => .tup [.sl 1 [], .int .i64 c]) := by
  have hol := ho.left.le
  refine call_of rfl (o.left.length + 1) ((spec_l9Places.ev _ _ _ _ _ _ _).trans ?_)
  have loop : ∀ n k f (out : List Nat), k + n = o.left.length → n < f → out.length ≤ k →
      spec_l9Places.at0 (o.left.length + 1) f (spec_l9Places.st0 (cells l) (cells o.left) (cells o.right) (cells i.left) (cells i.right) same (k : Nat) (cells (ints out))) =
        some (match placesN l o i same n k with
          | .inl qs => .tup [slc (ints (out ++ qs)), .int .i64 0]
          | .inr c => .tup [.sl 1 [], .int .i64 c], []) := by
    intro n
    induction n with
    | zero =>
      intro k f out hk hf hl
      obtain ⟨f, rfl⟩ : ∃ x, f = x + 1 := ⟨f - 1, by omega⟩
      obtain rfl : k = o.left.length := by omega
      simp only [spec_l9Places.next0, spec_l9Places.round0, evs, szs, if_true, if_false, decide_true, decide_false, cond_true, cond_false, Nat.reduceLT, Nat.lt_irrefl, placesN, List.append_nil]
    | succ n ih =>
      intro k f out hk hf hl
      obtain ⟨f, rfl⟩ : ∃ x, f = x + 1 := ⟨f - 1, by omega⟩
      have h : k < o.left.length := by omega
      have hlk : o.left[k]? = some o.left[k] := List.getElem?_eq_getElem h
      have hd : o.left.getD k 0 = o.left[k] := getD_at h
      have hpk := (spec_l9Peak ok ho hi h).eq
      have i1 := ih (k + 1) f out (by omega) (by omega) (by omega)
      have i2 := ih (k + 1) f (out ++ [k]) (by omega) (by omega) (by simp; omega)
      rw [placesN, hd]
      by_cases h1 : o.left[k] < 0
      · rw [if_pos (.inl h1)]
        simp only [spec_l9Places.next0, spec_l9Places.round0, evs, szs, if_true, if_false, decide_true, decide_false, cond_true, cond_false, Nat.reduceLT, h, hlk, enc_int, h1]
        rw [wrap_succ (by omega)]
        exact i1
      by_cases h2 : same = true ∧ k = 0
      · rw [if_pos (.inr h2)]
        have e0 : ∀ {α : Type} (a b : α), (bif same then (bif ((k : Int) == 0) then a else b) else b) = a := fun a b => by
          rw [h2.1, h2.2]; rfl
        rw [spec_l9Places.next0, spec_l9Places.round0, e0]
        simp only [evs, szs, if_true, if_false, decide_true, decide_false, cond_true, cond_false, Nat.reduceLT, h, hlk, enc_int, h1]
        rw [wrap_succ (by omega)]
        exact i1
      rw [if_neg (by rintro (q | q); exact h1 q; exact h2 q)]
      have e0 : ∀ {α : Type} (a b : α), (bif same then (bif ((k : Int) == 0) then a else b) else b) = b := fun a b => by
        by_cases hk0 : k = 0
        · subst hk0
          have hs : same = false := by cases same with
            | false => rfl
            | true => exact absurd ⟨rfl, rfl⟩ h2
          rw [hs]; rfl
        · rw [show ((k : Int) == 0) = false by simp; omega]; cases same <;> rfl
      rw [spec_l9Places.next0, spec_l9Places.round0, e0]
      simp only [evs, szs, if_true, if_false, decide_true, decide_false, cond_true, cond_false, Nat.reduceLT, h, hlk, enc_int, h1, hpk]
      rw [wrap_succ (by omega)]
      by_cases c4 : (peakR l o i k).code = 4
      · simp only [c4, evs, szs, if_true, if_false, decide_true, decide_false, cond_true, cond_false, Nat.reduceLT, show ¬ (4 : Int) = 0 by omega]
        exact i1
      by_cases c0 : (peakR l o i k).code = 0
      · have e1 : cells (ints out) ++ [.int .i64 (k : Int)] = cells (ints (out ++ [k])) := by rw [cells_snoc_int]; simp [ints]
        simp only [c4, c0, evs, szs, if_true, if_false, decide_true, decide_false, cond_true, cond_false, Nat.reduceLT, show ¬ (0 : Int) = 4 by omega, e1]
        rw [cond_pos (ble_ok (by rw [cells_length, sz_int, ints_length]; omega))]
        refine i2.trans ?_
        cases placesN l o i same n (k + 1) with
          | inl qs => simp
          | inr c => simp
      · simp only [c4, c0, evs, szs, if_true, if_false, decide_true, decide_false, cond_true, cond_false, Nat.reduceLT]
  have := loop o.left.length 0 (o.left.length + 1) [] (by omega) (by omega) (by simp)
  exact this
theorem spec_l9Peaks {o i : Equation} (ho : EqOk l o) (hi : EqOk l i) (same : Bool) : LIM F.spec_l9Peaks [.rref [slc l] 0, .rref [slc o.left, slc o.right] 0, .rref [slc i.left, slc i.right] 0, .bool same] = psT [] (peaksR l o i same) := by
  have hol := ho.left.le
  have hcall : ∀ r, callK prog Ev.A H LIM (o.left.length + 1) F.spec_l9Peaks [.rref [slc l] 0, .rref [slc o.left, slc o.right] 0, .rref [slc i.left, slc i.right] 0, .bool same] = psT [] r → LIM F.spec_l9Peaks [.rref [slc l] 0, .rref [slc o.left, slc o.right] 0, .rref [slc i.left, slc i.right] 0, .bool same] = psT [] r := fun r h => by
    cases r with
    | inl x => exact call_of rfl _ h
    | inr x => exact call_of rfl _ h
  refine hcall _ ((spec_l9Peaks.ev _ _ _ _ _ _ _).trans ?_)
  have hp := (spec_l9Places ok ho hi same).eq
  unfold peaksR
  cases hpl : placesN l o i same o.left.length 0 with
  | inr c =>
    rw [hpl] at hp
    simp only [evs, szs, if_true, if_false, decide_true, decide_false, cond_true, cond_false, Nat.reduceLT, hp]
    simp only [spec_l9Peaks.next0, spec_l9Peaks.round0, evs, szs, if_true, if_false, decide_true, decide_false, cond_true, cond_false, Nat.reduceLT, List.length_nil, psT, oSl]
    rfl
  | inl qs =>
    rw [hpl] at hp
    obtain ⟨hq1, hq2⟩ := placesN_mem hpl
    simp only [evs, szs, if_true, if_false, decide_true, decide_false, cond_true, cond_false, Nat.reduceLT, hp]
    have key := run_loop (n := qs.length) (f := o.left.length + 1) (S := fun m k (w : List Equation) => spec_l9Peaks.at0 (o.left.length + 1) m (spec_l9Peaks.st0 (cells l) (cells o.left) (cells o.right) (cells i.left) (cells i.right) 0 (k : Nat) (cells (ints qs)) (cells w)))
      (st := fun k => (qs.take k).map fun q => (peakR l o i q).equation) (z := psT [] (.inl (qs.map fun q => (peakR l o i q).equation))) (fun m k h => ?_) (fun m => ?_) (by omega)
    · exact key
    · have hqk := hq2 qs[k] (List.getElem_mem h)
      have hg := ints_get h
      have hpk := (spec_l9Peak ok ho hi (p := qs[k]) (by omega)).eq
      have e1 : (qs.take (k + 1)).map (fun q => (peakR l o i q).equation) = (qs.take k).map (fun q => (peakR l o i q).equation) ++ [(peakR l o i qs[k]).equation] := by
        rw [← List.take_append_getElem h, List.map_append]; rfl
      have e2 : ∀ (A : List Equation) (e : Equation), cells A ++ [slc e.left, slc e.right] = cells (A ++ [e]) := fun A e => by rw [cells_append]; rfl
      rw [e1]
      simp only [spec_l9Peaks.next0, spec_l9Peaks.round0, evs, szs, if_true, if_false, decide_true, decide_false, cond_true, cond_false, Nat.reduceLT, ints_length, h, hg, enc_int, hpk, e2]
      rw [wrap_succ (by omega), cond_pos (ble_ok (by rw [cells_length, sz_Equation]; simp; omega))]
    · rw [List.take_length]
      simp only [spec_l9Peaks.next0, spec_l9Peaks.round0, evs, szs, if_true, if_false, decide_true, decide_false, cond_true, cond_false, Nat.reduceLT, ints_length, Nat.lt_irrefl, psT, List.nil_append]
end
theorem peaksR_code {l : List Symbol} {o i : Equation} {same : Bool} {c : Int} (h : peaksR l o i same = .inr c) : c ≠ 0 := by
  unfold peaksR at h
  split at h
  · cases h
  · rename_i c' hp; cases h; exact placesN_code hp
theorem peaksR_len {l : List Symbol} {o i : Equation} {same : Bool} {ps : List Equation} (h : peaksR l o i same = .inl ps) : ps.length ≤ o.left.length ∧ ∀ e ∈ ps, sm 67108864 e := by
  unfold peaksR at h
  split at h
  · rename_i qs hp
    cases h
    refine ⟨by rw [List.length_map]; exact (placesN_mem hp).1, fun e he => ?_⟩
    obtain ⟨q, _, rfl⟩ := List.mem_map.1 he
    exact peakR_sm
  · cases h
noncomputable def peaksOfR (s : Signature) (o i : Equation) (same : Bool) : EquationsResult :=
  if rulesFault s [o, i] ≠ 0 then ⟨rulesFault s [o, i], []⟩ else match peaksR s.symbols o i same with
    | .inl ps => ⟨0, ps⟩
    | .inr c => ⟨c, []⟩
theorem impl_PeaksOf (s : Signature) (o i : Equation) (same : Bool) (hs : sm 1048576 s) (ho : sm 1048576 o) (hi : sm 1048576 i) : Call F.impl_PeaksOf [.agg (enc s), .agg (enc o), .agg (enc i), .bool same] (.agg (enc (peaksOfR s o i same))) := by
  obtain ⟨l⟩ := s
  have hsl : l.length ≤ 4294967296 := Nat.le_trans hs.1 (by omega)
  have hf : LIM F.impl_RulesFault [.agg [slc l], .sl 2 [slc o.left, slc o.right, slc i.left, slc i.right]] = some (.int .i64 (rulesFault ⟨l⟩ [o, i]), []) := (impl_RulesFault l hsl [o, i] (pair_sm ho hi)).eq
  show Call F.impl_PeaksOf [.agg [slc l], .agg [slc o.left, slc o.right], .agg [slc i.left, slc i.right], .bool same] _
  refine call_of rfl 0 ((impl_PeaksOf.ev _ _ _ _ _ _ _).trans ?_)
  simp only [evs, szs, if_true, if_false, decide_true, decide_false, cond_true, cond_false, Nat.reduceLT, hf, peaksOfR]
  by_cases h : rulesFault ⟨l⟩ [o, i] = 0
  case neg => simp only [h, evs, szs, if_true, if_false, decide_true, decide_false, cond_true, cond_false, Nat.reduceLT, ne_eq, not_false_eq_true, enc_EquationsResult, slc_nil, sz_Equation]
  obtain ⟨_, ok, _, q2⟩ := rulesFault_ok h
  have hpk := impl_peaksOf ok (q2 o (by simp)) (q2 i (by simp)) same
  cases hp : peaksR l o i same with
  | inl ps =>
    rw [hp] at hpk
    simp only [h, evs, szs, if_true, if_false, decide_true, decide_false, cond_true, cond_false, Nat.reduceLT, ne_eq, not_true_eq_false, hpk, psT, enc_EquationsResult, List.nil_append]
  | inr c =>
    rw [hp] at hpk
    simp only [h, evs, szs, if_true, if_false, decide_true, decide_false, cond_true, cond_false, Nat.reduceLT, ne_eq, not_true_eq_false, hpk, psT, enc_EquationsResult, slc_nil, sz_Equation]
    rfl
theorem spec_PeaksOf (s : Signature) (o i : Equation) (same : Bool) (hs : sm 1048576 s) (ho : sm 1048576 o) (hi : sm 1048576 i) : Call F.spec_PeaksOf [.agg (enc s), .agg (enc o), .agg (enc i), .bool same] (.agg (enc (peaksOfR s o i same))) := by
  obtain ⟨l⟩ := s
  have hsl : l.length ≤ 4294967296 := Nat.le_trans hs.1 (by omega)
  have hf : LIM F.spec_RulesFault [.agg [slc l], .sl 2 [slc o.left, slc o.right, slc i.left, slc i.right]] = some (.int .i64 (rulesFault ⟨l⟩ [o, i]), []) := (spec_RulesFault l hsl [o, i] (pair_sm ho hi)).eq
  have h2 : Call F.spec_l9Two [.rref [slc l] 0, .rref [slc o.left, slc o.right] 0, .rref [slc i.left, slc i.right] 0] (.int .i64 (rulesFault ⟨l⟩ [o, i])) := by
    refine call_of rfl 0 ((spec_l9Two.ev _ _ _ _ _ _).trans ?_)
    simp only [evs, szs, if_true, if_false, decide_true, decide_false, cond_true, cond_false, Nat.reduceLT, hf]
  show Call F.spec_PeaksOf [.agg [slc l], .agg [slc o.left, slc o.right], .agg [slc i.left, slc i.right], .bool same] _
  refine call_of rfl 0 ((spec_PeaksOf.ev _ _ _ _ _ _ _).trans ?_)
  simp only [evs, szs, if_true, if_false, decide_true, decide_false, cond_true, cond_false, Nat.reduceLT, h2.eq, peaksOfR]
  by_cases h : rulesFault ⟨l⟩ [o, i] = 0
  case neg => simp only [h, evs, szs, if_true, if_false, decide_true, decide_false, cond_true, cond_false, Nat.reduceLT, ne_eq, not_false_eq_true, enc_EquationsResult, slc_nil, sz_Equation]
  obtain ⟨_, ok, _, q2⟩ := rulesFault_ok h
  have hpk := spec_l9Peaks ok (q2 o (by simp)) (q2 i (by simp)) same
  cases hp : peaksR l o i same with
  | inl ps =>
    rw [hp] at hpk
    simp only [h, evs, szs, if_true, if_false, decide_true, decide_false, cond_true, cond_false, Nat.reduceLT, ne_eq, not_true_eq_false, hpk, psT, enc_EquationsResult, List.nil_append]
  | inr c =>
    rw [hp] at hpk
    have hc := peaksR_code hp
    simp only [h, evs, szs, if_true, if_false, decide_true, decide_false, cond_true, cond_false, Nat.reduceLT, ne_eq, not_true_eq_false, hpk, psT, enc_EquationsResult, slc_nil, sz_Equation, hc, oSl]
    rfl
end Ev.Ty
end

section
namespace Ev.Ty
open Go Ev
open Enc (enc)
open Sm (sm)
set_option linter.unusedSimpArgs false
set_option linter.unusedVariables false
noncomputable def rowN (l : List Symbol) (rs : List Equation) (i : Nat) : Nat → Nat → List Equation → List Equation ⊕ Int
  | 0, _, out => .inl out
  | n + 1, j, out => match peaksR l (rs.getD i ⟨[], []⟩) (rs.getD j ⟨[], []⟩) (decide (i = j)) with
    | .inr c => .inr c
    | .inl ps => if 200 < (out ++ ps).length then .inr 2 else rowN l rs i n (j + 1) (out ++ ps)
noncomputable def allN (l : List Symbol) (rs : List Equation) : Nat → Nat → List Equation → List Equation ⊕ Int
  | 0, _, out => .inl out
  | n + 1, i, out => match rowN l rs i rs.length 0 out with
    | .inr c => .inr c
    | .inl out' => allN l rs n (i + 1) out'
theorem rowN_le {l : List Symbol} {rs : List Equation} {i : Nat} : ∀ {n j : Nat} {out o' : List Equation}, out.length ≤ 200 → (∀ e ∈ out, sm 67108864 e) → rowN l rs i n j out = .inl o' → o'.length ≤ 200 ∧ ∀ e ∈ o', sm 67108864 e
  | 0, j, out, o', h, h2, e => by cases e; exact ⟨h, h2⟩
  | n + 1, j, out, o', h, h2, e => by
    rw [rowN] at e
    split at e
    · cases e
    · rename_i ps hp
      split at e
      · cases e
      · exact rowN_le (by omega) (fun e he => by
          rcases List.mem_append.1 he with he | he
          · exact h2 e he
          · exact (peaksR_len hp).2 e he) e
theorem allN_le {l : List Symbol} {rs : List Equation} : ∀ {n i : Nat} {out o' : List Equation}, out.length ≤ 200 → (∀ e ∈ out, sm 67108864 e) → allN l rs n i out = .inl o' → o'.length ≤ 200 ∧ ∀ e ∈ o', sm 67108864 e
  | 0, i, out, o', h, h2, e => by cases e; exact ⟨h, h2⟩
  | n + 1, i, out, o', h, h2, e => by
    rw [allN] at e
    split at e
    · cases e
    · rename_i o1 h1
      obtain ⟨q1, q2⟩ := rowN_le h h2 h1
      exact allN_le q1 q2 e
theorem cells_pick {rs : List Equation} {k : Nat} (h : k < rs.length) : (((cells rs).drop (k * 2)).take 2) = [slc rs[k].left, slc rs[k].right] := by
  rw [cells_drop rs 2 k rfl, List.drop_eq_getElem_cons h]; rfl
def apT : List Equation ⊕ Int → R
  | .inl ps => some (.tup [slc ps, .int .i64 0], [])
  | .inr c => some (.tup [.sl 2 [], .int .i64 c], [])
section
variable {l : List Symbol} (ok : SigOk ⟨l⟩) {rs : List Equation} (hr : ∀ e ∈ rs, EqOk l e) (hl : rs.length ≤ 12)
include ok hr hl
theorem impl_allPeaks_row {N : Nat} (hN : 20 ≤ N) (L0 : St → R) {i : Nat} (hi : i < rs.length) : ∀ n j f (out : List Equation), j + n = rs.length → n < f → out.length ≤ 200 →
    impl_allPeaks.at2 N L0 f (impl_allPeaks.st2 (cells rs) (cells rs) rs.length (i : Nat) (i : Nat) (cells rs) rs.length (j : Nat) (cells l) (cells out) (cells rs[i].left) (cells rs[i].right)) =
      match rowN l rs i n j out with
      | .inr c => apT (.inr c)
      | .inl o' => L0 (impl_allPeaks.st0 (cells rs) (cells rs) rs.length ((i + 1 : Nat) : Int) (cells l) (cells o')) := by
  intro n
  induction n with
  | zero =>
    intro j f out hj hf ho
    obtain ⟨f, rfl⟩ : ∃ x, f = x + 1 := ⟨f - 1, by omega⟩
    obtain rfl : j = rs.length := by omega
    simp only [impl_allPeaks.next2, impl_allPeaks.round2, evs, szs, if_true, if_false, decide_true, decide_false, cond_true, cond_false, Nat.reduceLT, Nat.lt_irrefl, rowN]
    rw [wrap_succ (by omega)]
  | succ n ih =>
    intro j f out hj hf ho
    obtain ⟨f, rfl⟩ : ∃ x, f = x + 1 := ⟨f - 1, by omega⟩
    have h : j < rs.length := by omega
    have hlk : rs[j]? = some rs[j] := List.getElem?_eq_getElem h
    have hpk := impl_peaksOf ok (hr _ (List.getElem_mem hi)) (hr _ (List.getElem_mem h)) (decide (i = j))
    have hlo := (hr _ (List.getElem_mem hi)).left.le
    have eb : decide ((i : Int) = (j : Int)) = decide (i = j) := decide_eq_decide.2 (by omega)
    have on : oSl 2 (T.sl 2 []) = some [] := rfl
    rw [rowN, getE hi, getE h]
    cases hp : peaksR l rs[i] rs[j] (decide (i = j)) with
    | inr c =>
      rw [hp] at hpk
      have hc := peaksR_code hp
      simp only [impl_allPeaks.next2, impl_allPeaks.round2, evs, szs, if_true, if_false, decide_true, decide_false, cond_true, cond_false, Nat.reduceLT, h, hlk, enc_Equation, eb, hpk, psT, hc, on, apT]
    | inl ps =>
      rw [hp] at hpk
      have hpl := (peaksR_len hp).1
      have i1 := ih (j + 1) f (out ++ ps) (by omega) (by omega)
      rw [cells_append] at i1
      simp only [impl_allPeaks.next2, impl_allPeaks.round2, evs, szs, if_true, if_false, decide_true, decide_false, cond_true, cond_false, Nat.reduceLT, h, hlk, enc_Equation, eb, hpk, psT, List.nil_append]
      rw [cond_pos (ble_ok (by rw [cells_length, cells_length, sz_Equation]; omega)), wrap_succ (by omega)]
      have hlen : (cells out ++ cells ps).length / 2 = (out ++ ps).length := by rw [← cells_append, cells_div]; rfl
      rw [hlen]
      by_cases h2 : 200 < (out ++ ps).length
      · have h2' : (((out ++ ps).length : Nat) : Int) > 200 := by omega
        simp only [h2, h2', evs, szs, if_true, if_false, decide_true, decide_false, cond_true, cond_false, Nat.reduceLT, apT]
      · have h2' : ¬ (((out ++ ps).length : Nat) : Int) > 200 := by omega
        simp only [h2, h2', evs, szs, if_true, if_false, decide_true, decide_false, cond_true, cond_false, Nat.reduceLT]
        exact i1 (by omega)
theorem impl_allPeaks : LIM F.impl_allPeaks [.agg [slc l], slc rs] = apT (allN l rs rs.length 0 []) := by
  have hcall : ∀ r, callK prog Ev.A H LIM 20 F.impl_allPeaks [.agg [slc l], slc rs] = apT r → LIM F.impl_allPeaks [.agg [slc l], slc rs] = apT r := fun r h => by
    cases r with
    | inl x => exact call_of rfl _ h
    | inr x => exact call_of rfl _ h
  refine hcall _ ((impl_allPeaks.ev _ _ _).trans ?_)
  have loop : ∀ n i f (out : List Equation), i + n = rs.length → n < f → out.length ≤ 200 → (∀ e ∈ out, sm 67108864 e) →
      impl_allPeaks.at0 20 f (impl_allPeaks.st0 (cells rs) (cells rs) rs.length (i : Nat) (cells l) (cells out)) = apT (allN l rs n i out) := by
    intro n
    induction n with
    | zero =>
      intro i f out hj hf ho hso
      obtain ⟨f, rfl⟩ : ∃ x, f = x + 1 := ⟨f - 1, by omega⟩
      obtain rfl : i = rs.length := by omega
      simp only [impl_allPeaks.next0, impl_allPeaks.round0, evs, szs, if_true, if_false, decide_true, decide_false, cond_true, cond_false, Nat.reduceLT, Nat.lt_irrefl, allN, apT]
    | succ n ih =>
      intro i f out hj hf ho hso
      obtain ⟨f, rfl⟩ : ∃ x, f = x + 1 := ⟨f - 1, by omega⟩
      have h : i < rs.length := by omega
      have hlk : rs[i]? = some rs[i] := List.getElem?_eq_getElem h
      have hrow := impl_allPeaks_row ok hr hl (N := 20) (by omega) (impl_allPeaks.at0 20 f) h rs.length 0 20 out (by omega) (by omega) ho
      simp only [impl_allPeaks.next0, impl_allPeaks.round0, evs, szs, if_true, if_false, decide_true, decide_false, cond_true, cond_false, Nat.reduceLT, h, hlk, enc_Equation]
      refine hrow.trans ?_
      rw [allN]
      cases hro : rowN l rs i rs.length 0 out with
      | inr c => rfl
      | inl o' =>
        obtain ⟨q1, q2⟩ := rowN_le ho hso hro
        exact ih (i + 1) f o' (by omega) (by omega) q1 q2
  have := loop rs.length 0 20 [] (by omega) (by omega) (by simp) (by simp)
  simp only [evs, szs, if_true, if_false, decide_true, decide_false, cond_true, cond_false, Nat.reduceLT]
  exact this
theorem spec_l9All_row {N : Nat} (hN : 20 ≤ N) (L0 : St → R) {i : Nat} (hi : i < rs.length) : ∀ n j f (out : List Equation), j + n = rs.length → n < f → out.length ≤ 200 →
    spec_l9All.at2 N L0 f (spec_l9All.st2 (cells l) (cells rs) (i : Nat) (j : Nat) (cells out)) =
      match rowN l rs i n j out with
      | .inr c => apT (.inr c)
      | .inl o' => L0 (spec_l9All.st0 (cells l) (cells rs) ((i + 1 : Nat) : Int) (cells o')) := by
  intro n
  induction n with
  | zero =>
    intro j f out hj hf ho
    obtain ⟨f, rfl⟩ : ∃ x, f = x + 1 := ⟨f - 1, by omega⟩
    obtain rfl : j = rs.length := by omega
    simp only [spec_l9All.next2, spec_l9All.round2, evs, szs, if_true, if_false, decide_true, decide_false, cond_true, cond_false, Nat.reduceLT, Nat.lt_irrefl, rowN]
    rw [wrap_succ (by omega)]
  | succ n ih =>
    intro j f out hj hf ho
    obtain ⟨f, rfl⟩ : ∃ x, f = x + 1 := ⟨f - 1, by omega⟩
    have h : j < rs.length := by omega
    have hpk := spec_l9Peaks ok (hr _ (List.getElem_mem hi)) (hr _ (List.getElem_mem h)) (decide (i = j))
    have hlo := (hr _ (List.getElem_mem hi)).left.le
    have eb : decide ((i : Int) = (j : Int)) = decide (i = j) := decide_eq_decide.2 (by omega)
    have on : oSl 2 (T.sl 2 []) = some [] := rfl
    rw [rowN, getE hi, getE h]
    cases hp : peaksR l rs[i] rs[j] (decide (i = j)) with
    | inr c =>
      rw [hp] at hpk
      have hc := peaksR_code hp
      simp only [spec_l9All.next2, spec_l9All.round2, evs, szs, if_true, if_false, decide_true, decide_false, cond_true, cond_false, Nat.reduceLT, h, hi, cells_pick h, cells_pick hi, eb, hpk, psT, hc, on, apT]
    | inl ps =>
      rw [hp] at hpk
      have hpl := (peaksR_len hp).1
      have i1 := ih (j + 1) f (out ++ ps) (by omega) (by omega)
      rw [cells_append] at i1
      simp only [spec_l9All.next2, spec_l9All.round2, evs, szs, if_true, if_false, decide_true, decide_false, cond_true, cond_false, Nat.reduceLT, h, hi, cells_pick h, cells_pick hi, eb, hpk, psT, List.nil_append]
      rw [cond_pos (ble_ok (by rw [cells_length, cells_length, sz_Equation]; omega)), wrap_succ (by omega)]
      have hlen : (cells out ++ cells ps).length / 2 = (out ++ ps).length := by rw [← cells_append, cells_div]; rfl
      rw [hlen]
      by_cases h2 : 200 < (out ++ ps).length
      · have h2' : (((out ++ ps).length : Nat) : Int) > 200 := by omega
        simp only [h2, h2', evs, szs, if_true, if_false, decide_true, decide_false, cond_true, cond_false, Nat.reduceLT, apT]
      · have h2' : ¬ (((out ++ ps).length : Nat) : Int) > 200 := by omega
        simp only [h2, h2', evs, szs, if_true, if_false, decide_true, decide_false, cond_true, cond_false, Nat.reduceLT]
        exact i1 (by omega)
theorem spec_l9All : LIM F.spec_l9All [.rref [slc l] 0, slc rs] = apT (allN l rs rs.length 0 []) := by
  have hcall : ∀ r, callK prog Ev.A H LIM 20 F.spec_l9All [.rref [slc l] 0, slc rs] = apT r → LIM F.spec_l9All [.rref [slc l] 0, slc rs] = apT r := fun r h => by
    cases r with
    | inl x => exact call_of rfl _ h
    | inr x => exact call_of rfl _ h
  refine hcall _ ((spec_l9All.ev _ _ _).trans ?_)
  have loop : ∀ n i f (out : List Equation), i + n = rs.length → n < f → out.length ≤ 200 → (∀ e ∈ out, sm 67108864 e) →
      spec_l9All.at0 20 f (spec_l9All.st0 (cells l) (cells rs) (i : Nat) (cells out)) = apT (allN l rs n i out) := by
    intro n
    induction n with
    | zero =>
      intro i f out hj hf ho hso
      obtain ⟨f, rfl⟩ : ∃ x, f = x + 1 := ⟨f - 1, by omega⟩
      obtain rfl : i = rs.length := by omega
      simp only [spec_l9All.next0, spec_l9All.round0, evs, szs, if_true, if_false, decide_true, decide_false, cond_true, cond_false, Nat.reduceLT, Nat.lt_irrefl, allN, apT]
    | succ n ih =>
      intro i f out hj hf ho hso
      obtain ⟨f, rfl⟩ : ∃ x, f = x + 1 := ⟨f - 1, by omega⟩
      have h : i < rs.length := by omega
      have hrow := spec_l9All_row ok hr hl (N := 20) (by omega) (spec_l9All.at0 20 f) h rs.length 0 20 out (by omega) (by omega) ho
      simp only [spec_l9All.next0, spec_l9All.round0, evs, szs, if_true, if_false, decide_true, decide_false, cond_true, cond_false, Nat.reduceLT, h]
      refine hrow.trans ?_
      rw [allN]
      cases hro : rowN l rs i rs.length 0 out with
      | inr c => rfl
      | inl o' =>
        obtain ⟨q1, q2⟩ := rowN_le ho hso hro
        exact ih (i + 1) f o' (by omega) (by omega) q1 q2
  exact loop rs.length 0 20 [] (by omega) (by omega) (by simp) (by simp)
end
noncomputable def allPeaksR (s : Signature) (rs : List Equation) : EquationsResult :=
  if rulesFault s rs ≠ 0 then ⟨rulesFault s rs, []⟩ else match allN s.symbols rs rs.length 0 [] with
    | .inl ps => ⟨0, ps⟩
    | .inr c => ⟨c, []⟩
theorem allPeaksR_sm (s : Signature) (rs : List Equation) (_ : sm 1048576 s) (_ : sm 1048576 rs) : sm 67108864 (allPeaksR s rs) := by
  unfold allPeaksR
  split
  · exact ⟨by simp, by simp⟩
  split
  · rename_i ps hp
    have h1 := allN_le (by simp) (by simp) hp
    exact ⟨by show ps.length ≤ _; omega, h1.2⟩
  · exact ⟨by simp, by simp⟩
theorem impl_AllPeaks (s : Signature) (rs : List Equation) (hs : sm 1048576 s) (hr : sm 1048576 rs) : Call F.impl_AllPeaks [.agg (enc s), slc rs] (.agg (enc (allPeaksR s rs))) := by
  obtain ⟨l⟩ := s
  have hsl : l.length ≤ 4294967296 := Nat.le_trans hs.1 (by omega)
  have hf := (impl_RulesFault l hsl rs (sm_mono (by omega) hr)).eq
  show Call F.impl_AllPeaks [.agg [slc l], slc rs] _
  refine call_of rfl 0 ((impl_AllPeaks.ev _ _ _).trans ?_)
  simp only [evs, szs, if_true, if_false, decide_true, decide_false, cond_true, cond_false, Nat.reduceLT, hf, allPeaksR]
  by_cases h : rulesFault ⟨l⟩ rs = 0
  case neg => simp only [h, evs, szs, if_true, if_false, decide_true, decide_false, cond_true, cond_false, Nat.reduceLT, ne_eq, not_false_eq_true, enc_EquationsResult, slc_nil, sz_Equation]
  obtain ⟨_, ok, q1, q2⟩ := rulesFault_ok h
  have hpk := impl_allPeaks ok q2 q1
  cases hp : allN l rs rs.length 0 [] with
  | inl ps =>
    rw [hp] at hpk
    simp only [h, evs, szs, if_true, if_false, decide_true, decide_false, cond_true, cond_false, Nat.reduceLT, ne_eq, not_true_eq_false, hpk, apT, enc_EquationsResult, List.nil_append]
  | inr c =>
    rw [hp] at hpk
    simp only [h, evs, szs, if_true, if_false, decide_true, decide_false, cond_true, cond_false, Nat.reduceLT, ne_eq, not_true_eq_false, hpk, apT, enc_EquationsResult, slc_nil, sz_Equation]
    rfl
theorem spec_AllPeaks (s : Signature) (rs : List Equation) (hs : sm 1048576 s) (hr : sm 1048576 rs) : Call F.spec_AllPeaks [.agg (enc s), slc rs] (.agg (enc (allPeaksR s rs))) := by
  obtain ⟨l⟩ := s
  have hsl : l.length ≤ 4294967296 := Nat.le_trans hs.1 (by omega)
  have hf := (spec_RulesFault l hsl rs (sm_mono (by omega) hr)).eq
  show Call F.spec_AllPeaks [.agg [slc l], slc rs] _
  refine call_of rfl 0 ((spec_AllPeaks.ev _ _ _).trans ?_)
  simp only [evs, szs, if_true, if_false, decide_true, decide_false, cond_true, cond_false, Nat.reduceLT, hf, allPeaksR]
  by_cases h : rulesFault ⟨l⟩ rs = 0
  case neg => simp only [h, evs, szs, if_true, if_false, decide_true, decide_false, cond_true, cond_false, Nat.reduceLT, ne_eq, not_false_eq_true, enc_EquationsResult, slc_nil, sz_Equation]
  obtain ⟨_, ok, q1, q2⟩ := rulesFault_ok h
  have hpk := spec_l9All ok q2 q1
  cases hp : allN l rs rs.length 0 [] with
  | inl ps =>
    rw [hp] at hpk
    simp only [h, evs, szs, if_true, if_false, decide_true, decide_false, cond_true, cond_false, Nat.reduceLT, ne_eq, not_true_eq_false, hpk, apT, enc_EquationsResult, List.nil_append]
  | inr c =>
    rw [hp] at hpk
    simp only [h, evs, szs, if_true, if_false, decide_true, decide_false, cond_true, cond_false, Nat.reduceLT, ne_eq, not_true_eq_false, hpk, apT, enc_EquationsResult, slc_nil, sz_Equation]
    rfl
end Ev.Ty
end

section
namespace Ev.Ty
open Go Ev
open Enc (enc)
open Sm (sm)
set_option linter.unusedSimpArgs false
set_option linter.unusedVariables false
set_option maxRecDepth 100000
set_option maxHeartbeats 2000000
theorem laws_FnExactAllPeaks (s : Signature) (rs : List Equation) (h_s : sm maxLen s) (h_rs : sm maxLen rs) : Call F.laws_FnExactAllPeaks [.agg (enc s), slc rs] (.bool true) := by
  obtain ⟨r0, c0, g0, p0⟩ := laws_szSignature s.symbols 1048576 (by omega) (by omega) h_s
  by_cases n0 : r0 < 0
  · exact call_of rfl 0 ((laws_FnExactAllPeaks.ev _ _ _ ).trans (by simp only [Int.ofNat_lt, str_inj, beq_dec, bne_dec, cond_dec, cond_nt, if_true, if_false, decide_true, decide_false, cond_true, cond_false, u8_inj, cells_div, sz_int, sz_u8, sz_list, sz_Symbol, sz_Signature, sz_Equation, sz_Binding, sz_Algebra, sz_Entry, sz_Completion, sz_Theory, sz_Put, sz_Disk, sz_Act, sz_IntResult, sz_IntsResult, sz_BytesResult, sz_TextResult, sz_SignatureResult, sz_TermResult, sz_TermsResult, sz_EquationResult, sz_EquationsResult, sz_KeyResult, sz_BindingResult, sz_RedexResult, sz_NormalResult, sz_AlgebraResult, sz_EntryResult, sz_CompletionResult, sz_TheoryResult, sz_DiskResult, inB_nat, Int.toNat_natCast, get0, get1, get2, get3, get4, get5, get6, get7, get8, Nat.reduceLT, bind_of, List.getElem?_cons_zero, List.getElem?_cons_succ, oInt_int, oBool_bool, oStr_str, oSl_slc, oAgg_agg, oTup_tup, oCons_cons, oNil_nil, sl_cells, c0.eq, n0]))
  obtain ⟨r1, c1, g1, p1⟩ := laws_szEquationS rs r0 (by omega) (by omega) h_rs
  by_cases n1 : r1 < 0
  · exact call_of rfl 0 ((laws_FnExactAllPeaks.ev _ _ _ ).trans (by simp only [Int.ofNat_lt, str_inj, beq_dec, bne_dec, cond_dec, cond_nt, if_true, if_false, decide_true, decide_false, cond_true, cond_false, u8_inj, cells_div, sz_int, sz_u8, sz_list, sz_Symbol, sz_Signature, sz_Equation, sz_Binding, sz_Algebra, sz_Entry, sz_Completion, sz_Theory, sz_Put, sz_Disk, sz_Act, sz_IntResult, sz_IntsResult, sz_BytesResult, sz_TextResult, sz_SignatureResult, sz_TermResult, sz_TermsResult, sz_EquationResult, sz_EquationsResult, sz_KeyResult, sz_BindingResult, sz_RedexResult, sz_NormalResult, sz_AlgebraResult, sz_EntryResult, sz_CompletionResult, sz_TheoryResult, sz_DiskResult, inB_nat, Int.toNat_natCast, get0, get1, get2, get3, get4, get5, get6, get7, get8, Nat.reduceLT, bind_of, List.getElem?_cons_zero, List.getElem?_cons_succ, oInt_int, oBool_bool, oStr_str, oSl_slc, oAgg_agg, oTup_tup, oCons_cons, oNil_nil, sl_cells, c0.eq, n0, c1.eq, n1]))
  have q_s := p0 (by omega)
  have s_s := sm_mono (show 1048576 ≤ 4294967296 by omega) q_s
  have m_s := sm_mono (show 1048576 ≤ 67108864 by omega) q_s
  have q_rs := p1 (by omega)
  have s_rs := sm_mono (show 1048576 ≤ 4294967296 by omega) q_rs
  have m_rs := sm_mono (show 1048576 ≤ 67108864 by omega) q_rs
  have hi : Call F.impl_AllPeaks [.agg [slc s.symbols], slc rs] (.agg (enc (allPeaksR s rs))) := impl_AllPeaks s rs q_s q_rs
  have hp : Call F.spec_AllPeaks [.agg [slc s.symbols], slc rs] (.agg (enc (allPeaksR s rs))) := spec_AllPeaks s rs q_s q_rs
  have hv := allPeaksR_sm s rs q_s q_rs
  generalize allPeaksR s rs = r at hi hp hv
  obtain ⟨w_code, w_list⟩ := r
  have hv2 := sm_mono (show 67108864 ≤ 4294967296 by omega) hv
  obtain ⟨x0_0, k0, f0, a0, b0⟩ := laws_markSignature s.symbols 1 (by omega) (by omega) m_s
  have l0 : ¬ k0 < 0 := by omega
  obtain ⟨x1_0, k1, f1, a1, b1, z1⟩ := laws_markEquationS rs k0 (by omega) (by omega) m_rs
  have l1 : ¬ k1 < 0 := by omega
  obtain ⟨y0, kr, fr, ar, br, zr⟩ := laws_markEquationsResult w_code w_list 1 (by omega) (by omega) hv
  have lr : ¬ kr < 0 := by omega
  exact call_of rfl 0 ((laws_FnExactAllPeaks.ev _ _ _ ).trans (by simp only [Int.ofNat_lt, str_inj, beq_dec, bne_dec, cond_dec, cond_nt, if_true, if_false, decide_true, decide_false, cond_true, cond_false, u8_inj, cells_div, sz_int, sz_u8, sz_list, sz_Symbol, sz_Signature, sz_Equation, sz_Binding, sz_Algebra, sz_Entry, sz_Completion, sz_Theory, sz_Put, sz_Disk, sz_Act, sz_IntResult, sz_IntsResult, sz_BytesResult, sz_TextResult, sz_SignatureResult, sz_TermResult, sz_TermsResult, sz_EquationResult, sz_EquationsResult, sz_KeyResult, sz_BindingResult, sz_RedexResult, sz_NormalResult, sz_AlgebraResult, sz_EntryResult, sz_CompletionResult, sz_TheoryResult, sz_DiskResult, inB_nat, Int.toNat_natCast, get0, get1, get2, get3, get4, get5, get6, get7, get8, Nat.reduceLT, bind_of, List.getElem?_cons_zero, List.getElem?_cons_succ, oInt_int, oBool_bool, oStr_str, oSl_slc, oAgg_agg, oTup_tup, oCons_cons, oNil_nil, sl_cells, c0.eq, n0, c1.eq, n1, hi.eq, hp.eq, (laws_toSignature s.symbols s_s).eq, (laws_eqSignature s.symbols _  s_s).eq, (laws_toEquationS rs s_rs).eq, (laws_eqEquationS rs _  s_rs).eq, (laws_eqEquationsResult w_code w_list _ _  hv2).eq, f0, l0, f1, l1, fr, zr, lr, enc_EquationsResult, decide_true, Bool.not_true, cond_false]))
end Ev.Ty
end
