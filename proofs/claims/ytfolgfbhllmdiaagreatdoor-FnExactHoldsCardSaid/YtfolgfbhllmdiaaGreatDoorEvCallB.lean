/- Ev: calls. -/
import Derived.Test.YtfolgfbhllmdiaaGreatDoorEvCall
namespace Ev
open Go

def findE (N : List Ent) (k : Key) : Option Ent := N.find? fun e => Nat.beq e.key k
theorem findE_none {N : List Ent} {k : Key} (h : ∀ e, e ∈ N → e.key ≠ k) : findE N k = none := by
  unfold findE
  rw [List.find?_eq_none]
  intro e he
  rw [nbeq (h e he)]
  simp
theorem findE_some {N : List Ent} (hp : N.Pairwise fun a b => a.key ≠ b.key ∧ ∀ x, x ∈ a.F → x ∉ b.F) {e : Ent} (he : e ∈ N) : findE N e.key = some e := by
  unfold findE
  induction N with
  | nil => simp at he
  | cons x N ih =>
    rw [List.pairwise_cons] at hp
    rcases List.mem_cons.1 he with rfl | he
    · simp
    · have : Nat.beq x.key e.key = false := nbeq (hp.1 e he).1
      rw [List.find?_cons, this]
      exact ih hp.2 he
theorem ents_dis {N : List Ent} (hp : N.Pairwise fun a b => a.key ≠ b.key ∧ ∀ x, x ∈ a.F → x ∉ b.F) {e e' : Ent} (he : e ∈ N) (he' : e' ∈ N) (hne : e.key ≠ e'.key) : ∀ x, x ∈ e.F → x ∉ e'.F := by
  induction N with
  | nil => simp at he
  | cons y N ih =>
    rw [List.pairwise_cons] at hp
    rcases List.mem_cons.1 he with h1 | h1
    · rcases List.mem_cons.1 he' with h2 | h2
      · exact absurd (by rw [h1, h2]) hne
      · subst h1; exact (hp.1 e' h2).2
    · rcases List.mem_cons.1 he' with h2 | h2
      · subst h2; exact fun x hx hx' => (hp.1 e h1).2 x hx' hx
      · exact ih hp.2 h1 h2

section
variable {P : Program} {A : Attrs} {E : Env} {c : Ctx} {s s1 s2 s3 : St} {a : Act} {w w1 : World} {val : Key → Value} {fp : Key → List Nat} {Ft Fr Fo : List Nat}
variable {l : Log} {K : St → Log → R} {r : T × List T}

theorem after_call (h : Inv c s a w val fp) {kt : Option Key} {ot : Ob} {N : List Ent} (hs2t : ∀ i, s2.getT i = s.getT i) (hs2 : ∀ k, kt ≠ some k → s2.getO k = s.getO k)
    (hkt : ∀ k, kt = some k → s2.getO k = ot ∧ ot ≠ .free ∧ Turns (s.getO k) ot (val k) (val k) ∧ fp k = Ft ∧ ∀ fr s', fr.w = w1 → ObR fr s' ot (val k) Fo) (hkn : kt = none → Ft = [] ∧ Fo = [])
    (hkp : Kp (· ∈ Ft) w w1) (hfr : ∀ b, b ∈ Fr ∨ b ∈ Fo → b ∈ Ft ∨ w.heap.size ≤ b) (hap : ∀ b, b ∈ Fr → b ∉ Fo) (ht : Taken w1 s2 s3 N Fr) :
    ∃ val' fp', Inv c s3 a w1 val' fp' ∧ Kp c.own w w1 ∧ (∀ x, aftI (inI c w fp) w w1 Ft Fr Fo x → inI c w1 fp' x) ∧ (∀ x, aftI (inJ c w fp) w w1 Ft Fr Fo x → inJ c w1 fp' x) ∧
      ∀ e, e ∈ N → s3.getO e.key = .arr true true e.sz e.cells ∧ val' e.key = e.v := by
  have hne : ∀ e, e ∈ N → kt ≠ some e.key := fun e he hk => by
    obtain ⟨h1, h2, _⟩ := hkt _ hk
    have := (ht.ent e he).1
    rw [h1] at this
    exact h2 this
  let val' : Key → Value := fun k => match findE N k with | some e => e.v | none => val k
  let fp' : Key → List Nat := fun k => match findE N k with | some e => e.F | none => if kt = some k then Fo else fp k
  have v1 : ∀ e, e ∈ N → val' e.key = e.v := fun e he => by simp only [val', findE_some ht.dis he]
  have v2 : ∀ k, (∀ e, e ∈ N → e.key ≠ k) → val' k = val k := fun k hk => by simp only [val', findE_none hk]
  have f1 : ∀ e, e ∈ N → fp' e.key = e.F := fun e he => by simp only [fp', findE_some ht.dis he]
  have f2 : ∀ k, (∀ e, e ∈ N → e.key ≠ k) → fp' k = if kt = some k then Fo else fp k := fun k hk => by simp only [fp', findE_none hk]
  have fk : ∀ k, kt = some k → fp' k = Fo := fun k hk => by rw [f2 k (fun e he hek => hne e he (hek ▸ hk)), if_pos hk]
  have hFt : ∀ x, x ∈ Ft → ∃ k, kt = some k ∧ x ∈ fp k := fun x hx => by
    cases hk : kt with
    | none => rw [(hkn hk).1] at hx; simp at hx
    | some k => exact ⟨k, rfl, by rw [(hkt k hk).2.2.2.1]; exact hx⟩
  have cases_fp : ∀ k x, x ∈ fp' k → (∃ e, e ∈ N ∧ e.key = k ∧ x ∈ e.F) ∨ (kt = some k ∧ x ∈ Fo) ∨ (kt ≠ some k ∧ x ∈ fp k) := fun k x hx => by
    by_cases hk : ∃ e, e ∈ N ∧ e.key = k
    · obtain ⟨e, he, rfl⟩ := hk
      rw [f1 e he] at hx
      exact .inl ⟨e, he, rfl, hx⟩
    · have hk' : ∀ e, e ∈ N → e.key ≠ k := fun e he hek => hk ⟨e, he, hek⟩
      rw [f2 k hk'] at hx
      split at hx
      · exact .inr (.inl ⟨by assumption, hx⟩)
      · exact .inr (.inr ⟨by assumption, hx⟩)
  have same2 : ∀ k, kt = some k → s3.getO k = ot := fun k hk => by
    rw [ht.same k (fun e he hek => hne e he (hek ▸ hk))]; exact (hkt k hk).1
  obtain ⟨r1, r2, r3⟩ := h.changes (s' := s3) (w' := w1) (val' := val') (fp' := fp') (fun k => kt = some k ∨ ∃ e, e ∈ N ∧ e.key = k) (fun i => (ht.tm i).trans (hs2t i)) (fun k hk => by
      rw [not_or] at hk
      have hk' : ∀ e, e ∈ N → e.key ≠ k := fun e he hek => hk.2 ⟨e, he, hek⟩
      exact ⟨(ht.same k hk').trans (hs2 k hk.1), v2 k hk', by rw [f2 k hk', if_neg hk.1]⟩)
    (fun k hk => by
      rcases hk with hk | ⟨e, he, rfl⟩
      · rw [same2 k hk, v2 k (fun e he hek => hne e he (hek ▸ hk))]; exact (hkt k hk).2.2.1
      · have h0 : s.getO e.key = .free := by rw [← hs2 e.key (hne e he)]; exact (ht.ent e he).1
        rw [h0]; trivial)
    (fun k b hk hb => by
      have key : ∀ b, b ∈ Fr ∨ b ∈ Fo → (∃ k1, (kt = some k1 ∨ ∃ e, e ∈ N ∧ e.key = k1) ∧ b ∈ fp k1) ∨ w.heap.size ≤ b := fun b hb => by
        rcases hfr b hb with h1 | h1
        · obtain ⟨k1, hk1, hb1⟩ := hFt b h1; exact .inl ⟨k1, .inl hk1, hb1⟩
        · exact .inr h1
      rcases hk with hk | ⟨e, he, rfl⟩
      · rw [fk k hk] at hb; exact key b (.inr hb)
      · rw [f1 e he] at hb; exact key b (.inl ((ht.ent e he).2.2.2 b hb)))
    (fun k k' hk hk' hkk b hb hb' => by
      rcases hk with hk | ⟨e, he, rfl⟩
      · rcases hk' with hk' | ⟨e', he', rfl⟩
        · rw [hk] at hk'; cases hk'; exact hkk rfl
        · rw [fk k hk] at hb
          rw [f1 e' he'] at hb'
          exact hap b ((ht.ent e' he').2.2.2 b hb') hb
      · rcases hk' with hk' | ⟨e', he', rfl⟩
        · rw [fk k' hk'] at hb'
          rw [f1 e he] at hb
          exact hap b ((ht.ent e he).2.2.2 b hb) hb'
        · rw [f1 e he] at hb
          rw [f1 e' he'] at hb'
          exact ents_dis ht.dis he he' hkk b hb hb')
    (fun b hb hn => hkp.block b hb fun hbt => by obtain ⟨k1, hk1, hb1⟩ := hFt b hbt; exact hn k1 (.inl hk1) hb1) hkp.size hkp.os hkp.tape hkp.output
    (fun _ k hk => by
      rcases hk with hk | ⟨e, he, rfl⟩
      · rw [same2 k hk, fk k hk, v2 k (fun e he hek => hne e he (hek ▸ hk))]
        exact (hkt k hk).2.2.2.2 _ _ rfl
      · obtain ⟨e1, e2, e3, e4⟩ := ht.ent e he
        rw [e2, f1 e he, v1 e he]
        exact e3)
  have good : ∀ (Q : Nat → Prop) x, (∀ y, Q y → (∀ k, y ∉ fp k)) → aftI Q w w1 Ft Fr Fo x → ∀ k, x ∉ fp' k := fun Q x hQ hx k hk => by
    obtain ⟨h1, h2, h3, h4⟩ := hx
    rcases cases_fp k x hk with ⟨e, he, rfl, hxe⟩ | ⟨_, hxo⟩ | ⟨hkn', hxk⟩
    · exact h3 ((ht.ent e he).2.2.2 x hxe)
    · exact h4 hxo
    · rcases h1 with h1 | h1 | h1
      · exact hQ x h1 k hxk
      · obtain ⟨k1, hk1, hb1⟩ := hFt x h1
        exact h.disj k1 k (fun e => hkn' (e ▸ hk1)) x hb1 hxk
      · have := h.lt hxk; omega
  have ownx : ∀ x, x ∈ Ft ∨ w.heap.size ≤ x → c.own x := fun x hx => by
    rcases hx with hx | hx
    · obtain ⟨k1, _, hb1⟩ := hFt x hx; exact h.mine k1 x hb1
    · exact .inl (Nat.le_trans h.size hx)
  refine ⟨val', fp', r1, r3, fun x hx => ⟨?_, hx.2.1, good _ x (fun y hy => hy.2.2) hx⟩, fun x hx => ⟨?_, hx.2.1, good _ x (fun y hy => hy.2.2) hx⟩, fun e he => ⟨(ht.ent e he).2.1, v1 e he⟩⟩
  · rcases hx.1 with h1 | h1
    · exact h1.1
    · exact .inr (ownx x h1)
  · rcases hx.1 with h1 | h1
    · exact h1.1
    · exact .inr (ownx x h1)

theorem snapArgs_sound (h : Snap c s s1 a w val fp Ft) {tr : Nat → Option T} : ∀ {i : Nat} {ts : List TypeId} {vs : List V} {us : List Value} {f : List T → Bool → Prog} {l : Log}, vs.length = us.length →
    (∀ (j : Nat) (v : V) (u : Value), vs[j]? = some v → us[j]? = some u → VR (mkFr c w val fp) s v u) → runP E (snapArgs P tr i ts vs f) s1 l K = some r →
    ∃ ys b l', runP E (f ys b) s1 l' K = some r ∧ ys.length = vs.length ∧ ∀ (j : Nat) (y : T), ys[j]? = some y → tr (i + j) = some y ∨ (tr (i + j) = none ∧ ∀ u, us[j]? = some u → ResV w (SI c w fp Ft b) (SJ c w fp Ft b) false y u [])
  | i, [], [], us, f, l, hl, hv, hr => ⟨[], false, l, hr, rfl, by simp⟩
  | i, t :: ts, v :: vs, [], f, l, hl, hv, hr => by simp at hl
  | i, t :: ts, v :: vs, u :: us, f, l, hl, hv, hr => by
    have hv' : ∀ (j : Nat) (v : V) (u : Value), vs[j]? = some v → us[j]? = some u → VR (mkFr c w val fp) s v u := fun j v' u' h1 h2 => hv (j + 1) v' u' (by simpa using h1) (by simpa using h2)
    rw [snapArgs] at hr
    split at hr
    · rename_i x hx
      obtain ⟨ys, b, l1, h1, hl1, hys⟩ := snapArgs_sound h (us := us) (by simpa using hl) hv' hr
      refine ⟨x :: ys, b, l1, h1, by simp [hl1], fun j y hy => ?_⟩
      cases j with
      | zero => simp at hy; subst hy; exact .inl hx
      | succ j =>
        have := hys j y (by simpa using hy)
        rw [show i + 1 + j = i + (j + 1) by omega] at this
        simpa using this
    · rename_i hx
      obtain ⟨y0, b0, l0, h0, hy0⟩ := snapV_sound h (hv 0 v u rfl rfl) hr
      obtain ⟨ys, b, l1, h1, hl1, hys⟩ := snapArgs_sound h (us := us) (by simpa using hl) hv' h0
      refine ⟨y0 :: ys, b0 || b, l1, h1, by simp [hl1], fun j y hy => ?_⟩
      cases j with
      | zero =>
        simp at hy; subst hy
        refine .inr ⟨hx, fun u' hu' => ?_⟩
        simp at hu'
        subst hu'
        exact hy0.or (by simp; intro h; exact .inl h)
      | succ j =>
        have := hys j y (by simpa using hy)
        rw [show i + 1 + j = i + (j + 1) by omega] at this
        rcases this with h2 | ⟨h2, h3⟩
        · exact .inl h2
        · exact .inr ⟨h2, fun u' hu' => (h3 u' (by simpa using hu')).or (by simp; intro h; exact .inr h)⟩
  | i, [], _ :: _, _, _, _, _, _, hr => by cases hr
  | i, _ :: _, [], _, _, _, _, _, hr => by cases hr

theorem Does.mono {g : FuncId} {vs : Array Value} {R R' : Value → World → Prop} (h : Does P g vs w R) (hR : ∀ v w, R v w → R' v w) : Does P g vs w R' := by
  unfold Does at *
  split
  · rename_i heq; rw [heq] at h; exact hR _ _ h
  · rename_i heq; rw [heq] at h
    exact Calls.mono h fun e w' ⟨v, he, hr⟩ => ⟨v, he, hR _ _ hr⟩
  · rename_i h1 h2
    split at h
    · rename_i heq; exact (h1 _ _ heq).elim
    · rename_i heq; exact (h2 _ _ _ heq).elim
    · exact h.elim

theorem RB.resV {I J : Nat → Prop} {y : T} {u : Value} (h : RB w I J y u) : ResV w I J false y u [] := RB.notAgg h

theorem callP_sound (h : Inv c s a w val fp) (hE : ∀ g args r, E g args = some r → Meets P (A g) g args r) {o : Oper} {d : Nat} (hd' : o.dst = some d) (hd : d < a.tmps.size) {g : FuncId} {tys : List TypeId}
    {vs : List V} {us : Array Value} (hl : vs.length = us.size) (hvs : ∀ (i : Nat) (v : V) (u : Value), vs[i]? = some v → us[i]? = some u → VR (mkFr c w val fp) s v u)
    {caps : List T} {cvs : Array Value} {sn : Bool} (hcl : caps.length = cvs.size) (hcaps : ∀ (i : Nat) (y : T) (u : Value), caps[i]? = some y → cvs[i]? = some u → SR c w fp [] sn y u)
    (hr : runP E (callP P A o g tys vs caps sn) s l K = some r) : Does P g (us ++ cvs) w fun v w' => Post c w K r (a.put o.dst v) w' := by
  unfold callP at hr
  rw [hd'] at hr
  simp only at hr
  split at hr
  · -- nothing is turned
    rename_i hturn
    have hsn : Snap c s s a w val fp [] := ⟨h, fun k _ => ⟨rfl, fun _ _ => by simp⟩, by simp⟩
    obtain ⟨xs, b, l1, h1, hxl, hxs⟩ := snapArgs_sound hsn (us := us.toList) (by simpa using hl) (fun j v u h1 h2 => hvs j v u h1 (by simpa using h2)) hr
    rw [run_ite, run_fail] at h1
    rcases ev_wrap h1 with ⟨_, h1⟩ | ⟨hchk, h1⟩
    · cases h1
    rw [run_call, Option.bind_eq_some_iff] at h1
    obtain ⟨⟨x, outs⟩, hcall, h1⟩ := h1
    have hmeets := hE _ _ _ hcall
    let b' := b || sn
    have hpre : Pre (A g) (xs ++ caps) w (SI c w fp [] b') (SJ c w fp [] b') (us ++ cvs) [] := by
      refine ⟨fun x hx => ⟨hx.1.imp (h.ij x) id, hx.2⟩, by simp [hxl, hl, hcl], fun i y u _ hy hu => ?_, fun i hi => (by rw [hturn] at hi; cases hi), fun _ => rfl, by simp, fun b hb => hb.2.1⟩
      rw [List.getElem?_append] at hy
      split at hy
      · rename_i hi
        have hiu : i < us.size := by omega
        rw [Array.getElem?_append_left hiu] at hu
        rcases hxs i y hy with h2 | ⟨_, h2⟩
        · cases h2
        · exact (h2 u (by simpa using hu)).or (by simp [b']; intro h; exact .inl h)
      · rename_i hi
        have hiu : us.size ≤ i := by omega
        rw [Array.getElem?_append_right hiu] at hu
        exact RB.resV (SR.or (hcaps _ y u hy (by rw [hxl, hl]; exact hu)) (by simp [b']; intro h; exact .inr h))
    refine (hmeets w _ _ _ _ hpre).mono fun v w1 ⟨Fr, Fo, hdone⟩ => ?_
    have hout : outs = [] ∧ Fo = [] := by
      rcases hdone.out with ⟨_, ho1, ho2⟩ | ⟨i, y, u, hi, _⟩ | ⟨_, ho1, ho2⟩
      · exact ⟨ho1, ho2⟩
      · rw [hturn] at hi; cases hi
      · exact ⟨ho1, ho2⟩
    obtain ⟨ho1, ho2⟩ := hout
    · subst ho2
      subst ho1
      rw [run_unnil] at h1
      simp only at h1
      have hflat : b' = true → (A g).own = false → flatTs P o.type = true := fun hb ho => by
        cases hf : flatTs P o.type with
        | true => rfl
        | false => simp only [b'] at hb; rw [hb, hf, ho] at hchk; cases hchk
      let fl := b' && !(A g).own
      obtain ⟨y, s3, l3, N, h3, ht, hv⟩ := takeR_sound (fl := fl) (fun e => by
        simp only [fl, Bool.and_eq_true, Bool.not_eq_true'] at e
        exact hflat e.1 e.2) hdone.res h1
      rw [run_setT, run_done] at h3
      obtain ⟨val', fp', q1, q2, q3, q4, q5⟩ := after_call (ot := .free) (kt := none) h (fun _ => rfl) (fun _ _ => rfl) (fun k hk => by cases hk) (fun _ => ⟨rfl, rfl⟩) hdone.kp hdone.fr hdone.ap ht
      rw [hd']
      refine ⟨_, _, val', fp', h3, q1.setT hd (hv _ _ ⟨rfl, fun ho hf x hx => q3 x ?_, fun ho hf x hx => q4 x ?_, q5⟩), rfl, q2⟩
      · have hb : b' = false := by simp only [fl, ho] at hf; simpa using hf
        rcases hx.1 with h4 | h4
        · rw [hb] at h4; exact ⟨.inl ⟨h4.1, h4.2.1, h4.2.2.2 rfl⟩, hx.2⟩
        · exact ⟨.inr h4, hx.2⟩
      · have hb : b' = false := by simp only [fl, ho] at hf; simpa using hf
        rcases hx.1 with h4 | h4
        · rw [hb] at h4; exact ⟨.inl ⟨h4.1, h4.2.1, h4.2.2.2 rfl⟩, hx.2⟩
        · exact ⟨.inr h4, hx.2⟩
  · -- one parameter is turned
    rename_i i hturn
    split at hr
    · rename_i v hvi
      have hcv : cvs = #[] := Array.eq_empty_of_size_eq_zero (by simpa using hcl.symm)
      subst hcv
      rw [Array.append_empty]
      have hiv : i < us.size := by rw [← hl]; exact (List.getElem?_eq_some_iff.1 hvi).1
      have hu : us[i]? = some us[i] := by simp [hiv]
      have hvr := hvs i v _ hvi hu
      -- what is turned
      have key : ∃ x k sz ok l1, runP E (snapArgs P (fun j => bif Nat.beq i j then some x else none) 0 tys vs fun xs b =>
          .ite (b && !(flatTs P o.type || (A g).own)) .fail (.call g xs fun r outs => bif (A g).take then .unnil outs (takeR P (A g).own (keyOf d 0) o.type r fun v => .setT d v .done) else back (A g).sl k sz outs (takeR P (A g).own (keyOf d 0) o.type r fun v => .setT d v .done))) (s.setO k .gone) l1 K = some r ∧
          s.getO k = ok ∧ Turns ok .gone (val k) (val k) ∧ ArgT w (A g).sl x us[i] (fp k) ∧ (∀ y w1 Fo, OutT w1 (A g).sl y us[i] Fo → ∀ p l2, runP E (back (A g).sl k sz [y] p) (s.setO k .gone) l2 K = some r →
            ∃ ot l3, runP E p ((s.setO k .gone).setO k ot) l3 K = some r ∧ Alive ot ∧ Turns ok ot (val k) (val k) ∧ ∀ fr s', fr.w = w1 → ObR fr s' ot (val k) Fo) := by
        unfold give at hr
        split at hr
        · rename_i k hsl
          rw [run_getO] at hr
          split at hr
          · rename_i cells hk
            rw [run_iteF] at hr
            replace hr := ev_true hr
            obtain ⟨hsc, hr⟩ := hr
            rw [run_setO] at hr
            have hob := h.obs k
            rw [hk] at hob
            obtain ⟨b, cur, e, hvk, hF, hh, hcs⟩ := hob
            have hp : ptrTo (val k) 0 us[i] := ptr_alive hvr hk (.inl ⟨_, rfl⟩)
            rw [hvk] at hp
            have hp : us[i] = .pointer (some ⟨b, 0, none⟩) := hp
            refine ⟨_, k, 0, _, _, hr, hk, trivial, ?_, fun y w1 Fo hout p l2 hrun => ?_⟩
            · rw [hsl]
              refine ⟨_, rfl, b, cur, e, hp, hF, hh, by have := hcs.1; simpa using this, fun j y u hy hu => ?_⟩
              rw [List.getElem?_map, Option.map_eq_some_iff] at hy
              obtain ⟨cj, hcj, rfl⟩ := hy
              have hs1 := List.all_eq_true.1 hsc cj (List.mem_of_getElem? hcj)
              have hc1 := hcs.2 j cj u hcj (by simpa using hu)
              cases cj with
              | t y => exact scalar_ro (CR_t hc1) hs1
              | _ => cases hs1
            · rw [hsl] at hout hrun
              obtain ⟨ycells, rfl, b', cur', e', hv', hF', hh', hl', hro⟩ := hout
              rw [hp] at hv'
              cases hv'
              unfold back at hrun
              rw [run_uncons] at hrun
              simp only [run_unnil, run_asAgg, run_iteF] at hrun
              replace hrun := ev_true hrun
              obtain ⟨hsc', hrun⟩ := hrun
              rw [run_setO] at hrun
              refine ⟨.box (ycells.map C.t), _, hrun, .inl ⟨_, rfl⟩, rfl, fun fr s' hw => ?_⟩
              refine ⟨b, cur', e', hvk, hF', by rw [hw]; exact hh', by simpa using hl', fun j cj u hcj hu => ?_⟩
              rw [List.getElem?_map, Option.map_eq_some_iff] at hcj
              obtain ⟨y, hy, rfl⟩ := hcj
              show RB fr.w fr.I fr.J y u
              rw [hw]
              exact (hro j y u hy (by simpa using hu)).rb (by simp)
          · cases hr
        · rename_i k hsl
          rw [run_getO] at hr
          split at hr
          · rename_i sz cs hk
            rw [run_setO] at hr
            have hob := h.obs k
            rw [hk] at hob
            have hv : us[i] = val k := obj_alive hvr hk
            refine ⟨_, k, sz, _, _, hr, hk, trivial, ?_, fun y w1 Fo hout p l2 hrun => ?_⟩
            · rw [hsl, hv]
              exact ⟨⟨_, _, rfl⟩, hob⟩
            · rw [hsl, hv] at hout
              rw [hsl] at hrun
              obtain ⟨⟨sz', cs', rfl⟩, hro⟩ := hout
              unfold back at hrun
              rw [run_uncons] at hrun
              simp only [run_unnil, run_asSl] at hrun
              replace hrun := ev_true hrun
              obtain ⟨hsz, hrun⟩ := hrun
              have hsz : sz' = sz := Nat.eq_of_beq_eq_true hsz
              subst hsz
              rw [run_setO] at hrun
              refine ⟨_, _, hrun, .inr ⟨_, _, _, _, rfl⟩, rfl, fun fr s' hw => ?_⟩
              show RO fr.w _ _ _
              rw [hw]; exact hro
          · cases hr
        · cases hr
      obtain ⟨x, k, sz, ok, l1, hr, hok, hgone, harg, hback⟩ := key
      have hsn : Snap c s (s.setO k .gone) a w val fp (fp k) := by
        refine ⟨h, fun k' hk' => ?_, fun x hx => ⟨k, hx⟩⟩
        rw [getO_setO] at hk' ⊢
        by_cases hkk : k = k'
        · rw [if_pos hkk] at hk'
          rcases hk' with ⟨_, e⟩ | ⟨_, _, _, _, e⟩ <;> cases e
        · rw [if_neg hkk]
          exact ⟨rfl, fun x hx hx' => h.disj k k' hkk x hx' hx⟩
      obtain ⟨xs, b, l2, h1, hxl, hxs⟩ := snapArgs_sound hsn (us := us.toList) (by simpa using hl) (fun j v u h1 h2 => hvs j v u h1 (by simpa using h2)) hr
      rw [run_ite, run_fail] at h1
      rcases ev_wrap h1 with ⟨_, h1⟩ | ⟨hchk, h1⟩
      · cases h1
      rw [run_call, Option.bind_eq_some_iff] at h1
      obtain ⟨⟨y, outs⟩, hcall, h1⟩ := h1
      have hmeets := hE _ _ _ hcall
      have hpre : Pre (A g) xs w (SI c w fp (fp k) b) (SJ c w fp (fp k) b) us (fp k) := by
        refine ⟨fun x hx => ⟨hx.1.imp (h.ij x) id, hx.2⟩, by omega, fun j y u hj hy hu => ?_, fun j hj => ?_, fun hn => (by rw [hturn] at hn; cases hn), fun x hx hJ => hJ.2.2.1 hx, fun b hb => hb.2.1⟩
        · have hne : i ≠ j := fun e => hj (by rw [hturn, e])
          rcases hxs j y hy with h2 | ⟨_, h2⟩
          · simp only [Nat.zero_add] at h2
            rw [nbeq hne] at h2
            cases h2
          · exact h2 u (by simpa using hu)
        · rw [hturn] at hj
          cases hj
          have hix : i < xs.length := by omega
          refine ⟨xs[i], us[i], by simp [hix], hu, ?_⟩
          rcases hxs i xs[i] (by simp [hix]) with h2 | ⟨h2, _⟩
          · simp only [Nat.zero_add] at h2
            have hii : Nat.beq i i = true := by simp
            rw [hii, cond_true] at h2
            cases h2
            exact harg
          · simp only [Nat.zero_add] at h2
            have hii : Nat.beq i i = true := by simp
            rw [hii, cond_true] at h2
            cases h2
      refine (hmeets w _ _ _ _ hpre).mono fun v w1 ⟨Fr, Fo, hdone⟩ => ?_
      have fin : ∃ sx ot l3, runP E (takeR P (A g).own (keyOf d 0) o.type y fun v => .setT d v .done) sx l3 K = some r ∧ (∀ i, sx.getT i = s.getT i) ∧ (∀ k', k ≠ k' → sx.getO k' = s.getO k') ∧ sx.getO k = ot ∧ ot ≠ .free ∧
          Turns ok ot (val k) (val k) ∧ ∀ fr s', fr.w = w1 → ObR fr s' ot (val k) Fo := by
        rcases hdone.out with ⟨hn, _⟩ | ⟨j, z, u, hj, htk, hz, hu', hout⟩ | ⟨htk, hz, hfo⟩
        · rw [hturn] at hn; cases hn
        · rw [hturn] at hj
          cases hj
          rw [hu] at hu'
          cases hu'
          simp only at hz
          subst hz
          rw [htk, cond_false] at h1
          obtain ⟨ot, l3, h3, hao, hto, hob⟩ := hback z w1 Fo hout _ _ h1
          refine ⟨_, ot, l3, h3, fun _ => rfl, fun k' hk' => by rw [getO_setO, if_neg hk', getO_setO, if_neg hk'], by rw [getO_setO, if_pos rfl], fun e => ?_, hto, hob⟩
          rw [e] at hao
          rcases hao with ⟨_, e⟩ | ⟨_, _, _, _, e⟩ <;> cases e
        · simp only at hz
          subst hz
          subst hfo
          rw [htk, cond_true, run_unnil] at h1
          exact ⟨_, .gone, _, h1, fun _ => rfl, fun k' hk' => by rw [getO_setO, if_neg hk'], by rw [getO_setO, if_pos rfl], by simp, hgone, fun _ _ _ => rfl⟩
      obtain ⟨sx, ot, l3, h3, sx1, sx2, sx3, hao, hto, hob⟩ := fin
      have hflat : b = true → (A g).own = false → flatTs P o.type = true := fun hb ho => by
        cases hf : flatTs P o.type with
        | true => rfl
        | false => rw [hb, hf, ho] at hchk; cases hchk
      let fl := b && !(A g).own
      obtain ⟨y', s3, l4, N, h4, ht, hv⟩ := takeR_sound (fl := fl) (fun e => by
        simp only [fl, Bool.and_eq_true, Bool.not_eq_true'] at e
        exact hflat e.1 e.2) hdone.res h3
      rw [run_setT, run_done] at h4
      obtain ⟨val', fp', q1, q2, q3, q4, q5⟩ := after_call (s2 := sx) (ot := ot) (kt := some k) h sx1 (fun k' hk' => sx2 k' fun e => hk' (by rw [e])) (fun k' hk' => by
          cases hk'
          exact ⟨sx3, hao, by rw [hok]; exact hto, rfl, hob⟩) (fun hk => by cases hk) hdone.kp hdone.fr hdone.ap ht
      rw [hd']
      refine ⟨_, _, val', fp', h4, q1.setT hd (hv _ _ ⟨rfl, fun ho hf x hx => q3 x ?_, fun ho hf x hx => q4 x ?_, q5⟩), rfl, q2⟩
      · have hb : b = false := by simp only [fl, ho] at hf; simpa using hf
        rcases hx.1 with h4 | h4
        · rw [hb] at h4; exact ⟨.inl ⟨h4.1, h4.2.1, h4.2.2.2 rfl⟩, hx.2⟩
        · exact ⟨.inr h4, hx.2⟩
      · have hb : b = false := by simp only [fl, ho] at hf; simpa using hf
        rcases hx.1 with h4 | h4
        · rw [hb] at h4; exact ⟨.inl ⟨h4.1, h4.2.1, h4.2.2.2 rfl⟩, hx.2⟩
        · exact ⟨.inr h4, hx.2⟩
    · cases hr
end
end Ev
