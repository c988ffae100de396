/- Ev: code. -/
import Derived.Test.YtmcfccgmhinpdaaGreatDoorEvState
namespace Ev
open Go

section
variable {P : Program} {A : Attrs} {E : Env} {H : Hints} {c : Ctx} {s : St} {a : Act} {w w0 : World} {val : Key → Value} {fp : Key → List Nat} {r : T × List T} {n : Nat} {tp : Option Nat} {a0 : Array Value}

/-- Where code may leave the machine. -/
def Ok (a0 : Array Value) (tp : Option Nat) (c : Ctx) (w0 : World) (n : Nat) (K : St → R) (r : T × List T) (a : Act) (w : World) : Prop :=
  ∃ s val fp, K s = some r ∧ Inv c s a w val fp ∧ KT a0 tp n a ∧ Kp c.own w0 w
def OkE (a0 : Array Value) (tp : Option Nat) (c : Ctx) (w0 : World) (n : Nat) (K : Ex → St → R) (r : T × List T) : Exit → Act → World → Prop
  | .normal, a, w => Ok a0 tp c w0 n (K .normal) r a w
  | .exit i, a, w => Ok a0 tp c w0 n (K (.exit i)) r a w
  | .ret, a, w => Ok a0 tp c w0 n (K .ret) r a w
  | _, _, _ => False

theorem regionK_sound (hm : P.follows .mixedOrders = true) (hE : ∀ g args r, E g args = some r → Meets P (A g) g args r) {id : Nat} {ops : Array Oper} {draw : Bool} (hdst : ∀ (i : Nat) (o : Oper), ops[i]? = some o → ∀ d, o.dst = some d → d < n ∧ tp ≠ some d)
    (h : Inv c s a w val fp) (hn : KT a0 tp n a) (hk : Kp c.own w0 w) {K : St → R} {Q : Exit → Act → World → Prop} (hQ : ∀ a w, Ok a0 tp c w0 n K r a w → Q .normal a w) (hr : regionK P A E ops.toList draw s K = some r) :
    (Code.region id ops draw).wp P Q a w := by
  obtain ⟨fp1, h1⟩ := h.prepare ops.toList
  unfold regionK at hr
  cases draw with
  | false =>
    rw [cond_false] at hr
    refine wp_region ?_
    have := opsK_sound (w0 := w0) hE hdst (K := fun s => K (settle 8 s)) (Q := Q) (fun s' a' w' val' fp' hK hi hsz hkp => by
      obtain ⟨val2, fp2, h2⟩ := hi.settle 8
      exact hQ a' w' ⟨_, val2, fp2, hK, h2, hsz, hkp⟩) ops.toList 0 _ a w val fp1 (fun i => by simp) h1 hn hk hr
    rw [Array.length_toList] at this
    rw [List.range_eq_range']
    exact this
  | true =>
    rw [cond_true] at hr
    obtain ⟨st, lg, e1, e2, e3⟩ := opsL_run ops.toList 0 _ [] (fun i => by simp) hr
    rw [Nat.zero_add, Array.length_toList, List.append_nil, List.reverse_reverse, ← List.range_eq_range'] at e3
    replace e3 := ev_true e3
    obtain ⟨hok, hK⟩ := e3
    rw [Bool.and_eq_true] at hok
    have ho := ordered_of hok.1 hok.2
    have hrun : Run P A E ops ops.size st lg := ⟨fun i o hi hoi => e2 i o (Nat.zero_le i) (by rw [Nat.zero_add, Array.length_toList]; exact hi) hoi⟩
    refine wp_region_any hm ?_
    obtain ⟨h2, hk2⟩ := h1.world (w' := { w with drawn := w.drawn + 1 }) rfl rfl rfl rfl
    refine anyOrder (w0 := w0) hE hdst ho hrun (fun a' w' val' fp' hi hsz hkp => ?_) ops.size (Array.replicate ops.size false) (st 0) a _ val fp1 (by simp) ?_ ?_ (fun x => ?_) (fun x => ?_) (by rw [e1]; exact h2) hn (hk.trans hk2)
    · obtain ⟨val2, fp2, h3⟩ := hi.settle 8
      exact hQ a' w' ⟨_, val2, fp2, hK, h3, hsz, hkp⟩
    · have : left ops.size (Array.replicate ops.size false) = List.range ops.size := by
        unfold left
        refine List.filter_eq_self.2 fun i hi => ?_
        have := List.mem_range.1 hi
        simp [Array.getD_eq_getD_getElem?, this]
      rw [this, List.length_range]
    · intro j hj hD
      simp [Array.getD_eq_getD_getElem?, hj] at hD
    · exact .inr ⟨fun j hj hD => by simp [Array.getD_eq_getD_getElem?, hj] at hD, rfl⟩
    · exact .inr ⟨fun j hj hD => by simp [Array.getD_eq_getD_getElem?, hj] at hD, rfl⟩

theorem wp_loop_fuel {cd : Code} {Q : Exit → Act → World → Prop} (I : Nat → Act → World → Prop) {m : Nat} (h0 : I m a w)
    (round : ∀ m a w, I m a w → cd.wp P (Exit.then (fun a' w' => ∃ m', m' < m ∧ I m' a' w') Q) a w) : (Code.loop cd).wp P Q a w := by
  intro b k cs
  have key : ∀ m a w, I m a w → ∃ e a' w', Q e a' w' ∧ Arrives P (lone (b.at a (.code cd :: .inLoop cd :: k)) cs w) b k cs e a' w' := by
    intro m
    induction m using Nat.strongRecOn with
    | _ m ih =>
      intro a w hI
      obtain ⟨e, a₁, w₁, hq, harr⟩ := round m a w hI b (.inLoop cd :: k) cs
      cases e with
      | normal =>
        obtain ⟨m', hlt, hI₁⟩ := hq
        obtain ⟨e₂, a₂, w₂, hq₂, harr₂⟩ := ih m' hlt a₁ w₁ hI₁
        exact ⟨e₂, a₂, w₂, hq₂, .of_steps (Steps.trans harr (.one step_inLoop)) harr₂⟩
      | exit id => exact ⟨_, a₁, w₁, hq, .pass (x := .inLoop cd) rfl (fun _ _ => .inl (by simp)) harr⟩
      | goto l => exact ⟨_, a₁, w₁, hq, .pass (x := .inLoop cd) rfl (fun _ _ => .inl (by simp)) harr⟩
      | ret => exact ⟨_, a₁, w₁, hq, .pass (x := .inLoop cd) rfl (fun _ _ => .inl (by simp)) harr⟩
      | panic ch => exact ⟨_, a₁, w₁, hq, .pass (x := .inLoop cd) rfl (fun _ _ => .inl (by simp)) harr⟩
      | outgrown => exact ⟨_, a₁, w₁, hq, .pass (x := .inLoop cd) rfl (fun _ _ => .inl (by simp)) harr⟩
  obtain ⟨e, a', w', hq, harr⟩ := key _ a w h0
  exact ⟨e, a', w', hq, .of_steps (.one step_loop) harr⟩

theorem codeK_sound (hm : P.follows .mixedOrders = true) (hE : ∀ g args r, E g args = some r → Meets P (A g) g args r) (fuel : Nat) : ∀ (cd : Code), dstsOk tp n cd = true → ∀ (blk : Nat) (K : Ex → St → R) (s : St) (a : Act) (w : World) (val : Key → Value) (fp : Key → List Nat),
    Inv c s a w val fp → KT a0 tp n a → Kp c.own w0 w → codeK P A H E fuel blk cd s K = some r → cd.wp P (OkE a0 tp c w0 n K r) a w := by
  intro cd
  induction cd with
  | skip => intro _ blk K s a w val fp h hn hk hr; exact wp_skip ⟨s, val, fp, hr, h, hn, hk⟩
  | region id ops draw =>
    intro hd blk K s a w val fp h hn hk hr
    obtain ⟨val1, fp1, h1⟩ := h.ghosts (H.regions id)
    refine regionK_sound hm hE (fun i o ho d hod => ?_) h1 hn hk (fun a w hok => hok) hr
    have := List.all_eq_true.1 hd o (List.mem_of_getElem? (by simpa using ho))
    rw [hod] at this
    simp only [Bool.and_eq_true] at this
    refine ⟨Nat.le_of_ble_eq_true this.1, fun e => ?_⟩
    rw [e] at this
    simp at this
  | seq x y ihx ihy =>
    intro hd blk K s a w val fp h hn hk hr
    rw [dstsOk, Bool.and_eq_true] at hd
    refine wp_seq (wp_mono (ihx hd.1 blk _ s a w val fp h hn hk hr) fun e a' w' hq => ?_)
    cases e with
    | normal =>
      obtain ⟨s', val', fp', hr', h', hn', hk'⟩ := hq
      exact ihy hd.2 blk K s' a' w' val' fp' h' hn' hk' hr'
    | exit i => exact hq
    | ret => exact hq
    | goto l => exact hq
    | panic ch => exact hq
    | outgrown => exact hq
  | cond x y z ihy ihz =>
    intro hd blk K s a w val fp h hn hk hr
    rw [dstsOk, Bool.and_eq_true] at hd
    have hv : VR (mkFr c w val fp) s (isUnder P s x) (a.eval x) := by
      unfold isUnder
      split
      · exact h.tms _
      · exact VR_ofVal _
      · trivial
    rw [codeK] at hr
    split at hr
    · rename_i b hb
      rw [hb] at hv
      have hv : a.eval x = .bool b := RB.bool_inv hv
      refine wp_cond hv ?_
      cases b with
      | true => exact ihy hd.1 blk K s a w val fp h hn hk hr
      | false => exact ihz hd.2 blk K s a w val fp h hn hk hr
    · cases hr
  | block i x ih =>
    intro hd blk K s a w val fp h hn hk hr
    refine wp_block (wp_mono (ih hd i _ s a w val fp h hn hk hr) fun e a' w' hq => ?_)
    cases e with
    | normal => exact hq
    | exit j =>
      obtain ⟨s', val', fp', hr', h'⟩ := hq
      simp only at hr'
      show if j = i then OkE a0 tp c w0 n K r Exit.normal a' w' else OkE a0 tp c w0 n K r (Exit.exit j) a' w'
      by_cases hij : j = i
      · subst hij
        have : Nat.beq j j = true := by simp
        rw [this, cond_true] at hr'
        rw [if_pos rfl]
        exact ⟨s', val', fp', hr', h'⟩
      · rw [nbeq (fun e => hij e.symm), cond_false] at hr'
        rw [if_neg hij]
        exact ⟨s', val', fp', hr', h'⟩
    | ret => exact hq
    | goto l => exact hq
    | panic ch => exact hq
    | outgrown => exact hq
  | loop x ih =>
    intro hd blk K s a w val fp h hn hk hr
    obtain ⟨val0, fp0, h0⟩ := h.ghosts (H.loops blk)
    refine wp_loop_fuel (fun m a w => ∃ s val fp, loopK (fun s K => codeK P A H E fuel blk x s fun e s => match e with
      | .normal => K .normal (ghosts s (H.loops blk))
      | e => K e s) m s K = some r ∧ Inv c s a w val fp ∧ KT a0 tp n a ∧ Kp c.own w0 w) ⟨_, val0, fp0, hr, h0, hn, hk⟩ ?_
    rintro m a w ⟨s, val, fp, hr, h, hn, hk⟩
    cases m with
    | zero => cases hr
    | succ m =>
      refine wp_mono (ih hd blk _ _ a w val fp h hn hk hr) fun e a' w' hq => ?_
      cases e with
      | normal =>
        obtain ⟨s', val', fp', hr', h', hn', hk'⟩ := hq
        obtain ⟨val1, fp1, h1⟩ := h'.ghosts (H.loops blk)
        exact ⟨m, Nat.lt_succ_self m, _, val1, fp1, hr', h1, hn', hk'⟩
      | exit i => exact hq
      | ret => exact hq
      | goto l => exact hq
      | panic ch => exact hq
      | outgrown => exact hq
  | exit i => intro _ blk K s a w val fp h hn hk hr; exact wp_exit ⟨s, val, fp, hr, h, hn, hk⟩
  | ret => intro _ blk K s a w val fp h hn hk hr; exact wp_ret ⟨s, val, fp, hr, h, hn, hk⟩
  | _ => intro _ blk K s a w val fp h hn hk hr; cases hr
end
end Ev
