/- Ev: no fuel any more. -/
import Derived.Test.YtmcfccgmhinpdaaGreatDoorEvMeets
namespace Ev
open Go

abbrev Ext := FuncId → Option (Env → List T → R)
/-- Calls to a depth. -/
def callN (P : Program) (A : Attrs) (H : FuncId → Hints) (X : Ext) : Nat → Env
  | 0 => fun _ _ => none
  | n + 1 => fun f args => match X f with
    | some e => e (callN P A H X n) args
    | none => callK P A H (callN P A H X n) n f args

theorem callN_sound {P : Program} {A : Attrs} {H : FuncId → Hints} {X : Ext} (hm : P.follows .mixedOrders = true)
    (hX : ∀ f e, X f = some e → ∀ E, (∀ g args r, E g args = some r → Meets P (A g) g args r) → ∀ args r, e E args = some r → Meets P (A f) f args r) :
    ∀ n g args r, callN P A H X n g args = some r → Meets P (A g) g args r := by
  intro n
  induction n with
  | zero => intro g args r h; cases h
  | succ n ih =>
    intro g args r h
    simp only [callN] at h
    split at h
    · rename_i e he; exact hX g e he _ ih args r h
    · exact callK_sound hm ih h

/-- From some depth on. -/
def Ev (p : Nat → Prop) : Prop := ∃ m0, ∀ m, m0 ≤ m → p m
theorem Ev.and {p q : Nat → Prop} (h : Ev p) (h' : Ev q) : Ev fun m => p m ∧ q m := by
  obtain ⟨a, h⟩ := h
  obtain ⟨b, h'⟩ := h'
  exact ⟨max a b, fun m hm => ⟨h m (by omega), h' m (by omega)⟩⟩
theorem Ev.mono {p q : Nat → Prop} (h : Ev p) (hpq : ∀ m, p m → q m) : Ev q := by
  obtain ⟨a, h⟩ := h
  exact ⟨a, fun m hm => hpq m (h m hm)⟩
theorem Ev.of {p : Nat → Prop} (h : ∀ m, p m) : Ev p := ⟨0, fun m _ => h m⟩
theorem Ev.ge (n : Nat) : Ev fun m => n ≤ m := ⟨n, fun _ h => h⟩

def Tends (L : Env) (Em : Nat → Env) : Prop := ∀ g args r, L g args = some r → Ev fun m => Em m g args = some r

section
variable {L : Env} {Em : Nat → Env} {r : T × List T}

theorem runP_cont (hE : Tends L Em) {K : St → Log → R} {Km : Nat → St → Log → R} (hK : ∀ s l, K s l = some r → Ev fun m => Km m s l = some r) (p : Prog) :
    ∀ s l, runP L p s l K = some r → Ev fun m => runP (Em m) p s l (Km m) = some r := by
  induction p with
  | done => intro s l h; exact hK s l h
  | fail => intro s l h; cases h
  | getT i f ih => intro s l h; exact ih _ s _ h
  | getO k f ih => intro s l h; exact ih _ s _ h
  | setT i v p ih => intro s l h; exact ih _ _ h
  | setO k o p ih => intro s l h; exact ih _ _ h
  | ite b p q ihp ihq => intro s l h; cases b <;> first | exact ihq s l h | exact ihp s l h
  | asInt k x f ih =>
    intro s l h
    cases x with
    | int k' n =>
      rw [run_asInt] at h
      obtain ⟨h1, h2⟩ := ev_true h
      refine (ih _ s l h2).mono fun m hm => ?_
      rw [run_asInt]
      simp only [h1]; exact hm
    | _ => cases h
  | asBool x f ih => intro s l h; cases x <;> first | exact ih _ s l h | cases h
  | asStr x f ih => intro s l h; cases x <;> first | exact ih _ s l h | cases h
  | asSl sz x f ih =>
    intro s l h
    cases x with
    | sl sz' cs =>
      rw [run_asSl] at h
      obtain ⟨h1, h2⟩ := ev_true h
      refine (ih _ s l h2).mono fun m hm => ?_
      rw [run_asSl]
      simp only [h1]; exact hm
    | _ => cases h
  | asAgg x f ih => intro s l h; cases x <;> first | exact ih _ s l h | cases h
  | asTup x f ih => intro s l h; cases x <;> first | exact ih _ s l h | cases h
  | uncons l' f ih => intro s l h; cases l' <;> first | exact ih _ _ s l h | cases h
  | unnil l' p ih => intro s l h; cases l' <;> first | exact ih s l h | cases h
  | onSome x f ih => intro s l h; cases x <;> first | exact ih _ s l h | cases h
  | onRef x p ih => intro s l h; cases x <;> first | exact ih s l h | cases h
  | onClo x p ih => intro s l h; cases x <;> first | exact ih s l h | cases h
  | call g args k ih =>
    intro s l h
    simp only [runP, Option.bind_eq_some_iff] at h
    obtain ⟨q, hq, h⟩ := h
    refine ((hE g args q hq).and (ih _ _ s l h)).mono fun m ⟨h1, h2⟩ => ?_
    simp only [runP, h1]
    exact h2

variable {P : Program} {A : Attrs} {H : Hints}
theorem opsK_cont (hE : Tends L Em) {K : St → R} {Km : Nat → St → R} (hK : ∀ s, K s = some r → Ev fun m => Km m s = some r) (all : List Oper) : ∀ (ops : List Oper) (s : St),
    opsK P A L all ops s K = some r → Ev fun m => opsK P A (Em m) all ops s (Km m) = some r
  | [], s, h => hK s h
  | o :: ops, s, h => runP_cont hE (fun s _ h => opsK_cont hE hK all ops s h) _ s emptyLog h
theorem opsL_cont (hE : Tends L Em) {K : St → List Log → R} {Km : Nat → St → List Log → R} (hK : ∀ s ls, K s ls = some r → Ev fun m => Km m s ls = some r) (all : List Oper) : ∀ (ops : List Oper) (s : St) (ls : List Log),
    opsL P A L all ops s ls K = some r → Ev fun m => opsL P A (Em m) all ops s ls (Km m) = some r
  | [], s, ls, h => hK s ls h
  | o :: ops, s, ls, h => runP_cont hE (fun s l h => opsL_cont hE hK all ops s (l :: ls) h) _ s emptyLog h
theorem regionK_cont (hE : Tends L Em) {K : St → R} {Km : Nat → St → R} (hK : ∀ s, K s = some r → Ev fun m => Km m s = some r) {ops : List Oper} {draw : Bool} {s : St} (h : regionK P A L ops draw s K = some r) :
    Ev fun m => regionK P A (Em m) ops draw s (Km m) = some r := by
  cases draw with
  | false => exact opsK_cont hE (fun s h => hK _ h) ops ops _ h
  | true =>
    refine opsL_cont hE (K := fun s ls => bif edgesOk 0 ops && apartAll (ancs ops []) ls.reverse then K (settle 8 s) else none) (fun s ls h => ?_) ops ops _ [] h
    obtain ⟨h1, h2⟩ := ev_true h
    refine (hK _ h2).mono fun m hm => ?_
    show (bif edgesOk 0 ops && apartAll (ancs ops []) ls.reverse then Km m (settle 8 s) else none) = some r
    rw [h1]; exact hm

theorem loopK_cont {body : St → (Ex → St → R) → R} {bm : Nat → St → (Ex → St → R) → R}
    (hb : ∀ (s : St) (K : Ex → St → R) (Km : Nat → Ex → St → R), (∀ e s, K e s = some r → Ev fun m => Km m e s = some r) → body s K = some r → Ev fun m => bm m s (Km m) = some r)
    {K : Ex → St → R} {Km : Nat → Ex → St → R} (hK : ∀ e s, K e s = some r → Ev fun m => Km m e s = some r) :
    ∀ (n d : Nat) (s : St), loopK body n s K = some r → Ev fun m => loopK (bm m) (m - d) s (Km m) = some r
  | 0, d, s, h => by cases h
  | n + 1, d, s, h => by
    have h1 := hb s _ (fun m e s => match e with
      | .normal => loopK (bm m) (m - (d + 1)) s (Km m)
      | e => Km m e s) (fun e s h => by
        cases e with
        | normal => exact loopK_cont hb hK n (d + 1) s h
        | exit i => exact hK _ s h
        | ret => exact hK _ s h) h
    refine (h1.and (Ev.ge (d + 1))).mono fun m ⟨h2, h3⟩ => ?_
    rw [show m - d = (m - (d + 1)) + 1 by omega]
    exact h2

theorem codeK_cont (hE : Tends L Em) (n : Nat) : ∀ (cd : Code) (blk : Nat) (s : St) (K : Ex → St → R) (Km : Nat → Ex → St → R), (∀ e s, K e s = some r → Ev fun m => Km m e s = some r) →
    codeK P A H L n blk cd s K = some r → Ev fun m => codeK P A H (Em m) m blk cd s (Km m) = some r := by
  intro cd
  induction cd with
  | skip => intro blk s K Km hK h; exact hK _ s h
  | region id ops draw => intro blk s K Km hK h; exact regionK_cont hE (fun s h => hK _ s h) h
  | seq x y ihx ihy =>
    intro blk s K Km hK h
    refine ihx blk s _ (fun m e s => match e with
      | .normal => codeK P A H (Em m) m blk y s (Km m)
      | e => Km m e s) (fun e s h => ?_) h
    cases e with
    | normal => exact ihy blk s K Km hK h
    | exit i => exact hK _ s h
    | ret => exact hK _ s h
  | cond x y z ihy ihz =>
    intro blk s K Km hK h
    simp only [codeK] at h ⊢
    split at h
    · rename_i b hb
      cases b with
      | true => exact ihy blk s K Km hK h
      | false => exact ihz blk s K Km hK h
    · cases h
  | block i x ih =>
    intro blk s K Km hK h
    refine ih i s _ (fun m e s => match e with
      | .exit j => bif Nat.beq i j then Km m .normal s else Km m (.exit j) s
      | e => Km m e s) (fun e s h => ?_) h
    cases e with
    | normal => exact hK _ s h
    | exit j =>
      simp only at h ⊢
      cases hij : Nat.beq i j with
      | true => rw [hij] at h; exact hK _ s h
      | false => rw [hij] at h; exact hK _ s h
    | ret => exact hK _ s h
  | loop x ih =>
    intro blk s K Km hK h
    have := loopK_cont (r := r) (body := fun s K => codeK P A H L n blk x s fun e s => match e with
        | .normal => K .normal (ghosts s (H.loops blk))
        | e => K e s) (bm := fun m s K => codeK P A H (Em m) m blk x s fun e s => match e with
        | .normal => K .normal (ghosts s (H.loops blk))
        | e => K e s)
      (fun s K Km hK h => ih blk _ _ (fun m e s => match e with
        | .normal => Km m .normal (ghosts s (H.loops blk))
        | e => Km m e s) (fun e s h => by cases e <;> exact hK _ _ h) h) hK n 0 (ghosts s (H.loops blk)) h
    exact this
  | exit i => intro blk s K Km hK h; exact hK _ s h
  | ret => intro blk s K Km hK h; exact hK _ s h
  | _ => intro blk s K Km hK h; cases h
end

section
variable {P : Program} {A : Attrs} {H : FuncId → Hints} {X : Ext}

theorem callK_cont {L : Env} {Em : Nat → Env} (hE : Tends L Em) {n : Nat} {f : FuncId} {args : List T} {r : T × List T} (h : callK P A H L n f args = some r) : Ev fun m => callK P A H (Em m) m f args = some r := by
  unfold callK at h
  split at h
  case h_2 => cases h
  rename_i fn hf
  split at h
  case h_2 => cases h
  rename_i body hb
  split at h
  case h_2 => cases h
  rename_i vs os ha
  obtain ⟨h1, h2⟩ := ev_true h
  refine (codeK_cont hE n body 0 _ _ (fun m e s => match e with
      | .exit _ => none
      | _ => endK P A f fn s) (fun e s h => Ev.of fun _ => h) h2).mono fun m hm => ?_
  unfold callK
  simp only [hf, hb, ha]
  rw [h1]; exact hm

/-- What a call gives, from some depth on. -/
noncomputable def lim (P : Program) (A : Attrs) (H : FuncId → Hints) (X : Ext) : Env := fun f args =>
  open Classical in if h : ∃ r, Ev fun m => callN P A H X m f args = some r then some h.choose else none
theorem lim_iff {f : FuncId} {args : List T} {r : T × List T} : lim P A H X f args = some r ↔ Ev fun m => callN P A H X m f args = some r := by
  unfold lim
  constructor
  · intro h
    split at h
    · rename_i hex
      cases h
      exact hex.choose_spec
    · cases h
  · intro h
    have hex : ∃ r, Ev fun m => callN P A H X m f args = some r := ⟨r, h⟩
    rw [dif_pos hex]
    obtain ⟨m0, hm⟩ := hex.choose_spec.and h
    obtain ⟨e1, e2⟩ := hm m0 (Nat.le_refl _)
    rw [e1] at e2
    exact e2
theorem lim_tends : Tends (lim P A H X) (callN P A H X) := fun _ _ _ h => lim_iff.1 h
/-- One more call. -/
theorem lim_of {f : FuncId} {args : List T} {r : T × List T} (hx : X f = none) (n : Nat) (h : callK P A H (lim P A H X) n f args = some r) : lim P A H X f args = some r := by
  refine lim_iff.2 ?_
  obtain ⟨m0, hm⟩ := callK_cont lim_tends h
  refine ⟨m0 + 1, fun m hle => ?_⟩
  obtain ⟨k, rfl⟩ : ∃ k, m = k + 1 := ⟨m - 1, by omega⟩
  rw [callN]
  simp only [hx]
  exact hm k (by omega)
theorem lim_ext {f : FuncId} {e : Env → List T → R} {args : List T} {r : T × List T} (hx : X f = some e) (h : Ev fun m => e (callN P A H X m) args = some r) : lim P A H X f args = some r := by
  refine lim_iff.2 ?_
  obtain ⟨m0, hm⟩ := h
  refine ⟨m0 + 1, fun m hle => ?_⟩
  obtain ⟨k, rfl⟩ : ∃ k, m = k + 1 := ⟨m - 1, by omega⟩
  rw [callN]
  simp only [hx]
  exact hm k (by omega)
theorem lim_sound (hm : P.follows .mixedOrders = true)
    (hX : ∀ f e, X f = some e → ∀ E, (∀ g args r, E g args = some r → Meets P (A g) g args r) → ∀ args r, e E args = some r → Meets P (A f) f args r) {f : FuncId} {args : List T} {r : T × List T} (h : lim P A H X f args = some r) : Meets P (A f) f args r := by
  obtain ⟨m0, hm0⟩ := lim_iff.1 h
  exact callN_sound hm hX m0 f args r (hm0 m0 (Nat.le_refl _))
end
end Ev
