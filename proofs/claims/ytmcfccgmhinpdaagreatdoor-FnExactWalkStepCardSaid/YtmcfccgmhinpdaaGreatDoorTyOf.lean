/- Arguments as they were read, as typed values. Printed by plumb.py. -/
import Derived.Test.YtmcfccgmhinpdaaGreatDoorTyData
namespace Ev.Ty
open Go Ev
open Enc (enc)
open Sm (sm)
class OfSh (s : Sh) (α : Type) [Enc α] [Sm α] where
  of : s.Val → α
  enc : ∀ x, s.wf x → s.enc x = Enc.enc (of x)
  sz : s.size = Enc.sz α
  sm : ∀ x, s.wf x → Sm.sm maxLen (of x)
theorem pair_enc {a b : Sh} {x : (Sh.pair a b).Val} {l r : List T} (h1 : a.enc x.1 = l) (h2 : b.enc x.2 = r) : (Sh.pair a b).enc x = l ++ r := by rw [Sh.enc, h1, h2]
instance : OfSh (.int .i64) Int := ⟨id, fun _ _ => rfl, rfl, fun _ _ => trivial⟩
instance : OfSh .bool Bool := ⟨id, fun _ _ => rfl, rfl, fun _ _ => trivial⟩
instance : OfSh .str ByteArray := ⟨id, fun _ _ => rfl, rfl, fun _ h => h⟩
theorem u8_enc (x : Int) (h : (Lit.int .u8 x).wf = true) : [T.int .u8 x] = [T.int .u8 ((UInt8.ofNat (Int.toNat x)).toNat : Int)] := by
  simp [Lit.wf, IntKind.min, IntKind.max, IntKind.signed, IntKind.bits] at h
  rw [UInt8.toNat_ofNat']
  congr 2
  omega
instance : OfSh (.int .u8) UInt8 := ⟨fun n => UInt8.ofNat (Int.toNat n), fun x h => u8_enc x h, rfl, fun _ _ => trivial⟩
theorem cells_of {s : Sh} {α : Type} [Enc α] [Sm α] [OfSh s α] : ∀ (l : List s.Val), (∀ x, x ∈ l → s.wf x) → l.flatMap s.enc = cells (l.map (OfSh.of (s := s) (α := α)))
  | [], _ => rfl
  | x :: l, h => by
    rw [List.flatMap_cons, List.map_cons, cells_cons, OfSh.enc (α := α) x (h x (by simp)), cells_of (α := α) l fun y hy => h y (by simp [hy])]
instance {s : Sh} {α : Type} [Enc α] [Sm α] [OfSh s α] : OfSh (.sl s) (List α) := ⟨fun l => l.map (OfSh.of (s := s) (α := α)), fun l h => by
  show [T.sl s.size (List.flatMap s.enc l)] = [slc _]
  rw [cells_of (α := α) l h.2, OfSh.sz (s := s) (α := α)]; rfl, rfl, fun l h => ⟨by simpa using h.1, fun x hx => by
    obtain ⟨y, hy, rfl⟩ := List.mem_map.1 hx
    exact OfSh.sm y (h.2 y hy)⟩⟩
/-- A list that came in. -/
theorem arg_list {s : Sh} {α : Type} [Enc α] [Sm α] [OfSh s α] (l : List s.Val) (h : (Sh.sl s).wf l) : argOf (.sl s) l = slc (OfSh.of (s := .sl s) (α := List α) l) := by
  have := OfSh.enc (s := .sl s) (α := List α) l h
  simpa [Sh.enc, argOf] using this
/-- A struct that came in. -/
theorem arg_agg {a b : Sh} {α : Type} [Enc α] [Sm α] [OfSh (.pair a b) α] (x : (Sh.pair a b).Val) (h : (Sh.pair a b).wf x) : argOf (.pair a b) x = .agg (Enc.enc (OfSh.of (s := .pair a b) (α := α) x)) := by
  have := OfSh.enc (s := .pair a b) (α := α) x h
  rw [← this]; rfl
@[reducible] def sh_Symbol : Sh := .pair .str (.pair (.int .i64) .unit)
instance : OfSh sh_Symbol Symbol := ⟨fun x => ⟨OfSh.of (s := .str) (α := ByteArray) x.1, OfSh.of (s := (.int .i64)) (α := Int) x.2.1⟩, fun x h => pair_enc (OfSh.enc (α := ByteArray) x.1 h.1) (pair_enc (OfSh.enc (α := Int) x.2.1 h.2.1) (rfl)), rfl, fun x h => OfSh.sm (α := ByteArray) x.1 h.1⟩
@[reducible] def sh_Signature : Sh := .pair (.sl sh_Symbol) .unit
instance : OfSh sh_Signature Signature := ⟨fun x => ⟨OfSh.of (s := (.sl sh_Symbol)) (α := List Symbol) x.1⟩, fun x h => pair_enc (OfSh.enc (α := List Symbol) x.1 h.1) (rfl), rfl, fun x h => OfSh.sm (α := List Symbol) x.1 h.1⟩
@[reducible] def sh_Equation : Sh := .pair (.sl (.int .i64)) (.pair (.sl (.int .i64)) .unit)
instance : OfSh sh_Equation Equation := ⟨fun x => ⟨OfSh.of (s := (.sl (.int .i64))) (α := List Int) x.1, OfSh.of (s := (.sl (.int .i64))) (α := List Int) x.2.1⟩, fun x h => pair_enc (OfSh.enc (α := List Int) x.1 h.1) (pair_enc (OfSh.enc (α := List Int) x.2.1 h.2.1) (rfl)), rfl, fun x h => ⟨OfSh.sm (α := List Int) x.1 h.1, OfSh.sm (α := List Int) x.2.1 h.2.1⟩⟩
@[reducible] def sh_Binding : Sh := .pair (.sl (.int .i64)) (.pair (.sl (.sl (.int .i64))) .unit)
instance : OfSh sh_Binding Binding := ⟨fun x => ⟨OfSh.of (s := (.sl (.int .i64))) (α := List Int) x.1, OfSh.of (s := (.sl (.sl (.int .i64)))) (α := List (List Int)) x.2.1⟩, fun x h => pair_enc (OfSh.enc (α := List Int) x.1 h.1) (pair_enc (OfSh.enc (α := List (List Int)) x.2.1 h.2.1) (rfl)), rfl, fun x h => ⟨OfSh.sm (α := List Int) x.1 h.1, OfSh.sm (α := List (List Int)) x.2.1 h.2.1⟩⟩
@[reducible] def sh_Algebra : Sh := .pair (.int .i64) (.pair (.sl (.sl (.int .i64))) .unit)
instance : OfSh sh_Algebra Algebra := ⟨fun x => ⟨OfSh.of (s := (.int .i64)) (α := Int) x.1, OfSh.of (s := (.sl (.sl (.int .i64)))) (α := List (List Int)) x.2.1⟩, fun x h => pair_enc (OfSh.enc (α := Int) x.1 h.1) (pair_enc (OfSh.enc (α := List (List Int)) x.2.1 h.2.1) (rfl)), rfl, fun x h => OfSh.sm (α := List (List Int)) x.2.1 h.2.1⟩
@[reducible] def sh_Entry : Sh := .pair (.int .i64) (.pair (.int .i64) (.pair (.int .i64) (.pair (.int .i64) (.pair (.int .i64) (.pair (.sl (.int .i64)) (.pair (.sl (.int .i64)) .unit))))))
instance : OfSh sh_Entry Entry := ⟨fun x => ⟨OfSh.of (s := (.int .i64)) (α := Int) x.1, OfSh.of (s := (.int .i64)) (α := Int) x.2.1, OfSh.of (s := (.int .i64)) (α := Int) x.2.2.1, OfSh.of (s := (.int .i64)) (α := Int) x.2.2.2.1, OfSh.of (s := (.int .i64)) (α := Int) x.2.2.2.2.1, OfSh.of (s := (.sl (.int .i64))) (α := List Int) x.2.2.2.2.2.1, OfSh.of (s := (.sl (.int .i64))) (α := List Int) x.2.2.2.2.2.2.1⟩, fun x h => pair_enc (OfSh.enc (α := Int) x.1 h.1) (pair_enc (OfSh.enc (α := Int) x.2.1 h.2.1) (pair_enc (OfSh.enc (α := Int) x.2.2.1 h.2.2.1) (pair_enc (OfSh.enc (α := Int) x.2.2.2.1 h.2.2.2.1) (pair_enc (OfSh.enc (α := Int) x.2.2.2.2.1 h.2.2.2.2.1) (pair_enc (OfSh.enc (α := List Int) x.2.2.2.2.2.1 h.2.2.2.2.2.1) (pair_enc (OfSh.enc (α := List Int) x.2.2.2.2.2.2.1 h.2.2.2.2.2.2.1) (rfl))))))), rfl, fun x h => ⟨OfSh.sm (α := List Int) x.2.2.2.2.2.1 h.2.2.2.2.2.1, OfSh.sm (α := List Int) x.2.2.2.2.2.2.1 h.2.2.2.2.2.2.1⟩⟩
@[reducible] def sh_Completion : Sh := .pair (.sl (.int .i64)) (.pair (.sl sh_Equation) (.pair (.sl sh_Entry) (.pair (.sl (.int .i64)) (.pair (.sl (.int .i64)) (.pair (.int .i64) .unit)))))
instance : OfSh sh_Completion Completion := ⟨fun x => ⟨OfSh.of (s := (.sl (.int .i64))) (α := List Int) x.1, OfSh.of (s := (.sl sh_Equation)) (α := List Equation) x.2.1, OfSh.of (s := (.sl sh_Entry)) (α := List Entry) x.2.2.1, OfSh.of (s := (.sl (.int .i64))) (α := List Int) x.2.2.2.1, OfSh.of (s := (.sl (.int .i64))) (α := List Int) x.2.2.2.2.1, OfSh.of (s := (.int .i64)) (α := Int) x.2.2.2.2.2.1⟩, fun x h => pair_enc (OfSh.enc (α := List Int) x.1 h.1) (pair_enc (OfSh.enc (α := List Equation) x.2.1 h.2.1) (pair_enc (OfSh.enc (α := List Entry) x.2.2.1 h.2.2.1) (pair_enc (OfSh.enc (α := List Int) x.2.2.2.1 h.2.2.2.1) (pair_enc (OfSh.enc (α := List Int) x.2.2.2.2.1 h.2.2.2.2.1) (pair_enc (OfSh.enc (α := Int) x.2.2.2.2.2.1 h.2.2.2.2.2.1) (rfl)))))), rfl, fun x h => ⟨OfSh.sm (α := List Int) x.1 h.1, OfSh.sm (α := List Equation) x.2.1 h.2.1, OfSh.sm (α := List Entry) x.2.2.1 h.2.2.1, OfSh.sm (α := List Int) x.2.2.2.1 h.2.2.2.1, OfSh.sm (α := List Int) x.2.2.2.2.1 h.2.2.2.2.1⟩⟩
@[reducible] def sh_Theory : Sh := .pair (.sl (.int .i64)) (.pair (.sl sh_Equation) (.pair (.sl sh_Equation) .unit))
instance : OfSh sh_Theory Theory := ⟨fun x => ⟨OfSh.of (s := (.sl (.int .i64))) (α := List Int) x.1, OfSh.of (s := (.sl sh_Equation)) (α := List Equation) x.2.1, OfSh.of (s := (.sl sh_Equation)) (α := List Equation) x.2.2.1⟩, fun x h => pair_enc (OfSh.enc (α := List Int) x.1 h.1) (pair_enc (OfSh.enc (α := List Equation) x.2.1 h.2.1) (pair_enc (OfSh.enc (α := List Equation) x.2.2.1 h.2.2.1) (rfl))), rfl, fun x h => ⟨OfSh.sm (α := List Int) x.1 h.1, OfSh.sm (α := List Equation) x.2.1 h.2.1, OfSh.sm (α := List Equation) x.2.2.1 h.2.2.1⟩⟩
@[reducible] def sh_Put : Sh := .pair (.int .i64) (.pair (.sl (.int .u8)) .unit)
instance : OfSh sh_Put Put := ⟨fun x => ⟨OfSh.of (s := (.int .i64)) (α := Int) x.1, OfSh.of (s := (.sl (.int .u8))) (α := List UInt8) x.2.1⟩, fun x h => pair_enc (OfSh.enc (α := Int) x.1 h.1) (pair_enc (OfSh.enc (α := List UInt8) x.2.1 h.2.1) (rfl)), rfl, fun x h => OfSh.sm (α := List UInt8) x.2.1 h.2.1⟩
@[reducible] def sh_Disk : Sh := .pair (.sl (.sl (.int .u8))) (.pair (.sl sh_Put) .unit)
instance : OfSh sh_Disk Disk := ⟨fun x => ⟨OfSh.of (s := (.sl (.sl (.int .u8)))) (α := List (List UInt8)) x.1, OfSh.of (s := (.sl sh_Put)) (α := List Put) x.2.1⟩, fun x h => pair_enc (OfSh.enc (α := List (List UInt8)) x.1 h.1) (pair_enc (OfSh.enc (α := List Put) x.2.1 h.2.1) (rfl)), rfl, fun x h => ⟨OfSh.sm (α := List (List UInt8)) x.1 h.1, OfSh.sm (α := List Put) x.2.1 h.2.1⟩⟩
@[reducible] def sh_Act : Sh := .pair (.int .i64) (.pair sh_Put .unit)
instance : OfSh sh_Act Act := ⟨fun x => ⟨OfSh.of (s := (.int .i64)) (α := Int) x.1, OfSh.of (s := sh_Put) (α := Put) x.2.1⟩, fun x h => pair_enc (OfSh.enc (α := Int) x.1 h.1) (pair_enc (OfSh.enc (α := Put) x.2.1 h.2.1) (rfl)), rfl, fun x h => OfSh.sm (α := Put) x.2.1 h.2.1⟩
end Ev.Ty
