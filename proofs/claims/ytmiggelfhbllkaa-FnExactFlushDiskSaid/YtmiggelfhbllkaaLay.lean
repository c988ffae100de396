/- Contracts of the library, laid at this program. -/
import Derived.Test.YtmiggelfhbllkaaProg
import Derived.KernelRfl
import Derived.Test.YtmiggelfhbllkaaEvClone
import Derived.Shelf.SlicesE.Clone
namespace Go.Proofs
open Go Go.Shelf
set_option maxRecDepth 1000000
def Try.laysSlLaysE0n41b_ren : Go.Shelf.Ren := ⟨fun | 41 => 95 | n => n, fun | 22 => 66 | 23 => 5 | 4 => 4 | n => n, fun | n => n⟩
theorem Try.laysSlLaysE0n41b : Go.Proofs.SlLaysE0.n41 Try.prog Try.laysSlLaysE0n41b_ren where
  mixed := by kernel_rfl
  f41 := ⟨Try.f95.name, by decide, Try.func95.trans (congrArg some (by kernel_rfl))⟩
  t4 := Try.underlying4
  a4 := Try.isAgg4
  z4 := Try.sizeOf4
  v4 := Try.zeroValue4
  t22 := Try.underlying66
  a22 := Try.isAgg66
  z22 := Try.sizeOf66
  v22 := Try.zeroValue66
theorem cloneb_sound_here : ∀ {E : Ev.Env} (args : List Ev.T) (r : Ev.T × List Ev.T), Ev.cloneFE 1 1 E args = some r → Ev.Meets Try.prog ⟨none, .sl, true, false, false⟩ 95 args r := by
  intro E args r h
  have q : (Try.prog.info? 5).isSome = true := by kernel_rfl
  obtain ⟨i0, hi⟩ := Option.isSome_iff_exists.1 q
  have hz : (Try.prog.info? 5).map (fun i => (i.zero, i.size, i.bytes)) = some (some (.int .u8 0), 1, 1) := by kernel_rfl
  rw [hi] at hz
  have hz := Option.some.inj hz
  have e1 : i0.zero = some (.int .u8 0) := congrArg Prod.fst hz
  have e2 : i0.size = 1 := congrArg (fun x => x.2.1) hz
  have e3 : i0.bytes = 1 := congrArg (fun x => x.2.2) hz
  exact Ev.cloneF_sound (size := 1) (bytes := 1) (by decide) Try.func95 (by kernel_rfl) (by kernel_rfl) (fun b off n c news w q1 q2 q3 q4 q5 => AnyE.slices_Clone Try.laysSlLaysE0n41b i0 _ 1 1 hi e1 e2 e3 rfl (by decide) Try.sizeOf5 b off n c news w q1 q2 q3 q4 q5) (fun a c w => Ev.clone_empty Try.laysSlLaysE0n41b i0 _ 1 1 hi e1 e2 e3 rfl (by decide) Try.sizeOf5 a c w) (fun n c w => AnyE.slices_Clone_nil Try.laysSlLaysE0n41b n c w) h
end Go.Proofs
