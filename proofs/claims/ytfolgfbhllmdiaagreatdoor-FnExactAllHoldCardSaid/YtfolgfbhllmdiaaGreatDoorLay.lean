/- Contracts of the library, laid at this program. -/
import Derived.Test.YtfolgfbhllmdiaaGreatDoorProg
import Derived.KernelRfl
import Derived.Test.YtfolgfbhllmdiaaGreatDoorEvInts
import Derived.Test.YtfolgfbhllmdiaaGreatDoorEvTrim
import Derived.Shelf.SlicesG.Clone
import Derived.Shelf.SlicesG.CompactI
import Derived.Shelf.SortM.Plain
import Derived.Shelf.SortM.SortNone
namespace Go.Proofs
open Go Go.Shelf
set_option maxRecDepth 1000000
def Tryz.laysn160_ren : Go.Shelf.Ren := ⟨fun | 160 => 298 | 232 => 330 | 231 => 329 | 227 => 331 | 234 => 333 | 233 => 332 | 236 => 335 | 235 => 334 | 228 => 360 | 271 => 363 | 151 => 362 | 197 => 361 | 120 => 377 | 152 => 376 | 260 => 375 | 137 => 382 | 119 => 383 | 224 => 384 | 225 => 385 | 217 => 390 | 266 => 393 | n => n, fun | 9 => 9 | 4 => 4 | 3 => 3 | 5 => 5 | 117 => 359 | 116 => 358 | 0 => 0 | 124 => 362 | 21 => 21 | 105 => 384 | 46 => 267 | 119 => 404 | 139 => 407 | 138 => 406 | n => n, fun | 3 => 1 | 4 => 2 | n => n⟩
theorem Tryz.laysn160 : Go.Proofs.Lays.n160 Tryz.prog Tryz.laysn160_ren where
  mixed := by kernel_rfl
  f119 := Tryz.func383.trans (congrArg some (by kernel_rfl))
  f120 := Tryz.func377.trans (congrArg some (by kernel_rfl))
  f137 := Tryz.func382.trans (congrArg some (by kernel_rfl))
  f151 := Tryz.func362.trans (congrArg some (by kernel_rfl))
  f152 := Tryz.func376.trans (congrArg some (by kernel_rfl))
  f160 := Tryz.func298.trans (congrArg some (by kernel_rfl))
  f197 := Tryz.func361.trans (congrArg some (by kernel_rfl))
  f217 := Tryz.func390.trans (congrArg some (by kernel_rfl))
  f224 := Tryz.func384.trans (congrArg some (by kernel_rfl))
  f225 := Tryz.func385.trans (congrArg some (by kernel_rfl))
  f227 := Tryz.func331.trans (congrArg some (by kernel_rfl))
  f228 := Tryz.func360.trans (congrArg some (by kernel_rfl))
  f231 := Tryz.func329.trans (congrArg some (by kernel_rfl))
  f232 := Tryz.func330.trans (congrArg some (by kernel_rfl))
  f233 := Tryz.func332.trans (congrArg some (by kernel_rfl))
  f234 := Tryz.func333.trans (congrArg some (by kernel_rfl))
  f235 := Tryz.func334.trans (congrArg some (by kernel_rfl))
  f236 := Tryz.func335.trans (congrArg some (by kernel_rfl))
  f260 := Tryz.func375.trans (congrArg some (by kernel_rfl))
  f266 := Tryz.func393.trans (congrArg some (by kernel_rfl))
  f271 := Tryz.func363.trans (congrArg some (by kernel_rfl))
  t0 := Tryz.underlying0
  a0 := Tryz.isAgg0
  z0 := Tryz.sizeOf0
  v0 := Tryz.zeroValue0
  t3 := Tryz.underlying3
  a3 := Tryz.isAgg3
  z3 := Tryz.sizeOf3
  v3 := Tryz.zeroValue3
  t4 := Tryz.underlying4
  a4 := Tryz.isAgg4
  z4 := Tryz.sizeOf4
  v4 := Tryz.zeroValue4
  t5 := Tryz.underlying5
  a5 := Tryz.isAgg5
  z5 := Tryz.sizeOf5
  v5 := Tryz.zeroValue5
  t9 := Tryz.underlying9
  a9 := Tryz.isAgg9
  z9 := Tryz.sizeOf9
  v9 := Tryz.zeroValue9
  t21 := Tryz.underlying21
  a21 := Tryz.isAgg21
  z21 := Tryz.sizeOf21
  v21 := Tryz.zeroValue21
  t46 := Tryz.underlying267
  a46 := Tryz.isAgg267
  z46 := Tryz.sizeOf267
  v46 := Tryz.zeroValue267
  t105 := Tryz.underlying384
  a105 := Tryz.isAgg384
  z105 := Tryz.sizeOf384
  v105 := Tryz.zeroValue384
  t116 := Tryz.underlying358
  a116 := Tryz.isAgg358
  z116 := Tryz.sizeOf358
  t117 := Tryz.underlying359
  a117 := Tryz.isAgg359
  z117 := Tryz.sizeOf359
  v117 := Tryz.zeroValue359
  t119 := Tryz.underlying404
  a119 := Tryz.isAgg404
  z119 := Tryz.sizeOf404
  t124 := Tryz.underlying362
  a124 := Tryz.isAgg362
  z124 := Tryz.sizeOf362
  v124 := Tryz.zeroValue362
  t138 := Tryz.underlying406
  a138 := Tryz.isAgg406
  z138 := Tryz.sizeOf406
  v138 := Tryz.zeroValue406
  t139 := Tryz.underlying407
  a139 := Tryz.isAgg407
  z139 := Tryz.sizeOf407
  v139 := Tryz.zeroValue407
  g3 := by kernel_rfl
  g4 := by kernel_rfl
theorem trim_sound_here : ∀ {E : Ev.Env} (args : List Ev.T) (r : Ev.T × List Ev.T), Ev.trimE E args = some r → Ev.Meets Tryz.prog ⟨none, .sl, true, false, false⟩ 298 args r :=
  fun _ _ h => Ev.trim_sound Tryz.laysn160 (by kernel_rfl) Tryz.func298 (by kernel_rfl) (by kernel_rfl) h
def Tryz.laysn5_ren : Go.Shelf.Ren := ⟨fun | 5 => 259 | 8 => 243 | 7 => 304 | 19 => 292 | 20 => 293 | 10 => 341 | 11 => 342 | 12 => 343 | 13 => 344 | 14 => 345 | 15 => 346 | 16 => 347 | 17 => 348 | 18 => 349 | 30 => 367 | 31 => 323 | 32 => 324 | 33 => 368 | 34 => 369 | 35 => 370 | 40 => 381 | n => n, fun | 23 => 27 | 25 => 2 | 3 => 3 | 32 => 267 | 22 => 27 | 0 => 0 | 44 => 323 | 46 => 325 | 4 => 4 | 36 => 316 | 35 => 315 | 41 => 320 | 5 => 5 | 9 => 9 | 53 => 348 | 57 => 352 | 63 => 380 | 64 => 381 | n => n, fun | n => n⟩
theorem Tryz.laysn5 : Go.Proofs.SlLaysM.n5 Tryz.prog Tryz.laysn5_ren where
  mixed := by kernel_rfl
  f5 := ⟨Tryz.f259.name, by decide, Tryz.func259.trans (congrArg some (by kernel_rfl))⟩
  f7 := ⟨Tryz.f304.name, by decide, Tryz.func304.trans (congrArg some (by kernel_rfl))⟩
  f8 := Tryz.func243.trans (congrArg some (by kernel_rfl))
  f10 := ⟨Tryz.f341.name, by decide, Tryz.func341.trans (congrArg some (by kernel_rfl))⟩
  f11 := ⟨Tryz.f342.name, by decide, Tryz.func342.trans (congrArg some (by kernel_rfl))⟩
  f12 := ⟨Tryz.f343.name, by decide, Tryz.func343.trans (congrArg some (by kernel_rfl))⟩
  f13 := ⟨Tryz.f344.name, by decide, Tryz.func344.trans (congrArg some (by kernel_rfl))⟩
  f14 := ⟨Tryz.f345.name, by decide, Tryz.func345.trans (congrArg some (by kernel_rfl))⟩
  f15 := ⟨Tryz.f346.name, by decide, Tryz.func346.trans (congrArg some (by kernel_rfl))⟩
  f16 := ⟨Tryz.f347.name, by decide, Tryz.func347.trans (congrArg some (by kernel_rfl))⟩
  f17 := ⟨Tryz.f348.name, by decide, Tryz.func348.trans (congrArg some (by kernel_rfl))⟩
  f18 := ⟨Tryz.f349.name, by decide, Tryz.func349.trans (congrArg some (by kernel_rfl))⟩
  f19 := Tryz.func292.trans (congrArg some (by kernel_rfl))
  f20 := Tryz.func293.trans (congrArg some (by kernel_rfl))
  f30 := ⟨Tryz.f367.name, by decide, Tryz.func367.trans (congrArg some (by kernel_rfl))⟩
  f31 := Tryz.func323.trans (congrArg some (by kernel_rfl))
  f32 := Tryz.func324.trans (congrArg some (by kernel_rfl))
  f33 := ⟨Tryz.f368.name, by decide, Tryz.func368.trans (congrArg some (by kernel_rfl))⟩
  f34 := ⟨Tryz.f369.name, by decide, Tryz.func369.trans (congrArg some (by kernel_rfl))⟩
  f35 := ⟨Tryz.f370.name, by decide, Tryz.func370.trans (congrArg some (by kernel_rfl))⟩
  f40 := ⟨Tryz.f381.name, by decide, Tryz.func381.trans (congrArg some (by kernel_rfl))⟩
  t0 := Tryz.underlying0
  a0 := Tryz.isAgg0
  z0 := Tryz.sizeOf0
  v0 := Tryz.zeroValue0
  t3 := Tryz.underlying3
  a3 := Tryz.isAgg3
  z3 := Tryz.sizeOf3
  v3 := Tryz.zeroValue3
  t4 := Tryz.underlying4
  a4 := Tryz.isAgg4
  z4 := Tryz.sizeOf4
  v4 := Tryz.zeroValue4
  t5 := Tryz.underlying5
  a5 := Tryz.isAgg5
  z5 := Tryz.sizeOf5
  v5 := Tryz.zeroValue5
  t9 := Tryz.underlying9
  a9 := Tryz.isAgg9
  z9 := Tryz.sizeOf9
  v9 := Tryz.zeroValue9
  t22 := Tryz.underlying27
  a22 := Tryz.isAgg27
  z22 := Tryz.sizeOf27
  v22 := Tryz.zeroValue27
  t23 := Tryz.underlying27
  a23 := Tryz.isAgg27
  z23 := Tryz.sizeOf27
  v23 := Tryz.zeroValue27
  t25 := Tryz.underlying2
  a25 := Tryz.isAgg2
  z25 := Tryz.sizeOf2
  v25 := Tryz.zeroValue2
  t32 := Tryz.underlying267
  a32 := Tryz.isAgg267
  z32 := Tryz.sizeOf267
  v32 := Tryz.zeroValue267
  t35 := Tryz.underlying315
  a35 := Tryz.isAgg315
  z35 := Tryz.sizeOf315
  v35 := Tryz.zeroValue315
  t36 := Tryz.underlying316
  a36 := Tryz.isAgg316
  z36 := Tryz.sizeOf316
  v36 := Tryz.zeroValue316
  t41 := Tryz.underlying320
  a41 := Tryz.isAgg320
  z41 := Tryz.sizeOf320
  v41 := Tryz.zeroValue320
  t44 := Tryz.underlying323
  a44 := Tryz.isAgg323
  z44 := Tryz.sizeOf323
  v44 := Tryz.zeroValue323
  t46 := Tryz.underlying325
  a46 := Tryz.isAgg325
  z46 := Tryz.sizeOf325
  v46 := Tryz.zeroValue325
  t53 := Tryz.underlying348
  a53 := Tryz.isAgg348
  z53 := Tryz.sizeOf348
  v53 := Tryz.zeroValue348
  t57 := Tryz.underlying352
  a57 := Tryz.isAgg352
  z57 := Tryz.sizeOf352
  v57 := Tryz.zeroValue352
  t63 := Tryz.underlying380
  a63 := Tryz.isAgg380
  z63 := Tryz.sizeOf380
  v63 := Tryz.zeroValue380
  t64 := Tryz.underlying381
  a64 := Tryz.isAgg381
  z64 := Tryz.sizeOf381
  v64 := Tryz.zeroValue381
theorem sort_sound_here : ∀ {E : Ev.Env} (args : List Ev.T) (r : Ev.T × List Ev.T), Ev.sortE E args = some r → Ev.Meets Tryz.prog ⟨some 0, .sl, false, false, false⟩ 259 args r :=
  fun _ _ h => Ev.sort_sound Tryz.func259 (by kernel_rfl) (by kernel_rfl) (fun blk off cap zs w h1 h2 h3 => AnyM.slices_Sort_int Tryz.laysn5 blk off cap zs w h1 h2 h3) (fun p cap w => AnyM.slices_Sort_int_none Tryz.laysn5 p cap w) h
def Tryz.laysn43_ren : Go.Shelf.Ren := ⟨fun | 43 => 260 | n => n, fun | 22 => 27 | 23 => 2 | 3 => 3 | 4 => 4 | 0 => 0 | n => n, fun | n => n⟩
theorem Tryz.laysn43 : Go.Proofs.SlLaysN.n43 Tryz.prog Tryz.laysn43_ren where
  mixed := by kernel_rfl
  f43 := ⟨Tryz.f260.name, by decide, Tryz.func260.trans (congrArg some (by kernel_rfl))⟩
  t0 := Tryz.underlying0
  a0 := Tryz.isAgg0
  z0 := Tryz.sizeOf0
  v0 := Tryz.zeroValue0
  t3 := Tryz.underlying3
  a3 := Tryz.isAgg3
  z3 := Tryz.sizeOf3
  v3 := Tryz.zeroValue3
  t4 := Tryz.underlying4
  a4 := Tryz.isAgg4
  z4 := Tryz.sizeOf4
  v4 := Tryz.zeroValue4
  t22 := Tryz.underlying27
  a22 := Tryz.isAgg27
  z22 := Tryz.sizeOf27
  v22 := Tryz.zeroValue27
  t23 := Tryz.underlying2
  a23 := Tryz.isAgg2
  z23 := Tryz.sizeOf2
  v23 := Tryz.zeroValue2
  i23 := by kernel_rfl
theorem compact_sound_here : ∀ {E : Ev.Env} (args : List Ev.T) (r : Ev.T × List Ev.T), Ev.compactE E args = some r → Ev.Meets Tryz.prog ⟨some 0, .sl, true, true, false⟩ 260 args r :=
  fun _ _ h => Ev.compact_sound Tryz.func260 (by kernel_rfl) (by kernel_rfl) (fun blk off cap zs w h1 h2 h3 => AnyG.slices_Compact_int Tryz.laysn43 blk off cap zs w h1 h2 h3) (fun p cap w => AnyG.slices_Compact_int_empty Tryz.laysn43 p cap w) h
def Tryz.laysn41_ren : Go.Shelf.Ren := ⟨fun | 41 => 92 | n => n, fun | 22 => 27 | 23 => 2 | 4 => 4 | n => n, fun | n => n⟩
theorem Tryz.laysn41 : Go.Proofs.SlLaysN.n41 Tryz.prog Tryz.laysn41_ren where
  mixed := by kernel_rfl
  f41 := ⟨Tryz.f92.name, by decide, Tryz.func92.trans (congrArg some (by kernel_rfl))⟩
  t4 := Tryz.underlying4
  a4 := Tryz.isAgg4
  z4 := Tryz.sizeOf4
  v4 := Tryz.zeroValue4
  t22 := Tryz.underlying27
  a22 := Tryz.isAgg27
  z22 := Tryz.sizeOf27
  v22 := Tryz.zeroValue27
  t23 := Tryz.underlying2
  a23 := Tryz.isAgg2
  z23 := Tryz.sizeOf2
  v23 := Tryz.zeroValue2
  i23 := by kernel_rfl
theorem clone_sound_here : ∀ {E : Ev.Env} (args : List Ev.T) (r : Ev.T × List Ev.T), Ev.cloneE E args = some r → Ev.Meets Tryz.prog ⟨none, .sl, true, false, false⟩ 92 args r :=
  fun _ _ h => Ev.clone_sound Tryz.func92 (by kernel_rfl) (by kernel_rfl) (fun b off n c zs w h1 h2 h3 => AnyG.slices_Clone_int Tryz.laysn41 b off n c zs w h1 h2 h3) (fun a c w => AnyG.slices_Clone_int_zero Tryz.laysn41 a c w) (fun n c w => AnyG.slices_Clone_int_nil Tryz.laysn41 n c w) h
end Go.Proofs
