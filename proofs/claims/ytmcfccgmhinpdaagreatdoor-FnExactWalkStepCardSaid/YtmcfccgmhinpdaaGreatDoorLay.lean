/- Contracts of the library, laid at this program. -/
import Derived.Test.YtmcfccgmhinpdaaGreatDoorProg
import Derived.KernelRfl
import Derived.Test.YtmcfccgmhinpdaaGreatDoorEvInts
import Derived.Test.YtmcfccgmhinpdaaGreatDoorEvTrim
import Derived.Shelf.SlicesG.Clone
import Derived.Shelf.SlicesG.CompactI
import Derived.Shelf.SortM.Plain
import Derived.Shelf.SortM.SortNone
namespace Go.Proofs
open Go Go.Shelf
set_option maxRecDepth 1000000
def Tryz.laysLaysn160_ren : Go.Shelf.Ren := ⟨fun | 160 => 243 | 232 => 259 | 231 => 258 | 227 => 260 | 234 => 262 | 233 => 261 | 236 => 264 | 235 => 263 | 228 => 276 | 271 => 279 | 151 => 278 | 197 => 277 | 120 => 297 | 152 => 296 | 260 => 295 | 137 => 307 | 119 => 308 | 224 => 309 | 225 => 310 | 217 => 312 | 266 => 313 | n => n, fun | 9 => 9 | 4 => 4 | 3 => 3 | 5 => 5 | 117 => 281 | 116 => 280 | 0 => 0 | 124 => 284 | 21 => 21 | 105 => 294 | 46 => 287 | 119 => 321 | 139 => 324 | 138 => 323 | n => n, fun | 3 => 0 | 4 => 1 | n => n⟩
theorem Tryz.laysLaysn160 : Go.Proofs.Lays.n160 Tryz.prog Tryz.laysLaysn160_ren where
  mixed := by kernel_rfl
  f119 := Tryz.func308.trans (congrArg some (by kernel_rfl))
  f120 := Tryz.func297.trans (congrArg some (by kernel_rfl))
  f137 := Tryz.func307.trans (congrArg some (by kernel_rfl))
  f151 := Tryz.func278.trans (congrArg some (by kernel_rfl))
  f152 := Tryz.func296.trans (congrArg some (by kernel_rfl))
  f160 := Tryz.func243.trans (congrArg some (by kernel_rfl))
  f197 := Tryz.func277.trans (congrArg some (by kernel_rfl))
  f217 := Tryz.func312.trans (congrArg some (by kernel_rfl))
  f224 := Tryz.func309.trans (congrArg some (by kernel_rfl))
  f225 := Tryz.func310.trans (congrArg some (by kernel_rfl))
  f227 := Tryz.func260.trans (congrArg some (by kernel_rfl))
  f228 := Tryz.func276.trans (congrArg some (by kernel_rfl))
  f231 := Tryz.func258.trans (congrArg some (by kernel_rfl))
  f232 := Tryz.func259.trans (congrArg some (by kernel_rfl))
  f233 := Tryz.func261.trans (congrArg some (by kernel_rfl))
  f234 := Tryz.func262.trans (congrArg some (by kernel_rfl))
  f235 := Tryz.func263.trans (congrArg some (by kernel_rfl))
  f236 := Tryz.func264.trans (congrArg some (by kernel_rfl))
  f260 := Tryz.func295.trans (congrArg some (by kernel_rfl))
  f266 := Tryz.func313.trans (congrArg some (by kernel_rfl))
  f271 := Tryz.func279.trans (congrArg some (by kernel_rfl))
  t0 := Tryz.underlying0
  a0 := Tryz.isAgg0
  z0 := Tryz.sizeOf0
  v0 := Tryz.zeroValue0
  t3 := Tryz.underlying3
  a3 := Tryz.isAgg3
  z3 := Tryz.sizeOf3
  v3 := Tryz.zeroValue3
  t4 := Tryz.underlying4
  a4 := Tryz.isAgg4
  z4 := Tryz.sizeOf4
  v4 := Tryz.zeroValue4
  t5 := Tryz.underlying5
  a5 := Tryz.isAgg5
  z5 := Tryz.sizeOf5
  v5 := Tryz.zeroValue5
  t9 := Tryz.underlying9
  a9 := Tryz.isAgg9
  z9 := Tryz.sizeOf9
  v9 := Tryz.zeroValue9
  t21 := Tryz.underlying21
  a21 := Tryz.isAgg21
  z21 := Tryz.sizeOf21
  v21 := Tryz.zeroValue21
  t46 := Tryz.underlying287
  a46 := Tryz.isAgg287
  z46 := Tryz.sizeOf287
  v46 := Tryz.zeroValue287
  t105 := Tryz.underlying294
  a105 := Tryz.isAgg294
  z105 := Tryz.sizeOf294
  v105 := Tryz.zeroValue294
  t116 := Tryz.underlying280
  a116 := Tryz.isAgg280
  z116 := Tryz.sizeOf280
  t117 := Tryz.underlying281
  a117 := Tryz.isAgg281
  z117 := Tryz.sizeOf281
  v117 := Tryz.zeroValue281
  t119 := Tryz.underlying321
  a119 := Tryz.isAgg321
  z119 := Tryz.sizeOf321
  t124 := Tryz.underlying284
  a124 := Tryz.isAgg284
  z124 := Tryz.sizeOf284
  v124 := Tryz.zeroValue284
  t138 := Tryz.underlying323
  a138 := Tryz.isAgg323
  z138 := Tryz.sizeOf323
  v138 := Tryz.zeroValue323
  t139 := Tryz.underlying324
  a139 := Tryz.isAgg324
  z139 := Tryz.sizeOf324
  v139 := Tryz.zeroValue324
  g3 := by kernel_rfl
  g4 := by kernel_rfl
theorem trim_sound_here : ∀ {E : Ev.Env} (args : List Ev.T) (r : Ev.T × List Ev.T), Ev.trimE E args = some r → Ev.Meets Tryz.prog ⟨none, .sl, true, false, false⟩ 243 args r :=
  fun _ _ h => Ev.trim_sound Tryz.laysLaysn160 (by kernel_rfl) Tryz.func243 (by kernel_rfl) (by kernel_rfl) h
def Tryz.laysSlLaysMn5_ren : Go.Shelf.Ren := ⟨fun | 5 => 250 | 8 => 266 | 7 => 265 | 19 => 289 | 20 => 290 | 10 => 280 | 11 => 281 | 12 => 282 | 13 => 283 | 14 => 284 | 15 => 285 | 16 => 286 | 17 => 287 | 18 => 288 | 30 => 298 | 31 => 299 | 32 => 300 | 33 => 301 | 34 => 302 | 35 => 303 | 40 => 311 | n => n, fun | 23 => 48 | 25 => 2 | 3 => 3 | 32 => 287 | 22 => 48 | 0 => 0 | 44 => 307 | 46 => 309 | 4 => 4 | 36 => 299 | 35 => 298 | 41 => 304 | 5 => 5 | 9 => 9 | 53 => 313 | 57 => 317 | 63 => 329 | 64 => 330 | n => n, fun | n => n⟩
theorem Tryz.laysSlLaysMn5 : Go.Proofs.SlLaysM.n5 Tryz.prog Tryz.laysSlLaysMn5_ren where
  mixed := by kernel_rfl
  f5 := ⟨Tryz.f250.name, by decide, Tryz.func250.trans (congrArg some (by kernel_rfl))⟩
  f7 := ⟨Tryz.f265.name, by decide, Tryz.func265.trans (congrArg some (by kernel_rfl))⟩
  f8 := Tryz.func266.trans (congrArg some (by kernel_rfl))
  f10 := ⟨Tryz.f280.name, by decide, Tryz.func280.trans (congrArg some (by kernel_rfl))⟩
  f11 := ⟨Tryz.f281.name, by decide, Tryz.func281.trans (congrArg some (by kernel_rfl))⟩
  f12 := ⟨Tryz.f282.name, by decide, Tryz.func282.trans (congrArg some (by kernel_rfl))⟩
  f13 := ⟨Tryz.f283.name, by decide, Tryz.func283.trans (congrArg some (by kernel_rfl))⟩
  f14 := ⟨Tryz.f284.name, by decide, Tryz.func284.trans (congrArg some (by kernel_rfl))⟩
  f15 := ⟨Tryz.f285.name, by decide, Tryz.func285.trans (congrArg some (by kernel_rfl))⟩
  f16 := ⟨Tryz.f286.name, by decide, Tryz.func286.trans (congrArg some (by kernel_rfl))⟩
  f17 := ⟨Tryz.f287.name, by decide, Tryz.func287.trans (congrArg some (by kernel_rfl))⟩
  f18 := ⟨Tryz.f288.name, by decide, Tryz.func288.trans (congrArg some (by kernel_rfl))⟩
  f19 := Tryz.func289.trans (congrArg some (by kernel_rfl))
  f20 := Tryz.func290.trans (congrArg some (by kernel_rfl))
  f30 := ⟨Tryz.f298.name, by decide, Tryz.func298.trans (congrArg some (by kernel_rfl))⟩
  f31 := Tryz.func299.trans (congrArg some (by kernel_rfl))
  f32 := Tryz.func300.trans (congrArg some (by kernel_rfl))
  f33 := ⟨Tryz.f301.name, by decide, Tryz.func301.trans (congrArg some (by kernel_rfl))⟩
  f34 := ⟨Tryz.f302.name, by decide, Tryz.func302.trans (congrArg some (by kernel_rfl))⟩
  f35 := ⟨Tryz.f303.name, by decide, Tryz.func303.trans (congrArg some (by kernel_rfl))⟩
  f40 := ⟨Tryz.f311.name, by decide, Tryz.func311.trans (congrArg some (by kernel_rfl))⟩
  t0 := Tryz.underlying0
  a0 := Tryz.isAgg0
  z0 := Tryz.sizeOf0
  v0 := Tryz.zeroValue0
  t3 := Tryz.underlying3
  a3 := Tryz.isAgg3
  z3 := Tryz.sizeOf3
  v3 := Tryz.zeroValue3
  t4 := Tryz.underlying4
  a4 := Tryz.isAgg4
  z4 := Tryz.sizeOf4
  v4 := Tryz.zeroValue4
  t5 := Tryz.underlying5
  a5 := Tryz.isAgg5
  z5 := Tryz.sizeOf5
  v5 := Tryz.zeroValue5
  t9 := Tryz.underlying9
  a9 := Tryz.isAgg9
  z9 := Tryz.sizeOf9
  v9 := Tryz.zeroValue9
  t22 := Tryz.underlying48
  a22 := Tryz.isAgg48
  z22 := Tryz.sizeOf48
  v22 := Tryz.zeroValue48
  t23 := Tryz.underlying48
  a23 := Tryz.isAgg48
  z23 := Tryz.sizeOf48
  v23 := Tryz.zeroValue48
  t25 := Tryz.underlying2
  a25 := Tryz.isAgg2
  z25 := Tryz.sizeOf2
  v25 := Tryz.zeroValue2
  t32 := Tryz.underlying287
  a32 := Tryz.isAgg287
  z32 := Tryz.sizeOf287
  v32 := Tryz.zeroValue287
  t35 := Tryz.underlying298
  a35 := Tryz.isAgg298
  z35 := Tryz.sizeOf298
  v35 := Tryz.zeroValue298
  t36 := Tryz.underlying299
  a36 := Tryz.isAgg299
  z36 := Tryz.sizeOf299
  v36 := Tryz.zeroValue299
  t41 := Tryz.underlying304
  a41 := Tryz.isAgg304
  z41 := Tryz.sizeOf304
  v41 := Tryz.zeroValue304
  t44 := Tryz.underlying307
  a44 := Tryz.isAgg307
  z44 := Tryz.sizeOf307
  v44 := Tryz.zeroValue307
  t46 := Tryz.underlying309
  a46 := Tryz.isAgg309
  z46 := Tryz.sizeOf309
  v46 := Tryz.zeroValue309
  t53 := Tryz.underlying313
  a53 := Tryz.isAgg313
  z53 := Tryz.sizeOf313
  v53 := Tryz.zeroValue313
  t57 := Tryz.underlying317
  a57 := Tryz.isAgg317
  z57 := Tryz.sizeOf317
  v57 := Tryz.zeroValue317
  t63 := Tryz.underlying329
  a63 := Tryz.isAgg329
  z63 := Tryz.sizeOf329
  v63 := Tryz.zeroValue329
  t64 := Tryz.underlying330
  a64 := Tryz.isAgg330
  z64 := Tryz.sizeOf330
  v64 := Tryz.zeroValue330
theorem sort_sound_here : ∀ {E : Ev.Env} (args : List Ev.T) (r : Ev.T × List Ev.T), Ev.sortE E args = some r → Ev.Meets Tryz.prog ⟨some 0, .sl, false, false, false⟩ 250 args r :=
  fun _ _ h => Ev.sort_sound Tryz.func250 (by kernel_rfl) (by kernel_rfl) (fun blk off cap zs w h1 h2 h3 => AnyM.slices_Sort_int Tryz.laysSlLaysMn5 blk off cap zs w h1 h2 h3) (fun p cap w => AnyM.slices_Sort_int_none Tryz.laysSlLaysMn5 p cap w) h
def Tryz.laysSlLaysNn43_ren : Go.Shelf.Ren := ⟨fun | 43 => 251 | n => n, fun | 22 => 48 | 23 => 2 | 3 => 3 | 4 => 4 | 0 => 0 | n => n, fun | n => n⟩
theorem Tryz.laysSlLaysNn43 : Go.Proofs.SlLaysN.n43 Tryz.prog Tryz.laysSlLaysNn43_ren where
  mixed := by kernel_rfl
  f43 := ⟨Tryz.f251.name, by decide, Tryz.func251.trans (congrArg some (by kernel_rfl))⟩
  t0 := Tryz.underlying0
  a0 := Tryz.isAgg0
  z0 := Tryz.sizeOf0
  v0 := Tryz.zeroValue0
  t3 := Tryz.underlying3
  a3 := Tryz.isAgg3
  z3 := Tryz.sizeOf3
  v3 := Tryz.zeroValue3
  t4 := Tryz.underlying4
  a4 := Tryz.isAgg4
  z4 := Tryz.sizeOf4
  v4 := Tryz.zeroValue4
  t22 := Tryz.underlying48
  a22 := Tryz.isAgg48
  z22 := Tryz.sizeOf48
  v22 := Tryz.zeroValue48
  t23 := Tryz.underlying2
  a23 := Tryz.isAgg2
  z23 := Tryz.sizeOf2
  v23 := Tryz.zeroValue2
  i23 := by kernel_rfl
theorem compact_sound_here : ∀ {E : Ev.Env} (args : List Ev.T) (r : Ev.T × List Ev.T), Ev.compactE E args = some r → Ev.Meets Tryz.prog ⟨some 0, .sl, true, true, false⟩ 251 args r :=
  fun _ _ h => Ev.compact_sound Tryz.func251 (by kernel_rfl) (by kernel_rfl) (fun blk off cap zs w h1 h2 h3 => AnyG.slices_Compact_int Tryz.laysSlLaysNn43 blk off cap zs w h1 h2 h3) (fun p cap w => AnyG.slices_Compact_int_empty Tryz.laysSlLaysNn43 p cap w) h
def Tryz.laysSlLaysNn41_ren : Go.Shelf.Ren := ⟨fun | 41 => 207 | n => n, fun | 22 => 48 | 23 => 2 | 4 => 4 | n => n, fun | n => n⟩
theorem Tryz.laysSlLaysNn41 : Go.Proofs.SlLaysN.n41 Tryz.prog Tryz.laysSlLaysNn41_ren where
  mixed := by kernel_rfl
  f41 := ⟨Tryz.f207.name, by decide, Tryz.func207.trans (congrArg some (by kernel_rfl))⟩
  t4 := Tryz.underlying4
  a4 := Tryz.isAgg4
  z4 := Tryz.sizeOf4
  v4 := Tryz.zeroValue4
  t22 := Tryz.underlying48
  a22 := Tryz.isAgg48
  z22 := Tryz.sizeOf48
  v22 := Tryz.zeroValue48
  t23 := Tryz.underlying2
  a23 := Tryz.isAgg2
  z23 := Tryz.sizeOf2
  v23 := Tryz.zeroValue2
  i23 := by kernel_rfl
theorem clone_sound_here : ∀ {E : Ev.Env} (args : List Ev.T) (r : Ev.T × List Ev.T), Ev.cloneE E args = some r → Ev.Meets Tryz.prog ⟨none, .sl, true, false, false⟩ 207 args r :=
  fun _ _ h => Ev.clone_sound Tryz.func207 (by kernel_rfl) (by kernel_rfl) (fun b off n c zs w h1 h2 h3 => AnyG.slices_Clone_int Tryz.laysSlLaysNn41 b off n c zs w h1 h2 h3) (fun a c w => AnyG.slices_Clone_int_zero Tryz.laysSlLaysNn41 a c w) (fun n c w => AnyG.slices_Clone_int_nil Tryz.laysSlLaysNn41 n c w) h
end Go.Proofs
