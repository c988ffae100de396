/- Steps on the way to RowFollows: EvTrim, Lay, F, TyBase, TyData, TyOf, TyLoops. -/
import Derived.Test.YtleelbkgajbkfaaGreatDoorM2
import Derived.Shelf.Strings.SlTrimAscii
import Derived.Test.YtleelbkgajbkfaaGreatDoorProg
import Derived.KernelRfl
import Derived.Shelf.SlicesG.Clone
import Derived.Shelf.SlicesG.CompactI
import Derived.Shelf.SortM.Plain
import Derived.Shelf.SortM.SortNone
import Derived.Lib.Strings
set_option linter.unusedSectionVars false
set_option linter.unusedVariables false
set_option linter.unusedSimpArgs false
section
namespace Ev
open Go Go.WideShapes Go.RowKit Go.Proofs Go.Shelf
def trimE:Env->List T->R:=fun _ args=>match args with
 |[.str s,.str c]=>bif decide (s.size<=9223372036854775807)&&decide (c.size<4294967281)&&c.data.toList.all (fun b=>decide (b.toNat<128))
  then some (.str ⟨(Lib.trimS s.data.toList c.data.toList).toArray⟩,[])else none
 |_=>none
theorem trim_sound{P:Program}{ρ:Ren}(L:Lays.n160 P ρ)(h116:(P.info? (ρ.t 116)).map (fun i=>(i.zero,i.size))=some (some (.agg (Array.replicate 256 (.bool false))),256))
 {fn:Func} (hf:P.funcs[ρ.f 160]?=some fn) (hb:fn.body.isSome=true) (hname:(fn.name=="runtime.NumGoroutine")=false) {E:Env} {args:List T} {r:T×List T} (h:trimE E args=some r) :
 Meets P ⟨none,.sl,true,false,false⟩ (ρ.f 160) args r:=by
 unfold trimE at h;split at h
 case h_2=>cases h
 rename_i s c;cases hd:decide (s.size<=9223372036854775807)&&decide (c.size<4294967281)&&c.data.toList.all (fun b=>decide (b.toNat<128))with
 |false=>rw[hd]at h;cases h
 |true=>
  rw[hd]at h;cases h;simp only[gC,gS]at hd;refine qn5 (v:=.string ⟨(Lib.trimS s.data.toList c.data.toList).toArray⟩) hf hb hname (fun w=>.str _) (fun w I J=>Iff.rfl) fun w vs I J hl _ hv=>?_
  have h0:vs[0]?=some (.string s):=by
   have hlt:0<vs.size:=by rw[hl];simp
   have:=qp7 (hv 0 (.str s) vs[0] rfl (by simp[hlt]));simp[hlt,this]
  have h1:vs[1]?=some (.string c):=by
   have hlt:1<vs.size:=by rw[hl];simp
   have:=qp7 (hv 1 (.str c) vs[1] rfl (by simp[hlt]));simp[hlt,this]
  have hvs:vs = #[.string s,.string c]:=by
   apply Array.ext
   ·rw[hl];rfl
   ·intro i h2 h3;have:i<2:=by rw[hl]at h2;exact h2
    match i,this with
    |0,_=>simpa[h2]using h0
    |1,_=>simpa[h2]using h1
  rw[hvs];exact Any.strings_Trim_laid L h116 s c w hd.1.1 hd.1.2 (ascii_of_all hd.2)
end Ev
end
section
namespace Go.Proofs
open Go Go.Shelf
set_option maxRecDepth 1000000
def Tryz.laysLaysn160_ren:Go.Shelf.Ren:=⟨fun|160=>133|232=>161|231=>160|227=>162|234=>164|233=>163|236=>166|235=>165|228=>187|271=>190|151=>189|197=>188|120=>205|152=>204|260=>203|137=>214|119=>215|224=>216|225=>217|217=>224|266=>227|n=>n,fun|9=>9|4=>4|3=>3|5=>5|117=>194|116=>193|0=>0|124=>197|21=>21|105=>219|46=>167|119=>247|139=>250|138=>249|n=>n,fun|3=>0|4=>1|n=>n⟩
theorem Tryz.laysLaysn160:Go.Proofs.Lays.n160 Tryz.prog Tryz.laysLaysn160_ren where
 mixed:=by kernel_rfl
 f119:=Tryz.func215.trans (congrArg some (by kernel_rfl))
 f120:=Tryz.func205.trans (congrArg some (by kernel_rfl))
 f137:=Tryz.func214.trans (congrArg some (by kernel_rfl))
 f151:=Tryz.func189.trans (congrArg some (by kernel_rfl))
 f152:=Tryz.func204.trans (congrArg some (by kernel_rfl))
 f160:=Tryz.func133.trans (congrArg some (by kernel_rfl))
 f197:=Tryz.func188.trans (congrArg some (by kernel_rfl))
 f217:=Tryz.func224.trans (congrArg some (by kernel_rfl))
 f224:=Tryz.func216.trans (congrArg some (by kernel_rfl))
 f225:=Tryz.func217.trans (congrArg some (by kernel_rfl))
 f227:=Tryz.func162.trans (congrArg some (by kernel_rfl))
 f228:=Tryz.func187.trans (congrArg some (by kernel_rfl))
 f231:=Tryz.func160.trans (congrArg some (by kernel_rfl))
 f232:=Tryz.func161.trans (congrArg some (by kernel_rfl))
 f233:=Tryz.func163.trans (congrArg some (by kernel_rfl))
 f234:=Tryz.func164.trans (congrArg some (by kernel_rfl))
 f235:=Tryz.func165.trans (congrArg some (by kernel_rfl))
 f236:=Tryz.func166.trans (congrArg some (by kernel_rfl))
 f260:=Tryz.func203.trans (congrArg some (by kernel_rfl))
 f266:=Tryz.func227.trans (congrArg some (by kernel_rfl))
 f271:=Tryz.func190.trans (congrArg some (by kernel_rfl))
 t0:=Tryz.underlying0
 a0:=Tryz.isAgg0
 z0:=Tryz.sizeOf0
 v0:=Tryz.zeroValue0
 t3:=Tryz.underlying3
 a3:=Tryz.isAgg3
 z3:=Tryz.sizeOf3
 v3:=Tryz.zeroValue3
 t4:=Tryz.underlying4
 a4:=Tryz.isAgg4
 z4:=Tryz.sizeOf4
 v4:=Tryz.zeroValue4
 t5:=Tryz.underlying5
 a5:=Tryz.isAgg5
 z5:=Tryz.sizeOf5
 v5:=Tryz.zeroValue5
 t9:=Tryz.underlying9
 a9:=Tryz.isAgg9
 z9:=Tryz.sizeOf9
 v9:=Tryz.zeroValue9
 t21:=Tryz.underlying21
 a21:=Tryz.isAgg21
 z21:=Tryz.sizeOf21
 v21:=Tryz.zeroValue21
 t46:=Tryz.underlying167
 a46:=Tryz.isAgg167
 z46:=Tryz.sizeOf167
 v46:=Tryz.zeroValue167
 t105:=Tryz.underlying219
 a105:=Tryz.isAgg219
 z105:=Tryz.sizeOf219
 v105:=Tryz.zeroValue219
 t116:=Tryz.underlying193
 a116:=Tryz.isAgg193
 z116:=Tryz.sizeOf193
 t117:=Tryz.underlying194
 a117:=Tryz.isAgg194
 z117:=Tryz.sizeOf194
 v117:=Tryz.zeroValue194
 t119:=Tryz.underlying247
 a119:=Tryz.isAgg247
 z119:=Tryz.sizeOf247
 t124:=Tryz.underlying197
 a124:=Tryz.isAgg197
 z124:=Tryz.sizeOf197
 v124:=Tryz.zeroValue197
 t138:=Tryz.underlying249
 a138:=Tryz.isAgg249
 z138:=Tryz.sizeOf249
 v138:=Tryz.zeroValue249
 t139:=Tryz.underlying250
 a139:=Tryz.isAgg250
 z139:=Tryz.sizeOf250
 v139:=Tryz.zeroValue250
 g3:=by kernel_rfl
 g4:=by kernel_rfl
theorem qhn:∀{E:Ev.Env}(args:List Ev.T)(r:Ev.T×List Ev.T),Ev.trimE E args=some r->Ev.Meets Tryz.prog ⟨none,.sl,true,false,false⟩ 133 args r:=
 fun _ _ h=>Ev.trim_sound Tryz.laysLaysn160 (by kernel_rfl) Tryz.func133 (by kernel_rfl) (by kernel_rfl) h
def Tryz.laysSlLaysMn5_ren:Go.Shelf.Ren:=⟨fun|5=>87|8=>129|7=>128|19=>158|20=>159|10=>149|11=>150|12=>151|13=>152|14=>153|15=>154|16=>155|17=>156|18=>157|30=>181|31=>182|32=>183|33=>184|34=>185|35=>186|40=>202|n=>n,fun|23=>30|25=>2|3=>3|32=>167|22=>30|0=>0|44=>188|46=>190|4=>4|36=>180|35=>179|41=>185|5=>5|9=>9|53=>212|57=>216|63=>233|64=>234|n=>n,fun|n=>n⟩
theorem Tryz.laysSlLaysMn5:Go.Proofs.SlLaysM.n5 Tryz.prog Tryz.laysSlLaysMn5_ren where
 mixed:=by kernel_rfl
 f5:=⟨Tryz.f87.name,by decide,Tryz.func87.trans (congrArg some (by kernel_rfl))⟩
 f7:=⟨Tryz.f128.name,by decide,Tryz.func128.trans (congrArg some (by kernel_rfl))⟩
 f8:=Tryz.func129.trans (congrArg some (by kernel_rfl))
 f10:=⟨Tryz.f149.name,by decide,Tryz.func149.trans (congrArg some (by kernel_rfl))⟩
 f11:=⟨Tryz.f150.name,by decide,Tryz.func150.trans (congrArg some (by kernel_rfl))⟩
 f12:=⟨Tryz.f151.name,by decide,Tryz.func151.trans (congrArg some (by kernel_rfl))⟩
 f13:=⟨Tryz.f152.name,by decide,Tryz.func152.trans (congrArg some (by kernel_rfl))⟩
 f14:=⟨Tryz.f153.name,by decide,Tryz.func153.trans (congrArg some (by kernel_rfl))⟩
 f15:=⟨Tryz.f154.name,by decide,Tryz.func154.trans (congrArg some (by kernel_rfl))⟩
 f16:=⟨Tryz.f155.name,by decide,Tryz.func155.trans (congrArg some (by kernel_rfl))⟩
 f17:=⟨Tryz.f156.name,by decide,Tryz.func156.trans (congrArg some (by kernel_rfl))⟩
 f18:=⟨Tryz.f157.name,by decide,Tryz.func157.trans (congrArg some (by kernel_rfl))⟩
 f19:=Tryz.func158.trans (congrArg some (by kernel_rfl))
 f20:=Tryz.func159.trans (congrArg some (by kernel_rfl))
 f30:=⟨Tryz.f181.name,by decide,Tryz.func181.trans (congrArg some (by kernel_rfl))⟩
 f31:=Tryz.func182.trans (congrArg some (by kernel_rfl))
 f32:=Tryz.func183.trans (congrArg some (by kernel_rfl))
 f33:=⟨Tryz.f184.name,by decide,Tryz.func184.trans (congrArg some (by kernel_rfl))⟩
 f34:=⟨Tryz.f185.name,by decide,Tryz.func185.trans (congrArg some (by kernel_rfl))⟩
 f35:=⟨Tryz.f186.name,by decide,Tryz.func186.trans (congrArg some (by kernel_rfl))⟩
 f40:=⟨Tryz.f202.name,by decide,Tryz.func202.trans (congrArg some (by kernel_rfl))⟩
 t0:=Tryz.underlying0
 a0:=Tryz.isAgg0
 z0:=Tryz.sizeOf0
 v0:=Tryz.zeroValue0
 t3:=Tryz.underlying3
 a3:=Tryz.isAgg3
 z3:=Tryz.sizeOf3
 v3:=Tryz.zeroValue3
 t4:=Tryz.underlying4
 a4:=Tryz.isAgg4
 z4:=Tryz.sizeOf4
 v4:=Tryz.zeroValue4
 t5:=Tryz.underlying5
 a5:=Tryz.isAgg5
 z5:=Tryz.sizeOf5
 v5:=Tryz.zeroValue5
 t9:=Tryz.underlying9
 a9:=Tryz.isAgg9
 z9:=Tryz.sizeOf9
 v9:=Tryz.zeroValue9
 t22:=Tryz.underlying30
 a22:=Tryz.isAgg30
 z22:=Tryz.sizeOf30
 v22:=Tryz.zeroValue30
 t23:=Tryz.underlying30
 a23:=Tryz.isAgg30
 z23:=Tryz.sizeOf30
 v23:=Tryz.zeroValue30
 t25:=Tryz.underlying2
 a25:=Tryz.isAgg2
 z25:=Tryz.sizeOf2
 v25:=Tryz.zeroValue2
 t32:=Tryz.underlying167
 a32:=Tryz.isAgg167
 z32:=Tryz.sizeOf167
 v32:=Tryz.zeroValue167
 t35:=Tryz.underlying179
 a35:=Tryz.isAgg179
 z35:=Tryz.sizeOf179
 v35:=Tryz.zeroValue179
 t36:=Tryz.underlying180
 a36:=Tryz.isAgg180
 z36:=Tryz.sizeOf180
 v36:=Tryz.zeroValue180
 t41:=Tryz.underlying185
 a41:=Tryz.isAgg185
 z41:=Tryz.sizeOf185
 v41:=Tryz.zeroValue185
 t44:=Tryz.underlying188
 a44:=Tryz.isAgg188
 z44:=Tryz.sizeOf188
 v44:=Tryz.zeroValue188
 t46:=Tryz.underlying190
 a46:=Tryz.isAgg190
 z46:=Tryz.sizeOf190
 v46:=Tryz.zeroValue190
 t53:=Tryz.underlying212
 a53:=Tryz.isAgg212
 z53:=Tryz.sizeOf212
 v53:=Tryz.zeroValue212
 t57:=Tryz.underlying216
 a57:=Tryz.isAgg216
 z57:=Tryz.sizeOf216
 v57:=Tryz.zeroValue216
 t63:=Tryz.underlying233
 a63:=Tryz.isAgg233
 z63:=Tryz.sizeOf233
 v63:=Tryz.zeroValue233
 t64:=Tryz.underlying234
 a64:=Tryz.isAgg234
 z64:=Tryz.sizeOf234
 v64:=Tryz.zeroValue234
theorem qgr:∀{E:Ev.Env}(args:List Ev.T)(r:Ev.T×List Ev.T),Ev.sortE E args=some r->Ev.Meets Tryz.prog ⟨some 0,.sl,false,false,false⟩ 87 args r:=
 fun _ _ h=>Ev.sort_sound Tryz.func87 (by kernel_rfl) (by kernel_rfl) (fun blk off cap zs w h1 h2 h3=>AnyM.slices_Sort_int Tryz.laysSlLaysMn5 blk off cap zs w h1 h2 h3) (fun p cap w=>AnyM.slices_Sort_int_none Tryz.laysSlLaysMn5 p cap w) h
def Tryz.laysSlLaysNn43_ren:Go.Shelf.Ren:=⟨fun|43=>88|n=>n,fun|22=>30|23=>2|3=>3|4=>4|0=>0|n=>n,fun|n=>n⟩
theorem Tryz.laysSlLaysNn43:Go.Proofs.SlLaysN.n43 Tryz.prog Tryz.laysSlLaysNn43_ren where
 mixed:=by kernel_rfl
 f43:=⟨Tryz.f88.name,by decide,Tryz.func88.trans (congrArg some (by kernel_rfl))⟩
 t0:=Tryz.underlying0
 a0:=Tryz.isAgg0
 z0:=Tryz.sizeOf0
 v0:=Tryz.zeroValue0
 t3:=Tryz.underlying3
 a3:=Tryz.isAgg3
 z3:=Tryz.sizeOf3
 v3:=Tryz.zeroValue3
 t4:=Tryz.underlying4
 a4:=Tryz.isAgg4
 z4:=Tryz.sizeOf4
 v4:=Tryz.zeroValue4
 t22:=Tryz.underlying30
 a22:=Tryz.isAgg30
 z22:=Tryz.sizeOf30
 v22:=Tryz.zeroValue30
 t23:=Tryz.underlying2
 a23:=Tryz.isAgg2
 z23:=Tryz.sizeOf2
 v23:=Tryz.zeroValue2
 i23:=by kernel_rfl
theorem qeb:∀{E:Ev.Env}(args:List Ev.T)(r:Ev.T×List Ev.T),Ev.compactE E args=some r->Ev.Meets Tryz.prog ⟨some 0,.sl,true,true,false⟩ 88 args r:=
 fun _ _ h=>Ev.compact_sound Tryz.func88 (by kernel_rfl) (by kernel_rfl) (fun blk off cap zs w h1 h2 h3=>AnyG.slices_Compact_int Tryz.laysSlLaysNn43 blk off cap zs w h1 h2 h3) (fun p cap w=>AnyG.slices_Compact_int_empty Tryz.laysSlLaysNn43 p cap w) h
def Tryz.laysSlLaysNn41_ren:Go.Shelf.Ren:=⟨fun|41=>139|n=>n,fun|22=>30|23=>2|4=>4|n=>n,fun|n=>n⟩
theorem Tryz.laysSlLaysNn41:Go.Proofs.SlLaysN.n41 Tryz.prog Tryz.laysSlLaysNn41_ren where
 mixed:=by kernel_rfl
 f41:=⟨Tryz.f139.name,by decide,Tryz.func139.trans (congrArg some (by kernel_rfl))⟩
 t4:=Tryz.underlying4
 a4:=Tryz.isAgg4
 z4:=Tryz.sizeOf4
 v4:=Tryz.zeroValue4
 t22:=Tryz.underlying30
 a22:=Tryz.isAgg30
 z22:=Tryz.sizeOf30
 v22:=Tryz.zeroValue30
 t23:=Tryz.underlying2
 a23:=Tryz.isAgg2
 z23:=Tryz.sizeOf2
 v23:=Tryz.zeroValue2
 i23:=by kernel_rfl
theorem qfl:∀{E:Ev.Env}(args:List Ev.T)(r:Ev.T×List Ev.T),Ev.cloneE E args=some r->Ev.Meets Tryz.prog ⟨none,.sl,true,false,false⟩ 139 args r:=
 fun _ _ h=>Ev.clone_sound Tryz.func139 (by kernel_rfl) (by kernel_rfl) (fun b off n c zs w h1 h2 h3=>AnyG.slices_Clone_int Tryz.laysSlLaysNn41 b off n c zs w h1 h2 h3) (fun a c w=>AnyG.slices_Clone_int_zero Tryz.laysSlLaysNn41 a c w) (fun n c w=>AnyG.slices_Clone_int_nil Tryz.laysSlLaysNn41 n c w) h
def Tryz.laysEvInsLn22_ren:Go.Shelf.Ren:=⟨fun|22=>208|29=>219|30=>220|36=>225|17=>228|n=>n,fun|24=>30|9=>2|3=>3|4=>4|0=>0|n=>n,fun|n=>n⟩
theorem Tryz.laysEvInsLn22:Ev.InsL.n22 Tryz.prog Tryz.laysEvInsLn22_ren where
 mixed:=by kernel_rfl
 f22:=⟨Tryz.f208.name,by decide,Tryz.func208.trans (congrArg some (by kernel_rfl))⟩
 t0:=Tryz.underlying0
 a0:=Tryz.isAgg0
 z0:=Tryz.sizeOf0
 v0:=Tryz.zeroValue0
 t3:=Tryz.underlying3
 a3:=Tryz.isAgg3
 z3:=Tryz.sizeOf3
 v3:=Tryz.zeroValue3
 t4:=Tryz.underlying4
 a4:=Tryz.isAgg4
 z4:=Tryz.sizeOf4
 v4:=Tryz.zeroValue4
 z9:=Tryz.sizeOf2
 t24:=Tryz.underlying30
 a24:=Tryz.isAgg30
 z24:=Tryz.sizeOf30
 v24:=Tryz.zeroValue30
theorem qey:∀{E:Ev.Env}(args:List Ev.T)(r:Ev.T×List Ev.T),Ev.insE 8 E args=some r->Ev.Meets Tryz.prog ⟨some 0,.two 2,true,true,false⟩ 208 args r:=
 fun _ _ h=>Ev.insert_sound Tryz.laysEvInsLn22 ⟨_,Tryz.func219,by kernel_rfl,by kernel_rfl,by kernel_rfl,by kernel_rfl⟩ (z:=.int .i64 0) (by kernel_rfl) rfl (by decide) Tryz.func208 (by kernel_rfl) (by kernel_rfl) h
def Tryz.laysEvInsLn22l_ren:Go.Shelf.Ren:=⟨fun|22=>209|29=>221|30=>222|36=>226|17=>229|n=>n,fun|24=>27|9=>30|3=>3|4=>4|0=>0|n=>n,fun|n=>n⟩
theorem Tryz.laysEvInsLn22l:Ev.InsL.n22 Tryz.prog Tryz.laysEvInsLn22l_ren where
 mixed:=by kernel_rfl
 f22:=⟨Tryz.f209.name,by decide,Tryz.func209.trans (congrArg some (by kernel_rfl))⟩
 t0:=Tryz.underlying0
 a0:=Tryz.isAgg0
 z0:=Tryz.sizeOf0
 v0:=Tryz.zeroValue0
 t3:=Tryz.underlying3
 a3:=Tryz.isAgg3
 z3:=Tryz.sizeOf3
 v3:=Tryz.zeroValue3
 t4:=Tryz.underlying4
 a4:=Tryz.isAgg4
 z4:=Tryz.sizeOf4
 v4:=Tryz.zeroValue4
 z9:=Tryz.sizeOf30
 t24:=Tryz.underlying27
 a24:=Tryz.isAgg27
 z24:=Tryz.sizeOf27
 v24:=Tryz.zeroValue27
theorem qdf:∀{E:Ev.Env}(args:List Ev.T)(r:Ev.T×List Ev.T),Ev.insE 24 E args=some r->Ev.Meets Tryz.prog ⟨some 0,.two 2,true,true,false⟩ 209 args r:=
 fun _ _ h=>Ev.insert_sound Tryz.laysEvInsLn22l ⟨_,Tryz.func221,by kernel_rfl,by kernel_rfl,by kernel_rfl,by kernel_rfl⟩ (z:=.slice none 0 0) (by kernel_rfl) rfl (by decide) Tryz.func209 (by kernel_rfl) (by kernel_rfl) h
end Go.Proofs
end
section
open Go Go.Proofs
set_option maxRecDepth 100000
namespace Ev
abbrev F.qr9:FuncId:=4
abbrev F.q0i:FuncId:=5
abbrev F.q7f:FuncId:=6
abbrev F.q0z:FuncId:=10
abbrev F.q0a:FuncId:=11
abbrev F.q8i:FuncId:=13
abbrev F.qvl:FuncId:=15
abbrev F.q3n:FuncId:=20
abbrev F.q0y:FuncId:=21
abbrev F.qms:FuncId:=22
abbrev F.q48:FuncId:=23
abbrev F.qrb:FuncId:=24
abbrev F.qra:FuncId:=25
abbrev F.q6e:FuncId:=26
abbrev F.q7m:FuncId:=27
abbrev F.q5x:FuncId:=28
abbrev F.q1z:FuncId:=29
abbrev F.q1q:FuncId:=30
abbrev F.q2c:FuncId:=31
abbrev F.q7a:FuncId:=32
abbrev F.q62:FuncId:=33
abbrev F.qvr:FuncId:=35
abbrev F.q1a:FuncId:=36
abbrev F.q3r:FuncId:=37
abbrev F.q3u:FuncId:=38
abbrev F.q12:FuncId:=39
abbrev F.q5k:FuncId:=40
abbrev F.q4g:FuncId:=41
abbrev F.q26:FuncId:=42
abbrev F.q2n:FuncId:=44
abbrev F.q5p:FuncId:=46
abbrev F.q17:FuncId:=47
abbrev F.q14:FuncId:=48
abbrev F.q2h:FuncId:=49
abbrev F.q16:FuncId:=50
abbrev F.q05:FuncId:=51
abbrev F.q2r:FuncId:=52
abbrev F.q30:FuncId:=53
abbrev F.q00:FuncId:=54
abbrev F.q4k:FuncId:=55
abbrev F.q9t:FuncId:=57
abbrev F.q3z:FuncId:=58
abbrev F.q8l:FuncId:=59
abbrev F.q08:FuncId:=60
abbrev F.q5m:FuncId:=61
abbrev F.q7x:FuncId:=62
abbrev F.q0m:FuncId:=63
abbrev F.q0t:FuncId:=64
abbrev F.q5e:FuncId:=65
abbrev F.qtp:FuncId:=66
abbrev F.q7d:FuncId:=69
abbrev F.q0g:FuncId:=70
abbrev F.q13:FuncId:=72
abbrev F.q1j:FuncId:=73
abbrev F.q6o:FuncId:=74
abbrev F.q0o:FuncId:=75
abbrev F.q4v:FuncId:=76
abbrev F.q2m:FuncId:=77
abbrev F.q4l:FuncId:=78
abbrev F.q1s:FuncId:=79
abbrev F.qqk:FuncId:=80
abbrev F.qi3:FuncId:=81
abbrev F.qpk:FuncId:=82
abbrev F.quu:FuncId:=83
abbrev F.q43:FuncId:=84
abbrev F.q0q:FuncId:=85
abbrev F.q8z:FuncId:=86
abbrev F.q5c:FuncId:=87
abbrev F.q4m:FuncId:=88
abbrev F.q2l:FuncId:=89
abbrev F.q1i:FuncId:=90
abbrev F.q1p:FuncId:=91
abbrev F.q82:FuncId:=92
abbrev F.qvj:FuncId:=93
abbrev F.q0d:FuncId:=94
abbrev F.q1y:FuncId:=95
abbrev F.q3j:FuncId:=96
abbrev F.q7t:FuncId:=97
abbrev F.q2g:FuncId:=98
abbrev F.q0n:FuncId:=99
abbrev F.q0j:FuncId:=100
abbrev F.q7w:FuncId:=101
abbrev F.q21:FuncId:=102
abbrev F.q7u:FuncId:=103
abbrev F.q5d:FuncId:=104
abbrev F.q5q:FuncId:=105
abbrev F.q2t:FuncId:=106
abbrev F.q2b:FuncId:=107
abbrev F.q78:FuncId:=108
abbrev F.q2u:FuncId:=109
abbrev F.q0u:FuncId:=110
abbrev F.q2w:FuncId:=111
abbrev F.q31:FuncId:=112
abbrev F.q4q:FuncId:=114
abbrev F.q27:FuncId:=116
abbrev F.q15:FuncId:=117
abbrev F.q6n:FuncId:=118
abbrev F.q6p:FuncId:=119
abbrev F.q46:FuncId:=120
abbrev F.q0b:FuncId:=121
abbrev F.q45:FuncId:=122
abbrev F.q6s:FuncId:=123
abbrev F.q0p:FuncId:=124
abbrev F.q50:FuncId:=125
abbrev F.q1w:FuncId:=126
abbrev F.qju:FuncId:=127
abbrev F.q68:FuncId:=130
abbrev F.q66:FuncId:=131
abbrev F.q65:FuncId:=132
abbrev F.qa0:FuncId:=133
abbrev F.q1f:FuncId:=134
abbrev F.q3y:FuncId:=135
abbrev F.q23:FuncId:=136
abbrev F.q0e:FuncId:=137
abbrev F.q2j:FuncId:=139
abbrev F.q1l:FuncId:=140
abbrev F.q4w:FuncId:=141
abbrev F.q6b:FuncId:=142
abbrev F.q4f:FuncId:=143
abbrev F.q7s:FuncId:=144
abbrev F.q5u:FuncId:=145
abbrev F.q1c:FuncId:=146
abbrev F.q6q:FuncId:=147
abbrev F.q44:FuncId:=148
abbrev F.q4o:FuncId:=167
abbrev F.q1t:FuncId:=168
abbrev F.q3x:FuncId:=169
abbrev F.q5j:FuncId:=170
abbrev F.q3d:FuncId:=171
abbrev F.q7z:FuncId:=172
abbrev F.q1m:FuncId:=173
abbrev F.q0f:FuncId:=174
abbrev F.q2d:FuncId:=175
abbrev F.qao:FuncId:=176
abbrev F.q69:FuncId:=177
abbrev F.q7v:FuncId:=178
abbrev F.q7y:FuncId:=179
abbrev F.q6c:FuncId:=180
abbrev F.q28:FuncId:=191
abbrev F.q6d:FuncId:=192
abbrev F.q0w:FuncId:=193
abbrev F.q4i:FuncId:=194
abbrev F.q0x:FuncId:=195
abbrev F.q4e:FuncId:=196
abbrev F.q1n:FuncId:=197
abbrev F.q1b:FuncId:=198
abbrev F.q5n:FuncId:=199
abbrev F.q4z:FuncId:=200
abbrev F.q18:FuncId:=201
abbrev F.q0h:FuncId:=206
abbrev F.q22:FuncId:=207
abbrev F.q5f:FuncId:=208
abbrev F.q55:FuncId:=209
abbrev F.q0s:FuncId:=210
abbrev F.q1u:FuncId:=211
abbrev F.q2e:FuncId:=212
abbrev F.q1e:FuncId:=213
abbrev F.q1v:FuncId:=218
abbrev F.q1k:FuncId:=223
noncomputable abbrev prog:Program:=Tryz.prog
def A:q6a:=fun f=>match f with
 |20=>⟨none,.sl,false,false,false⟩
 |22=>⟨none,.sl,false,false,false⟩
 |28=>⟨none,.sl,false,false,false⟩
 |34=>⟨(some 0),.src,true,false,false⟩
 |35=>⟨(some 0),.src,false,false,false⟩
 |36=>⟨(some 0),.src,true,false,false⟩
 |37=>⟨(some 0),.src,true,false,false⟩
 |38=>⟨(some 0),.src,true,false,false⟩
 |39=>⟨(some 0),.src,true,false,false⟩
 |56=>⟨(some 0),.src,true,false,false⟩
 |67=>⟨(some 0),.src,false,false,false⟩
 |69=>⟨(some 0),.sl,true,true,false⟩
 |73=>⟨(some 0),.src,true,false,false⟩
 |74=>⟨(some 0),.both 2,false,false,false⟩
 |77=>⟨none,.sl,false,false,false⟩
 |87=>⟨(some 0),.sl,false,false,false⟩
 |88=>⟨(some 0),.sl,true,true,false⟩
 |92=>⟨(some 0),.src,true,false,false⟩
 |93=>⟨(some 0),.src,true,false,false⟩
 |94=>⟨(some 0),.src,true,false,false⟩
 |108=>⟨(some 0),.src,true,false,false⟩
 |113=>⟨(some 0),.src,true,false,false⟩
 |114=>⟨none,.sl,false,false,true⟩
 |116=>⟨none,.sl,false,false,true⟩
 |117=>⟨(some 0),.src,true,false,false⟩
 |119=>⟨(some 0),.src,true,false,false⟩
 |136=>⟨(some 0),.src,true,false,false⟩
 |169=>⟨none,.sl,false,false,false⟩
 |193=>⟨(some 0),.ptr [true,true],true,false,false⟩
 |208=>⟨(some 0),.two 2,true,true,false⟩
 |209=>⟨(some 0),.two 2,true,true,false⟩
 |_=>⟨none,.sl,true,false,false⟩
def H:FuncId->Hints:=fun f=>match f with
 |4=>⟨fun b=>look [] [(0,[.keepT [0,3,4,5,10],.keepO [192]])] b,fun r=>look [] [(14,[.freezeB 704])] r,fun r=>[]⟩
 |5=>⟨fun b=>look [] [(0,[.keepT [0,3,4,5,6,7,8,9],.shallow 3264,.keepO [192,448,1665,3264]]),(2,[.keepT [0,3,8,10,11],.keepO [192,640,3264]])] b,fun r=>look [] [(4,[.freezeT 4,.freezeT 5]),(5,[.freezeB 448]),(19,[.freezeB 768])] r,fun r=>[]⟩
 |10=>⟨fun b=>look [] [(0,[.keepT [2,3,25,26,27],.keepO [128,192]])] b,fun r=>look [] [] r,fun r=>[]⟩
 |11=>⟨fun b=>look [] [(0,[.keepT [2,3,6],.keepO [128,192]]),(2,[.keepT [2,3,6,7],.keepO [128,192]])] b,fun r=>look [] [] r,fun r=>[]⟩
 |20=>⟨fun b=>look [] [] b,fun r=>look [] [(3,[.freezeB 384,.meltO 384 0 2,.meltP 6])] r,fun r=>[]⟩
 |21=>⟨fun b=>look [] [(0,[.keepT [1,2,3,21,22,23],.keepO [192]])] b,fun r=>look [] [(12,[.freezeB 640])] r,fun r=>[]⟩
 |22=>⟨fun b=>look [] [] b,fun r=>look [] [(3,[.freezeB 384,.meltO 384 0 2,.meltP 6])] r,fun r=>[]⟩
 |25=>⟨fun b=>look [] [(0,[.keepT [2,3,4,6,9],.keepO [192,256,384]])] b,fun r=>look [] [] r,fun r=>[]⟩
 |29=>⟨fun b=>look [] [(0,[.keepT [2,8,10,11,12],.keepO [512,1984,2240]])] b,fun r=>look [] [] r,fun r=>[]⟩
 |30=>⟨fun b=>look [] [(0,[.keepT [2,8,10,11,12],.nameT 11 2240,.keepO [512,1984,2240]])] b,fun r=>look [] [] r,fun r=>[]⟩
 |31=>⟨fun b=>look [] [(0,[.keepT [0,1,5],.keepO []])] b,fun r=>look [] [] r,fun r=>[]⟩
 |35=>⟨fun b=>look [] [] b,fun r=>look [] [(12,[.freezeB 448]),(15,[.pack 1537])] r,fun r=>[]⟩
 |39=>⟨fun b=>look [] [(1,[.keepT [0,10,11],.keepO [4224,1000000]])] b,fun r=>look [] [] r,fun r=>[]⟩
 |47=>⟨fun b=>look [] [(0,[.keepT [0,1,5],.keepO []])] b,fun r=>look [] [] r,fun r=>[]⟩
 |49=>⟨fun b=>look [] [(0,[.keepT [0,3],.keepO []])] b,fun r=>look [] [] r,fun r=>[]⟩
 |50=>⟨fun b=>look [] [(0,[.keepT [0,1,2,3,4,11,12,13],.keepO []])] b,fun r=>look [] [] r,fun r=>[]⟩
 |51=>⟨fun b=>look [] [(0,[.keepT [1,18,19,20],.keepO [64]]),(2,[.keepT [1,34,35,36],.keepO [64]])] b,fun r=>look [] [] r,fun r=>[]⟩
 |52=>⟨fun b=>look [] [(0,[.keepT [0,5,6,7],.keepO []])] b,fun r=>look [] [] r,fun r=>[]⟩
 |54=>⟨fun b=>look [] [(0,[.keepT [1,3,4],.keepO [64]]),(2,[.keepT [1,3,5],.keepO [64]]),(4,[.keepT [1,3,5,6],.keepO [64]]),(6,[.keepT [1,3,7],.keepO [64]])] b,fun r=>look [] [] r,fun r=>[]⟩
 |60=>⟨fun b=>look [] [(0,[.keepT [3,4,5,7,12,13],.keepO [192,256,320,576]]),(2,[.keepT [3,4,5,7,12,13,29,30],.keepO [192,256,320,576]])] b,fun r=>look [] [] r,fun r=>[]⟩
 |63=>⟨fun b=>look [] [(0,[.keepT [0,1,2,7],.keepO []]),(2,[.keepT [0,1,2,7,8,9,10],.keepO [1280]])] b,fun r=>look [] [] r,fun r=>[]⟩
 |64=>⟨fun b=>look [] [(0,[.keepT [2,17,18,19],.keepO [128]])] b,fun r=>look [] [] r,fun r=>[]⟩
 |70=>⟨fun b=>look [] [(0,[.keepT [2,5,11,12,13],.keepO [128,640]])] b,fun r=>look [] [] r,fun r=>[]⟩
 |72=>⟨fun b=>look [] [(0,[.keepT [0,1,5,6],.keepO [512]])] b,fun r=>look [] [] r,fun r=>[]⟩
 |73=>⟨fun b=>look [] [(0,[.keepT [0,4,7,8,9,10],.keepO [256,448,896,1024,1088,1000000]])] b,fun r=>look [] [] r,fun r=>[]⟩
 |74=>⟨fun b=>look [] [] b,fun r=>look [] [(6,[.freezeT 2])] r,fun r=>[]⟩
 |75=>⟨fun b=>look [] [] b,fun r=>look [] [(4,[.keepT [1,2,4,7,8,10]]),(5,[.keepT [1,2,4,7,8,10,11]]),(6,[.keepT [1,2,4,7,8,10,11,12]]),(7,[.keepT [1,2,4,7,8,10,11]]),(8,[.keepT [1,2,4,7,8,10,11,12]]),(10,[.keepT [1,2,4,7,8]]),(11,[.keepT [1,2,4,7,8,13]]),(12,[.keepT [1,2,4,7,8,13,88]]),(13,[.keepT [1,7,8,13]]),(14,[.keepT [2,4,7,8,13,88]]),(15,[.keepT [2,7,8,13]]),(16,[.keepT [2,4,7,8,13,88]]),(17,[.keepT [2,7,8,13]]),(18,[.keepT [2,4,7,8,13,88]]),(19,[.keepT [2,4,7,8,13]]),(20,[.keepT [2,4,7,8,13]]),(21,[.keepT [2,4,7,8,13,14]]),(22,[.keepT [2,4,7,8,13]]),(23,[.keepT [2,4,7,8,13,14]]),(27,[.keepT [2,4,7,8,13,88]]),(28,[.keepT [2,4,7,8,13]])] r,fun r=>[]⟩
 |79=>⟨fun b=>look [] [(0,[.keepT [0,1,2,7],.keepO []])] b,fun r=>look [] [] r,fun r=>[]⟩
 |80=>⟨fun b=>look [] [(0,[.keepT [2,11,12,13],.keepO [128]])] b,fun r=>look [] [] r,fun r=>[]⟩
 |83=>⟨fun b=>look [] [(0,[.keepT [0,1,5],.keepO []])] b,fun r=>look [] [] r,fun r=>[]⟩
 |85=>⟨fun b=>look [] [(0,[.keepT [0,1,2,6,7,8],.adoptO 448 1 517169 1,.keepO [384,448,517169]]),(2,[.keepT [0,1,2,6,7,8,9,10],.keepO [384,448,1408,517169]])] b,fun r=>look [] [] r,fun r=>[]⟩
 |89=>⟨fun b=>look [] [(0,[.keepT [0,1,5,6,7],.keepO [512]])] b,fun r=>look [] [] r,fun r=>[]⟩
 |90=>⟨fun b=>look [] [(0,[.keepT [0,1,5],.keepO []])] b,fun r=>look [] [] r,fun r=>[]⟩
 |91=>⟨fun b=>look [] [(0,[.keepT [0,1,2,7],.keepO []])] b,fun r=>look [] [] r,fun r=>[]⟩
 |93=>⟨fun b=>look [] [(0,[.keepT [0,1,2,6,7,8,9],.keepO [384,1000000]])] b,fun r=>look [] [] r,fun r=>[]⟩
 |94=>⟨fun b=>look [] [(0,[.keepT [0,1,2,3,9,10,11],.keepO [1000000]]),(2,[.keepT [0,1,2,3,9,10,12],.keepO [1000000]])] b,fun r=>look [] [] r,fun r=>[]⟩
 |95=>⟨fun b=>look [] [(0,[.keepT [3,6,7,8],.keepO []])] b,fun r=>look [] [] r,fun r=>[]⟩
 |98=>⟨fun b=>look [] [(0,[.keepT [1,2,3,7],.keepO [192]])] b,fun r=>look [] [] r,fun r=>[]⟩
 |99=>⟨fun b=>look [] [(0,[.keepT [0,1,7,8],.keepO []])] b,fun r=>look [] [] r,fun r=>[]⟩
 |100=>⟨fun b=>look [] [(0,[.keepT [2,3,4,5,6,12,13,35,36],.keepO [320,384]])] b,fun r=>look [] [] r,fun r=>[]⟩
 |102=>⟨fun b=>look [] [(0,[.keepT [0,1,2,7,8],.keepO []])] b,fun r=>look [] [] r,fun r=>[]⟩
 |107=>⟨fun b=>look [] [(0,[.keepT [0,3],.keepO []])] b,fun r=>look [] [] r,fun r=>[]⟩
 |110=>⟨fun b=>look [] [(0,[.keepT [3,9,10,11],.keepO [512]]),(2,[.keepT [3,9,10,11,15,16,17],.keepO [512]])] b,fun r=>look [] [] r,fun r=>[]⟩
 |112=>⟨fun b=>look [] [(0,[.keepT [0,1,7,8],.keepO []])] b,fun r=>look [] [] r,fun r=>[]⟩
 |116=>⟨fun b=>look [] [(0,[.keepT [0,1,5],.keepO []])] b,fun r=>look [] [] r,fun r=>[]⟩
 |117=>⟨fun b=>look [] [(0,[.keepT [0,1,7,8],.keepO [576,1000000]])] b,fun r=>look [] [] r,fun r=>[]⟩
 |121=>⟨fun b=>look [] [(0,[.keepT [2,4,5,17,18,19],.orderO [128,640,768,769,320,1088],.keepO [128,320,640,768,769,1088]]),(2,[.keepT [2,4,5,7,17,18,19,23,24,25],.orderO [128,640,768,769,320,1088],.keepO [128,320,640,768,769,1088]]),(1002,[]),(2002,[])] b,fun r=>look [] [] r,fun r=>[]⟩
 |124=>⟨fun b=>look [] [(0,[.keepT [0,1,12,13],.keepO []])] b,fun r=>look [] [] r,fun r=>[]⟩
 |126=>⟨fun b=>look [] [(0,[.keepT [0,1,5],.keepO []])] b,fun r=>look [] [] r,fun r=>[]⟩
 |127=>⟨fun b=>look [] [(0,[.keepT [0,1,7,8],.keepO []])] b,fun r=>look [] [] r,fun r=>[]⟩
 |134=>⟨fun b=>look [] [(0,[.keepT [0,1,7,8],.keepO []])] b,fun r=>look [] [] r,fun r=>[]⟩
 |136=>⟨fun b=>look [] [(0,[.keepT [0,1,4,5,6,7,8],.keepO [256,640,1000000]])] b,fun r=>look [] [] r,fun r=>[]⟩
 |137=>⟨fun b=>look [] [(0,[.keepT [0,1,7,8],.keepO []])] b,fun r=>look [] [] r,fun r=>[]⟩
 |146=>⟨fun b=>look [] [(0,[.keepT [0,2,4,5,6],.keepO [128,832,1216]])] b,fun r=>look [] [(15,[.freezeT 4])] r,fun r=>[]⟩
 |168=>⟨fun b=>look [] [(0,[.keepT [2,3,6,8,9,16,17,18],.adoptO 512 0 518192 1,.adoptO 512 1 518193 1,.keepO [192,384,512,518192,518193]])] b,fun r=>look [] [(13,[.lendB 512]),(15,[.reclaim]),(18,[.reclaim])] r,fun r=>[]⟩
 |173=>⟨fun b=>look [] [(0,[.keepT [1,5,10,11,12],.keepO [576]])] b,fun r=>look [] [] r,fun r=>[]⟩
 |174=>⟨fun b=>look [] [(0,[.keepT [3,6,8,9],.freezeT 9,.melt 9,.adoptO 512 0 518192 1,.adoptO 512 1 518193 1,.keepO [192,384,512,518192,518193]]),(5,[.keepT [3,6,8,9,10,11,12,118,119,120],.keepO [192,384,512,768,7232,7360,518192,518193]]),(3,[.keepT [3,6,8,9,10,11,15,16,56,57,58],.shallow 3200,.orderO [192,384,512,518192,518193,3392,3584,3200],.keepO [192,384,512,3200,3392,3584,518192,518193]])] b,fun r=>look [] [(6,[.freezeT 10,.freezeT 11,.melt 10,.melt 11]),(27,[.pack 518193]),(28,[.pack 518193]),(29,[.pack 518193])] r,fun r=>[]⟩
 |175=>⟨fun b=>look [] [(0,[.keepT [0,1,5],.keepO []])] b,fun r=>look [] [] r,fun r=>[]⟩
 |191=>⟨fun b=>look [] [(0,[.keepT [0,1,5,6,7],.keepO [512]])] b,fun r=>look [] [] r,fun r=>[]⟩
 |193=>⟨fun b=>look [] [(0,[.keepT [0,1,2,6],.keepO [1000000,1000001,1000002]])] b,fun r=>look [] [] r,fun r=>[]⟩
 |195=>⟨fun b=>look [] [(0,[.keepT [1,3,7,8,17,18],.keepO [192,576]])] b,fun r=>look [] [] r,fun r=>[]⟩
 |197=>⟨fun b=>look [] [(0,[.keepT [0,1,5,6],.keepO [448]])] b,fun r=>look [] [] r,fun r=>[]⟩
 |198=>⟨fun b=>look [] [(0,[.keepT [0,6,8,9],.freezeT 9,.melt 9,.adoptO 512 0 518192 1,.adoptO 512 1 518193 1,.nameB 512 0 518192,.nameB 512 1 518193,.keepO [384,512,518192,518193]])] b,fun r=>look [] [(7,[.freezeT 10,.freezeT 11,.melt 10,.melt 11])] r,fun r=>[]⟩
 |201=>⟨fun b=>look [] [(0,[.keepT [0,1,2,3,8,10,11],.nameB 640 0 520240,.nameB 640 1 520241,.adoptO 640 0 520240 1,.adoptO 640 1 520241 1,.keepO [512,640,520240,520241]])] b,fun r=>look [] [(12,[.lendB 640]),(14,[.reclaim]),(17,[.reclaim])] r,fun r=>[]⟩
 |206=>⟨fun b=>look [] [(0,[.keepT [0,1,6,7],.keepO [704]]),(3,[.keepT [0,1,6,7,9],.keepO [704]])] b,fun r=>look [] [] r,fun r=>[]⟩
 |207=>⟨fun b=>look [] [(0,[.keepT [0,1,7,8,9,10],.keepO [448]])] b,fun r=>look [] [] r,fun r=>[]⟩
 |210=>⟨fun b=>look [] [(0,[.keepT [1,6],.keepO []]),(2,[.keepT [1,6,7],.keepO []])] b,fun r=>look [] [] r,fun r=>[]⟩
 |211=>⟨fun b=>look [] [(0,[.keepT [0,1,2,6,8,9,10],.adoptO 576 1 519217 1,.keepO [384,512,576,1216,1344,1728,519217]])] b,fun r=>look [] [] r,fun r=>[]⟩
 |212=>⟨fun b=>look [] [(0,[.keepT [0,1,2,7,8,9,10],.keepO [832]])] b,fun r=>look [] [] r,fun r=>[]⟩
 |213=>⟨fun b=>look [] [(0,[.keepT [0,1,2,6,7,8,9],.adoptO 448 0 517168 1,.adoptO 448 1 517169 1,.keepO [384,448,517168,517169]])] b,fun r=>look [] [] r,fun r=>[]⟩
 |218=>⟨fun b=>look [] [(0,[.keepT [0,1,5],.keepO []])] b,fun r=>look [] [] r,fun r=>[]⟩
 |223=>⟨fun b=>look [] [(0,[.keepT [0,1,5,6],.keepO []])] b,fun r=>look [] [] r,fun r=>[]⟩
 |_=>⟨fun _=>[],fun _=>[],fun _=>[]⟩
def X:Ext:=fun f=>match f with
 |87=>some sortE
 |88=>some compactE
 |133=>some trimE
 |139=>some cloneE
 |208=>some (insE 8)
 |209=>some (insE 24)
 |_=>none
theorem X_sound:∀f e,X f=some e->∀E,(∀g args r,E g args=some r->Meets prog (A g) g args r)->∀args r,e E args=some r->Meets prog (A f) f args r:=by
 intro f e h E hE args r hr;unfold X at h;split at h
 ·cases h;exact qgr args r hr
 ·cases h;exact qeb args r hr
 ·cases h;exact qhn args r hr
 ·cases h;exact qfl args r hr
 ·cases h;exact qey args r hr
 ·cases h;exact qdf args r hr
 ·cases h
noncomputable def LIM:Env:=lim prog A H X
def oi(x:Int):V:=.one (.t (.int .i64 x))
def ol(k:Nat)(c:List T):V:=.one (.t (.sl k c))
noncomputable abbrev cx(f:FuncId)(p:List Nat):Code:=qaw p (qt2 prog f)
noncomputable abbrev kx(f:FuncId)(n:Nat)(fr:List Ct)(K:Ex->St->R):Ex->St->R:=ctxK prog A (H f) LIM n fr K
noncomputable abbrev bx(f:FuncId)(b:Nat)(K:Ex->St->R)(L:St->R):Ex->St->R:=qxi (H f) b K L
noncomputable abbrev lx(f:FuncId)(n b:Nat)(p:List Nat)(K:Ex->St->R)(m:Nat)(s:St):R:=qsa prog A (H f) LIM n b (qaw p (qt2 prog f)) K m s
noncomputable abbrev rx(f:FuncId)(n b:Nat)(p:List Nat)(K:Ex->St->R)(L:St->R)(s:St):R:=qs8 prog A (H f) LIM n b (qaw p (qt2 prog f)) K L s
theorem nx(f:FuncId)(n b:Nat)(p:List Nat)(K:Ex->St->R)(m:Nat)(s:St):lx f n b p K (m+1) s=rx f n b p K (lx f n b p K m) s:=qni _ _ _ _ _ _ _ _ _ _
end Ev
end
section
namespace Ev.Ty
open Go Ev
class Enc(α:Type) where
 sz:Nat
 pos:0<sz
 enc:α->List T
 len:∀x,(enc x).length=sz
open Enc (enc)
def cells{α:Type}[Enc α](l:List α):List T:=l.flatMap enc
def slc{α:Type}[Enc α](l:List α):T:=.sl (Enc.sz α) (cells l)
instance:Enc Int:=⟨1,by decide,fun n=>[.int .i64 n],fun _=>rfl⟩
@[simp] theorem q3e:Enc.sz Int=1:=rfl
instance:Enc UInt8:=⟨1,by decide,fun n=>[.int .u8 n.toNat],fun _=>rfl⟩
instance:Enc Bool:=⟨1,by decide,fun b=>[.bool b],fun _=>rfl⟩
instance:Enc ByteArray:=⟨1,by decide,fun b=>[.str b],fun _=>rfl⟩
@[simp] theorem qy4:Enc.sz UInt8=1:=rfl
instance {α:Type}[Enc α]:Enc (List α):=⟨1,by decide,fun l=>[.sl (Enc.sz α) (cells l)],fun _=>rfl⟩
@[simp] theorem qsx{α:Type}[Enc α]:Enc.sz (List α)=1:=rfl
@[simp] theorem q1x(n:Int):enc n=[.int .i64 n]:=rfl
@[simp] theorem qis(n:UInt8):enc n=[.int .u8 n.toNat]:=rfl
@[simp] theorem q67{α:Type}[Enc α](l:List α):enc l=[slc l]:=rfl
@[simp] theorem qvv{α:Type}[Enc α]{k:Nat}(l:List α)(h:Enc.sz α=k):oSl k (slc l)=some (cells l):=by subst h;simp[slc,oSl]
section
variable {α:Type}[Enc α]
@[simp] theorem qdp:cells ([]:List α)=[]:=rfl
theorem q83(x:α)(l:List α):cells (x::l)=enc x++cells l:=gAN
@[simp] theorem q33(l r:List α):cells (l++r)=cells l++cells r:=List.flatMap_append
theorem q0k:∀l:List α,(cells l).length=l.length*Enc.sz α
 |[]=>by simp
 |x::l=>by rw[q83,gM,Enc.len,q0k l,gAB,Nat.succ_mul,Nat.add_comm]
theorem q5h{l:List α}{k:Nat}(h:Enc.sz α=k):(cells l).length/k=l.length:=by
 subst h;rw[q0k,Nat.mul_div_cancel _ Enc.pos]
theorem q5s(l:List α)(k i j:Nat)(h:Enc.sz α=k)(hj:j<k):(cells l)[i*k+j]?=(l[i]?).bind fun x=>(enc x)[j]?:=by
 subst h;rw[cells,qcw Enc.pos Enc.len]
 have e1:(i*Enc.sz α+j)/Enc.sz α=i:=by
  rw[Nat.mul_comm,Nat.mul_add_div Enc.pos,Nat.div_eq_of_lt hj,Nat.add_zero]
 have e2:(i*Enc.sz α+j) % Enc.sz α=j:=by
  rw[Nat.mul_comm,Nat.mul_add_mod,Nat.mod_eq_of_lt hj]
 rw[e1,e2]
theorem get0{l:List α}{k i:Nat}(h:Enc.sz α=k):(cells l)[i*k]?=(l[i]?).bind fun x=>(enc x)[0]?:=
 q5s l k i 0 h (h▸Enc.pos)
theorem get1{l:List α}{k i:Nat}(h:Enc.sz α=k)(hj:1<k):(cells l)[i*k+1]?=(l[i]?).bind fun x=>(enc x)[1]?:=
 q5s l k i 1 h hj
theorem get2{l:List α}{k i:Nat}(h:Enc.sz α=k)(hj:2<k):(cells l)[i*k+1+1]?=(l[i]?).bind fun x=>(enc x)[2]?:=
 q5s l k i 2 h hj
theorem get3{l:List α}{k i:Nat}(h:Enc.sz α=k)(hj:3<k):(cells l)[i*k+1+1+1]?=(l[i]?).bind fun x=>(enc x)[3]?:=
 q5s l k i 3 h hj
theorem get4{l:List α}{k i:Nat}(h:Enc.sz α=k)(hj:4<k):(cells l)[i*k+1+1+1+1]?=(l[i]?).bind fun x=>(enc x)[4]?:=
 q5s l k i 4 h hj
theorem get5{l:List α}{k i:Nat}(h:Enc.sz α=k)(hj:5<k):(cells l)[i*k+1+1+1+1+1]?=(l[i]?).bind fun x=>(enc x)[5]?:=
 q5s l k i 5 h hj
theorem get6{l:List α}{k i:Nat}(h:Enc.sz α=k)(hj:6<k):(cells l)[i*k+1+1+1+1+1+1]?=(l[i]?).bind fun x=>(enc x)[6]?:=
 q5s l k i 6 h hj
theorem get7{l:List α}{k i:Nat}(h:Enc.sz α=k)(hj:7<k):(cells l)[i*k+1+1+1+1+1+1+1]?=(l[i]?).bind fun x=>(enc x)[7]?:=
 q5s l k i 7 h hj
theorem get8{l:List α}{k i:Nat}(h:Enc.sz α=k)(hj:8<k):(cells l)[i*k+1+1+1+1+1+1+1+1]?=(l[i]?).bind fun x=>(enc x)[8]?:=
 q5s l k i 8 h hj
theorem q4u{l:List α}{k i:Nat}(h:Enc.sz α=k){x:α}(hx:l[i]?=some x):((cells l).drop (i*k)).take k=enc x:=by
 subst h;refine List.ext_getElem? fun j=>?_;rw[gT];split
 ·rename_i hj;rw[gV,q5s l _ i j rfl hj,hx];rfl
 ·rename_i hj;rw[List.getElem?_eq_none (by rw[Enc.len];omega)]
theorem q8o(l:List α)(k i:Nat)(h:Enc.sz α=k):(cells l).take (i*k)=cells (l.take i):=by
 subst h;induction i generalizing l with
 |zero=>simp
 |succ i ih=>
  cases l with
  |nil=>simp
  |cons x l=>
   rw[List.take_succ_cons,q83,q83,Nat.succ_mul,Nat.add_comm,List.take_append,Enc.len];rw[List.take_of_length_le (by rw[Enc.len];omega),Nat.add_sub_cancel_left,ih]
theorem qan(l:List α)(k i:Nat)(h:Enc.sz α=k):(cells l).drop (i*k)=cells (l.drop i):=by
 subst h;induction i generalizing l with
 |zero=>simp
 |succ i ih=>
  cases l with
  |nil=>simp
  |cons x l=>
   rw[List.drop_succ_cons,q83,Nat.succ_mul,Nat.add_comm,List.drop_append,Enc.len];rw[gU (by rw[Enc.len];omega),Nat.add_sub_cancel_left,ih,List.nil_append]
theorem qbx(l:List α)(k i:Nat)(h:Enc.sz α=k)(x:α)(hi:i<l.length):setCells (cells l) (i*k) (enc x)=cells (l.set i x):=by
 subst h;refine List.ext_getElem? fun j=>?_
 have hle:i*Enc.sz α+Enc.sz α<=l.length*Enc.sz α:=by
  rw[<- Nat.succ_mul];exact gAO _ hi
 rw[q37 _ _ _ _ (by rw[Enc.len,q0k];exact hle),Enc.len];have hp:0<Enc.sz α:=Enc.pos;have hj:j=j/Enc.sz α*Enc.sz α+j % Enc.sz α:=by rw[Nat.mul_comm];exact(Nat.div_add_mod j _).symm
 have hm:j % Enc.sz α<Enc.sz α:=Nat.mod_lt _ hp
 have hset:(cells (l.set i x))[j]?=((l.set i x)[j/Enc.sz α]?).bind fun y=>(enc y)[j % Enc.sz α]?:=by
  conv=>lhs;rw[hj]
  exact q5s _ _ _ _ rfl hm
 have hl:(cells l)[j]?=(l[j/Enc.sz α]?).bind fun y=>(enc y)[j % Enc.sz α]?:=by
  conv=>lhs;rw[hj]
  exact q5s _ _ _ _ rfl hm
 rw[hset,hl];by_cases hij:i=j/Enc.sz α
 ·have h1:i*Enc.sz α<=j:=by rw[hij];exact Nat.div_mul_le_self _ _
  have h2:j<i*Enc.sz α+Enc.sz α:=by rw[hij];omega
  rw[if_pos ⟨h1,h2⟩,<- hij,List.getElem?_set_self hi];have:j-i*Enc.sz α=j % Enc.sz α:=by rw[hij];omega
  rw[this];rfl
 ·rw[if_neg,List.getElem?_set_ne hij];rintro⟨h1,h2⟩;apply hij;refine(Nat.div_eq_of_lt_le ?_ ?_).symm
  ·exact h1
  ·rw[Nat.succ_mul];exact h2
theorem qsn(n:Nat)(x:α):repT n (enc x)=cells (List.replicate n x):=by
 unfold repT cells;induction n with
 |zero=>rfl
 |succ n ih=>rw[List.replicate_succ,List.replicate_succ,List.flatten_cons,gAN,ih]
theorem qdo(x:α):cells [x]=enc x:=by simp[cells]
end
@[simp] theorem qtv(k:IntKind)(n:Int):oInt k (.int k n)=some n:=by simp[oInt]
@[simp] theorem qr6(b:Bool):q9d (.bool b)=some b:=Eq.trans rfl rfl
@[simp] theorem qu7(b:ByteArray):oStr (.str b)=some b:=Eq.trans rfl rfl
@[simp] theorem qy2(k:Nat)(c:List T):oSl k (.sl k c)=some c:=by simp[oSl]
@[simp] theorem qtz(c:List T):oAgg (.agg c)=some c:=Eq.trans rfl rfl
@[simp] theorem quz(c:List T):oTup (.tup c)=some c:=Eq.trans rfl rfl
@[simp] theorem qqn(x:T)(c:List T):q10 (x::c)=some (x,c):=Eq.trans rfl rfl
@[simp] theorem quw:oNil []=some ():=Eq.trans rfl rfl
theorem qw8{α β:Type}{x:α}{f:α->Option β}:(Option.bind (some x) f)=f x:=Eq.trans rfl rfl
theorem q6v(i n:Nat):inB (i:Int) n=decide (i<n):=by
 unfold inB;rw[Bool.eq_iff_iff];simp
theorem q1o{x:Int}(h : -9223372036854775808<=x/\x<9223372036854775808):IntKind.wrap .i64 x=x:=by
 unfold IntKind.wrap;simp[IntKind.signed,IntKind.bits];omega
theorem q0l{k:Nat}(h:k<9223372036854775807):IntKind.wrap .i64 ((k:Int)+1)=((k+1:Nat):Int):=by
 rw[q1o (by omega)];rfl
def Call(g:FuncId)(args:List T)(r:T):Prop:=LIM g args=some (r,[])
theorem Call.eq{g:FuncId}{args:List T}{r:T}(h:Call g args r):LIM g args=some (r,[]):=h
theorem q0r{g:FuncId}{args:List T}{r:T}(hx:X g=none)(n:Nat)(h:q1g prog A H LIM n g args=some (r,[])):Call g args r:=qf4 hx n h
class Sm(α:Type) where
 sm:Nat->α->Prop
 mono:∀{n m:Nat}{x:α},n<=m->sm n x->sm m x
open Sm (sm)
theorem q2x{α:Type}[Sm α]{n m:Nat}{x:α}(h:n<=m)(hx:sm n x):sm m x:=Sm.mono h hx
instance:Sm Int:=⟨fun _ _=>True,fun _ h=>h⟩
instance:Sm Bool:=⟨fun _ _=>True,fun _ h=>h⟩
instance:Sm UInt8:=⟨fun _ _=>True,fun _ h=>h⟩
instance:Sm ByteArray:=⟨fun n x=>x.size<=n,fun h hx=>Nat.le_trans hx h⟩
instance {α:Type}[Sm α]:Sm (List α):=⟨fun n l=>l.length<=n/\∀x,x∈l->sm n x,fun h hx=>⟨Nat.le_trans hx.1 h,fun x hm=>q2x h (hx.2 x hm)⟩⟩
theorem qdj{α:Type}[Enc α]{k:Nat}{l:List α}(h:Enc.sz α=k):T.sl k (cells l)=slc l:=by subst h;rfl
theorem qa9{l:List Int}{i:Nat}(h:i<l.length)(v:Int):setCells (cells l) (i*1) [.int .i64 v]=cells (l.set i v):=qbx l 1 i rfl v h
theorem qu9{α:Type}[Enc α]{l:List (List α)}{i:Nat}(h:i<l.length)(v:List α):setCells (cells l) (i*1) [slc v]=cells (l.set i v):=qbx l 1 i rfl v h
theorem q1r{α:Type}{c:Bool}{a b:α}(h:c=true):(bif c then a else b)=a:=by rw[h];rfl
theorem qfr{α:Type}{c:Bool}{a b:α}(h:c=false):(bif c then a else b)=b:=by rw[h];rfl
theorem qu4{β:Type}{p:Prop}[Decidable p]{x y:β}:(bif decide p then x else y)=if p then x else y:=by
 by_cases h:p <;> simp[h]
theorem qw5{α:Type}[BEq α][LawfulBEq α][DecidableEq α]{a b:α}:(a==b)=decide (a=b):=by
 by_cases h:a=b <;> simp[h]
theorem qvs{α:Type}[BEq α][LawfulBEq α][DecidableEq α]{a b:α}:(a != b) = !decide (a=b):=by
 by_cases h:a=b <;> simp[h]
theorem qwe{β:Type}{b:Bool}{x y:β}:(bif !b then x else y)=bif b then y else x:=by cases b <;> rfl
theorem qx6{a b:UInt8}:((a.toNat:Int)=(b.toNat:Int))=(a=b):=by
 rw[eq_iff_iff,Int.ofNat_inj,UInt8.toNat_inj]
theorem qwy{a b:ByteArray}:(a.toList=b.toList)=(a=b):=by
 rw[eq_iff_iff,Lib.toList_data,Lib.toList_data];constructor
 ·intro h;have:=Array.toList_inj.1 h;cases a;cases b;simp_all
 ·rintro rfl;rfl
theorem qsc{α:Type}[DecidableEq α]{a b:List α}(hl:a.length=b.length){S:Nat->Nat->R}
 (step:∀m k (h:k<a.length) (h':k<b.length),S (m+1) k=if a[k]=b[k]then S m (k+1)else some (.bool false,[]))
 (stop:∀m,S (m+1) a.length=some (.bool true,[])):S (a.length+1) 0=some (.bool (decide (a=b)),[]):=by
 have:∀m k,k<=a.length->a.length<m+k->S m k=some (.bool (decide (a.drop k=b.drop k)),[]):=by
  intro m;induction m with
  |zero=>intros;omega
  |succ m ih=>
   intro k hk hm;by_cases h:k<a.length
   ·have h':k<b.length:=hl▸h;rw[step m k h h',ih (k+1) (by omega) (by omega),gH h,gH h'];by_cases e:a[k]=b[k]
    ·rw[if_pos e];simp only[List.cons.injEq,e,true_and]
    ·rw[if_neg e];simp only[List.cons.injEq,e,false_and,decide_false]
   ·obtain rfl:k=a.length:=by omega
    rw[stop m,gU (gAI _),gU (by omega)];simp
 have:=this (a.length+1) 0 (by omega) (by omega);simpa using this
end Ev.Ty
end
section
namespace Ev.Ty
open Go Ev
open Enc (enc)
open Sm (sm)
structure Symbol where
 name:ByteArray
 arity:Int
 deriving DecidableEq
instance:Enc Symbol:=⟨2,by decide,fun x=>[.str x.name,.int .i64 x.arity],fun _=>rfl⟩
@[simp] theorem qxn:Enc.sz Symbol=2:=rfl
theorem q2q(x:Symbol):enc x=[.str x.name,.int .i64 x.arity]:=rfl
instance:Sm Symbol:=⟨fun n x=>sm n x.name,fun h x=>q2x h x⟩
structure Signature where
 symbols:List Symbol
 deriving DecidableEq
instance:Enc Signature:=⟨1,by decide,fun x=>[slc x.symbols],fun _=>rfl⟩
@[simp] theorem qvq:Enc.sz Signature=1:=rfl
instance:Sm Signature:=⟨fun n x=>sm n x.symbols,fun h x=>q2x h x⟩
structure Equation where
 left:List Int
 right:List Int
 deriving DecidableEq
instance:Enc Equation:=⟨2,by decide,fun x=>[slc x.left,slc x.right],fun _=>rfl⟩
@[simp] theorem q6u:Enc.sz Equation=2:=rfl
theorem q4n(x:Equation):enc x=[slc x.left,slc x.right]:=rfl
instance:Sm Equation:=⟨fun n x=>sm n x.left/\sm n x.right,fun h x=>⟨q2x h x.1,q2x h x.2⟩⟩
structure Binding where
 vars:List Int
 terms:List (List Int)
 deriving DecidableEq
instance:Enc Binding:=⟨2,by decide,fun x=>[slc x.vars,slc x.terms],fun _=>rfl⟩
@[simp] theorem qwz:Enc.sz Binding=2:=rfl
instance:Sm Binding:=⟨fun n x=>sm n x.vars/\sm n x.terms,fun h x=>⟨q2x h x.1,q2x h x.2⟩⟩
structure Algebra where
 size:Int
 tables:List (List Int)
 deriving DecidableEq
instance:Enc Algebra:=⟨2,by decide,fun x=>[.int .i64 x.size,slc x.tables],fun _=>rfl⟩
@[simp] theorem qx0:Enc.sz Algebra=2:=rfl
instance:Sm Algebra:=⟨fun n x=>sm n x.tables,fun h x=>q2x h x⟩
structure Entry where
 kind:Int
 a:Int
 b:Int
 place:Int
 side:Int
 left:List Int
 right:List Int
 deriving DecidableEq
instance:Enc Entry:=⟨7,by decide,fun x=>[.int .i64 x.kind,.int .i64 x.a,.int .i64 x.b,.int .i64 x.place,.int .i64 x.side,slc x.left,slc x.right],fun _=>rfl⟩
@[simp] theorem qe5:Enc.sz Entry=7:=rfl
theorem q42(x:Entry):enc x=[.int .i64 x.kind,.int .i64 x.a,.int .i64 x.b,.int .i64 x.place,.int .i64 x.side,slc x.left,slc x.right]:=rfl
instance:Sm Entry:=⟨fun n x=>sm n x.left/\sm n x.right,fun h x=>⟨q2x h x.1,q2x h x.2⟩⟩
structure Completion where
 order:List Int
 equations:List Equation
 entries:List Entry
 rules:List Int
 waiting:List Int
 rounds:Int
 deriving DecidableEq
instance:Enc Completion:=⟨6,by decide,fun x=>[slc x.order,slc x.equations,slc x.entries,slc x.rules,slc x.waiting,.int .i64 x.rounds],fun _=>rfl⟩
@[simp] theorem qtq:Enc.sz Completion=6:=rfl
instance:Sm Completion:=⟨fun n x=>sm n x.order/\sm n x.equations/\sm n x.entries/\sm n x.rules/\sm n x.waiting,fun h x=>⟨q2x h x.1,q2x h x.2.1,q2x h x.2.2.1,q2x h x.2.2.2.1,q2x h x.2.2.2.2⟩⟩
structure Theory where
 order:List Int
 equations:List Equation
 rules:List Equation
 deriving DecidableEq
instance:Enc Theory:=⟨3,by decide,fun x=>[slc x.order,slc x.equations,slc x.rules],fun _=>rfl⟩
@[simp] theorem qxd:Enc.sz Theory=3:=rfl
instance:Sm Theory:=⟨fun n x=>sm n x.order/\sm n x.equations/\sm n x.rules,fun h x=>⟨q2x h x.1,q2x h x.2.1,q2x h x.2.2⟩⟩
structure Put where
 sector:Int
 bytes:List UInt8
 deriving DecidableEq
instance:Enc Put:=⟨2,by decide,fun x=>[.int .i64 x.sector,slc x.bytes],fun _=>rfl⟩
@[simp] theorem qy1:Enc.sz Put=2:=rfl
instance:Sm Put:=⟨fun n x=>sm n x.bytes,fun h x=>q2x h x⟩
structure Disk where
 sectors:List (List UInt8)
 pending:List Put
 deriving DecidableEq
instance:Enc Disk:=⟨2,by decide,fun x=>[slc x.sectors,slc x.pending],fun _=>rfl⟩
@[simp] theorem qxz:Enc.sz Disk=2:=rfl
instance:Sm Disk:=⟨fun n x=>sm n x.sectors/\sm n x.pending,fun h x=>⟨q2x h x.1,q2x h x.2⟩⟩
structure Act where
 kind:Int
 put:Put
 deriving DecidableEq
instance:Enc Act:=⟨3,by decide,fun x=>[.int .i64 x.kind,.int .i64 x.put.sector,slc x.put.bytes],fun _=>rfl⟩
@[simp] theorem qy3:Enc.sz Act=3:=rfl
instance:Sm Act:=⟨fun n x=>sm n x.put,fun h x=>q2x h x⟩
structure IntResult where
 code:Int
 value:Int
 deriving DecidableEq
instance:Enc IntResult:=⟨2,by decide,fun x=>[.int .i64 x.code,.int .i64 x.value],fun _=>rfl⟩
@[simp] theorem qvg:Enc.sz IntResult=2:=rfl
theorem q6t(x:IntResult):enc x=[.int .i64 x.code,.int .i64 x.value]:=rfl
instance:Sm IntResult:=⟨fun n x=>True,fun _ h=>h⟩
structure IntsResult where
 code:Int
 list:List Int
 deriving DecidableEq
instance:Enc IntsResult:=⟨2,by decide,fun x=>[.int .i64 x.code,slc x.list],fun _=>rfl⟩
@[simp] theorem qur:Enc.sz IntsResult=2:=rfl
theorem q6z(x:IntsResult):enc x=[.int .i64 x.code,slc x.list]:=rfl
instance:Sm IntsResult:=⟨fun n x=>sm n x.list,fun h x=>q2x h x⟩
structure BytesResult where
 code:Int
 bytes:List UInt8
 deriving DecidableEq
instance:Enc BytesResult:=⟨2,by decide,fun x=>[.int .i64 x.code,slc x.bytes],fun _=>rfl⟩
@[simp] theorem qtm:Enc.sz BytesResult=2:=rfl
instance:Sm BytesResult:=⟨fun n x=>sm n x.bytes,fun h x=>q2x h x⟩
structure TextResult where
 code:Int
 text:ByteArray
 deriving DecidableEq
instance:Enc TextResult:=⟨2,by decide,fun x=>[.int .i64 x.code,.str x.text],fun _=>rfl⟩
@[simp] theorem qui:Enc.sz TextResult=2:=rfl
instance:Sm TextResult:=⟨fun n x=>sm n x.text,fun h x=>q2x h x⟩
structure SignatureResult where
 code:Int
 signature:Signature
 deriving DecidableEq
instance:Enc SignatureResult:=⟨2,by decide,fun x=>[.int .i64 x.code,slc x.signature.symbols],fun _=>rfl⟩
@[simp] theorem qps:Enc.sz SignatureResult=2:=rfl
instance:Sm SignatureResult:=⟨fun n x=>sm n x.signature,fun h x=>q2x h x⟩
structure TermResult where
 code:Int
 term:List Int
 deriving DecidableEq
instance:Enc TermResult:=⟨2,by decide,fun x=>[.int .i64 x.code,slc x.term],fun _=>rfl⟩
@[simp] theorem qtu:Enc.sz TermResult=2:=rfl
theorem q36(x:TermResult):enc x=[.int .i64 x.code,slc x.term]:=rfl
instance:Sm TermResult:=⟨fun n x=>sm n x.term,fun h x=>q2x h x⟩
structure TermsResult where
 code:Int
 terms:List (List Int)
 deriving DecidableEq
instance:Enc TermsResult:=⟨2,by decide,fun x=>[.int .i64 x.code,slc x.terms],fun _=>rfl⟩
@[simp] theorem qto:Enc.sz TermsResult=2:=rfl
instance:Sm TermsResult:=⟨fun n x=>sm n x.terms,fun h x=>q2x h x⟩
structure EquationResult where
 code:Int
 equation:Equation
 deriving DecidableEq
instance:Enc EquationResult:=⟨3,by decide,fun x=>[.int .i64 x.code,slc x.equation.left,slc x.equation.right],fun _=>rfl⟩
@[simp] theorem qqi:Enc.sz EquationResult=3:=rfl
theorem q20(x:EquationResult):enc x=[.int .i64 x.code,slc x.equation.left,slc x.equation.right]:=rfl
instance:Sm EquationResult:=⟨fun n x=>sm n x.equation,fun h x=>q2x h x⟩
structure EquationsResult where
 code:Int
 list:List Equation
 deriving DecidableEq
instance:Enc EquationsResult:=⟨2,by decide,fun x=>[.int .i64 x.code,slc x.list],fun _=>rfl⟩
@[simp] theorem qpx:Enc.sz EquationsResult=2:=rfl
instance:Sm EquationsResult:=⟨fun n x=>sm n x.list,fun h x=>q2x h x⟩
structure KeyResult where
 code:Int
 normal:List Int
 term:List Int
 deriving DecidableEq
instance:Enc KeyResult:=⟨3,by decide,fun x=>[.int .i64 x.code,slc x.normal,slc x.term],fun _=>rfl⟩
@[simp] theorem qvm:Enc.sz KeyResult=3:=rfl
instance:Sm KeyResult:=⟨fun n x=>sm n x.normal/\sm n x.term,fun h x=>⟨q2x h x.1,q2x h x.2⟩⟩
structure BindingResult where
 code:Int
 binding:Binding
 deriving DecidableEq
instance:Enc BindingResult:=⟨3,by decide,fun x=>[.int .i64 x.code,slc x.binding.vars,slc x.binding.terms],fun _=>rfl⟩
@[simp] theorem qr8:Enc.sz BindingResult=3:=rfl
instance:Sm BindingResult:=⟨fun n x=>sm n x.binding,fun h x=>q2x h x⟩
structure RedexResult where
 code:Int
 place:Int
 rule:Int
 deriving DecidableEq
instance:Enc RedexResult:=⟨3,by decide,fun x=>[.int .i64 x.code,.int .i64 x.place,.int .i64 x.rule],fun _=>rfl⟩
@[simp] theorem qtl:Enc.sz RedexResult=3:=rfl
instance:Sm RedexResult:=⟨fun n x=>True,fun _ h=>h⟩
structure NormalResult where
 code:Int
 term:List Int
 steps:Int
 deriving DecidableEq
instance:Enc NormalResult:=⟨3,by decide,fun x=>[.int .i64 x.code,slc x.term,.int .i64 x.steps],fun _=>rfl⟩
@[simp] theorem qrz:Enc.sz NormalResult=3:=rfl
instance:Sm NormalResult:=⟨fun n x=>sm n x.term,fun h x=>q2x h x⟩
structure AlgebraResult where
 code:Int
 algebra:Algebra
 deriving DecidableEq
instance:Enc AlgebraResult:=⟨3,by decide,fun x=>[.int .i64 x.code,.int .i64 x.algebra.size,slc x.algebra.tables],fun _=>rfl⟩
@[simp] theorem qrc:Enc.sz AlgebraResult=3:=rfl
theorem q6j(x:AlgebraResult):enc x=[.int .i64 x.code,.int .i64 x.algebra.size,slc x.algebra.tables]:=rfl
instance:Sm AlgebraResult:=⟨fun n x=>sm n x.algebra,fun h x=>q2x h x⟩
structure EntryResult where
 code:Int
 entry:Entry
 deriving DecidableEq
instance:Enc EntryResult:=⟨8,by decide,fun x=>[.int .i64 x.code,.int .i64 x.entry.kind,.int .i64 x.entry.a,.int .i64 x.entry.b,.int .i64 x.entry.place,.int .i64 x.entry.side,slc x.entry.left,slc x.entry.right],fun _=>rfl⟩
@[simp] theorem qtn:Enc.sz EntryResult=8:=rfl
instance:Sm EntryResult:=⟨fun n x=>sm n x.entry,fun h x=>q2x h x⟩
structure CompletionResult where
 code:Int
 completion:Completion
 deriving DecidableEq
instance:Enc CompletionResult:=⟨7,by decide,fun x=>[.int .i64 x.code,slc x.completion.order,slc x.completion.equations,slc x.completion.entries,slc x.completion.rules,slc x.completion.waiting,.int .i64 x.completion.rounds],fun _=>rfl⟩
@[simp] theorem qn2:Enc.sz CompletionResult=7:=rfl
instance:Sm CompletionResult:=⟨fun n x=>sm n x.completion,fun h x=>q2x h x⟩
structure TheoryResult where
 code:Int
 theory:Theory
 deriving DecidableEq
instance:Enc TheoryResult:=⟨4,by decide,fun x=>[.int .i64 x.code,slc x.theory.order,slc x.theory.equations,slc x.theory.rules],fun _=>rfl⟩
@[simp] theorem qs3:Enc.sz TheoryResult=4:=rfl
instance:Sm TheoryResult:=⟨fun n x=>sm n x.theory,fun h x=>q2x h x⟩
structure DiskResult where
 code:Int
 disk:Disk
 deriving DecidableEq
instance:Enc DiskResult:=⟨3,by decide,fun x=>[.int .i64 x.code,slc x.disk.sectors,slc x.disk.pending],fun _=>rfl⟩
@[simp] theorem qun:Enc.sz DiskResult=3:=rfl
instance:Sm DiskResult:=⟨fun n x=>sm n x.disk,fun h x=>q2x h x⟩
theorem szs:Enc.sz Int=1/\Enc.sz UInt8=1/\Enc.sz Symbol=2/\Enc.sz Signature=1/\Enc.sz Equation=2/\Enc.sz Binding=2/\Enc.sz Algebra=2/\Enc.sz Entry=7/\Enc.sz Completion=6/\Enc.sz Theory=3/\Enc.sz Put=2/\Enc.sz Disk=2/\Enc.sz Act=3/\Enc.sz IntResult=2/\Enc.sz IntsResult=2/\Enc.sz BytesResult=2/\Enc.sz TextResult=2/\Enc.sz SignatureResult=2/\Enc.sz TermResult=2/\Enc.sz TermsResult=2/\Enc.sz EquationResult=3/\Enc.sz EquationsResult=2/\Enc.sz KeyResult=3/\Enc.sz BindingResult=3/\Enc.sz RedexResult=3/\Enc.sz NormalResult=3/\Enc.sz AlgebraResult=3/\Enc.sz EntryResult=8/\Enc.sz CompletionResult=7/\Enc.sz TheoryResult=4/\Enc.sz DiskResult=3:=⟨rfl,rfl,rfl,rfl,rfl,rfl,rfl,rfl,rfl,rfl,rfl,rfl,rfl,rfl,rfl,rfl,rfl,rfl,rfl,rfl,rfl,rfl,rfl,rfl,rfl,rfl,rfl,rfl,rfl,rfl,rfl⟩
theorem evs:(∀{n m:Nat},((n:Int)<(m:Int))<->n<m)/\(∀{a b:ByteArray},(a.toList=b.toList)=(a=b))/\
 (∀{α:Type}[BEq α][LawfulBEq α][DecidableEq α]{a b:α},(a==b)=decide (a=b))/\(∀{α:Type}[BEq α][LawfulBEq α][DecidableEq α]{a b:α},(a != b) = !decide (a=b))/\
 (∀{β:Type}{p:Prop}[Decidable p]{x y:β},(bif decide p then x else y)=if p then x else y)/\(∀{β:Type}{b:Bool}{x y:β},(bif !b then x else y)=bif b then y else x)/\
 (∀{a b:UInt8},((a.toNat:Int)=(b.toNat:Int))=(a=b))/\(∀{α:Type}[Enc α]{l:List α}{k:Nat},Enc.sz α=k->(cells l).length/k=l.length)/\(∀{α:Type}[Enc α],Enc.sz (List α)=1)/\
 (∀i n:Nat,inB (i:Int) n=decide (i<n))/\(∀n:Nat,((n:Nat):Int).toNat=n)/\
 (∀{α:Type}[Enc α]{l:List α}{k i:Nat},Enc.sz α=k->(cells l)[i*k]?=(l[i]?).bind fun x=>(Enc.enc x)[0]?)/\
 (∀{α:Type}[Enc α]{l:List α}{k i:Nat},Enc.sz α=k->1<k->(cells l)[i*k+1]?=(l[i]?).bind fun x=>(Enc.enc x)[1]?)/\
 (∀{α:Type}[Enc α]{l:List α}{k i:Nat},Enc.sz α=k->2<k->(cells l)[i*k+1+1]?=(l[i]?).bind fun x=>(Enc.enc x)[2]?)/\
 (∀{α:Type}[Enc α]{l:List α}{k i:Nat},Enc.sz α=k->3<k->(cells l)[i*k+1+1+1]?=(l[i]?).bind fun x=>(Enc.enc x)[3]?)/\
 (∀{α:Type}[Enc α]{l:List α}{k i:Nat},Enc.sz α=k->4<k->(cells l)[i*k+1+1+1+1]?=(l[i]?).bind fun x=>(Enc.enc x)[4]?)/\
 (∀{α:Type}[Enc α]{l:List α}{k i:Nat},Enc.sz α=k->5<k->(cells l)[i*k+1+1+1+1+1]?=(l[i]?).bind fun x=>(Enc.enc x)[5]?)/\
 (∀{α:Type}[Enc α]{l:List α}{k i:Nat},Enc.sz α=k->6<k->(cells l)[i*k+1+1+1+1+1+1]?=(l[i]?).bind fun x=>(Enc.enc x)[6]?)/\
 (∀{α:Type}[Enc α]{l:List α}{k i:Nat},Enc.sz α=k->7<k->(cells l)[i*k+1+1+1+1+1+1+1]?=(l[i]?).bind fun x=>(Enc.enc x)[7]?)/\
 (∀{α:Type}[Enc α]{l:List α}{k i:Nat},Enc.sz α=k->8<k->(cells l)[i*k+1+1+1+1+1+1+1+1]?=(l[i]?).bind fun x=>(Enc.enc x)[8]?)/\
 (∀{α β:Type}{x:α}{f:α->Option β},Option.bind (some x) f=f x)/\(∀{α:Type}{a:α}{l:List α},(a::l)[0]?=some a)/\(∀{α:Type}{a:α}{i:Nat}{l:List α},(a::l)[i+1]?=l[i]?)/\
 (∀(k:IntKind)(n:Int),oInt k (.int k n)=some n)/\(∀b:Bool,q9d (.bool b)=some b)/\(∀b:ByteArray,oStr (.str b)=some b)/\(∀{α:Type}[Enc α]{k:Nat}(l:List α),Enc.sz α=k->oSl k (slc l)=some (cells l))/\
 (∀c:List T,oAgg (.agg c)=some c)/\(∀c:List T,oTup (.tup c)=some c)/\(∀(x:T)(c:List T),q10 (x::c)=some (x,c))/\oNil []=some ()/\
 (∀{α:Type}[Enc α]{k:Nat}{l:List α},Enc.sz α=k->T.sl k (cells l)=slc l):=
 ⟨Int.ofNat_lt,qwy,qw5,qvs,qu4,qwe,qx6,q5h,qsx,q6v,gR,get0,get1,get2,get3,get4,get5,get6,get7,get8,qw8,List.getElem?_cons_zero,List.getElem?_cons_succ,qtv,qr6,qu7,qvv,qtz,quz,qqn,quw,qdj⟩
theorem tfs:(∀{α:Type}{h:Decidable True}(a b:α),ite True a b=a)/\(∀{α:Type}{h:Decidable False}(a b:α),ite False a b=b)/\(∀(h:Decidable True),@decide True h=true)/\
 (∀(h:Decidable False),@decide False h=false)/\(∀{α:Type}{a b:α},cond true a b=a)/\(∀{α:Type}{a b:α},cond false a b=b):=
 ⟨if_true,if_false,decide_true,decide_false,rfl,rfl⟩
theorem bns:(∀{r:T×List T}{g:Int->R},bI r g=(oNil r.2).bind fun _=>(oInt .i64 r.1).bind g)/\(∀{r:T×List T}{g:Bool->R},bB r g=(oNil r.2).bind fun _=>(q9d r.1).bind g)/\
 (∀{r:T×List T}{g:List T->R},bL r g=(oNil r.2).bind fun _=>(oSl 1 r.1).bind g)/\(∀{r:T×List T}{g:List T->R},bM r g=(oNil r.2).bind fun _=>(oSl 2 r.1).bind g)/\
 (∀{r:T×List T}{g:List T->Int->R},bS r g=(q10 r.2).bind fun p=>(oNil p.2).bind fun _=>(oAgg p.1).bind fun c=>(q10 c).bind fun p=>(oSl 1 p.1).bind fun c=>(q10 p.2).bind fun p=>(oInt .i64 p.1).bind fun n=>(oNil p.2).bind fun _=>g c n):=
 ⟨rfl,rfl,rfl,rfl,rfl⟩
theorem evz:type_of% tfs/\type_of% evs/\type_of% szs/\type_of% bns:=⟨tfs,evs,szs,bns⟩
class OfSh(s:Sh)(α:Type)[Enc α][Sm α] where
 of:s.Val->α
 enc:∀x,s.wf x->s.enc x=Enc.enc (of x)
 sz:s.size=Enc.sz α
 sm:∀x,s.wf x->Sm.sm maxLen (of x)
theorem q3s{a b:Sh}{x:(Sh.pair a b).Val}{l r:List T}(h1:a.enc x.1=l)(h2:b.enc x.2=r):(Sh.pair a b).enc x=l++r:=by rw[Sh.enc,h1,h2]
instance:OfSh (.int .i64) Int:=⟨id,fun _ _=>rfl,rfl,fun _ _=>trivial⟩
instance:OfSh .bool Bool:=⟨id,fun _ _=>rfl,rfl,fun _ _=>trivial⟩
instance:OfSh .str ByteArray:=⟨id,fun _ _=>rfl,rfl,fun _ h=>h⟩
theorem qx5(x:Int)(h:(Lit.int .u8 x).wf=true):[T.int .u8 x]=[T.int .u8 ((UInt8.ofNat (Int.toNat x)).toNat:Int)]:=by
 simp[Lit.wf,IntKind.min,IntKind.max,IntKind.signed,IntKind.bits]at h;rw[UInt8.toNat_ofNat'];congr 2;omega
instance:OfSh (.int .u8) UInt8:=⟨fun n=>UInt8.ofNat (Int.toNat n),fun x h=>qx5 x h,rfl,fun _ _=>trivial⟩
theorem qpd{s:Sh}{α:Type}[Enc α][Sm α][OfSh s α]:∀(l:List s.Val),(∀x,x∈l->s.wf x)->l.flatMap s.enc=cells (l.map (OfSh.of (s:=s) (α:=α)))
 |[],_=>rfl
 |x::l,h=>by
  rw[gAN,List.map_cons,q83,OfSh.enc (α:=α) x (h x (by simp)),qpd (α:=α) l fun y hy=>h y (by simp[hy])]
instance {s:Sh}{α:Type}[Enc α][Sm α][OfSh s α]:OfSh (.sl s) (List α):=⟨fun l=>l.map (OfSh.of (s:=s) (α:=α)),fun l h=>by
 show[T.sl s.size (List.flatMap s.enc l)]=[slc _]
 rw[qpd (α:=α) l h.2,OfSh.sz (s:=s) (α:=α)];rfl,rfl,fun l h=>⟨by simpa using h.1,fun x hx=>by
  obtain⟨y,hy,rfl⟩:=List.mem_map.1 hx;exact OfSh.sm y (h.2 y hy)⟩⟩
theorem arg_list{s:Sh}{α:Type}[Enc α][Sm α][OfSh s α](l:List s.Val)(h:(Sh.sl s).wf l):argOf (.sl s) l=slc (OfSh.of (s:=.sl s) (α:=List α) l):=by
 have:=OfSh.enc (s:=.sl s) (α:=List α) l h;simpa[Sh.enc,argOf]using this
@[reducible] def qi0:Sh:=.pair .str (.pair (.int .i64) .unit)
instance:OfSh qi0 Symbol:=⟨fun x=>⟨OfSh.of (s:=.str) (α:=ByteArray) x.1,OfSh.of (s:=(.int .i64)) (α:=Int) x.2.1⟩,fun x h=>q3s (OfSh.enc (α:=ByteArray) x.1 h.1) (q3s (OfSh.enc (α:=Int) x.2.1 h.2.1) (rfl)),rfl,fun x h=>OfSh.sm (α:=ByteArray) x.1 h.1⟩
@[reducible] def qmk:Sh:=.pair (.sl qi0) .unit
instance:OfSh qmk Signature:=⟨fun x=>⟨OfSh.of (s:=(.sl qi0)) (α:=List Symbol) x.1⟩,fun x h=>q3s (OfSh.enc (α:=List Symbol) x.1 h.1) (rfl),rfl,fun x h=>OfSh.sm (α:=List Symbol) x.1 h.1⟩
@[reducible] def q7r:Sh:=.pair (.sl (.int .i64)) (.pair (.sl (.int .i64)) .unit)
instance:OfSh q7r Equation:=⟨fun x=>⟨OfSh.of (s:=(.sl (.int .i64))) (α:=List Int) x.1,OfSh.of (s:=(.sl (.int .i64))) (α:=List Int) x.2.1⟩,fun x h=>q3s (OfSh.enc (α:=List Int) x.1 h.1) (q3s (OfSh.enc (α:=List Int) x.2.1 h.2.1) (rfl)),rfl,fun x h=>⟨OfSh.sm (α:=List Int) x.1 h.1,OfSh.sm (α:=List Int) x.2.1 h.2.1⟩⟩
@[reducible] def qqu:Sh:=.pair (.sl (.int .i64)) (.pair (.sl (.sl (.int .i64))) .unit)
instance:OfSh qqu Binding:=⟨fun x=>⟨OfSh.of (s:=(.sl (.int .i64))) (α:=List Int) x.1,OfSh.of (s:=(.sl (.sl (.int .i64)))) (α:=List (List Int)) x.2.1⟩,fun x h=>q3s (OfSh.enc (α:=List Int) x.1 h.1) (q3s (OfSh.enc (α:=List (List Int)) x.2.1 h.2.1) (rfl)),rfl,fun x h=>⟨OfSh.sm (α:=List Int) x.1 h.1,OfSh.sm (α:=List (List Int)) x.2.1 h.2.1⟩⟩
@[reducible] def qqc:Sh:=.pair (.int .i64) (.pair (.sl (.sl (.int .i64))) .unit)
instance:OfSh qqc Algebra:=⟨fun x=>⟨OfSh.of (s:=(.int .i64)) (α:=Int) x.1,OfSh.of (s:=(.sl (.sl (.int .i64)))) (α:=List (List Int)) x.2.1⟩,fun x h=>q3s (OfSh.enc (α:=Int) x.1 h.1) (q3s (OfSh.enc (α:=List (List Int)) x.2.1 h.2.1) (rfl)),rfl,fun x h=>OfSh.sm (α:=List (List Int)) x.2.1 h.2.1⟩
@[reducible] def qkj:Sh:=.pair (.int .i64) (.pair (.int .i64) (.pair (.int .i64) (.pair (.int .i64) (.pair (.int .i64) (.pair (.sl (.int .i64)) (.pair (.sl (.int .i64)) .unit))))))
instance:OfSh qkj Entry:=⟨fun x=>⟨OfSh.of (s:=(.int .i64)) (α:=Int) x.1,OfSh.of (s:=(.int .i64)) (α:=Int) x.2.1,OfSh.of (s:=(.int .i64)) (α:=Int) x.2.2.1,OfSh.of (s:=(.int .i64)) (α:=Int) x.2.2.2.1,OfSh.of (s:=(.int .i64)) (α:=Int) x.2.2.2.2.1,OfSh.of (s:=(.sl (.int .i64))) (α:=List Int) x.2.2.2.2.2.1,OfSh.of (s:=(.sl (.int .i64))) (α:=List Int) x.2.2.2.2.2.2.1⟩,fun x h=>q3s (OfSh.enc (α:=Int) x.1 h.1) (q3s (OfSh.enc (α:=Int) x.2.1 h.2.1) (q3s (OfSh.enc (α:=Int) x.2.2.1 h.2.2.1) (q3s (OfSh.enc (α:=Int) x.2.2.2.1 h.2.2.2.1) (q3s (OfSh.enc (α:=Int) x.2.2.2.2.1 h.2.2.2.2.1) (q3s (OfSh.enc (α:=List Int) x.2.2.2.2.2.1 h.2.2.2.2.2.1) (q3s (OfSh.enc (α:=List Int) x.2.2.2.2.2.2.1 h.2.2.2.2.2.2.1) (rfl))))))),rfl,fun x h=>⟨OfSh.sm (α:=List Int) x.2.2.2.2.2.1 h.2.2.2.2.2.1,OfSh.sm (α:=List Int) x.2.2.2.2.2.2.1 h.2.2.2.2.2.2.1⟩⟩
@[reducible] def qk8:Sh:=.pair (.sl (.int .i64)) (.pair (.sl q7r) (.pair (.sl qkj) (.pair (.sl (.int .i64)) (.pair (.sl (.int .i64)) (.pair (.int .i64) .unit)))))
instance:OfSh qk8 Completion:=⟨fun x=>⟨OfSh.of (s:=(.sl (.int .i64))) (α:=List Int) x.1,OfSh.of (s:=(.sl q7r)) (α:=List Equation) x.2.1,OfSh.of (s:=(.sl qkj)) (α:=List Entry) x.2.2.1,OfSh.of (s:=(.sl (.int .i64))) (α:=List Int) x.2.2.2.1,OfSh.of (s:=(.sl (.int .i64))) (α:=List Int) x.2.2.2.2.1,OfSh.of (s:=(.int .i64)) (α:=Int) x.2.2.2.2.2.1⟩,fun x h=>q3s (OfSh.enc (α:=List Int) x.1 h.1) (q3s (OfSh.enc (α:=List Equation) x.2.1 h.2.1) (q3s (OfSh.enc (α:=List Entry) x.2.2.1 h.2.2.1) (q3s (OfSh.enc (α:=List Int) x.2.2.2.1 h.2.2.2.1) (q3s (OfSh.enc (α:=List Int) x.2.2.2.2.1 h.2.2.2.2.1) (q3s (OfSh.enc (α:=Int) x.2.2.2.2.2.1 h.2.2.2.2.2.1) (rfl)))))),rfl,fun x h=>⟨OfSh.sm (α:=List Int) x.1 h.1,OfSh.sm (α:=List Equation) x.2.1 h.2.1,OfSh.sm (α:=List Entry) x.2.2.1 h.2.2.1,OfSh.sm (α:=List Int) x.2.2.2.1 h.2.2.2.1,OfSh.sm (α:=List Int) x.2.2.2.2.1 h.2.2.2.2.1⟩⟩
@[reducible] def qre:Sh:=.pair (.sl (.int .i64)) (.pair (.sl q7r) (.pair (.sl q7r) .unit))
instance:OfSh qre Theory:=⟨fun x=>⟨OfSh.of (s:=(.sl (.int .i64))) (α:=List Int) x.1,OfSh.of (s:=(.sl q7r)) (α:=List Equation) x.2.1,OfSh.of (s:=(.sl q7r)) (α:=List Equation) x.2.2.1⟩,fun x h=>q3s (OfSh.enc (α:=List Int) x.1 h.1) (q3s (OfSh.enc (α:=List Equation) x.2.1 h.2.1) (q3s (OfSh.enc (α:=List Equation) x.2.2.1 h.2.2.1) (rfl))),rfl,fun x h=>⟨OfSh.sm (α:=List Int) x.1 h.1,OfSh.sm (α:=List Equation) x.2.1 h.2.1,OfSh.sm (α:=List Equation) x.2.2.1 h.2.2.1⟩⟩
@[reducible] def ql0:Sh:=.pair (.int .i64) (.pair (.sl (.int .u8)) .unit)
instance:OfSh ql0 Put:=⟨fun x=>⟨OfSh.of (s:=(.int .i64)) (α:=Int) x.1,OfSh.of (s:=(.sl (.int .u8))) (α:=List UInt8) x.2.1⟩,fun x h=>q3s (OfSh.enc (α:=Int) x.1 h.1) (q3s (OfSh.enc (α:=List UInt8) x.2.1 h.2.1) (rfl)),rfl,fun x h=>OfSh.sm (α:=List UInt8) x.2.1 h.2.1⟩
@[reducible] def qwa:Sh:=.pair (.sl (.sl (.int .u8))) (.pair (.sl ql0) .unit)
instance:OfSh qwa Disk:=⟨fun x=>⟨OfSh.of (s:=(.sl (.sl (.int .u8)))) (α:=List (List UInt8)) x.1,OfSh.of (s:=(.sl ql0)) (α:=List Put) x.2.1⟩,fun x h=>q3s (OfSh.enc (α:=List (List UInt8)) x.1 h.1) (q3s (OfSh.enc (α:=List Put) x.2.1 h.2.1) (rfl)),rfl,fun x h=>⟨OfSh.sm (α:=List (List UInt8)) x.1 h.1,OfSh.sm (α:=List Put) x.2.1 h.2.1⟩⟩
@[reducible] def qx3:Sh:=.pair (.int .i64) (.pair ql0 .unit)
instance:OfSh qx3 Act:=⟨fun x=>⟨OfSh.of (s:=(.int .i64)) (α:=Int) x.1,OfSh.of (s:=ql0) (α:=Put) x.2.1⟩,fun x h=>q3s (OfSh.enc (α:=Int) x.1 h.1) (q3s (OfSh.enc (α:=Put) x.2.1 h.2.1) (rfl)),rfl,fun x h=>OfSh.sm (α:=Put) x.2.1 h.2.1⟩
def idx{α:Type}(p:α->Bool)(l:List α):Int:=match l.findIdx? p with
 |some i=>(i:Nat)
 |none => -1
theorem qdu{n:Nat}{bad:Nat->Bool}{S:Nat->Nat->R}{r z:R}
 (step:∀m k,k<n->S (m+1) k=if bad k=true then r else S m (k+1)) (stop:∀m,S (m+1) n=z) {f:Nat} (hf:n<f) :
 S f 0=if(List.range n).any bad=true then r else z:=by
 have:∀m k,k<=n->n<m+k->S m k=if(List.range' k (n-k)).any bad=true then r else z:=by
  intro m;induction m with
  |zero=>intros;omega
  |succ m ih=>
   intro k hk hm;by_cases h:k<n
   ·rw[step m k h,ih (k+1) (by omega) (by omega),show n-k=(n-(k+1))+1 by omega,List.range'_succ,List.any_cons];by_cases hb:bad k=true
    ·rw[if_pos hb,hb,Bool.true_or,if_pos rfl]
    ·have hb':=Bool.eq_false_iff.2 hb;rw[if_neg hb,hb',Bool.false_or]
   ·obtain rfl:k=n:=by omega
    rw[stop m];simp
 have:=this f 0 (by omega) (by omega);rwa[Nat.sub_zero,<- List.range_eq_range']at this
theorem q8w{α:Type}{l:List α}{g:α->Option R}{S:Nat->Nat->R}{z:R}
 (step:∀m k (h:k<l.length),S (m+1) k=match g l[k]with|some r=>r|none=>S m (k+1)) (stop:∀m,S (m+1) l.length=z) {f:Nat} (hf:l.length<f) :
 S f 0=match l.findSome? g with|some r=>r|none=>z:=by
 have:∀m k,k<=l.length->l.length<m+k->S m k=match (l.drop k).findSome? g with|some r=>r|none=>z:=by
  intro m;induction m with
  |zero=>intros;omega
  |succ m ih=>
   intro k hk hm;by_cases h:k<l.length
   ·rw[step m k h,gH h,List.findSome?_cons];cases g l[k]with
    |none=>exact ih (k+1) (by omega) (by omega)
    |some r=>rfl
   ·obtain rfl:k=l.length:=by omega
    rw[stop m];simp
 simpa using this f 0 (by omega) (by omega)
theorem q8d{α:Type}{l:List α}{p:α->Bool}{S:Nat->Nat->R}{r z:R}
 (step:∀m k (h:k<l.length),S (m+1) k=if p l[k]=true then r else S m (k+1)) (stop:∀m,S (m+1) l.length=z) {f:Nat} (hf:l.length<f) :
 S f 0=if l.any p=true then r else z:=by
 have:∀m k,k<=l.length->l.length<m+k->S m k=if(l.drop k).any p=true then r else z:=by
  intro m;induction m with
  |zero=>intros;omega
  |succ m ih=>
   intro k hk hm;by_cases h:k<l.length
   ·rw[step m k h,gH h,List.any_cons,ih (k+1) (by omega) (by omega)];by_cases hb:p l[k]=true
    ·rw[if_pos hb,hb,Bool.true_or,if_pos rfl]
    ·have hb':=Bool.eq_false_iff.2 hb;rw[if_neg hb,hb',Bool.false_or]
   ·obtain rfl:k=l.length:=by omega
    rw[stop m];simp
 simpa using this f 0 (by omega) (by omega)
theorem qud{α:Type}{l:List α}{p:α->Bool}{S:Nat->Nat->R}{r:R}
 (step:∀m k (h:k<l.length),S (m+1) k=if p l[k]=true then r else S m (k+1)) (ha:l.any p=true) {f:Nat} (hf:l.length<f):S f 0=r:=by
 have:∀m k,l.length<m+k->k<=l.length->(l.drop k).any p=true->S m k=r:=by
  intro m;induction m with
  |zero=>intros;omega
  |succ m ih=>
   intro k hm hk ha;by_cases h:k<l.length
   ·rw[gH h,List.any_cons,Bool.or_eq_true]at ha;rw[step m k h];by_cases hb:p l[k]=true
    ·rw[if_pos hb]
    ·rw[if_neg hb];exact ih (k+1) (by omega) (by omega) (ha.resolve_left hb)
   ·rw[gU (by omega)]at ha;cases ha
 exact this f 0 (by omega) (by omega) (by simpa using ha)
theorem q8u{α:Type}{l:List α}{p:α->Bool}{S:Nat->Nat->R}
 (step:∀m k (h:k<l.length),S (m+1) k=if p l[k]=true then some (.int .i64 (k:Nat),[])else S m (k+1)) (stop:∀m,S (m+1) l.length=some (.int .i64 (-1),[])) {f:Nat} (hf:l.length<f) :
 S f 0=some (.int .i64 (idx p l),[]):=by
 have:∀m k,k<=l.length->l.length<m+k->S m k=some (.int .i64 (match (l.drop k).findIdx? p with|some i=>((i+k:Nat):Int)|none => -1),[]):=by
  intro m;induction m with
  |zero=>intros;omega
  |succ m ih=>
   intro k hk hm;by_cases h:k<l.length
   ·rw[step m k h,gH h,List.findIdx?_cons,ih (k+1) (by omega) (by omega)];by_cases hb:p l[k]=true
    ·simp[hb]
    ·simp only[hb];cases (l.drop (k+1)).findIdx? p with
     |none=>simp
     |some i=>simp;omega
   ·obtain rfl:k=l.length:=by omega
    rw[stop m];simp
 simpa[idx]using this f 0 (by omega) (by omega)
theorem q8r{α:Type}(p:α->Bool)(l:List α):decide (idx p l>=0)=l.any p:=by
 unfold idx;cases h:l.findIdx? p with
 |none=>
  rw[List.findIdx?_eq_none_iff]at h;rw[Bool.eq_iff_iff];simp;intro x hx;simpa using h x hx
 |some i=>
  rw[List.findIdx?_eq_some_iff_getElem]at h;obtain⟨h1,h2,_⟩:=h;rw[Bool.eq_iff_iff];simp;exact⟨l[i],gG h1,h2⟩
theorem q8s{α:Type}(p:α->Bool)(l:List α):(idx p l = -1/\∀x,x∈l->p x=false)\/∃i,∃h:i<l.length,idx p l=(i:Nat)/\p l[i]=true/\∀j (hj:j<i),p (l[j]'(Nat.lt_trans hj h))=false:=by
 unfold idx;cases hx:l.findIdx? p with
 |none=>rw[List.findIdx?_eq_none_iff]at hx;exact .inl ⟨rfl,hx⟩
 |some i=>
  rw[List.findIdx?_eq_some_iff_getElem]at hx;obtain⟨h1,h2,h3⟩:=hx;exact .inr ⟨i,h1,rfl,h2,fun j hj=>by simpa using h3 j hj⟩
theorem q7b{α β γ:Type}(f:α->Option β)(g:β->γ):∀l:List α,l.findSome? (fun x=>(f x).map g)=(l.findSome? f).map g
 |[]=>rfl
 |x::l=>by
  rw[List.findSome?_cons,List.findSome?_cons];cases f x with
  |none=>exact q7b f g l
  |some b=>rfl
theorem qg7{α σ:Type}{l:List α}{S:Nat->Nat->σ->R}{g:σ->α->σ}{z:σ->R}(I:Nat->σ->Prop)
 (step:∀m k s (h:k<l.length),I k s->S (m+1) k s=S m (k+1) (g s l[k]))
 (inv:∀k s (h:k<l.length),I k s->I (k+1) (g s l[k]))
 (stop:∀m s,I l.length s->S (m+1) l.length s=z s) (s:σ) (h0:I 0 s) {f:Nat} (hf:l.length<f):S f 0 s=z (l.foldl g s):=by
 have:∀m k s,k<=l.length->l.length<m+k->I k s->S m k s=z ((l.drop k).foldl g s):=by
  intro m;induction m with
  |zero=>intros;omega
  |succ m ih=>
   intro k s hk hm hi;by_cases h:k<l.length
   ·rw[step m k s h hi,gH h,List.foldl_cons];exact ih (k+1) _ (by omega) (by omega) (inv k s h hi)
   ·obtain rfl:k=l.length:=by omega
    rw[stop m s hi,gU (gAI _),List.foldl_nil]
 simpa using this f 0 s (by omega) (by omega) h0
theorem qp6{α σ:Type}{l:List α}{g:σ->α->σ}(I:Nat->σ->Prop)(inv:∀k s (h:k<l.length),I k s->I (k+1) (g s l[k]))(s:σ)(h0:I 0 s):I l.length (l.foldl g s):=by
 have:∀n k s,k+n=l.length->I k s->I l.length ((l.drop k).foldl g s):=by
  intro n;induction n with
  |zero=>intro k s hk hi;obtain rfl:k=l.length:=by omega
         rw[gU (gAI _)];exact hi
  |succ n ih=>
   intro k s hk hi;have h:k<l.length:=by omega
   rw[gH h,List.foldl_cons];exact ih (k+1) _ (by omega) (inv k s h hi)
 simpa using this l.length 0 s (by omega) h0
theorem q3q{α:Type}[Enc α]:slc ([]:List α)=T.sl (Enc.sz α) []:=rfl
theorem q2f(l:List Int)(x:Int):cells l++[.int .i64 x]=cells (l++[x]):=by rw[q33,<- q1x,qdo]
theorem q77{α:Type}[Enc α](l:List (List α))(x:List α):cells l++[slc x]=cells (l++[x]):=by rw[q33,<- q67,qdo]
theorem q3v{a b:Nat}(h:a<=b):Nat.ble a b=true:=Nat.ble_eq_true_of_le h
theorem qaz{σ:Type}{n:Nat}{S:Nat->Nat->σ->R}{st:Nat->σ}{z:R}(step:∀m k,k<n->S (m+1) k (st k)=S m (k+1) (st (k+1)))(stop:∀m,S (m+1) n (st n)=z){f:Nat}(hf:n<f) :
 S f 0 (st 0)=z:=by
 have:∀m k,k<=n->n<m+k->S m k (st k)=z:=by
  intro m;induction m with
  |zero=>intros;omega
  |succ m ih=>
   intro k hk hm;by_cases h:k<n
   ·rw[step m k h];exact ih (k+1) (by omega) (by omega)
   ·obtain rfl:k=n:=by omega
    exact stop m
 exact this f 0 (by omega) (by omega)
theorem q4c(l:List Int):(cells l).all T.scalar=true:=by
 rw[gAL];intro x hx;obtain⟨y,_,hy⟩:=List.mem_flatMap.1 hx;obtain rfl:=gD.1 hy;rfl
end Ev.Ty
end
