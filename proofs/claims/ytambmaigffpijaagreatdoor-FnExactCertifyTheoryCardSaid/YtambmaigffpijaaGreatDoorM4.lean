/- Steps on the way to RowCertifyTheory: X1, X2, XALL, TyMarks, TyFields, TyPlumb, TyNum, TySig, TyAlg, TyTerm, TyTree, TyEval, TyEvalF, TyEvalT, TyVars, TyEqs, TySame. -/
import Derived.Test.YtambmaigffpijaaGreatDoorM3
import Derived.Lib.SlTrimSet
set_option linter.unusedSectionVars false
section
open Go
set_option linter.unusedVariables false
set_option maxRecDepth 100000
namespace Ev
theorem laws_szEquation.ev (n:Nat) (a0_0:List T) (a0_1:List T) (a1:Int):callK prog A H LIM n F.laws_szEquation [(.agg [(.sl 1 a0_0),(.sl 1 a0_1)]),(.int .i64 a1)]=((LIM F.laws_szInt64S [(.sl 1 a0_0),(.int .i64 a1)]).bind fun r1=>((oNil r1.2).bind fun _=>((oInt .i64 r1.1).bind fun n2=>(bif (decide (n2 < (0:Int))) then some ((.int .i64 (-1:Int)),[]) else ((LIM F.laws_szInt64S [(.sl 1 a0_1),(.int .i64 n2)]).bind fun r3=>((oNil r3.2).bind fun _=>((oInt .i64 r3.1).bind fun n4=>(bif (decide (n4 < (0:Int))) then some ((.int .i64 (-1:Int)),[]) else some ((.int .i64 n4),[]))))))))):=by kernel_rfl
def laws_szEquationS.st0 (x0:List T) (x1:Int) (x2:Int):St:=⟨[(0,(.one (.t (.sl 2 x0)))),(1,(.one (.t (.int .i64 x1)))),(5,(.one (.t (.int .i64 x2))))],[]⟩
noncomputable def laws_szEquationS.K0 (n:Nat):Ex→St→R:=ctxK prog A (H F.laws_szEquationS) LIM n [.block 0,.seq 0 (subCode [1,1,1,1] (bodyOf prog F.laws_szEquationS))] (endOf prog A F.laws_szEquationS)
noncomputable def laws_szEquationS.at0 (n:Nat) (m:Nat) (s:St):R:=loopAt prog A (H F.laws_szEquationS) LIM n 0 (subCode [1,1,1,0,1,0,0] (bodyOf prog F.laws_szEquationS)) (laws_szEquationS.K0 n) m s
noncomputable def laws_szEquationS.rd0 (n:Nat) (L0:St→R) (s:St):R:=roundK prog A (H F.laws_szEquationS) LIM n 0 (subCode [1,1,1,0,1,0,0] (bodyOf prog F.laws_szEquationS)) (laws_szEquationS.K0 n) L0 s
theorem laws_szEquationS.next0 (n:Nat) (m:Nat) (s:St):laws_szEquationS.at0 n (m+1) s=laws_szEquationS.rd0 n (laws_szEquationS.at0 n m) s:=loopAt_succ _ _ _ _ _ _ _ _ _ _
theorem laws_szEquationS.round0 (n:Nat) (L0:St→R) (x0:List T) (x1:Int) (x2:Int):laws_szEquationS.rd0 n L0 (laws_szEquationS.st0 x0 x1 x2)=(bif (decide (x2 < ((((x0).length / 2):Nat):Int))) then (bif inB x2 ((x0).length / 2) then ((x0[((Int.toNat x2)*2)]?).bind fun e1=>((oSl 1 e1).bind fun c2=>((x0[(((Int.toNat x2)*2)+1)]?).bind fun e3=>((oSl 1 e3).bind fun c4=>((LIM F.laws_szEquation [(.agg [(.sl 1 c2),(.sl 1 c4)]),(.int .i64 x1)]).bind fun r5=>((oNil r5.2).bind fun _=>((oInt .i64 r5.1).bind fun n6=>(bif (decide (n6 < (0:Int))) then some ((.int .i64 (-1:Int)),[]) else (L0 (laws_szEquationS.st0 x0 n6 (IntKind.wrap .i64 (x2+(1:Int))))))))))))) else none) else some ((.int .i64 x1),[])):=by kernel_rfl
theorem laws_szEquationS.ev (n:Nat) (a0:List T) (a1:Int):callK prog A H LIM n F.laws_szEquationS [(.sl 2 a0),(.int .i64 a1)]=(bif (decide ((IntKind.wrap .i64 (a1 - ((((a0).length / 2):Nat):Int))) < (0:Int))) then some ((.int .i64 (-1:Int)),[]) else (laws_szEquationS.at0 n n (laws_szEquationS.st0 a0 (IntKind.wrap .i64 (a1 - ((((a0).length / 2):Nat):Int))) (0:Int)))):=by kernel_rfl
theorem laws_szInt64S.ev (n:Nat) (a0:List T) (a1:Int):callK prog A H LIM n F.laws_szInt64S [(.sl 1 a0),(.int .i64 a1)]=(bif (decide ((IntKind.wrap .i64 (a1 - ((((a0).length / 1):Nat):Int))) < (0:Int))) then some ((.int .i64 (-1:Int)),[]) else some ((.int .i64 (IntKind.wrap .i64 (a1 - ((((a0).length / 1):Nat):Int)))),[])):=by kernel_rfl
theorem laws_szSignature.ev (n:Nat) (a0_0:List T) (a1:Int):callK prog A H LIM n F.laws_szSignature [(.agg [(.sl 2 a0_0)]),(.int .i64 a1)]=((LIM F.laws_szSymbolS [(.sl 2 a0_0),(.int .i64 a1)]).bind fun r1=>((oNil r1.2).bind fun _=>((oInt .i64 r1.1).bind fun n2=>(bif (decide (n2 < (0:Int))) then some ((.int .i64 (-1:Int)),[]) else some ((.int .i64 n2),[]))))):=by kernel_rfl
theorem laws_szSymbol.ev (n:Nat) (a0_0:ByteArray) (a0_1:Int) (a1:Int):callK prog A H LIM n F.laws_szSymbol [(.agg [(.str a0_0),(.int .i64 a0_1)]),(.int .i64 a1)]=(bif (decide ((IntKind.wrap .i64 (a1 - (a0_0.size:Int))) < (0:Int))) then some ((.int .i64 (-1:Int)),[]) else some ((.int .i64 (IntKind.wrap .i64 (a1 - (a0_0.size:Int)))),[])):=by kernel_rfl
def laws_szSymbolS.st0 (x0:List T) (x1:Int) (x2:Int):St:=⟨[(0,(.one (.t (.sl 2 x0)))),(1,(.one (.t (.int .i64 x1)))),(5,(.one (.t (.int .i64 x2))))],[]⟩
noncomputable def laws_szSymbolS.K0 (n:Nat):Ex→St→R:=ctxK prog A (H F.laws_szSymbolS) LIM n [.block 0,.seq 0 (subCode [1,1,1,1] (bodyOf prog F.laws_szSymbolS))] (endOf prog A F.laws_szSymbolS)
noncomputable def laws_szSymbolS.at0 (n:Nat) (m:Nat) (s:St):R:=loopAt prog A (H F.laws_szSymbolS) LIM n 0 (subCode [1,1,1,0,1,0,0] (bodyOf prog F.laws_szSymbolS)) (laws_szSymbolS.K0 n) m s
noncomputable def laws_szSymbolS.rd0 (n:Nat) (L0:St→R) (s:St):R:=roundK prog A (H F.laws_szSymbolS) LIM n 0 (subCode [1,1,1,0,1,0,0] (bodyOf prog F.laws_szSymbolS)) (laws_szSymbolS.K0 n) L0 s
theorem laws_szSymbolS.next0 (n:Nat) (m:Nat) (s:St):laws_szSymbolS.at0 n (m+1) s=laws_szSymbolS.rd0 n (laws_szSymbolS.at0 n m) s:=loopAt_succ _ _ _ _ _ _ _ _ _ _
theorem laws_szSymbolS.round0 (n:Nat) (L0:St→R) (x0:List T) (x1:Int) (x2:Int):laws_szSymbolS.rd0 n L0 (laws_szSymbolS.st0 x0 x1 x2)=(bif (decide (x2 < ((((x0).length / 2):Nat):Int))) then (bif inB x2 ((x0).length / 2) then ((x0[((Int.toNat x2)*2)]?).bind fun e1=>((oStr e1).bind fun s2=>((x0[(((Int.toNat x2)*2)+1)]?).bind fun e3=>((oInt .i64 e3).bind fun n4=>((LIM F.laws_szSymbol [(.agg [(.str s2),(.int .i64 n4)]),(.int .i64 x1)]).bind fun r5=>((oNil r5.2).bind fun _=>((oInt .i64 r5.1).bind fun n6=>(bif (decide (n6 < (0:Int))) then some ((.int .i64 (-1:Int)),[]) else (L0 (laws_szSymbolS.st0 x0 n6 (IntKind.wrap .i64 (x2+(1:Int))))))))))))) else none) else some ((.int .i64 x1),[])):=by kernel_rfl
theorem laws_szSymbolS.ev (n:Nat) (a0:List T) (a1:Int):callK prog A H LIM n F.laws_szSymbolS [(.sl 2 a0),(.int .i64 a1)]=(bif (decide ((IntKind.wrap .i64 (a1 - ((((a0).length / 2):Nat):Int))) < (0:Int))) then some ((.int .i64 (-1:Int)),[]) else (laws_szSymbolS.at0 n n (laws_szSymbolS.st0 a0 (IntKind.wrap .i64 (a1 - ((((a0).length / 2):Nat):Int))) (0:Int)))):=by kernel_rfl
theorem laws_szTheory.ev (n:Nat) (a0_0:List T) (a0_1:List T) (a0_2:List T) (a1:Int):callK prog A H LIM n F.laws_szTheory [(.agg [(.sl 1 a0_0),(.sl 2 a0_1),(.sl 2 a0_2)]),(.int .i64 a1)]=((LIM F.laws_szInt64S [(.sl 1 a0_0),(.int .i64 a1)]).bind fun r1=>((oNil r1.2).bind fun _=>((oInt .i64 r1.1).bind fun n2=>(bif (decide (n2 < (0:Int))) then some ((.int .i64 (-1:Int)),[]) else ((LIM F.laws_szEquationS [(.sl 2 a0_1),(.int .i64 n2)]).bind fun r3=>((oNil r3.2).bind fun _=>((oInt .i64 r3.1).bind fun n4=>(bif (decide (n4 < (0:Int))) then some ((.int .i64 (-1:Int)),[]) else ((LIM F.laws_szEquationS [(.sl 2 a0_2),(.int .i64 n4)]).bind fun r5=>((oNil r5.2).bind fun _=>((oInt .i64 r5.1).bind fun n6=>(bif (decide (n6 < (0:Int))) then some ((.int .i64 (-1:Int)),[]) else some ((.int .i64 n6),[]))))))))))))):=by kernel_rfl
theorem laws_toEquation.ev (n:Nat) (a0_0:List T) (a0_1:List T):callK prog A H LIM n F.laws_toEquation [(.agg [(.sl 1 a0_0),(.sl 1 a0_1)])]=((LIM F.laws_toInt64S [(.sl 1 a0_0)]).bind fun r1=>((oNil r1.2).bind fun _=>((oSl 1 r1.1).bind fun c2=>((LIM F.laws_toInt64S [(.sl 1 a0_1)]).bind fun r3=>((oNil r3.2).bind fun _=>((oSl 1 r3.1).bind fun c4=>some ((.agg [(.sl 1 c2),(.sl 1 c4)]),[]))))))):=by kernel_rfl
def laws_toEquationS.st0 (x0:List T) (x1:Int) (x2:List T):St:=⟨[(0,(.one (.t (.sl 2 x0)))),(3,(.one (.obj 448))),(4,(.one (.t (.int .i64 x1))))],[(448,(.arr true true 2 x2))]⟩
noncomputable def laws_toEquationS.K0 (n:Nat):Ex→St→R:=ctxK prog A (H F.laws_toEquationS) LIM n [.block 0,.seq 0 (subCode [1,1,1] (bodyOf prog F.laws_toEquationS))] (endOf prog A F.laws_toEquationS)
noncomputable def laws_toEquationS.at0 (n:Nat) (m:Nat) (s:St):R:=loopAt prog A (H F.laws_toEquationS) LIM n 0 (subCode [1,1,0,1,0,0] (bodyOf prog F.laws_toEquationS)) (laws_toEquationS.K0 n) m s
noncomputable def laws_toEquationS.rd0 (n:Nat) (L0:St→R) (s:St):R:=roundK prog A (H F.laws_toEquationS) LIM n 0 (subCode [1,1,0,1,0,0] (bodyOf prog F.laws_toEquationS)) (laws_toEquationS.K0 n) L0 s
theorem laws_toEquationS.next0 (n:Nat) (m:Nat) (s:St):laws_toEquationS.at0 n (m+1) s=laws_toEquationS.rd0 n (laws_toEquationS.at0 n m) s:=loopAt_succ _ _ _ _ _ _ _ _ _ _
theorem laws_toEquationS.round0 (n:Nat) (L0:St→R) (x0:List T) (x1:Int) (x2:List T):laws_toEquationS.rd0 n L0 (laws_toEquationS.st0 x0 x1 x2)=(bif (decide (x1 < ((((x0).length / 2):Nat):Int))) then (bif inB x1 ((x0).length / 2) then ((x0[((Int.toNat x1)*2)]?).bind fun e1=>((oSl 1 e1).bind fun c2=>((x0[(((Int.toNat x1)*2)+1)]?).bind fun e3=>((oSl 1 e3).bind fun c4=>((LIM F.laws_toEquation [(.agg [(.sl 1 c2),(.sl 1 c4)])]).bind fun r5=>((oNil r5.2).bind fun _=>((oAgg r5.1).bind fun c6=>((oCons c6).bind fun p7=>((oSl 1 p7.1).bind fun c8=>((oCons p7.2).bind fun p9=>((oSl 1 p9.1).bind fun c10=>((oNil p9.2).bind fun _=>(bif inB x1 ((x2).length / 2) then (bif decide (((Int.toNat x1)*2)+2≤(x2).length) then (L0 (laws_toEquationS.st0 x0 (IntKind.wrap .i64 (x1+(1:Int))) (setCells x2 ((Int.toNat x1)*2) [(.sl 1 c8),(.sl 1 c10)]))) else none) else none))))))))))))) else none) else some ((.sl 2 x2),[])):=by kernel_rfl
theorem laws_toEquationS.ev (n:Nat) (a0:List T):callK prog A H LIM n F.laws_toEquationS [(.sl 2 a0)]=(bif decide (0≤((((a0).length / 2):Nat):Int))&&decide (((((a0).length / 2):Nat):Int)=((((a0).length / 2):Nat):Int))&&Nat.ble (((Int.toNat ((((a0).length / 2):Nat):Int))*2)*48) (140737488355328*2) then (laws_toEquationS.at0 n n (laws_toEquationS.st0 a0 (0:Int) (repT (Int.toNat ((((a0).length / 2):Nat):Int)) [(.sl 1 []),(.sl 1 [])]))) else none):=by kernel_rfl
def laws_toInt64S.st0 (x0:List T) (x1:Int) (x2:List T):St:=⟨[(0,(.one (.t (.sl 1 x0)))),(3,(.one (.obj 448))),(4,(.one (.t (.int .i64 x1))))],[(448,(.arr true true 1 x2))]⟩
noncomputable def laws_toInt64S.K0 (n:Nat):Ex→St→R:=ctxK prog A (H F.laws_toInt64S) LIM n [.block 0,.seq 0 (subCode [1,1,1] (bodyOf prog F.laws_toInt64S))] (endOf prog A F.laws_toInt64S)
noncomputable def laws_toInt64S.at0 (n:Nat) (m:Nat) (s:St):R:=loopAt prog A (H F.laws_toInt64S) LIM n 0 (subCode [1,1,0,1,0,0] (bodyOf prog F.laws_toInt64S)) (laws_toInt64S.K0 n) m s
noncomputable def laws_toInt64S.rd0 (n:Nat) (L0:St→R) (s:St):R:=roundK prog A (H F.laws_toInt64S) LIM n 0 (subCode [1,1,0,1,0,0] (bodyOf prog F.laws_toInt64S)) (laws_toInt64S.K0 n) L0 s
theorem laws_toInt64S.next0 (n:Nat) (m:Nat) (s:St):laws_toInt64S.at0 n (m+1) s=laws_toInt64S.rd0 n (laws_toInt64S.at0 n m) s:=loopAt_succ _ _ _ _ _ _ _ _ _ _
theorem laws_toInt64S.round0 (n:Nat) (L0:St→R) (x0:List T) (x1:Int) (x2:List T):laws_toInt64S.rd0 n L0 (laws_toInt64S.st0 x0 x1 x2)=(bif (decide (x1 < ((((x0).length / 1):Nat):Int))) then (bif inB x1 ((x0).length / 1) then ((x0[((Int.toNat x1)*1)]?).bind fun e1=>((oInt .i64 e1).bind fun n2=>(bif inB x1 ((x2).length / 1) then (bif decide (((Int.toNat x1)*1)+1≤(x2).length) then (L0 (laws_toInt64S.st0 x0 (IntKind.wrap .i64 (x1+(1:Int))) (setCells x2 ((Int.toNat x1)*1) [(.int .i64 n2)]))) else none) else none))) else none) else some ((.sl 1 x2),[])):=by kernel_rfl
theorem laws_toInt64S.ev (n:Nat) (a0:List T):callK prog A H LIM n F.laws_toInt64S [(.sl 1 a0)]=(bif decide (0≤((((a0).length / 1):Nat):Int))&&decide (((((a0).length / 1):Nat):Int)=((((a0).length / 1):Nat):Int))&&Nat.ble (((Int.toNat ((((a0).length / 1):Nat):Int))*1)*8) (140737488355328*1) then (laws_toInt64S.at0 n n (laws_toInt64S.st0 a0 (0:Int) (repT (Int.toNat ((((a0).length / 1):Nat):Int)) [(.int .i64 (0:Int))]))) else none):=by kernel_rfl
theorem laws_toSignature.ev (n:Nat) (a0_0:List T):callK prog A H LIM n F.laws_toSignature [(.agg [(.sl 2 a0_0)])]=((LIM F.laws_toSymbolS [(.sl 2 a0_0)]).bind fun r1=>((oNil r1.2).bind fun _=>((oSl 2 r1.1).bind fun c2=>some ((.agg [(.sl 2 c2)]),[])))):=by kernel_rfl
theorem laws_toSymbol.ev (n:Nat) (a0_0:ByteArray) (a0_1:Int):callK prog A H LIM n F.laws_toSymbol [(.agg [(.str a0_0),(.int .i64 a0_1)])]=some ((.agg [(.str a0_0),(.int .i64 a0_1)]),[]):=by kernel_rfl
def laws_toSymbolS.st0 (x0:List T) (x1:Int) (x2:List T):St:=⟨[(0,(.one (.t (.sl 2 x0)))),(3,(.one (.obj 448))),(4,(.one (.t (.int .i64 x1))))],[(448,(.arr true true 2 x2))]⟩
noncomputable def laws_toSymbolS.K0 (n:Nat):Ex→St→R:=ctxK prog A (H F.laws_toSymbolS) LIM n [.block 0,.seq 0 (subCode [1,1,1] (bodyOf prog F.laws_toSymbolS))] (endOf prog A F.laws_toSymbolS)
noncomputable def laws_toSymbolS.at0 (n:Nat) (m:Nat) (s:St):R:=loopAt prog A (H F.laws_toSymbolS) LIM n 0 (subCode [1,1,0,1,0,0] (bodyOf prog F.laws_toSymbolS)) (laws_toSymbolS.K0 n) m s
noncomputable def laws_toSymbolS.rd0 (n:Nat) (L0:St→R) (s:St):R:=roundK prog A (H F.laws_toSymbolS) LIM n 0 (subCode [1,1,0,1,0,0] (bodyOf prog F.laws_toSymbolS)) (laws_toSymbolS.K0 n) L0 s
theorem laws_toSymbolS.next0 (n:Nat) (m:Nat) (s:St):laws_toSymbolS.at0 n (m+1) s=laws_toSymbolS.rd0 n (laws_toSymbolS.at0 n m) s:=loopAt_succ _ _ _ _ _ _ _ _ _ _
theorem laws_toSymbolS.round0 (n:Nat) (L0:St→R) (x0:List T) (x1:Int) (x2:List T):laws_toSymbolS.rd0 n L0 (laws_toSymbolS.st0 x0 x1 x2)=(bif (decide (x1 < ((((x0).length / 2):Nat):Int))) then (bif inB x1 ((x0).length / 2) then ((x0[((Int.toNat x1)*2)]?).bind fun e1=>((oStr e1).bind fun s2=>((x0[(((Int.toNat x1)*2)+1)]?).bind fun e3=>((oInt .i64 e3).bind fun n4=>((LIM F.laws_toSymbol [(.agg [(.str s2),(.int .i64 n4)])]).bind fun r5=>((oNil r5.2).bind fun _=>((oAgg r5.1).bind fun c6=>((oCons c6).bind fun p7=>((oStr p7.1).bind fun s8=>((oCons p7.2).bind fun p9=>((oInt .i64 p9.1).bind fun n10=>((oNil p9.2).bind fun _=>(bif inB x1 ((x2).length / 2) then (bif decide (((Int.toNat x1)*2)+2≤(x2).length) then (L0 (laws_toSymbolS.st0 x0 (IntKind.wrap .i64 (x1+(1:Int))) (setCells x2 ((Int.toNat x1)*2) [(.str s8),(.int .i64 n10)]))) else none) else none))))))))))))) else none) else some ((.sl 2 x2),[])):=by kernel_rfl
theorem laws_toSymbolS.ev (n:Nat) (a0:List T):callK prog A H LIM n F.laws_toSymbolS [(.sl 2 a0)]=(bif decide (0≤((((a0).length / 2):Nat):Int))&&decide (((((a0).length / 2):Nat):Int)=((((a0).length / 2):Nat):Int))&&Nat.ble (((Int.toNat ((((a0).length / 2):Nat):Int))*2)*24) (140737488355328*2) then (laws_toSymbolS.at0 n n (laws_toSymbolS.st0 a0 (0:Int) (repT (Int.toNat ((((a0).length / 2):Nat):Int)) [(.str (ByteArray.mk #[])),(.int .i64 (0:Int))]))) else none):=by kernel_rfl
theorem laws_toTheory.ev (n:Nat) (a0_0:List T) (a0_1:List T) (a0_2:List T):callK prog A H LIM n F.laws_toTheory [(.agg [(.sl 1 a0_0),(.sl 2 a0_1),(.sl 2 a0_2)])]=((LIM F.laws_toInt64S [(.sl 1 a0_0)]).bind fun r1=>((oNil r1.2).bind fun _=>((oSl 1 r1.1).bind fun c2=>((LIM F.laws_toEquationS [(.sl 2 a0_1)]).bind fun r3=>((oNil r3.2).bind fun _=>((oSl 2 r3.1).bind fun c4=>((LIM F.laws_toEquationS [(.sl 2 a0_2)]).bind fun r5=>((oNil r5.2).bind fun _=>((oSl 2 r5.1).bind fun c6=>some ((.agg [(.sl 1 c2),(.sl 2 c4),(.sl 2 c6)]),[])))))))))):=by kernel_rfl
theorem slices_ContainsFunc_SEquation_at1_impl_RulesFault_1.ev (n:Nat) (a0:List T):callK prog A H LIM n F.slices_ContainsFunc_SEquation [(.sl 2 a0),(.clo F.impl_RulesFault_1 [])]=((LIM F.slices_IndexFunc_SEquation [(.sl 2 a0),(.clo F.impl_RulesFault_1 [])]).bind fun r1=>((oNil r1.2).bind fun _=>((oInt .i64 r1.1).bind fun n2=>some ((.bool (decide (n2 ≥ (0:Int)))),[])))):=by kernel_rfl
theorem slices_ContainsFunc_SEquation_at1_impl_IsDecreasing_1.ev (n:Nat) (a0:List T) (a1_0_0:List T) (a1_1_0:List T):callK prog A H LIM n F.slices_ContainsFunc_SEquation [(.sl 2 a0),(.clo F.impl_IsDecreasing_1 [(.rref [(.sl 2 a1_0_0)] 0),(.rref [(.sl 1 a1_1_0)] 0)])]=((LIM F.slices_IndexFunc_SEquation [(.sl 2 a0),(.clo F.impl_IsDecreasing_1 [(.rref [(.sl 2 a1_0_0)] 0),(.rref [(.sl 1 a1_1_0)] 0)])]).bind fun r1=>((oNil r1.2).bind fun _=>((oInt .i64 r1.1).bind fun n2=>some ((.bool (decide (n2 ≥ (0:Int)))),[])))):=by kernel_rfl
theorem slices_ContainsFunc_SSymbol_at1_impl_SignatureFault_1.ev (n:Nat) (a0:List T):callK prog A H LIM n F.slices_ContainsFunc_SSymbol [(.sl 2 a0),(.clo F.impl_SignatureFault_1 [])]=((LIM F.slices_IndexFunc_SSymbol [(.sl 2 a0),(.clo F.impl_SignatureFault_1 [])]).bind fun r1=>((oNil r1.2).bind fun _=>((oInt .i64 r1.1).bind fun n2=>some ((.bool (decide (n2 ≥ (0:Int)))),[])))):=by kernel_rfl
theorem slices_ContainsFunc_Sint64_at1_impl_TermFault_1.ev (n:Nat) (a0:List T) (a1_0_0:List T):callK prog A H LIM n F.slices_ContainsFunc_Sint64 [(.sl 1 a0),(.clo F.impl_TermFault_1 [(.rref [(.sl 2 a1_0_0)] 0)])]=((LIM F.slices_IndexFunc_Sint64 [(.sl 1 a0),(.clo F.impl_TermFault_1 [(.rref [(.sl 2 a1_0_0)] 0)])]).bind fun r1=>((oNil r1.2).bind fun _=>((oInt .i64 r1.1).bind fun n2=>some ((.bool (decide (n2 ≥ (0:Int)))),[])))):=by kernel_rfl
theorem slices_ContainsFunc_Sint64_at1_impl_isRule_1.ev (n:Nat) (a0:List T) (a1_0_0:List T):callK prog A H LIM n F.slices_ContainsFunc_Sint64 [(.sl 1 a0),(.clo F.impl_isRule_1 [(.rref [(.sl 1 a1_0_0)] 0)])]=((LIM F.slices_IndexFunc_Sint64 [(.sl 1 a0),(.clo F.impl_isRule_1 [(.rref [(.sl 1 a1_0_0)] 0)])]).bind fun r1=>((oNil r1.2).bind fun _=>((oInt .i64 r1.1).bind fun n2=>some ((.bool (decide (n2 ≥ (0:Int)))),[])))):=by kernel_rfl
theorem slices_ContainsFunc_Sint64_at1_impl_EquationFault_1.ev (n:Nat) (a0:List T):callK prog A H LIM n F.slices_ContainsFunc_Sint64 [(.sl 1 a0),(.clo F.impl_EquationFault_1 [])]=((LIM F.slices_IndexFunc_Sint64 [(.sl 1 a0),(.clo F.impl_EquationFault_1 [])]).bind fun r1=>((oNil r1.2).bind fun _=>((oInt .i64 r1.1).bind fun n2=>some ((.bool (decide (n2 ≥ (0:Int)))),[])))):=by kernel_rfl
theorem slices_ContainsFunc_Sint64_at1_impl_OrderFault_1.ev (n:Nat) (a0:List T) (a1_0_0:List T):callK prog A H LIM n F.slices_ContainsFunc_Sint64 [(.sl 1 a0),(.clo F.impl_OrderFault_1 [(.rref [(.sl 2 a1_0_0)] 0)])]=((LIM F.slices_IndexFunc_Sint64 [(.sl 1 a0),(.clo F.impl_OrderFault_1 [(.rref [(.sl 2 a1_0_0)] 0)])]).bind fun r1=>((oNil r1.2).bind fun _=>((oInt .i64 r1.1).bind fun n2=>some ((.bool (decide (n2 ≥ (0:Int)))),[])))):=by kernel_rfl
theorem slices_Contains_Sint64.ev (n:Nat) (a0:List T) (a1:Int):callK prog A H LIM n F.slices_Contains_Sint64 [(.sl 1 a0),(.int .i64 a1)]=((LIM F.slices_Index_Sint64 [(.sl 1 a0),(.int .i64 a1)]).bind fun r1=>((oNil r1.2).bind fun _=>((oInt .i64 r1.1).bind fun n2=>some ((.bool (decide (n2 ≥ (0:Int)))),[])))):=by kernel_rfl
def slices_Equal_Sint64.st0 (x0:List T) (x1:List T) (x2:Int) (x3:Int):St:=⟨[(0,(.one (.t (.sl 1 x0)))),(1,(.one (.t (.sl 1 x1)))),(12,(.one (.t (.int .i64 x2)))),(13,(.one (.t (.int .i64 x3))))],[]⟩
noncomputable def slices_Equal_Sint64.K0 (n:Nat):Ex→St→R:=ctxK prog A (H F.slices_Equal_Sint64) LIM n [.block 0,.seq 0 (subCode [1,1,1] (bodyOf prog F.slices_Equal_Sint64))] (endOf prog A F.slices_Equal_Sint64)
noncomputable def slices_Equal_Sint64.at0 (n:Nat) (m:Nat) (s:St):R:=loopAt prog A (H F.slices_Equal_Sint64) LIM n 0 (subCode [1,1,0,1,0,0] (bodyOf prog F.slices_Equal_Sint64)) (slices_Equal_Sint64.K0 n) m s
noncomputable def slices_Equal_Sint64.rd0 (n:Nat) (L0:St→R) (s:St):R:=roundK prog A (H F.slices_Equal_Sint64) LIM n 0 (subCode [1,1,0,1,0,0] (bodyOf prog F.slices_Equal_Sint64)) (slices_Equal_Sint64.K0 n) L0 s
theorem slices_Equal_Sint64.next0 (n:Nat) (m:Nat) (s:St):slices_Equal_Sint64.at0 n (m+1) s=slices_Equal_Sint64.rd0 n (slices_Equal_Sint64.at0 n m) s:=loopAt_succ _ _ _ _ _ _ _ _ _ _
theorem slices_Equal_Sint64.round0 (n:Nat) (L0:St→R) (x0:List T) (x1:List T) (x2:Int) (x3:Int):slices_Equal_Sint64.rd0 n L0 (slices_Equal_Sint64.st0 x0 x1 x2 x3)=(bif (decide (x3 < x2)) then (bif inB x3 ((x0).length / 1) then ((x0[((Int.toNat x3)*1)]?).bind fun e1=>((oInt .i64 e1).bind fun n2=>(bif inB x3 ((x1).length / 1) then ((x1[((Int.toNat x3)*1)]?).bind fun e3=>((oInt .i64 e3).bind fun n4=>(bif ((n2 != n4)) then some ((.bool false),[]) else (L0 (slices_Equal_Sint64.st0 x0 x1 x2 (IntKind.wrap .i64 (x3+(1:Int)))))))) else none))) else none) else some ((.bool true),[])):=by kernel_rfl
theorem slices_Equal_Sint64.ev (n:Nat) (a0:List T) (a1:List T):callK prog A H LIM n F.slices_Equal_Sint64 [(.sl 1 a0),(.sl 1 a1)]=(bif ((((((a0).length / 1):Nat):Int) != ((((a1).length / 1):Nat):Int))) then some ((.bool false),[]) else (slices_Equal_Sint64.at0 n n (slices_Equal_Sint64.st0 a0 a1 ((((a0).length / 1):Nat):Int) (0:Int)))):=by kernel_rfl
def slices_IndexFunc_SEquation_at1_impl_ruleAt_1.st0 (x0:List T) (x1:List T) (x2:List T) (x3:Int) (x4:Int):St:=⟨[(0,(.one (.t (.sl 2 x0)))),(1,(.one (.t (.clo F.impl_ruleAt_1 [(.rref [(.sl 2 x1)] 0),(.rref [(.sl 1 x2)] 0)])))),(7,(.one (.t (.int .i64 x3)))),(8,(.one (.t (.int .i64 x4))))],[]⟩
noncomputable def slices_IndexFunc_SEquation_at1_impl_ruleAt_1.K0 (n:Nat):Ex→St→R:=ctxK prog A (H F.slices_IndexFunc_SEquation) LIM n [.block 0,.seq 0 (subCode [1,1] (bodyOf prog F.slices_IndexFunc_SEquation))] (endOf prog A F.slices_IndexFunc_SEquation)
noncomputable def slices_IndexFunc_SEquation_at1_impl_ruleAt_1.at0 (n:Nat) (m:Nat) (s:St):R:=loopAt prog A (H F.slices_IndexFunc_SEquation) LIM n 0 (subCode [1,0,1,0,0] (bodyOf prog F.slices_IndexFunc_SEquation)) (slices_IndexFunc_SEquation_at1_impl_ruleAt_1.K0 n) m s
noncomputable def slices_IndexFunc_SEquation_at1_impl_ruleAt_1.rd0 (n:Nat) (L0:St→R) (s:St):R:=roundK prog A (H F.slices_IndexFunc_SEquation) LIM n 0 (subCode [1,0,1,0,0] (bodyOf prog F.slices_IndexFunc_SEquation)) (slices_IndexFunc_SEquation_at1_impl_ruleAt_1.K0 n) L0 s
theorem slices_IndexFunc_SEquation_at1_impl_ruleAt_1.next0 (n:Nat) (m:Nat) (s:St):slices_IndexFunc_SEquation_at1_impl_ruleAt_1.at0 n (m+1) s=slices_IndexFunc_SEquation_at1_impl_ruleAt_1.rd0 n (slices_IndexFunc_SEquation_at1_impl_ruleAt_1.at0 n m) s:=loopAt_succ _ _ _ _ _ _ _ _ _ _
theorem slices_IndexFunc_SEquation_at1_impl_ruleAt_1.round0 (n:Nat) (L0:St→R) (x0:List T) (x1:List T) (x2:List T) (x3:Int) (x4:Int):slices_IndexFunc_SEquation_at1_impl_ruleAt_1.rd0 n L0 (slices_IndexFunc_SEquation_at1_impl_ruleAt_1.st0 x0 x1 x2 x3 x4)=(bif (decide (x4 < x3)) then (bif inB x4 ((x0).length / 2) then ((x0[((Int.toNat x4)*2)]?).bind fun e1=>((oSl 1 e1).bind fun c2=>((x0[(((Int.toNat x4)*2)+1)]?).bind fun e3=>((oSl 1 e3).bind fun c4=>((LIM F.impl_ruleAt_1 [(.agg [(.sl 1 c2),(.sl 1 c4)]),(.rref [(.sl 2 x1)] 0),(.rref [(.sl 1 x2)] 0)]).bind fun r5=>((oNil r5.2).bind fun _=>((oBool r5.1).bind fun b6=>(bif b6 then some ((.int .i64 x4),[]) else (L0 (slices_IndexFunc_SEquation_at1_impl_ruleAt_1.st0 x0 x1 x2 x3 (IntKind.wrap .i64 (x4+(1:Int))))))))))))) else none) else some ((.int .i64 (-1:Int)),[])):=by kernel_rfl
theorem slices_IndexFunc_SEquation_at1_impl_ruleAt_1.ev (n:Nat) (a0:List T) (a1_0_0:List T) (a1_1_0:List T):callK prog A H LIM n F.slices_IndexFunc_SEquation [(.sl 2 a0),(.clo F.impl_ruleAt_1 [(.rref [(.sl 2 a1_0_0)] 0),(.rref [(.sl 1 a1_1_0)] 0)])]=(slices_IndexFunc_SEquation_at1_impl_ruleAt_1.at0 n n (slices_IndexFunc_SEquation_at1_impl_ruleAt_1.st0 a0 a1_0_0 a1_1_0 ((((a0).length / 2):Nat):Int) (0:Int))):=by kernel_rfl
def slices_IndexFunc_SEquation_at1_impl_RulesFault_1.st0 (x0:List T) (x1:Int) (x2:Int):St:=⟨[(0,(.one (.t (.sl 2 x0)))),(1,(.one (.t (.clo F.impl_RulesFault_1 [])))),(7,(.one (.t (.int .i64 x1)))),(8,(.one (.t (.int .i64 x2))))],[]⟩
noncomputable def slices_IndexFunc_SEquation_at1_impl_RulesFault_1.K0 (n:Nat):Ex→St→R:=ctxK prog A (H F.slices_IndexFunc_SEquation) LIM n [.block 0,.seq 0 (subCode [1,1] (bodyOf prog F.slices_IndexFunc_SEquation))] (endOf prog A F.slices_IndexFunc_SEquation)
noncomputable def slices_IndexFunc_SEquation_at1_impl_RulesFault_1.at0 (n:Nat) (m:Nat) (s:St):R:=loopAt prog A (H F.slices_IndexFunc_SEquation) LIM n 0 (subCode [1,0,1,0,0] (bodyOf prog F.slices_IndexFunc_SEquation)) (slices_IndexFunc_SEquation_at1_impl_RulesFault_1.K0 n) m s
noncomputable def slices_IndexFunc_SEquation_at1_impl_RulesFault_1.rd0 (n:Nat) (L0:St→R) (s:St):R:=roundK prog A (H F.slices_IndexFunc_SEquation) LIM n 0 (subCode [1,0,1,0,0] (bodyOf prog F.slices_IndexFunc_SEquation)) (slices_IndexFunc_SEquation_at1_impl_RulesFault_1.K0 n) L0 s
theorem slices_IndexFunc_SEquation_at1_impl_RulesFault_1.next0 (n:Nat) (m:Nat) (s:St):slices_IndexFunc_SEquation_at1_impl_RulesFault_1.at0 n (m+1) s=slices_IndexFunc_SEquation_at1_impl_RulesFault_1.rd0 n (slices_IndexFunc_SEquation_at1_impl_RulesFault_1.at0 n m) s:=loopAt_succ _ _ _ _ _ _ _ _ _ _
theorem slices_IndexFunc_SEquation_at1_impl_RulesFault_1.round0 (n:Nat) (L0:St→R) (x0:List T) (x1:Int) (x2:Int):slices_IndexFunc_SEquation_at1_impl_RulesFault_1.rd0 n L0 (slices_IndexFunc_SEquation_at1_impl_RulesFault_1.st0 x0 x1 x2)=(bif (decide (x2 < x1)) then (bif inB x2 ((x0).length / 2) then ((x0[((Int.toNat x2)*2)]?).bind fun e1=>((oSl 1 e1).bind fun c2=>((x0[(((Int.toNat x2)*2)+1)]?).bind fun e3=>((oSl 1 e3).bind fun c4=>((LIM F.impl_RulesFault_1 [(.agg [(.sl 1 c2),(.sl 1 c4)])]).bind fun r5=>((oNil r5.2).bind fun _=>((oBool r5.1).bind fun b6=>(bif b6 then some ((.int .i64 x2),[]) else (L0 (slices_IndexFunc_SEquation_at1_impl_RulesFault_1.st0 x0 x1 (IntKind.wrap .i64 (x2+(1:Int))))))))))))) else none) else some ((.int .i64 (-1:Int)),[])):=by kernel_rfl
theorem slices_IndexFunc_SEquation_at1_impl_RulesFault_1.ev (n:Nat) (a0:List T):callK prog A H LIM n F.slices_IndexFunc_SEquation [(.sl 2 a0),(.clo F.impl_RulesFault_1 [])]=(slices_IndexFunc_SEquation_at1_impl_RulesFault_1.at0 n n (slices_IndexFunc_SEquation_at1_impl_RulesFault_1.st0 a0 ((((a0).length / 2):Nat):Int) (0:Int))):=by kernel_rfl
def slices_IndexFunc_SEquation_at1_impl_IsDecreasing_1.st0 (x0:List T) (x1:List T) (x2:List T) (x3:Int) (x4:Int):St:=⟨[(0,(.one (.t (.sl 2 x0)))),(1,(.one (.t (.clo F.impl_IsDecreasing_1 [(.rref [(.sl 2 x1)] 0),(.rref [(.sl 1 x2)] 0)])))),(7,(.one (.t (.int .i64 x3)))),(8,(.one (.t (.int .i64 x4))))],[]⟩
noncomputable def slices_IndexFunc_SEquation_at1_impl_IsDecreasing_1.K0 (n:Nat):Ex→St→R:=ctxK prog A (H F.slices_IndexFunc_SEquation) LIM n [.block 0,.seq 0 (subCode [1,1] (bodyOf prog F.slices_IndexFunc_SEquation))] (endOf prog A F.slices_IndexFunc_SEquation)
noncomputable def slices_IndexFunc_SEquation_at1_impl_IsDecreasing_1.at0 (n:Nat) (m:Nat) (s:St):R:=loopAt prog A (H F.slices_IndexFunc_SEquation) LIM n 0 (subCode [1,0,1,0,0] (bodyOf prog F.slices_IndexFunc_SEquation)) (slices_IndexFunc_SEquation_at1_impl_IsDecreasing_1.K0 n) m s
noncomputable def slices_IndexFunc_SEquation_at1_impl_IsDecreasing_1.rd0 (n:Nat) (L0:St→R) (s:St):R:=roundK prog A (H F.slices_IndexFunc_SEquation) LIM n 0 (subCode [1,0,1,0,0] (bodyOf prog F.slices_IndexFunc_SEquation)) (slices_IndexFunc_SEquation_at1_impl_IsDecreasing_1.K0 n) L0 s
theorem slices_IndexFunc_SEquation_at1_impl_IsDecreasing_1.next0 (n:Nat) (m:Nat) (s:St):slices_IndexFunc_SEquation_at1_impl_IsDecreasing_1.at0 n (m+1) s=slices_IndexFunc_SEquation_at1_impl_IsDecreasing_1.rd0 n (slices_IndexFunc_SEquation_at1_impl_IsDecreasing_1.at0 n m) s:=loopAt_succ _ _ _ _ _ _ _ _ _ _
theorem slices_IndexFunc_SEquation_at1_impl_IsDecreasing_1.round0 (n:Nat) (L0:St→R) (x0:List T) (x1:List T) (x2:List T) (x3:Int) (x4:Int):slices_IndexFunc_SEquation_at1_impl_IsDecreasing_1.rd0 n L0 (slices_IndexFunc_SEquation_at1_impl_IsDecreasing_1.st0 x0 x1 x2 x3 x4)=(bif (decide (x4 < x3)) then (bif inB x4 ((x0).length / 2) then ((x0[((Int.toNat x4)*2)]?).bind fun e1=>((oSl 1 e1).bind fun c2=>((x0[(((Int.toNat x4)*2)+1)]?).bind fun e3=>((oSl 1 e3).bind fun c4=>((LIM F.impl_IsDecreasing_1 [(.agg [(.sl 1 c2),(.sl 1 c4)]),(.rref [(.sl 2 x1)] 0),(.rref [(.sl 1 x2)] 0)]).bind fun r5=>((oNil r5.2).bind fun _=>((oBool r5.1).bind fun b6=>(bif b6 then some ((.int .i64 x4),[]) else (L0 (slices_IndexFunc_SEquation_at1_impl_IsDecreasing_1.st0 x0 x1 x2 x3 (IntKind.wrap .i64 (x4+(1:Int))))))))))))) else none) else some ((.int .i64 (-1:Int)),[])):=by kernel_rfl
theorem slices_IndexFunc_SEquation_at1_impl_IsDecreasing_1.ev (n:Nat) (a0:List T) (a1_0_0:List T) (a1_1_0:List T):callK prog A H LIM n F.slices_IndexFunc_SEquation [(.sl 2 a0),(.clo F.impl_IsDecreasing_1 [(.rref [(.sl 2 a1_0_0)] 0),(.rref [(.sl 1 a1_1_0)] 0)])]=(slices_IndexFunc_SEquation_at1_impl_IsDecreasing_1.at0 n n (slices_IndexFunc_SEquation_at1_impl_IsDecreasing_1.st0 a0 a1_0_0 a1_1_0 ((((a0).length / 2):Nat):Int) (0:Int))):=by kernel_rfl
def slices_IndexFunc_SSymbol_at1_impl_SignatureFault_1.st0 (x0:List T) (x1:Int) (x2:Int):St:=⟨[(0,(.one (.t (.sl 2 x0)))),(1,(.one (.t (.clo F.impl_SignatureFault_1 [])))),(7,(.one (.t (.int .i64 x1)))),(8,(.one (.t (.int .i64 x2))))],[]⟩
noncomputable def slices_IndexFunc_SSymbol_at1_impl_SignatureFault_1.K0 (n:Nat):Ex→St→R:=ctxK prog A (H F.slices_IndexFunc_SSymbol) LIM n [.block 0,.seq 0 (subCode [1,1] (bodyOf prog F.slices_IndexFunc_SSymbol))] (endOf prog A F.slices_IndexFunc_SSymbol)
noncomputable def slices_IndexFunc_SSymbol_at1_impl_SignatureFault_1.at0 (n:Nat) (m:Nat) (s:St):R:=loopAt prog A (H F.slices_IndexFunc_SSymbol) LIM n 0 (subCode [1,0,1,0,0] (bodyOf prog F.slices_IndexFunc_SSymbol)) (slices_IndexFunc_SSymbol_at1_impl_SignatureFault_1.K0 n) m s
noncomputable def slices_IndexFunc_SSymbol_at1_impl_SignatureFault_1.rd0 (n:Nat) (L0:St→R) (s:St):R:=roundK prog A (H F.slices_IndexFunc_SSymbol) LIM n 0 (subCode [1,0,1,0,0] (bodyOf prog F.slices_IndexFunc_SSymbol)) (slices_IndexFunc_SSymbol_at1_impl_SignatureFault_1.K0 n) L0 s
theorem slices_IndexFunc_SSymbol_at1_impl_SignatureFault_1.next0 (n:Nat) (m:Nat) (s:St):slices_IndexFunc_SSymbol_at1_impl_SignatureFault_1.at0 n (m+1) s=slices_IndexFunc_SSymbol_at1_impl_SignatureFault_1.rd0 n (slices_IndexFunc_SSymbol_at1_impl_SignatureFault_1.at0 n m) s:=loopAt_succ _ _ _ _ _ _ _ _ _ _
theorem slices_IndexFunc_SSymbol_at1_impl_SignatureFault_1.round0 (n:Nat) (L0:St→R) (x0:List T) (x1:Int) (x2:Int):slices_IndexFunc_SSymbol_at1_impl_SignatureFault_1.rd0 n L0 (slices_IndexFunc_SSymbol_at1_impl_SignatureFault_1.st0 x0 x1 x2)=(bif (decide (x2 < x1)) then (bif inB x2 ((x0).length / 2) then ((x0[((Int.toNat x2)*2)]?).bind fun e1=>((oStr e1).bind fun s2=>((x0[(((Int.toNat x2)*2)+1)]?).bind fun e3=>((oInt .i64 e3).bind fun n4=>((LIM F.impl_SignatureFault_1 [(.agg [(.str s2),(.int .i64 n4)])]).bind fun r5=>((oNil r5.2).bind fun _=>((oBool r5.1).bind fun b6=>(bif b6 then some ((.int .i64 x2),[]) else (L0 (slices_IndexFunc_SSymbol_at1_impl_SignatureFault_1.st0 x0 x1 (IntKind.wrap .i64 (x2+(1:Int))))))))))))) else none) else some ((.int .i64 (-1:Int)),[])):=by kernel_rfl
theorem slices_IndexFunc_SSymbol_at1_impl_SignatureFault_1.ev (n:Nat) (a0:List T):callK prog A H LIM n F.slices_IndexFunc_SSymbol [(.sl 2 a0),(.clo F.impl_SignatureFault_1 [])]=(slices_IndexFunc_SSymbol_at1_impl_SignatureFault_1.at0 n n (slices_IndexFunc_SSymbol_at1_impl_SignatureFault_1.st0 a0 ((((a0).length / 2):Nat):Int) (0:Int))):=by kernel_rfl
def slices_IndexFunc_SSymbol_at1_impl_symbolIndex_1.st0 (x0:List T) (x1:ByteArray) (x2:Int) (x3:Int):St:=⟨[(0,(.one (.t (.sl 2 x0)))),(1,(.one (.t (.clo F.impl_symbolIndex_1 [(.rref [(.str x1)] 0)])))),(7,(.one (.t (.int .i64 x2)))),(8,(.one (.t (.int .i64 x3))))],[]⟩
noncomputable def slices_IndexFunc_SSymbol_at1_impl_symbolIndex_1.K0 (n:Nat):Ex→St→R:=ctxK prog A (H F.slices_IndexFunc_SSymbol) LIM n [.block 0,.seq 0 (subCode [1,1] (bodyOf prog F.slices_IndexFunc_SSymbol))] (endOf prog A F.slices_IndexFunc_SSymbol)
noncomputable def slices_IndexFunc_SSymbol_at1_impl_symbolIndex_1.at0 (n:Nat) (m:Nat) (s:St):R:=loopAt prog A (H F.slices_IndexFunc_SSymbol) LIM n 0 (subCode [1,0,1,0,0] (bodyOf prog F.slices_IndexFunc_SSymbol)) (slices_IndexFunc_SSymbol_at1_impl_symbolIndex_1.K0 n) m s
noncomputable def slices_IndexFunc_SSymbol_at1_impl_symbolIndex_1.rd0 (n:Nat) (L0:St→R) (s:St):R:=roundK prog A (H F.slices_IndexFunc_SSymbol) LIM n 0 (subCode [1,0,1,0,0] (bodyOf prog F.slices_IndexFunc_SSymbol)) (slices_IndexFunc_SSymbol_at1_impl_symbolIndex_1.K0 n) L0 s
theorem slices_IndexFunc_SSymbol_at1_impl_symbolIndex_1.next0 (n:Nat) (m:Nat) (s:St):slices_IndexFunc_SSymbol_at1_impl_symbolIndex_1.at0 n (m+1) s=slices_IndexFunc_SSymbol_at1_impl_symbolIndex_1.rd0 n (slices_IndexFunc_SSymbol_at1_impl_symbolIndex_1.at0 n m) s:=loopAt_succ _ _ _ _ _ _ _ _ _ _
theorem slices_IndexFunc_SSymbol_at1_impl_symbolIndex_1.round0 (n:Nat) (L0:St→R) (x0:List T) (x1:ByteArray) (x2:Int) (x3:Int):slices_IndexFunc_SSymbol_at1_impl_symbolIndex_1.rd0 n L0 (slices_IndexFunc_SSymbol_at1_impl_symbolIndex_1.st0 x0 x1 x2 x3)=(bif (decide (x3 < x2)) then (bif inB x3 ((x0).length / 2) then ((x0[((Int.toNat x3)*2)]?).bind fun e1=>((oStr e1).bind fun s2=>((x0[(((Int.toNat x3)*2)+1)]?).bind fun e3=>((oInt .i64 e3).bind fun n4=>((LIM F.impl_symbolIndex_1 [(.agg [(.str s2),(.int .i64 n4)]),(.rref [(.str x1)] 0)]).bind fun r5=>((oNil r5.2).bind fun _=>((oBool r5.1).bind fun b6=>(bif b6 then some ((.int .i64 x3),[]) else (L0 (slices_IndexFunc_SSymbol_at1_impl_symbolIndex_1.st0 x0 x1 x2 (IntKind.wrap .i64 (x3+(1:Int))))))))))))) else none) else some ((.int .i64 (-1:Int)),[])):=by kernel_rfl
theorem slices_IndexFunc_SSymbol_at1_impl_symbolIndex_1.ev (n:Nat) (a0:List T) (a1_0_0:ByteArray):callK prog A H LIM n F.slices_IndexFunc_SSymbol [(.sl 2 a0),(.clo F.impl_symbolIndex_1 [(.rref [(.str a1_0_0)] 0)])]=(slices_IndexFunc_SSymbol_at1_impl_symbolIndex_1.at0 n n (slices_IndexFunc_SSymbol_at1_impl_symbolIndex_1.st0 a0 a1_0_0 ((((a0).length / 2):Nat):Int) (0:Int))):=by kernel_rfl
def slices_IndexFunc_Sint64_at1_impl_TermFault_1.st0 (x0:List T) (x1:List T) (x2:Int) (x3:Int):St:=⟨[(0,(.one (.t (.sl 1 x0)))),(1,(.one (.t (.clo F.impl_TermFault_1 [(.rref [(.sl 2 x1)] 0)])))),(7,(.one (.t (.int .i64 x2)))),(8,(.one (.t (.int .i64 x3))))],[]⟩
noncomputable def slices_IndexFunc_Sint64_at1_impl_TermFault_1.K0 (n:Nat):Ex→St→R:=ctxK prog A (H F.slices_IndexFunc_Sint64) LIM n [.block 0,.seq 0 (subCode [1,1] (bodyOf prog F.slices_IndexFunc_Sint64))] (endOf prog A F.slices_IndexFunc_Sint64)
noncomputable def slices_IndexFunc_Sint64_at1_impl_TermFault_1.at0 (n:Nat) (m:Nat) (s:St):R:=loopAt prog A (H F.slices_IndexFunc_Sint64) LIM n 0 (subCode [1,0,1,0,0] (bodyOf prog F.slices_IndexFunc_Sint64)) (slices_IndexFunc_Sint64_at1_impl_TermFault_1.K0 n) m s
noncomputable def slices_IndexFunc_Sint64_at1_impl_TermFault_1.rd0 (n:Nat) (L0:St→R) (s:St):R:=roundK prog A (H F.slices_IndexFunc_Sint64) LIM n 0 (subCode [1,0,1,0,0] (bodyOf prog F.slices_IndexFunc_Sint64)) (slices_IndexFunc_Sint64_at1_impl_TermFault_1.K0 n) L0 s
theorem slices_IndexFunc_Sint64_at1_impl_TermFault_1.next0 (n:Nat) (m:Nat) (s:St):slices_IndexFunc_Sint64_at1_impl_TermFault_1.at0 n (m+1) s=slices_IndexFunc_Sint64_at1_impl_TermFault_1.rd0 n (slices_IndexFunc_Sint64_at1_impl_TermFault_1.at0 n m) s:=loopAt_succ _ _ _ _ _ _ _ _ _ _
theorem slices_IndexFunc_Sint64_at1_impl_TermFault_1.round0 (n:Nat) (L0:St→R) (x0:List T) (x1:List T) (x2:Int) (x3:Int):slices_IndexFunc_Sint64_at1_impl_TermFault_1.rd0 n L0 (slices_IndexFunc_Sint64_at1_impl_TermFault_1.st0 x0 x1 x2 x3)=(bif (decide (x3 < x2)) then (bif inB x3 ((x0).length / 1) then ((x0[((Int.toNat x3)*1)]?).bind fun e1=>((oInt .i64 e1).bind fun n2=>((LIM F.impl_TermFault_1 [(.int .i64 n2),(.rref [(.sl 2 x1)] 0)]).bind fun r3=>((oNil r3.2).bind fun _=>((oBool r3.1).bind fun b4=>(bif b4 then some ((.int .i64 x3),[]) else (L0 (slices_IndexFunc_Sint64_at1_impl_TermFault_1.st0 x0 x1 x2 (IntKind.wrap .i64 (x3+(1:Int))))))))))) else none) else some ((.int .i64 (-1:Int)),[])):=by kernel_rfl
theorem slices_IndexFunc_Sint64_at1_impl_TermFault_1.ev (n:Nat) (a0:List T) (a1_0_0:List T):callK prog A H LIM n F.slices_IndexFunc_Sint64 [(.sl 1 a0),(.clo F.impl_TermFault_1 [(.rref [(.sl 2 a1_0_0)] 0)])]=(slices_IndexFunc_Sint64_at1_impl_TermFault_1.at0 n n (slices_IndexFunc_Sint64_at1_impl_TermFault_1.st0 a0 a1_0_0 ((((a0).length / 1):Nat):Int) (0:Int))):=by kernel_rfl
def slices_IndexFunc_Sint64_at1_impl_isRule_1.st0 (x0:List T) (x1:List T) (x2:Int) (x3:Int):St:=⟨[(0,(.one (.t (.sl 1 x0)))),(1,(.one (.t (.clo F.impl_isRule_1 [(.rref [(.sl 1 x1)] 0)])))),(7,(.one (.t (.int .i64 x2)))),(8,(.one (.t (.int .i64 x3))))],[]⟩
noncomputable def slices_IndexFunc_Sint64_at1_impl_isRule_1.K0 (n:Nat):Ex→St→R:=ctxK prog A (H F.slices_IndexFunc_Sint64) LIM n [.block 0,.seq 0 (subCode [1,1] (bodyOf prog F.slices_IndexFunc_Sint64))] (endOf prog A F.slices_IndexFunc_Sint64)
noncomputable def slices_IndexFunc_Sint64_at1_impl_isRule_1.at0 (n:Nat) (m:Nat) (s:St):R:=loopAt prog A (H F.slices_IndexFunc_Sint64) LIM n 0 (subCode [1,0,1,0,0] (bodyOf prog F.slices_IndexFunc_Sint64)) (slices_IndexFunc_Sint64_at1_impl_isRule_1.K0 n) m s
noncomputable def slices_IndexFunc_Sint64_at1_impl_isRule_1.rd0 (n:Nat) (L0:St→R) (s:St):R:=roundK prog A (H F.slices_IndexFunc_Sint64) LIM n 0 (subCode [1,0,1,0,0] (bodyOf prog F.slices_IndexFunc_Sint64)) (slices_IndexFunc_Sint64_at1_impl_isRule_1.K0 n) L0 s
theorem slices_IndexFunc_Sint64_at1_impl_isRule_1.next0 (n:Nat) (m:Nat) (s:St):slices_IndexFunc_Sint64_at1_impl_isRule_1.at0 n (m+1) s=slices_IndexFunc_Sint64_at1_impl_isRule_1.rd0 n (slices_IndexFunc_Sint64_at1_impl_isRule_1.at0 n m) s:=loopAt_succ _ _ _ _ _ _ _ _ _ _
theorem slices_IndexFunc_Sint64_at1_impl_isRule_1.round0 (n:Nat) (L0:St→R) (x0:List T) (x1:List T) (x2:Int) (x3:Int):slices_IndexFunc_Sint64_at1_impl_isRule_1.rd0 n L0 (slices_IndexFunc_Sint64_at1_impl_isRule_1.st0 x0 x1 x2 x3)=(bif (decide (x3 < x2)) then (bif inB x3 ((x0).length / 1) then ((x0[((Int.toNat x3)*1)]?).bind fun e1=>((oInt .i64 e1).bind fun n2=>((LIM F.impl_isRule_1 [(.int .i64 n2),(.rref [(.sl 1 x1)] 0)]).bind fun r3=>((oNil r3.2).bind fun _=>((oBool r3.1).bind fun b4=>(bif b4 then some ((.int .i64 x3),[]) else (L0 (slices_IndexFunc_Sint64_at1_impl_isRule_1.st0 x0 x1 x2 (IntKind.wrap .i64 (x3+(1:Int))))))))))) else none) else some ((.int .i64 (-1:Int)),[])):=by kernel_rfl
theorem slices_IndexFunc_Sint64_at1_impl_isRule_1.ev (n:Nat) (a0:List T) (a1_0_0:List T):callK prog A H LIM n F.slices_IndexFunc_Sint64 [(.sl 1 a0),(.clo F.impl_isRule_1 [(.rref [(.sl 1 a1_0_0)] 0)])]=(slices_IndexFunc_Sint64_at1_impl_isRule_1.at0 n n (slices_IndexFunc_Sint64_at1_impl_isRule_1.st0 a0 a1_0_0 ((((a0).length / 1):Nat):Int) (0:Int))):=by kernel_rfl
def slices_IndexFunc_Sint64_at1_impl_EquationFault_1.st0 (x0:List T) (x1:Int) (x2:Int):St:=⟨[(0,(.one (.t (.sl 1 x0)))),(1,(.one (.t (.clo F.impl_EquationFault_1 [])))),(7,(.one (.t (.int .i64 x1)))),(8,(.one (.t (.int .i64 x2))))],[]⟩
noncomputable def slices_IndexFunc_Sint64_at1_impl_EquationFault_1.K0 (n:Nat):Ex→St→R:=ctxK prog A (H F.slices_IndexFunc_Sint64) LIM n [.block 0,.seq 0 (subCode [1,1] (bodyOf prog F.slices_IndexFunc_Sint64))] (endOf prog A F.slices_IndexFunc_Sint64)
noncomputable def slices_IndexFunc_Sint64_at1_impl_EquationFault_1.at0 (n:Nat) (m:Nat) (s:St):R:=loopAt prog A (H F.slices_IndexFunc_Sint64) LIM n 0 (subCode [1,0,1,0,0] (bodyOf prog F.slices_IndexFunc_Sint64)) (slices_IndexFunc_Sint64_at1_impl_EquationFault_1.K0 n) m s
noncomputable def slices_IndexFunc_Sint64_at1_impl_EquationFault_1.rd0 (n:Nat) (L0:St→R) (s:St):R:=roundK prog A (H F.slices_IndexFunc_Sint64) LIM n 0 (subCode [1,0,1,0,0] (bodyOf prog F.slices_IndexFunc_Sint64)) (slices_IndexFunc_Sint64_at1_impl_EquationFault_1.K0 n) L0 s
theorem slices_IndexFunc_Sint64_at1_impl_EquationFault_1.next0 (n:Nat) (m:Nat) (s:St):slices_IndexFunc_Sint64_at1_impl_EquationFault_1.at0 n (m+1) s=slices_IndexFunc_Sint64_at1_impl_EquationFault_1.rd0 n (slices_IndexFunc_Sint64_at1_impl_EquationFault_1.at0 n m) s:=loopAt_succ _ _ _ _ _ _ _ _ _ _
theorem slices_IndexFunc_Sint64_at1_impl_EquationFault_1.round0 (n:Nat) (L0:St→R) (x0:List T) (x1:Int) (x2:Int):slices_IndexFunc_Sint64_at1_impl_EquationFault_1.rd0 n L0 (slices_IndexFunc_Sint64_at1_impl_EquationFault_1.st0 x0 x1 x2)=(bif (decide (x2 < x1)) then (bif inB x2 ((x0).length / 1) then ((x0[((Int.toNat x2)*1)]?).bind fun e1=>((oInt .i64 e1).bind fun n2=>((LIM F.impl_EquationFault_1 [(.int .i64 n2)]).bind fun r3=>((oNil r3.2).bind fun _=>((oBool r3.1).bind fun b4=>(bif b4 then some ((.int .i64 x2),[]) else (L0 (slices_IndexFunc_Sint64_at1_impl_EquationFault_1.st0 x0 x1 (IntKind.wrap .i64 (x2+(1:Int))))))))))) else none) else some ((.int .i64 (-1:Int)),[])):=by kernel_rfl
theorem slices_IndexFunc_Sint64_at1_impl_EquationFault_1.ev (n:Nat) (a0:List T):callK prog A H LIM n F.slices_IndexFunc_Sint64 [(.sl 1 a0),(.clo F.impl_EquationFault_1 [])]=(slices_IndexFunc_Sint64_at1_impl_EquationFault_1.at0 n n (slices_IndexFunc_Sint64_at1_impl_EquationFault_1.st0 a0 ((((a0).length / 1):Nat):Int) (0:Int))):=by kernel_rfl
def slices_IndexFunc_Sint64_at1_impl_OrderFault_1.st0 (x0:List T) (x1:List T) (x2:Int) (x3:Int):St:=⟨[(0,(.one (.t (.sl 1 x0)))),(1,(.one (.t (.clo F.impl_OrderFault_1 [(.rref [(.sl 2 x1)] 0)])))),(7,(.one (.t (.int .i64 x2)))),(8,(.one (.t (.int .i64 x3))))],[]⟩
noncomputable def slices_IndexFunc_Sint64_at1_impl_OrderFault_1.K0 (n:Nat):Ex→St→R:=ctxK prog A (H F.slices_IndexFunc_Sint64) LIM n [.block 0,.seq 0 (subCode [1,1] (bodyOf prog F.slices_IndexFunc_Sint64))] (endOf prog A F.slices_IndexFunc_Sint64)
noncomputable def slices_IndexFunc_Sint64_at1_impl_OrderFault_1.at0 (n:Nat) (m:Nat) (s:St):R:=loopAt prog A (H F.slices_IndexFunc_Sint64) LIM n 0 (subCode [1,0,1,0,0] (bodyOf prog F.slices_IndexFunc_Sint64)) (slices_IndexFunc_Sint64_at1_impl_OrderFault_1.K0 n) m s
noncomputable def slices_IndexFunc_Sint64_at1_impl_OrderFault_1.rd0 (n:Nat) (L0:St→R) (s:St):R:=roundK prog A (H F.slices_IndexFunc_Sint64) LIM n 0 (subCode [1,0,1,0,0] (bodyOf prog F.slices_IndexFunc_Sint64)) (slices_IndexFunc_Sint64_at1_impl_OrderFault_1.K0 n) L0 s
theorem slices_IndexFunc_Sint64_at1_impl_OrderFault_1.next0 (n:Nat) (m:Nat) (s:St):slices_IndexFunc_Sint64_at1_impl_OrderFault_1.at0 n (m+1) s=slices_IndexFunc_Sint64_at1_impl_OrderFault_1.rd0 n (slices_IndexFunc_Sint64_at1_impl_OrderFault_1.at0 n m) s:=loopAt_succ _ _ _ _ _ _ _ _ _ _
theorem slices_IndexFunc_Sint64_at1_impl_OrderFault_1.round0 (n:Nat) (L0:St→R) (x0:List T) (x1:List T) (x2:Int) (x3:Int):slices_IndexFunc_Sint64_at1_impl_OrderFault_1.rd0 n L0 (slices_IndexFunc_Sint64_at1_impl_OrderFault_1.st0 x0 x1 x2 x3)=(bif (decide (x3 < x2)) then (bif inB x3 ((x0).length / 1) then ((x0[((Int.toNat x3)*1)]?).bind fun e1=>((oInt .i64 e1).bind fun n2=>((LIM F.impl_OrderFault_1 [(.int .i64 n2),(.rref [(.sl 2 x1)] 0)]).bind fun r3=>((oNil r3.2).bind fun _=>((oBool r3.1).bind fun b4=>(bif b4 then some ((.int .i64 x3),[]) else (L0 (slices_IndexFunc_Sint64_at1_impl_OrderFault_1.st0 x0 x1 x2 (IntKind.wrap .i64 (x3+(1:Int))))))))))) else none) else some ((.int .i64 (-1:Int)),[])):=by kernel_rfl
theorem slices_IndexFunc_Sint64_at1_impl_OrderFault_1.ev (n:Nat) (a0:List T) (a1_0_0:List T):callK prog A H LIM n F.slices_IndexFunc_Sint64 [(.sl 1 a0),(.clo F.impl_OrderFault_1 [(.rref [(.sl 2 a1_0_0)] 0)])]=(slices_IndexFunc_Sint64_at1_impl_OrderFault_1.at0 n n (slices_IndexFunc_Sint64_at1_impl_OrderFault_1.st0 a0 a1_0_0 ((((a0).length / 1):Nat):Int) (0:Int))):=by kernel_rfl
def slices_Index_Sint64.st0 (x0:List T) (x1:Int) (x2:Int) (x3:Int):St:=⟨[(0,(.one (.t (.sl 1 x0)))),(1,(.one (.t (.int .i64 x1)))),(7,(.one (.t (.int .i64 x2)))),(8,(.one (.t (.int .i64 x3))))],[]⟩
noncomputable def slices_Index_Sint64.K0 (n:Nat):Ex→St→R:=ctxK prog A (H F.slices_Index_Sint64) LIM n [.block 0,.seq 0 (subCode [1,1] (bodyOf prog F.slices_Index_Sint64))] (endOf prog A F.slices_Index_Sint64)
noncomputable def slices_Index_Sint64.at0 (n:Nat) (m:Nat) (s:St):R:=loopAt prog A (H F.slices_Index_Sint64) LIM n 0 (subCode [1,0,1,0,0] (bodyOf prog F.slices_Index_Sint64)) (slices_Index_Sint64.K0 n) m s
noncomputable def slices_Index_Sint64.rd0 (n:Nat) (L0:St→R) (s:St):R:=roundK prog A (H F.slices_Index_Sint64) LIM n 0 (subCode [1,0,1,0,0] (bodyOf prog F.slices_Index_Sint64)) (slices_Index_Sint64.K0 n) L0 s
theorem slices_Index_Sint64.next0 (n:Nat) (m:Nat) (s:St):slices_Index_Sint64.at0 n (m+1) s=slices_Index_Sint64.rd0 n (slices_Index_Sint64.at0 n m) s:=loopAt_succ _ _ _ _ _ _ _ _ _ _
theorem slices_Index_Sint64.round0 (n:Nat) (L0:St→R) (x0:List T) (x1:Int) (x2:Int) (x3:Int):slices_Index_Sint64.rd0 n L0 (slices_Index_Sint64.st0 x0 x1 x2 x3)=(bif (decide (x3 < x2)) then (bif inB x3 ((x0).length / 1) then ((x0[((Int.toNat x3)*1)]?).bind fun e1=>((oInt .i64 e1).bind fun n2=>(bif ((x1 == n2)) then some ((.int .i64 x3),[]) else (L0 (slices_Index_Sint64.st0 x0 x1 x2 (IntKind.wrap .i64 (x3+(1:Int)))))))) else none) else some ((.int .i64 (-1:Int)),[])):=by kernel_rfl
theorem slices_Index_Sint64.ev (n:Nat) (a0:List T) (a1:Int):callK prog A H LIM n F.slices_Index_Sint64 [(.sl 1 a0),(.int .i64 a1)]=(slices_Index_Sint64.at0 n n (slices_Index_Sint64.st0 a0 a1 ((((a0).length / 1):Nat):Int) (0:Int))):=by kernel_rfl
def spec_CertifyTheory.st0 (x0:Int) (x1:List T) (x2:List T) (x3:List T) (x4:List T):St:=⟨[(2,(.one (.ptr 128 0))),(3,(.one (.ptr 192 0))),(8,(.one (.t (.int .i64 x0))))],[(128,(.box [(.t (.sl 2 x1))])),(192,(.box [(.t (.sl 1 x2)),(.t (.sl 2 x3)),(.t (.sl 2 x4))]))]⟩
noncomputable def spec_CertifyTheory.K0 (n:Nat):Ex→St→R:=ctxK prog A (H F.spec_CertifyTheory) LIM n [.block 0,.seq 0 (subCode [1,1,1,1,1,1] (bodyOf prog F.spec_CertifyTheory))] (endOf prog A F.spec_CertifyTheory)
noncomputable def spec_CertifyTheory.at0 (n:Nat) (m:Nat) (s:St):R:=loopAt prog A (H F.spec_CertifyTheory) LIM n 0 (subCode [1,1,1,1,1,0,1,0,0] (bodyOf prog F.spec_CertifyTheory)) (spec_CertifyTheory.K0 n) m s
noncomputable def spec_CertifyTheory.rd0 (n:Nat) (L0:St→R) (s:St):R:=roundK prog A (H F.spec_CertifyTheory) LIM n 0 (subCode [1,1,1,1,1,0,1,0,0] (bodyOf prog F.spec_CertifyTheory)) (spec_CertifyTheory.K0 n) L0 s
theorem spec_CertifyTheory.next0 (n:Nat) (m:Nat) (s:St):spec_CertifyTheory.at0 n (m+1) s=spec_CertifyTheory.rd0 n (spec_CertifyTheory.at0 n m) s:=loopAt_succ _ _ _ _ _ _ _ _ _ _
theorem spec_CertifyTheory.round0 (n:Nat) (L0:St→R) (x0:Int) (x1:List T) (x2:List T) (x3:List T) (x4:List T):spec_CertifyTheory.rd0 n L0 (spec_CertifyTheory.st0 x0 x1 x2 x3 x4)=(bif (decide (x0 < ((((x3).length / 2):Nat):Int))) then (bif inB x0 ((x3).length / 2) then ((x3[((Int.toNat x0)*2)]?).bind fun e11=>((oSl 1 e11).bind fun c12=>(bif inB x0 ((x3).length / 2) then ((x3[(((Int.toNat x0)*2)+1)]?).bind fun e13=>((oSl 1 e13).bind fun c14=>((LIM F.spec_l8Joined [(.rref [(.sl 2 x1)] 0),(.sl 2 x4),(.sl 1 c12),(.sl 1 c14),(.int .i64 (200:Int))]).bind fun r15=>((oNil r15.2).bind fun _=>((oTup r15.1).bind fun c16=>((oCons c16).bind fun p17=>((oInt .i64 p17.1).bind fun n18=>((oCons p17.2).bind fun p19=>((oInt .i64 p19.1).bind fun n20=>((oNil p19.2).bind fun _=>(bif ((n20 != (0:Int))) then some ((.int .i64 (4:Int)),[]) else (bif ((n18 != (1:Int))) then some ((.int .i64 (4:Int)),[]) else (L0 (spec_CertifyTheory.st0 (IntKind.wrap .i64 (x0+(1:Int))) x1 x2 x3 x4)))))))))))))) else none))) else none) else some ((.int .i64 (0:Int)),[])):=by kernel_rfl
theorem spec_CertifyTheory.ev (n:Nat) (a0_0:List T) (a1_0:List T) (a1_1:List T) (a1_2:List T):callK prog A H LIM n F.spec_CertifyTheory [(.agg [(.sl 2 a0_0)]),(.agg [(.sl 1 a1_0),(.sl 2 a1_1),(.sl 2 a1_2)])]=((LIM F.spec_TheoryFault [(.agg [(.sl 2 a0_0)]),(.agg [(.sl 1 a1_0),(.sl 2 a1_1),(.sl 2 a1_2)])]).bind fun r1=>((oNil r1.2).bind fun _=>((oInt .i64 r1.1).bind fun n2=>(bif ((n2 != (0:Int))) then some ((.int .i64 n2),[]) else ((LIM F.spec_l13Reduced [(.rref [(.sl 2 a0_0)] 0),(.sl 2 a1_2)]).bind fun r3=>((oNil r3.2).bind fun _=>((oBool r3.1).bind fun b4=>(bif (!b4) then some ((.int .i64 (1:Int)),[]) else ((LIM F.spec_l9Unjoined [(.rref [(.sl 2 a0_0)] 0),(.sl 2 a1_2),(.int .i64 (200:Int))]).bind fun r5=>((oNil r5.2).bind fun _=>((oTup r5.1).bind fun c6=>((oCons c6).bind fun p7=>((oSl 2 p7.1).bind fun c8=>((oCons p7.2).bind fun p9=>((oInt .i64 p9.1).bind fun n10=>((oNil p9.2).bind fun _=>(bif ((n10 != (0:Int))) then some ((.int .i64 (8:Int)),[]) else (bif (decide (((((c8).length / 2):Nat):Int) > (0:Int))) then some ((.int .i64 (8:Int)),[]) else (spec_CertifyTheory.at0 n n (spec_CertifyTheory.st0 (0:Int) a0_0 a1_0 a1_1 a1_2)))))))))))))))))))):=by kernel_rfl
def spec_SignatureFault.st4 (x0:Int) (x1:Int) (x2:Int) (x3:List T):St:=⟨[(1,(.one (.ptr 64 0))),(3,(.one (.t (.int .i64 x0)))),(5,(.one (.t (.int .i64 x1)))),(6,(.one (.t (.int .i64 x2))))],[(64,(.box [(.t (.sl 2 x3))]))]⟩
def spec_SignatureFault.st6 (x0:Int) (x1:Int) (x2:List T):St:=⟨[(1,(.one (.ptr 64 0))),(3,(.one (.t (.int .i64 x0)))),(7,(.one (.t (.int .i64 x1))))],[(64,(.box [(.t (.sl 2 x2))]))]⟩
def spec_SignatureFault.st2 (x0:Int) (x1:Int) (x2:List T):St:=⟨[(1,(.one (.ptr 64 0))),(3,(.one (.t (.int .i64 x0)))),(5,(.one (.t (.int .i64 x1))))],[(64,(.box [(.t (.sl 2 x2))]))]⟩
def spec_SignatureFault.st0 (x0:Int) (x1:Int) (x2:List T):St:=⟨[(1,(.one (.ptr 64 0))),(3,(.one (.t (.int .i64 x0)))),(4,(.one (.t (.int .i64 x1))))],[(64,(.box [(.t (.sl 2 x2))]))]⟩
noncomputable def spec_SignatureFault.K0 (n:Nat):Ex→St→R:=ctxK prog A (H F.spec_SignatureFault) LIM n [.block 0,.seq 0 (subCode [1,1,1,1] (bodyOf prog F.spec_SignatureFault))] (endOf prog A F.spec_SignatureFault)
noncomputable def spec_SignatureFault.at0 (n:Nat) (m:Nat) (s:St):R:=loopAt prog A (H F.spec_SignatureFault) LIM n 0 (subCode [1,1,1,0,1,0,0] (bodyOf prog F.spec_SignatureFault)) (spec_SignatureFault.K0 n) m s
noncomputable def spec_SignatureFault.rd0 (n:Nat) (L0:St→R) (s:St):R:=roundK prog A (H F.spec_SignatureFault) LIM n 0 (subCode [1,1,1,0,1,0,0] (bodyOf prog F.spec_SignatureFault)) (spec_SignatureFault.K0 n) L0 s
theorem spec_SignatureFault.next0 (n:Nat) (m:Nat) (s:St):spec_SignatureFault.at0 n (m+1) s=spec_SignatureFault.rd0 n (spec_SignatureFault.at0 n m) s:=loopAt_succ _ _ _ _ _ _ _ _ _ _
noncomputable def spec_SignatureFault.K2 (n:Nat):Ex→St→R:=ctxK prog A (H F.spec_SignatureFault) LIM n [.block 2,.seq 0 (subCode [1,1,1,1,1] (bodyOf prog F.spec_SignatureFault))] (endOf prog A F.spec_SignatureFault)
noncomputable def spec_SignatureFault.at2 (n:Nat) (m:Nat) (s:St):R:=loopAt prog A (H F.spec_SignatureFault) LIM n 2 (subCode [1,1,1,1,0,1,0,0] (bodyOf prog F.spec_SignatureFault)) (spec_SignatureFault.K2 n) m s
noncomputable def spec_SignatureFault.rd2 (n:Nat) (L2:St→R) (s:St):R:=roundK prog A (H F.spec_SignatureFault) LIM n 2 (subCode [1,1,1,1,0,1,0,0] (bodyOf prog F.spec_SignatureFault)) (spec_SignatureFault.K2 n) L2 s
theorem spec_SignatureFault.next2 (n:Nat) (m:Nat) (s:St):spec_SignatureFault.at2 n (m+1) s=spec_SignatureFault.rd2 n (spec_SignatureFault.at2 n m) s:=loopAt_succ _ _ _ _ _ _ _ _ _ _
noncomputable def spec_SignatureFault.K6 (n:Nat):Ex→St→R:=ctxK prog A (H F.spec_SignatureFault) LIM n [.block 6,.seq 0 (subCode [1,1,1,1,1,1] (bodyOf prog F.spec_SignatureFault))] (endOf prog A F.spec_SignatureFault)
noncomputable def spec_SignatureFault.at6 (n:Nat) (m:Nat) (s:St):R:=loopAt prog A (H F.spec_SignatureFault) LIM n 6 (subCode [1,1,1,1,1,0,1,0,0] (bodyOf prog F.spec_SignatureFault)) (spec_SignatureFault.K6 n) m s
noncomputable def spec_SignatureFault.rd6 (n:Nat) (L6:St→R) (s:St):R:=roundK prog A (H F.spec_SignatureFault) LIM n 6 (subCode [1,1,1,1,1,0,1,0,0] (bodyOf prog F.spec_SignatureFault)) (spec_SignatureFault.K6 n) L6 s
theorem spec_SignatureFault.next6 (n:Nat) (m:Nat) (s:St):spec_SignatureFault.at6 n (m+1) s=spec_SignatureFault.rd6 n (spec_SignatureFault.at6 n m) s:=loopAt_succ _ _ _ _ _ _ _ _ _ _
noncomputable def spec_SignatureFault.K4 (n:Nat) (L2:St→R):Ex→St→R:=ctxK prog A (H F.spec_SignatureFault) LIM n [.block 4,.block 3,.seq 2 (subCode [1,1,1,1,0,1,0,0,1,1] (bodyOf prog F.spec_SignatureFault))] (backK (H F.spec_SignatureFault) 2 (spec_SignatureFault.K2 n) L2)
noncomputable def spec_SignatureFault.at4 (n:Nat) (L2:St→R) (m:Nat) (s:St):R:=loopAt prog A (H F.spec_SignatureFault) LIM n 4 (subCode [1,1,1,1,0,1,0,0,1,0,0,1,0,0] (bodyOf prog F.spec_SignatureFault)) (spec_SignatureFault.K4 n L2) m s
noncomputable def spec_SignatureFault.rd4 (n:Nat) (L2:St→R) (L4:St→R) (s:St):R:=roundK prog A (H F.spec_SignatureFault) LIM n 4 (subCode [1,1,1,1,0,1,0,0,1,0,0,1,0,0] (bodyOf prog F.spec_SignatureFault)) (spec_SignatureFault.K4 n L2) L4 s
theorem spec_SignatureFault.next4 (n:Nat) (L2:St→R) (m:Nat) (s:St):spec_SignatureFault.at4 n L2 (m+1) s=spec_SignatureFault.rd4 n L2 (spec_SignatureFault.at4 n L2 m) s:=loopAt_succ _ _ _ _ _ _ _ _ _ _
theorem spec_SignatureFault.round0 (n:Nat) (L0:St→R) (x0:Int) (x1:Int) (x2:List T):spec_SignatureFault.rd0 n L0 (spec_SignatureFault.st0 x0 x1 x2)=(bif (decide (x1 < x0)) then (bif inB x1 ((x2).length / 2) then ((x2[((Int.toNat x1)*2)]?).bind fun e1=>((oStr e1).bind fun s2=>((LIM F.spec_l2Name [(.str s2)]).bind fun r3=>((oNil r3.2).bind fun _=>((oBool r3.1).bind fun b4=>(bif (!b4) then some ((.int .i64 (5:Int)),[]) else (bif inB x1 ((x2).length / 2) then ((x2[(((Int.toNat x1)*2)+1)]?).bind fun e5=>((oInt .i64 e5).bind fun n6=>((LIM F.spec_l1In [(.int .i64 n6),(.int .i64 (0:Int)),(.int .i64 (2:Int))]).bind fun r7=>((oNil r7.2).bind fun _=>((oBool r7.1).bind fun b8=>(bif (!b8) then some ((.int .i64 (3:Int)),[]) else (L0 (spec_SignatureFault.st0 x0 (IntKind.wrap .i64 (x1+(1:Int))) x2)))))))) else none))))))) else none) else (spec_SignatureFault.at2 n n (spec_SignatureFault.st2 x0 (0:Int) x2))):=by kernel_rfl
theorem spec_SignatureFault.round2 (n:Nat) (L2:St→R) (x0:Int) (x1:Int) (x2:List T):spec_SignatureFault.rd2 n L2 (spec_SignatureFault.st2 x0 x1 x2)=(bif (decide (x1 < x0)) then (spec_SignatureFault.at4 n L2 n (spec_SignatureFault.st4 x0 x1 (0:Int) x2)) else (spec_SignatureFault.at6 n n (spec_SignatureFault.st6 x0 (0:Int) x2))):=by kernel_rfl
theorem spec_SignatureFault.round6 (n:Nat) (L6:St→R) (x0:Int) (x1:Int) (x2:List T):spec_SignatureFault.rd6 n L6 (spec_SignatureFault.st6 x0 x1 x2)=(bif (decide (x1 < x0)) then (bif inB x1 ((x2).length / 2) then ((x2[(((Int.toNat x1)*2)+1)]?).bind fun e13=>((oInt .i64 e13).bind fun n14=>(bif ((n14 == (0:Int))) then some ((.int .i64 (0:Int)),[]) else (L6 (spec_SignatureFault.st6 x0 (IntKind.wrap .i64 (x1+(1:Int))) x2))))) else none) else some ((.int .i64 (4:Int)),[])):=by kernel_rfl
theorem spec_SignatureFault.round4 (n:Nat) (L2:St→R) (L4:St→R) (x0:Int) (x1:Int) (x2:Int) (x3:List T):spec_SignatureFault.rd4 n L2 L4 (spec_SignatureFault.st4 x0 x1 x2 x3)=(bif (decide (x2 < x1)) then (bif inB x1 ((x3).length / 2) then ((x3[((Int.toNat x1)*2)]?).bind fun e9=>((oStr e9).bind fun s10=>(bif inB x2 ((x3).length / 2) then ((x3[((Int.toNat x2)*2)]?).bind fun e11=>((oStr e11).bind fun s12=>(bif (s10.toList == s12.toList) then some ((.int .i64 (6:Int)),[]) else (L4 (spec_SignatureFault.st4 x0 x1 (IntKind.wrap .i64 (x2+(1:Int))) x3))))) else none))) else none) else (L2 (spec_SignatureFault.st2 x0 (IntKind.wrap .i64 (x1+(1:Int))) x3))):=by kernel_rfl
theorem spec_SignatureFault.ev (n:Nat) (a0_0:List T):callK prog A H LIM n F.spec_SignatureFault [(.agg [(.sl 2 a0_0)])]=(bif (decide (((((a0_0).length / 2):Nat):Int) < (1:Int))) then some ((.int .i64 (2:Int)),[]) else (bif (decide (((((a0_0).length / 2):Nat):Int) > (6:Int))) then some ((.int .i64 (2:Int)),[]) else (spec_SignatureFault.at0 n n (spec_SignatureFault.st0 ((((a0_0).length / 2):Nat):Int) (0:Int) a0_0)))):=by kernel_rfl
theorem spec_TheoryFault.ev (n:Nat) (a0_0:List T) (a1_0:List T) (a1_1:List T) (a1_2:List T):callK prog A H LIM n F.spec_TheoryFault [(.agg [(.sl 2 a0_0)]),(.agg [(.sl 1 a1_0),(.sl 2 a1_1),(.sl 2 a1_2)])]=((LIM F.spec_SignatureFault [(.agg [(.sl 2 a0_0)])]).bind fun r1=>((oNil r1.2).bind fun _=>((oInt .i64 r1.1).bind fun n2=>(bif ((n2 != (0:Int))) then some ((.int .i64 n2),[]) else ((LIM F.spec_l13Fault [(.rref [(.sl 2 a0_0)] 0),(.rref [(.sl 1 a1_0),(.sl 2 a1_1),(.sl 2 a1_2)] 0)]).bind fun r3=>((oNil r3.2).bind fun _=>((oInt .i64 r3.1).bind fun n4=>some ((.int .i64 n4),[])))))))):=by kernel_rfl
theorem spec_l12Ahead.ev (n:Nat) (a0_0:List T) (a0_1:List T) (a1_0:List T) (a1_1:List T):callK prog A H LIM n F.spec_l12Ahead [(.rref [(.sl 1 a0_0),(.sl 1 a0_1)] 0),(.rref [(.sl 1 a1_0),(.sl 1 a1_1)] 0)]=((LIM F.spec_l5Pack [(.sl 1 a0_0)]).bind fun r1=>((oNil r1.2).bind fun _=>((oSl 1 r1.1).bind fun c2=>((LIM F.spec_l5Pack [(.sl 1 a1_0)]).bind fun r3=>((oNil r3.2).bind fun _=>((oSl 1 r3.1).bind fun c4=>((LIM F.spec_l1Order [(.sl 1 c2),(.sl 1 c4)]).bind fun r5=>((oNil r5.2).bind fun _=>((oInt .i64 r5.1).bind fun n6=>(bif ((n6 == (0:Int))) then ((LIM F.spec_l5Pack [(.sl 1 a0_1)]).bind fun r7=>((oNil r7.2).bind fun _=>((oSl 1 r7.1).bind fun c8=>((LIM F.spec_l5Pack [(.sl 1 a1_1)]).bind fun r9=>((oNil r9.2).bind fun _=>((oSl 1 r9.1).bind fun c10=>((LIM F.spec_l1Order [(.sl 1 c8),(.sl 1 c10)]).bind fun r11=>((oNil r11.2).bind fun _=>((oInt .i64 r11.1).bind fun n12=>some ((.bool (decide (n12 < (0:Int)))),[])))))))))) else some ((.bool (decide (n6 < (0:Int)))),[]))))))))))):=by kernel_rfl
theorem spec_l13Fault.ev (n:Nat) (a0_0:List T) (a1_0:List T) (a1_1:List T) (a1_2:List T):callK prog A H LIM n F.spec_l13Fault [(.rref [(.sl 2 a0_0)] 0),(.rref [(.sl 1 a1_0),(.sl 2 a1_1),(.sl 2 a1_2)] 0)]=((LIM F.spec_l2Order [(.rref [(.sl 2 a0_0)] 0),(.sl 1 a1_0)]).bind fun r1=>((oNil r1.2).bind fun _=>((oInt .i64 r1.1).bind fun n2=>(bif ((n2 != (0:Int))) then some ((.int .i64 n2),[]) else ((LIM F.spec_l5Fault [(.rref [(.sl 2 a0_0)] 0),(.sl 2 a1_1)]).bind fun r3=>((oNil r3.2).bind fun _=>((oInt .i64 r3.1).bind fun n4=>(bif ((n4 != (0:Int))) then some ((.int .i64 n4),[]) else ((LIM F.spec_l8Fault [(.rref [(.sl 2 a0_0)] 0),(.sl 2 a1_2)]).bind fun r5=>((oNil r5.2).bind fun _=>((oInt .i64 r5.1).bind fun n6=>(bif ((n6 != (0:Int))) then some ((.int .i64 n6),[]) else ((LIM F.spec_l7Falls [(.rref [(.sl 2 a0_0)] 0),(.sl 1 a1_0),(.sl 2 a1_2)]).bind fun r7=>((oNil r7.2).bind fun _=>((oBool r7.1).bind fun b8=>(bif (!b8) then some ((.int .i64 (10:Int)),[]) else some ((.int .i64 (0:Int)),[]))))))))))))))))):=by kernel_rfl
def spec_l13Reduced.st0 (x0:List T) (x1:List T) (x2:Int):St:=⟨[(0,(.one (.t (.rref [(.sl 2 x0)] 0)))),(1,(.one (.t (.sl 2 x1)))),(5,(.one (.t (.int .i64 x2))))],[]⟩
noncomputable def spec_l13Reduced.K0 (n:Nat):Ex→St→R:=ctxK prog A (H F.spec_l13Reduced) LIM n [.block 0,.seq 0 (subCode [1,1] (bodyOf prog F.spec_l13Reduced))] (endOf prog A F.spec_l13Reduced)
noncomputable def spec_l13Reduced.at0 (n:Nat) (m:Nat) (s:St):R:=loopAt prog A (H F.spec_l13Reduced) LIM n 0 (subCode [1,0,1,0,0] (bodyOf prog F.spec_l13Reduced)) (spec_l13Reduced.K0 n) m s
noncomputable def spec_l13Reduced.rd0 (n:Nat) (L0:St→R) (s:St):R:=roundK prog A (H F.spec_l13Reduced) LIM n 0 (subCode [1,0,1,0,0] (bodyOf prog F.spec_l13Reduced)) (spec_l13Reduced.K0 n) L0 s
theorem spec_l13Reduced.next0 (n:Nat) (m:Nat) (s:St):spec_l13Reduced.at0 n (m+1) s=spec_l13Reduced.rd0 n (spec_l13Reduced.at0 n m) s:=loopAt_succ _ _ _ _ _ _ _ _ _ _
theorem spec_l13Reduced.round0 (n:Nat) (L0:St→R) (x0:List T) (x1:List T) (x2:Int):spec_l13Reduced.rd0 n L0 (spec_l13Reduced.st0 x0 x1 x2)=(bif (decide (x2 < ((((x1).length / 2):Nat):Int))) then (bif (decide (x2 > (0:Int))) then (bif inB (IntKind.wrap .i64 (x2 - (1:Int))) ((x1).length / 2) then (bif inB x2 ((x1).length / 2) then ((LIM F.spec_l12Ahead [(.rref ((x1.drop ((Int.toNat (IntKind.wrap .i64 (x2 - (1:Int))))*2)).take 2) 0),(.rref ((x1.drop ((Int.toNat x2)*2)).take 2) 0)]).bind fun r1=>((oNil r1.2).bind fun _=>((oBool r1.1).bind fun b2=>(bif (!b2) then some ((.bool false),[]) else (bif inB x2 ((x1).length / 2) then ((x1[(((Int.toNat x2)*2)+1)]?).bind fun e3=>((oSl 1 e3).bind fun c4=>((LIM F.spec_l8Find [(.rref [(.sl 2 x0)] 0),(.sl 2 x1),(.sl 1 c4)]).bind fun r5=>((oNil r5.2).bind fun _=>((oTup r5.1).bind fun c6=>((oCons c6).bind fun p7=>((oInt .i64 p7.1).bind fun n8=>((oCons p7.2).bind fun p9=>((oInt .i64 p9.1).bind fun n10=>((oNil p9.2).bind fun _=>(bif (decide (n8 ≥ (0:Int))) then some ((.bool false),[]) else (bif decide (0≤(0:Int))&&decide ((0:Int)≤x2)&&decide (x2≤((((x1).length / 2):Nat):Int)) then (bif Nat.ble ((0+(((x1.take ((Int.toNat x2)*2)).drop (0*2))).length)*48) (140737488355328*2) then (bif decide (0≤(IntKind.wrap .i64 (x2+(1:Int))))&&decide ((IntKind.wrap .i64 (x2+(1:Int)))≤((((x1).length / 2):Nat):Int))&&decide (((((x1).length / 2):Nat):Int)≤((((x1).length / 2):Nat):Int)) then (bif Nat.ble (((((x1.take ((Int.toNat x2)*2)).drop (0*2))).length+(((x1.take ((Int.toNat ((((x1).length / 2):Nat):Int))*2)).drop ((Int.toNat (IntKind.wrap .i64 (x2+(1:Int))))*2))).length)*48) (140737488355328*2) then (bif inB x2 ((x1).length / 2) then ((x1[((Int.toNat x2)*2)]?).bind fun e11=>((oSl 1 e11).bind fun c12=>((LIM F.spec_l8Find [(.rref [(.sl 2 x0)] 0),(.sl 2 (((x1.take ((Int.toNat x2)*2)).drop (0*2))++((x1.take ((Int.toNat ((((x1).length / 2):Nat):Int))*2)).drop ((Int.toNat (IntKind.wrap .i64 (x2+(1:Int))))*2)):List T)),(.sl 1 c12)]).bind fun r13=>((oNil r13.2).bind fun _=>((oTup r13.1).bind fun c14=>((oCons c14).bind fun p15=>((oInt .i64 p15.1).bind fun n16=>((oCons p15.2).bind fun p17=>((oInt .i64 p17.1).bind fun n18=>((oNil p17.2).bind fun _=>(bif (decide (n16 ≥ (0:Int))) then some ((.bool false),[]) else (L0 (spec_l13Reduced.st0 x0 x1 (IntKind.wrap .i64 (x2+(1:Int)))))))))))))))) else none) else none) else none) else none) else none)))))))))))) else none))))) else none) else none) else (bif inB x2 ((x1).length / 2) then ((x1[(((Int.toNat x2)*2)+1)]?).bind fun e19=>((oSl 1 e19).bind fun c20=>((LIM F.spec_l8Find [(.rref [(.sl 2 x0)] 0),(.sl 2 x1),(.sl 1 c20)]).bind fun r21=>((oNil r21.2).bind fun _=>((oTup r21.1).bind fun c22=>((oCons c22).bind fun p23=>((oInt .i64 p23.1).bind fun n24=>((oCons p23.2).bind fun p25=>((oInt .i64 p25.1).bind fun n26=>((oNil p25.2).bind fun _=>(bif (decide (n24 ≥ (0:Int))) then some ((.bool false),[]) else (bif decide (0≤(0:Int))&&decide ((0:Int)≤x2)&&decide (x2≤((((x1).length / 2):Nat):Int)) then (bif Nat.ble ((0+(((x1.take ((Int.toNat x2)*2)).drop (0*2))).length)*48) (140737488355328*2) then (bif decide (0≤(IntKind.wrap .i64 (x2+(1:Int))))&&decide ((IntKind.wrap .i64 (x2+(1:Int)))≤((((x1).length / 2):Nat):Int))&&decide (((((x1).length / 2):Nat):Int)≤((((x1).length / 2):Nat):Int)) then (bif Nat.ble (((((x1.take ((Int.toNat x2)*2)).drop (0*2))).length+(((x1.take ((Int.toNat ((((x1).length / 2):Nat):Int))*2)).drop ((Int.toNat (IntKind.wrap .i64 (x2+(1:Int))))*2))).length)*48) (140737488355328*2) then (bif inB x2 ((x1).length / 2) then ((x1[((Int.toNat x2)*2)]?).bind fun e27=>((oSl 1 e27).bind fun c28=>((LIM F.spec_l8Find [(.rref [(.sl 2 x0)] 0),(.sl 2 (((x1.take ((Int.toNat x2)*2)).drop (0*2))++((x1.take ((Int.toNat ((((x1).length / 2):Nat):Int))*2)).drop ((Int.toNat (IntKind.wrap .i64 (x2+(1:Int))))*2)):List T)),(.sl 1 c28)]).bind fun r29=>((oNil r29.2).bind fun _=>((oTup r29.1).bind fun c30=>((oCons c30).bind fun p31=>((oInt .i64 p31.1).bind fun n32=>((oCons p31.2).bind fun p33=>((oInt .i64 p33.1).bind fun n34=>((oNil p33.2).bind fun _=>(bif (decide (n32 ≥ (0:Int))) then some ((.bool false),[]) else (L0 (spec_l13Reduced.st0 x0 x1 (IntKind.wrap .i64 (x2+(1:Int)))))))))))))))) else none) else none) else none) else none) else none)))))))))))) else none)) else some ((.bool true),[])):=by kernel_rfl
theorem spec_l13Reduced.ev (n:Nat) (a0_0:List T) (a1:List T):callK prog A H LIM n F.spec_l13Reduced [(.rref [(.sl 2 a0_0)] 0),(.sl 2 a1)]=(spec_l13Reduced.at0 n n (spec_l13Reduced.st0 a0_0 a1 (0:Int))):=by kernel_rfl
theorem spec_l1In.ev (n:Nat) (a0:Int) (a1:Int) (a2:Int):callK prog A H LIM n F.spec_l1In [(.int .i64 a0),(.int .i64 a1),(.int .i64 a2)]=(bif (decide (a0 ≥ a1)) then some ((.bool (decide (a0≤a2))),[]) else some ((.bool false),[])):=by kernel_rfl
theorem spec_l1Ints.ev (n:Nat) (a0:List T):callK prog A H LIM n F.spec_l1Ints [(.sl 1 a0)]=(bif (a0).all T.scalar then (bif Nat.ble ((0+(a0).length)*8) (140737488355328*1) then some ((.sl 1 a0),[]) else none) else none):=by kernel_rfl
def spec_l1Order.st0 (x0:List T) (x1:List T) (x2:Int):St:=⟨[(0,(.one (.t (.sl 1 x0)))),(1,(.one (.t (.sl 1 x1)))),(5,(.one (.t (.int .i64 x2))))],[]⟩
noncomputable def spec_l1Order.K0 (n:Nat):Ex→St→R:=ctxK prog A (H F.spec_l1Order) LIM n [.block 0,.seq 0 (subCode [1,1] (bodyOf prog F.spec_l1Order))] (endOf prog A F.spec_l1Order)
noncomputable def spec_l1Order.at0 (n:Nat) (m:Nat) (s:St):R:=loopAt prog A (H F.spec_l1Order) LIM n 0 (subCode [1,0,1,0,0] (bodyOf prog F.spec_l1Order)) (spec_l1Order.K0 n) m s
noncomputable def spec_l1Order.rd0 (n:Nat) (L0:St→R) (s:St):R:=roundK prog A (H F.spec_l1Order) LIM n 0 (subCode [1,0,1,0,0] (bodyOf prog F.spec_l1Order)) (spec_l1Order.K0 n) L0 s
theorem spec_l1Order.next0 (n:Nat) (m:Nat) (s:St):spec_l1Order.at0 n (m+1) s=spec_l1Order.rd0 n (spec_l1Order.at0 n m) s:=loopAt_succ _ _ _ _ _ _ _ _ _ _
theorem spec_l1Order.round0 (n:Nat) (L0:St→R) (x0:List T) (x1:List T) (x2:Int):spec_l1Order.rd0 n L0 (spec_l1Order.st0 x0 x1 x2)=(bif (decide (x2 < ((((x0).length / 1):Nat):Int))) then (bif (decide (x2 < ((((x1).length / 1):Nat):Int))) then (bif inB x2 ((x0).length / 1) then ((x0[((Int.toNat x2)*1)]?).bind fun e1=>((oInt .u8 e1).bind fun n2=>(bif inB x2 ((x1).length / 1) then ((x1[((Int.toNat x2)*1)]?).bind fun e3=>((oInt .u8 e3).bind fun n4=>(bif (decide (n2 < n4)) then some ((.int .i64 (-1:Int)),[]) else (bif inB x2 ((x0).length / 1) then ((x0[((Int.toNat x2)*1)]?).bind fun e5=>((oInt .u8 e5).bind fun n6=>(bif inB x2 ((x1).length / 1) then ((x1[((Int.toNat x2)*1)]?).bind fun e7=>((oInt .u8 e7).bind fun n8=>(bif (decide (n6 > n8)) then some ((.int .i64 (1:Int)),[]) else (L0 (spec_l1Order.st0 x0 x1 (IntKind.wrap .i64 (x2+(1:Int)))))))) else none))) else none)))) else none))) else none) else (bif (decide (((((x0).length / 1):Nat):Int) < ((((x1).length / 1):Nat):Int))) then some ((.int .i64 (-1:Int)),[]) else (bif (decide (((((x0).length / 1):Nat):Int) > ((((x1).length / 1):Nat):Int))) then some ((.int .i64 (1:Int)),[]) else some ((.int .i64 (0:Int)),[])))) else (bif (decide (((((x0).length / 1):Nat):Int) < ((((x1).length / 1):Nat):Int))) then some ((.int .i64 (-1:Int)),[]) else (bif (decide (((((x0).length / 1):Nat):Int) > ((((x1).length / 1):Nat):Int))) then some ((.int .i64 (1:Int)),[]) else some ((.int .i64 (0:Int)),[])))):=by kernel_rfl
theorem spec_l1Order.ev (n:Nat) (a0:List T) (a1:List T):callK prog A H LIM n F.spec_l1Order [(.sl 1 a0),(.sl 1 a1)]=(spec_l1Order.at0 n n (spec_l1Order.st0 a0 a1 (0:Int))):=by kernel_rfl
def spec_l1Same.st0 (x0:List T) (x1:List T) (x2:Int):St:=⟨[(0,(.one (.t (.sl 1 x0)))),(1,(.one (.t (.sl 1 x1)))),(5,(.one (.t (.int .i64 x2))))],[]⟩
noncomputable def spec_l1Same.K0 (n:Nat):Ex→St→R:=ctxK prog A (H F.spec_l1Same) LIM n [.block 0,.seq 0 (subCode [1,1,1] (bodyOf prog F.spec_l1Same))] (endOf prog A F.spec_l1Same)
noncomputable def spec_l1Same.at0 (n:Nat) (m:Nat) (s:St):R:=loopAt prog A (H F.spec_l1Same) LIM n 0 (subCode [1,1,0,1,0,0] (bodyOf prog F.spec_l1Same)) (spec_l1Same.K0 n) m s
noncomputable def spec_l1Same.rd0 (n:Nat) (L0:St→R) (s:St):R:=roundK prog A (H F.spec_l1Same) LIM n 0 (subCode [1,1,0,1,0,0] (bodyOf prog F.spec_l1Same)) (spec_l1Same.K0 n) L0 s
theorem spec_l1Same.next0 (n:Nat) (m:Nat) (s:St):spec_l1Same.at0 n (m+1) s=spec_l1Same.rd0 n (spec_l1Same.at0 n m) s:=loopAt_succ _ _ _ _ _ _ _ _ _ _
theorem spec_l1Same.round0 (n:Nat) (L0:St→R) (x0:List T) (x1:List T) (x2:Int):spec_l1Same.rd0 n L0 (spec_l1Same.st0 x0 x1 x2)=(bif (decide (x2 < ((((x0).length / 1):Nat):Int))) then (bif inB x2 ((x0).length / 1) then ((x0[((Int.toNat x2)*1)]?).bind fun e1=>((oInt .i64 e1).bind fun n2=>(bif inB x2 ((x1).length / 1) then ((x1[((Int.toNat x2)*1)]?).bind fun e3=>((oInt .i64 e3).bind fun n4=>(bif ((n2 != n4)) then some ((.bool false),[]) else (L0 (spec_l1Same.st0 x0 x1 (IntKind.wrap .i64 (x2+(1:Int)))))))) else none))) else none) else some ((.bool true),[])):=by kernel_rfl
theorem spec_l1Same.ev (n:Nat) (a0:List T) (a1:List T):callK prog A H LIM n F.spec_l1Same [(.sl 1 a0),(.sl 1 a1)]=(bif ((((((a0).length / 1):Nat):Int) != ((((a1).length / 1):Nat):Int))) then some ((.bool false),[]) else (spec_l1Same.at0 n n (spec_l1Same.st0 a0 a1 (0:Int)))):=by kernel_rfl
def spec_l2Name.st0 (x0:ByteArray) (x1:Int):St:=⟨[(0,(.one (.t (.str x0)))),(3,(.one (.t (.int .i64 x1))))],[]⟩
noncomputable def spec_l2Name.K0 (n:Nat):Ex→St→R:=ctxK prog A (H F.spec_l2Name) LIM n [.block 0,.seq 0 (subCode [1,1,1] (bodyOf prog F.spec_l2Name))] (endOf prog A F.spec_l2Name)
noncomputable def spec_l2Name.at0 (n:Nat) (m:Nat) (s:St):R:=loopAt prog A (H F.spec_l2Name) LIM n 0 (subCode [1,1,0,1,0,0] (bodyOf prog F.spec_l2Name)) (spec_l2Name.K0 n) m s
noncomputable def spec_l2Name.rd0 (n:Nat) (L0:St→R) (s:St):R:=roundK prog A (H F.spec_l2Name) LIM n 0 (subCode [1,1,0,1,0,0] (bodyOf prog F.spec_l2Name)) (spec_l2Name.K0 n) L0 s
theorem spec_l2Name.next0 (n:Nat) (m:Nat) (s:St):spec_l2Name.at0 n (m+1) s=spec_l2Name.rd0 n (spec_l2Name.at0 n m) s:=loopAt_succ _ _ _ _ _ _ _ _ _ _
theorem spec_l2Name.round0 (n:Nat) (L0:St→R) (x0:ByteArray) (x1:Int):spec_l2Name.rd0 n L0 (spec_l2Name.st0 x0 x1)=(bif (decide (x1 < (x0.size:Int))) then (bif inB x1 x0.size then (bif (decide (((x0.data.getD (Int.toNat x1) 0).toNat:Int) < (97:Int))) then some ((.bool false),[]) else (bif inB x1 x0.size then (bif (decide (((x0.data.getD (Int.toNat x1) 0).toNat:Int) > (122:Int))) then some ((.bool false),[]) else (L0 (spec_l2Name.st0 x0 (IntKind.wrap .i64 (x1+(1:Int)))))) else none)) else none) else some ((.bool true),[])):=by kernel_rfl
theorem spec_l2Name.ev (n:Nat) (a0:ByteArray):callK prog A H LIM n F.spec_l2Name [(.str a0)]=(bif (decide ((a0.size:Int) < (1:Int))) then some ((.bool false),[]) else (bif (decide ((a0.size:Int) > (3:Int))) then some ((.bool false),[]) else (spec_l2Name.at0 n n (spec_l2Name.st0 a0 (0:Int))))):=by kernel_rfl
def spec_l2Order.st4 (x0:List T) (x1:Int) (x2:Int):St:=⟨[(1,(.one (.t (.sl 1 x0)))),(6,(.one (.t (.int .i64 x1)))),(7,(.one (.t (.int .i64 x2))))],[]⟩
def spec_l2Order.st2 (x0:List T) (x1:Int):St:=⟨[(1,(.one (.t (.sl 1 x0)))),(6,(.one (.t (.int .i64 x1))))],[]⟩
def spec_l2Order.st0 (x0:List T) (x1:List T) (x2:Int):St:=⟨[(0,(.one (.t (.rref [(.sl 2 x0)] 0)))),(1,(.one (.t (.sl 1 x1)))),(5,(.one (.t (.int .i64 x2))))],[]⟩
noncomputable def spec_l2Order.K0 (n:Nat):Ex→St→R:=ctxK prog A (H F.spec_l2Order) LIM n [.block 0,.seq 0 (subCode [1,1,1] (bodyOf prog F.spec_l2Order))] (endOf prog A F.spec_l2Order)
noncomputable def spec_l2Order.at0 (n:Nat) (m:Nat) (s:St):R:=loopAt prog A (H F.spec_l2Order) LIM n 0 (subCode [1,1,0,1,0,0] (bodyOf prog F.spec_l2Order)) (spec_l2Order.K0 n) m s
noncomputable def spec_l2Order.rd0 (n:Nat) (L0:St→R) (s:St):R:=roundK prog A (H F.spec_l2Order) LIM n 0 (subCode [1,1,0,1,0,0] (bodyOf prog F.spec_l2Order)) (spec_l2Order.K0 n) L0 s
theorem spec_l2Order.next0 (n:Nat) (m:Nat) (s:St):spec_l2Order.at0 n (m+1) s=spec_l2Order.rd0 n (spec_l2Order.at0 n m) s:=loopAt_succ _ _ _ _ _ _ _ _ _ _
noncomputable def spec_l2Order.K2 (n:Nat):Ex→St→R:=ctxK prog A (H F.spec_l2Order) LIM n [.block 2,.seq 0 (subCode [1,1,1,1] (bodyOf prog F.spec_l2Order))] (endOf prog A F.spec_l2Order)
noncomputable def spec_l2Order.at2 (n:Nat) (m:Nat) (s:St):R:=loopAt prog A (H F.spec_l2Order) LIM n 2 (subCode [1,1,1,0,1,0,0] (bodyOf prog F.spec_l2Order)) (spec_l2Order.K2 n) m s
noncomputable def spec_l2Order.rd2 (n:Nat) (L2:St→R) (s:St):R:=roundK prog A (H F.spec_l2Order) LIM n 2 (subCode [1,1,1,0,1,0,0] (bodyOf prog F.spec_l2Order)) (spec_l2Order.K2 n) L2 s
theorem spec_l2Order.next2 (n:Nat) (m:Nat) (s:St):spec_l2Order.at2 n (m+1) s=spec_l2Order.rd2 n (spec_l2Order.at2 n m) s:=loopAt_succ _ _ _ _ _ _ _ _ _ _
noncomputable def spec_l2Order.K4 (n:Nat) (L2:St→R):Ex→St→R:=ctxK prog A (H F.spec_l2Order) LIM n [.block 4,.block 3,.seq 2 (subCode [1,1,1,0,1,0,0,1,1] (bodyOf prog F.spec_l2Order))] (backK (H F.spec_l2Order) 2 (spec_l2Order.K2 n) L2)
noncomputable def spec_l2Order.at4 (n:Nat) (L2:St→R) (m:Nat) (s:St):R:=loopAt prog A (H F.spec_l2Order) LIM n 4 (subCode [1,1,1,0,1,0,0,1,0,0,1,0,0] (bodyOf prog F.spec_l2Order)) (spec_l2Order.K4 n L2) m s
noncomputable def spec_l2Order.rd4 (n:Nat) (L2:St→R) (L4:St→R) (s:St):R:=roundK prog A (H F.spec_l2Order) LIM n 4 (subCode [1,1,1,0,1,0,0,1,0,0,1,0,0] (bodyOf prog F.spec_l2Order)) (spec_l2Order.K4 n L2) L4 s
theorem spec_l2Order.next4 (n:Nat) (L2:St→R) (m:Nat) (s:St):spec_l2Order.at4 n L2 (m+1) s=spec_l2Order.rd4 n L2 (spec_l2Order.at4 n L2 m) s:=loopAt_succ _ _ _ _ _ _ _ _ _ _
theorem spec_l2Order.round0 (n:Nat) (L0:St→R) (x0:List T) (x1:List T) (x2:Int):spec_l2Order.rd0 n L0 (spec_l2Order.st0 x0 x1 x2)=(bif (decide (x2 < ((((x1).length / 1):Nat):Int))) then (bif inB x2 ((x1).length / 1) then ((x1[((Int.toNat x2)*1)]?).bind fun e1=>((oInt .i64 e1).bind fun n2=>((LIM F.spec_l2Symbol [(.rref [(.sl 2 x0)] 0),(.int .i64 n2)]).bind fun r3=>((oNil r3.2).bind fun _=>((oBool r3.1).bind fun b4=>(bif (!b4) then some ((.int .i64 (3:Int)),[]) else (L0 (spec_l2Order.st0 x0 x1 (IntKind.wrap .i64 (x2+(1:Int))))))))))) else none) else (spec_l2Order.at2 n n (spec_l2Order.st2 x1 (0:Int)))):=by kernel_rfl
theorem spec_l2Order.round2 (n:Nat) (L2:St→R) (x0:List T) (x1:Int):spec_l2Order.rd2 n L2 (spec_l2Order.st2 x0 x1)=(bif (decide (x1 < ((((x0).length / 1):Nat):Int))) then (spec_l2Order.at4 n L2 n (spec_l2Order.st4 x0 x1 (0:Int))) else some ((.int .i64 (0:Int)),[])):=by kernel_rfl
theorem spec_l2Order.round4 (n:Nat) (L2:St→R) (L4:St→R) (x0:List T) (x1:Int) (x2:Int):spec_l2Order.rd4 n L2 L4 (spec_l2Order.st4 x0 x1 x2)=(bif (decide (x2 < x1)) then (bif inB x1 ((x0).length / 1) then ((x0[((Int.toNat x1)*1)]?).bind fun e5=>((oInt .i64 e5).bind fun n6=>(bif inB x2 ((x0).length / 1) then ((x0[((Int.toNat x2)*1)]?).bind fun e7=>((oInt .i64 e7).bind fun n8=>(bif ((n6 == n8)) then some ((.int .i64 (6:Int)),[]) else (L4 (spec_l2Order.st4 x0 x1 (IntKind.wrap .i64 (x2+(1:Int)))))))) else none))) else none) else (L2 (spec_l2Order.st2 x0 (IntKind.wrap .i64 (x1+(1:Int)))))):=by kernel_rfl
theorem spec_l2Order.ev (n:Nat) (a0_0:List T) (a1:List T):callK prog A H LIM n F.spec_l2Order [(.rref [(.sl 2 a0_0)] 0),(.sl 1 a1)]=(bif ((((((a1).length / 1):Nat):Int) != ((((a0_0).length / 2):Nat):Int))) then some ((.int .i64 (2:Int)),[]) else (spec_l2Order.at0 n n (spec_l2Order.st0 a0_0 a1 (0:Int)))):=by kernel_rfl
def spec_l2Rank.st0 (x0:List T) (x1:Int) (x2:Int):St:=⟨[(0,(.one (.t (.sl 1 x0)))),(1,(.one (.t (.int .i64 x1)))),(5,(.one (.t (.int .i64 x2))))],[]⟩
noncomputable def spec_l2Rank.K0 (n:Nat):Ex→St→R:=ctxK prog A (H F.spec_l2Rank) LIM n [.block 0,.seq 0 (subCode [1,1] (bodyOf prog F.spec_l2Rank))] (endOf prog A F.spec_l2Rank)
noncomputable def spec_l2Rank.at0 (n:Nat) (m:Nat) (s:St):R:=loopAt prog A (H F.spec_l2Rank) LIM n 0 (subCode [1,0,1,0,0] (bodyOf prog F.spec_l2Rank)) (spec_l2Rank.K0 n) m s
noncomputable def spec_l2Rank.rd0 (n:Nat) (L0:St→R) (s:St):R:=roundK prog A (H F.spec_l2Rank) LIM n 0 (subCode [1,0,1,0,0] (bodyOf prog F.spec_l2Rank)) (spec_l2Rank.K0 n) L0 s
theorem spec_l2Rank.next0 (n:Nat) (m:Nat) (s:St):spec_l2Rank.at0 n (m+1) s=spec_l2Rank.rd0 n (spec_l2Rank.at0 n m) s:=loopAt_succ _ _ _ _ _ _ _ _ _ _
theorem spec_l2Rank.round0 (n:Nat) (L0:St→R) (x0:List T) (x1:Int) (x2:Int):spec_l2Rank.rd0 n L0 (spec_l2Rank.st0 x0 x1 x2)=(bif (decide (x2 < ((((x0).length / 1):Nat):Int))) then (bif inB x2 ((x0).length / 1) then ((x0[((Int.toNat x2)*1)]?).bind fun e1=>((oInt .i64 e1).bind fun n2=>(bif ((n2 == x1)) then some ((.int .i64 x2),[]) else (L0 (spec_l2Rank.st0 x0 x1 (IntKind.wrap .i64 (x2+(1:Int)))))))) else none) else some ((.int .i64 (-1:Int)),[])):=by kernel_rfl
theorem spec_l2Rank.ev (n:Nat) (a0:List T) (a1:Int):callK prog A H LIM n F.spec_l2Rank [(.sl 1 a0),(.int .i64 a1)]=(spec_l2Rank.at0 n n (spec_l2Rank.st0 a0 a1 (0:Int))):=by kernel_rfl
theorem spec_l2Symbol.ev (n:Nat) (a0_0:List T) (a1:Int):callK prog A H LIM n F.spec_l2Symbol [(.rref [(.sl 2 a0_0)] 0),(.int .i64 a1)]=((LIM F.spec_l1In [(.int .i64 a1),(.int .i64 (0:Int)),(.int .i64 (IntKind.wrap .i64 (((((a0_0).length / 2):Nat):Int) - (1:Int))))]).bind fun r1=>((oNil r1.2).bind fun _=>((oBool r1.1).bind fun b2=>some ((.bool b2),[])))):=by kernel_rfl
def spec_l3Count.st0 (x0:List T) (x1:Int) (x2:Int) (x3:Int):St:=⟨[(0,(.one (.t (.sl 1 x0)))),(1,(.one (.t (.int .i64 x1)))),(5,(.one (.t (.int .i64 x2)))),(6,(.one (.t (.int .i64 x3))))],[]⟩
noncomputable def spec_l3Count.K0 (n:Nat):Ex→St→R:=ctxK prog A (H F.spec_l3Count) LIM n [.block 0,.seq 0 (subCode [1,1,1] (bodyOf prog F.spec_l3Count))] (endOf prog A F.spec_l3Count)
noncomputable def spec_l3Count.at0 (n:Nat) (m:Nat) (s:St):R:=loopAt prog A (H F.spec_l3Count) LIM n 0 (subCode [1,1,0,1,0,0] (bodyOf prog F.spec_l3Count)) (spec_l3Count.K0 n) m s
noncomputable def spec_l3Count.rd0 (n:Nat) (L0:St→R) (s:St):R:=roundK prog A (H F.spec_l3Count) LIM n 0 (subCode [1,1,0,1,0,0] (bodyOf prog F.spec_l3Count)) (spec_l3Count.K0 n) L0 s
theorem spec_l3Count.next0 (n:Nat) (m:Nat) (s:St):spec_l3Count.at0 n (m+1) s=spec_l3Count.rd0 n (spec_l3Count.at0 n m) s:=loopAt_succ _ _ _ _ _ _ _ _ _ _
theorem spec_l3Count.round0 (n:Nat) (L0:St→R) (x0:List T) (x1:Int) (x2:Int) (x3:Int):spec_l3Count.rd0 n L0 (spec_l3Count.st0 x0 x1 x2 x3)=(bif (decide (x3 < ((((x0).length / 1):Nat):Int))) then (bif inB x3 ((x0).length / 1) then ((x0[((Int.toNat x3)*1)]?).bind fun e1=>((oInt .i64 e1).bind fun n2=>(bif ((n2 == x1)) then (L0 (spec_l3Count.st0 x0 x1 (IntKind.wrap .i64 (x2+(1:Int))) (IntKind.wrap .i64 (x3+(1:Int))))) else (L0 (spec_l3Count.st0 x0 x1 x2 (IntKind.wrap .i64 (x3+(1:Int)))))))) else none) else some ((.int .i64 x2),[])):=by kernel_rfl
theorem spec_l3Count.ev (n:Nat) (a0:List T) (a1:Int):callK prog A H LIM n F.spec_l3Count [(.sl 1 a0),(.int .i64 a1)]=(spec_l3Count.at0 n n (spec_l3Count.st0 a0 a1 (0:Int) (0:Int))):=by kernel_rfl
def spec_l3End.st0 (x0:List T) (x1:List T) (x2:Int) (x3:Int) (x4:Int):St:=⟨[(0,(.one (.t (.rref [(.sl 2 x0)] 0)))),(1,(.one (.t (.sl 1 x1)))),(2,(.one (.t (.int .i64 x2)))),(7,(.one (.t (.int .i64 x3)))),(8,(.one (.t (.int .i64 x4))))],[]⟩
noncomputable def spec_l3End.K0 (n:Nat):Ex→St→R:=ctxK prog A (H F.spec_l3End) LIM n [.block 0,.seq 0 (subCode [1,1,1,1,1] (bodyOf prog F.spec_l3End))] (endOf prog A F.spec_l3End)
noncomputable def spec_l3End.at0 (n:Nat) (m:Nat) (s:St):R:=loopAt prog A (H F.spec_l3End) LIM n 0 (subCode [1,1,1,1,0,1,0,0] (bodyOf prog F.spec_l3End)) (spec_l3End.K0 n) m s
noncomputable def spec_l3End.rd0 (n:Nat) (L0:St→R) (s:St):R:=roundK prog A (H F.spec_l3End) LIM n 0 (subCode [1,1,1,1,0,1,0,0] (bodyOf prog F.spec_l3End)) (spec_l3End.K0 n) L0 s
theorem spec_l3End.next0 (n:Nat) (m:Nat) (s:St):spec_l3End.at0 n (m+1) s=spec_l3End.rd0 n (spec_l3End.at0 n m) s:=loopAt_succ _ _ _ _ _ _ _ _ _ _
theorem spec_l3End.round0 (n:Nat) (L0:St→R) (x0:List T) (x1:List T) (x2:Int) (x3:Int) (x4:Int):spec_l3End.rd0 n L0 (spec_l3End.st0 x0 x1 x2 x3 x4)=(bif inB x2 ((x1).length / 1) then ((x1[((Int.toNat x2)*1)]?).bind fun e3=>((oInt .i64 e3).bind fun n4=>(bif inB n4 ((x0).length / 2) then ((x0[(((Int.toNat n4)*2)+1)]?).bind fun e5=>((oInt .i64 e5).bind fun n6=>(bif (decide (x4 < n6)) then ((LIM F.spec_l3End [(.rref [(.sl 2 x0)] 0),(.sl 1 x1),(.int .i64 x3)]).bind fun r7=>((oNil r7.2).bind fun _=>((oInt .i64 r7.1).bind fun n8=>(bif (decide (n8 < (0:Int))) then some ((.int .i64 (-1:Int)),[]) else (L0 (spec_l3End.st0 x0 x1 x2 n8 (IntKind.wrap .i64 (x4+(1:Int))))))))) else some ((.int .i64 x3),[])))) else none))) else none):=by kernel_rfl
theorem spec_l3End.ev (n:Nat) (a0_0:List T) (a1:List T) (a2:Int):callK prog A H LIM n F.spec_l3End [(.rref [(.sl 2 a0_0)] 0),(.sl 1 a1),(.int .i64 a2)]=(bif (decide (a2 ≥ ((((a1).length / 1):Nat):Int))) then some ((.int .i64 (-1:Int)),[]) else (bif inB a2 ((a1).length / 1) then ((a1[((Int.toNat a2)*1)]?).bind fun e1=>((oInt .i64 e1).bind fun n2=>(bif (decide (n2 < (0:Int))) then some ((.int .i64 (IntKind.wrap .i64 (a2+(1:Int)))),[]) else (spec_l3End.at0 n n (spec_l3End.st0 a0_0 a1 a2 (IntKind.wrap .i64 (a2+(1:Int))) (0:Int)))))) else none)):=by kernel_rfl
def spec_l3Fault.st0 (x0:List T) (x1:List T) (x2:Int):St:=⟨[(0,(.one (.t (.rref [(.sl 2 x0)] 0)))),(1,(.one (.t (.sl 1 x1)))),(5,(.one (.t (.int .i64 x2))))],[]⟩
noncomputable def spec_l3Fault.K0 (n:Nat):Ex→St→R:=ctxK prog A (H F.spec_l3Fault) LIM n [.block 0,.seq 0 (subCode [1,1,1] (bodyOf prog F.spec_l3Fault))] (endOf prog A F.spec_l3Fault)
noncomputable def spec_l3Fault.at0 (n:Nat) (m:Nat) (s:St):R:=loopAt prog A (H F.spec_l3Fault) LIM n 0 (subCode [1,1,0,1,0,0] (bodyOf prog F.spec_l3Fault)) (spec_l3Fault.K0 n) m s
noncomputable def spec_l3Fault.rd0 (n:Nat) (L0:St→R) (s:St):R:=roundK prog A (H F.spec_l3Fault) LIM n 0 (subCode [1,1,0,1,0,0] (bodyOf prog F.spec_l3Fault)) (spec_l3Fault.K0 n) L0 s
theorem spec_l3Fault.next0 (n:Nat) (m:Nat) (s:St):spec_l3Fault.at0 n (m+1) s=spec_l3Fault.rd0 n (spec_l3Fault.at0 n m) s:=loopAt_succ _ _ _ _ _ _ _ _ _ _
theorem spec_l3Fault.round0 (n:Nat) (L0:St→R) (x0:List T) (x1:List T) (x2:Int):spec_l3Fault.rd0 n L0 (spec_l3Fault.st0 x0 x1 x2)=(bif (decide (x2 < ((((x1).length / 1):Nat):Int))) then (bif inB x2 ((x1).length / 1) then ((x1[((Int.toNat x2)*1)]?).bind fun e1=>((oInt .i64 e1).bind fun n2=>((LIM F.spec_l3Node [(.rref [(.sl 2 x0)] 0),(.int .i64 n2)]).bind fun r3=>((oNil r3.2).bind fun _=>((oBool r3.1).bind fun b4=>(bif (!b4) then some ((.int .i64 (3:Int)),[]) else (L0 (spec_l3Fault.st0 x0 x1 (IntKind.wrap .i64 (x2+(1:Int))))))))))) else none) else ((LIM F.spec_l3End [(.rref [(.sl 2 x0)] 0),(.sl 1 x1),(.int .i64 (0:Int))]).bind fun r5=>((oNil r5.2).bind fun _=>((oInt .i64 r5.1).bind fun n6=>(bif ((n6 != ((((x1).length / 1):Nat):Int))) then some ((.int .i64 (1:Int)),[]) else some ((.int .i64 (0:Int)),[])))))):=by kernel_rfl
theorem spec_l3Fault.ev (n:Nat) (a0_0:List T) (a1:List T):callK prog A H LIM n F.spec_l3Fault [(.rref [(.sl 2 a0_0)] 0),(.sl 1 a1)]=(bif (decide (((((a1).length / 1):Nat):Int) < (1:Int))) then some ((.int .i64 (2:Int)),[]) else (bif (decide (((((a1).length / 1):Nat):Int) > (24:Int))) then some ((.int .i64 (2:Int)),[]) else (spec_l3Fault.at0 n n (spec_l3Fault.st0 a0_0 a1 (0:Int))))):=by kernel_rfl
theorem spec_l3Node.ev (n:Nat) (a0_0:List T) (a1:Int):callK prog A H LIM n F.spec_l3Node [(.rref [(.sl 2 a0_0)] 0),(.int .i64 a1)]=((LIM F.spec_l2Symbol [(.rref [(.sl 2 a0_0)] 0),(.int .i64 a1)]).bind fun r1=>((oNil r1.2).bind fun _=>((oBool r1.1).bind fun b2=>(bif b2 then some ((.bool true),[]) else ((LIM F.spec_l1In [(.int .i64 a1),(.int .i64 (-12:Int)),(.int .i64 (-1:Int))]).bind fun r3=>((oNil r3.2).bind fun _=>((oBool r3.1).bind fun b4=>some ((.bool b4),[])))))))):=by kernel_rfl
theorem spec_l3Replace.ev (n:Nat) (a0_0:List T) (a1:List T) (a2:Int) (a3:List T):callK prog A H LIM n F.spec_l3Replace [(.rref [(.sl 2 a0_0)] 0),(.sl 1 a1),(.int .i64 a2),(.sl 1 a3)]=(bif decide (0≤(0:Int))&&decide ((0:Int)≤a2)&&decide (a2≤((((a1).length / 1):Nat):Int)) then ((LIM F.spec_l1Ints [(.sl 1 ((a1.take ((Int.toNat a2)*1)).drop (0*1)))]).bind fun r1=>((oNil r1.2).bind fun _=>((oSl 1 r1.1).bind fun c2=>(bif (a3).all T.scalar then (bif Nat.ble (((c2).length+(a3).length)*8) (140737488355328*1) then ((LIM F.spec_l3End [(.rref [(.sl 2 a0_0)] 0),(.sl 1 a1),(.int .i64 a2)]).bind fun r3=>((oNil r3.2).bind fun _=>((oInt .i64 r3.1).bind fun n4=>(bif decide (0≤n4)&&decide (n4≤((((a1).length / 1):Nat):Int))&&decide (((((a1).length / 1):Nat):Int)≤((((a1).length / 1):Nat):Int)) then (bif (((a1.take ((Int.toNat ((((a1).length / 1):Nat):Int))*1)).drop ((Int.toNat n4)*1))).all T.scalar then (bif Nat.ble ((((c2++a3:List T)).length+(((a1.take ((Int.toNat ((((a1).length / 1):Nat):Int))*1)).drop ((Int.toNat n4)*1))).length)*8) (140737488355328*1) then some ((.sl 1 ((c2++a3:List T)++((a1.take ((Int.toNat ((((a1).length / 1):Nat):Int))*1)).drop ((Int.toNat n4)*1)):List T)),[]) else none) else none) else none)))) else none) else none)))) else none):=by kernel_rfl
theorem spec_l3Sub.ev (n:Nat) (a0_0:List T) (a1:List T) (a2:Int):callK prog A H LIM n F.spec_l3Sub [(.rref [(.sl 2 a0_0)] 0),(.sl 1 a1),(.int .i64 a2)]=((LIM F.spec_l3End [(.rref [(.sl 2 a0_0)] 0),(.sl 1 a1),(.int .i64 a2)]).bind fun r1=>((oNil r1.2).bind fun _=>((oInt .i64 r1.1).bind fun n2=>(bif decide (0≤a2)&&decide (a2≤n2)&&decide (n2≤((((a1).length / 1):Nat):Int)) then ((LIM F.spec_l1Ints [(.sl 1 ((a1.take ((Int.toNat n2)*1)).drop ((Int.toNat a2)*1)))]).bind fun r3=>((oNil r3.2).bind fun _=>((oSl 1 r3.1).bind fun c4=>some ((.sl 1 c4),[])))) else none)))):=by kernel_rfl
theorem spec_l4Fault.ev (n:Nat) (a0_0:List T) (a1_0:List T) (a1_1:List T):callK prog A H LIM n F.spec_l4Fault [(.rref [(.sl 2 a0_0)] 0),(.rref [(.sl 1 a1_0),(.sl 1 a1_1)] 0)]=((LIM F.spec_l3Fault [(.rref [(.sl 2 a0_0)] 0),(.sl 1 a1_0)]).bind fun r1=>((oNil r1.2).bind fun _=>((oInt .i64 r1.1).bind fun n2=>(bif ((n2 != (0:Int))) then some ((.int .i64 n2),[]) else ((LIM F.spec_l3Fault [(.rref [(.sl 2 a0_0)] 0),(.sl 1 a1_1)]).bind fun r3=>((oNil r3.2).bind fun _=>((oInt .i64 r3.1).bind fun n4=>(bif ((n4 != (0:Int))) then some ((.int .i64 n4),[]) else ((LIM F.spec_l4Low [(.sl 1 a1_0)]).bind fun r5=>((oNil r5.2).bind fun _=>((oBool r5.1).bind fun b6=>(bif (!b6) then some ((.int .i64 (3:Int)),[]) else ((LIM F.spec_l4Low [(.sl 1 a1_1)]).bind fun r7=>((oNil r7.2).bind fun _=>((oBool r7.1).bind fun b8=>(bif (!b8) then some ((.int .i64 (3:Int)),[]) else some ((.int .i64 (0:Int)),[]))))))))))))))))):=by kernel_rfl
def spec_l4Low.st0 (x0:List T) (x1:Int):St:=⟨[(0,(.one (.t (.sl 1 x0)))),(3,(.one (.t (.int .i64 x1))))],[]⟩
noncomputable def spec_l4Low.K0 (n:Nat):Ex→St→R:=ctxK prog A (H F.spec_l4Low) LIM n [.block 0,.seq 0 (subCode [1,1] (bodyOf prog F.spec_l4Low))] (endOf prog A F.spec_l4Low)
noncomputable def spec_l4Low.at0 (n:Nat) (m:Nat) (s:St):R:=loopAt prog A (H F.spec_l4Low) LIM n 0 (subCode [1,0,1,0,0] (bodyOf prog F.spec_l4Low)) (spec_l4Low.K0 n) m s
noncomputable def spec_l4Low.rd0 (n:Nat) (L0:St→R) (s:St):R:=roundK prog A (H F.spec_l4Low) LIM n 0 (subCode [1,0,1,0,0] (bodyOf prog F.spec_l4Low)) (spec_l4Low.K0 n) L0 s
theorem spec_l4Low.next0 (n:Nat) (m:Nat) (s:St):spec_l4Low.at0 n (m+1) s=spec_l4Low.rd0 n (spec_l4Low.at0 n m) s:=loopAt_succ _ _ _ _ _ _ _ _ _ _
theorem spec_l4Low.round0 (n:Nat) (L0:St→R) (x0:List T) (x1:Int):spec_l4Low.rd0 n L0 (spec_l4Low.st0 x0 x1)=(bif (decide (x1 < ((((x0).length / 1):Nat):Int))) then (bif inB x1 ((x0).length / 1) then ((x0[((Int.toNat x1)*1)]?).bind fun e1=>((oInt .i64 e1).bind fun n2=>(bif (decide (n2 < (-6:Int))) then some ((.bool false),[]) else (L0 (spec_l4Low.st0 x0 (IntKind.wrap .i64 (x1+(1:Int)))))))) else none) else some ((.bool true),[])):=by kernel_rfl
theorem spec_l4Low.ev (n:Nat) (a0:List T):callK prog A H LIM n F.spec_l4Low [(.sl 1 a0)]=(spec_l4Low.at0 n n (spec_l4Low.st0 a0 (0:Int))):=by kernel_rfl
def spec_l4Plain.st0 (x0:List T) (x1:List T) (x2:Int) (x3:List T) (x4:List T):St:=⟨[(0,(.one (.t (.rref [(.sl 1 x0),(.sl 1 x1)] 0)))),(2,(.one (.ptr 128 0))),(4,(.one (.obj 832))),(5,(.one (.obj 1216))),(6,(.one (.t (.int .i64 x2))))],[(128,(.box [.nil,.nil])),(832,(.arr true true 1 x3)),(1216,(.arr true true 1 x4))]⟩
noncomputable def spec_l4Plain.K0 (n:Nat):Ex→St→R:=ctxK prog A (H F.spec_l4Plain) LIM n [.block 0,.seq 0 (subCode [1,1,1,1] (bodyOf prog F.spec_l4Plain))] (endOf prog A F.spec_l4Plain)
noncomputable def spec_l4Plain.at0 (n:Nat) (m:Nat) (s:St):R:=loopAt prog A (H F.spec_l4Plain) LIM n 0 (subCode [1,1,1,0,1,0,0] (bodyOf prog F.spec_l4Plain)) (spec_l4Plain.K0 n) m s
noncomputable def spec_l4Plain.rd0 (n:Nat) (L0:St→R) (s:St):R:=roundK prog A (H F.spec_l4Plain) LIM n 0 (subCode [1,1,1,0,1,0,0] (bodyOf prog F.spec_l4Plain)) (spec_l4Plain.K0 n) L0 s
theorem spec_l4Plain.next0 (n:Nat) (m:Nat) (s:St):spec_l4Plain.at0 n (m+1) s=spec_l4Plain.rd0 n (spec_l4Plain.at0 n m) s:=loopAt_succ _ _ _ _ _ _ _ _ _ _
theorem spec_l4Plain.round0 (n:Nat) (L0:St→R) (x0:List T) (x1:List T) (x2:Int) (x3:List T) (x4:List T):spec_l4Plain.rd0 n L0 (spec_l4Plain.st0 x0 x1 x2 x3 x4)=(bif (decide (x2 < ((((x3).length / 1):Nat):Int))) then (bif inB x2 ((x3).length / 1) then ((x3[((Int.toNat x2)*1)]?).bind fun e3=>((oInt .i64 e3).bind fun n4=>(bif (decide (n4 ≥ (0:Int))) then (L0 (spec_l4Plain.st0 x0 x1 (IntKind.wrap .i64 (x2+(1:Int))) x3 x4)) else (bif inB x2 ((x3).length / 1) then ((x3[((Int.toNat x2)*1)]?).bind fun e5=>((oInt .i64 e5).bind fun n6=>((LIM F.spec_l2Rank [(.sl 1 x4),(.int .i64 n6)]).bind fun r7=>((oNil r7.2).bind fun _=>((oInt .i64 r7.1).bind fun n8=>(bif (decide (n8 < (0:Int))) then (bif inB x2 ((x3).length / 1) then ((x3[((Int.toNat x2)*1)]?).bind fun e9=>((oInt .i64 e9).bind fun n10=>(bif Nat.ble (((x4).length+1)*8) (140737488355328*1) then (bif inB x2 ((x3).length / 1) then (bif decide (((Int.toNat x2)*1)+1≤(x3).length) then (L0 (spec_l4Plain.st0 x0 x1 (IntKind.wrap .i64 (x2+(1:Int))) (setCells x3 ((Int.toNat x2)*1) [(.int .i64 (IntKind.wrap .i64 ((-1:Int) - ((((x4).length / 1):Nat):Int))))]) (x4++[(.int .i64 n10)]:List T))) else none) else none) else none))) else none) else (bif inB x2 ((x3).length / 1) then (bif decide (((Int.toNat x2)*1)+1≤(x3).length) then (L0 (spec_l4Plain.st0 x0 x1 (IntKind.wrap .i64 (x2+(1:Int))) (setCells x3 ((Int.toNat x2)*1) [(.int .i64 (IntKind.wrap .i64 ((-1:Int) - n8)))]) x4)) else none) else none))))))) else none)))) else none) else (bif (decide (((((x4).length / 1):Nat):Int) > (6:Int))) then some ((.tup [(.agg [(.sl 1 []),(.sl 1 [])]),(.bool false)]),[]) else (bif decide (0≤(0:Int))&&decide ((0:Int)≤((((x0).length / 1):Nat):Int))&&decide (((((x0).length / 1):Nat):Int)≤((((x3).length / 1):Nat):Int)) then ((LIM F.spec_l1Ints [(.sl 1 ((x3.take ((Int.toNat ((((x0).length / 1):Nat):Int))*1)).drop (0*1)))]).bind fun r11=>((oNil r11.2).bind fun _=>((oSl 1 r11.1).bind fun c12=>(bif decide (0≤((((x0).length / 1):Nat):Int))&&decide (((((x0).length / 1):Nat):Int)≤((((x3).length / 1):Nat):Int))&&decide (((((x3).length / 1):Nat):Int)≤((((x3).length / 1):Nat):Int)) then ((LIM F.spec_l1Ints [(.sl 1 ((x3.take ((Int.toNat ((((x3).length / 1):Nat):Int))*1)).drop ((Int.toNat ((((x0).length / 1):Nat):Int))*1)))]).bind fun r13=>((oNil r13.2).bind fun _=>((oSl 1 r13.1).bind fun c14=>some ((.tup [(.agg [(.sl 1 c12),(.sl 1 c14)]),(.bool true)]),[])))) else none)))) else none))):=by kernel_rfl
theorem spec_l4Plain.ev (n:Nat) (a0_0:List T) (a0_1:List T):callK prog A H LIM n F.spec_l4Plain [(.rref [(.sl 1 a0_0),(.sl 1 a0_1)] 0)]=((LIM F.spec_l1Ints [(.sl 1 a0_0)]).bind fun r1=>((oNil r1.2).bind fun _=>((oSl 1 r1.1).bind fun c2=>(bif (a0_1).all T.scalar then (bif Nat.ble (((c2).length+(a0_1).length)*8) (140737488355328*1) then (spec_l4Plain.at0 n n (spec_l4Plain.st0 a0_0 a0_1 (0:Int) (c2++a0_1:List T) [])) else none) else none)))):=by kernel_rfl
def spec_l5Fault.st0 (x0:List T) (x1:List T) (x2:Int):St:=⟨[(0,(.one (.t (.rref [(.sl 2 x0)] 0)))),(1,(.one (.t (.sl 2 x1)))),(5,(.one (.t (.int .i64 x2))))],[]⟩
noncomputable def spec_l5Fault.K0 (n:Nat):Ex→St→R:=ctxK prog A (H F.spec_l5Fault) LIM n [.block 0,.seq 0 (subCode [1,1,1] (bodyOf prog F.spec_l5Fault))] (endOf prog A F.spec_l5Fault)
noncomputable def spec_l5Fault.at0 (n:Nat) (m:Nat) (s:St):R:=loopAt prog A (H F.spec_l5Fault) LIM n 0 (subCode [1,1,0,1,0,0] (bodyOf prog F.spec_l5Fault)) (spec_l5Fault.K0 n) m s
noncomputable def spec_l5Fault.rd0 (n:Nat) (L0:St→R) (s:St):R:=roundK prog A (H F.spec_l5Fault) LIM n 0 (subCode [1,1,0,1,0,0] (bodyOf prog F.spec_l5Fault)) (spec_l5Fault.K0 n) L0 s
theorem spec_l5Fault.next0 (n:Nat) (m:Nat) (s:St):spec_l5Fault.at0 n (m+1) s=spec_l5Fault.rd0 n (spec_l5Fault.at0 n m) s:=loopAt_succ _ _ _ _ _ _ _ _ _ _
theorem spec_l5Fault.round0 (n:Nat) (L0:St→R) (x0:List T) (x1:List T) (x2:Int):spec_l5Fault.rd0 n L0 (spec_l5Fault.st0 x0 x1 x2)=(bif (decide (x2 < ((((x1).length / 2):Nat):Int))) then (bif inB x2 ((x1).length / 2) then ((LIM F.spec_l4Fault [(.rref [(.sl 2 x0)] 0),(.rref ((x1.drop ((Int.toNat x2)*2)).take 2) 0)]).bind fun r1=>((oNil r1.2).bind fun _=>((oInt .i64 r1.1).bind fun n2=>(bif ((n2 != (0:Int))) then some ((.int .i64 n2),[]) else (L0 (spec_l5Fault.st0 x0 x1 (IntKind.wrap .i64 (x2+(1:Int))))))))) else none) else some ((.int .i64 (0:Int)),[])):=by kernel_rfl
theorem spec_l5Fault.ev (n:Nat) (a0_0:List T) (a1:List T):callK prog A H LIM n F.spec_l5Fault [(.rref [(.sl 2 a0_0)] 0),(.sl 2 a1)]=(bif (decide (((((a1).length / 2):Nat):Int) > (12:Int))) then some ((.int .i64 (2:Int)),[]) else (spec_l5Fault.at0 n n (spec_l5Fault.st0 a0_0 a1 (0:Int)))):=by kernel_rfl
def spec_l5Pack.st0 (x0:List T) (x1:Int) (x2:List T):St:=⟨[(0,(.one (.t (.sl 1 x0)))),(3,(.one (.obj 320))),(4,(.one (.t (.int .i64 x1))))],[(320,(.arr true true 1 x2))]⟩
noncomputable def spec_l5Pack.K0 (n:Nat):Ex→St→R:=ctxK prog A (H F.spec_l5Pack) LIM n [.block 0,.seq 0 (subCode [1,1,1] (bodyOf prog F.spec_l5Pack))] (endOf prog A F.spec_l5Pack)
noncomputable def spec_l5Pack.at0 (n:Nat) (m:Nat) (s:St):R:=loopAt prog A (H F.spec_l5Pack) LIM n 0 (subCode [1,1,0,1,0,0] (bodyOf prog F.spec_l5Pack)) (spec_l5Pack.K0 n) m s
noncomputable def spec_l5Pack.rd0 (n:Nat) (L0:St→R) (s:St):R:=roundK prog A (H F.spec_l5Pack) LIM n 0 (subCode [1,1,0,1,0,0] (bodyOf prog F.spec_l5Pack)) (spec_l5Pack.K0 n) L0 s
theorem spec_l5Pack.next0 (n:Nat) (m:Nat) (s:St):spec_l5Pack.at0 n (m+1) s=spec_l5Pack.rd0 n (spec_l5Pack.at0 n m) s:=loopAt_succ _ _ _ _ _ _ _ _ _ _
theorem spec_l5Pack.round0 (n:Nat) (L0:St→R) (x0:List T) (x1:Int) (x2:List T):spec_l5Pack.rd0 n L0 (spec_l5Pack.st0 x0 x1 x2)=(bif (decide (x1 < ((((x0).length / 1):Nat):Int))) then (bif inB x1 ((x0).length / 1) then ((x0[((Int.toNat x1)*1)]?).bind fun e1=>((oInt .i64 e1).bind fun n2=>(bif (decide (n2 < (0:Int))) then (bif inB x1 ((x0).length / 1) then ((x0[((Int.toNat x1)*1)]?).bind fun e3=>((oInt .i64 e3).bind fun n4=>(bif Nat.ble (((x2).length+1)*1) (140737488355328*1) then (L0 (spec_l5Pack.st0 x0 (IntKind.wrap .i64 (x1+(1:Int))) (x2++[(.int .u8 (IntKind.wrap .u8 (IntKind.wrap .i64 ((31:Int) - n4))))]:List T))) else none))) else none) else (bif inB x1 ((x0).length / 1) then ((x0[((Int.toNat x1)*1)]?).bind fun e5=>((oInt .i64 e5).bind fun n6=>(bif Nat.ble (((x2).length+1)*1) (140737488355328*1) then (L0 (spec_l5Pack.st0 x0 (IntKind.wrap .i64 (x1+(1:Int))) (x2++[(.int .u8 (IntKind.wrap .u8 (IntKind.wrap .i64 (n6+(1:Int)))))]:List T))) else none))) else none)))) else none) else some ((.sl 1 x2),[])):=by kernel_rfl
theorem spec_l5Pack.ev (n:Nat) (a0:List T):callK prog A H LIM n F.spec_l5Pack [(.sl 1 a0)]=(spec_l5Pack.at0 n n (spec_l5Pack.st0 a0 (0:Int) [])):=by kernel_rfl
def spec_l6Apply.st0 (x0:List T) (x1:List T) (x2:List T) (x3:Int) (x4:List T):St:=⟨[(0,(.one (.t (.rref [(.sl 1 x0),(.sl 1 x1)] 0)))),(1,(.one (.t (.sl 1 x2)))),(5,(.one (.obj 512))),(6,(.one (.t (.int .i64 x3))))],[(512,(.arr true true 1 x4))]⟩
noncomputable def spec_l6Apply.K0 (n:Nat):Ex→St→R:=ctxK prog A (H F.spec_l6Apply) LIM n [.block 0,.seq 0 (subCode [1,1,1] (bodyOf prog F.spec_l6Apply))] (endOf prog A F.spec_l6Apply)
noncomputable def spec_l6Apply.at0 (n:Nat) (m:Nat) (s:St):R:=loopAt prog A (H F.spec_l6Apply) LIM n 0 (subCode [1,1,0,1,0,0] (bodyOf prog F.spec_l6Apply)) (spec_l6Apply.K0 n) m s
noncomputable def spec_l6Apply.rd0 (n:Nat) (L0:St→R) (s:St):R:=roundK prog A (H F.spec_l6Apply) LIM n 0 (subCode [1,1,0,1,0,0] (bodyOf prog F.spec_l6Apply)) (spec_l6Apply.K0 n) L0 s
theorem spec_l6Apply.next0 (n:Nat) (m:Nat) (s:St):spec_l6Apply.at0 n (m+1) s=spec_l6Apply.rd0 n (spec_l6Apply.at0 n m) s:=loopAt_succ _ _ _ _ _ _ _ _ _ _
theorem spec_l6Apply.round0 (n:Nat) (L0:St→R) (x0:List T) (x1:List T) (x2:List T) (x3:Int) (x4:List T):spec_l6Apply.rd0 n L0 (spec_l6Apply.st0 x0 x1 x2 x3 x4)=(bif (decide (x3 < ((((x2).length / 1):Nat):Int))) then (bif inB x3 ((x2).length / 1) then ((x2[((Int.toNat x3)*1)]?).bind fun e1=>((oInt .i64 e1).bind fun n2=>(bif (decide (n2 < (0:Int))) then (bif inB x3 ((x2).length / 1) then ((x2[((Int.toNat x3)*1)]?).bind fun e3=>((oInt .i64 e3).bind fun n4=>((LIM F.spec_l6Term [(.rref [(.sl 1 x0),(.sl 1 x1)] 0),(.int .i64 (IntKind.wrap .i64 ((-1:Int) - n4)))]).bind fun r5=>((oNil r5.2).bind fun _=>((oSl 1 r5.1).bind fun c6=>(bif (c6).all T.scalar then (bif ((((((c6).length / 1):Nat):Int) == (0:Int))) then (bif inB x3 ((x2).length / 1) then ((x2[((Int.toNat x3)*1)]?).bind fun e7=>((oInt .i64 e7).bind fun n8=>(bif Nat.ble (((x4).length+1)*8) (140737488355328*1) then (L0 (spec_l6Apply.st0 x0 x1 x2 (IntKind.wrap .i64 (x3+(1:Int))) (x4++[(.int .i64 n8)]:List T))) else none))) else none) else (bif (c6).all T.scalar then (bif Nat.ble (((x4).length+(c6).length)*8) (140737488355328*1) then (L0 (spec_l6Apply.st0 x0 x1 x2 (IntKind.wrap .i64 (x3+(1:Int))) (x4++c6:List T))) else none) else none)) else none)))))) else none) else (bif inB x3 ((x2).length / 1) then ((x2[((Int.toNat x3)*1)]?).bind fun e9=>((oInt .i64 e9).bind fun n10=>(bif Nat.ble (((x4).length+1)*8) (140737488355328*1) then (L0 (spec_l6Apply.st0 x0 x1 x2 (IntKind.wrap .i64 (x3+(1:Int))) (x4++[(.int .i64 n10)]:List T))) else none))) else none)))) else none) else some ((.sl 1 x4),[])):=by kernel_rfl
theorem spec_l6Apply.ev (n:Nat) (a0_0:List T) (a0_1:List T) (a1:List T):callK prog A H LIM n F.spec_l6Apply [(.rref [(.sl 1 a0_0),(.sl 1 a0_1)] 0),(.sl 1 a1)]=(spec_l6Apply.at0 n n (spec_l6Apply.st0 a0_0 a0_1 a1 (0:Int) [])):=by kernel_rfl
def spec_l6Args.st0 (x0:List T) (x1:List T) (x2:List T) (x3:Int) (x4:Int) (x5:Int) (x6:List T):St:=⟨[(0,(.one (.t (.rref [(.sl 2 x0)] 0)))),(1,(.one (.t (.sl 1 x1)))),(2,(.one (.t (.sl 1 x2)))),(7,(.one (.obj 832))),(8,(.one (.t (.int .i64 x3)))),(9,(.one (.t (.int .i64 x4)))),(10,(.one (.t (.int .i64 x5))))],[(832,(.arr true true 2 x6))]⟩
noncomputable def spec_l6Args.K0 (n:Nat):Ex→St→R:=ctxK prog A (H F.spec_l6Args) LIM n [.block 0,.seq 0 (subCode [1,1,1,1,1] (bodyOf prog F.spec_l6Args))] (endOf prog A F.spec_l6Args)
noncomputable def spec_l6Args.at0 (n:Nat) (m:Nat) (s:St):R:=loopAt prog A (H F.spec_l6Args) LIM n 0 (subCode [1,1,1,1,0,1,0,0] (bodyOf prog F.spec_l6Args)) (spec_l6Args.K0 n) m s
noncomputable def spec_l6Args.rd0 (n:Nat) (L0:St→R) (s:St):R:=roundK prog A (H F.spec_l6Args) LIM n 0 (subCode [1,1,1,1,0,1,0,0] (bodyOf prog F.spec_l6Args)) (spec_l6Args.K0 n) L0 s
theorem spec_l6Args.next0 (n:Nat) (m:Nat) (s:St):spec_l6Args.at0 n (m+1) s=spec_l6Args.rd0 n (spec_l6Args.at0 n m) s:=loopAt_succ _ _ _ _ _ _ _ _ _ _
theorem spec_l6Args.round0 (n:Nat) (L0:St→R) (x0:List T) (x1:List T) (x2:List T) (x3:Int) (x4:Int) (x5:Int) (x6:List T):spec_l6Args.rd0 n L0 (spec_l6Args.st0 x0 x1 x2 x3 x4 x5 x6)=(bif inB (0:Int) ((x1).length / 1) then ((x1[0]?).bind fun e1=>((oInt .i64 e1).bind fun n2=>(bif inB n2 ((x0).length / 2) then ((x0[(((Int.toNat n2)*2)+1)]?).bind fun e3=>((oInt .i64 e3).bind fun n4=>(bif (decide (x5 < n4)) then ((LIM F.spec_l3Sub [(.rref [(.sl 2 x0)] 0),(.sl 1 x1),(.int .i64 x3)]).bind fun r5=>((oNil r5.2).bind fun _=>((oSl 1 r5.1).bind fun c6=>((LIM F.spec_l3Sub [(.rref [(.sl 2 x0)] 0),(.sl 1 x2),(.int .i64 x4)]).bind fun r7=>((oNil r7.2).bind fun _=>((oSl 1 r7.1).bind fun c8=>(bif Nat.ble (((x6).length+2)*48) (140737488355328*2) then (L0 (spec_l6Args.st0 x0 x1 x2 (IntKind.wrap .i64 (x3+((((c6).length / 1):Nat):Int))) (IntKind.wrap .i64 (x4+((((c8).length / 1):Nat):Int))) (IntKind.wrap .i64 (x5+(1:Int))) (x6++[(.sl 1 c6),(.sl 1 c8)]:List T))) else none))))))) else some ((.sl 2 x6),[])))) else none))) else none):=by kernel_rfl
theorem spec_l6Args.ev (n:Nat) (a0_0:List T) (a1:List T) (a2:List T):callK prog A H LIM n F.spec_l6Args [(.rref [(.sl 2 a0_0)] 0),(.sl 1 a1),(.sl 1 a2)]=(spec_l6Args.at0 n n (spec_l6Args.st0 a0_0 a1 a2 (1:Int) (1:Int) (0:Int) [])):=by kernel_rfl
def spec_l6Bind.st0 (x0:List T) (x1:List T) (x2:Int) (x3:List T) (x4:Int) (x5:List T) (x6:List T) (x7:List T) (x8:List T):St:=⟨[(0,(.one (.t (.rref [(.sl 1 x0),(.sl 1 x1)] 0)))),(1,(.one (.t (.int .i64 x2)))),(2,(.one (.t (.sl 1 x3)))),(6,(.one (.ptr 384 0))),(8,(.one (.ptr 512 0))),(9,(.one (.ptr 576 0))),(10,(.one (.t (.int .i64 x4))))],[(384,(.box [.nil,.nil])),(1216,(.arr true true 1 x5)),(1344,(.arr true false 1 x6)),(512,(.box [(.obj 1216),(.obj 1344)])),(1728,(.arr true true 1 x7)),(576,(.box [(.obj 1728),(.obj 519217)])),(519217,(.arr true true 1 x8))]⟩
noncomputable def spec_l6Bind.K0 (n:Nat):Ex→St→R:=ctxK prog A (H F.spec_l6Bind) LIM n [.block 0,.seq 0 (subCode [1,1,1,1,1] (bodyOf prog F.spec_l6Bind))] (endOf prog A F.spec_l6Bind)
noncomputable def spec_l6Bind.at0 (n:Nat) (m:Nat) (s:St):R:=loopAt prog A (H F.spec_l6Bind) LIM n 0 (subCode [1,1,1,1,0,1,0,0] (bodyOf prog F.spec_l6Bind)) (spec_l6Bind.K0 n) m s
noncomputable def spec_l6Bind.rd0 (n:Nat) (L0:St→R) (s:St):R:=roundK prog A (H F.spec_l6Bind) LIM n 0 (subCode [1,1,1,1,0,1,0,0] (bodyOf prog F.spec_l6Bind)) (spec_l6Bind.K0 n) L0 s
theorem spec_l6Bind.next0 (n:Nat) (m:Nat) (s:St):spec_l6Bind.at0 n (m+1) s=spec_l6Bind.rd0 n (spec_l6Bind.at0 n m) s:=loopAt_succ _ _ _ _ _ _ _ _ _ _
theorem spec_l6Bind.round0 (n:Nat) (L0:St→R) (x0:List T) (x1:List T) (x2:Int) (x3:List T) (x4:Int) (x5:List T) (x6:List T) (x7:List T) (x8:List T):spec_l6Bind.rd0 n L0 (spec_l6Bind.st0 x0 x1 x2 x3 x4 x5 x6 x7 x8)=(bif (decide (x4 < ((((x1).length / 1):Nat):Int))) then (bif inB x4 ((x1).length / 1) then ((x1[((Int.toNat x4)*1)]?).bind fun e5=>((oSl 1 e5).bind fun c6=>((LIM F.spec_l6Apply [(.rref [(.sl 1 x5),(.sl 1 x6)] 0),(.sl 1 c6)]).bind fun r7=>((oNil r7.2).bind fun _=>((oSl 1 r7.1).bind fun c8=>(bif (decide (((((c8).length / 1):Nat):Int) > (24:Int))) then some ((.tup [(.agg [(.sl 1 []),(.sl 1 [])]),(.int .i64 (2:Int))]),[]) else (bif Nat.ble (((x8).length+1)*24) (140737488355328*1) then (L0 (spec_l6Bind.st0 x0 x1 x2 x3 (IntKind.wrap .i64 (x4+(1:Int))) x5 x6 x7 (x8++[(.sl 1 c8)]:List T))) else none))))))) else none) else ((LIM F.spec_l6With [(.rref [(.sl 1 x7),(.sl 1 x8)] 0),(.int .i64 x2),(.sl 1 x3)]).bind fun r9=>((oNil r9.2).bind fun _=>((oAgg r9.1).bind fun c10=>((oCons c10).bind fun p11=>((oSl 1 p11.1).bind fun c12=>((oCons p11.2).bind fun p13=>((oSl 1 p13.1).bind fun c14=>((oNil p13.2).bind fun _=>some ((.tup [(.agg [(.sl 1 c12),(.sl 1 c14)]),(.int .i64 (0:Int))]),[])))))))))):=by kernel_rfl
theorem spec_l6Bind.ev (n:Nat) (a0_0:List T) (a0_1:List T) (a1:Int) (a2:List T):callK prog A H LIM n F.spec_l6Bind [(.rref [(.sl 1 a0_0),(.sl 1 a0_1)] 0),(.int .i64 a1),(.sl 1 a2)]=((LIM F.spec_l3Count [(.sl 1 a2),(.int .i64 (IntKind.wrap .i64 ((-1:Int) - a1)))]).bind fun r1=>((oNil r1.2).bind fun _=>((oInt .i64 r1.1).bind fun n2=>(bif (decide (n2 > (0:Int))) then some ((.tup [(.agg [(.sl 1 []),(.sl 1 [])]),(.int .i64 (4:Int))]),[]) else ((LIM F.spec_l1Ints [(.sl 1 a0_0)]).bind fun r3=>((oNil r3.2).bind fun _=>((oSl 1 r3.1).bind fun c4=>(spec_l6Bind.at0 n n (spec_l6Bind.st0 a0_0 a0_1 a1 a2 (0:Int) [(.int .i64 a1)] [(.sl 1 a2)] c4 []))))))))):=by kernel_rfl
def spec_l6Match.st0 (x0:List T) (x1:List T) (x2:List T) (x3:Int) (x4:Int) (x5:List T) (x6:List T):St:=⟨[(0,(.one (.t (.rref [(.sl 2 x0)] 0)))),(1,(.one (.t (.sl 1 x1)))),(2,(.one (.t (.sl 1 x2)))),(3,(.one (.t (.int .i64 x3)))),(8,(.one (.ptr 512 0))),(10,(.one (.ptr 640 0))),(11,(.one (.t (.int .i64 x4))))],[(512,(.box [.nil,.nil])),(640,(.box [(.obj 520240),(.obj 520241)])),(520240,(.arr true true 1 x5)),(520241,(.arr true true 1 x6))]⟩
noncomputable def spec_l6Match.K0 (n:Nat):Ex→St→R:=ctxK prog A (H F.spec_l6Match) LIM n [.block 0,.seq 0 (subCode [1,1,1] (bodyOf prog F.spec_l6Match))] (endOf prog A F.spec_l6Match)
noncomputable def spec_l6Match.at0 (n:Nat) (m:Nat) (s:St):R:=loopAt prog A (H F.spec_l6Match) LIM n 0 (subCode [1,1,0,1,0,0] (bodyOf prog F.spec_l6Match)) (spec_l6Match.K0 n) m s
noncomputable def spec_l6Match.rd0 (n:Nat) (L0:St→R) (s:St):R:=roundK prog A (H F.spec_l6Match) LIM n 0 (subCode [1,1,0,1,0,0] (bodyOf prog F.spec_l6Match)) (spec_l6Match.K0 n) L0 s
theorem spec_l6Match.next0 (n:Nat) (m:Nat) (s:St):spec_l6Match.at0 n (m+1) s=spec_l6Match.rd0 n (spec_l6Match.at0 n m) s:=loopAt_succ _ _ _ _ _ _ _ _ _ _
theorem spec_l6Match.round0 (n:Nat) (L0:St→R) (x0:List T) (x1:List T) (x2:List T) (x3:Int) (x4:Int) (x5:List T) (x6:List T):spec_l6Match.rd0 n L0 (spec_l6Match.st0 x0 x1 x2 x3 x4 x5 x6)=(bif (decide (x4 < ((((x1).length / 1):Nat):Int))) then (bif (decide (x3 ≥ ((((x2).length / 1):Nat):Int))) then some ((.tup [(.agg [(.sl 1 []),(.sl 1 [])]),(.bool false)]),[]) else (bif inB x4 ((x1).length / 1) then ((x1[((Int.toNat x4)*1)]?).bind fun e1=>((oInt .i64 e1).bind fun n2=>(bif (decide (n2 ≥ (0:Int))) then (bif inB x3 ((x2).length / 1) then ((x2[((Int.toNat x3)*1)]?).bind fun e3=>((oInt .i64 e3).bind fun n4=>(bif inB x4 ((x1).length / 1) then ((x1[((Int.toNat x4)*1)]?).bind fun e5=>((oInt .i64 e5).bind fun n6=>(bif ((n4 != n6)) then some ((.tup [(.agg [(.sl 1 []),(.sl 1 [])]),(.bool false)]),[]) else (L0 (spec_l6Match.st0 x0 x1 x2 (IntKind.wrap .i64 (x3+(1:Int))) (IntKind.wrap .i64 (x4+(1:Int))) x5 x6))))) else none))) else none) else ((LIM F.spec_l3Sub [(.rref [(.sl 2 x0)] 0),(.sl 1 x2),(.int .i64 x3)]).bind fun r7=>((oNil r7.2).bind fun _=>((oSl 1 r7.1).bind fun c8=>(bif inB x4 ((x1).length / 1) then ((x1[((Int.toNat x4)*1)]?).bind fun e9=>((oInt .i64 e9).bind fun n10=>((LIM F.spec_l6Term [(.rref [(.sl 1 x5),(.sl 1 x6)] 0),(.int .i64 (IntKind.wrap .i64 ((-1:Int) - n10)))]).bind fun r11=>((oNil r11.2).bind fun _=>((oSl 1 r11.1).bind fun c12=>(bif (c12).all T.scalar then (bif ((((((c12).length / 1):Nat):Int) == (0:Int))) then (bif inB x4 ((x1).length / 1) then ((x1[((Int.toNat x4)*1)]?).bind fun e13=>((oInt .i64 e13).bind fun n14=>((LIM F.spec_l6With [(.rref [(.sl 1 x5),(.sl 1 x6)] 0),(.int .i64 (IntKind.wrap .i64 ((-1:Int) - n14))),(.sl 1 c8)]).bind fun r15=>((oNil r15.2).bind fun _=>((oAgg r15.1).bind fun c16=>((oCons c16).bind fun p17=>((oSl 1 p17.1).bind fun c18=>((oCons p17.2).bind fun p19=>((oSl 1 p19.1).bind fun c20=>((oNil p19.2).bind fun _=>(L0 (spec_l6Match.st0 x0 x1 x2 (IntKind.wrap .i64 (x3+((((c8).length / 1):Nat):Int))) (IntKind.wrap .i64 (x4+(1:Int))) c18 c20)))))))))))) else none) else ((LIM F.spec_l1Same [(.sl 1 c12),(.sl 1 c8)]).bind fun r21=>((oNil r21.2).bind fun _=>((oBool r21.1).bind fun b22=>(bif (!b22) then some ((.tup [(.agg [(.sl 1 []),(.sl 1 [])]),(.bool false)]),[]) else (L0 (spec_l6Match.st0 x0 x1 x2 (IntKind.wrap .i64 (x3+((((c8).length / 1):Nat):Int))) (IntKind.wrap .i64 (x4+(1:Int))) x5 x6))))))) else none)))))) else none))))))) else none)) else some ((.tup [(.agg [(.sl 1 x5),(.sl 1 x6)]),(.bool true)]),[])):=by kernel_rfl
theorem spec_l6Match.ev (n:Nat) (a0_0:List T) (a1:List T) (a2:List T) (a3:Int):callK prog A H LIM n F.spec_l6Match [(.rref [(.sl 2 a0_0)] 0),(.sl 1 a1),(.sl 1 a2),(.int .i64 a3)]=(spec_l6Match.at0 n n (spec_l6Match.st0 a0_0 a1 a2 a3 (0:Int) [] [])):=by kernel_rfl
def spec_l6Shift.st0 (x0:List T) (x1:Int) (x2:Int) (x3:List T):St:=⟨[(0,(.one (.t (.sl 1 x0)))),(1,(.one (.t (.int .i64 x1)))),(5,(.one (.obj 448))),(6,(.one (.t (.int .i64 x2))))],[(448,(.arr true true 1 x3))]⟩
noncomputable def spec_l6Shift.K0 (n:Nat):Ex→St→R:=ctxK prog A (H F.spec_l6Shift) LIM n [.block 0,.seq 0 (subCode [1,1,1] (bodyOf prog F.spec_l6Shift))] (endOf prog A F.spec_l6Shift)
noncomputable def spec_l6Shift.at0 (n:Nat) (m:Nat) (s:St):R:=loopAt prog A (H F.spec_l6Shift) LIM n 0 (subCode [1,1,0,1,0,0] (bodyOf prog F.spec_l6Shift)) (spec_l6Shift.K0 n) m s
noncomputable def spec_l6Shift.rd0 (n:Nat) (L0:St→R) (s:St):R:=roundK prog A (H F.spec_l6Shift) LIM n 0 (subCode [1,1,0,1,0,0] (bodyOf prog F.spec_l6Shift)) (spec_l6Shift.K0 n) L0 s
theorem spec_l6Shift.next0 (n:Nat) (m:Nat) (s:St):spec_l6Shift.at0 n (m+1) s=spec_l6Shift.rd0 n (spec_l6Shift.at0 n m) s:=loopAt_succ _ _ _ _ _ _ _ _ _ _
theorem spec_l6Shift.round0 (n:Nat) (L0:St→R) (x0:List T) (x1:Int) (x2:Int) (x3:List T):spec_l6Shift.rd0 n L0 (spec_l6Shift.st0 x0 x1 x2 x3)=(bif (decide (x2 < ((((x0).length / 1):Nat):Int))) then (bif inB x2 ((x0).length / 1) then ((x0[((Int.toNat x2)*1)]?).bind fun e1=>((oInt .i64 e1).bind fun n2=>(bif (decide (n2 < (0:Int))) then (bif inB x2 ((x0).length / 1) then ((x0[((Int.toNat x2)*1)]?).bind fun e3=>((oInt .i64 e3).bind fun n4=>(bif Nat.ble (((x3).length+1)*8) (140737488355328*1) then (L0 (spec_l6Shift.st0 x0 x1 (IntKind.wrap .i64 (x2+(1:Int))) (x3++[(.int .i64 (IntKind.wrap .i64 (n4 - x1)))]:List T))) else none))) else none) else (bif inB x2 ((x0).length / 1) then ((x0[((Int.toNat x2)*1)]?).bind fun e5=>((oInt .i64 e5).bind fun n6=>(bif Nat.ble (((x3).length+1)*8) (140737488355328*1) then (L0 (spec_l6Shift.st0 x0 x1 (IntKind.wrap .i64 (x2+(1:Int))) (x3++[(.int .i64 n6)]:List T))) else none))) else none)))) else none) else some ((.sl 1 x3),[])):=by kernel_rfl
theorem spec_l6Shift.ev (n:Nat) (a0:List T) (a1:Int):callK prog A H LIM n F.spec_l6Shift [(.sl 1 a0),(.int .i64 a1)]=(spec_l6Shift.at0 n n (spec_l6Shift.st0 a0 a1 (0:Int) [])):=by kernel_rfl
def spec_l6Term.st0 (x0:List T) (x1:List T) (x2:Int) (x3:Int):St:=⟨[(0,(.one (.t (.rref [(.sl 1 x0),(.sl 1 x1)] 0)))),(1,(.one (.t (.int .i64 x2)))),(5,(.one (.t (.int .i64 x3))))],[]⟩
noncomputable def spec_l6Term.K0 (n:Nat):Ex→St→R:=ctxK prog A (H F.spec_l6Term) LIM n [.block 0,.seq 0 (subCode [1,1] (bodyOf prog F.spec_l6Term))] (endOf prog A F.spec_l6Term)
noncomputable def spec_l6Term.at0 (n:Nat) (m:Nat) (s:St):R:=loopAt prog A (H F.spec_l6Term) LIM n 0 (subCode [1,0,1,0,0] (bodyOf prog F.spec_l6Term)) (spec_l6Term.K0 n) m s
noncomputable def spec_l6Term.rd0 (n:Nat) (L0:St→R) (s:St):R:=roundK prog A (H F.spec_l6Term) LIM n 0 (subCode [1,0,1,0,0] (bodyOf prog F.spec_l6Term)) (spec_l6Term.K0 n) L0 s
theorem spec_l6Term.next0 (n:Nat) (m:Nat) (s:St):spec_l6Term.at0 n (m+1) s=spec_l6Term.rd0 n (spec_l6Term.at0 n m) s:=loopAt_succ _ _ _ _ _ _ _ _ _ _
theorem spec_l6Term.round0 (n:Nat) (L0:St→R) (x0:List T) (x1:List T) (x2:Int) (x3:Int):spec_l6Term.rd0 n L0 (spec_l6Term.st0 x0 x1 x2 x3)=(bif (decide (x3 < ((((x0).length / 1):Nat):Int))) then (bif inB x3 ((x0).length / 1) then ((x0[((Int.toNat x3)*1)]?).bind fun e1=>((oInt .i64 e1).bind fun n2=>(bif ((n2 == x2)) then (bif inB x3 ((x1).length / 1) then ((x1[((Int.toNat x3)*1)]?).bind fun e3=>((oSl 1 e3).bind fun c4=>some ((.sl 1 c4),[]))) else none) else (L0 (spec_l6Term.st0 x0 x1 x2 (IntKind.wrap .i64 (x3+(1:Int)))))))) else none) else some ((.sl 1 []),[])):=by kernel_rfl
theorem spec_l6Term.ev (n:Nat) (a0_0:List T) (a0_1:List T) (a1:Int):callK prog A H LIM n F.spec_l6Term [(.rref [(.sl 1 a0_0),(.sl 1 a0_1)] 0),(.int .i64 a1)]=(spec_l6Term.at0 n n (spec_l6Term.st0 a0_0 a0_1 a1 (0:Int))):=by kernel_rfl
def spec_l6Unify.st0 (x0:List T) (x1:List T) (x2:List T) (x3:List T):St:=⟨[(0,(.one (.t (.rref [(.sl 2 x0)] 0)))),(6,(.one (.ptr 384 0))),(8,(.one (.ptr 512 0))),(9,(.one (.t (.sl 2 x1))))],[(384,(.box [.nil,.nil])),(512,(.box [(.obj 518192),(.obj 518193)])),(518192,(.arr true true 1 x2)),(518193,(.arr true true 1 x3))]⟩
noncomputable def spec_l6Unify.K0 (n:Nat):Ex→St→R:=ctxK prog A (H F.spec_l6Unify) LIM n [.block 0,.seq 0 (subCode [1,1,1,1] (bodyOf prog F.spec_l6Unify))] (endOf prog A F.spec_l6Unify)
noncomputable def spec_l6Unify.at0 (n:Nat) (m:Nat) (s:St):R:=loopAt prog A (H F.spec_l6Unify) LIM n 0 (subCode [1,1,1,0,0,0] (bodyOf prog F.spec_l6Unify)) (spec_l6Unify.K0 n) m s
noncomputable def spec_l6Unify.rd0 (n:Nat) (L0:St→R) (s:St):R:=roundK prog A (H F.spec_l6Unify) LIM n 0 (subCode [1,1,1,0,0,0] (bodyOf prog F.spec_l6Unify)) (spec_l6Unify.K0 n) L0 s
theorem spec_l6Unify.next0 (n:Nat) (m:Nat) (s:St):spec_l6Unify.at0 n (m+1) s=spec_l6Unify.rd0 n (spec_l6Unify.at0 n m) s:=loopAt_succ _ _ _ _ _ _ _ _ _ _
theorem spec_l6Unify.round0 (n:Nat) (L0:St→R) (x0:List T) (x1:List T) (x2:List T) (x3:List T):spec_l6Unify.rd0 n L0 (spec_l6Unify.st0 x0 x1 x2 x3)=(bif (decide (((((x1).length / 2):Nat):Int) > (0:Int))) then (bif inB (0:Int) ((x1).length / 2) then ((x1[0]?).bind fun e5=>((oSl 1 e5).bind fun c6=>((LIM F.spec_l6Apply [(.rref [(.sl 1 x2),(.sl 1 x3)] 0),(.sl 1 c6)]).bind fun r7=>((oNil r7.2).bind fun _=>((oSl 1 r7.1).bind fun c8=>(bif inB (0:Int) ((x1).length / 2) then ((x1[1]?).bind fun e9=>((oSl 1 e9).bind fun c10=>((LIM F.spec_l6Apply [(.rref [(.sl 1 x2),(.sl 1 x3)] 0),(.sl 1 c10)]).bind fun r11=>((oNil r11.2).bind fun _=>((oSl 1 r11.1).bind fun c12=>(bif decide (0≤(1:Int))&&decide ((1:Int)≤((((x1).length / 2):Nat):Int))&&decide (((((x1).length / 2):Nat):Int)≤((((x1).length / 2):Nat):Int)) then (bif (decide (((((c8).length / 1):Nat):Int) > (24:Int))) then some ((.tup [(.agg [(.sl 1 []),(.sl 1 [])]),(.int .i64 (2:Int))]),[]) else (bif (decide (((((c12).length / 1):Nat):Int) > (24:Int))) then some ((.tup [(.agg [(.sl 1 []),(.sl 1 [])]),(.int .i64 (2:Int))]),[]) else ((LIM F.spec_l1Same [(.sl 1 c8),(.sl 1 c12)]).bind fun r13=>((oNil r13.2).bind fun _=>((oBool r13.1).bind fun b14=>(bif b14 then (L0 (spec_l6Unify.st0 x0 ((x1.take ((Int.toNat ((((x1).length / 2):Nat):Int))*2)).drop (1*2)) x2 x3)) else (bif inB (0:Int) ((c8).length / 1) then ((c8[0]?).bind fun e15=>((oInt .i64 e15).bind fun n16=>(bif (decide (n16 < (0:Int))) then (bif inB (0:Int) ((c8).length / 1) then ((c8[0]?).bind fun e17=>((oInt .i64 e17).bind fun n18=>((LIM F.spec_l6Bind [(.rref [(.sl 1 x2),(.sl 1 x3)] 0),(.int .i64 (IntKind.wrap .i64 ((-1:Int) - n18))),(.sl 1 c12)]).bind fun r19=>((oNil r19.2).bind fun _=>((oTup r19.1).bind fun c20=>((oCons c20).bind fun p21=>((oAgg p21.1).bind fun c22=>((oCons c22).bind fun p23=>((oSl 1 p23.1).bind fun c24=>((oCons p23.2).bind fun p25=>((oSl 1 p25.1).bind fun c26=>((oNil p25.2).bind fun _=>((oCons p21.2).bind fun p27=>((oInt .i64 p27.1).bind fun n28=>((oNil p27.2).bind fun _=>(bif ((n28 != (0:Int))) then some ((.tup [(.agg [(.sl 1 []),(.sl 1 [])]),(.int .i64 n28)]),[]) else (L0 (spec_l6Unify.st0 x0 ((x1.take ((Int.toNat ((((x1).length / 2):Nat):Int))*2)).drop (1*2)) c24 c26)))))))))))))))))) else none) else (bif inB (0:Int) ((c12).length / 1) then ((c12[0]?).bind fun e29=>((oInt .i64 e29).bind fun n30=>(bif (decide (n30 < (0:Int))) then (bif inB (0:Int) ((c12).length / 1) then ((c12[0]?).bind fun e31=>((oInt .i64 e31).bind fun n32=>((LIM F.spec_l6Bind [(.rref [(.sl 1 x2),(.sl 1 x3)] 0),(.int .i64 (IntKind.wrap .i64 ((-1:Int) - n32))),(.sl 1 c8)]).bind fun r33=>((oNil r33.2).bind fun _=>((oTup r33.1).bind fun c34=>((oCons c34).bind fun p35=>((oAgg p35.1).bind fun c36=>((oCons c36).bind fun p37=>((oSl 1 p37.1).bind fun c38=>((oCons p37.2).bind fun p39=>((oSl 1 p39.1).bind fun c40=>((oNil p39.2).bind fun _=>((oCons p35.2).bind fun p41=>((oInt .i64 p41.1).bind fun n42=>((oNil p41.2).bind fun _=>(bif ((n42 != (0:Int))) then some ((.tup [(.agg [(.sl 1 []),(.sl 1 [])]),(.int .i64 n42)]),[]) else (L0 (spec_l6Unify.st0 x0 ((x1.take ((Int.toNat ((((x1).length / 2):Nat):Int))*2)).drop (1*2)) c38 c40)))))))))))))))))) else none) else (bif inB (0:Int) ((c8).length / 1) then ((c8[0]?).bind fun e43=>((oInt .i64 e43).bind fun n44=>(bif inB (0:Int) ((c12).length / 1) then ((c12[0]?).bind fun e45=>((oInt .i64 e45).bind fun n46=>(bif ((n44 != n46)) then some ((.tup [(.agg [(.sl 1 []),(.sl 1 [])]),(.int .i64 (4:Int))]),[]) else ((LIM F.spec_l6Args [(.rref [(.sl 2 x0)] 0),(.sl 1 c8),(.sl 1 c12)]).bind fun r47=>((oNil r47.2).bind fun _=>((oSl 2 r47.1).bind fun c48=>(bif Nat.ble (((c48).length+(((x1.take ((Int.toNat ((((x1).length / 2):Nat):Int))*2)).drop (1*2))).length)*48) (140737488355328*2) then (L0 (spec_l6Unify.st0 x0 (c48++((x1.take ((Int.toNat ((((x1).length / 2):Nat):Int))*2)).drop (1*2)):List T) x2 x3)) else none))))))) else none))) else none)))) else none)))) else none))))))) else none)))))) else none)))))) else none) else some ((.tup [(.agg [(.sl 1 x2),(.sl 1 x3)]),(.int .i64 (0:Int))]),[])):=by kernel_rfl
theorem spec_l6Unify.ev (n:Nat) (a0_0:List T) (a1:List T) (a2:List T):callK prog A H LIM n F.spec_l6Unify [(.rref [(.sl 2 a0_0)] 0),(.sl 1 a1),(.sl 1 a2)]=((LIM F.spec_l1Ints [(.sl 1 a1)]).bind fun r1=>((oNil r1.2).bind fun _=>((oSl 1 r1.1).bind fun c2=>((LIM F.spec_l1Ints [(.sl 1 a2)]).bind fun r3=>((oNil r3.2).bind fun _=>((oSl 1 r3.1).bind fun c4=>(spec_l6Unify.at0 n n (spec_l6Unify.st0 a0_0 [(.sl 1 c2),(.sl 1 c4)] [] [])))))))):=by kernel_rfl
def spec_l6With.st0 (x0:List T) (x1:List T) (x2:Int) (x3:List T) (x4:Bool) (x5:Int) (x6:List T) (x7:List T):St:=⟨[(0,(.one (.t (.rref [(.sl 1 x0),(.sl 1 x1)] 0)))),(1,(.one (.t (.int .i64 x2)))),(2,(.one (.t (.sl 1 x3)))),(6,(.one (.ptr 384 0))),(7,(.one (.ptr 448 0))),(8,(.one (.t (.bool x4)))),(9,(.one (.t (.int .i64 x5))))],[(384,(.box [.nil,.nil])),(448,(.box [(.obj 517168),(.obj 517169)])),(517168,(.arr true true 1 x6)),(517169,(.arr true true 1 x7))]⟩
noncomputable def spec_l6With.K0 (n:Nat):Ex→St→R:=ctxK prog A (H F.spec_l6With) LIM n [.block 0,.seq 0 (subCode [1,1,1,1] (bodyOf prog F.spec_l6With))] (endOf prog A F.spec_l6With)
noncomputable def spec_l6With.at0 (n:Nat) (m:Nat) (s:St):R:=loopAt prog A (H F.spec_l6With) LIM n 0 (subCode [1,1,1,0,1,0,0] (bodyOf prog F.spec_l6With)) (spec_l6With.K0 n) m s
noncomputable def spec_l6With.rd0 (n:Nat) (L0:St→R) (s:St):R:=roundK prog A (H F.spec_l6With) LIM n 0 (subCode [1,1,1,0,1,0,0] (bodyOf prog F.spec_l6With)) (spec_l6With.K0 n) L0 s
theorem spec_l6With.next0 (n:Nat) (m:Nat) (s:St):spec_l6With.at0 n (m+1) s=spec_l6With.rd0 n (spec_l6With.at0 n m) s:=loopAt_succ _ _ _ _ _ _ _ _ _ _
theorem spec_l6With.round0 (n:Nat) (L0:St→R) (x0:List T) (x1:List T) (x2:Int) (x3:List T) (x4:Bool) (x5:Int) (x6:List T) (x7:List T):spec_l6With.rd0 n L0 (spec_l6With.st0 x0 x1 x2 x3 x4 x5 x6 x7)=(bif (decide (x5 < ((((x0).length / 1):Nat):Int))) then (bif (!x4) then (bif inB x5 ((x0).length / 1) then ((x0[((Int.toNat x5)*1)]?).bind fun e1=>((oInt .i64 e1).bind fun n2=>(bif (decide (n2 > x2)) then (bif Nat.ble (((x6).length+1)*8) (140737488355328*1) then ((LIM F.spec_l1Ints [(.sl 1 x3)]).bind fun r3=>((oNil r3.2).bind fun _=>((oSl 1 r3.1).bind fun c4=>(bif Nat.ble (((x7).length+1)*24) (140737488355328*1) then (bif inB x5 ((x0).length / 1) then ((x0[((Int.toNat x5)*1)]?).bind fun e5=>((oInt .i64 e5).bind fun n6=>(bif Nat.ble ((((x6++[(.int .i64 x2)]:List T)).length+1)*8) (140737488355328*1) then (bif inB x5 ((x1).length / 1) then ((x1[((Int.toNat x5)*1)]?).bind fun e7=>((oSl 1 e7).bind fun c8=>((LIM F.spec_l1Ints [(.sl 1 c8)]).bind fun r9=>((oNil r9.2).bind fun _=>((oSl 1 r9.1).bind fun c10=>(bif Nat.ble ((((x7++[(.sl 1 c4)]:List T)).length+1)*24) (140737488355328*1) then (L0 (spec_l6With.st0 x0 x1 x2 x3 true (IntKind.wrap .i64 (x5+(1:Int))) ((x6++[(.int .i64 x2)]:List T)++[(.int .i64 n6)]:List T) ((x7++[(.sl 1 c4)]:List T)++[(.sl 1 c10)]:List T))) else none)))))) else none) else none))) else none) else none)))) else none) else (bif inB x5 ((x0).length / 1) then ((x0[((Int.toNat x5)*1)]?).bind fun e11=>((oInt .i64 e11).bind fun n12=>(bif Nat.ble (((x6).length+1)*8) (140737488355328*1) then (bif inB x5 ((x1).length / 1) then ((x1[((Int.toNat x5)*1)]?).bind fun e13=>((oSl 1 e13).bind fun c14=>((LIM F.spec_l1Ints [(.sl 1 c14)]).bind fun r15=>((oNil r15.2).bind fun _=>((oSl 1 r15.1).bind fun c16=>(bif Nat.ble (((x7).length+1)*24) (140737488355328*1) then (L0 (spec_l6With.st0 x0 x1 x2 x3 x4 (IntKind.wrap .i64 (x5+(1:Int))) (x6++[(.int .i64 n12)]:List T) (x7++[(.sl 1 c16)]:List T))) else none)))))) else none) else none))) else none)))) else none) else (bif inB x5 ((x0).length / 1) then ((x0[((Int.toNat x5)*1)]?).bind fun e17=>((oInt .i64 e17).bind fun n18=>(bif Nat.ble (((x6).length+1)*8) (140737488355328*1) then (bif inB x5 ((x1).length / 1) then ((x1[((Int.toNat x5)*1)]?).bind fun e19=>((oSl 1 e19).bind fun c20=>((LIM F.spec_l1Ints [(.sl 1 c20)]).bind fun r21=>((oNil r21.2).bind fun _=>((oSl 1 r21.1).bind fun c22=>(bif Nat.ble (((x7).length+1)*24) (140737488355328*1) then (L0 (spec_l6With.st0 x0 x1 x2 x3 x4 (IntKind.wrap .i64 (x5+(1:Int))) (x6++[(.int .i64 n18)]:List T) (x7++[(.sl 1 c22)]:List T))) else none)))))) else none) else none))) else none)) else (bif (!x4) then (bif Nat.ble (((x6).length+1)*8) (140737488355328*1) then ((LIM F.spec_l1Ints [(.sl 1 x3)]).bind fun r23=>((oNil r23.2).bind fun _=>((oSl 1 r23.1).bind fun c24=>(bif Nat.ble (((x7).length+1)*24) (140737488355328*1) then some ((.agg [(.sl 1 (x6++[(.int .i64 x2)]:List T)),(.sl 1 (x7++[(.sl 1 c24)]:List T))]),[]) else none)))) else none) else some ((.agg [(.sl 1 x6),(.sl 1 x7)]),[]))):=by kernel_rfl
theorem spec_l6With.ev (n:Nat) (a0_0:List T) (a0_1:List T) (a1:Int) (a2:List T):callK prog A H LIM n F.spec_l6With [(.rref [(.sl 1 a0_0),(.sl 1 a0_1)] 0),(.int .i64 a1),(.sl 1 a2)]=(spec_l6With.at0 n n (spec_l6With.st0 a0_0 a0_1 a1 a2 false (0:Int) [] [])):=by kernel_rfl
def spec_l7Cell.st4 (x0:List T) (x1:List T) (x2:List T) (x3:List T) (x4:Int) (x5:Int) (x6:List T) (x7:List T):St:=⟨[(0,(.one (.t (.rref [(.sl 2 x0)] 0)))),(2,(.one (.t (.sl 1 x1)))),(3,(.one (.t (.sl 1 x2)))),(6,(.one (.t (.sl 1 x3)))),(15,(.one (.t (.int .i64 x4)))),(16,(.one (.obj 3584))),(18,(.one (.obj 6464))),(20,(.one (.t (.int .i64 x5))))],[(3584,(.arr true true 1 x6)),(6464,(.arr true true 1 x7))]⟩
def spec_l7Cell.st2 (x0:List T) (x1:List T) (x2:List T) (x3:Int) (x4:Int) (x5:List T) (x6:Int) (x7:Int) (x8:List T) (x9:List T):St:=⟨[(0,(.one (.t (.rref [(.sl 2 x0)] 0)))),(2,(.one (.t (.sl 1 x1)))),(3,(.one (.t (.sl 1 x2)))),(4,(.one (.t (.int .i64 x3)))),(5,(.one (.t (.int .i64 x4)))),(6,(.one (.t (.sl 1 x5)))),(15,(.one (.t (.int .i64 x6)))),(16,(.one (.obj 3584))),(18,(.one (.obj 6464))),(19,(.one (.t (.int .i64 x7))))],[(3584,(.arr true true 1 x8)),(6464,(.arr true true 1 x9))]⟩
def spec_l7Cell.st0 (x0:List T) (x1:List T) (x2:List T) (x3:List T) (x4:Int) (x5:Int) (x6:List T) (x7:Int) (x8:Int) (x9:List T):St:=⟨[(0,(.one (.t (.rref [(.sl 2 x0)] 0)))),(1,(.one (.t (.sl 1 x1)))),(2,(.one (.t (.sl 1 x2)))),(3,(.one (.t (.sl 1 x3)))),(4,(.one (.t (.int .i64 x4)))),(5,(.one (.t (.int .i64 x5)))),(6,(.one (.t (.sl 1 x6)))),(15,(.one (.t (.int .i64 x7)))),(16,(.one (.obj 3584))),(17,(.one (.t (.int .i64 x8))))],[(3584,(.arr true true 1 x9))]⟩
noncomputable def spec_l7Cell.K0 (n:Nat):Ex→St→R:=ctxK prog A (H F.spec_l7Cell) LIM n [.block 0,.seq 0 (subCode [1,1,1,1,1,1] (bodyOf prog F.spec_l7Cell))] (endOf prog A F.spec_l7Cell)
noncomputable def spec_l7Cell.at0 (n:Nat) (m:Nat) (s:St):R:=loopAt prog A (H F.spec_l7Cell) LIM n 0 (subCode [1,1,1,1,1,0,1,0,0] (bodyOf prog F.spec_l7Cell)) (spec_l7Cell.K0 n) m s
noncomputable def spec_l7Cell.rd0 (n:Nat) (L0:St→R) (s:St):R:=roundK prog A (H F.spec_l7Cell) LIM n 0 (subCode [1,1,1,1,1,0,1,0,0] (bodyOf prog F.spec_l7Cell)) (spec_l7Cell.K0 n) L0 s
theorem spec_l7Cell.next0 (n:Nat) (m:Nat) (s:St):spec_l7Cell.at0 n (m+1) s=spec_l7Cell.rd0 n (spec_l7Cell.at0 n m) s:=loopAt_succ _ _ _ _ _ _ _ _ _ _
noncomputable def spec_l7Cell.K2 (n:Nat):Ex→St→R:=ctxK prog A (H F.spec_l7Cell) LIM n [.block 2,.seq 0 (subCode [1,1,1,1,1,1,1,1,1] (bodyOf prog F.spec_l7Cell))] (endOf prog A F.spec_l7Cell)
noncomputable def spec_l7Cell.at2 (n:Nat) (m:Nat) (s:St):R:=loopAt prog A (H F.spec_l7Cell) LIM n 2 (subCode [1,1,1,1,1,1,1,1,0,1,0,0] (bodyOf prog F.spec_l7Cell)) (spec_l7Cell.K2 n) m s
noncomputable def spec_l7Cell.rd2 (n:Nat) (L2:St→R) (s:St):R:=roundK prog A (H F.spec_l7Cell) LIM n 2 (subCode [1,1,1,1,1,1,1,1,0,1,0,0] (bodyOf prog F.spec_l7Cell)) (spec_l7Cell.K2 n) L2 s
theorem spec_l7Cell.next2 (n:Nat) (m:Nat) (s:St):spec_l7Cell.at2 n (m+1) s=spec_l7Cell.rd2 n (spec_l7Cell.at2 n m) s:=loopAt_succ _ _ _ _ _ _ _ _ _ _
noncomputable def spec_l7Cell.K4 (n:Nat):Ex→St→R:=ctxK prog A (H F.spec_l7Cell) LIM n [.block 4,.seq 0 (subCode [1,1,1,1,1,1,1,1,1,1,1] (bodyOf prog F.spec_l7Cell))] (endOf prog A F.spec_l7Cell)
noncomputable def spec_l7Cell.at4 (n:Nat) (m:Nat) (s:St):R:=loopAt prog A (H F.spec_l7Cell) LIM n 4 (subCode [1,1,1,1,1,1,1,1,1,1,0,1,0,0] (bodyOf prog F.spec_l7Cell)) (spec_l7Cell.K4 n) m s
noncomputable def spec_l7Cell.rd4 (n:Nat) (L4:St→R) (s:St):R:=roundK prog A (H F.spec_l7Cell) LIM n 4 (subCode [1,1,1,1,1,1,1,1,1,1,0,1,0,0] (bodyOf prog F.spec_l7Cell)) (spec_l7Cell.K4 n) L4 s
theorem spec_l7Cell.next4 (n:Nat) (m:Nat) (s:St):spec_l7Cell.at4 n (m+1) s=spec_l7Cell.rd4 n (spec_l7Cell.at4 n m) s:=loopAt_succ _ _ _ _ _ _ _ _ _ _
theorem spec_l7Cell.round0 (n:Nat) (L0:St→R) (x0:List T) (x1:List T) (x2:List T) (x3:List T) (x4:Int) (x5:Int) (x6:List T) (x7:Int) (x8:Int) (x9:List T):spec_l7Cell.rd0 n L0 (spec_l7Cell.st0 x0 x1 x2 x3 x4 x5 x6 x7 x8 x9)=(bif (decide (x8 < ((((x9).length / 1):Nat):Int))) then (bif inB x8 ((x9).length / 1) then ((x9[((Int.toNat x8)*1)]?).bind fun e15=>((oInt .i64 e15).bind fun n16=>(bif inB (IntKind.wrap .i64 ((IntKind.wrap .i64 (n16*x7))+x5)) ((x6).length / 1) then ((x6[((Int.toNat (IntKind.wrap .i64 ((IntKind.wrap .i64 (n16*x7))+x5)))*1)]?).bind fun e17=>((oBool e17).bind fun b18=>(bif b18 then some ((.bool true),[]) else (bif inB x8 ((x9).length / 1) then ((x9[((Int.toNat x8)*1)]?).bind fun e19=>((oInt .i64 e19).bind fun n20=>((LIM F.spec_l7Equal [(.rref [(.sl 2 x0)] 0),(.sl 1 x2),(.int .i64 n20),(.sl 1 x3),(.int .i64 x5)]).bind fun r21=>((oNil r21.2).bind fun _=>((oBool r21.1).bind fun b22=>(bif b22 then some ((.bool true),[]) else (L0 (spec_l7Cell.st0 x0 x1 x2 x3 x4 x5 x6 x7 (IntKind.wrap .i64 (x8+(1:Int))) x9)))))))) else none)))) else none))) else none) else (bif inB x4 ((x2).length / 1) then ((x2[((Int.toNat x4)*1)]?).bind fun e23=>((oInt .i64 e23).bind fun n24=>((LIM F.spec_l2Rank [(.sl 1 x1),(.int .i64 n24)]).bind fun r25=>((oNil r25.2).bind fun _=>((oInt .i64 r25.1).bind fun n26=>(bif inB x5 ((x3).length / 1) then ((x3[((Int.toNat x5)*1)]?).bind fun e27=>((oInt .i64 e27).bind fun n28=>((LIM F.spec_l2Rank [(.sl 1 x1),(.int .i64 n28)]).bind fun r29=>((oNil r29.2).bind fun _=>((oInt .i64 r29.1).bind fun n30=>(bif (decide (n26 < n30)) then some ((.bool false),[]) else ((LIM F.spec_l7Starts [(.rref [(.sl 2 x0)] 0),(.sl 1 x3),(.int .i64 x5)]).bind fun r31=>((oNil r31.2).bind fun _=>((oSl 1 r31.1).bind fun c32=>(spec_l7Cell.at2 n n (spec_l7Cell.st2 x0 x2 x3 x4 x5 x6 x7 (0:Int) x9 c32))))))))))) else none)))))) else none)):=by kernel_rfl
theorem spec_l7Cell.round2 (n:Nat) (L2:St→R) (x0:List T) (x1:List T) (x2:List T) (x3:Int) (x4:Int) (x5:List T) (x6:Int) (x7:Int) (x8:List T) (x9:List T):spec_l7Cell.rd2 n L2 (spec_l7Cell.st2 x0 x1 x2 x3 x4 x5 x6 x7 x8 x9)=(bif (decide (x7 < ((((x9).length / 1):Nat):Int))) then (bif inB x7 ((x9).length / 1) then ((x9[((Int.toNat x7)*1)]?).bind fun e33=>((oInt .i64 e33).bind fun n34=>(bif inB (IntKind.wrap .i64 ((IntKind.wrap .i64 (x3*x6))+n34)) ((x5).length / 1) then ((x5[((Int.toNat (IntKind.wrap .i64 ((IntKind.wrap .i64 (x3*x6))+n34)))*1)]?).bind fun e35=>((oBool e35).bind fun b36=>(bif (!b36) then some ((.bool false),[]) else (L2 (spec_l7Cell.st2 x0 x1 x2 x3 x4 x5 x6 (IntKind.wrap .i64 (x7+(1:Int))) x8 x9))))) else none))) else none) else (bif inB x3 ((x1).length / 1) then ((x1[((Int.toNat x3)*1)]?).bind fun e37=>((oInt .i64 e37).bind fun n38=>(bif inB x4 ((x2).length / 1) then ((x2[((Int.toNat x4)*1)]?).bind fun e39=>((oInt .i64 e39).bind fun n40=>(bif ((n38 != n40)) then some ((.bool true),[]) else (spec_l7Cell.at4 n n (spec_l7Cell.st4 x0 x1 x2 x5 x6 (0:Int) x8 x9))))) else none))) else none)):=by kernel_rfl
theorem spec_l7Cell.round4 (n:Nat) (L4:St→R) (x0:List T) (x1:List T) (x2:List T) (x3:List T) (x4:Int) (x5:Int) (x6:List T) (x7:List T):spec_l7Cell.rd4 n L4 (spec_l7Cell.st4 x0 x1 x2 x3 x4 x5 x6 x7)=(bif (decide (x5 < ((((x6).length / 1):Nat):Int))) then (bif (decide (x5 < ((((x7).length / 1):Nat):Int))) then (bif inB x5 ((x6).length / 1) then ((x6[((Int.toNat x5)*1)]?).bind fun e41=>((oInt .i64 e41).bind fun n42=>(bif inB x5 ((x7).length / 1) then ((x7[((Int.toNat x5)*1)]?).bind fun e43=>((oInt .i64 e43).bind fun n44=>((LIM F.spec_l7Equal [(.rref [(.sl 2 x0)] 0),(.sl 1 x1),(.int .i64 n42),(.sl 1 x2),(.int .i64 n44)]).bind fun r45=>((oNil r45.2).bind fun _=>((oBool r45.1).bind fun b46=>(bif (!b46) then (bif inB x5 ((x6).length / 1) then ((x6[((Int.toNat x5)*1)]?).bind fun e47=>((oInt .i64 e47).bind fun n48=>(bif inB x5 ((x7).length / 1) then ((x7[((Int.toNat x5)*1)]?).bind fun e49=>((oInt .i64 e49).bind fun n50=>(bif inB (IntKind.wrap .i64 ((IntKind.wrap .i64 (n48*x4))+n50)) ((x3).length / 1) then ((x3[((Int.toNat (IntKind.wrap .i64 ((IntKind.wrap .i64 (n48*x4))+n50)))*1)]?).bind fun e51=>((oBool e51).bind fun b52=>some ((.bool b52),[]))) else none))) else none))) else none) else (L4 (spec_l7Cell.st4 x0 x1 x2 x3 x4 (IntKind.wrap .i64 (x5+(1:Int))) x6 x7)))))))) else none))) else none) else some ((.bool false),[])) else some ((.bool false),[])):=by kernel_rfl
theorem spec_l7Cell.ev (n:Nat) (a0_0:List T) (a1:List T) (a2:List T) (a3:List T) (a4:Int) (a5:Int) (a6:List T):callK prog A H LIM n F.spec_l7Cell [(.rref [(.sl 2 a0_0)] 0),(.sl 1 a1),(.sl 1 a2),(.sl 1 a3),(.int .i64 a4),(.int .i64 a5),(.sl 1 a6)]=(bif inB a5 ((a3).length / 1) then ((a3[((Int.toNat a5)*1)]?).bind fun e1=>((oInt .i64 e1).bind fun n2=>(bif (decide (n2 < (0:Int))) then (bif inB a4 ((a2).length / 1) then ((a2[((Int.toNat a4)*1)]?).bind fun e3=>((oInt .i64 e3).bind fun n4=>(bif (decide (n4 ≥ (0:Int))) then ((LIM F.spec_l3End [(.rref [(.sl 2 a0_0)] 0),(.sl 1 a2),(.int .i64 a4)]).bind fun r5=>((oNil r5.2).bind fun _=>((oInt .i64 r5.1).bind fun n6=>(bif decide (0≤a4)&&decide (a4≤n6)&&decide (n6≤((((a2).length / 1):Nat):Int)) then (bif inB a5 ((a3).length / 1) then ((a3[((Int.toNat a5)*1)]?).bind fun e7=>((oInt .i64 e7).bind fun n8=>((LIM F.spec_l3Count [(.sl 1 ((a2.take ((Int.toNat n6)*1)).drop ((Int.toNat a4)*1))),(.int .i64 n8)]).bind fun r9=>((oNil r9.2).bind fun _=>((oInt .i64 r9.1).bind fun n10=>some ((.bool (decide (n10 > (0:Int)))),[])))))) else none) else none)))) else some ((.bool false),[])))) else none) else (bif inB a4 ((a2).length / 1) then ((a2[((Int.toNat a4)*1)]?).bind fun e11=>((oInt .i64 e11).bind fun n12=>(bif (decide (n12 < (0:Int))) then some ((.bool false),[]) else ((LIM F.spec_l7Starts [(.rref [(.sl 2 a0_0)] 0),(.sl 1 a2),(.int .i64 a4)]).bind fun r13=>((oNil r13.2).bind fun _=>((oSl 1 r13.1).bind fun c14=>(spec_l7Cell.at0 n n (spec_l7Cell.st0 a0_0 a1 a2 a3 a4 a5 a6 ((((a3).length / 1):Nat):Int) (0:Int) c14)))))))) else none)))) else none):=by kernel_rfl
theorem spec_l7Equal.ev (n:Nat) (a0_0:List T) (a1:List T) (a2:Int) (a3:List T) (a4:Int):callK prog A H LIM n F.spec_l7Equal [(.rref [(.sl 2 a0_0)] 0),(.sl 1 a1),(.int .i64 a2),(.sl 1 a3),(.int .i64 a4)]=((LIM F.spec_l3End [(.rref [(.sl 2 a0_0)] 0),(.sl 1 a1),(.int .i64 a2)]).bind fun r1=>((oNil r1.2).bind fun _=>((oInt .i64 r1.1).bind fun n2=>(bif decide (0≤a2)&&decide (a2≤n2)&&decide (n2≤((((a1).length / 1):Nat):Int)) then ((LIM F.spec_l3End [(.rref [(.sl 2 a0_0)] 0),(.sl 1 a3),(.int .i64 a4)]).bind fun r3=>((oNil r3.2).bind fun _=>((oInt .i64 r3.1).bind fun n4=>(bif decide (0≤a4)&&decide (a4≤n4)&&decide (n4≤((((a3).length / 1):Nat):Int)) then ((LIM F.spec_l1Same [(.sl 1 ((a1.take ((Int.toNat n2)*1)).drop ((Int.toNat a2)*1))),(.sl 1 ((a3.take ((Int.toNat n4)*1)).drop ((Int.toNat a4)*1)))]).bind fun r5=>((oNil r5.2).bind fun _=>((oBool r5.1).bind fun b6=>some ((.bool b6),[])))) else none)))) else none)))):=by kernel_rfl
def spec_l7Falls.st0 (x0:List T) (x1:List T) (x2:List T) (x3:Int):St:=⟨[(0,(.one (.t (.rref [(.sl 2 x0)] 0)))),(1,(.one (.t (.sl 1 x1)))),(2,(.one (.t (.sl 2 x2)))),(7,(.one (.t (.int .i64 x3))))],[]⟩
noncomputable def spec_l7Falls.K0 (n:Nat):Ex→St→R:=ctxK prog A (H F.spec_l7Falls) LIM n [.block 0,.seq 0 (subCode [1,1] (bodyOf prog F.spec_l7Falls))] (endOf prog A F.spec_l7Falls)
noncomputable def spec_l7Falls.at0 (n:Nat) (m:Nat) (s:St):R:=loopAt prog A (H F.spec_l7Falls) LIM n 0 (subCode [1,0,1,0,0] (bodyOf prog F.spec_l7Falls)) (spec_l7Falls.K0 n) m s
noncomputable def spec_l7Falls.rd0 (n:Nat) (L0:St→R) (s:St):R:=roundK prog A (H F.spec_l7Falls) LIM n 0 (subCode [1,0,1,0,0] (bodyOf prog F.spec_l7Falls)) (spec_l7Falls.K0 n) L0 s
theorem spec_l7Falls.next0 (n:Nat) (m:Nat) (s:St):spec_l7Falls.at0 n (m+1) s=spec_l7Falls.rd0 n (spec_l7Falls.at0 n m) s:=loopAt_succ _ _ _ _ _ _ _ _ _ _
theorem spec_l7Falls.round0 (n:Nat) (L0:St→R) (x0:List T) (x1:List T) (x2:List T) (x3:Int):spec_l7Falls.rd0 n L0 (spec_l7Falls.st0 x0 x1 x2 x3)=(bif (decide (x3 < ((((x2).length / 2):Nat):Int))) then (bif inB x3 ((x2).length / 2) then ((x2[((Int.toNat x3)*2)]?).bind fun e1=>((oSl 1 e1).bind fun c2=>(bif inB x3 ((x2).length / 2) then ((x2[(((Int.toNat x3)*2)+1)]?).bind fun e3=>((oSl 1 e3).bind fun c4=>((LIM F.spec_l7Over [(.rref [(.sl 2 x0)] 0),(.sl 1 x1),(.sl 1 c2),(.sl 1 c4)]).bind fun r5=>((oNil r5.2).bind fun _=>((oBool r5.1).bind fun b6=>(bif (!b6) then some ((.bool false),[]) else (L0 (spec_l7Falls.st0 x0 x1 x2 (IntKind.wrap .i64 (x3+(1:Int))))))))))) else none))) else none) else some ((.bool true),[])):=by kernel_rfl
theorem spec_l7Falls.ev (n:Nat) (a0_0:List T) (a1:List T) (a2:List T):callK prog A H LIM n F.spec_l7Falls [(.rref [(.sl 2 a0_0)] 0),(.sl 1 a1),(.sl 2 a2)]=(spec_l7Falls.at0 n n (spec_l7Falls.st0 a0_0 a1 a2 (0:Int))):=by kernel_rfl
theorem spec_l7Over.ev (n:Nat) (a0_0:List T) (a1:List T) (a2:List T) (a3:List T):callK prog A H LIM n F.spec_l7Over [(.rref [(.sl 2 a0_0)] 0),(.sl 1 a1),(.sl 1 a2),(.sl 1 a3)]=((LIM F.spec_l7Table [(.rref [(.sl 2 a0_0)] 0),(.sl 1 a1),(.sl 1 a2),(.sl 1 a3)]).bind fun r1=>((oNil r1.2).bind fun _=>((oSl 1 r1.1).bind fun c2=>(bif inB (0:Int) ((c2).length / 1) then ((c2[0]?).bind fun e3=>((oBool e3).bind fun b4=>some ((.bool b4),[]))) else none)))):=by kernel_rfl
def spec_l7Starts.st0 (x0:List T) (x1:List T) (x2:Int) (x3:Int) (x4:Int) (x5:List T):St:=⟨[(0,(.one (.t (.rref [(.sl 2 x0)] 0)))),(1,(.one (.t (.sl 1 x1)))),(2,(.one (.t (.int .i64 x2)))),(7,(.one (.obj 640))),(8,(.one (.t (.int .i64 x3)))),(9,(.one (.t (.int .i64 x4))))],[(640,(.arr true true 1 x5))]⟩
noncomputable def spec_l7Starts.K0 (n:Nat):Ex→St→R:=ctxK prog A (H F.spec_l7Starts) LIM n [.block 0,.seq 0 (subCode [1,1,1,1] (bodyOf prog F.spec_l7Starts))] (endOf prog A F.spec_l7Starts)
noncomputable def spec_l7Starts.at0 (n:Nat) (m:Nat) (s:St):R:=loopAt prog A (H F.spec_l7Starts) LIM n 0 (subCode [1,1,1,0,1,0,0] (bodyOf prog F.spec_l7Starts)) (spec_l7Starts.K0 n) m s
noncomputable def spec_l7Starts.rd0 (n:Nat) (L0:St→R) (s:St):R:=roundK prog A (H F.spec_l7Starts) LIM n 0 (subCode [1,1,1,0,1,0,0] (bodyOf prog F.spec_l7Starts)) (spec_l7Starts.K0 n) L0 s
theorem spec_l7Starts.next0 (n:Nat) (m:Nat) (s:St):spec_l7Starts.at0 n (m+1) s=spec_l7Starts.rd0 n (spec_l7Starts.at0 n m) s:=loopAt_succ _ _ _ _ _ _ _ _ _ _
theorem spec_l7Starts.round0 (n:Nat) (L0:St→R) (x0:List T) (x1:List T) (x2:Int) (x3:Int) (x4:Int) (x5:List T):spec_l7Starts.rd0 n L0 (spec_l7Starts.st0 x0 x1 x2 x3 x4 x5)=(bif inB x2 ((x1).length / 1) then ((x1[((Int.toNat x2)*1)]?).bind fun e1=>((oInt .i64 e1).bind fun n2=>(bif inB n2 ((x0).length / 2) then ((x0[(((Int.toNat n2)*2)+1)]?).bind fun e3=>((oInt .i64 e3).bind fun n4=>(bif (decide (x4 < n4)) then (bif Nat.ble (((x5).length+1)*8) (140737488355328*1) then ((LIM F.spec_l3End [(.rref [(.sl 2 x0)] 0),(.sl 1 x1),(.int .i64 x3)]).bind fun r5=>((oNil r5.2).bind fun _=>((oInt .i64 r5.1).bind fun n6=>(L0 (spec_l7Starts.st0 x0 x1 x2 n6 (IntKind.wrap .i64 (x4+(1:Int))) (x5++[(.int .i64 x3)]:List T)))))) else none) else some ((.sl 1 x5),[])))) else none))) else none):=by kernel_rfl
theorem spec_l7Starts.ev (n:Nat) (a0_0:List T) (a1:List T) (a2:Int):callK prog A H LIM n F.spec_l7Starts [(.rref [(.sl 2 a0_0)] 0),(.sl 1 a1),(.int .i64 a2)]=(spec_l7Starts.at0 n n (spec_l7Starts.st0 a0_0 a1 a2 (IntKind.wrap .i64 (a2+(1:Int))) (0:Int) [])):=by kernel_rfl
def spec_l7Table.st2 (x0:List T) (x1:List T) (x2:List T) (x3:List T) (x4:Int) (x5:Int) (x6:Int) (x7:List T):St:=⟨[(0,(.one (.t (.rref [(.sl 2 x0)] 0)))),(1,(.one (.t (.sl 1 x1)))),(2,(.one (.t (.sl 1 x2)))),(3,(.one (.t (.sl 1 x3)))),(9,(.one (.t (.int .i64 x4)))),(10,(.one (.obj 1216))),(11,(.one (.t (.int .i64 x5)))),(12,(.one (.t (.int .i64 x6))))],[(1216,(.arr true true 1 x7))]⟩
def spec_l7Table.st0 (x0:List T) (x1:List T) (x2:List T) (x3:List T) (x4:Int) (x5:Int) (x6:List T):St:=⟨[(0,(.one (.t (.rref [(.sl 2 x0)] 0)))),(1,(.one (.t (.sl 1 x1)))),(2,(.one (.t (.sl 1 x2)))),(3,(.one (.t (.sl 1 x3)))),(9,(.one (.t (.int .i64 x4)))),(10,(.one (.obj 1216))),(11,(.one (.t (.int .i64 x5))))],[(1216,(.arr true true 1 x6))]⟩
noncomputable def spec_l7Table.K0 (n:Nat):Ex→St→R:=ctxK prog A (H F.spec_l7Table) LIM n [.block 0,.seq 0 (subCode [1,1,1,1] (bodyOf prog F.spec_l7Table))] (endOf prog A F.spec_l7Table)
noncomputable def spec_l7Table.at0 (n:Nat) (m:Nat) (s:St):R:=loopAt prog A (H F.spec_l7Table) LIM n 0 (subCode [1,1,1,0,1,0,0] (bodyOf prog F.spec_l7Table)) (spec_l7Table.K0 n) m s
noncomputable def spec_l7Table.rd0 (n:Nat) (L0:St→R) (s:St):R:=roundK prog A (H F.spec_l7Table) LIM n 0 (subCode [1,1,1,0,1,0,0] (bodyOf prog F.spec_l7Table)) (spec_l7Table.K0 n) L0 s
theorem spec_l7Table.next0 (n:Nat) (m:Nat) (s:St):spec_l7Table.at0 n (m+1) s=spec_l7Table.rd0 n (spec_l7Table.at0 n m) s:=loopAt_succ _ _ _ _ _ _ _ _ _ _
noncomputable def spec_l7Table.K2 (n:Nat) (L0:St→R):Ex→St→R:=ctxK prog A (H F.spec_l7Table) LIM n [.block 2,.block 1,.seq 0 (subCode [1,1,1,0,1,0,0,1,1] (bodyOf prog F.spec_l7Table))] (backK (H F.spec_l7Table) 0 (spec_l7Table.K0 n) L0)
noncomputable def spec_l7Table.at2 (n:Nat) (L0:St→R) (m:Nat) (s:St):R:=loopAt prog A (H F.spec_l7Table) LIM n 2 (subCode [1,1,1,0,1,0,0,1,0,0,1,0,0] (bodyOf prog F.spec_l7Table)) (spec_l7Table.K2 n L0) m s
noncomputable def spec_l7Table.rd2 (n:Nat) (L0:St→R) (L2:St→R) (s:St):R:=roundK prog A (H F.spec_l7Table) LIM n 2 (subCode [1,1,1,0,1,0,0,1,0,0,1,0,0] (bodyOf prog F.spec_l7Table)) (spec_l7Table.K2 n L0) L2 s
theorem spec_l7Table.next2 (n:Nat) (L0:St→R) (m:Nat) (s:St):spec_l7Table.at2 n L0 (m+1) s=spec_l7Table.rd2 n L0 (spec_l7Table.at2 n L0 m) s:=loopAt_succ _ _ _ _ _ _ _ _ _ _
theorem spec_l7Table.round0 (n:Nat) (L0:St→R) (x0:List T) (x1:List T) (x2:List T) (x3:List T) (x4:Int) (x5:Int) (x6:List T):spec_l7Table.rd0 n L0 (spec_l7Table.st0 x0 x1 x2 x3 x4 x5 x6)=(bif (decide (x5 ≥ (0:Int))) then (spec_l7Table.at2 n L0 n (spec_l7Table.st2 x0 x1 x2 x3 x4 x5 (IntKind.wrap .i64 (x4 - (1:Int))) x6)) else some ((.sl 1 x6),[])):=by kernel_rfl
theorem spec_l7Table.round2 (n:Nat) (L0:St→R) (L2:St→R) (x0:List T) (x1:List T) (x2:List T) (x3:List T) (x4:Int) (x5:Int) (x6:Int) (x7:List T):spec_l7Table.rd2 n L0 L2 (spec_l7Table.st2 x0 x1 x2 x3 x4 x5 x6 x7)=(bif (decide (x6 ≥ (0:Int))) then ((LIM F.spec_l7Cell [(.rref [(.sl 2 x0)] 0),(.sl 1 x1),(.sl 1 x2),(.sl 1 x3),(.int .i64 x5),(.int .i64 x6),(.sl 1 x7)]).bind fun r1=>((oNil r1.2).bind fun _=>((oBool r1.1).bind fun b2=>(bif inB (IntKind.wrap .i64 ((IntKind.wrap .i64 (x5*x4))+x6)) ((x7).length / 1) then (bif decide (((Int.toNat (IntKind.wrap .i64 ((IntKind.wrap .i64 (x5*x4))+x6)))*1)+1≤(x7).length) then (L2 (spec_l7Table.st2 x0 x1 x2 x3 x4 x5 (IntKind.wrap .i64 (x6 - (1:Int))) (setCells x7 ((Int.toNat (IntKind.wrap .i64 ((IntKind.wrap .i64 (x5*x4))+x6)))*1) [(.bool b2)]))) else none) else none)))) else (L0 (spec_l7Table.st0 x0 x1 x2 x3 x4 (IntKind.wrap .i64 (x5 - (1:Int))) x7))):=by kernel_rfl
theorem spec_l7Table.ev (n:Nat) (a0_0:List T) (a1:List T) (a2:List T) (a3:List T):callK prog A H LIM n F.spec_l7Table [(.rref [(.sl 2 a0_0)] 0),(.sl 1 a1),(.sl 1 a2),(.sl 1 a3)]=(bif decide (0≤(IntKind.wrap .i64 (((((a2).length / 1):Nat):Int)*((((a3).length / 1):Nat):Int))))&&decide ((IntKind.wrap .i64 (((((a2).length / 1):Nat):Int)*((((a3).length / 1):Nat):Int)))=(IntKind.wrap .i64 (((((a2).length / 1):Nat):Int)*((((a3).length / 1):Nat):Int))))&&Nat.ble (((Int.toNat (IntKind.wrap .i64 (((((a2).length / 1):Nat):Int)*((((a3).length / 1):Nat):Int))))*1)*1) (140737488355328*1) then (spec_l7Table.at0 n n (spec_l7Table.st0 a0_0 a1 a2 a3 ((((a3).length / 1):Nat):Int) (IntKind.wrap .i64 (((((a2).length / 1):Nat):Int) - (1:Int))) (repT (Int.toNat (IntKind.wrap .i64 (((((a2).length / 1):Nat):Int)*((((a3).length / 1):Nat):Int)))) [(.bool false)]))) else none):=by kernel_rfl
def spec_l8Fault.st2 (x0:List T) (x1:Int) (x2:Int):St:=⟨[(1,(.one (.t (.sl 2 x0)))),(6,(.one (.t (.int .i64 x1)))),(7,(.one (.t (.int .i64 x2))))],[]⟩
def spec_l8Fault.st0 (x0:List T) (x1:Int):St:=⟨[(1,(.one (.t (.sl 2 x0)))),(6,(.one (.t (.int .i64 x1))))],[]⟩
noncomputable def spec_l8Fault.K0 (n:Nat):Ex→St→R:=ctxK prog A (H F.spec_l8Fault) LIM n [.block 0,.seq 0 (subCode [1,1,1] (bodyOf prog F.spec_l8Fault))] (endOf prog A F.spec_l8Fault)
noncomputable def spec_l8Fault.at0 (n:Nat) (m:Nat) (s:St):R:=loopAt prog A (H F.spec_l8Fault) LIM n 0 (subCode [1,1,0,1,0,0] (bodyOf prog F.spec_l8Fault)) (spec_l8Fault.K0 n) m s
noncomputable def spec_l8Fault.rd0 (n:Nat) (L0:St→R) (s:St):R:=roundK prog A (H F.spec_l8Fault) LIM n 0 (subCode [1,1,0,1,0,0] (bodyOf prog F.spec_l8Fault)) (spec_l8Fault.K0 n) L0 s
theorem spec_l8Fault.next0 (n:Nat) (m:Nat) (s:St):spec_l8Fault.at0 n (m+1) s=spec_l8Fault.rd0 n (spec_l8Fault.at0 n m) s:=loopAt_succ _ _ _ _ _ _ _ _ _ _
noncomputable def spec_l8Fault.K2 (n:Nat) (L0:St→R):Ex→St→R:=ctxK prog A (H F.spec_l8Fault) LIM n [.block 2,.block 1,.seq 0 (subCode [1,1,0,1,0,0,1,1] (bodyOf prog F.spec_l8Fault))] (backK (H F.spec_l8Fault) 0 (spec_l8Fault.K0 n) L0)
noncomputable def spec_l8Fault.at2 (n:Nat) (L0:St→R) (m:Nat) (s:St):R:=loopAt prog A (H F.spec_l8Fault) LIM n 2 (subCode [1,1,0,1,0,0,1,0,0,1,1,0,0] (bodyOf prog F.spec_l8Fault)) (spec_l8Fault.K2 n L0) m s
noncomputable def spec_l8Fault.rd2 (n:Nat) (L0:St→R) (L2:St→R) (s:St):R:=roundK prog A (H F.spec_l8Fault) LIM n 2 (subCode [1,1,0,1,0,0,1,0,0,1,1,0,0] (bodyOf prog F.spec_l8Fault)) (spec_l8Fault.K2 n L0) L2 s
theorem spec_l8Fault.next2 (n:Nat) (L0:St→R) (m:Nat) (s:St):spec_l8Fault.at2 n L0 (m+1) s=spec_l8Fault.rd2 n L0 (spec_l8Fault.at2 n L0 m) s:=loopAt_succ _ _ _ _ _ _ _ _ _ _
theorem spec_l8Fault.round0 (n:Nat) (L0:St→R) (x0:List T) (x1:Int):spec_l8Fault.rd0 n L0 (spec_l8Fault.st0 x0 x1)=(bif (decide (x1 < ((((x0).length / 2):Nat):Int))) then (bif inB x1 ((x0).length / 2) then ((x0[((Int.toNat x1)*2)]?).bind fun e3=>((oSl 1 e3).bind fun c4=>(bif inB (0:Int) ((c4).length / 1) then ((c4[0]?).bind fun e5=>((oInt .i64 e5).bind fun n6=>(bif (decide (n6 < (0:Int))) then some ((.int .i64 (1:Int)),[]) else (spec_l8Fault.at2 n L0 n (spec_l8Fault.st2 x0 x1 (0:Int)))))) else none))) else none) else some ((.int .i64 (0:Int)),[])):=by kernel_rfl
theorem spec_l8Fault.round2 (n:Nat) (L0:St→R) (L2:St→R) (x0:List T) (x1:Int) (x2:Int):spec_l8Fault.rd2 n L0 L2 (spec_l8Fault.st2 x0 x1 x2)=(bif inB x1 ((x0).length / 2) then ((x0[(((Int.toNat x1)*2)+1)]?).bind fun e7=>((oSl 1 e7).bind fun c8=>(bif (decide (x2 < ((((c8).length / 1):Nat):Int))) then (bif inB x1 ((x0).length / 2) then ((x0[(((Int.toNat x1)*2)+1)]?).bind fun e9=>((oSl 1 e9).bind fun c10=>(bif inB x2 ((c10).length / 1) then ((c10[((Int.toNat x2)*1)]?).bind fun e11=>((oInt .i64 e11).bind fun n12=>(bif (decide (n12 < (0:Int))) then (bif inB x1 ((x0).length / 2) then ((x0[((Int.toNat x1)*2)]?).bind fun e13=>((oSl 1 e13).bind fun c14=>((LIM F.spec_l3Count [(.sl 1 c14),(.int .i64 n12)]).bind fun r15=>((oNil r15.2).bind fun _=>((oInt .i64 r15.1).bind fun n16=>(bif ((n16 == (0:Int))) then some ((.int .i64 (1:Int)),[]) else (L2 (spec_l8Fault.st2 x0 x1 (IntKind.wrap .i64 (x2+(1:Int))))))))))) else none) else (L2 (spec_l8Fault.st2 x0 x1 (IntKind.wrap .i64 (x2+(1:Int)))))))) else none))) else none) else (L0 (spec_l8Fault.st0 x0 (IntKind.wrap .i64 (x1+(1:Int)))))))) else none):=by kernel_rfl
theorem spec_l8Fault.ev (n:Nat) (a0_0:List T) (a1:List T):callK prog A H LIM n F.spec_l8Fault [(.rref [(.sl 2 a0_0)] 0),(.sl 2 a1)]=((LIM F.spec_l5Fault [(.rref [(.sl 2 a0_0)] 0),(.sl 2 a1)]).bind fun r1=>((oNil r1.2).bind fun _=>((oInt .i64 r1.1).bind fun n2=>(bif ((n2 != (0:Int))) then some ((.int .i64 n2),[]) else (spec_l8Fault.at0 n n (spec_l8Fault.st0 a1 (0:Int))))))):=by kernel_rfl
end Ev
end
section
open Go
set_option linter.unusedVariables false
set_option maxRecDepth 100000
namespace Ev
def spec_l8Find.st0 (x0:List T) (x1:List T) (x2:List T) (x3:Int) (x4:Int) (x5:Int) (x6:Int):St:=⟨[(0,(.one (.t (.rref [(.sl 2 x0)] 0)))),(1,(.one (.t (.sl 2 x1)))),(2,(.one (.t (.sl 1 x2)))),(8,(.one (.t (.int .i64 x3)))),(9,(.one (.t (.int .i64 x4)))),(10,(.one (.t (.int .i64 x5)))),(11,(.one (.t (.int .i64 x6))))],[]⟩
noncomputable def spec_l8Find.K0 (n:Nat):Ex→St→R:=ctxK prog A (H F.spec_l8Find) LIM n [.block 0,.seq 0 (subCode [1,1,1,1,1] (bodyOf prog F.spec_l8Find))] (endOf prog A F.spec_l8Find)
noncomputable def spec_l8Find.at0 (n:Nat) (m:Nat) (s:St):R:=loopAt prog A (H F.spec_l8Find) LIM n 0 (subCode [1,1,1,1,0,1,0,0] (bodyOf prog F.spec_l8Find)) (spec_l8Find.K0 n) m s
noncomputable def spec_l8Find.rd0 (n:Nat) (L0:St→R) (s:St):R:=roundK prog A (H F.spec_l8Find) LIM n 0 (subCode [1,1,1,1,0,1,0,0] (bodyOf prog F.spec_l8Find)) (spec_l8Find.K0 n) L0 s
theorem spec_l8Find.next0 (n:Nat) (m:Nat) (s:St):spec_l8Find.at0 n (m+1) s=spec_l8Find.rd0 n (spec_l8Find.at0 n m) s:=loopAt_succ _ _ _ _ _ _ _ _ _ _
theorem spec_l8Find.round0 (n:Nat) (L0:St→R) (x0:List T) (x1:List T) (x2:List T) (x3:Int) (x4:Int) (x5:Int) (x6:Int):spec_l8Find.rd0 n L0 (spec_l8Find.st0 x0 x1 x2 x3 x4 x5 x6)=(bif (decide (x6 < ((((x2).length / 1):Nat):Int))) then ((LIM F.spec_l3End [(.rref [(.sl 2 x0)] 0),(.sl 1 x2),(.int .i64 x6)]).bind fun r1=>((oNil r1.2).bind fun _=>((oInt .i64 r1.1).bind fun n2=>(bif (decide (n2 > x5)) then (L0 (spec_l8Find.st0 x0 x1 x2 x3 x4 x5 (IntKind.wrap .i64 (x6+(1:Int))))) else ((LIM F.spec_l8Fits [(.rref [(.sl 2 x0)] 0),(.sl 2 x1),(.sl 1 x2),(.int .i64 x6)]).bind fun r3=>((oNil r3.2).bind fun _=>((oInt .i64 r3.1).bind fun n4=>(bif (decide (n4 ≥ (0:Int))) then (L0 (spec_l8Find.st0 x0 x1 x2 x6 n4 n2 (IntKind.wrap .i64 (x6+(1:Int))))) else (L0 (spec_l8Find.st0 x0 x1 x2 x3 x4 x5 (IntKind.wrap .i64 (x6+(1:Int))))))))))))) else some ((.tup [(.int .i64 x3),(.int .i64 x4)]),[])):=by kernel_rfl
theorem spec_l8Find.ev (n:Nat) (a0_0:List T) (a1:List T) (a2:List T):callK prog A H LIM n F.spec_l8Find [(.rref [(.sl 2 a0_0)] 0),(.sl 2 a1),(.sl 1 a2)]=(spec_l8Find.at0 n n (spec_l8Find.st0 a0_0 a1 a2 (-1:Int) (-1:Int) (25:Int) (0:Int))):=by kernel_rfl
def spec_l8Fits.st0 (x0:List T) (x1:List T) (x2:List T) (x3:Int) (x4:Int):St:=⟨[(0,(.one (.t (.rref [(.sl 2 x0)] 0)))),(1,(.one (.t (.sl 2 x1)))),(2,(.one (.t (.sl 1 x2)))),(3,(.one (.t (.int .i64 x3)))),(9,(.one (.t (.int .i64 x4))))],[]⟩
noncomputable def spec_l8Fits.K0 (n:Nat):Ex→St→R:=ctxK prog A (H F.spec_l8Fits) LIM n [.block 0,.seq 0 (subCode [1,1] (bodyOf prog F.spec_l8Fits))] (endOf prog A F.spec_l8Fits)
noncomputable def spec_l8Fits.at0 (n:Nat) (m:Nat) (s:St):R:=loopAt prog A (H F.spec_l8Fits) LIM n 0 (subCode [1,0,1,0,0] (bodyOf prog F.spec_l8Fits)) (spec_l8Fits.K0 n) m s
noncomputable def spec_l8Fits.rd0 (n:Nat) (L0:St→R) (s:St):R:=roundK prog A (H F.spec_l8Fits) LIM n 0 (subCode [1,0,1,0,0] (bodyOf prog F.spec_l8Fits)) (spec_l8Fits.K0 n) L0 s
theorem spec_l8Fits.next0 (n:Nat) (m:Nat) (s:St):spec_l8Fits.at0 n (m+1) s=spec_l8Fits.rd0 n (spec_l8Fits.at0 n m) s:=loopAt_succ _ _ _ _ _ _ _ _ _ _
theorem spec_l8Fits.round0 (n:Nat) (L0:St→R) (x0:List T) (x1:List T) (x2:List T) (x3:Int) (x4:Int):spec_l8Fits.rd0 n L0 (spec_l8Fits.st0 x0 x1 x2 x3 x4)=(bif (decide (x4 < ((((x1).length / 2):Nat):Int))) then (bif inB x4 ((x1).length / 2) then ((x1[((Int.toNat x4)*2)]?).bind fun e1=>((oSl 1 e1).bind fun c2=>((LIM F.spec_l6Match [(.rref [(.sl 2 x0)] 0),(.sl 1 c2),(.sl 1 x2),(.int .i64 x3)]).bind fun r3=>((oNil r3.2).bind fun _=>((oTup r3.1).bind fun c4=>((oCons c4).bind fun p5=>((oAgg p5.1).bind fun c6=>((oCons c6).bind fun p7=>((oSl 1 p7.1).bind fun c8=>((oCons p7.2).bind fun p9=>((oSl 1 p9.1).bind fun c10=>((oNil p9.2).bind fun _=>((oCons p5.2).bind fun p11=>((oBool p11.1).bind fun b12=>((oNil p11.2).bind fun _=>(bif b12 then some ((.int .i64 x4),[]) else (L0 (spec_l8Fits.st0 x0 x1 x2 x3 (IntKind.wrap .i64 (x4+(1:Int))))))))))))))))))))) else none) else some ((.int .i64 (-1:Int)),[])):=by kernel_rfl
theorem spec_l8Fits.ev (n:Nat) (a0_0:List T) (a1:List T) (a2:List T) (a3:Int):callK prog A H LIM n F.spec_l8Fits [(.rref [(.sl 2 a0_0)] 0),(.sl 2 a1),(.sl 1 a2),(.int .i64 a3)]=(spec_l8Fits.at0 n n (spec_l8Fits.st0 a0_0 a1 a2 a3 (0:Int))):=by kernel_rfl
theorem spec_l8Joined.ev (n:Nat) (a0_0:List T) (a1:List T) (a2:List T) (a3:List T) (a4:Int):callK prog A H LIM n F.spec_l8Joined [(.rref [(.sl 2 a0_0)] 0),(.sl 2 a1),(.sl 1 a2),(.sl 1 a3),(.int .i64 a4)]=((LIM F.spec_l8Normal [(.rref [(.sl 2 a0_0)] 0),(.sl 2 a1),(.sl 1 a2),(.int .i64 a4)]).bind fun r1=>((oNil r1.2).bind fun _=>((oAgg r1.1).bind fun c2=>((oCons c2).bind fun p3=>((oInt .i64 p3.1).bind fun n4=>((oCons p3.2).bind fun p5=>((oSl 1 p5.1).bind fun c6=>((oCons p5.2).bind fun p7=>((oInt .i64 p7.1).bind fun n8=>((oNil p7.2).bind fun _=>(bif ((n4 != (0:Int))) then some ((.tup [(.int .i64 (0:Int)),(.int .i64 n4)]),[]) else ((LIM F.spec_l8Normal [(.rref [(.sl 2 a0_0)] 0),(.sl 2 a1),(.sl 1 a3),(.int .i64 a4)]).bind fun r9=>((oNil r9.2).bind fun _=>((oAgg r9.1).bind fun c10=>((oCons c10).bind fun p11=>((oInt .i64 p11.1).bind fun n12=>((oCons p11.2).bind fun p13=>((oSl 1 p13.1).bind fun c14=>((oCons p13.2).bind fun p15=>((oInt .i64 p15.1).bind fun n16=>((oNil p15.2).bind fun _=>(bif ((n12 != (0:Int))) then some ((.tup [(.int .i64 (0:Int)),(.int .i64 n12)]),[]) else ((LIM F.spec_l1Same [(.sl 1 c6),(.sl 1 c14)]).bind fun r17=>((oNil r17.2).bind fun _=>((oBool r17.1).bind fun b18=>(bif b18 then some ((.tup [(.int .i64 (1:Int)),(.int .i64 (0:Int))]),[]) else some ((.tup [(.int .i64 (0:Int)),(.int .i64 (0:Int))]),[]))))))))))))))))))))))))))):=by kernel_rfl
def spec_l8Normal.st0 (x0:List T) (x1:List T) (x2:Int) (x3:Int) (x4:Int) (x5:Int) (x6:List T):St:=⟨[(0,(.one (.t (.rref [(.sl 2 x0)] 0)))),(1,(.one (.t (.sl 2 x1)))),(3,(.one (.t (.int .i64 x2)))),(8,(.one (.ptr 512 0))),(9,(.one (.obj 1024))),(10,(.one (.t (.int .i64 x3))))],[(512,(.box [(.t (.int .i64 x4)),.nil,(.t (.int .i64 x5))])),(1024,(.arr true true 1 x6))]⟩
noncomputable def spec_l8Normal.K0 (n:Nat):Ex→St→R:=ctxK prog A (H F.spec_l8Normal) LIM n [.block 0] (endOf prog A F.spec_l8Normal)
noncomputable def spec_l8Normal.at0 (n:Nat) (m:Nat) (s:St):R:=loopAt prog A (H F.spec_l8Normal) LIM n 0 (subCode [1,1,1,0,0] (bodyOf prog F.spec_l8Normal)) (spec_l8Normal.K0 n) m s
noncomputable def spec_l8Normal.rd0 (n:Nat) (L0:St→R) (s:St):R:=roundK prog A (H F.spec_l8Normal) LIM n 0 (subCode [1,1,1,0,0] (bodyOf prog F.spec_l8Normal)) (spec_l8Normal.K0 n) L0 s
theorem spec_l8Normal.next0 (n:Nat) (m:Nat) (s:St):spec_l8Normal.at0 n (m+1) s=spec_l8Normal.rd0 n (spec_l8Normal.at0 n m) s:=loopAt_succ _ _ _ _ _ _ _ _ _ _
theorem spec_l8Normal.round0 (n:Nat) (L0:St→R) (x0:List T) (x1:List T) (x2:Int) (x3:Int) (x4:Int) (x5:Int) (x6:List T):spec_l8Normal.rd0 n L0 (spec_l8Normal.st0 x0 x1 x2 x3 x4 x5 x6)=((LIM F.spec_l8Find [(.rref [(.sl 2 x0)] 0),(.sl 2 x1),(.sl 1 x6)]).bind fun r3=>((oNil r3.2).bind fun _=>((oTup r3.1).bind fun c4=>((oCons c4).bind fun p5=>((oInt .i64 p5.1).bind fun n6=>((oCons p5.2).bind fun p7=>((oInt .i64 p7.1).bind fun n8=>((oNil p7.2).bind fun _=>(bif (decide (n6 < (0:Int))) then some ((.agg [(.int .i64 (0:Int)),(.sl 1 x6),(.int .i64 x3)]),[]) else (bif (decide (x3 ≥ x2)) then some ((.agg [(.int .i64 (9:Int)),(.sl 1 []),(.int .i64 (0:Int))]),[]) else (bif inB n8 ((x1).length / 2) then ((LIM F.spec_l8Rewrite [(.rref [(.sl 2 x0)] 0),(.rref ((x1.drop ((Int.toNat n8)*2)).take 2) 0),(.int .i64 n6),(.sl 1 x6)]).bind fun r9=>((oNil r9.2).bind fun _=>((oTup r9.1).bind fun c10=>((oCons c10).bind fun p11=>((oSl 1 p11.1).bind fun c12=>((oCons p11.2).bind fun p13=>((oInt .i64 p13.1).bind fun n14=>((oNil p13.2).bind fun _=>(bif ((n14 != (0:Int))) then some ((.agg [(.int .i64 n14),(.sl 1 []),(.int .i64 (0:Int))]),[]) else (L0 (spec_l8Normal.st0 x0 x1 x2 (IntKind.wrap .i64 (x3+(1:Int))) x4 x5 c12))))))))))) else none))))))))))):=by kernel_rfl
theorem spec_l8Normal.ev (n:Nat) (a0_0:List T) (a1:List T) (a2:List T) (a3:Int):callK prog A H LIM n F.spec_l8Normal [(.rref [(.sl 2 a0_0)] 0),(.sl 2 a1),(.sl 1 a2),(.int .i64 a3)]=((LIM F.spec_l1Ints [(.sl 1 a2)]).bind fun r1=>((oNil r1.2).bind fun _=>((oSl 1 r1.1).bind fun c2=>(spec_l8Normal.at0 n n (spec_l8Normal.st0 a0_0 a1 a3 (0:Int) (0:Int) (0:Int) c2))))):=by kernel_rfl
theorem spec_l8Rewrite.ev (n:Nat) (a0_0:List T) (a1_0:List T) (a1_1:List T) (a2:Int) (a3:List T):callK prog A H LIM n F.spec_l8Rewrite [(.rref [(.sl 2 a0_0)] 0),(.rref [(.sl 1 a1_0),(.sl 1 a1_1)] 0),(.int .i64 a2),(.sl 1 a3)]=((LIM F.spec_l6Match [(.rref [(.sl 2 a0_0)] 0),(.sl 1 a1_0),(.sl 1 a3),(.int .i64 a2)]).bind fun r1=>((oNil r1.2).bind fun _=>((oTup r1.1).bind fun c2=>((oCons c2).bind fun p3=>((oAgg p3.1).bind fun c4=>((oCons c4).bind fun p5=>((oSl 1 p5.1).bind fun c6=>((oCons p5.2).bind fun p7=>((oSl 1 p7.1).bind fun c8=>((oNil p7.2).bind fun _=>((oCons p3.2).bind fun p9=>((oBool p9.1).bind fun b10=>((oNil p9.2).bind fun _=>(bif (!b10) then some ((.tup [(.sl 1 []),(.int .i64 (4:Int))]),[]) else ((LIM F.spec_l6Apply [(.rref [(.sl 1 c6),(.sl 1 c8)] 0),(.sl 1 a1_1)]).bind fun r11=>((oNil r11.2).bind fun _=>((oSl 1 r11.1).bind fun c12=>((LIM F.spec_l3Replace [(.rref [(.sl 2 a0_0)] 0),(.sl 1 a3),(.int .i64 a2),(.sl 1 c12)]).bind fun r13=>((oNil r13.2).bind fun _=>((oSl 1 r13.1).bind fun c14=>(bif (decide (((((c14).length / 1):Nat):Int) > (24:Int))) then some ((.tup [(.sl 1 []),(.int .i64 (2:Int))]),[]) else some ((.tup [(.sl 1 c14),(.int .i64 (0:Int))]),[])))))))))))))))))))))):=by kernel_rfl
def spec_l9All.st2 (x0:List T) (x1:List T) (x2:Int) (x3:Int) (x4:List T):St:=⟨[(0,(.one (.t (.rref [(.sl 2 x0)] 0)))),(1,(.one (.t (.sl 2 x1)))),(6,(.one (.obj 704))),(7,(.one (.t (.int .i64 x2)))),(8,(.one (.t (.int .i64 x3))))],[(704,(.arr true true 2 x4))]⟩
def spec_l9All.st0 (x0:List T) (x1:List T) (x2:Int) (x3:List T):St:=⟨[(0,(.one (.t (.rref [(.sl 2 x0)] 0)))),(1,(.one (.t (.sl 2 x1)))),(6,(.one (.obj 704))),(7,(.one (.t (.int .i64 x2))))],[(704,(.arr true true 2 x3))]⟩
noncomputable def spec_l9All.K0 (n:Nat):Ex→St→R:=ctxK prog A (H F.spec_l9All) LIM n [.block 0,.seq 0 (subCode [1,1,1] (bodyOf prog F.spec_l9All))] (endOf prog A F.spec_l9All)
noncomputable def spec_l9All.at0 (n:Nat) (m:Nat) (s:St):R:=loopAt prog A (H F.spec_l9All) LIM n 0 (subCode [1,1,0,1,0,0] (bodyOf prog F.spec_l9All)) (spec_l9All.K0 n) m s
noncomputable def spec_l9All.rd0 (n:Nat) (L0:St→R) (s:St):R:=roundK prog A (H F.spec_l9All) LIM n 0 (subCode [1,1,0,1,0,0] (bodyOf prog F.spec_l9All)) (spec_l9All.K0 n) L0 s
theorem spec_l9All.next0 (n:Nat) (m:Nat) (s:St):spec_l9All.at0 n (m+1) s=spec_l9All.rd0 n (spec_l9All.at0 n m) s:=loopAt_succ _ _ _ _ _ _ _ _ _ _
noncomputable def spec_l9All.K2 (n:Nat) (L0:St→R):Ex→St→R:=ctxK prog A (H F.spec_l9All) LIM n [.block 2,.block 1,.seq 0 (subCode [1,1,0,1,0,0,1,1] (bodyOf prog F.spec_l9All))] (backK (H F.spec_l9All) 0 (spec_l9All.K0 n) L0)
noncomputable def spec_l9All.at2 (n:Nat) (L0:St→R) (m:Nat) (s:St):R:=loopAt prog A (H F.spec_l9All) LIM n 2 (subCode [1,1,0,1,0,0,1,0,0,1,0,0] (bodyOf prog F.spec_l9All)) (spec_l9All.K2 n L0) m s
noncomputable def spec_l9All.rd2 (n:Nat) (L0:St→R) (L2:St→R) (s:St):R:=roundK prog A (H F.spec_l9All) LIM n 2 (subCode [1,1,0,1,0,0,1,0,0,1,0,0] (bodyOf prog F.spec_l9All)) (spec_l9All.K2 n L0) L2 s
theorem spec_l9All.next2 (n:Nat) (L0:St→R) (m:Nat) (s:St):spec_l9All.at2 n L0 (m+1) s=spec_l9All.rd2 n L0 (spec_l9All.at2 n L0 m) s:=loopAt_succ _ _ _ _ _ _ _ _ _ _
theorem spec_l9All.round0 (n:Nat) (L0:St→R) (x0:List T) (x1:List T) (x2:Int) (x3:List T):spec_l9All.rd0 n L0 (spec_l9All.st0 x0 x1 x2 x3)=(bif (decide (x2 < ((((x1).length / 2):Nat):Int))) then (spec_l9All.at2 n L0 n (spec_l9All.st2 x0 x1 x2 (0:Int) x3)) else some ((.tup [(.sl 2 x3),(.int .i64 (0:Int))]),[])):=by kernel_rfl
theorem spec_l9All.round2 (n:Nat) (L0:St→R) (L2:St→R) (x0:List T) (x1:List T) (x2:Int) (x3:Int) (x4:List T):spec_l9All.rd2 n L0 L2 (spec_l9All.st2 x0 x1 x2 x3 x4)=(bif (decide (x3 < ((((x1).length / 2):Nat):Int))) then (bif inB x2 ((x1).length / 2) then (bif inB x3 ((x1).length / 2) then ((LIM F.spec_l9Peaks [(.rref [(.sl 2 x0)] 0),(.rref ((x1.drop ((Int.toNat x2)*2)).take 2) 0),(.rref ((x1.drop ((Int.toNat x3)*2)).take 2) 0),(.bool ((x2 == x3)))]).bind fun r1=>((oNil r1.2).bind fun _=>((oTup r1.1).bind fun c2=>((oCons c2).bind fun p3=>((oSl 2 p3.1).bind fun c4=>((oCons p3.2).bind fun p5=>((oInt .i64 p5.1).bind fun n6=>((oNil p5.2).bind fun _=>(bif ((n6 != (0:Int))) then some ((.tup [(.sl 2 []),(.int .i64 n6)]),[]) else (bif Nat.ble (((x4).length+(c4).length)*48) (140737488355328*2) then (bif (decide ((((((x4++c4:List T)).length / 2):Nat):Int) > (200:Int))) then some ((.tup [(.sl 2 []),(.int .i64 (2:Int))]),[]) else (L2 (spec_l9All.st2 x0 x1 x2 (IntKind.wrap .i64 (x3+(1:Int))) (x4++c4:List T)))) else none)))))))))) else none) else none) else (L0 (spec_l9All.st0 x0 x1 (IntKind.wrap .i64 (x2+(1:Int))) x4))):=by kernel_rfl
theorem spec_l9All.ev (n:Nat) (a0_0:List T) (a1:List T):callK prog A H LIM n F.spec_l9All [(.rref [(.sl 2 a0_0)] 0),(.sl 2 a1)]=(spec_l9All.at0 n n (spec_l9All.st0 a0_0 a1 (0:Int) [])):=by kernel_rfl
theorem spec_l9Peak.ev (n:Nat) (a0_0:List T) (a1_0:List T) (a1_1:List T) (a2_0:List T) (a2_1:List T) (a3:Int):callK prog A H LIM n F.spec_l9Peak [(.rref [(.sl 2 a0_0)] 0),(.rref [(.sl 1 a1_0),(.sl 1 a1_1)] 0),(.rref [(.sl 1 a2_0),(.sl 1 a2_1)] 0),(.int .i64 a3)]=((LIM F.spec_l6Shift [(.sl 1 a2_0),(.int .i64 (6:Int))]).bind fun r1=>((oNil r1.2).bind fun _=>((oSl 1 r1.1).bind fun c2=>((LIM F.spec_l6Shift [(.sl 1 a2_1),(.int .i64 (6:Int))]).bind fun r3=>((oNil r3.2).bind fun _=>((oSl 1 r3.1).bind fun c4=>((LIM F.spec_l3Sub [(.rref [(.sl 2 a0_0)] 0),(.sl 1 a1_0),(.int .i64 a3)]).bind fun r5=>((oNil r5.2).bind fun _=>((oSl 1 r5.1).bind fun c6=>((LIM F.spec_l6Unify [(.rref [(.sl 2 a0_0)] 0),(.sl 1 c6),(.sl 1 c2)]).bind fun r7=>((oNil r7.2).bind fun _=>((oTup r7.1).bind fun c8=>((oCons c8).bind fun p9=>((oAgg p9.1).bind fun c10=>((oCons c10).bind fun p11=>((oSl 1 p11.1).bind fun c12=>((oCons p11.2).bind fun p13=>((oSl 1 p13.1).bind fun c14=>((oNil p13.2).bind fun _=>((oCons p9.2).bind fun p15=>((oInt .i64 p15.1).bind fun n16=>((oNil p15.2).bind fun _=>(bif ((n16 != (0:Int))) then some ((.tup [(.agg [(.sl 1 []),(.sl 1 [])]),(.int .i64 n16)]),[]) else ((LIM F.spec_l6Apply [(.rref [(.sl 1 c12),(.sl 1 c14)] 0),(.sl 1 a1_1)]).bind fun r17=>((oNil r17.2).bind fun _=>((oSl 1 r17.1).bind fun c18=>((LIM F.spec_l3Replace [(.rref [(.sl 2 a0_0)] 0),(.sl 1 a1_0),(.int .i64 a3),(.sl 1 c4)]).bind fun r19=>((oNil r19.2).bind fun _=>((oSl 1 r19.1).bind fun c20=>((LIM F.spec_l6Apply [(.rref [(.sl 1 c12),(.sl 1 c14)] 0),(.sl 1 c20)]).bind fun r21=>((oNil r21.2).bind fun _=>((oSl 1 r21.1).bind fun c22=>(bif (decide (((((c18).length / 1):Nat):Int) > (24:Int))) then some ((.tup [(.agg [(.sl 1 []),(.sl 1 [])]),(.int .i64 (2:Int))]),[]) else (bif (decide (((((c22).length / 1):Nat):Int) > (24:Int))) then some ((.tup [(.agg [(.sl 1 []),(.sl 1 [])]),(.int .i64 (2:Int))]),[]) else ((LIM F.spec_l4Plain [(.rref [(.sl 1 c18),(.sl 1 c22)] 0)]).bind fun r23=>((oNil r23.2).bind fun _=>((oTup r23.1).bind fun c24=>((oCons c24).bind fun p25=>((oAgg p25.1).bind fun c26=>((oCons c26).bind fun p27=>((oSl 1 p27.1).bind fun c28=>((oCons p27.2).bind fun p29=>((oSl 1 p29.1).bind fun c30=>((oNil p29.2).bind fun _=>((oCons p25.2).bind fun p31=>((oBool p31.1).bind fun b32=>((oNil p31.2).bind fun _=>(bif (!b32) then some ((.tup [(.agg [(.sl 1 []),(.sl 1 [])]),(.int .i64 (2:Int))]),[]) else some ((.tup [(.agg [(.sl 1 c28),(.sl 1 c30)]),(.int .i64 (0:Int))]),[]))))))))))))))))))))))))))))))))))))))))))))))))):=by kernel_rfl
def spec_l9Peaks.st0 (x0:List T) (x1:List T) (x2:List T) (x3:List T) (x4:List T) (x5:Int) (x6:Int) (x7:List T) (x8:List T):St:=⟨[(0,(.one (.t (.rref [(.sl 2 x0)] 0)))),(1,(.one (.t (.rref [(.sl 1 x1),(.sl 1 x2)] 0)))),(2,(.one (.t (.rref [(.sl 1 x3),(.sl 1 x4)] 0)))),(10,(.one (.obj 1344))),(11,(.one (.t (.int .i64 x5)))),(12,(.one (.obj 1536))),(13,(.one (.t (.int .i64 x6))))],[(1344,(.arr true true 1 x7)),(1536,(.arr true true 2 x8))]⟩
noncomputable def spec_l9Peaks.K0 (n:Nat):Ex→St→R:=ctxK prog A (H F.spec_l9Peaks) LIM n [.block 0,.seq 0 (subCode [1,1,1,1] (bodyOf prog F.spec_l9Peaks))] (endOf prog A F.spec_l9Peaks)
noncomputable def spec_l9Peaks.at0 (n:Nat) (m:Nat) (s:St):R:=loopAt prog A (H F.spec_l9Peaks) LIM n 0 (subCode [1,1,1,0,1,0,0] (bodyOf prog F.spec_l9Peaks)) (spec_l9Peaks.K0 n) m s
noncomputable def spec_l9Peaks.rd0 (n:Nat) (L0:St→R) (s:St):R:=roundK prog A (H F.spec_l9Peaks) LIM n 0 (subCode [1,1,1,0,1,0,0] (bodyOf prog F.spec_l9Peaks)) (spec_l9Peaks.K0 n) L0 s
theorem spec_l9Peaks.next0 (n:Nat) (m:Nat) (s:St):spec_l9Peaks.at0 n (m+1) s=spec_l9Peaks.rd0 n (spec_l9Peaks.at0 n m) s:=loopAt_succ _ _ _ _ _ _ _ _ _ _
theorem spec_l9Peaks.round0 (n:Nat) (L0:St→R) (x0:List T) (x1:List T) (x2:List T) (x3:List T) (x4:List T) (x5:Int) (x6:Int) (x7:List T) (x8:List T):spec_l9Peaks.rd0 n L0 (spec_l9Peaks.st0 x0 x1 x2 x3 x4 x5 x6 x7 x8)=(bif (decide (x6 < ((((x7).length / 1):Nat):Int))) then (bif inB x6 ((x7).length / 1) then ((x7[((Int.toNat x6)*1)]?).bind fun e7=>((oInt .i64 e7).bind fun n8=>((LIM F.spec_l9Peak [(.rref [(.sl 2 x0)] 0),(.rref [(.sl 1 x1),(.sl 1 x2)] 0),(.rref [(.sl 1 x3),(.sl 1 x4)] 0),(.int .i64 n8)]).bind fun r9=>((oNil r9.2).bind fun _=>((oTup r9.1).bind fun c10=>((oCons c10).bind fun p11=>((oAgg p11.1).bind fun c12=>((oCons c12).bind fun p13=>((oSl 1 p13.1).bind fun c14=>((oCons p13.2).bind fun p15=>((oSl 1 p15.1).bind fun c16=>((oNil p15.2).bind fun _=>((oCons p11.2).bind fun p17=>((oInt .i64 p17.1).bind fun n18=>((oNil p17.2).bind fun _=>(bif Nat.ble (((x8).length+2)*48) (140737488355328*2) then (L0 (spec_l9Peaks.st0 x0 x1 x2 x3 x4 x5 (IntKind.wrap .i64 (x6+(1:Int))) x7 (x8++[(.sl 1 c14),(.sl 1 c16)]:List T))) else none)))))))))))))))) else none) else some ((.tup [(.sl 2 x8),(.int .i64 x5)]),[])):=by kernel_rfl
theorem spec_l9Peaks.ev (n:Nat) (a0_0:List T) (a1_0:List T) (a1_1:List T) (a2_0:List T) (a2_1:List T) (a3:Bool):callK prog A H LIM n F.spec_l9Peaks [(.rref [(.sl 2 a0_0)] 0),(.rref [(.sl 1 a1_0),(.sl 1 a1_1)] 0),(.rref [(.sl 1 a2_0),(.sl 1 a2_1)] 0),(.bool a3)]=((LIM F.spec_l9Places [(.rref [(.sl 2 a0_0)] 0),(.rref [(.sl 1 a1_0),(.sl 1 a1_1)] 0),(.rref [(.sl 1 a2_0),(.sl 1 a2_1)] 0),(.bool a3)]).bind fun r1=>((oNil r1.2).bind fun _=>((oTup r1.1).bind fun c2=>((oCons c2).bind fun p3=>((oSl 1 p3.1).bind fun c4=>((oCons p3.2).bind fun p5=>((oInt .i64 p5.1).bind fun n6=>((oNil p5.2).bind fun _=>(spec_l9Peaks.at0 n n (spec_l9Peaks.st0 a0_0 a1_0 a1_1 a2_0 a2_1 n6 (0:Int) c4 [])))))))))):=by kernel_rfl
def spec_l9Places.st0 (x0:List T) (x1:List T) (x2:List T) (x3:List T) (x4:List T) (x5:Bool) (x6:Int) (x7:List T):St:=⟨[(0,(.one (.t (.rref [(.sl 2 x0)] 0)))),(1,(.one (.t (.rref [(.sl 1 x1),(.sl 1 x2)] 0)))),(2,(.one (.t (.rref [(.sl 1 x3),(.sl 1 x4)] 0)))),(3,(.one (.t (.bool x5)))),(10,(.one (.obj 896))),(11,(.one (.t (.int .i64 x6))))],[(896,(.arr true true 1 x7))]⟩
noncomputable def spec_l9Places.K0 (n:Nat):Ex→St→R:=ctxK prog A (H F.spec_l9Places) LIM n [.block 0,.seq 0 (subCode [1,1,1] (bodyOf prog F.spec_l9Places))] (endOf prog A F.spec_l9Places)
noncomputable def spec_l9Places.at0 (n:Nat) (m:Nat) (s:St):R:=loopAt prog A (H F.spec_l9Places) LIM n 0 (subCode [1,1,0,1,0,0] (bodyOf prog F.spec_l9Places)) (spec_l9Places.K0 n) m s
noncomputable def spec_l9Places.rd0 (n:Nat) (L0:St→R) (s:St):R:=roundK prog A (H F.spec_l9Places) LIM n 0 (subCode [1,1,0,1,0,0] (bodyOf prog F.spec_l9Places)) (spec_l9Places.K0 n) L0 s
theorem spec_l9Places.next0 (n:Nat) (m:Nat) (s:St):spec_l9Places.at0 n (m+1) s=spec_l9Places.rd0 n (spec_l9Places.at0 n m) s:=loopAt_succ _ _ _ _ _ _ _ _ _ _
theorem spec_l9Places.round0 (n:Nat) (L0:St→R) (x0:List T) (x1:List T) (x2:List T) (x3:List T) (x4:List T) (x5:Bool) (x6:Int) (x7:List T):spec_l9Places.rd0 n L0 (spec_l9Places.st0 x0 x1 x2 x3 x4 x5 x6 x7)=(bif (decide (x6 < ((((x1).length / 1):Nat):Int))) then (bif inB x6 ((x1).length / 1) then ((x1[((Int.toNat x6)*1)]?).bind fun e1=>((oInt .i64 e1).bind fun n2=>(bif (decide (n2 < (0:Int))) then (L0 (spec_l9Places.st0 x0 x1 x2 x3 x4 x5 (IntKind.wrap .i64 (x6+(1:Int))) x7)) else (bif x5 then (bif ((x6 == (0:Int))) then (L0 (spec_l9Places.st0 x0 x1 x2 x3 x4 x5 (IntKind.wrap .i64 (x6+(1:Int))) x7)) else ((LIM F.spec_l9Peak [(.rref [(.sl 2 x0)] 0),(.rref [(.sl 1 x1),(.sl 1 x2)] 0),(.rref [(.sl 1 x3),(.sl 1 x4)] 0),(.int .i64 x6)]).bind fun r3=>((oNil r3.2).bind fun _=>((oTup r3.1).bind fun c4=>((oCons c4).bind fun p5=>((oAgg p5.1).bind fun c6=>((oCons c6).bind fun p7=>((oSl 1 p7.1).bind fun c8=>((oCons p7.2).bind fun p9=>((oSl 1 p9.1).bind fun c10=>((oNil p9.2).bind fun _=>((oCons p5.2).bind fun p11=>((oInt .i64 p11.1).bind fun n12=>((oNil p11.2).bind fun _=>(bif ((n12 == (4:Int))) then (L0 (spec_l9Places.st0 x0 x1 x2 x3 x4 x5 (IntKind.wrap .i64 (x6+(1:Int))) x7)) else (bif ((n12 != (0:Int))) then some ((.tup [(.sl 1 []),(.int .i64 n12)]),[]) else (bif Nat.ble (((x7).length+1)*8) (140737488355328*1) then (L0 (spec_l9Places.st0 x0 x1 x2 x3 x4 x5 (IntKind.wrap .i64 (x6+(1:Int))) (x7++[(.int .i64 x6)]:List T))) else none))))))))))))))))) else ((LIM F.spec_l9Peak [(.rref [(.sl 2 x0)] 0),(.rref [(.sl 1 x1),(.sl 1 x2)] 0),(.rref [(.sl 1 x3),(.sl 1 x4)] 0),(.int .i64 x6)]).bind fun r13=>((oNil r13.2).bind fun _=>((oTup r13.1).bind fun c14=>((oCons c14).bind fun p15=>((oAgg p15.1).bind fun c16=>((oCons c16).bind fun p17=>((oSl 1 p17.1).bind fun c18=>((oCons p17.2).bind fun p19=>((oSl 1 p19.1).bind fun c20=>((oNil p19.2).bind fun _=>((oCons p15.2).bind fun p21=>((oInt .i64 p21.1).bind fun n22=>((oNil p21.2).bind fun _=>(bif ((n22 == (4:Int))) then (L0 (spec_l9Places.st0 x0 x1 x2 x3 x4 x5 (IntKind.wrap .i64 (x6+(1:Int))) x7)) else (bif ((n22 != (0:Int))) then some ((.tup [(.sl 1 []),(.int .i64 n22)]),[]) else (bif Nat.ble (((x7).length+1)*8) (140737488355328*1) then (L0 (spec_l9Places.st0 x0 x1 x2 x3 x4 x5 (IntKind.wrap .i64 (x6+(1:Int))) (x7++[(.int .i64 x6)]:List T))) else none)))))))))))))))))))) else none) else some ((.tup [(.sl 1 x7),(.int .i64 (0:Int))]),[])):=by kernel_rfl
theorem spec_l9Places.ev (n:Nat) (a0_0:List T) (a1_0:List T) (a1_1:List T) (a2_0:List T) (a2_1:List T) (a3:Bool):callK prog A H LIM n F.spec_l9Places [(.rref [(.sl 2 a0_0)] 0),(.rref [(.sl 1 a1_0),(.sl 1 a1_1)] 0),(.rref [(.sl 1 a2_0),(.sl 1 a2_1)] 0),(.bool a3)]=(spec_l9Places.at0 n n (spec_l9Places.st0 a0_0 a1_0 a1_1 a2_0 a2_1 a3 (0:Int) [])):=by kernel_rfl
def spec_l9Unjoined.st0 (x0:List T) (x1:List T) (x2:Int) (x3:Int) (x4:List T) (x5:List T):St:=⟨[(0,(.one (.t (.rref [(.sl 2 x0)] 0)))),(1,(.one (.t (.sl 2 x1)))),(2,(.one (.t (.int .i64 x2)))),(8,(.one (.obj 1088))),(10,(.one (.obj 1472))),(11,(.one (.t (.int .i64 x3))))],[(1088,(.arr true true 2 x4)),(1472,(.arr true true 2 x5))]⟩
noncomputable def spec_l9Unjoined.K0 (n:Nat):Ex→St→R:=ctxK prog A (H F.spec_l9Unjoined) LIM n [.block 0,.seq 0 (subCode [1,1,1,1,1] (bodyOf prog F.spec_l9Unjoined))] (endOf prog A F.spec_l9Unjoined)
noncomputable def spec_l9Unjoined.at0 (n:Nat) (m:Nat) (s:St):R:=loopAt prog A (H F.spec_l9Unjoined) LIM n 0 (subCode [1,1,1,1,0,1,0,0] (bodyOf prog F.spec_l9Unjoined)) (spec_l9Unjoined.K0 n) m s
noncomputable def spec_l9Unjoined.rd0 (n:Nat) (L0:St→R) (s:St):R:=roundK prog A (H F.spec_l9Unjoined) LIM n 0 (subCode [1,1,1,1,0,1,0,0] (bodyOf prog F.spec_l9Unjoined)) (spec_l9Unjoined.K0 n) L0 s
theorem spec_l9Unjoined.next0 (n:Nat) (m:Nat) (s:St):spec_l9Unjoined.at0 n (m+1) s=spec_l9Unjoined.rd0 n (spec_l9Unjoined.at0 n m) s:=loopAt_succ _ _ _ _ _ _ _ _ _ _
theorem spec_l9Unjoined.round0 (n:Nat) (L0:St→R) (x0:List T) (x1:List T) (x2:Int) (x3:Int) (x4:List T) (x5:List T):spec_l9Unjoined.rd0 n L0 (spec_l9Unjoined.st0 x0 x1 x2 x3 x4 x5)=(bif (decide (x3 < ((((x4).length / 2):Nat):Int))) then (bif inB x3 ((x4).length / 2) then ((x4[((Int.toNat x3)*2)]?).bind fun e7=>((oSl 1 e7).bind fun c8=>(bif inB x3 ((x4).length / 2) then ((x4[(((Int.toNat x3)*2)+1)]?).bind fun e9=>((oSl 1 e9).bind fun c10=>((LIM F.spec_l8Joined [(.rref [(.sl 2 x0)] 0),(.sl 2 x1),(.sl 1 c8),(.sl 1 c10),(.int .i64 x2)]).bind fun r11=>((oNil r11.2).bind fun _=>((oTup r11.1).bind fun c12=>((oCons c12).bind fun p13=>((oInt .i64 p13.1).bind fun n14=>((oCons p13.2).bind fun p15=>((oInt .i64 p15.1).bind fun n16=>((oNil p15.2).bind fun _=>(bif ((n16 != (0:Int))) then some ((.tup [(.sl 2 []),(.int .i64 n16)]),[]) else (bif ((n14 == (0:Int))) then (bif inB x3 ((x4).length / 2) then ((x4[((Int.toNat x3)*2)]?).bind fun e17=>((oSl 1 e17).bind fun c18=>((x4[(((Int.toNat x3)*2)+1)]?).bind fun e19=>((oSl 1 e19).bind fun c20=>(bif Nat.ble (((x5).length+2)*48) (140737488355328*2) then (L0 (spec_l9Unjoined.st0 x0 x1 x2 (IntKind.wrap .i64 (x3+(1:Int))) (List.set (List.set x4 ((Int.toNat x3)*2) .hole) (((Int.toNat x3)*2)+1) .hole) (x5++[(.sl 1 c18),(.sl 1 c20)]:List T))) else none))))) else none) else (L0 (spec_l9Unjoined.st0 x0 x1 x2 (IntKind.wrap .i64 (x3+(1:Int))) x4 x5)))))))))))))) else none))) else none) else some ((.tup [(.sl 2 x5),(.int .i64 (0:Int))]),[])):=by kernel_rfl
theorem spec_l9Unjoined.ev (n:Nat) (a0_0:List T) (a1:List T) (a2:Int):callK prog A H LIM n F.spec_l9Unjoined [(.rref [(.sl 2 a0_0)] 0),(.sl 2 a1),(.int .i64 a2)]=((LIM F.spec_l9All [(.rref [(.sl 2 a0_0)] 0),(.sl 2 a1)]).bind fun r1=>((oNil r1.2).bind fun _=>((oTup r1.1).bind fun c2=>((oCons c2).bind fun p3=>((oSl 2 p3.1).bind fun c4=>((oCons p3.2).bind fun p5=>((oInt .i64 p5.1).bind fun n6=>((oNil p5.2).bind fun _=>(bif ((n6 != (0:Int))) then some ((.tup [(.sl 2 []),(.int .i64 n6)]),[]) else (spec_l9Unjoined.at0 n n (spec_l9Unjoined.st0 a0_0 a1 a2 (0:Int) c4 []))))))))))):=by kernel_rfl
end Ev
end
section
end
section
namespace Ev.Ty
open Go Ev
open Enc (enc)
open Sm (sm)
set_option linter.unusedVariables false
theorem call2_of {g:FuncId} {args:List T} {r:T × List T} (hx:X g=none) (n:Nat) (h:callK prog A H LIM n g args=some r):LIM g args=some r:=lim_of hx n h
theorem set_same {α:Type} {o:List α} {i:Nat} {x:α} (h:o[i]?=some x):o.set i x=o:=by
 refine List.ext_getElem? fun j => ?_
 rw [List.getElem?_set]
 split
 · rename_i e; subst e
   have:=(List.getElem?_eq_some_iff.1 h).1
   rw [if_pos this,h]
 · rfl
end Ev.Ty
end
section
namespace Ev.Ty
open Go Ev
end Ev.Ty
end
section
namespace Ev.Ty
open Go Ev
open Enc (enc)
open Sm (sm)
set_option linter.unusedVariables false
set_option linter.unusedSimpArgs false
theorem laws_toSymbol (v_name:ByteArray) (v_arity:Int) (hs:sm 4294967296 (Symbol.mk v_name v_arity)):Call F.laws_toSymbol [.agg [.str v_name,.int .i64 v_arity]] (.agg [.str v_name,.int .i64 v_arity]):=by
 refine call_of rfl 0 ((laws_toSymbol.ev _ _ _ ).trans ?_)
 simp only [evz,Nat.reduceLT]
theorem laws_eqSymbol (v_name:ByteArray) (v_arity:Int) (w_name:ByteArray) (w_arity:Int) (hs:sm 4294967296 (Symbol.mk v_name v_arity)):Call F.laws_eqSymbol [.agg [.str v_name,.int .i64 v_arity],.agg [.str w_name,.int .i64 w_arity]] (.bool (decide ((Symbol.mk v_name v_arity)=(Symbol.mk w_name w_arity)))):=by
 refine call_of rfl 0 ((laws_eqSymbol.ev _ _ _ _ _ ).trans ?_)
 simp only [evz,Nat.reduceLT,Symbol.mk.injEq]
 by_cases h0:v_name=w_name
 case neg=>simp only [h0,  if_true,if_false,decide_false,cond_false,false_and,and_false]
 by_cases h1:v_arity=w_arity
 case neg=>simp only [h1,h0,  if_true,if_false,decide_false,cond_false,false_and,and_false]
 simp only [h0,h1,if_true,decide_true,cond_true,and_true,and_self]
theorem laws_szSymbol (v_name:ByteArray) (v_arity:Int) (left:Int) (h0:0≤left) (h1:left≤1048576) (hs:sm maxLen (Symbol.mk v_name v_arity)):∃ r,Call F.laws_szSymbol [.agg [.str v_name,.int .i64 v_arity],.int .i64 left] (.int .i64 r)∧r≤left∧(0≤r→sm 1048576 (Symbol.mk v_name v_arity)):=by
 have hl0:=hs
 have hl0:v_name.size≤maxLen:=hl0
 obtain ⟨r0,e0,hr0,hp0⟩:∃ r,r=left - (v_name.size:Int)∧r≤left∧(0≤r→v_name.size≤1048576):=⟨_,rfl,by omega,fun _=>by omega⟩
 have hw0:IntKind.wrap .i64 (left - ((v_name.size:Nat):Int))=r0:=by rw [wrap64 (by unfold maxLen at hl0; omega)]; exact e0.symm
 by_cases n0:r0 < 0
 · exact ⟨-1,call_of rfl 0 ((laws_szSymbol.ev _ _ _ _ ).trans (by simp only [evz,Nat.reduceLT,hw0,n0])),by omega,by omega⟩
 exact ⟨r0,call_of rfl 0 ((laws_szSymbol.ev _ _ _ _ ).trans (by simp only [evz,Nat.reduceLT,hw0,n0])),by omega,fun _=>hp0 (by omega)⟩
theorem laws_toSymbolS (l:List Symbol) (hs:sm 4294967296 l):Call F.laws_toSymbolS [slc l] (slc l):=by
 have loop:=to_loop (l:=l) (S:=fun m k o=>laws_toSymbolS.at0 (l.length+1) m (laws_toSymbolS.st0 (cells l) (k:Nat) (cells o))) (z:=slc l)
  (fun m k o h ho=>by
   simp only [laws_toSymbolS.next0,laws_toSymbolS.round0,evz,Nat.reduceLT,List.length_replicate,h,ho,(laws_toSymbol l[k].name l[k].arity (hs.2 _ (List.getElem_mem h))).eq,List.getElem?_eq_getElem,enc_Symbol]
   rw [set_Symbol (by omega),wrap_succ (by have:=hs.1; omega)]
   simp only [cells_length,sz_Symbol,sz_int,sz_u8,sz_list,ho]
   rw [if_pos (by omega)])
  (fun m o ho=>by
   simp only [laws_toSymbolS.next0,laws_toSymbolS.round0,evz,Nat.reduceLT,Nat.lt_irrefl,ho])
 refine call_of rfl (l.length+1) ((laws_toSymbolS.ev _ _).trans ?_)
 simp only [cells_div,sz_Symbol,sz_int,sz_u8,sz_list,Int.toNat_natCast,rep_Symbol]
 rw [cond_pos (by have:=hs.1; simp; omega)]
 exact loop _ (by simp)
theorem laws_eqSymbolS (l r:List Symbol) (hs:sm 4294967296 l):Call F.laws_eqSymbolS [slc l,slc r] (.bool (decide (l=r))):=by
 refine call_of rfl (l.length+1) ((laws_eqSymbolS.ev _ _ _).trans ?_)
 simp only [cells_div,sz_Symbol,sz_int,sz_u8,sz_list]
 by_cases hl:l.length=r.length
 · have loop:=eq_loop hl (S:=fun m k=>laws_eqSymbolS.at0 (l.length+1) m (laws_eqSymbolS.st0 (cells l) (cells r) (k:Nat)))
    (fun m k h h'=>by
     simp only [laws_eqSymbolS.next0,laws_eqSymbolS.round0,evz,Nat.reduceLT,h,h',(laws_eqSymbol l[k].name l[k].arity r[k].name r[k].arity (hs.2 _ (List.getElem_mem h))).eq,List.getElem?_eq_getElem,enc_Symbol]
     rw [wrap_succ (by have:=hs.1; omega)])
    (fun m=>by
     simp only [laws_eqSymbolS.next0,laws_eqSymbolS.round0,evz,Nat.reduceLT,Nat.lt_irrefl])
   rw [cond_neg (by rw [hl]; exact bne_self_eq_false _)]
   exact loop
 · rw [cond_pos (by simp; omega)]
   simp only [show (l=r)=False from eq_false fun e=>hl (e ▸ rfl),decide_false]
theorem laws_szSymbolS (l:List Symbol) (left:Int) (h0:0≤left) (h1:left≤1048576) (hs:sm maxLen l):∃ r,Call F.laws_szSymbolS [slc l,.int .i64 left] (.int .i64 r)∧r≤left∧(0≤r→sm 1048576 l):=by
 have hl:=hs.1
 have hw:IntKind.wrap .i64 (left - ((l.length:Nat):Int))=left - l.length:=wrap64 (by unfold maxLen at hl; omega)
 by_cases h:left - (l.length:Int) < 0
 · exact ⟨-1,call_of rfl 0 ((laws_szSymbolS.ev _ _ _).trans (by simp only [evz,Nat.reduceLT,hw,h])),by omega,by omega⟩
 · obtain ⟨r,e,hr,hp⟩:=sz_loop (l:=l) (P:=sm 1048576) (S:=fun m k left=>laws_szSymbolS.at0 (l.length+1) m (laws_szSymbolS.st0 (cells l) left (k:Nat)))
    (fun m k left hk h0 h1=>by
     obtain ⟨r,c,hr,hp⟩:=laws_szSymbol l[k].name l[k].arity left h0 h1 (hs.2 _ (List.getElem_mem hk))
     refine ⟨r,hr,hp,?_⟩
     simp only [laws_szSymbolS.next0,laws_szSymbolS.round0,evz,Nat.reduceLT,hk,List.getElem?_eq_getElem,enc_Symbol,c.eq]
     rw [wrap_succ (by unfold maxLen at hl; omega)])
    (fun m left=>by simp only [laws_szSymbolS.next0,laws_szSymbolS.round0,evz,Nat.reduceLT,Nat.lt_irrefl])
    (left - l.length) (by omega) (by omega)
   refine ⟨r,call_of rfl (l.length+1) ((laws_szSymbolS.ev _ _ _).trans ?_),by omega,fun h=>⟨by omega,hp h⟩⟩
   simp only [cells_div,sz_Symbol,sz_list,hw,h,decide_false,cond_false]
   exact e
theorem laws_toSignature (v_symbols:List Symbol) (hs:sm 4294967296 (Signature.mk v_symbols)):Call F.laws_toSignature [.agg [slc v_symbols]] (.agg [slc v_symbols]):=by
 refine call_of rfl 0 ((laws_toSignature.ev _ _ ).trans ?_)
 simp only [evz,Nat.reduceLT,(laws_toSymbolS _ hs).eq]
theorem laws_eqSignature (v_symbols:List Symbol) (w_symbols:List Symbol) (hs:sm 4294967296 (Signature.mk v_symbols)):Call F.laws_eqSignature [.agg [slc v_symbols],.agg [slc w_symbols]] (.bool (decide ((Signature.mk v_symbols)=(Signature.mk w_symbols)))):=by
 refine call_of rfl 0 ((laws_eqSignature.ev _ _ _ ).trans ?_)
 simp only [evz,Nat.reduceLT,(laws_eqSymbolS _ _ hs).eq,Signature.mk.injEq]
 by_cases h0:v_symbols=w_symbols
 case neg=>simp only [h0,  if_true,if_false,decide_false,cond_false,false_and,and_false]
 simp only [h0,if_true,decide_true,cond_true,and_true,and_self]
theorem laws_szSignature (v_symbols:List Symbol) (left:Int) (h0:0≤left) (h1:left≤1048576) (hs:sm maxLen (Signature.mk v_symbols)):∃ r,Call F.laws_szSignature [.agg [slc v_symbols],.int .i64 left] (.int .i64 r)∧r≤left∧(0≤r→sm 1048576 (Signature.mk v_symbols)):=by
 obtain ⟨r0,c0,hr0,hp0⟩:=laws_szSymbolS v_symbols left h0 h1 (hs)
 by_cases n0:r0 < 0
 · exact ⟨-1,call_of rfl 0 ((laws_szSignature.ev _ _ _ ).trans (by simp only [evz,Nat.reduceLT,c0.eq,n0])),by omega,by omega⟩
 exact ⟨r0,call_of rfl 0 ((laws_szSignature.ev _ _ _ ).trans (by simp only [evz,Nat.reduceLT,c0.eq,n0])),by omega,fun _=>hp0 (by omega)⟩
theorem laws_toInt64S (l:List Int) (hs:sm 4294967296 l):Call F.laws_toInt64S [slc l] (slc l):=by
 have loop:=to_loop (l:=l) (S:=fun m k o=>laws_toInt64S.at0 (l.length+1) m (laws_toInt64S.st0 (cells l) (k:Nat) (cells o))) (z:=slc l)
  (fun m k o h ho=>by
   simp only [laws_toInt64S.next0,laws_toInt64S.round0,evz,Nat.reduceLT,List.length_replicate,h,ho,List.getElem?_eq_getElem,enc_int,enc_u8,enc_list]
   rw [set_Int (by omega),wrap_succ (by have:=hs.1; omega)]
   simp only [cells_length,sz_int,sz_u8,sz_list,ho]
   rw [if_pos (by omega)])
  (fun m o ho=>by
   simp only [laws_toInt64S.next0,laws_toInt64S.round0,evz,Nat.reduceLT,Nat.lt_irrefl,ho])
 refine call_of rfl (l.length+1) ((laws_toInt64S.ev _ _).trans ?_)
 simp only [cells_div,sz_int,sz_u8,sz_list,Int.toNat_natCast,rep_Int]
 rw [cond_pos (by have:=hs.1; simp; omega)]
 exact loop _ (by simp)
theorem laws_eqInt64S (l r:List Int) (hs:sm 4294967296 l):Call F.laws_eqInt64S [slc l,slc r] (.bool (decide (l=r))):=by
 refine call_of rfl (l.length+1) ((laws_eqInt64S.ev _ _ _).trans ?_)
 simp only [cells_div,sz_int,sz_u8,sz_list]
 by_cases hl:l.length=r.length
 · have loop:=eq_loop hl (S:=fun m k=>laws_eqInt64S.at0 (l.length+1) m (laws_eqInt64S.st0 (cells l) (cells r) (k:Nat)))
    (fun m k h h'=>by
     simp only [laws_eqInt64S.next0,laws_eqInt64S.round0,evz,Nat.reduceLT,h,h',List.getElem?_eq_getElem,enc_int,enc_u8,enc_list]
     rw [wrap_succ (by have:=hs.1; omega)])
    (fun m=>by
     simp only [laws_eqInt64S.next0,laws_eqInt64S.round0,evz,Nat.reduceLT,Nat.lt_irrefl])
   rw [cond_neg (by rw [hl]; exact bne_self_eq_false _)]
   exact loop
 · rw [cond_pos (by simp; omega)]
   simp only [show (l=r)=False from eq_false fun e=>hl (e ▸ rfl),decide_false]
theorem laws_szInt64S (l:List Int) (left:Int) (h0:0≤left) (h1:left≤1048576) (hs:sm maxLen l):∃ r,Call F.laws_szInt64S [slc l,.int .i64 left] (.int .i64 r)∧r≤left∧(0≤r→sm 1048576 l):=by
 have hl:=hs.1
 have hw:IntKind.wrap .i64 (left - ((l.length:Nat):Int))=left - l.length:=wrap64 (by unfold maxLen at hl; omega)
 by_cases h:left - (l.length:Int) < 0
 · exact ⟨-1,call_of rfl 0 ((laws_szInt64S.ev _ _ _).trans (by simp only [evz,Nat.reduceLT,hw,h])),by omega,by omega⟩
 · refine ⟨left - l.length,call_of rfl 0 ((laws_szInt64S.ev _ _ _).trans (by simp only [evz,Nat.reduceLT,hw,h])),by omega,fun _=>⟨by omega,fun x hx=>trivial⟩⟩
theorem laws_toEquation (v_left:List Int) (v_right:List Int) (hs:sm 4294967296 (Equation.mk v_left v_right)):Call F.laws_toEquation [.agg [slc v_left,slc v_right]] (.agg [slc v_left,slc v_right]):=by
 refine call_of rfl 0 ((laws_toEquation.ev _ _ _ ).trans ?_)
 simp only [evz,Nat.reduceLT,(laws_toInt64S _ hs.1).eq,(laws_toInt64S _ hs.2).eq]
theorem laws_eqEquation (v_left:List Int) (v_right:List Int) (w_left:List Int) (w_right:List Int) (hs:sm 4294967296 (Equation.mk v_left v_right)):Call F.laws_eqEquation [.agg [slc v_left,slc v_right],.agg [slc w_left,slc w_right]] (.bool (decide ((Equation.mk v_left v_right)=(Equation.mk w_left w_right)))):=by
 refine call_of rfl 0 ((laws_eqEquation.ev _ _ _ _ _ ).trans ?_)
 simp only [evz,Nat.reduceLT,(laws_eqInt64S _ _ hs.1).eq,(laws_eqInt64S _ _ hs.2).eq,Equation.mk.injEq]
 by_cases h0:v_left=w_left
 case neg=>simp only [h0,  if_true,if_false,decide_false,cond_false,false_and,and_false]
 by_cases h1:v_right=w_right
 case neg=>simp only [h1,h0,  if_true,if_false,decide_false,cond_false,false_and,and_false]
 simp only [h0,h1,if_true,decide_true,cond_true,and_true,and_self]
theorem laws_szEquation (v_left:List Int) (v_right:List Int) (left:Int) (h0:0≤left) (h1:left≤1048576) (hs:sm maxLen (Equation.mk v_left v_right)):∃ r,Call F.laws_szEquation [.agg [slc v_left,slc v_right],.int .i64 left] (.int .i64 r)∧r≤left∧(0≤r→sm 1048576 (Equation.mk v_left v_right)):=by
 obtain ⟨r0,c0,hr0,hp0⟩:=laws_szInt64S v_left left h0 h1 (hs.1)
 by_cases n0:r0 < 0
 · exact ⟨-1,call_of rfl 0 ((laws_szEquation.ev _ _ _ _ ).trans (by simp only [evz,Nat.reduceLT,c0.eq,n0])),by omega,by omega⟩
 obtain ⟨r1,c1,hr1,hp1⟩:=laws_szInt64S v_right r0 (by omega) (by omega) (hs.2)
 by_cases n1:r1 < 0
 · exact ⟨-1,call_of rfl 0 ((laws_szEquation.ev _ _ _ _ ).trans (by simp only [evz,Nat.reduceLT,c0.eq,c1.eq,n0,n1])),by omega,by omega⟩
 exact ⟨r1,call_of rfl 0 ((laws_szEquation.ev _ _ _ _ ).trans (by simp only [evz,Nat.reduceLT,c0.eq,c1.eq,n0,n1])),by omega,fun _=>⟨hp0 (by omega),hp1 (by omega)⟩⟩
theorem laws_toEquationS (l:List Equation) (hs:sm 4294967296 l):Call F.laws_toEquationS [slc l] (slc l):=by
 have loop:=to_loop (l:=l) (S:=fun m k o=>laws_toEquationS.at0 (l.length+1) m (laws_toEquationS.st0 (cells l) (k:Nat) (cells o))) (z:=slc l)
  (fun m k o h ho=>by
   simp only [laws_toEquationS.next0,laws_toEquationS.round0,evz,Nat.reduceLT,List.length_replicate,h,ho,(laws_toEquation l[k].left l[k].right (hs.2 _ (List.getElem_mem h))).eq,List.getElem?_eq_getElem,enc_Equation]
   rw [set_Equation (by omega),wrap_succ (by have:=hs.1; omega)]
   simp only [cells_length,sz_Equation,sz_int,sz_u8,sz_list,ho]
   rw [if_pos (by omega)])
  (fun m o ho=>by
   simp only [laws_toEquationS.next0,laws_toEquationS.round0,evz,Nat.reduceLT,Nat.lt_irrefl,ho])
 refine call_of rfl (l.length+1) ((laws_toEquationS.ev _ _).trans ?_)
 simp only [cells_div,sz_Equation,sz_int,sz_u8,sz_list,Int.toNat_natCast,rep_Equation]
 rw [cond_pos (by have:=hs.1; simp; omega)]
 exact loop _ (by simp)
theorem laws_eqEquationS (l r:List Equation) (hs:sm 4294967296 l):Call F.laws_eqEquationS [slc l,slc r] (.bool (decide (l=r))):=by
 refine call_of rfl (l.length+1) ((laws_eqEquationS.ev _ _ _).trans ?_)
 simp only [cells_div,sz_Equation,sz_int,sz_u8,sz_list]
 by_cases hl:l.length=r.length
 · have loop:=eq_loop hl (S:=fun m k=>laws_eqEquationS.at0 (l.length+1) m (laws_eqEquationS.st0 (cells l) (cells r) (k:Nat)))
    (fun m k h h'=>by
     simp only [laws_eqEquationS.next0,laws_eqEquationS.round0,evz,Nat.reduceLT,h,h',(laws_eqEquation l[k].left l[k].right r[k].left r[k].right (hs.2 _ (List.getElem_mem h))).eq,List.getElem?_eq_getElem,enc_Equation]
     rw [wrap_succ (by have:=hs.1; omega)])
    (fun m=>by
     simp only [laws_eqEquationS.next0,laws_eqEquationS.round0,evz,Nat.reduceLT,Nat.lt_irrefl])
   rw [cond_neg (by rw [hl]; exact bne_self_eq_false _)]
   exact loop
 · rw [cond_pos (by simp; omega)]
   simp only [show (l=r)=False from eq_false fun e=>hl (e ▸ rfl),decide_false]
theorem laws_szEquationS (l:List Equation) (left:Int) (h0:0≤left) (h1:left≤1048576) (hs:sm maxLen l):∃ r,Call F.laws_szEquationS [slc l,.int .i64 left] (.int .i64 r)∧r≤left∧(0≤r→sm 1048576 l):=by
 have hl:=hs.1
 have hw:IntKind.wrap .i64 (left - ((l.length:Nat):Int))=left - l.length:=wrap64 (by unfold maxLen at hl; omega)
 by_cases h:left - (l.length:Int) < 0
 · exact ⟨-1,call_of rfl 0 ((laws_szEquationS.ev _ _ _).trans (by simp only [evz,Nat.reduceLT,hw,h])),by omega,by omega⟩
 · obtain ⟨r,e,hr,hp⟩:=sz_loop (l:=l) (P:=sm 1048576) (S:=fun m k left=>laws_szEquationS.at0 (l.length+1) m (laws_szEquationS.st0 (cells l) left (k:Nat)))
    (fun m k left hk h0 h1=>by
     obtain ⟨r,c,hr,hp⟩:=laws_szEquation l[k].left l[k].right left h0 h1 (hs.2 _ (List.getElem_mem hk))
     refine ⟨r,hr,hp,?_⟩
     simp only [laws_szEquationS.next0,laws_szEquationS.round0,evz,Nat.reduceLT,hk,List.getElem?_eq_getElem,enc_Equation,c.eq]
     rw [wrap_succ (by unfold maxLen at hl; omega)])
    (fun m left=>by simp only [laws_szEquationS.next0,laws_szEquationS.round0,evz,Nat.reduceLT,Nat.lt_irrefl])
    (left - l.length) (by omega) (by omega)
   refine ⟨r,call_of rfl (l.length+1) ((laws_szEquationS.ev _ _ _).trans ?_),by omega,fun h=>⟨by omega,hp h⟩⟩
   simp only [cells_div,sz_Equation,sz_list,hw,h,decide_false,cond_false]
   exact e
theorem laws_toTheory (v_order:List Int) (v_equations:List Equation) (v_rules:List Equation) (hs:sm 4294967296 (Theory.mk v_order v_equations v_rules)):Call F.laws_toTheory [.agg [slc v_order,slc v_equations,slc v_rules]] (.agg [slc v_order,slc v_equations,slc v_rules]):=by
 refine call_of rfl 0 ((laws_toTheory.ev _ _ _ _ ).trans ?_)
 simp only [evz,Nat.reduceLT,(laws_toInt64S _ hs.1).eq,(laws_toEquationS _ hs.2.1).eq,(laws_toEquationS _ hs.2.2).eq]
theorem laws_eqTheory (v_order:List Int) (v_equations:List Equation) (v_rules:List Equation) (w_order:List Int) (w_equations:List Equation) (w_rules:List Equation) (hs:sm 4294967296 (Theory.mk v_order v_equations v_rules)):Call F.laws_eqTheory [.agg [slc v_order,slc v_equations,slc v_rules],.agg [slc w_order,slc w_equations,slc w_rules]] (.bool (decide ((Theory.mk v_order v_equations v_rules)=(Theory.mk w_order w_equations w_rules)))):=by
 refine call_of rfl 0 ((laws_eqTheory.ev _ _ _ _ _ _ _ ).trans ?_)
 simp only [evz,Nat.reduceLT,(laws_eqInt64S _ _ hs.1).eq,(laws_eqEquationS _ _ hs.2.1).eq,(laws_eqEquationS _ _ hs.2.2).eq,Theory.mk.injEq]
 by_cases h0:v_order=w_order
 case neg=>simp only [h0,  if_true,if_false,decide_false,cond_false,false_and,and_false]
 by_cases h1:v_equations=w_equations
 case neg=>simp only [h1,h0,  if_true,if_false,decide_false,cond_false,false_and,and_false]
 by_cases h2:v_rules=w_rules
 case neg=>simp only [h2,h0,h1,  if_true,if_false,decide_false,cond_false,false_and,and_false]
 simp only [h0,h1,h2,if_true,decide_true,cond_true,and_true,and_self]
theorem laws_szTheory (v_order:List Int) (v_equations:List Equation) (v_rules:List Equation) (left:Int) (h0:0≤left) (h1:left≤1048576) (hs:sm maxLen (Theory.mk v_order v_equations v_rules)):∃ r,Call F.laws_szTheory [.agg [slc v_order,slc v_equations,slc v_rules],.int .i64 left] (.int .i64 r)∧r≤left∧(0≤r→sm 1048576 (Theory.mk v_order v_equations v_rules)):=by
 obtain ⟨r0,c0,hr0,hp0⟩:=laws_szInt64S v_order left h0 h1 (hs.1)
 by_cases n0:r0 < 0
 · exact ⟨-1,call_of rfl 0 ((laws_szTheory.ev _ _ _ _ _ ).trans (by simp only [evz,Nat.reduceLT,c0.eq,n0])),by omega,by omega⟩
 obtain ⟨r1,c1,hr1,hp1⟩:=laws_szEquationS v_equations r0 (by omega) (by omega) (hs.2.1)
 by_cases n1:r1 < 0
 · exact ⟨-1,call_of rfl 0 ((laws_szTheory.ev _ _ _ _ _ ).trans (by simp only [evz,Nat.reduceLT,c0.eq,c1.eq,n0,n1])),by omega,by omega⟩
 obtain ⟨r2,c2,hr2,hp2⟩:=laws_szEquationS v_rules r1 (by omega) (by omega) (hs.2.2)
 by_cases n2:r2 < 0
 · exact ⟨-1,call_of rfl 0 ((laws_szTheory.ev _ _ _ _ _ ).trans (by simp only [evz,Nat.reduceLT,c0.eq,c1.eq,c2.eq,n0,n1,n2])),by omega,by omega⟩
 exact ⟨r2,call_of rfl 0 ((laws_szTheory.ev _ _ _ _ _ ).trans (by simp only [evz,Nat.reduceLT,c0.eq,c1.eq,c2.eq,n0,n1,n2])),by omega,fun _=>⟨hp0 (by omega),hp1 (by omega),hp2 (by omega)⟩⟩
end Ev.Ty
end
section
namespace Ev.Ty
open Go Ev
open Enc (enc)
open Sm (sm)
set_option linter.unusedSimpArgs false
def inR (n a b:Int):Bool:=decide (a≤n∧n≤b)
theorem impl_within (n a b:Int):Call F.impl_within [.int .i64 n,.int .i64 a,.int .i64 b] (.bool (inR n a b)):=by
 refine call_of rfl 0 ((impl_within.ev _ _ _ _).trans ?_)
 simp only [evz,Nat.reduceLT,inR,ge_iff_le]
 by_cases h:a≤n <;> simp [h]
theorem spec_l1In (n a b:Int):Call F.spec_l1In [.int .i64 n,.int .i64 a,.int .i64 b] (.bool (inR n a b)):=by
 refine call_of rfl 0 ((spec_l1In.ev _ _ _ _).trans ?_)
 simp only [evz,Nat.reduceLT,inR,ge_iff_le]
 by_cases h:a≤n <;> simp [h]
def twice {β:Type} [DecidableEq β] (l:List β):Bool := !decide l.Nodup
theorem twice_iff {β:Type} [DecidableEq β] (l:List β):twice l=true↔∃ i j,j < i∧∃ (h:i < l.length) (h':j < l.length),l[i]=l[j]:=by
 unfold twice
 rw [Bool.not_eq_true',decide_eq_false_iff_not,List.Nodup,List.pairwise_iff_getElem]
 constructor
 · intro h
   simp only [Classical.not_forall] at h
   obtain ⟨i,j,h1,h2,h3,h4⟩:=h
   simp only [ne_eq,Classical.not_not] at h4
   exact ⟨j,i,h3,h2,h1,h4.symm⟩
 · rintro ⟨i,j,h1,h2,h3,h4⟩ h
   exact h j i h3 h2 h1 h4.symm
theorem twice_first {α β:Type} [DecidableEq β] (f:α→β) (l:List α):((List.range l.length).any fun k=>l[k]?.any fun x=>decide (idx (fun y=>decide (f y=f x)) l≠(k:Nat)))=twice (l.map f):=by
 rw [Bool.eq_iff_iff,twice_iff]
 simp only [List.any_eq_true,List.mem_range,List.length_map,List.getElem_map]
 constructor
 · rintro ⟨k,hk,h⟩
   rw [List.getElem?_eq_getElem hk,Option.any_some] at h
   simp only [decide_eq_true_eq] at h
   rcases idx_spec (fun y=>decide (f y=f l[k])) l with ⟨_,h1⟩ | ⟨i,hi,h1,h2,h3⟩
   · have:=h1 l[k] (List.getElem_mem hk)
     simp at this
   · rw [h1] at h
     simp only [decide_eq_true_eq] at h2
     rcases Nat.lt_trichotomy i k with hlt | heq | hgt
     · exact ⟨k,i,hlt,hk,hi,h2.symm⟩
     · subst heq; simp at h
     · have:=h3 k hgt
       simp at this
 · rintro ⟨i,j,hji,hi,hj,he⟩
   refine ⟨i,hi,?_⟩
   rw [List.getElem?_eq_getElem hi,Option.any_some]
   simp only [decide_eq_true_eq]
   rcases idx_spec (fun y=>decide (f y=f l[i])) l with ⟨h0,_⟩ | ⟨k,hk,h1,h2,h3⟩
   · rw [h0]; omega
   · rw [h1]
     intro hk'
     have:k=i:=by omega
     subst this
     have:=h3 j hji
     simp [he] at this
theorem twice_pairs {α β:Type} [DecidableEq β] (f:α→β) (l:List α):((List.range l.length).any fun i=>(List.range i).any fun j=>l[i]?.any fun x=>l[j]?.any fun y=>decide (f x=f y))=twice (l.map f):=by
 rw [Bool.eq_iff_iff,twice_iff]
 simp only [List.any_eq_true,List.mem_range,List.length_map,List.getElem_map]
 constructor
 · rintro ⟨i,hi,j,hj,h⟩
   rw [List.getElem?_eq_getElem hi,List.getElem?_eq_getElem (show j < l.length by omega)] at h
   exact ⟨i,j,hj,hi,by omega,by simpa using h⟩
 · rintro ⟨i,j,hji,hi,hj,he⟩
   refine ⟨i,hi,j,hji,?_⟩
   rw [List.getElem?_eq_getElem hi,List.getElem?_eq_getElem hj]
   simpa using he
end Ev.Ty
end
section
namespace Ev.Ty
open Go Ev
open Enc (enc)
open Sm (sm)
set_option linter.unusedSimpArgs false
set_option linter.unusedVariables false
def letter (b:UInt8):Bool:=decide (97≤b.toNat∧b.toNat≤122)
def nameOk (s:ByteArray):Bool:=decide (1≤s.size∧s.size≤3)&&s.data.toList.all letter
def letters:ByteArray:=ByteArray.mk #[97,98,99,100,101,102,103,104,105,106,107,108,109,110,111,112,113,114,115,116,117,118,119,120,121,122]
theorem letters_has (b:UInt8):letters.data.toList.contains b=letter b:=by
 have h:∀ n:Fin 256,letters.data.toList.contains (UInt8.ofNat n.val)=letter (UInt8.ofNat n.val):=by decide +kernel
 have:=h ⟨b.toNat,b.toNat_lt⟩
 simpa using this
theorem dropWhile_nil {α:Type} (p:α→Bool):∀ l:List α,(l.dropWhile p).isEmpty=l.all p
 | []=>rfl
 | x::l=>by
   rw [List.dropWhile_cons,List.all_cons]
   cases hp:p x with
   | true=>simpa using dropWhile_nil p l
   | false=>simp
theorem trimS_empty (l:List UInt8):(Lib.trimS l letters.data.toList).isEmpty=l.all letter:=by
 have e:(letters.data.toList.contains ·)=letter:=funext letters_has
 unfold Lib.trimS Lib.trimLeftS
 rw [e,dropWhile_nil]
 unfold Lib.trimRightS
 rw [e,List.all_reverse]
 have:∀ l:List UInt8,(l.dropWhile letter).all letter=l.all letter:=by
  intro l
  induction l with
  | nil=>rfl
  | cons x l ih =>
    rw [List.dropWhile_cons]
    cases hp:letter x with
    | true=>simp [hp,ih]
    | false=>simp [hp]
 rw [this,List.all_reverse]
theorem strings_Trim (s:ByteArray) (h:s.size≤3):Call F.strings_Trim [.str s,.str letters] (.str ⟨(Lib.trimS s.data.toList letters.data.toList).toArray⟩):=by
 refine lim_ext (e:=trimE) rfl (Ev.of fun m => ?_)
 show (bif decide (s.size≤9223372036854775807)&&decide (letters.size < 4294967281)&&letters.data.toList.all (fun b=>decide (b.toNat < 128)) then _ else _)=_
 rw [decide_eq_true (by omega),show decide (letters.size < 4294967281)=true by decide +kernel,show letters.data.toList.all (fun b=>decide (b.toNat < 128))=true by decide +kernel]
 rfl
theorem impl_isName (s:ByteArray):Call F.impl_isName [.str s] (.bool (nameOk s)):=by
 refine call_of rfl 0 ((impl_isName.ev _ _).trans ?_)
 simp only [evz,Nat.reduceLT,ge_iff_le,nameOk]
 by_cases h1:1≤s.size
 · by_cases h2:s.size≤3
   · have h1':(1:Int)≤s.size:=by omega
     have h2':(s.size:Int)≤3:=by omega
     rw [show (ByteArray.mk #[97,98,99,100,101,102,103,104,105,106,107,108,109,110,111,112,113,114,115,116,117,118,119,120,121,122])=letters from rfl]
     simp only [h1,h2,h1',h2',(strings_Trim s h2).eq,evz,Nat.reduceLT,and_self,Bool.true_and]
     rw [← trimS_empty]
     congr 3
     rw [Bool.eq_iff_iff,decide_eq_true_eq,List.isEmpty_iff]
     simp
   · have h1':(1:Int)≤s.size:=by omega
     have h2':¬ (s.size:Int)≤3:=by omega
     simp only [h1,h2,h1',h2',evz,Nat.reduceLT,and_false,Bool.false_and]
 · have h1':¬ (1:Int)≤s.size:=by omega
   simp only [h1,h1',evz,Nat.reduceLT,false_and,Bool.false_and]
theorem byte_at {s:ByteArray} {k:Nat} (h:k < s.data.toList.length):s.data.getD k 0=s.data.toList[k]:=by
 simp at h
 simp [Array.getD,h]
theorem spec_l2Name (s:ByteArray):Call F.spec_l2Name [.str s] (.bool (nameOk s)):=by
 refine call_of rfl (s.size+1) ((spec_l2Name.ev _ _).trans ?_)
 simp only [evz,Nat.reduceLT,gt_iff_lt,nameOk]
 by_cases h1:1≤s.size
 · by_cases h2:s.size≤3
   · have h1':¬ (s.size:Int) < 1:=by omega
     have h2':¬ (3:Int) < s.size:=by omega
     simp only [h1,h2,h1',h2',if_false,and_self,decide_true,Bool.true_and]
     have hsz:s.data.toList.length=s.size:=by rw [Array.length_toList]; rfl
     refine (any_loopL (l:=s.data.toList) (p:=fun b => !letter b) (S:=fun m k=>spec_l2Name.at0 (s.size+1) m (spec_l2Name.st0 s (k:Nat))) (r:=some (.bool false,[])) (z:=some (.bool true,[])) (fun m k h => ?_) (fun m => ?_) (by omega)).trans ?_
     · have h':k < s.size:=by omega
       simp only [spec_l2Name.next0,spec_l2Name.round0,evz,Nat.reduceLT,h',byte_at h]
       rw [wrap_succ (by omega)]
       unfold letter
       by_cases c1:s.data.toList[k].toNat < 97
       · have c1':(s.data.toList[k].toNat:Int) < 97:=by omega
         rw [if_pos c1',if_pos (by simp only [Bool.not_eq_true',decide_eq_false_iff_not]; omega)]
       · have c1':¬ (s.data.toList[k].toNat:Int) < 97:=by omega
         rw [if_neg c1']
         by_cases c2:122 < s.data.toList[k].toNat
         · have c2':(s.data.toList[k].toNat:Int) > 122:=by omega
           rw [if_pos c2',if_pos (by simp only [Bool.not_eq_true',decide_eq_false_iff_not]; omega)]
         · have c2':¬ (s.data.toList[k].toNat:Int) > 122:=by omega
           rw [if_neg c2',if_neg (by simp only [Bool.not_eq_true',decide_eq_false_iff_not]; omega)]
     · rw [hsz]; simp only [spec_l2Name.next0,spec_l2Name.round0,evz,Nat.reduceLT,Nat.lt_irrefl]
     · have:s.data.toList.any (fun b => !letter b) = !s.data.toList.all letter:=by rw [List.not_all_eq_any_not]
       rw [this]
       cases s.data.toList.all letter <;> rfl
   · have h1':¬ (s.size:Int) < 1:=by omega
     have h2':(3:Int) < s.size:=by omega
     simp only [h1,h2,h1',h2',evz,Nat.reduceLT,and_false,Bool.false_and]
 · have h1':(s.size:Int) < 1:=by omega
   simp only [h1,h1',evz,Nat.reduceLT,false_and,Bool.false_and]
def symFault (x:Symbol):Option Int:=if nameOk x.name=false then some 5 else if inR x.arity 0 2=false then some 3 else none
def sigFault (s:Signature):Int :=
 if s.symbols.length < 1∨6 < s.symbols.length then 2
 else match s.symbols.findSome? symFault with
  | some c=>c
  | none=>if twice (s.symbols.map (·.name)) then 6 else if s.symbols.any (fun x=>decide (x.arity=0)) then 0 else 4
theorem slices_IndexFunc_SSymbol_at1_impl_symbolIndex_1 (l:List Symbol) (hs:l.length≤4294967296) (n:ByteArray):Call F.slices_IndexFunc_SSymbol [slc l,.clo F.impl_symbolIndex_1 [.rref [.str n] 0]] (.int .i64 (idx (fun x=>decide (x.name=n)) l)):=by
 refine call_of rfl (l.length+1) ((slices_IndexFunc_SSymbol_at1_impl_symbolIndex_1.ev _ _ _).trans ?_)
 refine idx_loop (S:=fun m k=>slices_IndexFunc_SSymbol_at1_impl_symbolIndex_1.at0 (l.length+1) m (slices_IndexFunc_SSymbol_at1_impl_symbolIndex_1.st0 (cells l) n _ (k:Nat))) (fun m k h => ?_) (fun m => ?_) (Nat.lt_succ_self _)
 · have hlk:l[k]?=some l[k]:=List.getElem?_eq_getElem h
   have hc:Call F.impl_symbolIndex_1 [.agg [.str l[k].name,.int .i64 l[k].arity],.rref [.str n] 0] (.bool (decide (l[k].name=n))):=by
    refine call_of rfl 0 ((impl_symbolIndex_1.ev _ _ _ _).trans ?_)
    simp only [evz,Nat.reduceLT]
   simp only [slices_IndexFunc_SSymbol_at1_impl_symbolIndex_1.next0,slices_IndexFunc_SSymbol_at1_impl_symbolIndex_1.round0,evz,Nat.reduceLT,h,hlk,enc_Symbol,hc.eq]
   rw [wrap_succ (by omega)]
   simp only [decide_eq_true_eq]
 · simp only [slices_IndexFunc_SSymbol_at1_impl_symbolIndex_1.next0,slices_IndexFunc_SSymbol_at1_impl_symbolIndex_1.round0,evz,Nat.reduceLT,Nat.lt_irrefl]
theorem impl_symbolIndex (l:List Symbol) (hs:l.length≤4294967296) (n:ByteArray):Call F.impl_symbolIndex [.agg [slc l],.str n] (.int .i64 (idx (fun x=>decide (x.name=n)) l)):=by
 refine call_of rfl 0 ((impl_symbolIndex.ev _ _ _).trans ?_)
 simp only [evz,Nat.reduceLT,(slices_IndexFunc_SSymbol_at1_impl_symbolIndex_1 l hs n).eq]
theorem slices_IndexFunc_SSymbol_at1_impl_SignatureFault_1 (l:List Symbol) (hs:l.length≤4294967296):Call F.slices_IndexFunc_SSymbol [slc l,.clo F.impl_SignatureFault_1 []] (.int .i64 (idx (fun x=>decide (x.arity=0)) l)):=by
 refine call_of rfl (l.length+1) ((slices_IndexFunc_SSymbol_at1_impl_SignatureFault_1.ev _ _).trans ?_)
 refine idx_loop (S:=fun m k=>slices_IndexFunc_SSymbol_at1_impl_SignatureFault_1.at0 (l.length+1) m (slices_IndexFunc_SSymbol_at1_impl_SignatureFault_1.st0 (cells l) _ (k:Nat))) (fun m k h => ?_) (fun m => ?_) (Nat.lt_succ_self _)
 · have hlk:l[k]?=some l[k]:=List.getElem?_eq_getElem h
   have hc:Call F.impl_SignatureFault_1 [.agg [.str l[k].name,.int .i64 l[k].arity]] (.bool (decide (l[k].arity=0))):=by
    refine call_of rfl 0 ((impl_SignatureFault_1.ev _ _ _).trans ?_)
    simp only [evz,Nat.reduceLT]
   simp only [slices_IndexFunc_SSymbol_at1_impl_SignatureFault_1.next0,slices_IndexFunc_SSymbol_at1_impl_SignatureFault_1.round0,evz,Nat.reduceLT,h,hlk,enc_Symbol,hc.eq]
   rw [wrap_succ (by omega)]
   simp only [decide_eq_true_eq]
 · simp only [slices_IndexFunc_SSymbol_at1_impl_SignatureFault_1.next0,slices_IndexFunc_SSymbol_at1_impl_SignatureFault_1.round0,evz,Nat.reduceLT,Nat.lt_irrefl]
theorem slices_ContainsFunc_SSymbol_at1_impl_SignatureFault_1 (l:List Symbol) (hs:l.length≤4294967296):Call F.slices_ContainsFunc_SSymbol [slc l,.clo F.impl_SignatureFault_1 []] (.bool (l.any fun x=>decide (x.arity=0))):=by
 refine call_of rfl 0 ((slices_ContainsFunc_SSymbol_at1_impl_SignatureFault_1.ev _ _).trans ?_)
 simp only [evz,Nat.reduceLT,(slices_IndexFunc_SSymbol_at1_impl_SignatureFault_1 l hs).eq,idx_nonneg]
theorem impl_SignatureFault (l:List Symbol) (hs:l.length≤4294967296):Call F.impl_SignatureFault [.agg [slc l]] (.int .i64 (sigFault ⟨l⟩)):=by
 refine call_of rfl (l.length+1) ((impl_SignatureFault.ev _ _).trans ?_)
 simp only [evz,Nat.reduceLT,sigFault,gt_iff_lt]
 by_cases h1:l.length < 1
 · have h1':(l.length:Int) < 1:=by omega
   simp only [h1,h1',evz,Nat.reduceLT,true_or]
 by_cases h2:6 < l.length
 · have h1':¬ (l.length:Int) < 1:=by omega
   have h2':(6:Int) < l.length:=by omega
   simp only [h1,h1',h2,h2',evz,Nat.reduceLT,or_true]
 have h1':¬ (l.length:Int) < 1:=by omega
 have h2':¬ (6:Int) < l.length:=by omega
 simp only [h1,h1',h2,h2',if_false,or_self]
 have two:=any_loop (n:=l.length) (bad:=fun k=>l[k]?.any fun x=>decide (idx (fun y=>decide (y.name=x.name)) l≠(k:Nat)))
  (S:=fun m k=>impl_SignatureFault.at2 (l.length+1) m (impl_SignatureFault.st2 (cells l) l.length (k:Nat) (cells l))) (r:=some (.int .i64 6,[])) (z:=if l.any (fun x=>decide (x.arity=0)) then some (.int .i64 0,[]) else some (.int .i64 4,[]))
  (fun m k h=>by
   have hlk:l[k]?=some l[k]:=List.getElem?_eq_getElem h
   simp only [impl_SignatureFault.next2,impl_SignatureFault.round2,evz,Nat.reduceLT,h,hlk,enc_Symbol,(impl_symbolIndex l hs _).eq]
   rw [wrap_succ (by omega)]
   by_cases e:idx (fun y=>decide (y.name=l[k].name)) l=(k:Int) <;> simp [e])
  (fun m=>by
   simp only [impl_SignatureFault.next2,impl_SignatureFault.round2,evz,Nat.reduceLT,Nat.lt_irrefl,(slices_ContainsFunc_SSymbol_at1_impl_SignatureFault_1 l hs).eq]
   cases l.any (fun x=>decide (x.arity=0)) <;> rfl) (Nat.lt_succ_self _)
 have one:=scan_loop (l:=l) (g:=fun x=>(symFault x).map fun c=>some (.int .i64 c,[]))
  (S:=fun m k=>impl_SignatureFault.at0 (l.length+1) m (impl_SignatureFault.st0 (cells l) l.length (k:Nat) (cells l)))
  (fun m k h=>by
   have hlk:l[k]?=some l[k]:=List.getElem?_eq_getElem h
   simp only [impl_SignatureFault.next0,impl_SignatureFault.round0,evz,Nat.reduceLT,h,hlk,enc_Symbol,(impl_isName _).eq,(impl_within _ _ _).eq]
   rw [wrap_succ (by omega)]
   cases h5:nameOk l[k].name with
   | false=>simp [symFault,h5]
   | true=>cases h6:inR l[k].arity 0 2 <;> simp [symFault,h5,h6])
  (fun m=>by simp only [impl_SignatureFault.next0,impl_SignatureFault.round0,evz,Nat.reduceLT,Nat.lt_irrefl]; rfl) (Nat.lt_succ_self _)
 refine one.trans ?_
 rw [show impl_SignatureFault.at2 (l.length+1) (l.length+1) (impl_SignatureFault.st2 (cells l) l.length 0 (cells l))=_ from two,twice_first (fun y:Symbol=>y.name),findSome_map]
 cases l.findSome? symFault with
 | some c=>rfl
 | none=>cases twice (l.map fun x=>x.name) <;> cases l.any (fun x=>decide (x.arity=0)) <;> rfl
theorem spec_SignatureFault (l:List Symbol) (hs:l.length≤4294967296):Call F.spec_SignatureFault [.agg [slc l]] (.int .i64 (sigFault ⟨l⟩)):=by
 obtain ⟨n,hn⟩:∃ n,n=l.length+1:=⟨_,rfl⟩
 refine call_of rfl n ((spec_SignatureFault.ev _ _).trans ?_)
 simp only [evz,Nat.reduceLT,sigFault,gt_iff_lt]
 by_cases h1:l.length < 1
 · have h1':(l.length:Int) < 1:=by omega
   simp only [h1,h1',evz,Nat.reduceLT,true_or]
 by_cases h2:6 < l.length
 · have h1':¬ (l.length:Int) < 1:=by omega
   have h2':(6:Int) < l.length:=by omega
   simp only [h1,h1',h2,h2',evz,Nat.reduceLT,or_true]
 have h1':¬ (l.length:Int) < 1:=by omega
 have h2':¬ (6:Int) < l.length:=by omega
 simp only [h1,h1',h2,h2',if_false,or_self]
 have six:=any_loopL (l:=l) (p:=fun x=>decide (x.arity=0)) (S:=fun m k=>spec_SignatureFault.at6 n m (spec_SignatureFault.st6 l.length (k:Nat) (cells l))) (r:=some (.int .i64 0,[])) (z:=some (.int .i64 4,[]))
  (fun m k h=>by
   have hlk:l[k]?=some l[k]:=List.getElem?_eq_getElem h
   simp only [spec_SignatureFault.next6,spec_SignatureFault.round6,evz,Nat.reduceLT,h,hlk,enc_Symbol]
   rw [wrap_succ (by omega)]
   simp only [decide_eq_true_eq])
  (fun m=>by simp only [spec_SignatureFault.next6,spec_SignatureFault.round6,evz,Nat.reduceLT,Nat.lt_irrefl]) (show l.length < n by omega)
 have two:=any_loop (n:=l.length) (bad:=fun i=>(List.range i).any fun j=>l[i]?.any fun x=>l[j]?.any fun y=>decide (x.name=y.name))
  (S:=fun m i=>spec_SignatureFault.at2 n m (spec_SignatureFault.st2 l.length (i:Nat) (cells l))) (r:=some (.int .i64 6,[]))
  (fun m i h=>by
   have hlk:l[i]?=some l[i]:=List.getElem?_eq_getElem h
   simp only [spec_SignatureFault.next2,spec_SignatureFault.round2,evz,Nat.reduceLT,h]
   refine any_loop (n:=i) (f:=n) (bad:=fun j=>l[i]?.any fun x=>l[j]?.any fun y=>decide (x.name=y.name))
    (S:=fun m' j=>spec_SignatureFault.at4 n (spec_SignatureFault.at2 n m) m' (spec_SignatureFault.st4 l.length (i:Nat) (j:Nat) (cells l))) (fun m' j hj => ?_) (fun m' => ?_) (by omega)
   · have hj':j < l.length:=by omega
     have hjk:l[j]?=some l[j]:=List.getElem?_eq_getElem hj'
     simp only [spec_SignatureFault.next4,spec_SignatureFault.round4,evz,Nat.reduceLT,h,hj,hj',hlk,hjk,enc_Symbol]
     rw [wrap_succ (by omega)]
     by_cases e:l[i].name=l[j].name <;> simp [e]
   · simp only [spec_SignatureFault.next4,spec_SignatureFault.round4,evz,Nat.reduceLT,Nat.lt_irrefl]
     rw [wrap_succ (by omega)])
  (fun m=>by simp only [spec_SignatureFault.next2,spec_SignatureFault.round2,evz,Nat.reduceLT,Nat.lt_irrefl]; exact six) (show l.length < n by omega)
 have one:=scan_loop (l:=l) (g:=fun x=>(symFault x).map fun c=>some (.int .i64 c,[]))
  (S:=fun m k=>spec_SignatureFault.at0 n m (spec_SignatureFault.st0 l.length (k:Nat) (cells l)))
  (fun m k h=>by
   have hlk:l[k]?=some l[k]:=List.getElem?_eq_getElem h
   simp only [spec_SignatureFault.next0,spec_SignatureFault.round0,evz,Nat.reduceLT,h,hlk,enc_Symbol,(spec_l2Name _).eq,(spec_l1In _ _ _).eq]
   rw [wrap_succ (by omega)]
   cases h5:nameOk l[k].name with
   | false=>simp [symFault,h5]
   | true=>cases h6:inR l[k].arity 0 2 <;> simp [symFault,h5,h6])
  (fun m=>by simp only [spec_SignatureFault.next0,spec_SignatureFault.round0,evz,Nat.reduceLT,Nat.lt_irrefl]; rfl) (show l.length < n by omega)
 refine one.trans ?_
 rw [show spec_SignatureFault.at2 n n (spec_SignatureFault.st2 l.length 0 (cells l))=_ from two,twice_pairs (fun y:Symbol=>y.name),findSome_map]
 cases l.findSome? symFault with
 | some c=>rfl
 | none=>cases twice (l.map fun x=>x.name) <;> cases l.any (fun x=>decide (x.arity=0)) <;> rfl
end Ev.Ty
end
section
namespace Ev.Ty
open Go Ev
open Enc (enc)
open Sm (sm)
set_option linter.unusedSimpArgs false
set_option linter.unusedVariables false
theorem inR_iff {n a b:Int}:inR n a b=true↔a≤n∧n≤b:=by unfold inR; simp
structure SigOk (s:Signature):Prop where
 pos:1≤s.symbols.length
 le:s.symbols.length≤6
 name:∀ x∈s.symbols,nameOk x.name=true
 arity:∀ x∈s.symbols,0≤x.arity∧x.arity≤2
 nodup:(s.symbols.map (·.name)).Nodup
 const:∃ x∈s.symbols,x.arity=0
theorem findSome_none {α β:Type} {f:α→Option β}:∀ {l:List α},l.findSome? f=none↔∀ x∈l,f x=none
 | []=>by simp
 | x::l=>by
   rw [List.findSome?_cons]
   cases h:f x with
   | some b=>simp [h]
   | none=>simp [h,findSome_none (l:=l)]
theorem sigOk_iff (s:Signature):sigFault s=0↔SigOk s:=by
 unfold sigFault
 constructor
 · intro h
   split at h
   · cases h
   · rename_i h1
     split at h
     · rename_i c hc
       obtain ⟨x,hx,hf⟩:=List.exists_of_findSome?_eq_some hc
       unfold symFault at hf
       split at hf
       · cases hf; cases h
       · split at hf
         · cases hf; cases h
         · cases hf
     · rename_i hn
       rw [findSome_none] at hn
       split at h
       · cases h
       · rename_i ht
         split at h
         · rename_i ha
           have hx:∀ x∈s.symbols,nameOk x.name=true∧inR x.arity 0 2=true:=fun x hx=>by
            have:=hn x hx
            unfold symFault at this
            split at this
            · cases this
            · split at this
              · cases this
              · rename_i h1 h2; exact ⟨by simpa using h1,by simpa using h2⟩
           refine ⟨by omega,by omega,fun x h=>(hx x h).1,fun x h=>inR_iff.1 (hx x h).2,?_,?_⟩
           · unfold twice at ht; simpa using ht
           · rw [List.any_eq_true] at ha
             obtain ⟨x,h1,h2⟩:=ha
             exact ⟨x,h1,by simpa using h2⟩
         · cases h
 · intro h
   rw [if_neg (by have:=h.pos; have:=h.le; omega)]
   have:s.symbols.findSome? symFault=none:=findSome_none.2 fun x hx=>by
    unfold symFault
    rw [if_neg (by simp [h.name x hx]),if_neg (by have:=inR_iff.2 (h.arity x hx); simp [this])]
   rw [this]
   simp only
   rw [if_neg (by unfold twice; simpa using h.nodup),if_pos]
   rw [List.any_eq_true]
   obtain ⟨x,h1,h2⟩:=h.const
   exact ⟨x,h1,by simpa using h2⟩
end Ev.Ty
end
section
namespace Ev.Ty
open Go Ev
open Enc (enc)
open Sm (sm)
set_option linter.unusedSimpArgs false
set_option linter.unusedVariables false
def ar (l:List Symbol) (n:Int):Nat:=if n < 0 then 0 else ((l[n.toNat]?).map fun x=>x.arity.toNat).getD 0
def nodeOk (l:List Symbol) (n:Int):Bool:=inR n 0 (l.length - 1)||inR n (-12) (-1)
def skip (a:Int→Nat):Nat→List Int→Option (List Int)
 | 0,l=>some l
 | _+1,[]=>none
 | k+1,n::l=>skip a (k+a n) l
def termFault0 (l:List Symbol) (t:List Int):Int :=
 if t.length < 1∨24 < t.length then 2 else if t.any (fun n => !nodeOk l n) then 3 else if skip (ar l) 1 t=some [] then 0 else 1
def termFault (s:Signature) (t:List Int):Int:=if sigFault s≠0 then sigFault s else termFault0 s.symbols t
section
variable {a:Int→Nat}
@[simp] theorem skip_zero (l:List Int):skip a 0 l=some l:=by cases l <;> rfl
theorem skip_suffix:∀ {l r:List Int} {k:Nat},skip a k l=some r→∃ p,l=p++r∧(0 < k→0 < p.length)
 | l,r,0,h=>by rw [skip_zero] at h; cases h; exact ⟨[],rfl,by omega⟩
 | [],r,k+1,h=>by cases h
 | n::l,r,k+1,h=>by
   obtain ⟨p,hp,_⟩:=skip_suffix (l:=l) (k:=k+a n) h
   exact ⟨n::p,by rw [hp]; rfl,by simp⟩
theorem skip_add:∀ (l:List Int) (j k:Nat),skip a (j+k) l=(skip a j l).bind (skip a k)
 | l,0,k=>by simp
 | [],j+1,k=>by rw [Nat.add_right_comm]; rfl
 | n::l,j+1,k=>by
   rw [Nat.add_right_comm]
   show skip a (j+k+a n) l=(skip a (j+a n) l).bind (skip a k)
   rw [Nat.add_right_comm,skip_add l (j+a n) k]
theorem skip_at {t r:List Int} {e k:Nat} (h:skip a k (t.drop e)=some r):r=t.drop (t.length - r.length)∧r.length≤t.length - e∧(0 < k→r.length < t.length - e):=by
 obtain ⟨p,hp,hk⟩:=skip_suffix h
 have hl:(t.drop e).length=p.length+r.length:=by rw [hp,List.length_append]
 rw [List.length_drop] at hl
 refine ⟨?_,by omega,fun h0=>by have:=hk h0; omega⟩
 have h1:t.length - r.length=e+p.length∨t.length≤e:=by omega
 rcases h1 with h1 | h1
 · rw [h1,← List.drop_drop,hp,List.drop_left]
 · have:r.length=0:=by omega
   rw [List.eq_nil_of_length_eq_zero this]
   simp
end
theorem nodeOk_iff {l:List Symbol} {n:Int}:nodeOk l n=true↔(0≤n∧n < l.length)∨(-12≤n∧n ≤ -1):=by
 unfold nodeOk
 rw [Bool.or_eq_true,inR_iff,inR_iff]
 omega
section
variable {l:List Symbol} (ok:SigOk ⟨l⟩)
include ok
theorem ar_le (n:Int):ar l n≤2:=by
 unfold ar
 split
 · omega
 · cases h:l[n.toNat]? with
   | none=>simp
   | some x =>
     have:=ok.arity x (List.mem_of_getElem? h)
     simp; omega
theorem impl_isNode (n:Int):Call F.impl_isNode [.agg [slc l],.int .i64 n] (.bool (nodeOk l n)):=by
 have hle:=ok.le
 have h1:Call F.impl_isSymbol [.agg [slc l],.int .i64 n] (.bool (inR n 0 (l.length - 1))):=by
  refine call_of rfl 0 ((impl_isSymbol.ev _ _ _).trans ?_)
  simp only [evz,Nat.reduceLT,wrap64 (x:=(l.length:Int) - 1) (by simp at hle; omega),(impl_within _ _ _).eq]
 refine call_of rfl 0 ((impl_isNode.ev _ _ _).trans ?_)
 simp only [evz,Nat.reduceLT,h1.eq,(impl_within _ _ _).eq,nodeOk]
 cases inR n 0 (l.length - 1) <;> simp [evz,Nat.reduceLT]
theorem spec_l3Node (n:Int):Call F.spec_l3Node [.rref [slc l] 0,.int .i64 n] (.bool (nodeOk l n)):=by
 have hle:=ok.le
 have h1:Call F.spec_l2Symbol [.rref [slc l] 0,.int .i64 n] (.bool (inR n 0 (l.length - 1))):=by
  refine call_of rfl 0 ((spec_l2Symbol.ev _ _ _).trans ?_)
  simp only [evz,Nat.reduceLT,wrap64 (x:=(l.length:Int) - 1) (by simp at hle; omega),(spec_l1In _ _ _).eq]
 refine call_of rfl 0 ((spec_l3Node.ev _ _ _).trans ?_)
 simp only [evz,Nat.reduceLT,h1.eq,(spec_l1In _ _ _).eq,nodeOk]
 cases inR n 0 (l.length - 1) <;> simp [evz,Nat.reduceLT]
theorem ar_eq {n:Int} (hn:0≤n) (h:n.toNat < l.length):(l[n.toNat]).arity=(ar l n:Nat):=by
 have:=ok.arity l[n.toNat] (List.getElem_mem h)
 unfold ar
 rw [if_neg (by omega),List.getElem?_eq_getElem h]
 simp; omega
theorem impl_arityOf (n:Int) (h:nodeOk l n=true):Call F.impl_arityOf [.agg [slc l],.int .i64 n] (.int .i64 (ar l n:Nat)):=by
 refine call_of rfl 0 ((impl_arityOf.ev _ _ _).trans ?_)
 rw [nodeOk_iff] at h
 by_cases hn:n < 0
 · simp [hn,ar]
 · obtain ⟨m,rfl⟩:∃ m:Nat,n=m:=⟨n.toNat,by omega⟩
   have hm:m < l.length:=by omega
   have e:=ar_eq ok (n:=m) (by omega) (by simpa using hm)
   have hl:l[m]?=some l[m]:=List.getElem?_eq_getElem hm
   have hn':¬ ((m:Int) < 0):=by omega
   simp only [evz,Nat.reduceLT,hn',hm,hl,enc_Symbol]
   simp at e
   rw [e]
def endRes (none':Int) (t:List Int) (r:Option (List Int)):Int:=match r with
 | some r=>((t.length - r.length:Nat):Int)
 | none=>none'
theorem impl_endOf (t:List Int) (ht:∀ n∈t,nodeOk l n=true) (hl:t.length≤4294967296) (e:Nat) (he:e≤t.length) :
 Call F.impl_endOf [.agg [slc l],slc t,.int .i64 e] (.int .i64 (endRes (t.length+1) t (skip (ar l) 1 (t.drop e)))):=by
 have loop:∀ m k o,k≤t.length→t.length+1 < m+k→o≤2*k+1 →
  impl_endOf.at0 (t.length+2) m (impl_endOf.st0 (cells t) (k:Nat) (o:Nat) (cells l))=some (.int .i64 (endRes (t.length+1) t (skip (ar l) o (t.drop k))),[]):=by
  intro m
  induction m with
  | zero=>intros; omega
  | succ m ih =>
    intro k o hk hm ho
    simp only [impl_endOf.next0,impl_endOf.round0,evz,Nat.reduceLT,gt_iff_lt,ge_iff_le]
    cases o with
    | zero =>
      rw [if_neg (by omega),skip_zero]
      simp only [endRes,List.length_drop]
      congr 3; omega
    | succ o =>
      rw [if_pos (by omega)]
      by_cases h:k < t.length
      · have hk':t[k]?=some t[k]:=List.getElem?_eq_getElem h
        have hn:=ht t[k] (List.getElem_mem h)
        have h2:=ar_le ok t[k]
        rw [if_neg (by omega)]
        simp only [h,hk',evz,Nat.reduceLT,enc_int,(impl_arityOf ok t[k] hn).eq]
        rw [wrap_succ (by omega),wrap64 (x:=((ar l t[k]:Nat):Int) - 1) (by omega),wrap64 (by omega)]
        rw [show ((o+1:Nat):Int)+(((ar l t[k]:Nat):Int) - 1)=((o+ar l t[k]:Nat):Int) by omega]
        rw [ih (k+1) (o+ar l t[k]) (by omega) (by omega) (by omega),List.drop_eq_getElem_cons h]
        rfl
      · obtain rfl:k=t.length:=by omega
        rw [if_pos (by omega),wrap64 (by omega),List.drop_of_length_le (Nat.le_refl _)]
        rfl
 refine call_of rfl (t.length+2) ((impl_endOf.ev _ _ _ _).trans ?_)
 have:=loop (t.length+2) e 1 he (by omega) (by omega)
 exact this
theorem spec_l3End (t:List Int) (ht:∀ n∈t,nodeOk l n=true) (hl:t.length≤4294967296) (e:Nat) (he:e≤t.length) :
 Call F.spec_l3End [.rref [slc l] 0,slc t,.int .i64 e] (.int .i64 (endRes (-1) t (skip (ar l) 1 (t.drop e)))):=by
 obtain ⟨d,hd⟩:∃ d,d=t.length - e:=⟨_,rfl⟩
 induction d using Nat.strongRecOn generalizing e with
 | ind d ih =>
 refine call_of rfl 4 ((spec_l3End.ev _ _ _ _).trans ?_)
 simp only [evz,Nat.reduceLT,ge_iff_le]
 by_cases h:e < t.length
 case neg =>
  obtain rfl:e=t.length:=by omega
  rw [if_pos (by omega),List.drop_of_length_le (Nat.le_refl _)]
  rfl
 have hk':t[e]?=some t[e]:=List.getElem?_eq_getElem h
 have hn:=ht t[e] (List.getElem_mem h)
 have h2:=ar_le ok t[e]
 rw [if_neg (by omega)]
 simp only [h,hk',evz,Nat.reduceLT,enc_int]
 rw [List.drop_eq_getElem_cons h]
 show _=some (T.int .i64 (endRes (-1) t (skip (ar l) (0+ar l t[e]) (t.drop (e+1)))),[])
 rw [Nat.zero_add,wrap_succ (by omega)]
 by_cases hneg:t[e] < 0
 · rw [if_pos hneg]
   have:ar l t[e]=0:=by unfold ar; rw [if_pos hneg]
   rw [this,skip_zero]
   simp only [endRes,List.length_drop]
   congr 3; omega
 rw [if_neg hneg]
 rw [nodeOk_iff] at hn
 obtain ⟨y,hy⟩:∃ y:Nat,t[e]=y:=⟨t[e].toNat,by omega⟩
 have hym:y < l.length:=by omega
 have hyl:l[y]?=some l[y]:=List.getElem?_eq_getElem hym
 have hya:l[y].arity=(ar l t[e]:Nat):=by
  have:=ar_eq ok (n:=t[e]) (by omega) (by omega)
  simpa [hy] using this
 have loop:∀ m i k,e < k→k≤t.length→i≤ar l t[e]→ar l t[e] < m+i →
  spec_l3End.at0 4 m (spec_l3End.st0 (cells l) (cells t) e (k:Nat) (i:Nat))=some (.int .i64 (endRes (-1) t (skip (ar l) (ar l t[e] - i) (t.drop k))),[]):=by
  intro m
  induction m with
  | zero=>intros; omega
  | succ m ihm =>
    intro i k hk1 hk2 hi hm
    simp only [spec_l3End.next0,spec_l3End.round0,evz,Nat.reduceLT,h,hk',enc_int]
    simp only [hy,evz,Nat.reduceLT,hym,hyl,enc_Symbol,hya]
    by_cases hia:i < ar l t[e]
    · rw [hy] at hia
      rw [if_pos hia,(ih (t.length - k) (by omega) k hk2 rfl).eq]
      simp only [evz,Nat.reduceLT]
      rw [← hy] at hia
      rw [show ar l ((y:Nat):Int) - i=1+(ar l t[e] - (i+1)) by rw [hy]; rw [hy] at hia; omega,skip_add]
      cases hs:skip (ar l) 1 (t.drop k) with
      | none=>rfl
      | some r =>
        obtain ⟨hr1,hr2,hr3⟩:=skip_at hs
        have hr4:=hr3 (by omega)
        have hnn:¬ endRes (-1) t (some r) < 0:=by show ¬ ((t.length - r.length:Nat):Int) < 0; omega
        rw [if_neg hnn,wrap_succ (by omega),show endRes (-1) t (some r)=((t.length - r.length:Nat):Int) from rfl,ihm (i+1) (t.length - r.length) (by omega) (by omega) (by omega) (by omega),← hr1]
        rfl
    · have:i=ar l t[e]:=by omega
      rw [if_neg (by rw [← hy]; exact hia),show ar l ((y:Nat):Int) - i=0 by rw [← hy]; omega,skip_zero]
      simp only [endRes,List.length_drop]
      congr 3; omega
 have:=loop 4 0 (e+1) (by omega) (by omega) (by omega) (by omega)
 exact this
end
theorem any_nodes {l:List Symbol} {t:List Int}:(t.any fun n => !nodeOk l n)=false↔∀ n∈t,nodeOk l n=true:=by
 rw [List.any_eq_false]; simp
theorem skip_whole {a:Int→Nat} {t:List Int}:(endRes (t.length+1) t (skip a 1 t)=t.length↔skip a 1 t=some [])∧(endRes (-1) t (skip a 1 t)=t.length↔skip a 1 t=some []):=by
 cases h:skip a 1 t with
 | none=>simp [endRes]; omega
 | some r =>
   obtain ⟨p,hp,_⟩:=skip_suffix h
   have:r.length≤t.length:=by rw [hp]; simp
   cases r with
   | nil=>simp [endRes]
   | cons x r =>
     simp only [List.length_cons] at this
     refine ⟨⟨fun h => ?_,fun h=>by cases h⟩,⟨fun h => ?_,fun h=>by cases h⟩⟩ <;> (simp only [endRes,List.length_cons] at h; omega)
theorem slices_ContainsFunc_Sint64_at1_impl_TermFault_1 (l:List Symbol) (ok:SigOk ⟨l⟩) (t:List Int) (hs:t.length≤4294967296) :
 Call F.slices_ContainsFunc_Sint64 [slc t,.clo F.impl_TermFault_1 [.rref [slc l] 0]] (.bool (t.any fun n => !nodeOk l n)):=by
 have hi:Call F.slices_IndexFunc_Sint64 [slc t,.clo F.impl_TermFault_1 [.rref [slc l] 0]] (.int .i64 (idx (fun n => !nodeOk l n) t)):=by
  refine call_of rfl (t.length+1) ((slices_IndexFunc_Sint64_at1_impl_TermFault_1.ev _ _ _).trans ?_)
  refine idx_loop (S:=fun m k=>slices_IndexFunc_Sint64_at1_impl_TermFault_1.at0 (t.length+1) m (slices_IndexFunc_Sint64_at1_impl_TermFault_1.st0 (cells t) _ _ (k:Nat))) (fun m k h => ?_) (fun m => ?_) (Nat.lt_succ_self _)
  · have hlk:t[k]?=some t[k]:=List.getElem?_eq_getElem h
    have hc:Call F.impl_TermFault_1 [.int .i64 t[k],.rref [slc l] 0] (.bool (!nodeOk l t[k])):=by
     refine call_of rfl 0 ((impl_TermFault_1.ev _ _ _).trans ?_)
     simp only [evz,Nat.reduceLT,(impl_isNode ok _).eq]
    simp only [slices_IndexFunc_Sint64_at1_impl_TermFault_1.next0,slices_IndexFunc_Sint64_at1_impl_TermFault_1.round0,evz,Nat.reduceLT,h,hlk,enc_int,hc.eq]
    rw [wrap_succ (by omega)]
    cases nodeOk l t[k] <;> rfl
  · simp only [slices_IndexFunc_Sint64_at1_impl_TermFault_1.next0,slices_IndexFunc_Sint64_at1_impl_TermFault_1.round0,evz,Nat.reduceLT,Nat.lt_irrefl]
 refine call_of rfl 0 ((slices_ContainsFunc_Sint64_at1_impl_TermFault_1.ev _ _ _).trans ?_)
 simp only [evz,Nat.reduceLT,hi.eq,idx_nonneg]
theorem impl_TermFault (l:List Symbol) (hs:l.length≤4294967296) (t:List Int) (ht:t.length≤4294967296):Call F.impl_TermFault [.agg [slc l],slc t] (.int .i64 (termFault ⟨l⟩ t)):=by
 refine call_of rfl 0 ((impl_TermFault.ev _ _ _).trans ?_)
 simp only [evz,Nat.reduceLT,(impl_SignatureFault l hs).eq,termFault,termFault0,gt_iff_lt]
 by_cases h1:sigFault ⟨l⟩=0
 case neg=>simp only [h1,evz,Nat.reduceLT,ne_eq,not_false_eq_true]
 have ok:=(sigOk_iff _).1 h1
 simp only [h1,evz,Nat.reduceLT,ne_eq,not_true_eq_false]
 by_cases h2:t.length < 1
 · have h2':(t.length:Int) < 1:=by omega
   simp only [h2,h2',evz,Nat.reduceLT,true_or]
 by_cases h3:24 < t.length
 · have h2':¬ (t.length:Int) < 1:=by omega
   have h3':(24:Int) < t.length:=by omega
   simp only [h2,h2',h3,h3',evz,Nat.reduceLT,or_true]
 have h2':¬ (t.length:Int) < 1:=by omega
 have h3':¬ (24:Int) < t.length:=by omega
 simp only [h2,h2',h3,h3',evz,Nat.reduceLT,or_self,(slices_ContainsFunc_Sint64_at1_impl_TermFault_1 l ok t ht).eq]
 cases h4:t.any fun n => !nodeOk l n with
 | true=>simp only [evz,Nat.reduceLT]
 | false =>
   have hn:=any_nodes.1 h4
   have he:=impl_endOf ok t hn ht 0 (by omega)
   simp only [evz,Nat.reduceLT,Bool.false_eq_true,show LIM F.impl_endOf [.agg [slc l],slc t,.int .i64 0]=_ from he,List.drop_zero]
   by_cases h5:skip (ar l) 1 t=some []
   · rw [if_pos (skip_whole.1.2 h5),if_pos h5]
   · rw [if_neg fun h=>h5 (skip_whole.1.1 h),if_neg h5]
theorem spec_l3Fault (l:List Symbol) (ok:SigOk ⟨l⟩) (t:List Int) (ht:t.length≤4294967296):Call F.spec_l3Fault [.rref [slc l] 0,slc t] (.int .i64 (termFault0 l t)):=by
 refine call_of rfl (t.length+1) ((spec_l3Fault.ev _ _ _).trans ?_)
 simp only [evz,Nat.reduceLT,termFault0,gt_iff_lt]
 by_cases h2:t.length < 1
 · have h2':(t.length:Int) < 1:=by omega
   simp only [h2,h2',evz,Nat.reduceLT,true_or]
 by_cases h3:24 < t.length
 · have h2':¬ (t.length:Int) < 1:=by omega
   have h3':(24:Int) < t.length:=by omega
   simp only [h2,h2',h3,h3',evz,Nat.reduceLT,or_true]
 have h2':¬ (t.length:Int) < 1:=by omega
 have h3':¬ (24:Int) < t.length:=by omega
 simp only [h2,h2',h3,h3',evz,Nat.reduceLT,or_self]
 have step:∀ m k (h:k < t.length),spec_l3Fault.at0 (t.length+1) (m+1) (spec_l3Fault.st0 (cells l) (cells t) (k:Nat)) =
  if (fun n => !nodeOk l n) t[k]=true then some (.int .i64 3,[]) else spec_l3Fault.at0 (t.length+1) m (spec_l3Fault.st0 (cells l) (cells t) ((k+1:Nat):Int)):=fun m k h=>by
  have hlk:t[k]?=some t[k]:=List.getElem?_eq_getElem h
  simp only [spec_l3Fault.next0,spec_l3Fault.round0,evz,Nat.reduceLT,h,hlk,enc_int,(spec_l3Node ok _).eq]
  rw [wrap_succ (by omega)]
  by_cases hb:nodeOk l t[k]=true <;> simp [hb]
 cases h4:t.any fun n => !nodeOk l n with
 | true =>
   refine (hit_loop (p:=fun n => !nodeOk l n) (r:=some (.int .i64 3,[])) (S:=fun m k=>spec_l3Fault.at0 (t.length+1) m (spec_l3Fault.st0 (cells l) (cells t) (k:Nat))) step h4 (Nat.lt_succ_self _)).trans ?_
   simp only [evz,Nat.reduceLT]
 | false =>
   have hn:=any_nodes.1 h4
   have he:=spec_l3End ok t hn ht 0 (by omega)
   refine (any_loopL (p:=fun n => !nodeOk l n) (r:=some (.int .i64 3,[])) (S:=fun m k=>spec_l3Fault.at0 (t.length+1) m (spec_l3Fault.st0 (cells l) (cells t) (k:Nat))) (z:=if skip (ar l) 1 t=some [] then some (.int .i64 0,[]) else some (.int .i64 1,[])) step (fun m => ?_) (Nat.lt_succ_self _)).trans ?_
   · simp only [spec_l3Fault.next0,spec_l3Fault.round0,evz,Nat.reduceLT,Nat.lt_irrefl,show LIM F.spec_l3End [.rref [slc l] 0,slc t,.int .i64 0]=_ from he,List.drop_zero]
     by_cases h5:skip (ar l) 1 t=some []
     · rw [if_pos (skip_whole.2.2 h5),if_pos h5]
     · rw [if_neg fun h=>h5 (skip_whole.2.1 h),if_neg h5]
   · rw [h4]
     simp only [evz,Nat.reduceLT,Bool.false_eq_true]
     by_cases h5:skip (ar l) 1 t=some [] <;> simp only [h5,if_true,if_false]
end Ev.Ty
end
section
namespace Ev.Ty
open Go Ev
set_option linter.unusedSimpArgs false
set_option linter.unusedVariables false
inductive Tm where
 | v (n:Int)
 | k (n:Int)
 | u (n:Int) (x:Tm)
 | b (n:Int) (x y:Tm)
 deriving DecidableEq
namespace Tm
def flat:Tm→List Int
 | v n=>[n]
 | k n=>[n]
 | u n x=>n::x.flat
 | b n x y=>n::(x.flat++y.flat)
def ok (a:Int→Nat):Tm→Prop
 | v n=>n < 0
 | k n=>0≤n∧a n=0
 | u n x=>0≤n∧a n=1∧x.ok a
 | b n x y=>0≤n∧a n=2∧x.ok a∧y.ok a
variable {a:Int→Nat}
end Tm
theorem ar_neg (l:List Symbol) {n:Int} (h:n < 0):ar l n=0:=by unfold ar; rw [if_pos h]
structure TermOk (l:List Symbol) (t:List Int):Prop where
 pos:1≤t.length
 le:t.length≤24
 node:∀ n∈t,nodeOk l n=true
 skip:skip (ar l) 1 t=some []
theorem termOk_iff (l:List Symbol) (t:List Int):termFault0 l t=0↔TermOk l t:=by
 unfold termFault0
 constructor
 · intro h
   split at h
   · cases h
   · split at h
     · cases h
     · rename_i h1 h2
       split at h
       · rename_i h3
         exact ⟨by omega,by omega,any_nodes.1 (by simpa using h2),h3⟩
       · cases h
 · intro h
   have:=h.pos; have:=h.le
   rw [if_neg (by omega),if_neg (by rw [any_nodes.2 h.node]; simp),if_pos h.skip]
end Ev.Ty
end
section
namespace Ev.Ty
open Go Ev
open Enc (enc)
open Sm (sm)
set_option linter.unusedSimpArgs false
set_option linter.unusedVariables false
structure AlgOk (l:List Symbol) (z:Int) (tb:List (List Int)):Prop where
 sig:SigOk ⟨l⟩
 size:1≤z∧z≤3
 len:tb.length=l.length
 rows:∀ (k:Nat) (h:k < l.length) (h':k < tb.length),tb[k].length=z.toNat ^ (l[k]).arity.toNat∧∀ n∈tb[k],0≤n∧n≤z - 1
def Tm.eval (z:Int) (tb:List (List Int)) (vs:List Int):Tm→Int
 | v n=>vs.getD (-1 - n).toNat 0
 | k n=>(tb.getD n.toNat []).getD 0 0
 | u n x=>(tb.getD n.toNat []).getD (x.eval z tb vs).toNat 0
 | b n x y=>(tb.getD n.toNat []).getD (x.eval z tb vs*z+y.eval z tb vs).toNat 0
section
variable {l:List Symbol} {z:Int} {tb:List (List Int)} (al:AlgOk l z tb) {vs:List Int} (hv:vs.length=6) (hr:∀ n∈vs,0≤n∧n≤z - 1)
include al
include hv hr
end
end Ev.Ty
end
section
namespace Ev.Ty
open Go Ev
open Enc (enc)
open Sm (sm)
set_option linter.unusedSimpArgs false
set_option linter.unusedVariables false
theorem getD_of {α:Type} {v:List α} {i:Nat} {d:α} (h:i < v.length):v.getD i d=v[i]:=by simp [h]
section
variable {l:List Symbol} {z:Int} {tb:List (List Int)} (al:AlgOk l z tb) {vs:List Int} (hv:vs.length=6) (hr:∀ n∈vs,0≤n∧n≤z - 1)
include al hv hr
end
end Ev.Ty
end
section
namespace Ev.Ty
open Go Ev
open Enc (enc)
open Sm (sm)
set_option linter.unusedSimpArgs false
set_option linter.unusedVariables false
theorem cmp_Or_int64 (l:List Int) (hl:l.length≤4294967296):Call F.cmp_Or_int64 [slc l] (.int .i64 ((l.find? fun n=>decide (n≠0)).getD 0)):=by
 refine call_of rfl (l.length+1) ((cmp_Or_int64.ev _ _).trans ?_)
 have:=scan_loop (l:=l) (g:=fun n=>if n≠0 then some (some (.int .i64 n,[])) else none) (z:=some (.int .i64 0,[])) (S:=fun m k=>cmp_Or_int64.at0 (l.length+1) m (cmp_Or_int64.st0 0 (cells l) l.length (k:Nat)))
  (fun m k h=>by
   have hlk:l[k]?=some l[k]:=List.getElem?_eq_getElem h
   simp only [cmp_Or_int64.next0,cmp_Or_int64.round0,evz,Nat.reduceLT,h,hlk,enc_int]
   rw [wrap_succ (by omega)]
   by_cases e:l[k]=0 <;> simp [e])
  (fun m=>by simp only [cmp_Or_int64.next0,cmp_Or_int64.round0,evz,Nat.reduceLT,Nat.lt_irrefl]) (Nat.lt_succ_self _)
 simp only [cells_div,sz_int]
 refine this.trans ?_
 clear this
 induction l with
 | nil=>rfl
 | cons x l ih =>
   rw [List.findSome?_cons,List.find?_cons]
   by_cases e:x=0
   · simpa [e] using ih (by simp at hl; omega)
   · simp [e]
theorem impl_firstCode2 (a b:Int):Call F.impl_firstCode [.sl 1 [.int .i64 a,.int .i64 b]] (.int .i64 (if a=0 then b else a)):=by
 refine call_of rfl 0 ((impl_firstCode.ev _ _).trans ?_)
 have:=cmp_Or_int64 [a,b] (by simp)
 simp only [evz,Nat.reduceLT,show LIM F.cmp_Or_int64 [.sl 1 [.int .i64 a,.int .i64 b]]=_ from this]
 by_cases h:a=0
 · by_cases h':b=0 <;> simp [h,h']
 · simp [h]
theorem impl_firstCode3 (a b c:Int):Call F.impl_firstCode [.sl 1 [.int .i64 a,.int .i64 b,.int .i64 c]] (.int .i64 (if a=0 then if b=0 then c else b else a)):=by
 refine call_of rfl 0 ((impl_firstCode.ev _ _).trans ?_)
 have:=cmp_Or_int64 [a,b,c] (by simp)
 simp only [evz,Nat.reduceLT,show LIM F.cmp_Or_int64 [.sl 1 [.int .i64 a,.int .i64 b,.int .i64 c]]=_ from this]
 by_cases h:a=0
 · by_cases h':b=0
   · by_cases h'':c=0 <;> simp [h,h',h'']
   · simp [h,h']
 · simp [h]
theorem spec_l4Low (t:List Int) (hl:t.length≤4294967296):Call F.spec_l4Low [slc t] (.bool (!t.any fun n=>decide (n < -6))):=by
 refine call_of rfl (t.length+1) ((spec_l4Low.ev _ _).trans ?_)
 refine (any_loopL (l:=t) (p:=fun n=>decide (n < -6)) (r:=some (.bool false,[])) (z:=some (.bool true,[])) (S:=fun m k=>spec_l4Low.at0 (t.length+1) m (spec_l4Low.st0 (cells t) (k:Nat))) (fun m k h => ?_) (fun m => ?_) (Nat.lt_succ_self _)).trans ?_
 · have hlk:t[k]?=some t[k]:=List.getElem?_eq_getElem h
   simp only [spec_l4Low.next0,spec_l4Low.round0,evz,Nat.reduceLT,h,hlk,enc_int]
   rw [wrap_succ (by omega)]
   simp only [decide_eq_true_eq]
 · simp only [spec_l4Low.next0,spec_l4Low.round0,evz,Nat.reduceLT,Nat.lt_irrefl]
 · cases t.any fun n=>decide (n < -6) <;> rfl
open Classical in
section
variable (l:List Symbol) (z:Int) (tb:List (List Int)) (vs t:List Int) (hs:l.length≤4294967296) (ht:sm 4294967296 tb) (hl:t.length≤4294967296)
include hs ht hl
end
end Ev.Ty
end
section
namespace Ev.Ty
open Go Ev
open Enc (enc)
open Sm (sm)
set_option linter.unusedSimpArgs false
set_option linter.unusedVariables false
theorem intsT_cells:∀ l:List Int,intsT l=cells l
 | []=>rfl
 | x::l=>by rw [cells_cons,← intsT_cells l]; rfl
def sorted (l:List Int):List Int:=l.mergeSort fun x y=>decide (x≤y)
theorem slices_Sort_Sint64 (l:List Int) (h:l.length≤4294967296):LIM F.slices_Sort_Sint64 [slc l]=some (.tup [],[slc (sorted l)]):=by
 refine lim_ext (e:=sortE) rfl (Ev.of fun m => ?_)
 show ((intsOf (cells l)).bind fun zs=>bif decide (zs.length < 4611686018427387904) then some (T.tup [],[T.sl 1 (intsT (zs.mergeSort fun x y=>decide (x≤y)))]) else none)=_
 rw [← intsT_cells,intsOf_intsT,Option.bind_some,decide_eq_true (by omega),cond_true,intsT_cells]
 rfl
theorem slices_Compact_Sint64 (l:List Int) (h:l.length≤4294967296):Call F.slices_Compact_Sint64 [slc l] (slc (Lib.compact l)):=by
 refine lim_ext (e:=compactE) rfl (Ev.of fun m => ?_)
 show ((intsOf (cells l)).bind fun zs=>bif decide (zs.length < 4611686018427387904) then some (T.sl 1 (intsT (Lib.compact zs)),[]) else none)=_
 rw [← intsT_cells,intsOf_intsT,Option.bind_some,decide_eq_true (by omega),cond_true,intsT_cells]
 rfl
theorem mem_compact {l:List Int} {x:Int}:x∈Lib.compact l↔x∈l:=by
 unfold Lib.compact Lib.compactUpTo
 simp only [List.mem_map,List.mem_filter,List.mem_range]
 constructor
 · rintro ⟨j,⟨hj,_⟩,rfl⟩
   rw [getElem!_pos _ j (by simpa using hj)]
   simp
 · intro h
   obtain ⟨i,hi,rfl⟩:=List.mem_iff_getElem.1 h
   have:∀ j,(hj:j < l.length)→∃ k,(k < l.length∧Lib.keeps l.toArray k=true)∧l.toArray[k]! = l[j]:=by
    intro j
    induction j with
    | zero=>intro hj; exact ⟨0,⟨hj,by simp [Lib.keeps]⟩,by simp [hj]⟩
    | succ j ih =>
      intro hj
      by_cases e:l[j+1]=l[j]
      · obtain ⟨k,hk,he⟩:=ih (by omega)
        exact ⟨k,hk,by rw [he,e]⟩
      · refine ⟨j+1,⟨hj,?_⟩,by simp [hj]⟩
        have hj':j < l.length:=by omega
        simp [Lib.keeps,hj,hj',e]
   exact this i hi
theorem compact_length (l:List Int):(Lib.compact l).length≤l.length:=compact_len l
def vars (t:List Int):List Int:=(t.filter fun n=>decide (n < 0)).map fun n => -1 - n
theorem mem_vars {t:List Int} {v:Int}:v∈vars t↔0≤v∧(-1 - v)∈t:=by
 unfold vars
 simp only [List.mem_map,List.mem_filter,decide_eq_true_eq]
 constructor
 · rintro ⟨n,⟨hn,h0⟩,rfl⟩
   exact ⟨by omega,by rw [show -1 - (-1 - n)=n by omega]; exact hn⟩
 · rintro ⟨h0,h⟩
   exact ⟨-1 - v,⟨h,by omega⟩,by omega⟩
theorem vars_length (t:List Int):(vars t).length≤t.length:=by
 unfold vars
 rw [List.length_map]; exact List.length_filter_le _ _
def varsOf (l:List (List Int)):List Int:=Lib.compact (sorted (l.flatMap vars))
theorem mem_varsOf {l:List (List Int)} {v:Int}:v∈varsOf l↔0≤v∧∃ t∈l,(-1 - v)∈t:=by
 unfold varsOf sorted
 rw [mem_compact,List.mem_mergeSort,List.mem_flatMap]
 constructor
 · rintro ⟨t,ht,h⟩
   obtain ⟨h0,h1⟩:=mem_vars.1 h
   exact ⟨h0,t,ht,h1⟩
 · rintro ⟨h0,t,ht,h1⟩
   exact ⟨t,ht,mem_vars.2 ⟨h0,h1⟩⟩
theorem flat_vars_length:∀ l:List (List Int),(l.flatMap vars).length≤(l.map List.length).sum
 | []=>by simp
 | t::l=>by
   rw [List.flatMap_cons,List.length_append,List.map_cons,List.sum_cons]
   have:=vars_length t
   have:=flat_vars_length l
   omega
theorem varsOf_length (l:List (List Int)):(varsOf l).length≤(l.map List.length).sum:=by
 unfold varsOf
 refine Nat.le_trans (compact_length _) ?_
 unfold sorted
 rw [List.length_mergeSort]
 exact flat_vars_length l
theorem impl_varsOf (l:List (List Int)) (hl:l.length≤24) (ht:∀ t∈l,t.length≤4294967296∧∀ n∈t,-12≤n) (hsum:(l.map List.length).sum≤4294967296):Call F.impl_varsOf [slc l] (slc (varsOf l)):=by
 obtain ⟨N,hN⟩:∃ N,N=4294967297:=⟨_,rfl⟩
 have inner:∀ (L0:St→R) (x0:List T) (x1 x2:Int) (t:List Int),(∀ n∈t,-12≤n)→∀ m k (acc:List Int),k≤t.length→t.length < m+k→acc.length+t.length≤k+4294967296→t.length≤4294967296 →
  impl_varsOf.at2 N L0 m (impl_varsOf.st2 x0 x1 x2 (cells t) t.length (k:Nat) (cells acc))=L0 (impl_varsOf.st0 x0 x1 (IntKind.wrap .i64 (x2+1)) (cells (acc++vars (t.drop k)))):=by
  intro L0 x0 x1 x2 t hn m
  induction m with
  | zero=>intros; omega
  | succ m ih =>
    intro k acc hk hm hacc htl
    by_cases h:k < t.length
    · have hlk:t[k]?=some t[k]:=List.getElem?_eq_getElem h
      simp only [impl_varsOf.next2,impl_varsOf.round2,evz,Nat.reduceLT,h,hlk,enc_int]
      rw [wrap_succ (by omega),List.drop_eq_getElem_cons h]
      have hge:=hn t[k] (List.getElem_mem h)
      by_cases h0:t[k] < 0
      · have hble:Nat.ble (((cells acc).length+1)*8) (140737488355328*1)=true:=by
         rw [Nat.ble_eq,cells_length,sz_int]; omega
        rw [wrap64 (by omega),cells_snoc_int,hble,ih (k+1) (acc++[-1 - t[k]]) (by omega) (by omega) (by rw [List.length_append]; simp; omega) htl]
        simp only [h0,evz,Nat.reduceLT,vars,List.filter_cons,List.map_cons,List.append_assoc,List.singleton_append]
      · rw [ih (k+1) acc (by omega) (by omega) (by omega) htl]
        simp only [h0,evz,Nat.reduceLT,vars,List.filter_cons,Bool.false_eq_true]
    · obtain rfl:k=t.length:=by omega
      simp only [impl_varsOf.next2,impl_varsOf.round2,evz,Nat.reduceLT,Nat.lt_irrefl,List.drop_length,vars,List.filter_nil,List.map_nil,List.append_nil]
 have outer:∀ m k (acc:List Int),k≤l.length→l.length < m+k→acc.length+((l.drop k).map List.length).sum≤4294967296 →
  impl_varsOf.at0 N m (impl_varsOf.st0 (cells l) l.length (k:Nat) (cells acc))=some (slc (Lib.compact (sorted (acc++(l.drop k).flatMap vars))),[]):=by
  intro m
  induction m with
  | zero=>intros; omega
  | succ m ih =>
    intro k acc hk hm hacc
    by_cases h:k < l.length
    · have hlk:l[k]?=some l[k]:=List.getElem?_eq_getElem h
      obtain ⟨q1,q2⟩:=ht l[k] (List.getElem_mem h)
      rw [List.drop_eq_getElem_cons h,List.map_cons,List.sum_cons] at hacc
      simp only [impl_varsOf.next0,impl_varsOf.round0,evz,Nat.reduceLT,h,hlk,enc_list]
      have hin:=inner (impl_varsOf.at0 N m) (cells l) l.length (k:Nat) l[k] q2 N 0 acc (by omega) (by omega) (by omega) q1
      rw [List.drop_zero,wrap_succ (by omega)] at hin
      refine Eq.trans hin ?_
      have:=vars_length l[k]
      rw [ih (k+1) (acc++vars l[k]) (by omega) (by omega) (by rw [List.length_append]; omega),List.drop_eq_getElem_cons h,List.flatMap_cons,List.append_assoc]
    · obtain rfl:k=l.length:=by omega
      rw [List.drop_length] at hacc ⊢
      have hs:=slices_Sort_Sint64 acc (by simpa using hacc)
      have hc:=slices_Compact_Sint64 (sorted acc) (by unfold sorted; rw [List.length_mergeSort]; simpa using hacc)
      simp only [impl_varsOf.next0,impl_varsOf.round0,evz,Nat.reduceLT,Nat.lt_irrefl,List.flatMap_nil,List.append_nil]
      simp only [hs,hc.eq,evz,Nat.reduceLT]
 refine call_of rfl N ((impl_varsOf.ev _ _).trans ?_)
 have:=outer N 0 [] (by omega) (by omega) (by simpa using hsum)
 rw [List.drop_zero,List.nil_append] at this
 simp only [cells_div,sz_list]
 exact this
end Ev.Ty
end
section
namespace Ev.Ty
open Go Ev
open Enc (enc)
open Sm (sm)
set_option linter.unusedSimpArgs false
set_option linter.unusedVariables false
def low6 (t:List Int):Bool := !t.any fun n=>decide (n < -6)
theorem low6_iff {t:List Int}:low6 t=true↔∀ n∈t,-6≤n:=by
 unfold low6
 rw [Bool.not_eq_true',List.any_eq_false]
 constructor
 · intro h n hn; have:=h n hn; simpa using this
 · intro h n hn; simpa using h n hn
def eqFault (l:List Symbol) (e:Equation):Int :=
 if termFault0 l e.left≠0 then termFault0 l e.left else if termFault0 l e.right≠0 then termFault0 l e.right else if low6 e.left=true then (if low6 e.right=true then 0 else 3) else 3
def eqsFault (l:List Symbol) (es:List Equation):Int :=
 if 12 < es.length then 2 else (es.findSome? fun e=>if eqFault l e≠0 then some (eqFault l e) else none).getD 0
def ruleOk (e:Equation):Bool:=decide (0≤e.left.headD 0) && !e.right.any fun n=>decide (n < 0∧n∉e.left)
def rulesFault0 (l:List Symbol) (es:List Equation):Int:=if eqsFault l es≠0 then eqsFault l es else if (es.any fun e => !ruleOk e)=true then 1 else 0
def rulesFault (s:Signature) (es:List Equation):Int:=if sigFault s≠0 then sigFault s else rulesFault0 s.symbols es
structure EqOk (l:List Symbol) (e:Equation):Prop where
 left:TermOk l e.left
 right:TermOk l e.right
 lowL:∀ n∈e.left,-6≤n
 lowR:∀ n∈e.right,-6≤n
theorem eqOk_iff {l:List Symbol} {e:Equation}:eqFault l e=0↔EqOk l e:=by
 unfold eqFault
 constructor
 · intro h
   by_cases h1:termFault0 l e.left=0
   · by_cases h2:termFault0 l e.right=0
     · by_cases h3:low6 e.left=true
       · by_cases h4:low6 e.right=true
         · exact ⟨(termOk_iff _ _).1 h1,(termOk_iff _ _).1 h2,low6_iff.1 h3,low6_iff.1 h4⟩
         · simp [h1,h2,h3,h4] at h
       · simp [h1,h2,h3] at h
     · simp [h1,h2] at h
   · simp [h1] at h
 · intro h
   simp [(termOk_iff _ _).2 h.left,(termOk_iff _ _).2 h.right,low6_iff.2 h.lowL,low6_iff.2 h.lowR]
theorem eqsOk_iff {l:List Symbol} {es:List Equation}:eqsFault l es=0↔es.length≤12∧∀ e∈es,EqOk l e:=by
 unfold eqsFault
 by_cases h:12 < es.length
 · rw [if_pos h]
   constructor
   · intro h; cases h
   · intro h'; omega
 · rw [if_neg h]
   have:(es.findSome? fun e=>if eqFault l e≠0 then some (eqFault l e) else none).getD 0=0↔∀ e∈es,eqFault l e=0:=by
    cases hf:es.findSome? fun e=>if eqFault l e≠0 then some (eqFault l e) else none with
    | none =>
      rw [findSome_none] at hf
      refine ⟨fun _ e he => ?_,fun _=>rfl⟩
      have:=hf e he
      by_cases h:eqFault l e=0
      · exact h
      · simp [h] at this
    | some c =>
      obtain ⟨e,he,h1⟩:=List.exists_of_findSome?_eq_some hf
      by_cases h:eqFault l e=0
      · simp [h] at h1
      · simp [h] at h1
        subst h1
        exact ⟨fun h'=>absurd h' h,fun h'=>absurd (h' e he) h⟩
   rw [this]
   constructor
   · intro h'; exact ⟨by omega,fun e he=>eqOk_iff.1 (h' e he)⟩
   · intro h' e he; exact eqOk_iff.2 (h'.2 e he)
theorem TermOk.ge {l:List Symbol} {t:List Int} (h:TermOk l t):∀ n∈t,-12≤n:=fun n hn=>by
 rcases nodeOk_iff.1 (h.node n hn) with h | h <;> omega
theorem slices_Contains_Sint64 (l:List Int) (x:Int) (hl:l.length≤4294967296):Call F.slices_Contains_Sint64 [slc l,.int .i64 x] (.bool (decide (x∈l))):=by
 have hi:Call F.slices_Index_Sint64 [slc l,.int .i64 x] (.int .i64 (idx (fun y=>decide (x=y)) l)):=by
  refine call_of rfl (l.length+1) ((slices_Index_Sint64.ev _ _ _).trans ?_)
  simp only [evz,Nat.reduceLT]
  refine idx_loop (S:=fun m k=>slices_Index_Sint64.at0 (l.length+1) m (slices_Index_Sint64.st0 (cells l) x l.length (k:Nat))) (fun m k h => ?_) (fun m => ?_) (Nat.lt_succ_self _)
  · have hlk:l[k]?=some l[k]:=List.getElem?_eq_getElem h
    simp only [slices_Index_Sint64.next0,slices_Index_Sint64.round0,evz,Nat.reduceLT,h,hlk,enc_int]
    rw [wrap_succ (by omega)]
    by_cases e:x=l[k] <;> simp [e]
  · simp only [slices_Index_Sint64.next0,slices_Index_Sint64.round0,evz,Nat.reduceLT,Nat.lt_irrefl]
 refine call_of rfl 0 ((slices_Contains_Sint64.ev _ _ _).trans ?_)
 simp only [evz,Nat.reduceLT,hi.eq,idx_nonneg]
 have:(l.any fun y=>decide (x=y))=decide (x∈l):=by
  rw [Bool.eq_iff_iff,List.any_eq_true,decide_eq_true_eq]
  constructor
  · rintro ⟨y,hy,h⟩; rw [decide_eq_true_eq] at h; rw [h]; exact hy
  · intro h; exact ⟨x,h,by simp⟩
 rw [this]
theorem slices_ContainsFunc_Sint64_at1_impl_EquationFault_1 (t:List Int) (hs:t.length≤4294967296) :
 Call F.slices_ContainsFunc_Sint64 [slc t,.clo F.impl_EquationFault_1 []] (.bool (t.any fun n=>decide (n ≥ 6))):=by
 have hi:Call F.slices_IndexFunc_Sint64 [slc t,.clo F.impl_EquationFault_1 []] (.int .i64 (idx (fun n=>decide (n ≥ 6)) t)):=by
  refine call_of rfl (t.length+1) ((slices_IndexFunc_Sint64_at1_impl_EquationFault_1.ev _ _).trans ?_)
  refine idx_loop (S:=fun m k=>slices_IndexFunc_Sint64_at1_impl_EquationFault_1.at0 (t.length+1) m (slices_IndexFunc_Sint64_at1_impl_EquationFault_1.st0 (cells t) _ (k:Nat))) (fun m k h => ?_) (fun m => ?_) (Nat.lt_succ_self _)
  · have hlk:t[k]?=some t[k]:=List.getElem?_eq_getElem h
    have hc:Call F.impl_EquationFault_1 [.int .i64 t[k]] (.bool (decide (t[k] ≥ 6))):=call_of rfl 0 (impl_EquationFault_1.ev _ _)
    simp only [slices_IndexFunc_Sint64_at1_impl_EquationFault_1.next0,slices_IndexFunc_Sint64_at1_impl_EquationFault_1.round0,evz,Nat.reduceLT,h,hlk,enc_int,hc.eq]
    rw [wrap_succ (by omega)]
    by_cases e:t[k] ≥ 6 <;> simp [e]
  · simp only [slices_IndexFunc_Sint64_at1_impl_EquationFault_1.next0,slices_IndexFunc_Sint64_at1_impl_EquationFault_1.round0,evz,Nat.reduceLT,Nat.lt_irrefl]
 refine call_of rfl 0 ((slices_ContainsFunc_Sint64_at1_impl_EquationFault_1.ev _ _).trans ?_)
 simp only [evz,Nat.reduceLT,hi.eq,idx_nonneg]
theorem impl_EquationFault (l:List Symbol) (hs:l.length≤4294967296) (a b:List Int) (ha:a.length≤4294967296) (hb:b.length≤4294967296) :
 Call F.impl_EquationFault [.agg [slc l],.agg [slc a,slc b]] (.int .i64 (if sigFault ⟨l⟩≠0 then sigFault ⟨l⟩ else eqFault l ⟨a,b⟩)):=by
 refine call_of rfl 0 ((impl_EquationFault.ev _ _ _ _).trans ?_)
 simp only [evz,Nat.reduceLT,(impl_TermFault l hs a ha).eq,(impl_TermFault l hs b hb).eq,(impl_firstCode2 _ _).eq,termFault,eqFault]
 by_cases h1:sigFault ⟨l⟩=0
 case neg=>simp only [h1,evz,Nat.reduceLT,ne_eq,not_false_eq_true]
 simp only [h1,evz,Nat.reduceLT,ne_eq,not_true_eq_false]
 by_cases h2:termFault0 l a=0
 case neg=>simp only [h2,evz,Nat.reduceLT,not_false_eq_true]
 by_cases h3:termFault0 l b=0
 case neg=>simp only [h2,h3,evz,Nat.reduceLT,not_true_eq_false,not_false_eq_true]
 have ta:=(termOk_iff l a).1 h2
 have tb:=(termOk_iff l b).1 h3
 have hal:=ta.le
 have hbl:=tb.le
 have hv:=impl_varsOf [a,b] (by simp) (fun t ht=>by
  simp only [List.mem_cons,List.not_mem_nil,or_false] at ht
  rcases ht with rfl | rfl
  · exact ⟨ha,ta.ge⟩
  · exact ⟨hb,tb.ge⟩) (by simp; omega)
 have hvl:=varsOf_length [a,b]
 have hc:=slices_ContainsFunc_Sint64_at1_impl_EquationFault_1 (varsOf [a,b]) (by simp at hvl; omega)
 simp only [h2,h3,evz,Nat.reduceLT,not_true_eq_false,show LIM F.impl_varsOf [.sl 1 [slc a,slc b]]=_ from hv,hc.eq]
 have e1:((varsOf [a,b]).any fun n=>decide (n ≥ 6)) = !(low6 a&&low6 b):=by
  rw [Bool.eq_iff_iff,List.any_eq_true,Bool.not_eq_true',Bool.eq_false_iff,ne_eq,Bool.and_eq_true,low6_iff,low6_iff]
  constructor
  · rintro ⟨v,hv,h6⟩ ⟨q1,q2⟩
    rw [decide_eq_true_eq] at h6
    obtain ⟨_,t,ht,hm⟩:=mem_varsOf.1 hv
    simp only [List.mem_cons,List.not_mem_nil,or_false] at ht
    rcases ht with rfl | rfl
    · have:=q1 _ hm; omega
    · have:=q2 _ hm; omega
  · intro h
    by_cases q1:∀ n∈a,-6≤n
    · have q2:¬ ∀ n∈b,-6≤n:=fun q2=>h ⟨q1,q2⟩
      simp only [Classical.not_forall] at q2
      obtain ⟨n,hn,hlt⟩:=q2
      exact ⟨-1 - n,mem_varsOf.2 ⟨by omega,b,by simp,by rw [show -1 - (-1 - n)=n by omega]; exact hn⟩,by simp; omega⟩
    · simp only [Classical.not_forall] at q1
      obtain ⟨n,hn,hlt⟩:=q1
      exact ⟨-1 - n,mem_varsOf.2 ⟨by omega,a,by simp,by rw [show -1 - (-1 - n)=n by omega]; exact hn⟩,by simp; omega⟩
 rw [e1]
 cases low6 a <;> cases low6 b <;> rfl
theorem spec_l4Fault (l:List Symbol) (ok:SigOk ⟨l⟩) (a b:List Int) (ha:a.length≤4294967296) (hb:b.length≤4294967296) :
 Call F.spec_l4Fault [.rref [slc l] 0,.rref [slc a,slc b] 0] (.int .i64 (eqFault l ⟨a,b⟩)):=by
 have la:Call F.spec_l4Low [slc a] (.bool (low6 a)):=spec_l4Low a ha
 have lb:Call F.spec_l4Low [slc b] (.bool (low6 b)):=spec_l4Low b hb
 refine call_of rfl 0 ((spec_l4Fault.ev _ _ _ _).trans ?_)
 simp only [evz,Nat.reduceLT,(spec_l3Fault l ok a ha).eq,(spec_l3Fault l ok b hb).eq,la.eq,lb.eq,eqFault]
 by_cases h2:termFault0 l a=0
 case neg=>simp only [h2,evz,Nat.reduceLT,ne_eq,not_false_eq_true]
 by_cases h3:termFault0 l b=0
 case neg=>simp only [h2,h3,evz,Nat.reduceLT,ne_eq,not_true_eq_false,not_false_eq_true]
 simp only [h2,h3,evz,Nat.reduceLT,ne_eq,not_true_eq_false]
 cases low6 a <;> cases low6 b <;> rfl
theorem eqs_sm {es:List Equation} {k:Nat} (he:sm 4294967296 es) (h:k < es.length):es[k].left.length≤4294967296∧es[k].right.length≤4294967296:=by
 have:=he.2 es[k] (List.getElem_mem h)
 exact ⟨this.1.1,this.2.1⟩
theorem impl_EquationsFault (l:List Symbol) (hs:l.length≤4294967296) (es:List Equation) (he:sm 4294967296 es) :
 Call F.impl_EquationsFault [.agg [slc l],slc es] (.int .i64 (if sigFault ⟨l⟩≠0 then sigFault ⟨l⟩ else eqsFault l es)):=by
 refine call_of rfl (es.length+1) ((impl_EquationsFault.ev _ _ _).trans ?_)
 simp only [evz,Nat.reduceLT,(impl_SignatureFault l hs).eq,eqsFault,gt_iff_lt]
 by_cases h1:sigFault ⟨l⟩=0
 case neg=>simp only [h1,evz,Nat.reduceLT,ne_eq,not_false_eq_true]
 by_cases h2:12 < es.length
 · have h2':(12:Int) < es.length:=by omega
   simp only [h1,h2,h2',evz,Nat.reduceLT,ne_eq,not_true_eq_false]
 have h2':¬ (12:Int) < es.length:=by omega
 simp only [h1,h2,h2',evz,Nat.reduceLT,ne_eq,not_true_eq_false]
 refine (scan_loop (l:=es) (g:=fun e=>if eqFault l e≠0 then some (some (.int .i64 (eqFault l e),[])) else none) (z:=some (.int .i64 0,[])) (S:=fun m k=>impl_EquationsFault.at0 (es.length+1) m (impl_EquationsFault.st0 (cells es) es.length (k:Nat) (cells l)))
  (fun m k h => ?_) (fun m => ?_) (Nat.lt_succ_self _)).trans ?_
 · have hlk:es[k]?=some es[k]:=List.getElem?_eq_getElem h
   obtain ⟨q1,q2⟩:=eqs_sm he h
   have hc:=impl_EquationFault l hs es[k].left es[k].right q1 q2
   rw [if_neg (by simpa using h1)] at hc
   simp only [impl_EquationsFault.next0,impl_EquationsFault.round0,evz,Nat.reduceLT,h,hlk,enc_Equation,hc.eq]
   rw [wrap_succ (by omega)]
   by_cases e:eqFault l es[k]=0
   · simp [e]
   · simp [e]
 · simp only [impl_EquationsFault.next0,impl_EquationsFault.round0,evz,Nat.reduceLT,Nat.lt_irrefl]
 · have:=findSome_map (fun e=>if eqFault l e≠0 then some (eqFault l e) else none) (fun n=>(some (T.int .i64 n,[]):R)) es
   rw [show (fun e=>(if eqFault l e≠0 then some (eqFault l e) else none).map fun n=>(some (T.int .i64 n,[]):R))=fun e=>if eqFault l e≠0 then some (some (T.int .i64 (eqFault l e),[])) else none from funext fun e=>by by_cases h:eqFault l e=0 <;> simp [h]] at this
   rw [this]
   cases es.findSome? fun e=>if eqFault l e≠0 then some (eqFault l e) else none <;> rfl
theorem spec_l5Fault (l:List Symbol) (ok:SigOk ⟨l⟩) (es:List Equation) (he:sm 4294967296 es):Call F.spec_l5Fault [.rref [slc l] 0,slc es] (.int .i64 (eqsFault l es)):=by
 refine call_of rfl (es.length+1) ((spec_l5Fault.ev _ _ _).trans ?_)
 simp only [evz,Nat.reduceLT,eqsFault,gt_iff_lt]
 by_cases h2:12 < es.length
 · have h2':(12:Int) < es.length:=by omega
   simp only [h2,h2',evz,Nat.reduceLT]
 have h2':¬ (12:Int) < es.length:=by omega
 simp only [h2,h2',evz,Nat.reduceLT]
 refine (scan_loop (l:=es) (g:=fun e=>if eqFault l e≠0 then some (some (.int .i64 (eqFault l e),[])) else none) (z:=some (.int .i64 0,[])) (S:=fun m k=>spec_l5Fault.at0 (es.length+1) m (spec_l5Fault.st0 (cells l) (cells es) (k:Nat)))
  (fun m k h => ?_) (fun m => ?_) (Nat.lt_succ_self _)).trans ?_
 · have hlk:es[k]?=some es[k]:=List.getElem?_eq_getElem h
   obtain ⟨q1,q2⟩:=eqs_sm he h
   have hc:=spec_l4Fault l ok es[k].left es[k].right q1 q2
   simp only [spec_l5Fault.next0,spec_l5Fault.round0,evz,Nat.reduceLT,h,hlk,cells_window sz_Equation hlk,enc_Equation,hc.eq]
   rw [wrap_succ (by omega)]
   by_cases e:eqFault l es[k]=0
   · simp [e]
   · simp [e]
 · simp only [spec_l5Fault.next0,spec_l5Fault.round0,evz,Nat.reduceLT,Nat.lt_irrefl]
 · have:=findSome_map (fun e=>if eqFault l e≠0 then some (eqFault l e) else none) (fun n=>(some (T.int .i64 n,[]):R)) es
   rw [show (fun e=>(if eqFault l e≠0 then some (eqFault l e) else none).map fun n=>(some (T.int .i64 n,[]):R))=fun e=>if eqFault l e≠0 then some (some (T.int .i64 (eqFault l e),[])) else none from funext fun e=>by by_cases h:eqFault l e=0 <;> simp [h]] at this
   rw [this]
   cases es.findSome? fun e=>if eqFault l e≠0 then some (eqFault l e) else none <;> rfl
end Ev.Ty
end
section
namespace Ev.Ty
open Go Ev
open Enc (enc)
open Sm (sm)
set_option linter.unusedVariables false
set_option linter.unusedSimpArgs false
theorem spec_l1Same (l r:List Int) (hs:sm 4294967296 l):Call F.spec_l1Same [slc l,slc r] (.bool (decide (l=r))):=by
 refine call_of rfl (l.length+1) ((spec_l1Same.ev _ _ _).trans ?_)
 simp only [cells_div,sz_int]
 by_cases hl:l.length=r.length
 · have loop:=eq_loop hl (S:=fun m k=>spec_l1Same.at0 (l.length+1) m (spec_l1Same.st0 (cells l) (cells r) (k:Nat)))
    (fun m k h h'=>by
     have hlk:l[k]?=some l[k]:=List.getElem?_eq_getElem h
     have hrk:r[k]?=some r[k]:=List.getElem?_eq_getElem h'
     simp only [spec_l1Same.next0,spec_l1Same.round0,evz,Nat.reduceLT,h,h',hlk,hrk,cells_window (l:=l) sz_int hlk,cells_window (l:=r) sz_int hrk,enc_int,enc_u8]
     rw [wrap_succ (by have:=hs.1; omega)])
    (fun m=>by
     simp only [spec_l1Same.next0,spec_l1Same.round0,evz,Nat.reduceLT,Nat.lt_irrefl])
   rw [cond_neg (by rw [hl]; exact bne_self_eq_false _)]
   exact loop
 · rw [cond_pos (by simp; omega)]
   simp only [show (l=r)=False from eq_false fun e=>hl (e ▸ rfl),decide_false]
theorem slices_Equal_Sint64 (l r:List Int) (hs:sm 4294967296 l):Call F.slices_Equal_Sint64 [slc l,slc r] (.bool (decide (l=r))):=by
 refine call_of rfl (l.length+1) ((slices_Equal_Sint64.ev _ _ _).trans ?_)
 simp only [cells_div,sz_int]
 by_cases hl:l.length=r.length
 · have loop:=eq_loop hl (S:=fun m k=>slices_Equal_Sint64.at0 (l.length+1) m (slices_Equal_Sint64.st0 (cells l) (cells r) l.length (k:Nat)))
    (fun m k h h'=>by
     have hlk:l[k]?=some l[k]:=List.getElem?_eq_getElem h
     have hrk:r[k]?=some r[k]:=List.getElem?_eq_getElem h'
     simp only [slices_Equal_Sint64.next0,slices_Equal_Sint64.round0,evz,Nat.reduceLT,h,h',hlk,hrk,cells_window (l:=l) sz_int hlk,cells_window (l:=r) sz_int hrk,enc_int,enc_u8]
     rw [wrap_succ (by have:=hs.1; omega)])
    (fun m=>by
     simp only [slices_Equal_Sint64.next0,slices_Equal_Sint64.round0,evz,Nat.reduceLT,Nat.lt_irrefl])
   rw [cond_neg (by rw [hl]; exact bne_self_eq_false _)]
   exact loop
 · rw [cond_pos (by simp; omega)]
   simp only [show (l=r)=False from eq_false fun e=>hl (e ▸ rfl),decide_false]
end Ev.Ty
end
