/- Steps on the way to RowSteps: X1, X2, XALL, TyMarks, TyFields, TyPlumb, TyNum, TySig, TyAlg, TyTerm, TyTree, TyEval, TyEvalF, TyEvalT, TyVars, TyEqs, TySame, TyBind. -/
import Derived.Test.YtgmpnljofoadnaaGreatDoorM3
import Derived.Lib.SlTrimSet
set_option linter.unusedSectionVars false
set_option linter.unusedVariables false
set_option linter.unusedSimpArgs false
section
open Go
set_option linter.unusedVariables false
set_option maxRecDepth 100000
namespace Ev
theorem q35.ev (n:Nat) (a0:List T):callK prog A H LIM n F.q35 [(.sl 1 a0)]=((LIM F.q44 [(.sl 1 a0)]).bind fun r1=>((oNil r1.2).bind fun _=>((oBx r1.1).bind fun c2=>((oCons c2).bind fun p3=>((oSl 1 p3.1).bind fun c4=>((oCons p3.2).bind fun p5=>((oInt .i64 p5.1).bind fun n6=>((oNil p5.2).bind fun _=>((LIM F.q0q [(.rref [(.sl 1 c4),(.int .i64 n6)] 0)]).bind fun r7=>((oCons r7.2).bind fun p8=>((oNil p8.2).bind fun _=>((oAgg p8.1).bind fun c9=>((oCons c9).bind fun p10=>((oSl 1 p10.1).bind fun c11=>((oCons p10.2).bind fun p12=>((oInt .i64 p12.1).bind fun n13=>((oNil p12.2).bind fun _=>((oAgg r7.1).bind fun c14=>((oCons c14).bind fun p15=>((oSl 2 p15.1).bind fun c16=>((oNil p15.2).bind fun _=>((LIM F.q46 [(.rref [(.sl 1 c4),(.int .i64 n13)] 0),(.agg [(.sl 2 c16)])]).bind fun r17=>((oCons r17.2).bind fun p18=>((oNil p18.2).bind fun _=>((oAgg p18.1).bind fun c19=>((oCons c19).bind fun p20=>((oSl 1 p20.1).bind fun c21=>((oCons p20.2).bind fun p22=>((oInt .i64 p22.1).bind fun n23=>((oNil p22.2).bind fun _=>((oSl 1 r17.1).bind fun c24=>((LIM F.q0p [(.rref [(.sl 1 c4),(.int .i64 n23)] 0),(.rref [(.sl 2 c16)] 0),(.sl 1 c24)]).bind fun r25=>((oCons r25.2).bind fun p26=>((oNil p26.2).bind fun _=>((oAgg p26.1).bind fun c27=>((oCons c27).bind fun p28=>((oSl 1 p28.1).bind fun c29=>((oCons p28.2).bind fun p30=>((oInt .i64 p30.1).bind fun n31=>((oNil p30.2).bind fun _=>((oSl 2 r25.1).bind fun c32=>some ((.tup [(.agg [(.sl 2 c16)]),(.sl 1 c24),(.sl 2 c32)]),[])))))))))))))))))))))))))))))))))))))))))):=by kernel_rfl
theorem q3o.ev (n:Nat) (a0:List T):callK prog A H LIM n F.q3o [(.sl 1 a0)]=((LIM F.q6b [(.sl 1 a0)]).bind fun r1=>((oNil r1.2).bind fun _=>((oTup r1.1).bind fun c2=>((oCons c2).bind fun p3=>((oAgg p3.1).bind fun c4=>((oCons c4).bind fun p5=>((oSl 2 p5.1).bind fun c6=>((oNil p5.2).bind fun _=>((oCons p3.2).bind fun p7=>((oSl 2 p7.1).bind fun c8=>((oCons p7.2).bind fun p9=>((oSl 1 p9.1).bind fun c10=>((oCons p9.2).bind fun p11=>((oBx p11.1).bind fun c12=>((oCons c12).bind fun p13=>((oSl 1 p13.1).bind fun c14=>((oCons p13.2).bind fun p15=>((oInt .i64 p15.1).bind fun n16=>((oNil p15.2).bind fun _=>((oNil p11.2).bind fun _=>((LIM F.q4f [(.agg [(.sl 2 c6)]),(.sl 2 c8),(.sl 1 c10)]).bind fun r17=>((oNil r17.2).bind fun _=>((oAgg r17.1).bind fun c18=>((oCons c18).bind fun p19=>((oInt .i64 p19.1).bind fun n20=>((oCons p19.2).bind fun p21=>((oInt .i64 p21.1).bind fun n22=>((oCons p21.2).bind fun p23=>((oInt .i64 p23.1).bind fun n24=>((oNil p23.2).bind fun _=>(bif ((n20 == (0:Int))) then ((LIM F.q27 [(.rref [(.sl 1 c14),(.int .i64 n16)] 0),(.int .i64 (4:Int))]).bind fun r25=>((oCons r25.2).bind fun p26=>((oNil p26.2).bind fun _=>((oAgg p26.1).bind fun c27=>((oCons c27).bind fun p28=>((oSl 1 p28.1).bind fun c29=>((oCons p28.2).bind fun p30=>((oInt .i64 p30.1).bind fun n31=>((oNil p30.2).bind fun _=>((oBool r25.1).bind fun b32=>(bif (!b32) then some ((.tup [(.agg [(.sl 2 c6)]),(.sl 2 c8),(.int .i64 n24),(.int .i64 n22),(.sl 1 c10)]),[]) else ((LIM F.q29 [(.rref [(.sl 1 c14),(.int .i64 n31)] 0),(.sl 1 [(.int .i64 (0:Int)),(.int .i64 (1:Int)),(.int .i64 (-1:Int)),(.int .i64 ((((c8).length / 2):Nat):Int))])]).bind fun r33=>((oCons r33.2).bind fun p34=>((oNil p34.2).bind fun _=>((oAgg p34.1).bind fun c35=>((oCons c35).bind fun p36=>((oSl 1 p36.1).bind fun c37=>((oCons p36.2).bind fun p38=>((oInt .i64 p38.1).bind fun n39=>((oNil p38.2).bind fun _=>((oInt .i64 r33.1).bind fun n40=>((LIM F.q78 [(.rref [(.sl 1 c14),(.int .i64 n39)] 0),(.sl 1 c10)]).bind fun r41=>((oCons r41.2).bind fun p42=>((oNil p42.2).bind fun _=>((oAgg p42.1).bind fun c43=>((oCons c43).bind fun p44=>((oSl 1 p44.1).bind fun c45=>((oCons p44.2).bind fun p46=>((oInt .i64 p46.1).bind fun n47=>((oNil p46.2).bind fun _=>((oInt .i64 r41.1).bind fun n48=>some ((.tup [(.agg [(.sl 2 c6)]),(.sl 2 c8),(.int .i64 n40),(.int .i64 n48),(.sl 1 c10)]),[])))))))))))))))))))))))))))))))) else ((LIM F.q29 [(.rref [(.sl 1 c14),(.int .i64 n16)] 0),(.sl 1 [(.int .i64 (0:Int)),(.int .i64 (1:Int)),(.int .i64 (-1:Int)),(.int .i64 ((((c8).length / 2):Nat):Int))])]).bind fun r49=>((oCons r49.2).bind fun p50=>((oNil p50.2).bind fun _=>((oAgg p50.1).bind fun c51=>((oCons c51).bind fun p52=>((oSl 1 p52.1).bind fun c53=>((oCons p52.2).bind fun p54=>((oInt .i64 p54.1).bind fun n55=>((oNil p54.2).bind fun _=>((oInt .i64 r49.1).bind fun n56=>((LIM F.q78 [(.rref [(.sl 1 c14),(.int .i64 n55)] 0),(.sl 1 c10)]).bind fun r57=>((oCons r57.2).bind fun p58=>((oNil p58.2).bind fun _=>((oAgg p58.1).bind fun c59=>((oCons c59).bind fun p60=>((oSl 1 p60.1).bind fun c61=>((oCons p60.2).bind fun p62=>((oInt .i64 p62.1).bind fun n63=>((oNil p62.2).bind fun _=>((oInt .i64 r57.1).bind fun n64=>some ((.tup [(.agg [(.sl 2 c6)]),(.sl 2 c8),(.int .i64 n56),(.int .i64 n64),(.sl 1 c10)]),[])))))))))))))))))))))))))))))))))))))))))))))))))))):=by kernel_rfl
theorem q4f.ev (n:Nat) (a0_0 a1 a2:List T):callK prog A H LIM n F.q4f [(.agg [(.sl 2 a0_0)]),(.sl 2 a1),(.sl 1 a2)]=((LIM F.q5y [(.rref [(.sl 2 a0_0)] 0),(.sl 2 a1),(.sl 1 a2)]).bind fun r1=>((oNil r1.2).bind fun _=>((oInt .i64 r1.1).bind fun n2=>(bif ((n2 != (0:Int))) then some ((.agg [(.int .i64 n2),(.int .i64 (0:Int)),(.int .i64 (0:Int))]),[]) else ((LIM F.q1j [(.rref [(.sl 2 a0_0)] 0),(.sl 2 a1),(.sl 1 a2)]).bind fun r3=>((oNil r3.2).bind fun _=>((oTup r3.1).bind fun c4=>((oCons c4).bind fun p5=>((oInt .i64 p5.1).bind fun n6=>((oCons p5.2).bind fun p7=>((oInt .i64 p7.1).bind fun n8=>((oNil p7.2).bind fun _=>(bif (decide (n6 < (0:Int))) then some ((.agg [(.int .i64 (4:Int)),(.int .i64 (0:Int)),(.int .i64 (0:Int))]),[]) else some ((.agg [(.int .i64 (0:Int)),(.int .i64 n6),(.int .i64 n8)]),[])))))))))))))):=by kernel_rfl
theorem q3l.ev (n:Nat) (a0_0 a1 a2:List T):callK prog A H LIM n F.q3l [(.agg [(.sl 2 a0_0)]),(.sl 1 a1),(.sl 2 a2)]=((LIM F.q3h [(.agg [(.sl 2 a0_0)]),(.sl 1 a1)]).bind fun r1=>((oNil r1.2).bind fun _=>((oInt .i64 r1.1).bind fun n2=>(bif ((n2 == (0:Int))) then ((LIM F.q1e [(.rref [(.sl 2 a0_0)] 0),(.sl 2 a2)]).bind fun r3=>((oNil r3.2).bind fun _=>((oInt .i64 r3.1).bind fun n4=>(bif ((n4 == (0:Int))) then ((LIM F.q1m [(.rref [(.sl 2 a0_0)] 0),(.sl 1 a1),(.sl 2 a2)]).bind fun r5=>((oNil r5.2).bind fun _=>((oBool r5.1).bind fun b6=>some ((.bool b6),[])))) else some ((.bool false),[]))))) else some ((.bool false),[]))))):=by kernel_rfl
theorem q3h.ev (n:Nat) (a0_0 a1:List T):callK prog A H LIM n F.q3h [(.agg [(.sl 2 a0_0)]),(.sl 1 a1)]=((LIM F.q01 [(.agg [(.sl 2 a0_0)])]).bind fun r1=>((oNil r1.2).bind fun _=>((oInt .i64 r1.1).bind fun n2=>(bif ((n2 != (0:Int))) then some ((.int .i64 n2),[]) else ((LIM F.q0c [(.rref [(.sl 2 a0_0)] 0),(.sl 1 a1)]).bind fun r3=>((oNil r3.2).bind fun _=>((oInt .i64 r3.1).bind fun n4=>some ((.int .i64 n4),[])))))))):=by kernel_rfl
theorem q3t.ev (n:Nat) (a0_0 a1 a2_0 a2_1:List T):callK prog A H LIM n F.q3t [(.agg [(.sl 2 a0_0)]),(.sl 1 a1),(.agg [(.sl 1 a2_0),(.sl 1 a2_1)])]=((LIM F.q3h [(.agg [(.sl 2 a0_0)]),(.sl 1 a1)]).bind fun r1=>((oNil r1.2).bind fun _=>((oInt .i64 r1.1).bind fun n2=>(bif ((n2 != (0:Int))) then some ((.agg [(.int .i64 n2),(.sl 1 []),(.sl 1 [])]),[]) else ((LIM F.q0u [(.rref [(.sl 2 a0_0)] 0),(.sl 1 a2_0)]).bind fun r3=>((oNil r3.2).bind fun _=>((oInt .i64 r3.1).bind fun n4=>(bif ((n4 != (0:Int))) then some ((.agg [(.int .i64 n4),(.sl 1 []),(.sl 1 [])]),[]) else ((LIM F.q0u [(.rref [(.sl 2 a0_0)] 0),(.sl 1 a2_1)]).bind fun r5=>((oNil r5.2).bind fun _=>((oInt .i64 r5.1).bind fun n6=>(bif ((n6 != (0:Int))) then some ((.agg [(.int .i64 n6),(.sl 1 []),(.sl 1 [])]),[]) else ((LIM F.q5s [(.rref [(.sl 2 a0_0)] 0),(.sl 1 a1),(.sl 1 a2_0),(.sl 1 a2_1)]).bind fun r7=>((oNil r7.2).bind fun _=>((oInt .i64 r7.1).bind fun n8=>(bif ((n8 == (1:Int))) then ((LIM F.q7c [(.rref [(.sl 1 a2_0),(.sl 1 a2_1)] 0)]).bind fun r9=>((oNil r9.2).bind fun _=>((oAgg r9.1).bind fun c10=>((oCons c10).bind fun p11=>((oSl 1 p11.1).bind fun c12=>((oCons p11.2).bind fun p13=>((oSl 1 p13.1).bind fun c14=>((oNil p13.2).bind fun _=>some ((.agg [(.int .i64 (0:Int)),(.sl 1 c12),(.sl 1 c14)]),[]))))))))) else (bif ((n8 == (2:Int))) then ((LIM F.q2e [(.sl 1 a2_1)]).bind fun r15=>((oNil r15.2).bind fun _=>((oSl 1 r15.1).bind fun c16=>((LIM F.q2e [(.sl 1 a2_0)]).bind fun r17=>((oNil r17.2).bind fun _=>((oSl 1 r17.1).bind fun c18=>some ((.agg [(.int .i64 (0:Int)),(.sl 1 c16),(.sl 1 c18)]),[]))))))) else some ((.agg [(.int .i64 (10:Int)),(.sl 1 []),(.sl 1 [])]),[])))))))))))))))))):=by kernel_rfl
theorem q3x.ev (n:Nat) (a0_0:List T) (a1:ByteArray):callK prog A H LIM n F.q3x [(.agg [(.sl 2 a0_0)]),(.str a1)]=((LIM F.q01 [(.agg [(.sl 2 a0_0)])]).bind fun r1=>((oNil r1.2).bind fun _=>((oInt .i64 r1.1).bind fun n2=>(bif ((n2 != (0:Int))) then some ((.agg [(.int .i64 n2),(.sl 1 []),(.sl 1 [])]),[]) else (bif (decide ((a1.size:Int) > (337:Int))) then some ((.agg [(.int .i64 (5:Int)),(.sl 1 []),(.sl 1 [])]),[]) else ((LIM F.q1z [(.str a1),(.int .u8 (61:Int))]).bind fun r3=>((oNil r3.2).bind fun _=>((oSl 1 r3.1).bind fun c4=>(bif ((((((c4).length / 1):Nat):Int) != (2:Int))) then some ((.agg [(.int .i64 (5:Int)),(.sl 1 []),(.sl 1 [])]),[]) else (bif inB (0:Int) ((c4).length / 1) then ((c4[0]?).bind fun e5=>((oStr e5).bind fun s6=>((LIM F.q5q [(.rref [(.sl 2 a0_0)] 0),(.str s6)]).bind fun r7=>((oNil r7.2).bind fun _=>((oSl 1 r7.1).bind fun c8=>(bif inB (1:Int) ((c4).length / 1) then ((c4[1]?).bind fun e9=>((oStr e9).bind fun s10=>((LIM F.q5q [(.rref [(.sl 2 a0_0)] 0),(.str s10)]).bind fun r11=>((oNil r11.2).bind fun _=>((oSl 1 r11.1).bind fun c12=>((LIM F.q52 [(.rref [(.sl 2 a0_0)] 0),(.rref [(.sl 1 c8),(.sl 1 c12)] 0)]).bind fun r13=>((oNil r13.2).bind fun _=>((oInt .i64 r13.1).bind fun n14=>(bif ((n14 != (0:Int))) then some ((.agg [(.int .i64 (5:Int)),(.sl 1 []),(.sl 1 [])]),[]) else some ((.agg [(.int .i64 (0:Int)),(.sl 1 c8),(.sl 1 c12)]),[])))))))))) else none)))))) else none)))))))))):=by kernel_rfl
theorem q53.ev (n:Nat) (a0_0 a1:List T) (a2:Int) (a3:List T):callK prog A H LIM n F.q53 [(.agg [(.sl 2 a0_0)]),(.sl 1 a1),(.int .i64 a2),(.sl 1 a3)]=((LIM F.q5m [(.agg [(.sl 2 a0_0)]),(.sl 1 a1)]).bind fun r1=>((oNil r1.2).bind fun _=>((oInt .i64 r1.1).bind fun n2=>(bif ((n2 != (0:Int))) then some ((.agg [(.int .i64 n2),(.sl 1 [])]),[]) else ((LIM F.q5i [(.sl 1 a1),(.int .i64 a2)]).bind fun r3=>((oNil r3.2).bind fun _=>((oBool r3.1).bind fun b4=>(bif (!b4) then some ((.agg [(.int .i64 (3:Int)),(.sl 1 [])]),[]) else ((LIM F.q0u [(.rref [(.sl 2 a0_0)] 0),(.sl 1 a3)]).bind fun r5=>((oNil r5.2).bind fun _=>((oInt .i64 r5.1).bind fun n6=>(bif ((n6 != (0:Int))) then some ((.agg [(.int .i64 n6),(.sl 1 [])]),[]) else ((LIM F.q4c [(.rref [(.sl 2 a0_0)] 0),(.sl 1 a1),(.int .i64 a2),(.sl 1 a3)]).bind fun r7=>((oNil r7.2).bind fun _=>((oSl 1 r7.1).bind fun c8=>(bif (decide (((((c8).length / 1):Nat):Int) > (24:Int))) then some ((.agg [(.int .i64 (2:Int)),(.sl 1 [])]),[]) else some ((.agg [(.int .i64 (0:Int)),(.sl 1 c8)]),[]))))))))))))))))):=by kernel_rfl
theorem q4d.ev (n:Nat) (a0_0 a1:List T) (a2 a3:Int) (a4:List T):callK prog A H LIM n F.q4d [(.agg [(.sl 2 a0_0)]),(.sl 2 a1),(.int .i64 a2),(.int .i64 a3),(.sl 1 a4)]=((LIM F.q5y [(.rref [(.sl 2 a0_0)] 0),(.sl 2 a1),(.sl 1 a4)]).bind fun r1=>((oNil r1.2).bind fun _=>((oInt .i64 r1.1).bind fun n2=>(bif ((n2 != (0:Int))) then some ((.agg [(.int .i64 n2),(.sl 1 [])]),[]) else ((LIM F.q4w [(.int .i64 a2),(.int .i64 (0:Int)),(.int .i64 (IntKind.wrap .i64 (((((a1).length / 2):Nat):Int) - (1:Int))))]).bind fun r3=>((oNil r3.2).bind fun _=>((oBool r3.1).bind fun b4=>(bif (!b4) then some ((.agg [(.int .i64 (3:Int)),(.sl 1 [])]),[]) else ((LIM F.q5i [(.sl 1 a4),(.int .i64 a3)]).bind fun r5=>((oNil r5.2).bind fun _=>((oBool r5.1).bind fun b6=>(bif (!b6) then some ((.agg [(.int .i64 (3:Int)),(.sl 1 [])]),[]) else (bif inB a2 ((a1).length / 2) then ((LIM F.q5n [(.rref [(.sl 2 a0_0)] 0),(.rref ((a1.drop ((Int.toNat a2)*2)).take 2) 0),(.int .i64 a3),(.sl 1 a4)]).bind fun r7=>((oNil r7.2).bind fun _=>((oTup r7.1).bind fun c8=>((oCons c8).bind fun p9=>((oSl 1 p9.1).bind fun c10=>((oCons p9.2).bind fun p11=>((oInt .i64 p11.1).bind fun n12=>((oNil p11.2).bind fun _=>some ((.agg [(.int .i64 n12),(.sl 1 c10)]),[]))))))))) else none))))))))))))):=by kernel_rfl
theorem q57.ev (n:Nat) (a0_0 a1:List T):callK prog A H LIM n F.q57 [(.agg [(.sl 2 a0_0)]),(.sl 2 a1)]=((LIM F.q01 [(.agg [(.sl 2 a0_0)])]).bind fun r1=>((oNil r1.2).bind fun _=>((oInt .i64 r1.1).bind fun n2=>(bif ((n2 != (0:Int))) then some ((.int .i64 n2),[]) else ((LIM F.q0j [(.rref [(.sl 2 a0_0)] 0),(.sl 2 a1)]).bind fun r3=>((oNil r3.2).bind fun _=>((oInt .i64 r3.1).bind fun n4=>some ((.int .i64 n4),[])))))))):=by kernel_rfl
def q01.st4 (x0 x1 x2:Int) (x3:List T):St:=⟨[(1,(.one (.ptr 64 0))),(3,oi x0),(5,oi x1),(6,oi x2)],[(64,(.box [(.t (.sl 2 x3))]))]⟩
def q01.st6 (x0 x1:Int) (x2:List T):St:=⟨[(1,(.one (.ptr 64 0))),(3,oi x0),(7,oi x1)],[(64,(.box [(.t (.sl 2 x2))]))]⟩
def q01.st2 (x0 x1:Int) (x2:List T):St:=⟨[(1,(.one (.ptr 64 0))),(3,oi x0),(5,oi x1)],[(64,(.box [(.t (.sl 2 x2))]))]⟩
def q01.st0 (x0 x1:Int) (x2:List T):St:=⟨[(1,(.one (.ptr 64 0))),(3,oi x0),(4,oi x1)],[(64,(.box [(.t (.sl 2 x2))]))]⟩
noncomputable def q01.K0 (n:Nat):Ex→St→R:=kx F.q01 n [.block 0,.seq 0 (cx F.q01 [1,1,1,1])] (endOf prog A F.q01)
noncomputable def q01.at0 (n:Nat) (m:Nat) (s:St):R:=lx F.q01 n 0 [1,1,1,0,1,0,0] (q01.K0 n) m s
noncomputable def q01.rd0 (n:Nat) (L0:St→R) (s:St):R:=rx F.q01 n 0 [1,1,1,0,1,0,0] (q01.K0 n) L0 s
theorem q01.next0 (n:Nat) (m:Nat) (s:St):q01.at0 n (m+1) s=q01.rd0 n (q01.at0 n m) s:=nx _ _ _ _ _ _ _
noncomputable def q01.K2 (n:Nat):Ex→St→R:=kx F.q01 n [.block 2,.seq 0 (cx F.q01 [1,1,1,1,1])] (endOf prog A F.q01)
noncomputable def q01.at2 (n:Nat) (m:Nat) (s:St):R:=lx F.q01 n 2 [1,1,1,1,0,1,0,0] (q01.K2 n) m s
noncomputable def q01.rd2 (n:Nat) (L2:St→R) (s:St):R:=rx F.q01 n 2 [1,1,1,1,0,1,0,0] (q01.K2 n) L2 s
theorem q01.next2 (n:Nat) (m:Nat) (s:St):q01.at2 n (m+1) s=q01.rd2 n (q01.at2 n m) s:=nx _ _ _ _ _ _ _
noncomputable def q01.K6 (n:Nat):Ex→St→R:=kx F.q01 n [.block 6,.seq 0 (cx F.q01 [1,1,1,1,1,1])] (endOf prog A F.q01)
noncomputable def q01.at6 (n:Nat) (m:Nat) (s:St):R:=lx F.q01 n 6 [1,1,1,1,1,0,1,0,0] (q01.K6 n) m s
noncomputable def q01.rd6 (n:Nat) (L6:St→R) (s:St):R:=rx F.q01 n 6 [1,1,1,1,1,0,1,0,0] (q01.K6 n) L6 s
theorem q01.next6 (n:Nat) (m:Nat) (s:St):q01.at6 n (m+1) s=q01.rd6 n (q01.at6 n m) s:=nx _ _ _ _ _ _ _
noncomputable def q01.K4 (n:Nat) (L2:St→R):Ex→St→R:=kx F.q01 n [.block 4,.block 3,.seq 2 (cx F.q01 [1,1,1,1,0,1,0,0,1,1])] (bx F.q01 2 (q01.K2 n) L2)
noncomputable def q01.at4 (n:Nat) (L2:St→R) (m:Nat) (s:St):R:=lx F.q01 n 4 [1,1,1,1,0,1,0,0,1,0,0,1,0,0] (q01.K4 n L2) m s
noncomputable def q01.rd4 (n:Nat) (L2:St→R) (L4:St→R) (s:St):R:=rx F.q01 n 4 [1,1,1,1,0,1,0,0,1,0,0,1,0,0] (q01.K4 n L2) L4 s
theorem q01.next4 (n:Nat) (L2:St→R) (m:Nat) (s:St):q01.at4 n L2 (m+1) s=q01.rd4 n L2 (q01.at4 n L2 m) s:=nx _ _ _ _ _ _ _
theorem q01.round0 (n:Nat) (L0:St→R) (x0 x1:Int) (x2:List T):q01.rd0 n L0 (q01.st0 x0 x1 x2)=(bif (decide (x1 < x0)) then (bif inB x1 ((x2).length / 2) then ((x2[((Int.toNat x1)*2)]?).bind fun e1=>((oStr e1).bind fun s2=>((LIM F.q24 [(.str s2)]).bind fun r3=>((oNil r3.2).bind fun _=>((oBool r3.1).bind fun b4=>(bif (!b4) then some ((.int .i64 (5:Int)),[]) else (bif inB x1 ((x2).length / 2) then ((x2[(((Int.toNat x1)*2)+1)]?).bind fun e5=>((oInt .i64 e5).bind fun n6=>((LIM F.q4w [(.int .i64 n6),(.int .i64 (0:Int)),(.int .i64 (2:Int))]).bind fun r7=>((oNil r7.2).bind fun _=>((oBool r7.1).bind fun b8=>(bif (!b8) then some ((.int .i64 (3:Int)),[]) else (L0 (q01.st0 x0 (IntKind.wrap .i64 (x1+(1:Int))) x2)))))))) else none))))))) else none) else (q01.at2 n n (q01.st2 x0 (0:Int) x2))):=by kernel_rfl
theorem q01.round2 (n:Nat) (L2:St→R) (x0 x1:Int) (x2:List T):q01.rd2 n L2 (q01.st2 x0 x1 x2)=(bif (decide (x1 < x0)) then (q01.at4 n L2 n (q01.st4 x0 x1 (0:Int) x2)) else (q01.at6 n n (q01.st6 x0 (0:Int) x2))):=by kernel_rfl
theorem q01.round6 (n:Nat) (L6:St→R) (x0 x1:Int) (x2:List T):q01.rd6 n L6 (q01.st6 x0 x1 x2)=(bif (decide (x1 < x0)) then (bif inB x1 ((x2).length / 2) then ((x2[(((Int.toNat x1)*2)+1)]?).bind fun e13=>((oInt .i64 e13).bind fun n14=>(bif ((n14 == (0:Int))) then some ((.int .i64 (0:Int)),[]) else (L6 (q01.st6 x0 (IntKind.wrap .i64 (x1+(1:Int))) x2))))) else none) else some ((.int .i64 (4:Int)),[])):=by kernel_rfl
theorem q01.round4 (n:Nat) (L2:St→R) (L4:St→R) (x0 x1 x2:Int) (x3:List T):q01.rd4 n L2 L4 (q01.st4 x0 x1 x2 x3)=(bif (decide (x2 < x1)) then (bif inB x1 ((x3).length / 2) then ((x3[((Int.toNat x1)*2)]?).bind fun e9=>((oStr e9).bind fun s10=>(bif inB x2 ((x3).length / 2) then ((x3[((Int.toNat x2)*2)]?).bind fun e11=>((oStr e11).bind fun s12=>(bif (s10.toList == s12.toList) then some ((.int .i64 (6:Int)),[]) else (L4 (q01.st4 x0 x1 (IntKind.wrap .i64 (x2+(1:Int))) x3))))) else none))) else none) else (L2 (q01.st2 x0 (IntKind.wrap .i64 (x1+(1:Int))) x3))):=by kernel_rfl
theorem q01.ev (n:Nat) (a0_0:List T):callK prog A H LIM n F.q01 [(.agg [(.sl 2 a0_0)])]=(bif (decide (((((a0_0).length / 2):Nat):Int) < (1:Int))) then some ((.int .i64 (2:Int)),[]) else (bif (decide (((((a0_0).length / 2):Nat):Int) > (6:Int))) then some ((.int .i64 (2:Int)),[]) else (q01.at0 n n (q01.st0 ((((a0_0).length / 2):Nat):Int) (0:Int) a0_0)))):=by kernel_rfl
theorem q5m.ev (n:Nat) (a0_0 a1:List T):callK prog A H LIM n F.q5m [(.agg [(.sl 2 a0_0)]),(.sl 1 a1)]=((LIM F.q01 [(.agg [(.sl 2 a0_0)])]).bind fun r1=>((oNil r1.2).bind fun _=>((oInt .i64 r1.1).bind fun n2=>(bif ((n2 != (0:Int))) then some ((.int .i64 n2),[]) else ((LIM F.q0u [(.rref [(.sl 2 a0_0)] 0),(.sl 1 a1)]).bind fun r3=>((oNil r3.2).bind fun _=>((oInt .i64 r3.1).bind fun n4=>some ((.int .i64 n4),[])))))))):=by kernel_rfl
theorem q27.ev (n:Nat) (a0_0:List T) (a0_1 a1:Int):callK prog A H LIM n F.q27 [(.rref [(.sl 1 a0_0),(.int .i64 a0_1)] 0),(.int .i64 a1)]=((LIM F.q1c [(.rref [(.sl 1 a0_0),(.int .i64 a0_1)] 0),(.int .i64 a1)]).bind fun r1=>((oCons r1.2).bind fun p2=>((oNil p2.2).bind fun _=>((oAgg p2.1).bind fun c3=>((oCons c3).bind fun p4=>((oSl 1 p4.1).bind fun c5=>((oCons p4.2).bind fun p6=>((oInt .i64 p6.1).bind fun n7=>((oNil p6.2).bind fun _=>((oInt .i64 r1.1).bind fun n8=>some ((.bool ((n8 == (0:Int)))),[(.agg [(.sl 1 a0_0),(.int .i64 n7)])]))))))))))):=by kernel_rfl
def q1z.st0 (x0:ByteArray) (x1 x2 x3:Int) (x4:List T):St:=⟨[(0,(.one (.t (.str x0)))),(1,(.one (.t (.int .u8 x1)))),(5,(.one (.obj 512))),(6,oi x2),(7,oi x3)],[(512,(.arr true true 1 x4))]⟩
noncomputable def q1z.K0 (n:Nat):Ex→St→R:=kx F.q1z n [.block 0,.seq 0 (cx F.q1z [1,1,1,1])] (endOf prog A F.q1z)
noncomputable def q1z.at0 (n:Nat) (m:Nat) (s:St):R:=lx F.q1z n 0 [1,1,1,0,1,0,0] (q1z.K0 n) m s
noncomputable def q1z.rd0 (n:Nat) (L0:St→R) (s:St):R:=rx F.q1z n 0 [1,1,1,0,1,0,0] (q1z.K0 n) L0 s
theorem q1z.next0 (n:Nat) (m:Nat) (s:St):q1z.at0 n (m+1) s=q1z.rd0 n (q1z.at0 n m) s:=nx _ _ _ _ _ _ _
theorem q1z.round0 (n:Nat) (L0:St→R) (x0:ByteArray) (x1 x2 x3:Int) (x4:List T):q1z.rd0 n L0 (q1z.st0 x0 x1 x2 x3 x4)=(bif (decide (x3≤(x0.size:Int))) then (bif ((x3 == (x0.size:Int))) then (bif decide (0≤x2)&&decide (x2≤x3)&&decide (x3≤(x0.size:Int)) then (bif Nat.ble (((x4).length+1)*16) (140737488355328*1) then (L0 (q1z.st0 x0 x1 (IntKind.wrap .i64 (x3+(1:Int))) (IntKind.wrap .i64 (x3+(1:Int))) (x4++[(.str (x0.extract (Int.toNat x2) (Int.toNat x3)))]:List T))) else none) else none) else (bif inB x3 x0.size then (bif ((((x0.data.getD (Int.toNat x3) 0).toNat:Int) == x1)) then (bif decide (0≤x2)&&decide (x2≤x3)&&decide (x3≤(x0.size:Int)) then (bif Nat.ble (((x4).length+1)*16) (140737488355328*1) then (L0 (q1z.st0 x0 x1 (IntKind.wrap .i64 (x3+(1:Int))) (IntKind.wrap .i64 (x3+(1:Int))) (x4++[(.str (x0.extract (Int.toNat x2) (Int.toNat x3)))]:List T))) else none) else none) else (L0 (q1z.st0 x0 x1 x2 (IntKind.wrap .i64 (x3+(1:Int))) x4))) else none)) else some ((.sl 1 x4),[])):=by kernel_rfl
theorem q1z.ev (n:Nat) (a0:ByteArray) (a1:Int):callK prog A H LIM n F.q1z [(.str a0),(.int .u8 a1)]=(q1z.at0 n n (q1z.st0 a0 a1 (0:Int) (0:Int) [])):=by kernel_rfl
theorem q4w.ev (n:Nat) (a0 a1 a2:Int):callK prog A H LIM n F.q4w [(.int .i64 a0),(.int .i64 a1),(.int .i64 a2)]=(bif (decide (a0 ≥ a1)) then some ((.bool (decide (a0≤a2))),[]) else some ((.bool false),[])):=by kernel_rfl
theorem q2e.ev (n:Nat) (a0:List T):callK prog A H LIM n F.q2e [(.sl 1 a0)]=(bif (a0).all T.scalar then (bif Nat.ble ((0+(a0).length)*8) (140737488355328*1) then some ((.sl 1 a0),[]) else none) else none):=by kernel_rfl
theorem q1c.ev (n:Nat) (a0_0:List T) (a0_1 a1:Int):callK prog A H LIM n F.q1c [(.rref [(.sl 1 a0_0),(.int .i64 a0_1)] 0),(.int .i64 a1)]=(bif (decide (a1 < (1:Int))) then some ((.int .i64 (0:Int)),[(.agg [(.sl 1 a0_0),(.int .i64 (IntKind.wrap .i64 (a0_1+(1:Int))))])]) else (bif ((((((a0_0).length / 1):Nat):Int) == (0:Int))) then (bif decide (a1=0) then none else some ((.int .i64 (Int.tmod (IntKind.wrap .i64 ((IntKind.wrap .i64 ((IntKind.wrap .i64 (a0_1+(1:Int))) - (1:Int)))*(7:Int))) a1)),[(.agg [(.sl 1 a0_0),(.int .i64 (IntKind.wrap .i64 (a0_1+(1:Int))))])])) else (bif decide (((((a0_0).length / 1):Nat):Int)=0) then none else (bif inB (Int.tmod (IntKind.wrap .i64 ((IntKind.wrap .i64 (a0_1+(1:Int))) - (1:Int))) ((((a0_0).length / 1):Nat):Int)) ((a0_0).length / 1) then ((a0_0[((Int.toNat (Int.tmod (IntKind.wrap .i64 ((IntKind.wrap .i64 (a0_1+(1:Int))) - (1:Int))) ((((a0_0).length / 1):Nat):Int)))*1)]?).bind fun e1=>((oInt .u8 e1).bind fun n2=>(bif decide (((((a0_0).length / 1):Nat):Int)=0) then none else (bif (decide (a1 > (200:Int))) then (bif decide (((((a0_0).length / 1):Nat):Int)=0) then none else (bif inB (Int.tmod (IntKind.wrap .i64 ((IntKind.wrap .i64 ((IntKind.wrap .i64 (a0_1+(1:Int))) - (1:Int)))+(1:Int))) ((((a0_0).length / 1):Nat):Int)) ((a0_0).length / 1) then ((a0_0[((Int.toNat (Int.tmod (IntKind.wrap .i64 ((IntKind.wrap .i64 ((IntKind.wrap .i64 (a0_1+(1:Int))) - (1:Int)))+(1:Int))) ((((a0_0).length / 1):Nat):Int)))*1)]?).bind fun e3=>((oInt .u8 e3).bind fun n4=>(bif decide (a1=0) then none else some ((.int .i64 (Int.tmod (IntKind.wrap .i64 ((IntKind.wrap .i64 ((IntKind.wrap .i64 ((IntKind.wrap .i64 ((IntKind.wrap .i64 n2)+(IntKind.wrap .i64 ((IntKind.wrap .i64 (Int.tdiv (IntKind.wrap .i64 ((IntKind.wrap .i64 (a0_1+(1:Int))) - (1:Int))) ((((a0_0).length / 1):Nat):Int)))*(37:Int)))))*(251:Int)))+(IntKind.wrap .i64 ((IntKind.wrap .i64 n4)*(13:Int)))))+(IntKind.wrap .i64 ((IntKind.wrap .i64 (a0_1+(1:Int))) - (1:Int))))) a1)),[(.agg [(.sl 1 a0_0),(.int .i64 (IntKind.wrap .i64 (a0_1+(1:Int))))])])))) else none)) else (bif decide (a1=0) then none else some ((.int .i64 (Int.tmod (IntKind.wrap .i64 ((IntKind.wrap .i64 n2)+(IntKind.wrap .i64 ((IntKind.wrap .i64 (Int.tdiv (IntKind.wrap .i64 ((IntKind.wrap .i64 (a0_1+(1:Int))) - (1:Int))) ((((a0_0).length / 1):Nat):Int)))*(37:Int))))) a1)),[(.agg [(.sl 1 a0_0),(.int .i64 (IntKind.wrap .i64 (a0_1+(1:Int))))])])))))) else none)))):=by kernel_rfl
theorem q29.ev (n:Nat) (a0_0:List T) (a0_1:Int) (a1:List T):callK prog A H LIM n F.q29 [(.rref [(.sl 1 a0_0),(.int .i64 a0_1)] 0),(.sl 1 a1)]=((LIM F.q1c [(.rref [(.sl 1 a0_0),(.int .i64 a0_1)] 0),(.int .i64 ((((a1).length / 1):Nat):Int))]).bind fun r1=>((oCons r1.2).bind fun p2=>((oNil p2.2).bind fun _=>((oAgg p2.1).bind fun c3=>((oCons c3).bind fun p4=>((oSl 1 p4.1).bind fun c5=>((oCons p4.2).bind fun p6=>((oInt .i64 p6.1).bind fun n7=>((oNil p6.2).bind fun _=>((oInt .i64 r1.1).bind fun n8=>(bif inB n8 ((a1).length / 1) then ((a1[((Int.toNat n8)*1)]?).bind fun e9=>((oInt .i64 e9).bind fun n10=>some ((.int .i64 n10),[(.agg [(.sl 1 a0_0),(.int .i64 n7)])]))) else none))))))))))):=by kernel_rfl
def q1p.st0 (x0 x1:List T) (x2:Int):St:=⟨[(0,ol 1 x0),(1,ol 1 x1),(5,oi x2)],[]⟩
noncomputable def q1p.K0 (n:Nat):Ex→St→R:=kx F.q1p n [.block 0,.seq 0 (cx F.q1p [1,1,1])] (endOf prog A F.q1p)
noncomputable def q1p.at0 (n:Nat) (m:Nat) (s:St):R:=lx F.q1p n 0 [1,1,0,1,0,0] (q1p.K0 n) m s
noncomputable def q1p.rd0 (n:Nat) (L0:St→R) (s:St):R:=rx F.q1p n 0 [1,1,0,1,0,0] (q1p.K0 n) L0 s
theorem q1p.next0 (n:Nat) (m:Nat) (s:St):q1p.at0 n (m+1) s=q1p.rd0 n (q1p.at0 n m) s:=nx _ _ _ _ _ _ _
theorem q1p.round0 (n:Nat) (L0:St→R) (x0 x1:List T) (x2:Int):q1p.rd0 n L0 (q1p.st0 x0 x1 x2)=(bif (decide (x2 < ((((x0).length / 1):Nat):Int))) then (bif inB x2 ((x0).length / 1) then ((x0[((Int.toNat x2)*1)]?).bind fun e1=>((oInt .i64 e1).bind fun n2=>(bif inB x2 ((x1).length / 1) then ((x1[((Int.toNat x2)*1)]?).bind fun e3=>((oInt .i64 e3).bind fun n4=>(bif ((n2 != n4)) then some ((.bool false),[]) else (L0 (q1p.st0 x0 x1 (IntKind.wrap .i64 (x2+(1:Int)))))))) else none))) else none) else some ((.bool true),[])):=by kernel_rfl
theorem q1p.ev (n:Nat) (a0 a1:List T):callK prog A H LIM n F.q1p [(.sl 1 a0),(.sl 1 a1)]=(bif ((((((a0).length / 1):Nat):Int) != ((((a1).length / 1):Nat):Int))) then some ((.bool false),[]) else (q1p.at0 n n (q1p.st0 a0 a1 (0:Int)))):=by kernel_rfl
theorem q44.ev (n:Nat) (a0:List T):callK prog A H LIM n F.q44 [(.sl 1 a0)]=some ((.bx [(.sl 1 a0),(.int .i64 (0:Int))]),[]):=by kernel_rfl
def q0q.st3 (x0 x1:Int) (x2:List T) (x3:Int) (x4:List T):St:=⟨[(0,(.one (.ptr 1000000 0))),(2,(.one (.ptr 128 0))),(3,(.one (.ptr 192 0))),(4,oi x0),(5,oi x1)],[(1000000,(.box [(.kept 0 (.sl 1 x2)),(.t (.int .i64 x3))])),(128,(.box [.nil])),(448,(.arr true true 2 x4)),(192,(.box [(.obj 448)]))]⟩
def q0q.st1 (x0:List T) (x1:Int) (x2:List T):St:=⟨[(0,(.one (.ptr 1000000 0))),(2,(.one (.ptr 128 0))),(3,(.one (.ptr 192 0)))],[(1000000,(.box [(.kept 0 (.sl 1 x0)),(.t (.int .i64 x1))])),(128,(.box [.nil])),(448,(.arr true true 2 x2)),(192,(.box [(.obj 448)]))]⟩
noncomputable def q0q.K1 (n:Nat):Ex→St→R:=kx F.q0q n [.block 1,.block 0,.seq 0 (cx F.q0q [1,1,1,1,1])] (endOf prog A F.q0q)
noncomputable def q0q.at1 (n:Nat) (m:Nat) (s:St):R:=lx F.q0q n 1 [1,1,1,1,0,1,0,1,1,1,1,1,1,1,1,1,1,1,1,0,0] (q0q.K1 n) m s
noncomputable def q0q.rd1 (n:Nat) (L1:St→R) (s:St):R:=rx F.q0q n 1 [1,1,1,1,0,1,0,1,1,1,1,1,1,1,1,1,1,1,1,0,0] (q0q.K1 n) L1 s
theorem q0q.next1 (n:Nat) (m:Nat) (s:St):q0q.at1 n (m+1) s=q0q.rd1 n (q0q.at1 n m) s:=nx _ _ _ _ _ _ _
noncomputable def q0q.K3 (n:Nat):Ex→St→R:=kx F.q0q n [.block 3,.block 0,.seq 0 (cx F.q0q [1,1,1,1,1])] (endOf prog A F.q0q)
noncomputable def q0q.at3 (n:Nat) (m:Nat) (s:St):R:=lx F.q0q n 3 [1,1,1,1,0,1,0,1,1,1,1,1,1,1,1,1,1,1,0,1,0,0] (q0q.K3 n) m s
noncomputable def q0q.rd3 (n:Nat) (L3:St→R) (s:St):R:=rx F.q0q n 3 [1,1,1,1,0,1,0,1,1,1,1,1,1,1,1,1,1,1,0,1,0,0] (q0q.K3 n) L3 s
theorem q0q.next3 (n:Nat) (m:Nat) (s:St):q0q.at3 n (m+1) s=q0q.rd3 n (q0q.at3 n m) s:=nx _ _ _ _ _ _ _
theorem q0q.round1 (n:Nat) (L1:St→R) (x0:List T) (x1:Int) (x2:List T):q0q.rd1 n L1 (q0q.st1 x0 x1 x2)=(bif (decide (((((x2).length / 2):Nat):Int) < (7:Int))) then (bif Nat.ble (((x2).length+2)*24) (140737488355328*2) then (L1 (q0q.st1 x0 x1 (x2++[(.str (ByteArray.mk #[122])),(.int .i64 (0:Int))]:List T))) else none) else some ((.agg [(.sl 2 x2)]),[(.agg [(.sl 1 x0),(.int .i64 x1)])])):=by kernel_rfl
theorem q0q.round3 (n:Nat) (L3:St→R) (x0 x1:Int) (x2:List T) (x3:Int) (x4:List T):q0q.rd3 n L3 (q0q.st3 x0 x1 x2 x3 x4)=(bif (decide (x1 < x0)) then (bif inB x1 ((x4).length / 2) then (bif decide ((((Int.toNat x1)*2)+1)+1≤(x4).length) then (L3 (q0q.st3 x0 (IntKind.wrap .i64 (x1+(1:Int))) x2 x3 (setCells x4 (((Int.toNat x1)*2)+1) [(.int .i64 (1:Int))]))) else none) else none) else some ((.agg [(.sl 2 x4)]),[(.agg [(.sl 1 x2),(.int .i64 x3)])])):=by kernel_rfl
theorem q0q.ev (n:Nat) (a0_0:List T) (a0_1:Int):callK prog A H LIM n F.q0q [(.rref [(.sl 1 a0_0),(.int .i64 a0_1)] 0)]=((LIM F.q74 [(.rref [(.sl 1 a0_0),(.int .i64 a0_1)] 0)]).bind fun r1=>((oCons r1.2).bind fun p2=>((oNil p2.2).bind fun _=>((oAgg p2.1).bind fun c3=>((oCons c3).bind fun p4=>((oSl 1 p4.1).bind fun c5=>((oCons p4.2).bind fun p6=>((oInt .i64 p6.1).bind fun n7=>((oNil p6.2).bind fun _=>((oAgg r1.1).bind fun c8=>((oCons c8).bind fun p9=>((oSl 2 p9.1).bind fun c10=>((oNil p9.2).bind fun _=>((LIM F.q27 [(.rref [(.sl 1 a0_0),(.int .i64 n7)] 0),(.int .i64 (9:Int))]).bind fun r11=>((oCons r11.2).bind fun p12=>((oNil p12.2).bind fun _=>((oAgg p12.1).bind fun c13=>((oCons c13).bind fun p14=>((oSl 1 p14.1).bind fun c15=>((oCons p14.2).bind fun p16=>((oInt .i64 p16.1).bind fun n17=>((oNil p16.2).bind fun _=>((oBool r11.1).bind fun b18=>(bif (!b18) then some ((.agg [(.sl 2 c10)]),[(.agg [(.sl 1 a0_0),(.int .i64 n17)])]) else ((LIM F.q1c [(.rref [(.sl 1 a0_0),(.int .i64 n17)] 0),(.int .i64 (7:Int))]).bind fun r19=>((oCons r19.2).bind fun p20=>((oNil p20.2).bind fun _=>((oAgg p20.1).bind fun c21=>((oCons c21).bind fun p22=>((oSl 1 p22.1).bind fun c23=>((oCons p22.2).bind fun p24=>((oInt .i64 p24.1).bind fun n25=>((oNil p24.2).bind fun _=>((oInt .i64 r19.1).bind fun n26=>(bif ((n26 == (0:Int))) then some ((.agg [(.sl 2 [])]),[(.agg [(.sl 1 a0_0),(.int .i64 n25)])]) else (bif ((n26 == (1:Int))) then (bif inB (IntKind.wrap .i64 (((((c10).length / 2):Nat):Int) - (1:Int))) ((c10).length / 2) then (bif decide (((Int.toNat (IntKind.wrap .i64 (((((c10).length / 2):Nat):Int) - (1:Int))))*2)+1≤(c10).length) then some ((.agg [(.sl 2 (setCells c10 ((Int.toNat (IntKind.wrap .i64 (((((c10).length / 2):Nat):Int) - (1:Int))))*2) [(.str (ByteArray.mk #[97,98,99,100]))]))]),[(.agg [(.sl 1 a0_0),(.int .i64 n25)])]) else none) else none) else (bif ((n26 == (2:Int))) then ((LIM F.q1c [(.rref [(.sl 1 a0_0),(.int .i64 n25)] 0),(.int .i64 ((((c10).length / 2):Nat):Int))]).bind fun r27=>((oCons r27.2).bind fun p28=>((oNil p28.2).bind fun _=>((oAgg p28.1).bind fun c29=>((oCons c29).bind fun p30=>((oSl 1 p30.1).bind fun c31=>((oCons p30.2).bind fun p32=>((oInt .i64 p32.1).bind fun n33=>((oNil p32.2).bind fun _=>((oInt .i64 r27.1).bind fun n34=>(bif inB n34 ((c10).length / 2) then (bif decide (((Int.toNat n34)*2)+1≤(c10).length) then some ((.agg [(.sl 2 (setCells c10 ((Int.toNat n34)*2) [(.str (ByteArray.mk #[97,66]))]))]),[(.agg [(.sl 1 a0_0),(.int .i64 n33)])]) else none) else none))))))))))) else (bif ((n26 == (3:Int))) then ((LIM F.q1c [(.rref [(.sl 1 a0_0),(.int .i64 n25)] 0),(.int .i64 ((((c10).length / 2):Nat):Int))]).bind fun r35=>((oCons r35.2).bind fun p36=>((oNil p36.2).bind fun _=>((oAgg p36.1).bind fun c37=>((oCons c37).bind fun p38=>((oSl 1 p38.1).bind fun c39=>((oCons p38.2).bind fun p40=>((oInt .i64 p40.1).bind fun n41=>((oNil p40.2).bind fun _=>((oInt .i64 r35.1).bind fun n42=>((LIM F.q29 [(.rref [(.sl 1 a0_0),(.int .i64 n41)] 0),(.sl 1 [(.int .i64 (3:Int)),(.int .i64 (-1:Int))])]).bind fun r43=>((oCons r43.2).bind fun p44=>((oNil p44.2).bind fun _=>((oAgg p44.1).bind fun c45=>((oCons c45).bind fun p46=>((oSl 1 p46.1).bind fun c47=>((oCons p46.2).bind fun p48=>((oInt .i64 p48.1).bind fun n49=>((oNil p48.2).bind fun _=>((oInt .i64 r43.1).bind fun n50=>(bif inB n42 ((c10).length / 2) then (bif decide ((((Int.toNat n42)*2)+1)+1≤(c10).length) then some ((.agg [(.sl 2 (setCells c10 (((Int.toNat n42)*2)+1) [(.int .i64 n50)]))]),[(.agg [(.sl 1 a0_0),(.int .i64 n49)])]) else none) else none))))))))))))))))))))) else (bif ((n26 == (4:Int))) then (bif inB (0:Int) ((c10).length / 2) then ((c10[0]?).bind fun e51=>((oStr e51).bind fun s52=>((c10[1]?).bind fun e53=>((oInt .i64 e53).bind fun n54=>(bif Nat.ble (((c10).length+2)*24) (140737488355328*2) then some ((.agg [(.sl 2 (c10++[(.str s52),(.int .i64 n54)]:List T))]),[(.agg [(.sl 1 a0_0),(.int .i64 n25)])]) else none))))) else none) else (bif ((n26 == (5:Int))) then (q0q.at3 n n (q0q.st3 ((((c10).length / 2):Nat):Int) (0:Int) a0_0 n25 c10)) else (q0q.at1 n n (q0q.st1 a0_0 n25 c10)))))))))))))))))))))))))))))))))))))))))):=by kernel_rfl
theorem q46.ev (n:Nat) (a0_0:List T) (a0_1:Int) (a1_0:List T):callK prog A H LIM n F.q46 [(.rref [(.sl 1 a0_0),(.int .i64 a0_1)] 0),(.agg [(.sl 2 a1_0)])]=((LIM F.q0r [(.rref [(.sl 1 a0_0),(.int .i64 a0_1)] 0),(.agg [(.sl 2 a1_0)])]).bind fun r1=>((oCons r1.2).bind fun p2=>((oNil p2.2).bind fun _=>((oAgg p2.1).bind fun c3=>((oCons c3).bind fun p4=>((oSl 1 p4.1).bind fun c5=>((oCons p4.2).bind fun p6=>((oInt .i64 p6.1).bind fun n7=>((oNil p6.2).bind fun _=>((oSl 1 r1.1).bind fun c8=>(bif (decide (((((c8).length / 1):Nat):Int) < (1:Int))) then some ((.sl 1 c8),[(.agg [(.sl 1 a0_0),(.int .i64 n7)])]) else ((LIM F.q27 [(.rref [(.sl 1 a0_0),(.int .i64 n7)] 0),(.int .i64 (10:Int))]).bind fun r9=>((oCons r9.2).bind fun p10=>((oNil p10.2).bind fun _=>((oAgg p10.1).bind fun c11=>((oCons c11).bind fun p12=>((oSl 1 p12.1).bind fun c13=>((oCons p12.2).bind fun p14=>((oInt .i64 p14.1).bind fun n15=>((oNil p14.2).bind fun _=>((oBool r9.1).bind fun b16=>(bif (!b16) then some ((.sl 1 c8),[(.agg [(.sl 1 a0_0),(.int .i64 n15)])]) else ((LIM F.q1c [(.rref [(.sl 1 a0_0),(.int .i64 n15)] 0),(.int .i64 (3:Int))]).bind fun r17=>((oCons r17.2).bind fun p18=>((oNil p18.2).bind fun _=>((oAgg p18.1).bind fun c19=>((oCons c19).bind fun p20=>((oSl 1 p20.1).bind fun c21=>((oCons p20.2).bind fun p22=>((oInt .i64 p22.1).bind fun n23=>((oNil p22.2).bind fun _=>((oInt .i64 r17.1).bind fun n24=>(bif ((n24 == (0:Int))) then (bif decide (0≤(1:Int))&&decide ((1:Int)≤((((c8).length / 1):Nat):Int))&&decide (((((c8).length / 1):Nat):Int)≤((((c8).length / 1):Nat):Int)) then some ((.sl 1 ((c8.take ((Int.toNat ((((c8).length / 1):Nat):Int))*1)).drop (1*1))),[(.agg [(.sl 1 a0_0),(.int .i64 n23)])]) else none) else (bif ((n24 == (1:Int))) then ((LIM F.q29 [(.rref [(.sl 1 a0_0),(.int .i64 n23)] 0),(.sl 1 [(.int .i64 (6:Int)),(.int .i64 (-1:Int))])]).bind fun r25=>((oCons r25.2).bind fun p26=>((oNil p26.2).bind fun _=>((oAgg p26.1).bind fun c27=>((oCons c27).bind fun p28=>((oSl 1 p28.1).bind fun c29=>((oCons p28.2).bind fun p30=>((oInt .i64 p30.1).bind fun n31=>((oNil p30.2).bind fun _=>((oInt .i64 r25.1).bind fun n32=>(bif inB (0:Int) ((c8).length / 1) then (bif decide (0+1≤(c8).length) then some ((.sl 1 (setCells c8 0 [(.int .i64 n32)])),[(.agg [(.sl 1 a0_0),(.int .i64 n31)])]) else none) else none))))))))))) else (bif inB (IntKind.wrap .i64 (((((c8).length / 1):Nat):Int) - (1:Int))) ((c8).length / 1) then ((c8[((Int.toNat (IntKind.wrap .i64 (((((c8).length / 1):Nat):Int) - (1:Int))))*1)]?).bind fun e33=>((oInt .i64 e33).bind fun n34=>(bif inB (0:Int) ((c8).length / 1) then (bif decide (0+1≤(c8).length) then some ((.sl 1 (setCells c8 0 [(.int .i64 n34)])),[(.agg [(.sl 1 a0_0),(.int .i64 n23)])]) else none) else none))) else none))))))))))))))))))))))))))))))))))):=by kernel_rfl
def q0r.st0 (x0:Int) (x1:List T) (x2:Int) (x3:List T):St:=⟨[(0,(.one (.ptr 1000000 0))),(5,(.one (.obj 768))),(6,oi x0)],[(1000000,(.box [(.kept 0 (.sl 1 x1)),(.t (.int .i64 x2))])),(768,(.arr true true 1 x3))]⟩
noncomputable def q0r.K0 (n:Nat):Ex→St→R:=kx F.q0r n [.block 0,.seq 0 (cx F.q0r [1,1,1])] (endOf prog A F.q0r)
noncomputable def q0r.at0 (n:Nat) (m:Nat) (s:St):R:=lx F.q0r n 0 [1,1,0,1,0,0] (q0r.K0 n) m s
noncomputable def q0r.rd0 (n:Nat) (L0:St→R) (s:St):R:=rx F.q0r n 0 [1,1,0,1,0,0] (q0r.K0 n) L0 s
theorem q0r.next0 (n:Nat) (m:Nat) (s:St):q0r.at0 n (m+1) s=q0r.rd0 n (q0r.at0 n m) s:=nx _ _ _ _ _ _ _
theorem q0r.round0 (n:Nat) (L0:St→R) (x0:Int) (x1:List T) (x2:Int) (x3:List T):q0r.rd0 n L0 (q0r.st0 x0 x1 x2 x3)=(bif (decide (x0 > (0:Int))) then (bif (decide (((((x3).length / 1):Nat):Int) > (1:Int))) then ((LIM F.q1c [(.rref [(.sl 1 x1),(.int .i64 x2)] 0),(.int .i64 (IntKind.wrap .i64 (((((x3).length / 1):Nat):Int) - (1:Int))))]).bind fun r11=>((oCons r11.2).bind fun p12=>((oNil p12.2).bind fun _=>((oAgg p12.1).bind fun c13=>((oCons c13).bind fun p14=>((oSl 1 p14.1).bind fun c15=>((oCons p14.2).bind fun p16=>((oInt .i64 p16.1).bind fun n17=>((oNil p16.2).bind fun _=>((oInt .i64 r11.1).bind fun n18=>(bif inB n18 ((x3).length / 1) then ((x3[((Int.toNat n18)*1)]?).bind fun e19=>((oInt .i64 e19).bind fun n20=>(bif inB (IntKind.wrap .i64 (n18+(1:Int))) ((x3).length / 1) then ((x3[((Int.toNat (IntKind.wrap .i64 (n18+(1:Int))))*1)]?).bind fun e21=>((oInt .i64 e21).bind fun n22=>(bif inB n18 ((x3).length / 1) then (bif decide (((Int.toNat n18)*1)+1≤(x3).length) then (bif inB (IntKind.wrap .i64 (n18+(1:Int))) (((setCells x3 ((Int.toNat n18)*1) [(.int .i64 n22)])).length / 1) then (bif decide (((Int.toNat (IntKind.wrap .i64 (n18+(1:Int))))*1)+1≤((setCells x3 ((Int.toNat n18)*1) [(.int .i64 n22)])).length) then (L0 (q0r.st0 (IntKind.wrap .i64 (x0 - (1:Int))) x1 n17 (setCells (setCells x3 ((Int.toNat n18)*1) [(.int .i64 n22)]) ((Int.toNat (IntKind.wrap .i64 (n18+(1:Int))))*1) [(.int .i64 n20)]))) else none) else none) else none) else none))) else none))) else none))))))))))) else some ((.sl 1 x3),[(.agg [(.sl 1 x1),(.int .i64 x2)])])) else some ((.sl 1 x3),[(.agg [(.sl 1 x1),(.int .i64 x2)])])):=by kernel_rfl
theorem q0r.ev (n:Nat) (a0_0:List T) (a0_1:Int) (a1_0:List T):callK prog A H LIM n F.q0r [(.rref [(.sl 1 a0_0),(.int .i64 a0_1)] 0),(.agg [(.sl 2 a1_0)])]=((LIM F.q23 [(.int .i64 ((((a1_0).length / 2):Nat):Int))]).bind fun r1=>((oNil r1.2).bind fun _=>((oSl 1 r1.1).bind fun c2=>((LIM F.q1c [(.rref [(.sl 1 a0_0),(.int .i64 a0_1)] 0),(.int .i64 (4:Int))]).bind fun r3=>((oCons r3.2).bind fun p4=>((oNil p4.2).bind fun _=>((oAgg p4.1).bind fun c5=>((oCons c5).bind fun p6=>((oSl 1 p6.1).bind fun c7=>((oCons p6.2).bind fun p8=>((oInt .i64 p8.1).bind fun n9=>((oNil p8.2).bind fun _=>((oInt .i64 r3.1).bind fun n10=>(q0r.at0 n n (q0r.st0 n10 a0_0 n9 c2))))))))))))))):=by kernel_rfl
def q1k.st0 (x0:List T) (x1:ByteArray) (x2:Int):St:=⟨[(0,(.one (.t (.rref [(.sl 2 x0)] 0)))),(1,(.one (.t (.str x1)))),(5,oi x2)],[]⟩
noncomputable def q1k.K0 (n:Nat):Ex→St→R:=kx F.q1k n [.block 0,.seq 0 (cx F.q1k [1,1])] (endOf prog A F.q1k)
noncomputable def q1k.at0 (n:Nat) (m:Nat) (s:St):R:=lx F.q1k n 0 [1,0,1,0,0] (q1k.K0 n) m s
noncomputable def q1k.rd0 (n:Nat) (L0:St→R) (s:St):R:=rx F.q1k n 0 [1,0,1,0,0] (q1k.K0 n) L0 s
theorem q1k.next0 (n:Nat) (m:Nat) (s:St):q1k.at0 n (m+1) s=q1k.rd0 n (q1k.at0 n m) s:=nx _ _ _ _ _ _ _
theorem q1k.round0 (n:Nat) (L0:St→R) (x0:List T) (x1:ByteArray) (x2:Int):q1k.rd0 n L0 (q1k.st0 x0 x1 x2)=(bif (decide (x2 < ((((x0).length / 2):Nat):Int))) then (bif inB x2 ((x0).length / 2) then ((x0[((Int.toNat x2)*2)]?).bind fun e1=>((oStr e1).bind fun s2=>(bif (s2.toList == x1.toList) then some ((.int .i64 x2),[]) else (L0 (q1k.st0 x0 x1 (IntKind.wrap .i64 (x2+(1:Int)))))))) else none) else some ((.int .i64 (-1:Int)),[])):=by kernel_rfl
theorem q1k.ev (n:Nat) (a0_0:List T) (a1:ByteArray):callK prog A H LIM n F.q1k [(.rref [(.sl 2 a0_0)] 0),(.str a1)]=(q1k.at0 n n (q1k.st0 a0_0 a1 (0:Int))):=by kernel_rfl
def q24.st0 (x0:ByteArray) (x1:Int):St:=⟨[(0,(.one (.t (.str x0)))),(3,oi x1)],[]⟩
noncomputable def q24.K0 (n:Nat):Ex→St→R:=kx F.q24 n [.block 0,.seq 0 (cx F.q24 [1,1,1])] (endOf prog A F.q24)
noncomputable def q24.at0 (n:Nat) (m:Nat) (s:St):R:=lx F.q24 n 0 [1,1,0,1,0,0] (q24.K0 n) m s
noncomputable def q24.rd0 (n:Nat) (L0:St→R) (s:St):R:=rx F.q24 n 0 [1,1,0,1,0,0] (q24.K0 n) L0 s
theorem q24.next0 (n:Nat) (m:Nat) (s:St):q24.at0 n (m+1) s=q24.rd0 n (q24.at0 n m) s:=nx _ _ _ _ _ _ _
theorem q24.round0 (n:Nat) (L0:St→R) (x0:ByteArray) (x1:Int):q24.rd0 n L0 (q24.st0 x0 x1)=(bif (decide (x1 < (x0.size:Int))) then (bif inB x1 x0.size then (bif (decide (((x0.data.getD (Int.toNat x1) 0).toNat:Int) < (97:Int))) then some ((.bool false),[]) else (bif inB x1 x0.size then (bif (decide (((x0.data.getD (Int.toNat x1) 0).toNat:Int) > (122:Int))) then some ((.bool false),[]) else (L0 (q24.st0 x0 (IntKind.wrap .i64 (x1+(1:Int)))))) else none)) else none) else some ((.bool true),[])):=by kernel_rfl
theorem q24.ev (n:Nat) (a0:ByteArray):callK prog A H LIM n F.q24 [(.str a0)]=(bif (decide ((a0.size:Int) < (1:Int))) then some ((.bool false),[]) else (bif (decide ((a0.size:Int) > (3:Int))) then some ((.bool false),[]) else (q24.at0 n n (q24.st0 a0 (0:Int))))):=by kernel_rfl
def q0c.st4 (x0:List T) (x1 x2:Int):St:=⟨[(1,ol 1 x0),(6,oi x1),(7,oi x2)],[]⟩
def q0c.st2 (x0:List T) (x1:Int):St:=⟨[(1,ol 1 x0),(6,oi x1)],[]⟩
def q0c.st0 (x0 x1:List T) (x2:Int):St:=⟨[(0,(.one (.t (.rref [(.sl 2 x0)] 0)))),(1,ol 1 x1),(5,oi x2)],[]⟩
noncomputable def q0c.K0 (n:Nat):Ex→St→R:=kx F.q0c n [.block 0,.seq 0 (cx F.q0c [1,1,1])] (endOf prog A F.q0c)
noncomputable def q0c.at0 (n:Nat) (m:Nat) (s:St):R:=lx F.q0c n 0 [1,1,0,1,0,0] (q0c.K0 n) m s
noncomputable def q0c.rd0 (n:Nat) (L0:St→R) (s:St):R:=rx F.q0c n 0 [1,1,0,1,0,0] (q0c.K0 n) L0 s
theorem q0c.next0 (n:Nat) (m:Nat) (s:St):q0c.at0 n (m+1) s=q0c.rd0 n (q0c.at0 n m) s:=nx _ _ _ _ _ _ _
noncomputable def q0c.K2 (n:Nat):Ex→St→R:=kx F.q0c n [.block 2,.seq 0 (cx F.q0c [1,1,1,1])] (endOf prog A F.q0c)
noncomputable def q0c.at2 (n:Nat) (m:Nat) (s:St):R:=lx F.q0c n 2 [1,1,1,0,1,0,0] (q0c.K2 n) m s
noncomputable def q0c.rd2 (n:Nat) (L2:St→R) (s:St):R:=rx F.q0c n 2 [1,1,1,0,1,0,0] (q0c.K2 n) L2 s
theorem q0c.next2 (n:Nat) (m:Nat) (s:St):q0c.at2 n (m+1) s=q0c.rd2 n (q0c.at2 n m) s:=nx _ _ _ _ _ _ _
noncomputable def q0c.K4 (n:Nat) (L2:St→R):Ex→St→R:=kx F.q0c n [.block 4,.block 3,.seq 2 (cx F.q0c [1,1,1,0,1,0,0,1,1])] (bx F.q0c 2 (q0c.K2 n) L2)
noncomputable def q0c.at4 (n:Nat) (L2:St→R) (m:Nat) (s:St):R:=lx F.q0c n 4 [1,1,1,0,1,0,0,1,0,0,1,0,0] (q0c.K4 n L2) m s
noncomputable def q0c.rd4 (n:Nat) (L2:St→R) (L4:St→R) (s:St):R:=rx F.q0c n 4 [1,1,1,0,1,0,0,1,0,0,1,0,0] (q0c.K4 n L2) L4 s
theorem q0c.next4 (n:Nat) (L2:St→R) (m:Nat) (s:St):q0c.at4 n L2 (m+1) s=q0c.rd4 n L2 (q0c.at4 n L2 m) s:=nx _ _ _ _ _ _ _
theorem q0c.round0 (n:Nat) (L0:St→R) (x0 x1:List T) (x2:Int):q0c.rd0 n L0 (q0c.st0 x0 x1 x2)=(bif (decide (x2 < ((((x1).length / 1):Nat):Int))) then (bif inB x2 ((x1).length / 1) then ((x1[((Int.toNat x2)*1)]?).bind fun e1=>((oInt .i64 e1).bind fun n2=>((LIM F.q4g [(.rref [(.sl 2 x0)] 0),(.int .i64 n2)]).bind fun r3=>((oNil r3.2).bind fun _=>((oBool r3.1).bind fun b4=>(bif (!b4) then some ((.int .i64 (3:Int)),[]) else (L0 (q0c.st0 x0 x1 (IntKind.wrap .i64 (x2+(1:Int))))))))))) else none) else (q0c.at2 n n (q0c.st2 x1 (0:Int)))):=by kernel_rfl
theorem q0c.round2 (n:Nat) (L2:St→R) (x0:List T) (x1:Int):q0c.rd2 n L2 (q0c.st2 x0 x1)=(bif (decide (x1 < ((((x0).length / 1):Nat):Int))) then (q0c.at4 n L2 n (q0c.st4 x0 x1 (0:Int))) else some ((.int .i64 (0:Int)),[])):=by kernel_rfl
theorem q0c.round4 (n:Nat) (L2:St→R) (L4:St→R) (x0:List T) (x1 x2:Int):q0c.rd4 n L2 L4 (q0c.st4 x0 x1 x2)=(bif (decide (x2 < x1)) then (bif inB x1 ((x0).length / 1) then ((x0[((Int.toNat x1)*1)]?).bind fun e5=>((oInt .i64 e5).bind fun n6=>(bif inB x2 ((x0).length / 1) then ((x0[((Int.toNat x2)*1)]?).bind fun e7=>((oInt .i64 e7).bind fun n8=>(bif ((n6 == n8)) then some ((.int .i64 (6:Int)),[]) else (L4 (q0c.st4 x0 x1 (IntKind.wrap .i64 (x2+(1:Int)))))))) else none))) else none) else (L2 (q0c.st2 x0 (IntKind.wrap .i64 (x1+(1:Int)))))):=by kernel_rfl
theorem q0c.ev (n:Nat) (a0_0 a1:List T):callK prog A H LIM n F.q0c [(.rref [(.sl 2 a0_0)] 0),(.sl 1 a1)]=(bif ((((((a1).length / 1):Nat):Int) != ((((a0_0).length / 2):Nat):Int))) then some ((.int .i64 (2:Int)),[]) else (q0c.at0 n n (q0c.st0 a0_0 a1 (0:Int)))):=by kernel_rfl
def q1n.st0 (x0:List T) (x1 x2:Int):St:=⟨[(0,ol 1 x0),(1,oi x1),(5,oi x2)],[]⟩
noncomputable def q1n.K0 (n:Nat):Ex→St→R:=kx F.q1n n [.block 0,.seq 0 (cx F.q1n [1,1])] (endOf prog A F.q1n)
noncomputable def q1n.at0 (n:Nat) (m:Nat) (s:St):R:=lx F.q1n n 0 [1,0,1,0,0] (q1n.K0 n) m s
noncomputable def q1n.rd0 (n:Nat) (L0:St→R) (s:St):R:=rx F.q1n n 0 [1,0,1,0,0] (q1n.K0 n) L0 s
theorem q1n.next0 (n:Nat) (m:Nat) (s:St):q1n.at0 n (m+1) s=q1n.rd0 n (q1n.at0 n m) s:=nx _ _ _ _ _ _ _
theorem q1n.round0 (n:Nat) (L0:St→R) (x0:List T) (x1 x2:Int):q1n.rd0 n L0 (q1n.st0 x0 x1 x2)=(bif (decide (x2 < ((((x0).length / 1):Nat):Int))) then (bif inB x2 ((x0).length / 1) then ((x0[((Int.toNat x2)*1)]?).bind fun e1=>((oInt .i64 e1).bind fun n2=>(bif ((n2 == x1)) then some ((.int .i64 x2),[]) else (L0 (q1n.st0 x0 x1 (IntKind.wrap .i64 (x2+(1:Int)))))))) else none) else some ((.int .i64 (-1:Int)),[])):=by kernel_rfl
theorem q1n.ev (n:Nat) (a0:List T) (a1:Int):callK prog A H LIM n F.q1n [(.sl 1 a0),(.int .i64 a1)]=(q1n.at0 n n (q1n.st0 a0 a1 (0:Int))):=by kernel_rfl
def q23.st0 (x0 x1:Int) (x2:List T):St:=⟨[(0,oi x0),(3,(.one (.obj 320))),(4,oi x1)],[(320,(.arr true true 1 x2))]⟩
noncomputable def q23.K0 (n:Nat):Ex→St→R:=kx F.q23 n [.block 0,.seq 0 (cx F.q23 [1,1,1])] (endOf prog A F.q23)
noncomputable def q23.at0 (n:Nat) (m:Nat) (s:St):R:=lx F.q23 n 0 [1,1,0,1,0,0] (q23.K0 n) m s
noncomputable def q23.rd0 (n:Nat) (L0:St→R) (s:St):R:=rx F.q23 n 0 [1,1,0,1,0,0] (q23.K0 n) L0 s
theorem q23.next0 (n:Nat) (m:Nat) (s:St):q23.at0 n (m+1) s=q23.rd0 n (q23.at0 n m) s:=nx _ _ _ _ _ _ _
theorem q23.round0 (n:Nat) (L0:St→R) (x0 x1:Int) (x2:List T):q23.rd0 n L0 (q23.st0 x0 x1 x2)=(bif (decide (x1 < x0)) then (bif Nat.ble (((x2).length+1)*8) (140737488355328*1) then (L0 (q23.st0 x0 (IntKind.wrap .i64 (x1+(1:Int))) (x2++[(.int .i64 x1)]:List T))) else none) else some ((.sl 1 x2),[])):=by kernel_rfl
theorem q23.ev (n:Nat) (a0:Int):callK prog A H LIM n F.q23 [(.int .i64 a0)]=(q23.at0 n n (q23.st0 a0 (0:Int) [])):=by kernel_rfl
theorem q74.ev (n:Nat) (a0_0:List T) (a0_1:Int):callK prog A H LIM n F.q74 [(.rref [(.sl 1 a0_0),(.int .i64 a0_1)] 0)]=((LIM F.q1c [(.rref [(.sl 1 a0_0),(.int .i64 a0_1)] 0),(.int .i64 (8:Int))]).bind fun r1=>((oCons r1.2).bind fun p2=>((oNil p2.2).bind fun _=>((oAgg p2.1).bind fun c3=>((oCons c3).bind fun p4=>((oSl 1 p4.1).bind fun c5=>((oCons p4.2).bind fun p6=>((oInt .i64 p6.1).bind fun n7=>((oNil p6.2).bind fun _=>((oInt .i64 r1.1).bind fun n8=>(bif ((n8 == (0:Int))) then (bif ((n8 == (0:Int))) then some ((.agg [(.sl 2 [(.str (ByteArray.mk #[101])),(.int .i64 (0:Int)),(.str (ByteArray.mk #[105])),(.int .i64 (1:Int)),(.str (ByteArray.mk #[109])),(.int .i64 (2:Int)),(.str (ByteArray.mk #[97])),(.int .i64 (0:Int))])]),[(.agg [(.sl 1 a0_0),(.int .i64 n7)])]) else (bif ((n8 == (3:Int))) then (bif ((n8 == (3:Int))) then some ((.agg [(.sl 2 [(.str (ByteArray.mk #[97])),(.int .i64 (0:Int)),(.str (ByteArray.mk #[115,117,99])),(.int .i64 (1:Int)),(.str (ByteArray.mk #[97,100,100])),(.int .i64 (2:Int)),(.str (ByteArray.mk #[98])),(.int .i64 (0:Int))])]),[(.agg [(.sl 1 a0_0),(.int .i64 n7)])]) else (bif ((n8 == (5:Int))) then some ((.agg [(.sl 2 [(.str (ByteArray.mk #[97])),(.int .i64 (0:Int)),(.str (ByteArray.mk #[102])),(.int .i64 (1:Int)),(.str (ByteArray.mk #[103])),(.int .i64 (1:Int))])]),[(.agg [(.sl 1 a0_0),(.int .i64 n7)])]) else (bif ((n8 == (6:Int))) then some ((.agg [(.sl 2 [(.str (ByteArray.mk #[97])),(.int .i64 (0:Int)),(.str (ByteArray.mk #[98])),(.int .i64 (0:Int)),(.str (ByteArray.mk #[101])),(.int .i64 (0:Int)),(.str (ByteArray.mk #[109])),(.int .i64 (2:Int)),(.str (ByteArray.mk #[105])),(.int .i64 (1:Int)),(.str (ByteArray.mk #[115,117,99])),(.int .i64 (1:Int))])]),[(.agg [(.sl 1 a0_0),(.int .i64 n7)])]) else some ((.agg [(.sl 2 [(.str (ByteArray.mk #[97])),(.int .i64 (0:Int))])]),[(.agg [(.sl 1 a0_0),(.int .i64 n7)])])))) else (bif ((n8 == (4:Int))) then some ((.agg [(.sl 2 [(.str (ByteArray.mk #[97])),(.int .i64 (0:Int)),(.str (ByteArray.mk #[115,117,99])),(.int .i64 (1:Int)),(.str (ByteArray.mk #[97,100,100])),(.int .i64 (2:Int)),(.str (ByteArray.mk #[98])),(.int .i64 (0:Int))])]),[(.agg [(.sl 1 a0_0),(.int .i64 n7)])]) else (bif ((n8 == (5:Int))) then some ((.agg [(.sl 2 [(.str (ByteArray.mk #[97])),(.int .i64 (0:Int)),(.str (ByteArray.mk #[102])),(.int .i64 (1:Int)),(.str (ByteArray.mk #[103])),(.int .i64 (1:Int))])]),[(.agg [(.sl 1 a0_0),(.int .i64 n7)])]) else (bif ((n8 == (6:Int))) then some ((.agg [(.sl 2 [(.str (ByteArray.mk #[97])),(.int .i64 (0:Int)),(.str (ByteArray.mk #[98])),(.int .i64 (0:Int)),(.str (ByteArray.mk #[101])),(.int .i64 (0:Int)),(.str (ByteArray.mk #[109])),(.int .i64 (2:Int)),(.str (ByteArray.mk #[105])),(.int .i64 (1:Int)),(.str (ByteArray.mk #[115,117,99])),(.int .i64 (1:Int))])]),[(.agg [(.sl 1 a0_0),(.int .i64 n7)])]) else some ((.agg [(.sl 2 [(.str (ByteArray.mk #[97])),(.int .i64 (0:Int))])]),[(.agg [(.sl 1 a0_0),(.int .i64 n7)])])))))) else (bif ((n8 == (1:Int))) then (bif ((n8 == (1:Int))) then some ((.agg [(.sl 2 [(.str (ByteArray.mk #[101])),(.int .i64 (0:Int)),(.str (ByteArray.mk #[105])),(.int .i64 (1:Int)),(.str (ByteArray.mk #[109])),(.int .i64 (2:Int)),(.str (ByteArray.mk #[97])),(.int .i64 (0:Int))])]),[(.agg [(.sl 1 a0_0),(.int .i64 n7)])]) else (bif ((n8 == (3:Int))) then (bif ((n8 == (3:Int))) then some ((.agg [(.sl 2 [(.str (ByteArray.mk #[97])),(.int .i64 (0:Int)),(.str (ByteArray.mk #[115,117,99])),(.int .i64 (1:Int)),(.str (ByteArray.mk #[97,100,100])),(.int .i64 (2:Int)),(.str (ByteArray.mk #[98])),(.int .i64 (0:Int))])]),[(.agg [(.sl 1 a0_0),(.int .i64 n7)])]) else (bif ((n8 == (5:Int))) then some ((.agg [(.sl 2 [(.str (ByteArray.mk #[97])),(.int .i64 (0:Int)),(.str (ByteArray.mk #[102])),(.int .i64 (1:Int)),(.str (ByteArray.mk #[103])),(.int .i64 (1:Int))])]),[(.agg [(.sl 1 a0_0),(.int .i64 n7)])]) else (bif ((n8 == (6:Int))) then some ((.agg [(.sl 2 [(.str (ByteArray.mk #[97])),(.int .i64 (0:Int)),(.str (ByteArray.mk #[98])),(.int .i64 (0:Int)),(.str (ByteArray.mk #[101])),(.int .i64 (0:Int)),(.str (ByteArray.mk #[109])),(.int .i64 (2:Int)),(.str (ByteArray.mk #[105])),(.int .i64 (1:Int)),(.str (ByteArray.mk #[115,117,99])),(.int .i64 (1:Int))])]),[(.agg [(.sl 1 a0_0),(.int .i64 n7)])]) else some ((.agg [(.sl 2 [(.str (ByteArray.mk #[97])),(.int .i64 (0:Int))])]),[(.agg [(.sl 1 a0_0),(.int .i64 n7)])])))) else (bif ((n8 == (4:Int))) then some ((.agg [(.sl 2 [(.str (ByteArray.mk #[97])),(.int .i64 (0:Int)),(.str (ByteArray.mk #[115,117,99])),(.int .i64 (1:Int)),(.str (ByteArray.mk #[97,100,100])),(.int .i64 (2:Int)),(.str (ByteArray.mk #[98])),(.int .i64 (0:Int))])]),[(.agg [(.sl 1 a0_0),(.int .i64 n7)])]) else (bif ((n8 == (5:Int))) then some ((.agg [(.sl 2 [(.str (ByteArray.mk #[97])),(.int .i64 (0:Int)),(.str (ByteArray.mk #[102])),(.int .i64 (1:Int)),(.str (ByteArray.mk #[103])),(.int .i64 (1:Int))])]),[(.agg [(.sl 1 a0_0),(.int .i64 n7)])]) else (bif ((n8 == (6:Int))) then some ((.agg [(.sl 2 [(.str (ByteArray.mk #[97])),(.int .i64 (0:Int)),(.str (ByteArray.mk #[98])),(.int .i64 (0:Int)),(.str (ByteArray.mk #[101])),(.int .i64 (0:Int)),(.str (ByteArray.mk #[109])),(.int .i64 (2:Int)),(.str (ByteArray.mk #[105])),(.int .i64 (1:Int)),(.str (ByteArray.mk #[115,117,99])),(.int .i64 (1:Int))])]),[(.agg [(.sl 1 a0_0),(.int .i64 n7)])]) else some ((.agg [(.sl 2 [(.str (ByteArray.mk #[97])),(.int .i64 (0:Int))])]),[(.agg [(.sl 1 a0_0),(.int .i64 n7)])])))))) else (bif ((n8 == (2:Int))) then some ((.agg [(.sl 2 [(.str (ByteArray.mk #[101])),(.int .i64 (0:Int)),(.str (ByteArray.mk #[105])),(.int .i64 (1:Int)),(.str (ByteArray.mk #[109])),(.int .i64 (2:Int)),(.str (ByteArray.mk #[97])),(.int .i64 (0:Int))])]),[(.agg [(.sl 1 a0_0),(.int .i64 n7)])]) else (bif ((n8 == (3:Int))) then (bif ((n8 == (3:Int))) then some ((.agg [(.sl 2 [(.str (ByteArray.mk #[97])),(.int .i64 (0:Int)),(.str (ByteArray.mk #[115,117,99])),(.int .i64 (1:Int)),(.str (ByteArray.mk #[97,100,100])),(.int .i64 (2:Int)),(.str (ByteArray.mk #[98])),(.int .i64 (0:Int))])]),[(.agg [(.sl 1 a0_0),(.int .i64 n7)])]) else (bif ((n8 == (5:Int))) then some ((.agg [(.sl 2 [(.str (ByteArray.mk #[97])),(.int .i64 (0:Int)),(.str (ByteArray.mk #[102])),(.int .i64 (1:Int)),(.str (ByteArray.mk #[103])),(.int .i64 (1:Int))])]),[(.agg [(.sl 1 a0_0),(.int .i64 n7)])]) else (bif ((n8 == (6:Int))) then some ((.agg [(.sl 2 [(.str (ByteArray.mk #[97])),(.int .i64 (0:Int)),(.str (ByteArray.mk #[98])),(.int .i64 (0:Int)),(.str (ByteArray.mk #[101])),(.int .i64 (0:Int)),(.str (ByteArray.mk #[109])),(.int .i64 (2:Int)),(.str (ByteArray.mk #[105])),(.int .i64 (1:Int)),(.str (ByteArray.mk #[115,117,99])),(.int .i64 (1:Int))])]),[(.agg [(.sl 1 a0_0),(.int .i64 n7)])]) else some ((.agg [(.sl 2 [(.str (ByteArray.mk #[97])),(.int .i64 (0:Int))])]),[(.agg [(.sl 1 a0_0),(.int .i64 n7)])])))) else (bif ((n8 == (4:Int))) then some ((.agg [(.sl 2 [(.str (ByteArray.mk #[97])),(.int .i64 (0:Int)),(.str (ByteArray.mk #[115,117,99])),(.int .i64 (1:Int)),(.str (ByteArray.mk #[97,100,100])),(.int .i64 (2:Int)),(.str (ByteArray.mk #[98])),(.int .i64 (0:Int))])]),[(.agg [(.sl 1 a0_0),(.int .i64 n7)])]) else (bif ((n8 == (5:Int))) then some ((.agg [(.sl 2 [(.str (ByteArray.mk #[97])),(.int .i64 (0:Int)),(.str (ByteArray.mk #[102])),(.int .i64 (1:Int)),(.str (ByteArray.mk #[103])),(.int .i64 (1:Int))])]),[(.agg [(.sl 1 a0_0),(.int .i64 n7)])]) else (bif ((n8 == (6:Int))) then some ((.agg [(.sl 2 [(.str (ByteArray.mk #[97])),(.int .i64 (0:Int)),(.str (ByteArray.mk #[98])),(.int .i64 (0:Int)),(.str (ByteArray.mk #[101])),(.int .i64 (0:Int)),(.str (ByteArray.mk #[109])),(.int .i64 (2:Int)),(.str (ByteArray.mk #[105])),(.int .i64 (1:Int)),(.str (ByteArray.mk #[115,117,99])),(.int .i64 (1:Int))])]),[(.agg [(.sl 1 a0_0),(.int .i64 n7)])]) else some ((.agg [(.sl 2 [(.str (ByteArray.mk #[97])),(.int .i64 (0:Int))])]),[(.agg [(.sl 1 a0_0),(.int .i64 n7)])])))))))))))))))))):=by kernel_rfl
theorem q4g.ev (n:Nat) (a0_0:List T) (a1:Int):callK prog A H LIM n F.q4g [(.rref [(.sl 2 a0_0)] 0),(.int .i64 a1)]=((LIM F.q4w [(.int .i64 a1),(.int .i64 (0:Int)),(.int .i64 (IntKind.wrap .i64 (((((a0_0).length / 2):Nat):Int) - (1:Int))))]).bind fun r1=>((oNil r1.2).bind fun _=>((oBool r1.1).bind fun b2=>some ((.bool b2),[])))):=by kernel_rfl
theorem q78.ev (n:Nat) (a0_0:List T) (a0_1:Int) (a1:List T):callK prog A H LIM n F.q78 [(.rref [(.sl 1 a0_0),(.int .i64 a0_1)] 0),(.sl 1 a1)]=((LIM F.q1c [(.rref [(.sl 1 a0_0),(.int .i64 a0_1)] 0),(.int .i64 ((((a1).length / 1):Nat):Int))]).bind fun r1=>((oCons r1.2).bind fun p2=>((oNil p2.2).bind fun _=>((oAgg p2.1).bind fun c3=>((oCons c3).bind fun p4=>((oSl 1 p4.1).bind fun c5=>((oCons p4.2).bind fun p6=>((oInt .i64 p6.1).bind fun n7=>((oNil p6.2).bind fun _=>((oInt .i64 r1.1).bind fun n8=>((LIM F.q1c [(.rref [(.sl 1 a0_0),(.int .i64 n7)] 0),(.int .i64 ((((a1).length / 1):Nat):Int))]).bind fun r9=>((oCons r9.2).bind fun p10=>((oNil p10.2).bind fun _=>((oAgg p10.1).bind fun c11=>((oCons c11).bind fun p12=>((oSl 1 p12.1).bind fun c13=>((oCons p12.2).bind fun p14=>((oInt .i64 p14.1).bind fun n15=>((oNil p14.2).bind fun _=>((oInt .i64 r9.1).bind fun n16=>((LIM F.q1c [(.rref [(.sl 1 a0_0),(.int .i64 n15)] 0),(.int .i64 ((((a1).length / 1):Nat):Int))]).bind fun r17=>((oCons r17.2).bind fun p18=>((oNil p18.2).bind fun _=>((oAgg p18.1).bind fun c19=>((oCons c19).bind fun p20=>((oSl 1 p20.1).bind fun c21=>((oCons p20.2).bind fun p22=>((oInt .i64 p22.1).bind fun n23=>((oNil p22.2).bind fun _=>((oInt .i64 r17.1).bind fun n24=>((LIM F.q29 [(.rref [(.sl 1 a0_0),(.int .i64 n23)] 0),(.sl 1 [(.int .i64 (0:Int)),(.int .i64 (IntKind.wrap .i64 (((((a1).length / 1):Nat):Int) - (1:Int)))),(.int .i64 n8),(.int .i64 n16),(.int .i64 n24),(.int .i64 ((((a1).length / 1):Nat):Int)),(.int .i64 (-1:Int))])]).bind fun r25=>((oCons r25.2).bind fun p26=>((oNil p26.2).bind fun _=>((oAgg p26.1).bind fun c27=>((oCons c27).bind fun p28=>((oSl 1 p28.1).bind fun c29=>((oCons p28.2).bind fun p30=>((oInt .i64 p30.1).bind fun n31=>((oNil p30.2).bind fun _=>((oInt .i64 r25.1).bind fun n32=>some ((.int .i64 n32),[(.agg [(.sl 1 a0_0),(.int .i64 n31)])]))))))))))))))))))))))))))))))))))))))))):=by kernel_rfl
def q0y.st1 (x0:Int) (x1:List T) (x2:Int) (x3:List T):St:=⟨[(0,(.one (.ptr 1000000 0))),(10,(.one (.obj 4224))),(11,oi x0)],[(1000000,(.box [(.kept 0 (.sl 1 x1)),(.t (.int .i64 x2))])),(4224,(.arr true true 1 x3))]⟩
noncomputable def q0y.K1 (n:Nat):Ex→St→R:=kx F.q0y n [.block 1,.seq 0 (cx F.q0y [1,1,1,1,1,1,1])] (endOf prog A F.q0y)
noncomputable def q0y.at1 (n:Nat) (m:Nat) (s:St):R:=lx F.q0y n 1 [1,1,1,1,1,1,0,1,0,0] (q0y.K1 n) m s
noncomputable def q0y.rd1 (n:Nat) (L1:St→R) (s:St):R:=rx F.q0y n 1 [1,1,1,1,1,1,0,1,0,0] (q0y.K1 n) L1 s
theorem q0y.next1 (n:Nat) (m:Nat) (s:St):q0y.at1 n (m+1) s=q0y.rd1 n (q0y.at1 n m) s:=nx _ _ _ _ _ _ _
theorem q0y.round1 (n:Nat) (L1:St→R) (x0:Int) (x1:List T) (x2:Int) (x3:List T):q0y.rd1 n L1 (q0y.st1 x0 x1 x2 x3)=((LIM F.q29 [(.rref [(.sl 1 x1),(.int .i64 x2)] 0),(.sl 1 [(.int .i64 (24:Int)),(.int .i64 (25:Int))])]).bind fun r43=>((oCons r43.2).bind fun p44=>((oNil p44.2).bind fun _=>((oAgg p44.1).bind fun c45=>((oCons c45).bind fun p46=>((oSl 1 p46.1).bind fun c47=>((oCons p46.2).bind fun p48=>((oInt .i64 p48.1).bind fun n49=>((oNil p48.2).bind fun _=>((oInt .i64 r43.1).bind fun n50=>(bif (decide (x0 < n50)) then ((LIM F.q29 [(.rref [(.sl 1 x1),(.int .i64 n49)] 0),(.sl 1 [(.int .i64 (1:Int)),(.int .i64 (2:Int)),(.int .i64 (0:Int))])]).bind fun r51=>((oCons r51.2).bind fun p52=>((oNil p52.2).bind fun _=>((oAgg p52.1).bind fun c53=>((oCons c53).bind fun p54=>((oSl 1 p54.1).bind fun c55=>((oCons p54.2).bind fun p56=>((oInt .i64 p56.1).bind fun n57=>((oNil p56.2).bind fun _=>((oInt .i64 r51.1).bind fun n58=>(bif Nat.ble (((x3).length+1)*8) (140737488355328*1) then (L1 (q0y.st1 (IntKind.wrap .i64 (x0+(1:Int))) x1 n57 (x3++[(.int .i64 n58)]:List T))) else none))))))))))) else some ((.sl 1 x3),[(.agg [(.sl 1 x1),(.int .i64 n49)])])))))))))))):=by kernel_rfl
theorem q0y.ev (n:Nat) (a0_0:List T) (a0_1:Int) (a1_0:List T) (a2 a3:Int):callK prog A H LIM n F.q0y [(.rref [(.sl 1 a0_0),(.int .i64 a0_1)] 0),(.rref [(.sl 2 a1_0)] 0),(.int .i64 a2),(.int .i64 a3)]=(bif (decide (((((a1_0).length / 2):Nat):Int) < (1:Int))) then some ((.sl 1 [(.int .i64 (0:Int))]),[(.agg [(.sl 1 a0_0),(.int .i64 a0_1)])]) else ((LIM F.q01 [(.agg [(.sl 2 a1_0)])]).bind fun r1=>((oNil r1.2).bind fun _=>((oInt .i64 r1.1).bind fun n2=>(bif ((n2 != (0:Int))) then some ((.sl 1 [(.int .i64 (0:Int))]),[(.agg [(.sl 1 a0_0),(.int .i64 a0_1)])]) else ((LIM F.q0b [(.rref [(.sl 1 a0_0),(.int .i64 a0_1)] 0),(.rref [(.sl 2 a1_0)] 0),(.int .i64 a2),(.int .i64 a3)]).bind fun r3=>((oCons r3.2).bind fun p4=>((oNil p4.2).bind fun _=>((oAgg p4.1).bind fun c5=>((oCons c5).bind fun p6=>((oSl 1 p6.1).bind fun c7=>((oCons p6.2).bind fun p8=>((oInt .i64 p8.1).bind fun n9=>((oNil p8.2).bind fun _=>((oSl 1 r3.1).bind fun c10=>((LIM F.q27 [(.rref [(.sl 1 a0_0),(.int .i64 n9)] 0),(.int .i64 (11:Int))]).bind fun r11=>((oCons r11.2).bind fun p12=>((oNil p12.2).bind fun _=>((oAgg p12.1).bind fun c13=>((oCons c13).bind fun p14=>((oSl 1 p14.1).bind fun c15=>((oCons p14.2).bind fun p16=>((oInt .i64 p16.1).bind fun n17=>((oNil p16.2).bind fun _=>((oBool r11.1).bind fun b18=>(bif (!b18) then some ((.sl 1 c10),[(.agg [(.sl 1 a0_0),(.int .i64 n17)])]) else ((LIM F.q1c [(.rref [(.sl 1 a0_0),(.int .i64 n17)] 0),(.int .i64 (4:Int))]).bind fun r19=>((oCons r19.2).bind fun p20=>((oNil p20.2).bind fun _=>((oAgg p20.1).bind fun c21=>((oCons c21).bind fun p22=>((oSl 1 p22.1).bind fun c23=>((oCons p22.2).bind fun p24=>((oInt .i64 p24.1).bind fun n25=>((oNil p24.2).bind fun _=>((oInt .i64 r19.1).bind fun n26=>(bif ((n26 == (0:Int))) then (bif decide (0≤(IntKind.wrap .i64 (((((c10).length / 1):Nat):Int) - (1:Int))))&&decide ((IntKind.wrap .i64 (((((c10).length / 1):Nat):Int) - (1:Int)))≤((((c10).length / 1):Nat):Int)) then some ((.sl 1 (c10.take ((Int.toNat (IntKind.wrap .i64 (((((c10).length / 1):Nat):Int) - (1:Int))))*1))),[(.agg [(.sl 1 a0_0),(.int .i64 n25)])]) else none) else (bif ((n26 == (1:Int))) then (bif Nat.ble (((c10).length+1)*8) (140737488355328*1) then some ((.sl 1 (c10++[(.int .i64 (0:Int))]:List T)),[(.agg [(.sl 1 a0_0),(.int .i64 n25)])]) else none) else (bif ((n26 == (2:Int))) then ((LIM F.q1c [(.rref [(.sl 1 a0_0),(.int .i64 n25)] 0),(.int .i64 ((((c10).length / 1):Nat):Int))]).bind fun r27=>((oCons r27.2).bind fun p28=>((oNil p28.2).bind fun _=>((oAgg p28.1).bind fun c29=>((oCons c29).bind fun p30=>((oSl 1 p30.1).bind fun c31=>((oCons p30.2).bind fun p32=>((oInt .i64 p32.1).bind fun n33=>((oNil p32.2).bind fun _=>((oInt .i64 r27.1).bind fun n34=>((LIM F.q29 [(.rref [(.sl 1 a0_0),(.int .i64 n33)] 0),(.sl 1 [(.int .i64 ((((a1_0).length / 2):Nat):Int)),(.int .i64 (-13:Int)),(.int .i64 (-12:Int))])]).bind fun r35=>((oCons r35.2).bind fun p36=>((oNil p36.2).bind fun _=>((oAgg p36.1).bind fun c37=>((oCons c37).bind fun p38=>((oSl 1 p38.1).bind fun c39=>((oCons p38.2).bind fun p40=>((oInt .i64 p40.1).bind fun n41=>((oNil p40.2).bind fun _=>((oInt .i64 r35.1).bind fun n42=>(bif inB n34 ((c10).length / 1) then (bif decide (((Int.toNat n34)*1)+1≤(c10).length) then some ((.sl 1 (setCells c10 ((Int.toNat n34)*1) [(.int .i64 n42)])),[(.agg [(.sl 1 a0_0),(.int .i64 n41)])]) else none) else none))))))))))))))))))))) else (q0y.at1 n n (q0y.st1 (0:Int) a0_0 n25 []))))))))))))))))))))))))))))))))))))))))):=by kernel_rfl
def q1i.st0 (x0:List T) (x1 x2 x3:Int):St:=⟨[(0,ol 1 x0),(1,oi x1),(5,oi x2),(6,oi x3)],[]⟩
noncomputable def q1i.K0 (n:Nat):Ex→St→R:=kx F.q1i n [.block 0,.seq 0 (cx F.q1i [1,1,1])] (endOf prog A F.q1i)
noncomputable def q1i.at0 (n:Nat) (m:Nat) (s:St):R:=lx F.q1i n 0 [1,1,0,1,0,0] (q1i.K0 n) m s
noncomputable def q1i.rd0 (n:Nat) (L0:St→R) (s:St):R:=rx F.q1i n 0 [1,1,0,1,0,0] (q1i.K0 n) L0 s
theorem q1i.next0 (n:Nat) (m:Nat) (s:St):q1i.at0 n (m+1) s=q1i.rd0 n (q1i.at0 n m) s:=nx _ _ _ _ _ _ _
theorem q1i.round0 (n:Nat) (L0:St→R) (x0:List T) (x1 x2 x3:Int):q1i.rd0 n L0 (q1i.st0 x0 x1 x2 x3)=(bif (decide (x3 < ((((x0).length / 1):Nat):Int))) then (bif inB x3 ((x0).length / 1) then ((x0[((Int.toNat x3)*1)]?).bind fun e1=>((oInt .i64 e1).bind fun n2=>(bif ((n2 == x1)) then (L0 (q1i.st0 x0 x1 (IntKind.wrap .i64 (x2+(1:Int))) (IntKind.wrap .i64 (x3+(1:Int))))) else (L0 (q1i.st0 x0 x1 x2 (IntKind.wrap .i64 (x3+(1:Int)))))))) else none) else some ((.int .i64 x2),[])):=by kernel_rfl
theorem q1i.ev (n:Nat) (a0:List T) (a1:Int):callK prog A H LIM n F.q1i [(.sl 1 a0),(.int .i64 a1)]=(q1i.at0 n n (q1i.st0 a0 a1 (0:Int) (0:Int))):=by kernel_rfl
def q0b.st2 (x0:List T) (x1 x2 x3 x4 x5:Int) (x6:List T) (x7:Int):St:=⟨[(0,(.one (.ptr 1000000 0))),(1,(.one (.t (.rref [(.sl 2 x0)] 0)))),(2,oi x1),(3,oi x2),(9,oi x3),(10,oi x4),(12,oi x5)],[(1000000,(.box [(.kept 0 (.sl 1 x6)),(.t (.int .i64 x7))]))]⟩
def q0b.st0 (x0:List T) (x1 x2 x3 x4 x5:Int) (x6:List T) (x7:Int):St:=⟨[(0,(.one (.ptr 1000000 0))),(1,(.one (.t (.rref [(.sl 2 x0)] 0)))),(2,oi x1),(3,oi x2),(9,oi x3),(10,oi x4),(11,oi x5)],[(1000000,(.box [(.kept 0 (.sl 1 x6)),(.t (.int .i64 x7))]))]⟩
noncomputable def q0b.K0 (n:Nat):Ex→St→R:=kx F.q0b n [.block 0,.seq 0 (cx F.q0b [1,1,1,1,1])] (endOf prog A F.q0b)
noncomputable def q0b.at0 (n:Nat) (m:Nat) (s:St):R:=lx F.q0b n 0 [1,1,1,1,0,1,0,0] (q0b.K0 n) m s
noncomputable def q0b.rd0 (n:Nat) (L0:St→R) (s:St):R:=rx F.q0b n 0 [1,1,1,1,0,1,0,0] (q0b.K0 n) L0 s
theorem q0b.next0 (n:Nat) (m:Nat) (s:St):q0b.at0 n (m+1) s=q0b.rd0 n (q0b.at0 n m) s:=nx _ _ _ _ _ _ _
noncomputable def q0b.K2 (n:Nat):Ex→St→R:=kx F.q0b n [.block 2,.seq 0 (cx F.q0b [1,1,1,1,1,1])] (endOf prog A F.q0b)
noncomputable def q0b.at2 (n:Nat) (m:Nat) (s:St):R:=lx F.q0b n 2 [1,1,1,1,1,0,1,0,1,0,0] (q0b.K2 n) m s
noncomputable def q0b.rd2 (n:Nat) (L2:St→R) (s:St):R:=rx F.q0b n 2 [1,1,1,1,1,0,1,0,1,0,0] (q0b.K2 n) L2 s
theorem q0b.next2 (n:Nat) (m:Nat) (s:St):q0b.at2 n (m+1) s=q0b.rd2 n (q0b.at2 n m) s:=nx _ _ _ _ _ _ _
theorem q0b.round0 (n:Nat) (L0:St→R) (x0:List T) (x1 x2 x3 x4 x5:Int) (x6:List T) (x7:Int):q0b.rd0 n L0 (q0b.st0 x0 x1 x2 x3 x4 x5 x6 x7)=(bif (decide (x5 < x3)) then (bif inB x4 ((x0).length / 2) then ((x0[(((Int.toNat x4)*2)+1)]?).bind fun e41=>((oInt .i64 e41).bind fun n42=>(bif (decide (n42 ≥ x1)) then (bif decide (x3=0) then none else (L0 (q0b.st0 x0 x1 x2 x3 (Int.tmod (IntKind.wrap .i64 (x4+(1:Int))) x3) (IntKind.wrap .i64 (x5+(1:Int))) x6 x7))) else (bif (decide (x1 < (2:Int))) then (q0b.at2 n n (q0b.st2 x0 x1 x2 x3 x4 (0:Int) x6 x7)) else (bif inB x4 ((x0).length / 2) then ((x0[(((Int.toNat x4)*2)+1)]?).bind fun e97=>((oInt .i64 e97).bind fun n98=>(bif ((n98 == (1:Int))) then ((LIM F.q0b [(.rref [(.sl 1 x6),(.int .i64 x7)] 0),(.rref [(.sl 2 x0)] 0),(.int .i64 (IntKind.wrap .i64 (x1 - (1:Int)))),(.int .i64 x2)]).bind fun r99=>((oCons r99.2).bind fun p100=>((oNil p100.2).bind fun _=>((oAgg p100.1).bind fun c101=>((oCons c101).bind fun p102=>((oSl 1 p102.1).bind fun c103=>((oCons p102.2).bind fun p104=>((oInt .i64 p104.1).bind fun n105=>((oNil p104.2).bind fun _=>((oSl 1 r99.1).bind fun c106=>(bif (c106).all T.scalar then (bif Nat.ble ((1+(c106).length)*8) (140737488355328*1) then some ((.sl 1 ([(.int .i64 x4)]++c106:List T)),[(.agg [(.sl 1 x6),(.int .i64 n105)])]) else none) else none))))))))))) else (bif ((n98 == (2:Int))) then ((LIM F.q0b [(.rref [(.sl 1 x6),(.int .i64 x7)] 0),(.rref [(.sl 2 x0)] 0),(.int .i64 (IntKind.wrap .i64 (x1 - (2:Int)))),(.int .i64 x2)]).bind fun r107=>((oCons r107.2).bind fun p108=>((oNil p108.2).bind fun _=>((oAgg p108.1).bind fun c109=>((oCons c109).bind fun p110=>((oSl 1 p110.1).bind fun c111=>((oCons p110.2).bind fun p112=>((oInt .i64 p112.1).bind fun n113=>((oNil p112.2).bind fun _=>((oSl 1 r107.1).bind fun c114=>(bif (c114).all T.scalar then (bif Nat.ble ((1+(c114).length)*8) (140737488355328*1) then ((LIM F.q0b [(.rref [(.sl 1 x6),(.int .i64 n113)] 0),(.rref [(.sl 2 x0)] 0),(.int .i64 (IntKind.wrap .i64 ((IntKind.wrap .i64 (x1 - (1:Int))) - ((((c114).length / 1):Nat):Int)))),(.int .i64 x2)]).bind fun r115=>((oCons r115.2).bind fun p116=>((oNil p116.2).bind fun _=>((oAgg p116.1).bind fun c117=>((oCons c117).bind fun p118=>((oSl 1 p118.1).bind fun c119=>((oCons p118.2).bind fun p120=>((oInt .i64 p120.1).bind fun n121=>((oNil p120.2).bind fun _=>((oSl 1 r115.1).bind fun c122=>(bif (c122).all T.scalar then (bif Nat.ble (((([(.int .i64 x4)]++c114:List T)).length+(c122).length)*8) (140737488355328*1) then some ((.sl 1 (([(.int .i64 x4)]++c114:List T)++c122:List T)),[(.agg [(.sl 1 x6),(.int .i64 n121)])]) else none) else none))))))))))) else none) else none))))))))))) else some ((.sl 1 [(.int .i64 x4)]),[(.agg [(.sl 1 x6),(.int .i64 x7)])]))))) else none))))) else none) else (bif (decide (x1 < (2:Int))) then (q0b.at2 n n (q0b.st2 x0 x1 x2 x3 x4 (0:Int) x6 x7)) else (bif inB x4 ((x0).length / 2) then ((x0[(((Int.toNat x4)*2)+1)]?).bind fun e123=>((oInt .i64 e123).bind fun n124=>(bif ((n124 == (1:Int))) then ((LIM F.q0b [(.rref [(.sl 1 x6),(.int .i64 x7)] 0),(.rref [(.sl 2 x0)] 0),(.int .i64 (IntKind.wrap .i64 (x1 - (1:Int)))),(.int .i64 x2)]).bind fun r125=>((oCons r125.2).bind fun p126=>((oNil p126.2).bind fun _=>((oAgg p126.1).bind fun c127=>((oCons c127).bind fun p128=>((oSl 1 p128.1).bind fun c129=>((oCons p128.2).bind fun p130=>((oInt .i64 p130.1).bind fun n131=>((oNil p130.2).bind fun _=>((oSl 1 r125.1).bind fun c132=>(bif (c132).all T.scalar then (bif Nat.ble ((1+(c132).length)*8) (140737488355328*1) then some ((.sl 1 ([(.int .i64 x4)]++c132:List T)),[(.agg [(.sl 1 x6),(.int .i64 n131)])]) else none) else none))))))))))) else (bif ((n124 == (2:Int))) then ((LIM F.q0b [(.rref [(.sl 1 x6),(.int .i64 x7)] 0),(.rref [(.sl 2 x0)] 0),(.int .i64 (IntKind.wrap .i64 (x1 - (2:Int)))),(.int .i64 x2)]).bind fun r133=>((oCons r133.2).bind fun p134=>((oNil p134.2).bind fun _=>((oAgg p134.1).bind fun c135=>((oCons c135).bind fun p136=>((oSl 1 p136.1).bind fun c137=>((oCons p136.2).bind fun p138=>((oInt .i64 p138.1).bind fun n139=>((oNil p138.2).bind fun _=>((oSl 1 r133.1).bind fun c140=>(bif (c140).all T.scalar then (bif Nat.ble ((1+(c140).length)*8) (140737488355328*1) then ((LIM F.q0b [(.rref [(.sl 1 x6),(.int .i64 n139)] 0),(.rref [(.sl 2 x0)] 0),(.int .i64 (IntKind.wrap .i64 ((IntKind.wrap .i64 (x1 - (1:Int))) - ((((c140).length / 1):Nat):Int)))),(.int .i64 x2)]).bind fun r141=>((oCons r141.2).bind fun p142=>((oNil p142.2).bind fun _=>((oAgg p142.1).bind fun c143=>((oCons c143).bind fun p144=>((oSl 1 p144.1).bind fun c145=>((oCons p144.2).bind fun p146=>((oInt .i64 p146.1).bind fun n147=>((oNil p146.2).bind fun _=>((oSl 1 r141.1).bind fun c148=>(bif (c148).all T.scalar then (bif Nat.ble (((([(.int .i64 x4)]++c140:List T)).length+(c148).length)*8) (140737488355328*1) then some ((.sl 1 (([(.int .i64 x4)]++c140:List T)++c148:List T)),[(.agg [(.sl 1 x6),(.int .i64 n147)])]) else none) else none))))))))))) else none) else none))))))))))) else some ((.sl 1 [(.int .i64 x4)]),[(.agg [(.sl 1 x6),(.int .i64 x7)])]))))) else none))):=by kernel_rfl
theorem q0b.round2 (n:Nat) (L2:St→R) (x0:List T) (x1 x2 x3 x4 x5:Int) (x6:List T) (x7:Int):q0b.rd2 n L2 (q0b.st2 x0 x1 x2 x3 x4 x5 x6 x7)=(bif (decide (x5 < x3)) then (bif inB x4 ((x0).length / 2) then ((x0[(((Int.toNat x4)*2)+1)]?).bind fun e43=>((oInt .i64 e43).bind fun n44=>(bif (decide (n44 > (0:Int))) then (bif decide (x3=0) then none else (L2 (q0b.st2 x0 x1 x2 x3 (Int.tmod (IntKind.wrap .i64 (x4+(1:Int))) x3) (IntKind.wrap .i64 (x5+(1:Int))) x6 x7))) else (bif inB x4 ((x0).length / 2) then ((x0[(((Int.toNat x4)*2)+1)]?).bind fun e45=>((oInt .i64 e45).bind fun n46=>(bif ((n46 == (1:Int))) then ((LIM F.q0b [(.rref [(.sl 1 x6),(.int .i64 x7)] 0),(.rref [(.sl 2 x0)] 0),(.int .i64 (IntKind.wrap .i64 (x1 - (1:Int)))),(.int .i64 x2)]).bind fun r47=>((oCons r47.2).bind fun p48=>((oNil p48.2).bind fun _=>((oAgg p48.1).bind fun c49=>((oCons c49).bind fun p50=>((oSl 1 p50.1).bind fun c51=>((oCons p50.2).bind fun p52=>((oInt .i64 p52.1).bind fun n53=>((oNil p52.2).bind fun _=>((oSl 1 r47.1).bind fun c54=>(bif (c54).all T.scalar then (bif Nat.ble ((1+(c54).length)*8) (140737488355328*1) then some ((.sl 1 ([(.int .i64 x4)]++c54:List T)),[(.agg [(.sl 1 x6),(.int .i64 n53)])]) else none) else none))))))))))) else (bif ((n46 == (2:Int))) then ((LIM F.q0b [(.rref [(.sl 1 x6),(.int .i64 x7)] 0),(.rref [(.sl 2 x0)] 0),(.int .i64 (IntKind.wrap .i64 (x1 - (2:Int)))),(.int .i64 x2)]).bind fun r55=>((oCons r55.2).bind fun p56=>((oNil p56.2).bind fun _=>((oAgg p56.1).bind fun c57=>((oCons c57).bind fun p58=>((oSl 1 p58.1).bind fun c59=>((oCons p58.2).bind fun p60=>((oInt .i64 p60.1).bind fun n61=>((oNil p60.2).bind fun _=>((oSl 1 r55.1).bind fun c62=>(bif (c62).all T.scalar then (bif Nat.ble ((1+(c62).length)*8) (140737488355328*1) then ((LIM F.q0b [(.rref [(.sl 1 x6),(.int .i64 n61)] 0),(.rref [(.sl 2 x0)] 0),(.int .i64 (IntKind.wrap .i64 ((IntKind.wrap .i64 (x1 - (1:Int))) - ((((c62).length / 1):Nat):Int)))),(.int .i64 x2)]).bind fun r63=>((oCons r63.2).bind fun p64=>((oNil p64.2).bind fun _=>((oAgg p64.1).bind fun c65=>((oCons c65).bind fun p66=>((oSl 1 p66.1).bind fun c67=>((oCons p66.2).bind fun p68=>((oInt .i64 p68.1).bind fun n69=>((oNil p68.2).bind fun _=>((oSl 1 r63.1).bind fun c70=>(bif (c70).all T.scalar then (bif Nat.ble (((([(.int .i64 x4)]++c62:List T)).length+(c70).length)*8) (140737488355328*1) then some ((.sl 1 (([(.int .i64 x4)]++c62:List T)++c70:List T)),[(.agg [(.sl 1 x6),(.int .i64 n69)])]) else none) else none))))))))))) else none) else none))))))))))) else some ((.sl 1 [(.int .i64 x4)]),[(.agg [(.sl 1 x6),(.int .i64 x7)])]))))) else none)))) else none) else (bif inB x4 ((x0).length / 2) then ((x0[(((Int.toNat x4)*2)+1)]?).bind fun e71=>((oInt .i64 e71).bind fun n72=>(bif ((n72 == (1:Int))) then ((LIM F.q0b [(.rref [(.sl 1 x6),(.int .i64 x7)] 0),(.rref [(.sl 2 x0)] 0),(.int .i64 (IntKind.wrap .i64 (x1 - (1:Int)))),(.int .i64 x2)]).bind fun r73=>((oCons r73.2).bind fun p74=>((oNil p74.2).bind fun _=>((oAgg p74.1).bind fun c75=>((oCons c75).bind fun p76=>((oSl 1 p76.1).bind fun c77=>((oCons p76.2).bind fun p78=>((oInt .i64 p78.1).bind fun n79=>((oNil p78.2).bind fun _=>((oSl 1 r73.1).bind fun c80=>(bif (c80).all T.scalar then (bif Nat.ble ((1+(c80).length)*8) (140737488355328*1) then some ((.sl 1 ([(.int .i64 x4)]++c80:List T)),[(.agg [(.sl 1 x6),(.int .i64 n79)])]) else none) else none))))))))))) else (bif ((n72 == (2:Int))) then ((LIM F.q0b [(.rref [(.sl 1 x6),(.int .i64 x7)] 0),(.rref [(.sl 2 x0)] 0),(.int .i64 (IntKind.wrap .i64 (x1 - (2:Int)))),(.int .i64 x2)]).bind fun r81=>((oCons r81.2).bind fun p82=>((oNil p82.2).bind fun _=>((oAgg p82.1).bind fun c83=>((oCons c83).bind fun p84=>((oSl 1 p84.1).bind fun c85=>((oCons p84.2).bind fun p86=>((oInt .i64 p86.1).bind fun n87=>((oNil p86.2).bind fun _=>((oSl 1 r81.1).bind fun c88=>(bif (c88).all T.scalar then (bif Nat.ble ((1+(c88).length)*8) (140737488355328*1) then ((LIM F.q0b [(.rref [(.sl 1 x6),(.int .i64 n87)] 0),(.rref [(.sl 2 x0)] 0),(.int .i64 (IntKind.wrap .i64 ((IntKind.wrap .i64 (x1 - (1:Int))) - ((((c88).length / 1):Nat):Int)))),(.int .i64 x2)]).bind fun r89=>((oCons r89.2).bind fun p90=>((oNil p90.2).bind fun _=>((oAgg p90.1).bind fun c91=>((oCons c91).bind fun p92=>((oSl 1 p92.1).bind fun c93=>((oCons p92.2).bind fun p94=>((oInt .i64 p94.1).bind fun n95=>((oNil p94.2).bind fun _=>((oSl 1 r89.1).bind fun c96=>(bif (c96).all T.scalar then (bif Nat.ble (((([(.int .i64 x4)]++c88:List T)).length+(c96).length)*8) (140737488355328*1) then some ((.sl 1 (([(.int .i64 x4)]++c88:List T)++c96:List T)),[(.agg [(.sl 1 x6),(.int .i64 n95)])]) else none) else none))))))))))) else none) else none))))))))))) else some ((.sl 1 [(.int .i64 x4)]),[(.agg [(.sl 1 x6),(.int .i64 x7)])]))))) else none)):=by kernel_rfl
theorem q0b.ev (n:Nat) (a0_0:List T) (a0_1:Int) (a1_0:List T) (a2 a3:Int):callK prog A H LIM n F.q0b [(.rref [(.sl 1 a0_0),(.int .i64 a0_1)] 0),(.rref [(.sl 2 a1_0)] 0),(.int .i64 a2),(.int .i64 a3)]=(bif (decide (a3 > (0:Int))) then (bif (decide (a2 < (2:Int))) then ((LIM F.q27 [(.rref [(.sl 1 a0_0),(.int .i64 a0_1)] 0),(.int .i64 (2:Int))]).bind fun r1=>((oCons r1.2).bind fun p2=>((oNil p2.2).bind fun _=>((oAgg p2.1).bind fun c3=>((oCons c3).bind fun p4=>((oSl 1 p4.1).bind fun c5=>((oCons p4.2).bind fun p6=>((oInt .i64 p6.1).bind fun n7=>((oNil p6.2).bind fun _=>((oBool r1.1).bind fun b8=>(bif b8 then ((LIM F.q1c [(.rref [(.sl 1 a0_0),(.int .i64 n7)] 0),(.int .i64 a3)]).bind fun r9=>((oCons r9.2).bind fun p10=>((oNil p10.2).bind fun _=>((oAgg p10.1).bind fun c11=>((oCons c11).bind fun p12=>((oSl 1 p12.1).bind fun c13=>((oCons p12.2).bind fun p14=>((oInt .i64 p14.1).bind fun n15=>((oNil p14.2).bind fun _=>((oInt .i64 r9.1).bind fun n16=>some ((.sl 1 [(.int .i64 (IntKind.wrap .i64 ((-1:Int) - n16)))]),[(.agg [(.sl 1 a0_0),(.int .i64 n15)])]))))))))))) else ((LIM F.q27 [(.rref [(.sl 1 a0_0),(.int .i64 n7)] 0),(.int .i64 (4:Int))]).bind fun r17=>((oCons r17.2).bind fun p18=>((oNil p18.2).bind fun _=>((oAgg p18.1).bind fun c19=>((oCons c19).bind fun p20=>((oSl 1 p20.1).bind fun c21=>((oCons p20.2).bind fun p22=>((oInt .i64 p22.1).bind fun n23=>((oNil p22.2).bind fun _=>((oBool r17.1).bind fun b24=>(bif b24 then ((LIM F.q1c [(.rref [(.sl 1 a0_0),(.int .i64 n23)] 0),(.int .i64 a3)]).bind fun r25=>((oCons r25.2).bind fun p26=>((oNil p26.2).bind fun _=>((oAgg p26.1).bind fun c27=>((oCons c27).bind fun p28=>((oSl 1 p28.1).bind fun c29=>((oCons p28.2).bind fun p30=>((oInt .i64 p30.1).bind fun n31=>((oNil p30.2).bind fun _=>((oInt .i64 r25.1).bind fun n32=>some ((.sl 1 [(.int .i64 (IntKind.wrap .i64 ((-1:Int) - n32)))]),[(.agg [(.sl 1 a0_0),(.int .i64 n31)])]))))))))))) else ((LIM F.q1c [(.rref [(.sl 1 a0_0),(.int .i64 n23)] 0),(.int .i64 ((((a1_0).length / 2):Nat):Int))]).bind fun r33=>((oCons r33.2).bind fun p34=>((oNil p34.2).bind fun _=>((oAgg p34.1).bind fun c35=>((oCons c35).bind fun p36=>((oSl 1 p36.1).bind fun c37=>((oCons p36.2).bind fun p38=>((oInt .i64 p38.1).bind fun n39=>((oNil p38.2).bind fun _=>((oInt .i64 r33.1).bind fun n40=>(q0b.at0 n n (q0b.st0 a1_0 a2 a3 ((((a1_0).length / 2):Nat):Int) n40 (0:Int) a0_0 n39)))))))))))))))))))))))))))))))))) else ((LIM F.q27 [(.rref [(.sl 1 a0_0),(.int .i64 a0_1)] 0),(.int .i64 (4:Int))]).bind fun r149=>((oCons r149.2).bind fun p150=>((oNil p150.2).bind fun _=>((oAgg p150.1).bind fun c151=>((oCons c151).bind fun p152=>((oSl 1 p152.1).bind fun c153=>((oCons p152.2).bind fun p154=>((oInt .i64 p154.1).bind fun n155=>((oNil p154.2).bind fun _=>((oBool r149.1).bind fun b156=>(bif b156 then ((LIM F.q1c [(.rref [(.sl 1 a0_0),(.int .i64 n155)] 0),(.int .i64 a3)]).bind fun r157=>((oCons r157.2).bind fun p158=>((oNil p158.2).bind fun _=>((oAgg p158.1).bind fun c159=>((oCons c159).bind fun p160=>((oSl 1 p160.1).bind fun c161=>((oCons p160.2).bind fun p162=>((oInt .i64 p162.1).bind fun n163=>((oNil p162.2).bind fun _=>((oInt .i64 r157.1).bind fun n164=>some ((.sl 1 [(.int .i64 (IntKind.wrap .i64 ((-1:Int) - n164)))]),[(.agg [(.sl 1 a0_0),(.int .i64 n163)])]))))))))))) else ((LIM F.q1c [(.rref [(.sl 1 a0_0),(.int .i64 n155)] 0),(.int .i64 ((((a1_0).length / 2):Nat):Int))]).bind fun r165=>((oCons r165.2).bind fun p166=>((oNil p166.2).bind fun _=>((oAgg p166.1).bind fun c167=>((oCons c167).bind fun p168=>((oSl 1 p168.1).bind fun c169=>((oCons p168.2).bind fun p170=>((oInt .i64 p170.1).bind fun n171=>((oNil p170.2).bind fun _=>((oInt .i64 r165.1).bind fun n172=>(q0b.at0 n n (q0b.st0 a1_0 a2 a3 ((((a1_0).length / 2):Nat):Int) n172 (0:Int) a0_0 n171)))))))))))))))))))))))) else ((LIM F.q1c [(.rref [(.sl 1 a0_0),(.int .i64 a0_1)] 0),(.int .i64 ((((a1_0).length / 2):Nat):Int))]).bind fun r173=>((oCons r173.2).bind fun p174=>((oNil p174.2).bind fun _=>((oAgg p174.1).bind fun c175=>((oCons c175).bind fun p176=>((oSl 1 p176.1).bind fun c177=>((oCons p176.2).bind fun p178=>((oInt .i64 p178.1).bind fun n179=>((oNil p178.2).bind fun _=>((oInt .i64 r173.1).bind fun n180=>(q0b.at0 n n (q0b.st0 a1_0 a2 a3 ((((a1_0).length / 2):Nat):Int) n180 (0:Int) a0_0 n179))))))))))))):=by kernel_rfl
def q1l.st0 (x0 x1:List T) (x2 x3 x4:Int):St:=⟨[(0,(.one (.t (.rref [(.sl 2 x0)] 0)))),(1,ol 1 x1),(2,oi x2),(7,oi x3),(8,oi x4)],[]⟩
noncomputable def q1l.K0 (n:Nat):Ex→St→R:=kx F.q1l n [.block 0,.seq 0 (cx F.q1l [1,1,1,1,1])] (endOf prog A F.q1l)
noncomputable def q1l.at0 (n:Nat) (m:Nat) (s:St):R:=lx F.q1l n 0 [1,1,1,1,0,1,0,0] (q1l.K0 n) m s
noncomputable def q1l.rd0 (n:Nat) (L0:St→R) (s:St):R:=rx F.q1l n 0 [1,1,1,1,0,1,0,0] (q1l.K0 n) L0 s
theorem q1l.next0 (n:Nat) (m:Nat) (s:St):q1l.at0 n (m+1) s=q1l.rd0 n (q1l.at0 n m) s:=nx _ _ _ _ _ _ _
theorem q1l.round0 (n:Nat) (L0:St→R) (x0 x1:List T) (x2 x3 x4:Int):q1l.rd0 n L0 (q1l.st0 x0 x1 x2 x3 x4)=(bif inB x2 ((x1).length / 1) then ((x1[((Int.toNat x2)*1)]?).bind fun e3=>((oInt .i64 e3).bind fun n4=>(bif inB n4 ((x0).length / 2) then ((x0[(((Int.toNat n4)*2)+1)]?).bind fun e5=>((oInt .i64 e5).bind fun n6=>(bif (decide (x4 < n6)) then ((LIM F.q1l [(.rref [(.sl 2 x0)] 0),(.sl 1 x1),(.int .i64 x3)]).bind fun r7=>((oNil r7.2).bind fun _=>((oInt .i64 r7.1).bind fun n8=>(bif (decide (n8 < (0:Int))) then some ((.int .i64 (-1:Int)),[]) else (L0 (q1l.st0 x0 x1 x2 n8 (IntKind.wrap .i64 (x4+(1:Int))))))))) else some ((.int .i64 x3),[])))) else none))) else none):=by kernel_rfl
theorem q1l.ev (n:Nat) (a0_0 a1:List T) (a2:Int):callK prog A H LIM n F.q1l [(.rref [(.sl 2 a0_0)] 0),(.sl 1 a1),(.int .i64 a2)]=(bif (decide (a2 ≥ ((((a1).length / 1):Nat):Int))) then some ((.int .i64 (-1:Int)),[]) else (bif inB a2 ((a1).length / 1) then ((a1[((Int.toNat a2)*1)]?).bind fun e1=>((oInt .i64 e1).bind fun n2=>(bif (decide (n2 < (0:Int))) then some ((.int .i64 (IntKind.wrap .i64 (a2+(1:Int)))),[]) else (q1l.at0 n n (q1l.st0 a0_0 a1 a2 (IntKind.wrap .i64 (a2+(1:Int))) (0:Int)))))) else none)):=by kernel_rfl
def q0u.st0 (x0 x1:List T) (x2:Int):St:=⟨[(0,(.one (.t (.rref [(.sl 2 x0)] 0)))),(1,ol 1 x1),(5,oi x2)],[]⟩
noncomputable def q0u.K0 (n:Nat):Ex→St→R:=kx F.q0u n [.block 0,.seq 0 (cx F.q0u [1,1,1])] (endOf prog A F.q0u)
noncomputable def q0u.at0 (n:Nat) (m:Nat) (s:St):R:=lx F.q0u n 0 [1,1,0,1,0,0] (q0u.K0 n) m s
noncomputable def q0u.rd0 (n:Nat) (L0:St→R) (s:St):R:=rx F.q0u n 0 [1,1,0,1,0,0] (q0u.K0 n) L0 s
theorem q0u.next0 (n:Nat) (m:Nat) (s:St):q0u.at0 n (m+1) s=q0u.rd0 n (q0u.at0 n m) s:=nx _ _ _ _ _ _ _
theorem q0u.round0 (n:Nat) (L0:St→R) (x0 x1:List T) (x2:Int):q0u.rd0 n L0 (q0u.st0 x0 x1 x2)=(bif (decide (x2 < ((((x1).length / 1):Nat):Int))) then (bif inB x2 ((x1).length / 1) then ((x1[((Int.toNat x2)*1)]?).bind fun e1=>((oInt .i64 e1).bind fun n2=>((LIM F.q6s [(.rref [(.sl 2 x0)] 0),(.int .i64 n2)]).bind fun r3=>((oNil r3.2).bind fun _=>((oBool r3.1).bind fun b4=>(bif (!b4) then some ((.int .i64 (3:Int)),[]) else (L0 (q0u.st0 x0 x1 (IntKind.wrap .i64 (x2+(1:Int))))))))))) else none) else ((LIM F.q1l [(.rref [(.sl 2 x0)] 0),(.sl 1 x1),(.int .i64 (0:Int))]).bind fun r5=>((oNil r5.2).bind fun _=>((oInt .i64 r5.1).bind fun n6=>(bif ((n6 != ((((x1).length / 1):Nat):Int))) then some ((.int .i64 (1:Int)),[]) else some ((.int .i64 (0:Int)),[])))))):=by kernel_rfl
theorem q0u.ev (n:Nat) (a0_0 a1:List T):callK prog A H LIM n F.q0u [(.rref [(.sl 2 a0_0)] 0),(.sl 1 a1)]=(bif (decide (((((a1).length / 1):Nat):Int) < (1:Int))) then some ((.int .i64 (2:Int)),[]) else (bif (decide (((((a1).length / 1):Nat):Int) > (24:Int))) then some ((.int .i64 (2:Int)),[]) else (q0u.at0 n n (q0u.st0 a0_0 a1 (0:Int))))):=by kernel_rfl
theorem q6s.ev (n:Nat) (a0_0:List T) (a1:Int):callK prog A H LIM n F.q6s [(.rref [(.sl 2 a0_0)] 0),(.int .i64 a1)]=((LIM F.q4g [(.rref [(.sl 2 a0_0)] 0),(.int .i64 a1)]).bind fun r1=>((oNil r1.2).bind fun _=>((oBool r1.1).bind fun b2=>(bif b2 then some ((.bool true),[]) else ((LIM F.q4w [(.int .i64 a1),(.int .i64 (-12:Int)),(.int .i64 (-1:Int))]).bind fun r3=>((oNil r3.2).bind fun _=>((oBool r3.1).bind fun b4=>some ((.bool b4),[])))))))):=by kernel_rfl
theorem q5i.ev (n:Nat) (a0:List T) (a1:Int):callK prog A H LIM n F.q5i [(.sl 1 a0),(.int .i64 a1)]=((LIM F.q4w [(.int .i64 a1),(.int .i64 (0:Int)),(.int .i64 (IntKind.wrap .i64 (((((a0).length / 1):Nat):Int) - (1:Int))))]).bind fun r1=>((oNil r1.2).bind fun _=>((oBool r1.1).bind fun b2=>some ((.bool b2),[])))):=by kernel_rfl
theorem q4c.ev (n:Nat) (a0_0 a1:List T) (a2:Int) (a3:List T):callK prog A H LIM n F.q4c [(.rref [(.sl 2 a0_0)] 0),(.sl 1 a1),(.int .i64 a2),(.sl 1 a3)]=(bif decide (0≤(0:Int))&&decide ((0:Int)≤a2)&&decide (a2≤((((a1).length / 1):Nat):Int)) then ((LIM F.q2e [(.sl 1 ((a1.take ((Int.toNat a2)*1)).drop (0*1)))]).bind fun r1=>((oNil r1.2).bind fun _=>((oSl 1 r1.1).bind fun c2=>(bif (a3).all T.scalar then (bif Nat.ble (((c2).length+(a3).length)*8) (140737488355328*1) then ((LIM F.q1l [(.rref [(.sl 2 a0_0)] 0),(.sl 1 a1),(.int .i64 a2)]).bind fun r3=>((oNil r3.2).bind fun _=>((oInt .i64 r3.1).bind fun n4=>(bif decide (0≤n4)&&decide (n4≤((((a1).length / 1):Nat):Int))&&decide (((((a1).length / 1):Nat):Int)≤((((a1).length / 1):Nat):Int)) then (bif (((a1.take ((Int.toNat ((((a1).length / 1):Nat):Int))*1)).drop ((Int.toNat n4)*1))).all T.scalar then (bif Nat.ble ((((c2++a3:List T)).length+(((a1.take ((Int.toNat ((((a1).length / 1):Nat):Int))*1)).drop ((Int.toNat n4)*1))).length)*8) (140737488355328*1) then some ((.sl 1 ((c2++a3:List T)++((a1.take ((Int.toNat ((((a1).length / 1):Nat):Int))*1)).drop ((Int.toNat n4)*1)):List T)),[]) else none) else none) else none)))) else none) else none)))) else none):=by kernel_rfl
theorem q79.ev (n:Nat) (a0_0 a1:List T) (a2:Int):callK prog A H LIM n F.q79 [(.rref [(.sl 2 a0_0)] 0),(.sl 1 a1),(.int .i64 a2)]=((LIM F.q1l [(.rref [(.sl 2 a0_0)] 0),(.sl 1 a1),(.int .i64 a2)]).bind fun r1=>((oNil r1.2).bind fun _=>((oInt .i64 r1.1).bind fun n2=>(bif decide (0≤a2)&&decide (a2≤n2)&&decide (n2≤((((a1).length / 1):Nat):Int)) then ((LIM F.q2e [(.sl 1 ((a1.take ((Int.toNat n2)*1)).drop ((Int.toNat a2)*1)))]).bind fun r3=>((oNil r3.2).bind fun _=>((oSl 1 r3.1).bind fun c4=>some ((.sl 1 c4),[])))) else none)))):=by kernel_rfl
theorem q3g.ev (n:Nat) (a0_0:List T) (a0_1:Int) (a1_0:List T):callK prog A H LIM n F.q3g [(.rref [(.sl 1 a0_0),(.int .i64 a0_1)] 0),(.rref [(.sl 2 a1_0)] 0)]=((LIM F.q01 [(.agg [(.sl 2 a1_0)])]).bind fun r1=>((oNil r1.2).bind fun _=>((oInt .i64 r1.1).bind fun n2=>(bif ((n2 != (0:Int))) then some ((.agg [(.sl 1 [(.int .i64 (0:Int))]),(.sl 1 [(.int .i64 (0:Int))])]),[(.agg [(.sl 1 a0_0),(.int .i64 a0_1)])]) else ((LIM F.q27 [(.rref [(.sl 1 a0_0),(.int .i64 a0_1)] 0),(.int .i64 (6:Int))]).bind fun r3=>((oCons r3.2).bind fun p4=>((oNil p4.2).bind fun _=>((oAgg p4.1).bind fun c5=>((oCons c5).bind fun p6=>((oSl 1 p6.1).bind fun c7=>((oCons p6.2).bind fun p8=>((oInt .i64 p8.1).bind fun n9=>((oNil p8.2).bind fun _=>((oBool r3.1).bind fun b10=>(bif b10 then ((LIM F.q0y [(.rref [(.sl 1 a0_0),(.int .i64 n9)] 0),(.rref [(.sl 2 a1_0)] 0),(.int .i64 (9:Int)),(.int .i64 (7:Int))]).bind fun r11=>((oCons r11.2).bind fun p12=>((oNil p12.2).bind fun _=>((oAgg p12.1).bind fun c13=>((oCons c13).bind fun p14=>((oSl 1 p14.1).bind fun c15=>((oCons p14.2).bind fun p16=>((oInt .i64 p16.1).bind fun n17=>((oNil p16.2).bind fun _=>((oSl 1 r11.1).bind fun c18=>((LIM F.q0y [(.rref [(.sl 1 a0_0),(.int .i64 n17)] 0),(.rref [(.sl 2 a1_0)] 0),(.int .i64 (5:Int)),(.int .i64 (12:Int))]).bind fun r19=>((oCons r19.2).bind fun p20=>((oNil p20.2).bind fun _=>((oAgg p20.1).bind fun c21=>((oCons c21).bind fun p22=>((oSl 1 p22.1).bind fun c23=>((oCons p22.2).bind fun p24=>((oInt .i64 p24.1).bind fun n25=>((oNil p24.2).bind fun _=>((oSl 1 r19.1).bind fun c26=>some ((.agg [(.sl 1 c18),(.sl 1 c26)]),[(.agg [(.sl 1 a0_0),(.int .i64 n25)])]))))))))))))))))))))) else ((LIM F.q5r [(.rref [(.sl 1 a0_0),(.int .i64 n9)] 0),(.rref [(.sl 2 a1_0)] 0)]).bind fun r27=>((oCons r27.2).bind fun p28=>((oNil p28.2).bind fun _=>((oAgg p28.1).bind fun c29=>((oCons c29).bind fun p30=>((oSl 1 p30.1).bind fun c31=>((oCons p30.2).bind fun p32=>((oInt .i64 p32.1).bind fun n33=>((oNil p32.2).bind fun _=>((oAgg r27.1).bind fun c34=>((oCons c34).bind fun p35=>((oSl 1 p35.1).bind fun c36=>((oCons p35.2).bind fun p37=>((oSl 1 p37.1).bind fun c38=>((oNil p37.2).bind fun _=>some ((.agg [(.sl 1 c36),(.sl 1 c38)]),[(.agg [(.sl 1 a0_0),(.int .i64 n33)])]))))))))))))))))))))))))))))))):=by kernel_rfl
theorem q7c.ev (n:Nat) (a0_0 a0_1:List T):callK prog A H LIM n F.q7c [(.rref [(.sl 1 a0_0),(.sl 1 a0_1)] 0)]=((LIM F.q2e [(.sl 1 a0_0)]).bind fun r1=>((oNil r1.2).bind fun _=>((oSl 1 r1.1).bind fun c2=>((LIM F.q2e [(.sl 1 a0_1)]).bind fun r3=>((oNil r3.2).bind fun _=>((oSl 1 r3.1).bind fun c4=>some ((.agg [(.sl 1 c2),(.sl 1 c4)]),[]))))))):=by kernel_rfl
theorem q5r.ev (n:Nat) (a0_0:List T) (a0_1:Int) (a1_0:List T):callK prog A H LIM n F.q5r [(.rref [(.sl 1 a0_0),(.int .i64 a0_1)] 0),(.rref [(.sl 2 a1_0)] 0)]=((LIM F.q27 [(.rref [(.sl 1 a0_0),(.int .i64 a0_1)] 0),(.int .i64 (4:Int))]).bind fun r1=>((oCons r1.2).bind fun p2=>((oNil p2.2).bind fun _=>((oAgg p2.1).bind fun c3=>((oCons c3).bind fun p4=>((oSl 1 p4.1).bind fun c5=>((oCons p4.2).bind fun p6=>((oInt .i64 p6.1).bind fun n7=>((oNil p6.2).bind fun _=>((oBool r1.1).bind fun b8=>(bif b8 then ((LIM F.q29 [(.rref [(.sl 1 a0_0),(.int .i64 n7)] 0),(.sl 1 [(.int .i64 (4:Int)),(.int .i64 (7:Int)),(.int .i64 (9:Int))])]).bind fun r9=>((oCons r9.2).bind fun p10=>((oNil p10.2).bind fun _=>((oAgg p10.1).bind fun c11=>((oCons c11).bind fun p12=>((oSl 1 p12.1).bind fun c13=>((oCons p12.2).bind fun p14=>((oInt .i64 p14.1).bind fun n15=>((oNil p14.2).bind fun _=>((oInt .i64 r9.1).bind fun n16=>((LIM F.q0b [(.rref [(.sl 1 a0_0),(.int .i64 n15)] 0),(.rref [(.sl 2 a1_0)] 0),(.int .i64 n16),(.int .i64 (3:Int))]).bind fun r17=>((oCons r17.2).bind fun p18=>((oNil p18.2).bind fun _=>((oAgg p18.1).bind fun c19=>((oCons c19).bind fun p20=>((oSl 1 p20.1).bind fun c21=>((oCons p20.2).bind fun p22=>((oInt .i64 p22.1).bind fun n23=>((oNil p22.2).bind fun _=>((oSl 1 r17.1).bind fun c24=>((LIM F.q29 [(.rref [(.sl 1 a0_0),(.int .i64 n23)] 0),(.sl 1 [(.int .i64 (1:Int)),(.int .i64 (3:Int)),(.int .i64 (5:Int))])]).bind fun r25=>((oCons r25.2).bind fun p26=>((oNil p26.2).bind fun _=>((oAgg p26.1).bind fun c27=>((oCons c27).bind fun p28=>((oSl 1 p28.1).bind fun c29=>((oCons p28.2).bind fun p30=>((oInt .i64 p30.1).bind fun n31=>((oNil p30.2).bind fun _=>((oInt .i64 r25.1).bind fun n32=>((LIM F.q0b [(.rref [(.sl 1 a0_0),(.int .i64 n31)] 0),(.rref [(.sl 2 a1_0)] 0),(.int .i64 n32),(.int .i64 (3:Int))]).bind fun r33=>((oCons r33.2).bind fun p34=>((oNil p34.2).bind fun _=>((oAgg p34.1).bind fun c35=>((oCons c35).bind fun p36=>((oSl 1 p36.1).bind fun c37=>((oCons p36.2).bind fun p38=>((oInt .i64 p38.1).bind fun n39=>((oNil p38.2).bind fun _=>((oSl 1 r33.1).bind fun c40=>some ((.agg [(.sl 1 c24),(.sl 1 c40)]),[(.agg [(.sl 1 a0_0),(.int .i64 n39)])]))))))))))))))))))))))))))))))))))))))))) else ((LIM F.q1t [(.rref [(.sl 1 a0_0),(.int .i64 n7)] 0),(.rref [(.sl 2 a1_0)] 0)]).bind fun r41=>((oCons r41.2).bind fun p42=>((oNil p42.2).bind fun _=>((oAgg p42.1).bind fun c43=>((oCons c43).bind fun p44=>((oSl 1 p44.1).bind fun c45=>((oCons p44.2).bind fun p46=>((oInt .i64 p46.1).bind fun n47=>((oNil p46.2).bind fun _=>((oAgg r41.1).bind fun c48=>((oCons c48).bind fun p49=>((oSl 1 p49.1).bind fun c50=>((oCons p49.2).bind fun p51=>((oSl 1 p51.1).bind fun c52=>((oNil p51.2).bind fun _=>some ((.agg [(.sl 1 c50),(.sl 1 c52)]),[(.agg [(.sl 1 a0_0),(.int .i64 n47)])]))))))))))))))))))))))))))):=by kernel_rfl
theorem q52.ev (n:Nat) (a0_0 a1_0 a1_1:List T):callK prog A H LIM n F.q52 [(.rref [(.sl 2 a0_0)] 0),(.rref [(.sl 1 a1_0),(.sl 1 a1_1)] 0)]=((LIM F.q0u [(.rref [(.sl 2 a0_0)] 0),(.sl 1 a1_0)]).bind fun r1=>((oNil r1.2).bind fun _=>((oInt .i64 r1.1).bind fun n2=>(bif ((n2 != (0:Int))) then some ((.int .i64 n2),[]) else ((LIM F.q0u [(.rref [(.sl 2 a0_0)] 0),(.sl 1 a1_1)]).bind fun r3=>((oNil r3.2).bind fun _=>((oInt .i64 r3.1).bind fun n4=>(bif ((n4 != (0:Int))) then some ((.int .i64 n4),[]) else ((LIM F.q25 [(.sl 1 a1_0)]).bind fun r5=>((oNil r5.2).bind fun _=>((oBool r5.1).bind fun b6=>(bif (!b6) then some ((.int .i64 (3:Int)),[]) else ((LIM F.q25 [(.sl 1 a1_1)]).bind fun r7=>((oNil r7.2).bind fun _=>((oBool r7.1).bind fun b8=>(bif (!b8) then some ((.int .i64 (3:Int)),[]) else some ((.int .i64 (0:Int)),[]))))))))))))))))):=by kernel_rfl
def q25.st0 (x0:List T) (x1:Int):St:=⟨[(0,ol 1 x0),(3,oi x1)],[]⟩
noncomputable def q25.K0 (n:Nat):Ex→St→R:=kx F.q25 n [.block 0,.seq 0 (cx F.q25 [1,1])] (endOf prog A F.q25)
noncomputable def q25.at0 (n:Nat) (m:Nat) (s:St):R:=lx F.q25 n 0 [1,0,1,0,0] (q25.K0 n) m s
noncomputable def q25.rd0 (n:Nat) (L0:St→R) (s:St):R:=rx F.q25 n 0 [1,0,1,0,0] (q25.K0 n) L0 s
theorem q25.next0 (n:Nat) (m:Nat) (s:St):q25.at0 n (m+1) s=q25.rd0 n (q25.at0 n m) s:=nx _ _ _ _ _ _ _
theorem q25.round0 (n:Nat) (L0:St→R) (x0:List T) (x1:Int):q25.rd0 n L0 (q25.st0 x0 x1)=(bif (decide (x1 < ((((x0).length / 1):Nat):Int))) then (bif inB x1 ((x0).length / 1) then ((x0[((Int.toNat x1)*1)]?).bind fun e1=>((oInt .i64 e1).bind fun n2=>(bif (decide (n2 < (-6:Int))) then some ((.bool false),[]) else (L0 (q25.st0 x0 (IntKind.wrap .i64 (x1+(1:Int)))))))) else none) else some ((.bool true),[])):=by kernel_rfl
theorem q25.ev (n:Nat) (a0:List T):callK prog A H LIM n F.q25 [(.sl 1 a0)]=(q25.at0 n n (q25.st0 a0 (0:Int))):=by kernel_rfl
def q0f.st3 (x0:List T) (x1:ByteArray) (x2 x3:Int) (x4:List T):St:=⟨[(0,(.one (.t (.rref [(.sl 2 x0)] 0)))),(1,(.one (.t (.str x1)))),(6,(.one (.obj 704))),(7,oi x2),(9,oi x3)],[(704,(.arr true true 1 x4))]⟩
def q0f.st0 (x0:List T) (x1:ByteArray) (x2:Int) (x3:List T):St:=⟨[(0,(.one (.t (.rref [(.sl 2 x0)] 0)))),(1,(.one (.t (.str x1)))),(6,(.one (.obj 704))),(7,oi x2)],[(704,(.arr true true 1 x3))]⟩
noncomputable def q0f.K0 (n:Nat):Ex→St→R:=kx F.q0f n [.block 0,.seq 0 (cx F.q0f [1,1,1,1])] (endOf prog A F.q0f)
noncomputable def q0f.at0 (n:Nat) (m:Nat) (s:St):R:=lx F.q0f n 0 [1,1,1,0,0,0] (q0f.K0 n) m s
noncomputable def q0f.rd0 (n:Nat) (L0:St→R) (s:St):R:=rx F.q0f n 0 [1,1,1,0,0,0] (q0f.K0 n) L0 s
theorem q0f.next0 (n:Nat) (m:Nat) (s:St):q0f.at0 n (m+1) s=q0f.rd0 n (q0f.at0 n m) s:=nx _ _ _ _ _ _ _
noncomputable def q0f.K3 (n:Nat) (L0:St→R):Ex→St→R:=kx F.q0f n [.block 3,.seq 2 (cx F.q0f [1,1,1,0,0,0,1,0,1,0,1,1,1,1,1,0,1,1]),.block 2,.block 1] (bx F.q0f 0 (q0f.K0 n) L0)
noncomputable def q0f.at3 (n:Nat) (L0:St→R) (m:Nat) (s:St):R:=lx F.q0f n 3 [1,1,1,0,0,0,1,0,1,0,1,1,1,1,1,0,1,0,0,0] (q0f.K3 n L0) m s
noncomputable def q0f.rd3 (n:Nat) (L0:St→R) (L3:St→R) (s:St):R:=rx F.q0f n 3 [1,1,1,0,0,0,1,0,1,0,1,1,1,1,1,0,1,0,0,0] (q0f.K3 n L0) L3 s
theorem q0f.next3 (n:Nat) (L0:St→R) (m:Nat) (s:St):q0f.at3 n L0 (m+1) s=q0f.rd3 n L0 (q0f.at3 n L0 m) s:=nx _ _ _ _ _ _ _
theorem q0f.round0 (n:Nat) (L0:St→R) (x0:List T) (x1:ByteArray) (x2:Int) (x3:List T):q0f.rd0 n L0 (q0f.st0 x0 x1 x2 x3)=(bif (decide (x2 < (x1.size:Int))) then (bif inB x2 x1.size then (bif ((((x1.data.getD (Int.toNat x2) 0).toNat:Int) == (40:Int))) then (L0 (q0f.st0 x0 x1 (IntKind.wrap .i64 (x2+(1:Int))) x3)) else (bif ((((x1.data.getD (Int.toNat x2) 0).toNat:Int) == (41:Int))) then (L0 (q0f.st0 x0 x1 (IntKind.wrap .i64 (x2+(1:Int))) x3)) else (bif ((((x1.data.getD (Int.toNat x2) 0).toNat:Int) == (44:Int))) then (L0 (q0f.st0 x0 x1 (IntKind.wrap .i64 (x2+(1:Int))) x3)) else (bif (decide (((x1.data.getD (Int.toNat x2) 0).toNat:Int) ≥ (65:Int))) then (bif (decide (((x1.data.getD (Int.toNat x2) 0).toNat:Int) < (77:Int))) then (bif Nat.ble (((x3).length+1)*8) (140737488355328*1) then (L0 (q0f.st0 x0 x1 (IntKind.wrap .i64 (x2+(1:Int))) (x3++[(.int .i64 (IntKind.wrap .i64 ((-1:Int) - (IntKind.wrap .i64 (IntKind.wrap .u8 (((x1.data.getD (Int.toNat x2) 0).toNat:Int) - (65:Int)))))))]:List T))) else none) else (bif (decide (((x1.data.getD (Int.toNat x2) 0).toNat:Int) ≥ (97:Int))) then (bif (decide (((x1.data.getD (Int.toNat x2) 0).toNat:Int)≤(122:Int))) then (q0f.at3 n L0 n (q0f.st3 x0 x1 x2 x2 x3)) else some ((.tup [(.sl 1 []),(.bool false)]),[])) else some ((.tup [(.sl 1 []),(.bool false)]),[]))) else (bif (decide (((x1.data.getD (Int.toNat x2) 0).toNat:Int) ≥ (97:Int))) then (bif (decide (((x1.data.getD (Int.toNat x2) 0).toNat:Int)≤(122:Int))) then (q0f.at3 n L0 n (q0f.st3 x0 x1 x2 x2 x3)) else some ((.tup [(.sl 1 []),(.bool false)]),[])) else some ((.tup [(.sl 1 []),(.bool false)]),[])))))) else none) else some ((.tup [(.sl 1 x3),(.bool true)]),[])):=by kernel_rfl
theorem q0f.round3 (n:Nat) (L0:St→R) (L3:St→R) (x0:List T) (x1:ByteArray) (x2 x3:Int) (x4:List T):q0f.rd3 n L0 L3 (q0f.st3 x0 x1 x2 x3 x4)=(bif (decide (x3 < (x1.size:Int))) then (bif inB x3 x1.size then (bif (decide (((x1.data.getD (Int.toNat x3) 0).toNat:Int) ≥ (97:Int))) then (bif inB x3 x1.size then (bif (decide (((x1.data.getD (Int.toNat x3) 0).toNat:Int)≤(122:Int))) then (L3 (q0f.st3 x0 x1 x2 (IntKind.wrap .i64 (x3+(1:Int))) x4)) else (bif decide (0≤x2)&&decide (x2≤x3)&&decide (x3≤(x1.size:Int)) then ((LIM F.q1k [(.rref [(.sl 2 x0)] 0),(.str (x1.extract (Int.toNat x2) (Int.toNat x3)))]).bind fun r1=>((oNil r1.2).bind fun _=>((oInt .i64 r1.1).bind fun n2=>(bif (decide (n2 < (0:Int))) then some ((.tup [(.sl 1 []),(.bool false)]),[]) else (bif Nat.ble (((x4).length+1)*8) (140737488355328*1) then (L0 (q0f.st0 x0 x1 x3 (x4++[(.int .i64 n2)]:List T))) else none))))) else none)) else none) else (bif decide (0≤x2)&&decide (x2≤x3)&&decide (x3≤(x1.size:Int)) then ((LIM F.q1k [(.rref [(.sl 2 x0)] 0),(.str (x1.extract (Int.toNat x2) (Int.toNat x3)))]).bind fun r3=>((oNil r3.2).bind fun _=>((oInt .i64 r3.1).bind fun n4=>(bif (decide (n4 < (0:Int))) then some ((.tup [(.sl 1 []),(.bool false)]),[]) else (bif Nat.ble (((x4).length+1)*8) (140737488355328*1) then (L0 (q0f.st0 x0 x1 x3 (x4++[(.int .i64 n4)]:List T))) else none))))) else none)) else none) else (bif decide (0≤x2)&&decide (x2≤x3)&&decide (x3≤(x1.size:Int)) then ((LIM F.q1k [(.rref [(.sl 2 x0)] 0),(.str (x1.extract (Int.toNat x2) (Int.toNat x3)))]).bind fun r5=>((oNil r5.2).bind fun _=>((oInt .i64 r5.1).bind fun n6=>(bif (decide (n6 < (0:Int))) then some ((.tup [(.sl 1 []),(.bool false)]),[]) else (bif Nat.ble (((x4).length+1)*8) (140737488355328*1) then (L0 (q0f.st0 x0 x1 x3 (x4++[(.int .i64 n6)]:List T))) else none))))) else none)):=by kernel_rfl
theorem q0f.ev (n:Nat) (a0_0:List T) (a1:ByteArray):callK prog A H LIM n F.q0f [(.rref [(.sl 2 a0_0)] 0),(.str a1)]=(q0f.at0 n n (q0f.st0 a0_0 a1 (0:Int) [])):=by kernel_rfl
def q18.st0 (x0 x1:List T) (x2:Int) (x3 x4:List T):St:=⟨[(0,(.one (.t (.rref [(.sl 1 x0),(.sl 1 x1)] 0)))),(2,(.one (.ptr 128 0))),(4,(.one (.obj 832))),(5,(.one (.obj 1216))),(6,oi x2)],[(128,(.box [.nil,.nil])),(832,(.arr true true 1 x3)),(1216,(.arr true true 1 x4))]⟩
noncomputable def q18.K0 (n:Nat):Ex→St→R:=kx F.q18 n [.block 0,.seq 0 (cx F.q18 [1,1,1,1])] (endOf prog A F.q18)
noncomputable def q18.at0 (n:Nat) (m:Nat) (s:St):R:=lx F.q18 n 0 [1,1,1,0,1,0,0] (q18.K0 n) m s
noncomputable def q18.rd0 (n:Nat) (L0:St→R) (s:St):R:=rx F.q18 n 0 [1,1,1,0,1,0,0] (q18.K0 n) L0 s
theorem q18.next0 (n:Nat) (m:Nat) (s:St):q18.at0 n (m+1) s=q18.rd0 n (q18.at0 n m) s:=nx _ _ _ _ _ _ _
theorem q18.round0 (n:Nat) (L0:St→R) (x0 x1:List T) (x2:Int) (x3 x4:List T):q18.rd0 n L0 (q18.st0 x0 x1 x2 x3 x4)=(bif (decide (x2 < ((((x3).length / 1):Nat):Int))) then (bif inB x2 ((x3).length / 1) then ((x3[((Int.toNat x2)*1)]?).bind fun e3=>((oInt .i64 e3).bind fun n4=>(bif (decide (n4 ≥ (0:Int))) then (L0 (q18.st0 x0 x1 (IntKind.wrap .i64 (x2+(1:Int))) x3 x4)) else (bif inB x2 ((x3).length / 1) then ((x3[((Int.toNat x2)*1)]?).bind fun e5=>((oInt .i64 e5).bind fun n6=>((LIM F.q1n [(.sl 1 x4),(.int .i64 n6)]).bind fun r7=>((oNil r7.2).bind fun _=>((oInt .i64 r7.1).bind fun n8=>(bif (decide (n8 < (0:Int))) then (bif inB x2 ((x3).length / 1) then ((x3[((Int.toNat x2)*1)]?).bind fun e9=>((oInt .i64 e9).bind fun n10=>(bif Nat.ble (((x4).length+1)*8) (140737488355328*1) then (bif inB x2 ((x3).length / 1) then (bif decide (((Int.toNat x2)*1)+1≤(x3).length) then (L0 (q18.st0 x0 x1 (IntKind.wrap .i64 (x2+(1:Int))) (setCells x3 ((Int.toNat x2)*1) [(.int .i64 (IntKind.wrap .i64 ((-1:Int) - ((((x4).length / 1):Nat):Int))))]) (x4++[(.int .i64 n10)]:List T))) else none) else none) else none))) else none) else (bif inB x2 ((x3).length / 1) then (bif decide (((Int.toNat x2)*1)+1≤(x3).length) then (L0 (q18.st0 x0 x1 (IntKind.wrap .i64 (x2+(1:Int))) (setCells x3 ((Int.toNat x2)*1) [(.int .i64 (IntKind.wrap .i64 ((-1:Int) - n8)))]) x4)) else none) else none))))))) else none)))) else none) else (bif (decide (((((x4).length / 1):Nat):Int) > (6:Int))) then some ((.tup [(.agg [(.sl 1 []),(.sl 1 [])]),(.bool false)]),[]) else (bif decide (0≤(0:Int))&&decide ((0:Int)≤((((x0).length / 1):Nat):Int))&&decide (((((x0).length / 1):Nat):Int)≤((((x3).length / 1):Nat):Int)) then ((LIM F.q2e [(.sl 1 ((x3.take ((Int.toNat ((((x0).length / 1):Nat):Int))*1)).drop (0*1)))]).bind fun r11=>((oNil r11.2).bind fun _=>((oSl 1 r11.1).bind fun c12=>(bif decide (0≤((((x0).length / 1):Nat):Int))&&decide (((((x0).length / 1):Nat):Int)≤((((x3).length / 1):Nat):Int))&&decide (((((x3).length / 1):Nat):Int)≤((((x3).length / 1):Nat):Int)) then ((LIM F.q2e [(.sl 1 ((x3.take ((Int.toNat ((((x3).length / 1):Nat):Int))*1)).drop ((Int.toNat ((((x0).length / 1):Nat):Int))*1)))]).bind fun r13=>((oNil r13.2).bind fun _=>((oSl 1 r13.1).bind fun c14=>some ((.tup [(.agg [(.sl 1 c12),(.sl 1 c14)]),(.bool true)]),[])))) else none)))) else none))):=by kernel_rfl
theorem q18.ev (n:Nat) (a0_0 a0_1:List T):callK prog A H LIM n F.q18 [(.rref [(.sl 1 a0_0),(.sl 1 a0_1)] 0)]=((LIM F.q2e [(.sl 1 a0_0)]).bind fun r1=>((oNil r1.2).bind fun _=>((oSl 1 r1.1).bind fun c2=>(bif (a0_1).all T.scalar then (bif Nat.ble (((c2).length+(a0_1).length)*8) (140737488355328*1) then (q18.at0 n n (q18.st0 a0_0 a0_1 (0:Int) (c2++a0_1:List T) [])) else none) else none)))):=by kernel_rfl
def q1t.st0 (x0:List T) (x1 x2 x3:Int) (x4:List T) (x5:Int) (x6:List T):St:=⟨[(0,(.one (.ptr 1000000 0))),(1,(.one (.t (.rref [(.sl 2 x0)] 0)))),(4,(.one (.ptr 256 0))),(5,(.one (.obj 640))),(6,oi x1),(7,oi x2),(8,oi x3)],[(1000000,(.box [(.kept 0 (.sl 1 x4)),(.t (.int .i64 x5))])),(256,(.box [.nil,.nil])),(640,(.arr true true 1 x6))]⟩
noncomputable def q1t.K0 (n:Nat):Ex→St→R:=kx F.q1t n [.block 0,.seq 0 (cx F.q1t [1,1,1,1,1])] (endOf prog A F.q1t)
noncomputable def q1t.at0 (n:Nat) (m:Nat) (s:St):R:=lx F.q1t n 0 [1,1,1,1,0,1,0,0] (q1t.K0 n) m s
noncomputable def q1t.rd0 (n:Nat) (L0:St→R) (s:St):R:=rx F.q1t n 0 [1,1,1,1,0,1,0,0] (q1t.K0 n) L0 s
theorem q1t.next0 (n:Nat) (m:Nat) (s:St):q1t.at0 n (m+1) s=q1t.rd0 n (q1t.at0 n m) s:=nx _ _ _ _ _ _ _
theorem q1t.round0 (n:Nat) (L0:St→R) (x0:List T) (x1 x2 x3:Int) (x4:List T) (x5:Int) (x6:List T):q1t.rd0 n L0 (q1t.st0 x0 x1 x2 x3 x4 x5 x6)=(bif (decide (x3 < x1)) then (bif decide (x1=0) then none else (bif inB (Int.tmod (IntKind.wrap .i64 (x2+x3)) x1) ((x6).length / 1) then ((x6[((Int.toNat (Int.tmod (IntKind.wrap .i64 (x2+x3)) x1))*1)]?).bind fun e9=>((oStr e9).bind fun s10=>((LIM F.q3x [(.agg [(.sl 2 x0)]),(.str s10)]).bind fun r11=>((oNil r11.2).bind fun _=>((oAgg r11.1).bind fun c12=>((oCons c12).bind fun p13=>((oInt .i64 p13.1).bind fun n14=>((oCons p13.2).bind fun p15=>((oSl 1 p15.1).bind fun c16=>((oCons p15.2).bind fun p17=>((oSl 1 p17.1).bind fun c18=>((oNil p17.2).bind fun _=>(bif ((n14 == (0:Int))) then some ((.agg [(.sl 1 c16),(.sl 1 c18)]),[(.agg [(.sl 1 x4),(.int .i64 x5)])]) else (L0 (q1t.st0 x0 x1 x2 (IntKind.wrap .i64 (x3+(1:Int))) x4 x5 x6))))))))))))))) else none)) else ((LIM F.q0b [(.rref [(.sl 1 x4),(.int .i64 x5)] 0),(.rref [(.sl 2 x0)] 0),(.int .i64 (4:Int)),(.int .i64 (2:Int))]).bind fun r19=>((oCons r19.2).bind fun p20=>((oNil p20.2).bind fun _=>((oAgg p20.1).bind fun c21=>((oCons c21).bind fun p22=>((oSl 1 p22.1).bind fun c23=>((oCons p22.2).bind fun p24=>((oInt .i64 p24.1).bind fun n25=>((oNil p24.2).bind fun _=>((oSl 1 r19.1).bind fun c26=>((LIM F.q0b [(.rref [(.sl 1 x4),(.int .i64 n25)] 0),(.rref [(.sl 2 x0)] 0),(.int .i64 (2:Int)),(.int .i64 (2:Int))]).bind fun r27=>((oCons r27.2).bind fun p28=>((oNil p28.2).bind fun _=>((oAgg p28.1).bind fun c29=>((oCons c29).bind fun p30=>((oSl 1 p30.1).bind fun c31=>((oCons p30.2).bind fun p32=>((oInt .i64 p32.1).bind fun n33=>((oNil p32.2).bind fun _=>((oSl 1 r27.1).bind fun c34=>some ((.agg [(.sl 1 c26),(.sl 1 c34)]),[(.agg [(.sl 1 x4),(.int .i64 n33)])])))))))))))))))))))))):=by kernel_rfl
theorem q1t.ev (n:Nat) (a0_0:List T) (a0_1:Int) (a1_0:List T):callK prog A H LIM n F.q1t [(.rref [(.sl 1 a0_0),(.int .i64 a0_1)] 0),(.rref [(.sl 2 a1_0)] 0)]=((LIM F.q1c [(.rref [(.sl 1 a0_0),(.int .i64 a0_1)] 0),(.int .i64 (18:Int))]).bind fun r1=>((oCons r1.2).bind fun p2=>((oNil p2.2).bind fun _=>((oAgg p2.1).bind fun c3=>((oCons c3).bind fun p4=>((oSl 1 p4.1).bind fun c5=>((oCons p4.2).bind fun p6=>((oInt .i64 p6.1).bind fun n7=>((oNil p6.2).bind fun _=>((oInt .i64 r1.1).bind fun n8=>(q1t.at0 n n (q1t.st0 a1_0 (18:Int) n8 (0:Int) a0_0 n7 [(.str (ByteArray.mk #[109,40,101,44,65,41,61,65])),(.str (ByteArray.mk #[109,40,65,44,101,41,61,65])),(.str (ByteArray.mk #[109,40,105,40,65,41,44,65,41,61,101])),(.str (ByteArray.mk #[105,40,105,40,65,41,41,61,65])),(.str (ByteArray.mk #[105,40,101,41,61,101])),(.str (ByteArray.mk #[97,100,100,40,97,44,65,41,61,65])),(.str (ByteArray.mk #[97,100,100,40,115,117,99,40,65,41,44,66,41,61,115,117,99,40,97,100,100,40,65,44,66,41,41])),(.str (ByteArray.mk #[102,40,103,40,65,41,41,61,65])),(.str (ByteArray.mk #[102,40,102,40,65,41,41,61,65])),(.str (ByteArray.mk #[103,40,102,40,97,41,41,61,97])),(.str (ByteArray.mk #[109,40,109,40,65,44,66,41,44,67,41,61,109,40,65,44,109,40,66,44,67,41,41])),(.str (ByteArray.mk #[115,117,99,40,115,117,99,40,65,41,41,61,65])),(.str (ByteArray.mk #[98,61,97])),(.str (ByteArray.mk #[109,40,97,44,97,41,61,97])),(.str (ByteArray.mk #[97,100,100,40,65,44,98,41,61,65])),(.str (ByteArray.mk #[115,117,99,40,98,41,61,97])),(.str (ByteArray.mk #[102,40,102,40,102,40,97,41,41,41,61,97])),(.str (ByteArray.mk #[105,40,109,40,65,44,66,41,41,61,109,40,105,40,66,41,44,105,40,65,41,41]))])))))))))))):=by kernel_rfl
theorem q5q.ev (n:Nat) (a0_0:List T) (a1:ByteArray):callK prog A H LIM n F.q5q [(.rref [(.sl 2 a0_0)] 0),(.str a1)]=(bif (decide ((a1.size:Int) > (168:Int))) then some ((.sl 1 []),[]) else ((LIM F.q0f [(.rref [(.sl 2 a0_0)] 0),(.str a1)]).bind fun r1=>((oNil r1.2).bind fun _=>((oTup r1.1).bind fun c2=>((oCons c2).bind fun p3=>((oSl 1 p3.1).bind fun c4=>((oCons p3.2).bind fun p5=>((oBool p5.1).bind fun b6=>((oNil p5.2).bind fun _=>(bif (!b6) then some ((.sl 1 []),[]) else ((LIM F.q0u [(.rref [(.sl 2 a0_0)] 0),(.sl 1 c4)]).bind fun r7=>((oNil r7.2).bind fun _=>((oInt .i64 r7.1).bind fun n8=>(bif ((n8 != (0:Int))) then some ((.sl 1 []),[]) else ((LIM F.q1s [(.rref [(.sl 2 a0_0)] 0),(.sl 1 c4),(.int .i64 (0:Int))]).bind fun r9=>((oNil r9.2).bind fun _=>((oStr r9.1).bind fun s10=>(bif (!(s10.toList == a1.toList)) then some ((.sl 1 []),[]) else some ((.sl 1 c4),[]))))))))))))))))))):=by kernel_rfl
def q1s.st0 (x0 x1:List T) (x2:ByteArray) (x3 x4:Int) (x5:ByteArray) (x6:Int):St:=⟨[(0,(.one (.t (.rref [(.sl 2 x0)] 0)))),(1,ol 1 x1),(7,(.one (.ptr 448 0))),(8,(.one (.t (.str x2)))),(9,oi x3),(10,oi x4)],[(448,(.box [(.t (.str x5)),(.t (.int .i64 x6))]))]⟩
noncomputable def q1s.K0 (n:Nat):Ex→St→R:=kx F.q1s n [.block 0,.seq 0 (cx F.q1s [1,1,1,1,1,1,1])] (endOf prog A F.q1s)
noncomputable def q1s.at0 (n:Nat) (m:Nat) (s:St):R:=lx F.q1s n 0 [1,1,1,1,1,1,0,1,0,0] (q1s.K0 n) m s
noncomputable def q1s.rd0 (n:Nat) (L0:St→R) (s:St):R:=rx F.q1s n 0 [1,1,1,1,1,1,0,1,0,0] (q1s.K0 n) L0 s
theorem q1s.next0 (n:Nat) (m:Nat) (s:St):q1s.at0 n (m+1) s=q1s.rd0 n (q1s.at0 n m) s:=nx _ _ _ _ _ _ _
theorem q1s.round0 (n:Nat) (L0:St→R) (x0 x1:List T) (x2:ByteArray) (x3 x4:Int) (x5:ByteArray) (x6:Int):q1s.rd0 n L0 (q1s.st0 x0 x1 x2 x3 x4 x5 x6)=(bif (decide (x4 < x6)) then (bif (decide (x4 > (0:Int))) then (bif decide (x2.size+(ByteArray.mk #[44]).size≤9223372036854775807) then ((LIM F.q1s [(.rref [(.sl 2 x0)] 0),(.sl 1 x1),(.int .i64 x3)]).bind fun r11=>((oNil r11.2).bind fun _=>((oStr r11.1).bind fun s12=>(bif decide ((x2++(ByteArray.mk #[44])).size+s12.size≤9223372036854775807) then ((LIM F.q1l [(.rref [(.sl 2 x0)] 0),(.sl 1 x1),(.int .i64 x3)]).bind fun r13=>((oNil r13.2).bind fun _=>((oInt .i64 r13.1).bind fun n14=>(L0 (q1s.st0 x0 x1 ((x2++(ByteArray.mk #[44]))++s12) n14 (IntKind.wrap .i64 (x4+(1:Int))) x5 x6))))) else none)))) else none) else ((LIM F.q1s [(.rref [(.sl 2 x0)] 0),(.sl 1 x1),(.int .i64 x3)]).bind fun r15=>((oNil r15.2).bind fun _=>((oStr r15.1).bind fun s16=>(bif decide (x2.size+s16.size≤9223372036854775807) then ((LIM F.q1l [(.rref [(.sl 2 x0)] 0),(.sl 1 x1),(.int .i64 x3)]).bind fun r17=>((oNil r17.2).bind fun _=>((oInt .i64 r17.1).bind fun n18=>(L0 (q1s.st0 x0 x1 (x2++s16) n18 (IntKind.wrap .i64 (x4+(1:Int))) x5 x6))))) else none))))) else (bif decide (x2.size+(ByteArray.mk #[41]).size≤9223372036854775807) then some ((.str (x2++(ByteArray.mk #[41]))),[]) else none)):=by kernel_rfl
theorem q1s.ev (n:Nat) (a0_0 a1:List T) (a2:Int):callK prog A H LIM n F.q1s [(.rref [(.sl 2 a0_0)] 0),(.sl 1 a1),(.int .i64 a2)]=(bif inB a2 ((a1).length / 1) then ((a1[((Int.toNat a2)*1)]?).bind fun e1=>((oInt .i64 e1).bind fun n2=>(bif (decide (n2 < (0:Int))) then (bif inB a2 ((a1).length / 1) then ((a1[((Int.toNat a2)*1)]?).bind fun e3=>((oInt .i64 e3).bind fun n4=>some ((.str (List.foldl (fun r n=>ByteArray.push r (UInt8.ofNat (Int.toNat n))) ByteArray.empty [(IntKind.wrap .u8 (IntKind.wrap .i64 ((64:Int) - n4)))])),[]))) else none) else (bif inB a2 ((a1).length / 1) then ((a1[((Int.toNat a2)*1)]?).bind fun e5=>((oInt .i64 e5).bind fun n6=>(bif inB n6 ((a0_0).length / 2) then ((a0_0[((Int.toNat n6)*2)]?).bind fun e7=>((oStr e7).bind fun s8=>((a0_0[(((Int.toNat n6)*2)+1)]?).bind fun e9=>((oInt .i64 e9).bind fun n10=>(bif ((n10 == (0:Int))) then some ((.str s8),[]) else (bif decide (s8.size+(ByteArray.mk #[40]).size≤9223372036854775807) then (q1s.at0 n n (q1s.st0 a0_0 a1 (s8++(ByteArray.mk #[40])) (IntKind.wrap .i64 (a2+(1:Int))) (0:Int) s8 n10)) else none)))))) else none))) else none)))) else none):=by kernel_rfl
def q1e.st0 (x0 x1:List T) (x2:Int):St:=⟨[(0,(.one (.t (.rref [(.sl 2 x0)] 0)))),(1,ol 2 x1),(5,oi x2)],[]⟩
noncomputable def q1e.K0 (n:Nat):Ex→St→R:=kx F.q1e n [.block 0,.seq 0 (cx F.q1e [1,1,1])] (endOf prog A F.q1e)
noncomputable def q1e.at0 (n:Nat) (m:Nat) (s:St):R:=lx F.q1e n 0 [1,1,0,1,0,0] (q1e.K0 n) m s
noncomputable def q1e.rd0 (n:Nat) (L0:St→R) (s:St):R:=rx F.q1e n 0 [1,1,0,1,0,0] (q1e.K0 n) L0 s
theorem q1e.next0 (n:Nat) (m:Nat) (s:St):q1e.at0 n (m+1) s=q1e.rd0 n (q1e.at0 n m) s:=nx _ _ _ _ _ _ _
theorem q1e.round0 (n:Nat) (L0:St→R) (x0 x1:List T) (x2:Int):q1e.rd0 n L0 (q1e.st0 x0 x1 x2)=(bif (decide (x2 < ((((x1).length / 2):Nat):Int))) then (bif inB x2 ((x1).length / 2) then ((LIM F.q52 [(.rref [(.sl 2 x0)] 0),(.rref ((x1.drop ((Int.toNat x2)*2)).take 2) 0)]).bind fun r1=>((oNil r1.2).bind fun _=>((oInt .i64 r1.1).bind fun n2=>(bif ((n2 != (0:Int))) then some ((.int .i64 n2),[]) else (L0 (q1e.st0 x0 x1 (IntKind.wrap .i64 (x2+(1:Int))))))))) else none) else some ((.int .i64 (0:Int)),[])):=by kernel_rfl
theorem q1e.ev (n:Nat) (a0_0 a1:List T):callK prog A H LIM n F.q1e [(.rref [(.sl 2 a0_0)] 0),(.sl 2 a1)]=(bif (decide (((((a1).length / 2):Nat):Int) > (12:Int))) then some ((.int .i64 (2:Int)),[]) else (q1e.at0 n n (q1e.st0 a0_0 a1 (0:Int)))):=by kernel_rfl
def q17.st0 (x0 x1 x2:List T) (x3:Int) (x4:List T):St:=⟨[(0,(.one (.t (.rref [(.sl 1 x0),(.sl 1 x1)] 0)))),(1,ol 1 x2),(5,(.one (.obj 512))),(6,oi x3)],[(512,(.arr true true 1 x4))]⟩
noncomputable def q17.K0 (n:Nat):Ex→St→R:=kx F.q17 n [.block 0,.seq 0 (cx F.q17 [1,1,1])] (endOf prog A F.q17)
noncomputable def q17.at0 (n:Nat) (m:Nat) (s:St):R:=lx F.q17 n 0 [1,1,0,1,0,0] (q17.K0 n) m s
noncomputable def q17.rd0 (n:Nat) (L0:St→R) (s:St):R:=rx F.q17 n 0 [1,1,0,1,0,0] (q17.K0 n) L0 s
theorem q17.next0 (n:Nat) (m:Nat) (s:St):q17.at0 n (m+1) s=q17.rd0 n (q17.at0 n m) s:=nx _ _ _ _ _ _ _
theorem q17.round0 (n:Nat) (L0:St→R) (x0 x1 x2:List T) (x3:Int) (x4:List T):q17.rd0 n L0 (q17.st0 x0 x1 x2 x3 x4)=(bif (decide (x3 < ((((x2).length / 1):Nat):Int))) then (bif inB x3 ((x2).length / 1) then ((x2[((Int.toNat x3)*1)]?).bind fun e1=>((oInt .i64 e1).bind fun n2=>(bif (decide (n2 < (0:Int))) then (bif inB x3 ((x2).length / 1) then ((x2[((Int.toNat x3)*1)]?).bind fun e3=>((oInt .i64 e3).bind fun n4=>((LIM F.q1y [(.rref [(.sl 1 x0),(.sl 1 x1)] 0),(.int .i64 (IntKind.wrap .i64 ((-1:Int) - n4)))]).bind fun r5=>((oNil r5.2).bind fun _=>((oSl 1 r5.1).bind fun c6=>(bif (c6).all T.scalar then (bif ((((((c6).length / 1):Nat):Int) == (0:Int))) then (bif inB x3 ((x2).length / 1) then ((x2[((Int.toNat x3)*1)]?).bind fun e7=>((oInt .i64 e7).bind fun n8=>(bif Nat.ble (((x4).length+1)*8) (140737488355328*1) then (L0 (q17.st0 x0 x1 x2 (IntKind.wrap .i64 (x3+(1:Int))) (x4++[(.int .i64 n8)]:List T))) else none))) else none) else (bif (c6).all T.scalar then (bif Nat.ble (((x4).length+(c6).length)*8) (140737488355328*1) then (L0 (q17.st0 x0 x1 x2 (IntKind.wrap .i64 (x3+(1:Int))) (x4++c6:List T))) else none) else none)) else none)))))) else none) else (bif inB x3 ((x2).length / 1) then ((x2[((Int.toNat x3)*1)]?).bind fun e9=>((oInt .i64 e9).bind fun n10=>(bif Nat.ble (((x4).length+1)*8) (140737488355328*1) then (L0 (q17.st0 x0 x1 x2 (IntKind.wrap .i64 (x3+(1:Int))) (x4++[(.int .i64 n10)]:List T))) else none))) else none)))) else none) else some ((.sl 1 x4),[])):=by kernel_rfl
theorem q17.ev (n:Nat) (a0_0 a0_1 a1:List T):callK prog A H LIM n F.q17 [(.rref [(.sl 1 a0_0),(.sl 1 a0_1)] 0),(.sl 1 a1)]=(q17.at0 n n (q17.st0 a0_0 a0_1 a1 (0:Int) [])):=by kernel_rfl
def q1o.st0 (x0:List T) (x1 x2:Int) (x3:List T) (x4:Int) (x5 x6:List T):St:=⟨[(0,(.one (.ptr 1000000 0))),(1,(.one (.t (.rref [(.sl 2 x0)] 0)))),(2,oi x1),(6,(.one (.ptr 384 0))),(7,(.one (.ptr 448 0))),(8,oi x2)],[(1000000,(.box [(.kept 0 (.sl 1 x3)),(.t (.int .i64 x4))])),(384,(.box [.nil,.nil])),(448,(.box [(.obj 517168),(.obj 517169)])),(517168,(.arr true true 1 x5)),(517169,(.arr true true 1 x6))]⟩
noncomputable def q1o.K0 (n:Nat):Ex→St→R:=kx F.q1o n [.block 0,.seq 0 (cx F.q1o [1,1,1])] (endOf prog A F.q1o)
noncomputable def q1o.at0 (n:Nat) (m:Nat) (s:St):R:=lx F.q1o n 0 [1,1,0,1,0,0] (q1o.K0 n) m s
noncomputable def q1o.rd0 (n:Nat) (L0:St→R) (s:St):R:=rx F.q1o n 0 [1,1,0,1,0,0] (q1o.K0 n) L0 s
theorem q1o.next0 (n:Nat) (m:Nat) (s:St):q1o.at0 n (m+1) s=q1o.rd0 n (q1o.at0 n m) s:=nx _ _ _ _ _ _ _
theorem q1o.round0 (n:Nat) (L0:St→R) (x0:List T) (x1 x2:Int) (x3:List T) (x4:Int) (x5 x6:List T):q1o.rd0 n L0 (q1o.st0 x0 x1 x2 x3 x4 x5 x6)=(bif (decide (x2 < x1)) then ((LIM F.q27 [(.rref [(.sl 1 x3),(.int .i64 x4)] 0),(.int .i64 (3:Int))]).bind fun r1=>((oCons r1.2).bind fun p2=>((oNil p2.2).bind fun _=>((oAgg p2.1).bind fun c3=>((oCons c3).bind fun p4=>((oSl 1 p4.1).bind fun c5=>((oCons p4.2).bind fun p6=>((oInt .i64 p6.1).bind fun n7=>((oNil p6.2).bind fun _=>((oBool r1.1).bind fun b8=>(bif (!b8) then (bif Nat.ble (((x5).length+1)*8) (140737488355328*1) then ((LIM F.q29 [(.rref [(.sl 1 x3),(.int .i64 n7)] 0),(.sl 1 [(.int .i64 (1:Int)),(.int .i64 (3:Int)),(.int .i64 (4:Int))])]).bind fun r9=>((oCons r9.2).bind fun p10=>((oNil p10.2).bind fun _=>((oAgg p10.1).bind fun c11=>((oCons c11).bind fun p12=>((oSl 1 p12.1).bind fun c13=>((oCons p12.2).bind fun p14=>((oInt .i64 p14.1).bind fun n15=>((oNil p14.2).bind fun _=>((oInt .i64 r9.1).bind fun n16=>((LIM F.q0b [(.rref [(.sl 1 x3),(.int .i64 n15)] 0),(.rref [(.sl 2 x0)] 0),(.int .i64 n16),(.int .i64 (4:Int))]).bind fun r17=>((oCons r17.2).bind fun p18=>((oNil p18.2).bind fun _=>((oAgg p18.1).bind fun c19=>((oCons c19).bind fun p20=>((oSl 1 p20.1).bind fun c21=>((oCons p20.2).bind fun p22=>((oInt .i64 p22.1).bind fun n23=>((oNil p22.2).bind fun _=>((oSl 1 r17.1).bind fun c24=>(bif Nat.ble (((x6).length+1)*24) (140737488355328*1) then (L0 (q1o.st0 x0 x1 (IntKind.wrap .i64 (x2+(1:Int))) x3 n23 (x5++[(.int .i64 x2)]:List T) (x6++[(.sl 1 c24)]:List T))) else none))))))))))))))))))))) else none) else (L0 (q1o.st0 x0 x1 (IntKind.wrap .i64 (x2+(1:Int))) x3 n7 x5 x6))))))))))))) else some ((.agg [(.sl 1 x5),(.sl 1 x6)]),[(.agg [(.sl 1 x3),(.int .i64 x4)])])):=by kernel_rfl
theorem q1o.ev (n:Nat) (a0_0:List T) (a0_1:Int) (a1_0:List T) (a2:Int):callK prog A H LIM n F.q1o [(.rref [(.sl 1 a0_0),(.int .i64 a0_1)] 0),(.rref [(.sl 2 a1_0)] 0),(.int .i64 a2)]=(q1o.at0 n n (q1o.st0 a1_0 a2 (0:Int) a0_0 a0_1 [] [])):=by kernel_rfl
def q10.st0 (x0 x1 x2:List T) (x3 x4:Int) (x5 x6:List T):St:=⟨[(0,(.one (.t (.rref [(.sl 2 x0)] 0)))),(1,ol 1 x1),(2,ol 1 x2),(3,oi x3),(8,(.one (.ptr 512 0))),(10,(.one (.ptr 640 0))),(11,oi x4)],[(512,(.box [.nil,.nil])),(640,(.box [(.obj 520240),(.obj 520241)])),(520240,(.arr true true 1 x5)),(520241,(.arr true true 1 x6))]⟩
noncomputable def q10.K0 (n:Nat):Ex→St→R:=kx F.q10 n [.block 0,.seq 0 (cx F.q10 [1,1,1])] (endOf prog A F.q10)
noncomputable def q10.at0 (n:Nat) (m:Nat) (s:St):R:=lx F.q10 n 0 [1,1,0,1,0,0] (q10.K0 n) m s
noncomputable def q10.rd0 (n:Nat) (L0:St→R) (s:St):R:=rx F.q10 n 0 [1,1,0,1,0,0] (q10.K0 n) L0 s
theorem q10.next0 (n:Nat) (m:Nat) (s:St):q10.at0 n (m+1) s=q10.rd0 n (q10.at0 n m) s:=nx _ _ _ _ _ _ _
theorem q10.round0 (n:Nat) (L0:St→R) (x0 x1 x2:List T) (x3 x4:Int) (x5 x6:List T):q10.rd0 n L0 (q10.st0 x0 x1 x2 x3 x4 x5 x6)=(bif (decide (x4 < ((((x1).length / 1):Nat):Int))) then (bif (decide (x3 ≥ ((((x2).length / 1):Nat):Int))) then some ((.tup [(.agg [(.sl 1 []),(.sl 1 [])]),(.bool false)]),[]) else (bif inB x4 ((x1).length / 1) then ((x1[((Int.toNat x4)*1)]?).bind fun e1=>((oInt .i64 e1).bind fun n2=>(bif (decide (n2 ≥ (0:Int))) then (bif inB x3 ((x2).length / 1) then ((x2[((Int.toNat x3)*1)]?).bind fun e3=>((oInt .i64 e3).bind fun n4=>(bif inB x4 ((x1).length / 1) then ((x1[((Int.toNat x4)*1)]?).bind fun e5=>((oInt .i64 e5).bind fun n6=>(bif ((n4 != n6)) then some ((.tup [(.agg [(.sl 1 []),(.sl 1 [])]),(.bool false)]),[]) else (L0 (q10.st0 x0 x1 x2 (IntKind.wrap .i64 (x3+(1:Int))) (IntKind.wrap .i64 (x4+(1:Int))) x5 x6))))) else none))) else none) else ((LIM F.q79 [(.rref [(.sl 2 x0)] 0),(.sl 1 x2),(.int .i64 x3)]).bind fun r7=>((oNil r7.2).bind fun _=>((oSl 1 r7.1).bind fun c8=>(bif inB x4 ((x1).length / 1) then ((x1[((Int.toNat x4)*1)]?).bind fun e9=>((oInt .i64 e9).bind fun n10=>((LIM F.q1y [(.rref [(.sl 1 x5),(.sl 1 x6)] 0),(.int .i64 (IntKind.wrap .i64 ((-1:Int) - n10)))]).bind fun r11=>((oNil r11.2).bind fun _=>((oSl 1 r11.1).bind fun c12=>(bif (c12).all T.scalar then (bif ((((((c12).length / 1):Nat):Int) == (0:Int))) then (bif inB x4 ((x1).length / 1) then ((x1[((Int.toNat x4)*1)]?).bind fun e13=>((oInt .i64 e13).bind fun n14=>((LIM F.q1f [(.rref [(.sl 1 x5),(.sl 1 x6)] 0),(.int .i64 (IntKind.wrap .i64 ((-1:Int) - n14))),(.sl 1 c8)]).bind fun r15=>((oNil r15.2).bind fun _=>((oAgg r15.1).bind fun c16=>((oCons c16).bind fun p17=>((oSl 1 p17.1).bind fun c18=>((oCons p17.2).bind fun p19=>((oSl 1 p19.1).bind fun c20=>((oNil p19.2).bind fun _=>(L0 (q10.st0 x0 x1 x2 (IntKind.wrap .i64 (x3+((((c8).length / 1):Nat):Int))) (IntKind.wrap .i64 (x4+(1:Int))) c18 c20)))))))))))) else none) else ((LIM F.q1p [(.sl 1 c12),(.sl 1 c8)]).bind fun r21=>((oNil r21.2).bind fun _=>((oBool r21.1).bind fun b22=>(bif (!b22) then some ((.tup [(.agg [(.sl 1 []),(.sl 1 [])]),(.bool false)]),[]) else (L0 (q10.st0 x0 x1 x2 (IntKind.wrap .i64 (x3+((((c8).length / 1):Nat):Int))) (IntKind.wrap .i64 (x4+(1:Int))) x5 x6))))))) else none)))))) else none))))))) else none)) else some ((.tup [(.agg [(.sl 1 x5),(.sl 1 x6)]),(.bool true)]),[])):=by kernel_rfl
theorem q10.ev (n:Nat) (a0_0 a1 a2:List T) (a3:Int):callK prog A H LIM n F.q10 [(.rref [(.sl 2 a0_0)] 0),(.sl 1 a1),(.sl 1 a2),(.int .i64 a3)]=(q10.at0 n n (q10.st0 a0_0 a1 a2 a3 (0:Int) [] [])):=by kernel_rfl
def q1y.st0 (x0 x1:List T) (x2 x3:Int):St:=⟨[(0,(.one (.t (.rref [(.sl 1 x0),(.sl 1 x1)] 0)))),(1,oi x2),(5,oi x3)],[]⟩
noncomputable def q1y.K0 (n:Nat):Ex→St→R:=kx F.q1y n [.block 0,.seq 0 (cx F.q1y [1,1])] (endOf prog A F.q1y)
noncomputable def q1y.at0 (n:Nat) (m:Nat) (s:St):R:=lx F.q1y n 0 [1,0,1,0,0] (q1y.K0 n) m s
noncomputable def q1y.rd0 (n:Nat) (L0:St→R) (s:St):R:=rx F.q1y n 0 [1,0,1,0,0] (q1y.K0 n) L0 s
theorem q1y.next0 (n:Nat) (m:Nat) (s:St):q1y.at0 n (m+1) s=q1y.rd0 n (q1y.at0 n m) s:=nx _ _ _ _ _ _ _
theorem q1y.round0 (n:Nat) (L0:St→R) (x0 x1:List T) (x2 x3:Int):q1y.rd0 n L0 (q1y.st0 x0 x1 x2 x3)=(bif (decide (x3 < ((((x0).length / 1):Nat):Int))) then (bif inB x3 ((x0).length / 1) then ((x0[((Int.toNat x3)*1)]?).bind fun e1=>((oInt .i64 e1).bind fun n2=>(bif ((n2 == x2)) then (bif inB x3 ((x1).length / 1) then ((x1[((Int.toNat x3)*1)]?).bind fun e3=>((oSl 1 e3).bind fun c4=>some ((.sl 1 c4),[]))) else none) else (L0 (q1y.st0 x0 x1 x2 (IntKind.wrap .i64 (x3+(1:Int)))))))) else none) else some ((.sl 1 []),[])):=by kernel_rfl
theorem q1y.ev (n:Nat) (a0_0 a0_1:List T) (a1:Int):callK prog A H LIM n F.q1y [(.rref [(.sl 1 a0_0),(.sl 1 a0_1)] 0),(.int .i64 a1)]=(q1y.at0 n n (q1y.st0 a0_0 a0_1 a1 (0:Int))):=by kernel_rfl
def q1f.st0 (x0 x1:List T) (x2:Int) (x3:List T) (x4:Bool) (x5:Int) (x6 x7:List T):St:=⟨[(0,(.one (.t (.rref [(.sl 1 x0),(.sl 1 x1)] 0)))),(1,oi x2),(2,ol 1 x3),(6,(.one (.ptr 384 0))),(7,(.one (.ptr 448 0))),(8,(.one (.t (.bool x4)))),(9,oi x5)],[(384,(.box [.nil,.nil])),(448,(.box [(.obj 517168),(.obj 517169)])),(517168,(.arr true true 1 x6)),(517169,(.arr true true 1 x7))]⟩
noncomputable def q1f.K0 (n:Nat):Ex→St→R:=kx F.q1f n [.block 0,.seq 0 (cx F.q1f [1,1,1,1])] (endOf prog A F.q1f)
noncomputable def q1f.at0 (n:Nat) (m:Nat) (s:St):R:=lx F.q1f n 0 [1,1,1,0,1,0,0] (q1f.K0 n) m s
noncomputable def q1f.rd0 (n:Nat) (L0:St→R) (s:St):R:=rx F.q1f n 0 [1,1,1,0,1,0,0] (q1f.K0 n) L0 s
theorem q1f.next0 (n:Nat) (m:Nat) (s:St):q1f.at0 n (m+1) s=q1f.rd0 n (q1f.at0 n m) s:=nx _ _ _ _ _ _ _
theorem q1f.round0 (n:Nat) (L0:St→R) (x0 x1:List T) (x2:Int) (x3:List T) (x4:Bool) (x5:Int) (x6 x7:List T):q1f.rd0 n L0 (q1f.st0 x0 x1 x2 x3 x4 x5 x6 x7)=(bif (decide (x5 < ((((x0).length / 1):Nat):Int))) then (bif (!x4) then (bif inB x5 ((x0).length / 1) then ((x0[((Int.toNat x5)*1)]?).bind fun e1=>((oInt .i64 e1).bind fun n2=>(bif (decide (n2 > x2)) then (bif Nat.ble (((x6).length+1)*8) (140737488355328*1) then ((LIM F.q2e [(.sl 1 x3)]).bind fun r3=>((oNil r3.2).bind fun _=>((oSl 1 r3.1).bind fun c4=>(bif Nat.ble (((x7).length+1)*24) (140737488355328*1) then (bif inB x5 ((x0).length / 1) then ((x0[((Int.toNat x5)*1)]?).bind fun e5=>((oInt .i64 e5).bind fun n6=>(bif Nat.ble ((((x6++[(.int .i64 x2)]:List T)).length+1)*8) (140737488355328*1) then (bif inB x5 ((x1).length / 1) then ((x1[((Int.toNat x5)*1)]?).bind fun e7=>((oSl 1 e7).bind fun c8=>((LIM F.q2e [(.sl 1 c8)]).bind fun r9=>((oNil r9.2).bind fun _=>((oSl 1 r9.1).bind fun c10=>(bif Nat.ble ((((x7++[(.sl 1 c4)]:List T)).length+1)*24) (140737488355328*1) then (L0 (q1f.st0 x0 x1 x2 x3 true (IntKind.wrap .i64 (x5+(1:Int))) ((x6++[(.int .i64 x2)]:List T)++[(.int .i64 n6)]:List T) ((x7++[(.sl 1 c4)]:List T)++[(.sl 1 c10)]:List T))) else none)))))) else none) else none))) else none) else none)))) else none) else (bif inB x5 ((x0).length / 1) then ((x0[((Int.toNat x5)*1)]?).bind fun e11=>((oInt .i64 e11).bind fun n12=>(bif Nat.ble (((x6).length+1)*8) (140737488355328*1) then (bif inB x5 ((x1).length / 1) then ((x1[((Int.toNat x5)*1)]?).bind fun e13=>((oSl 1 e13).bind fun c14=>((LIM F.q2e [(.sl 1 c14)]).bind fun r15=>((oNil r15.2).bind fun _=>((oSl 1 r15.1).bind fun c16=>(bif Nat.ble (((x7).length+1)*24) (140737488355328*1) then (L0 (q1f.st0 x0 x1 x2 x3 x4 (IntKind.wrap .i64 (x5+(1:Int))) (x6++[(.int .i64 n12)]:List T) (x7++[(.sl 1 c16)]:List T))) else none)))))) else none) else none))) else none)))) else none) else (bif inB x5 ((x0).length / 1) then ((x0[((Int.toNat x5)*1)]?).bind fun e17=>((oInt .i64 e17).bind fun n18=>(bif Nat.ble (((x6).length+1)*8) (140737488355328*1) then (bif inB x5 ((x1).length / 1) then ((x1[((Int.toNat x5)*1)]?).bind fun e19=>((oSl 1 e19).bind fun c20=>((LIM F.q2e [(.sl 1 c20)]).bind fun r21=>((oNil r21.2).bind fun _=>((oSl 1 r21.1).bind fun c22=>(bif Nat.ble (((x7).length+1)*24) (140737488355328*1) then (L0 (q1f.st0 x0 x1 x2 x3 x4 (IntKind.wrap .i64 (x5+(1:Int))) (x6++[(.int .i64 n18)]:List T) (x7++[(.sl 1 c22)]:List T))) else none)))))) else none) else none))) else none)) else (bif (!x4) then (bif Nat.ble (((x6).length+1)*8) (140737488355328*1) then ((LIM F.q2e [(.sl 1 x3)]).bind fun r23=>((oNil r23.2).bind fun _=>((oSl 1 r23.1).bind fun c24=>(bif Nat.ble (((x7).length+1)*24) (140737488355328*1) then some ((.agg [(.sl 1 (x6++[(.int .i64 x2)]:List T)),(.sl 1 (x7++[(.sl 1 c24)]:List T))]),[]) else none)))) else none) else some ((.agg [(.sl 1 x6),(.sl 1 x7)]),[]))):=by kernel_rfl
theorem q1f.ev (n:Nat) (a0_0 a0_1:List T) (a1:Int) (a2:List T):callK prog A H LIM n F.q1f [(.rref [(.sl 1 a0_0),(.sl 1 a0_1)] 0),(.int .i64 a1),(.sl 1 a2)]=(q1f.at0 n n (q1f.st0 a0_0 a0_1 a1 a2 false (0:Int) [] [])):=by kernel_rfl
def q0p.st0 (x0:Int) (x1:List T) (x2:Int) (x3:List T):St:=⟨[(0,(.one (.ptr 1000000 0))),(7,(.one (.obj 1152))),(8,oi x0)],[(1000000,(.box [(.kept 0 (.sl 1 x1)),(.t (.int .i64 x2))])),(1152,(.arr true true 2 x3))]⟩
noncomputable def q0p.K0 (n:Nat):Ex→St→R:=kx F.q0p n [.block 0,.seq 0 (cx F.q0p [1,1,1,1,1])] (endOf prog A F.q0p)
noncomputable def q0p.at0 (n:Nat) (m:Nat) (s:St):R:=lx F.q0p n 0 [1,1,1,1,0,1,0,1,0,0] (q0p.K0 n) m s
noncomputable def q0p.rd0 (n:Nat) (L0:St→R) (s:St):R:=rx F.q0p n 0 [1,1,1,1,0,1,0,1,0,0] (q0p.K0 n) L0 s
theorem q0p.next0 (n:Nat) (m:Nat) (s:St):q0p.at0 n (m+1) s=q0p.rd0 n (q0p.at0 n m) s:=nx _ _ _ _ _ _ _
theorem q0p.round0 (n:Nat) (L0:St→R) (x0:Int) (x1:List T) (x2:Int) (x3:List T):q0p.rd0 n L0 (q0p.st0 x0 x1 x2 x3)=(bif (decide (((((x3).length / 2):Nat):Int) < x0)) then (bif inB (0:Int) ((x3).length / 2) then ((LIM F.q7c [(.rref ((x3.drop 0).take 2) 0)]).bind fun r47=>((oNil r47.2).bind fun _=>((oAgg r47.1).bind fun c48=>((oCons c48).bind fun p49=>((oSl 1 p49.1).bind fun c50=>((oCons p49.2).bind fun p51=>((oSl 1 p51.1).bind fun c52=>((oNil p51.2).bind fun _=>(bif Nat.ble (((x3).length+2)*48) (140737488355328*2) then (L0 (q0p.st0 x0 x1 x2 (x3++[(.sl 1 c50),(.sl 1 c52)]:List T))) else none))))))))) else none) else some ((.sl 2 x3),[(.agg [(.sl 1 x1),(.int .i64 x2)])])):=by kernel_rfl
theorem q0p.ev (n:Nat) (a0_0:List T) (a0_1:Int) (a1_0 a2:List T):callK prog A H LIM n F.q0p [(.rref [(.sl 1 a0_0),(.int .i64 a0_1)] 0),(.rref [(.sl 2 a1_0)] 0),(.sl 1 a2)]=((LIM F.q3h [(.agg [(.sl 2 a1_0)]),(.sl 1 a2)]).bind fun r1=>((oNil r1.2).bind fun _=>((oInt .i64 r1.1).bind fun n2=>(bif ((n2 != (0:Int))) then some ((.sl 2 []),[(.agg [(.sl 1 a0_0),(.int .i64 a0_1)])]) else ((LIM F.q15 [(.rref [(.sl 1 a0_0),(.int .i64 a0_1)] 0),(.rref [(.sl 2 a1_0)] 0),(.sl 1 a2),(.int .i64 (5:Int))]).bind fun r3=>((oCons r3.2).bind fun p4=>((oNil p4.2).bind fun _=>((oAgg p4.1).bind fun c5=>((oCons c5).bind fun p6=>((oSl 1 p6.1).bind fun c7=>((oCons p6.2).bind fun p8=>((oInt .i64 p8.1).bind fun n9=>((oNil p8.2).bind fun _=>((oSl 2 r3.1).bind fun c10=>((LIM F.q27 [(.rref [(.sl 1 a0_0),(.int .i64 n9)] 0),(.int .i64 (8:Int))]).bind fun r11=>((oCons r11.2).bind fun p12=>((oNil p12.2).bind fun _=>((oAgg p12.1).bind fun c13=>((oCons c13).bind fun p14=>((oSl 1 p14.1).bind fun c15=>((oCons p14.2).bind fun p16=>((oInt .i64 p16.1).bind fun n17=>((oNil p16.2).bind fun _=>((oBool r11.1).bind fun b18=>(bif b18 then ((LIM F.q3g [(.rref [(.sl 1 a0_0),(.int .i64 n17)] 0),(.rref [(.sl 2 a1_0)] 0)]).bind fun r19=>((oCons r19.2).bind fun p20=>((oNil p20.2).bind fun _=>((oAgg p20.1).bind fun c21=>((oCons c21).bind fun p22=>((oSl 1 p22.1).bind fun c23=>((oCons p22.2).bind fun p24=>((oInt .i64 p24.1).bind fun n25=>((oNil p24.2).bind fun _=>((oAgg r19.1).bind fun c26=>((oCons c26).bind fun p27=>((oSl 1 p27.1).bind fun c28=>((oCons p27.2).bind fun p29=>((oSl 1 p29.1).bind fun c30=>((oNil p29.2).bind fun _=>(bif Nat.ble (((c10).length+2)*48) (140737488355328*2) then ((LIM F.q27 [(.rref [(.sl 1 a0_0),(.int .i64 n25)] 0),(.int .i64 (25:Int))]).bind fun r31=>((oCons r31.2).bind fun p32=>((oNil p32.2).bind fun _=>((oAgg p32.1).bind fun c33=>((oCons c33).bind fun p34=>((oSl 1 p34.1).bind fun c35=>((oCons p34.2).bind fun p36=>((oInt .i64 p36.1).bind fun n37=>((oNil p36.2).bind fun _=>((oBool r31.1).bind fun b38=>(bif b38 then (bif (decide ((((((c10++[(.sl 1 c28),(.sl 1 c30)]:List T)).length / 2):Nat):Int) > (0:Int))) then ((LIM F.q29 [(.rref [(.sl 1 a0_0),(.int .i64 n37)] 0),(.sl 1 [(.int .i64 (12:Int)),(.int .i64 (13:Int))])]).bind fun r39=>((oCons r39.2).bind fun p40=>((oNil p40.2).bind fun _=>((oAgg p40.1).bind fun c41=>((oCons c41).bind fun p42=>((oSl 1 p42.1).bind fun c43=>((oCons p42.2).bind fun p44=>((oInt .i64 p44.1).bind fun n45=>((oNil p44.2).bind fun _=>((oInt .i64 r39.1).bind fun n46=>(q0p.at0 n n (q0p.st0 n46 a0_0 n45 (c10++[(.sl 1 c28),(.sl 1 c30)]:List T))))))))))))) else some ((.sl 2 (c10++[(.sl 1 c28),(.sl 1 c30)]:List T)),[(.agg [(.sl 1 a0_0),(.int .i64 n37)])])) else some ((.sl 2 (c10++[(.sl 1 c28),(.sl 1 c30)]:List T)),[(.agg [(.sl 1 a0_0),(.int .i64 n37)])])))))))))))) else none)))))))))))))))) else ((LIM F.q27 [(.rref [(.sl 1 a0_0),(.int .i64 n17)] 0),(.int .i64 (25:Int))]).bind fun r53=>((oCons r53.2).bind fun p54=>((oNil p54.2).bind fun _=>((oAgg p54.1).bind fun c55=>((oCons c55).bind fun p56=>((oSl 1 p56.1).bind fun c57=>((oCons p56.2).bind fun p58=>((oInt .i64 p58.1).bind fun n59=>((oNil p58.2).bind fun _=>((oBool r53.1).bind fun b60=>(bif b60 then (bif (decide (((((c10).length / 2):Nat):Int) > (0:Int))) then ((LIM F.q29 [(.rref [(.sl 1 a0_0),(.int .i64 n59)] 0),(.sl 1 [(.int .i64 (12:Int)),(.int .i64 (13:Int))])]).bind fun r61=>((oCons r61.2).bind fun p62=>((oNil p62.2).bind fun _=>((oAgg p62.1).bind fun c63=>((oCons c63).bind fun p64=>((oSl 1 p64.1).bind fun c65=>((oCons p64.2).bind fun p66=>((oInt .i64 p66.1).bind fun n67=>((oNil p66.2).bind fun _=>((oInt .i64 r61.1).bind fun n68=>(q0p.at0 n n (q0p.st0 n68 a0_0 n67 c10)))))))))))) else some ((.sl 2 c10),[(.agg [(.sl 1 a0_0),(.int .i64 n59)])])) else some ((.sl 2 c10),[(.agg [(.sl 1 a0_0),(.int .i64 n59)])]))))))))))))))))))))))))))))))))))))):=by kernel_rfl
def q0e.st4 (x0 x1 x2 x3:List T) (x4 x5:Int) (x6 x7:List T):St:=⟨[(0,(.one (.t (.rref [(.sl 2 x0)] 0)))),(2,ol 1 x1),(3,ol 1 x2),(6,ol 1 x3),(15,oi x4),(16,(.one (.obj 3584))),(18,(.one (.obj 6464))),(20,oi x5)],[(3584,(.arr true true 1 x6)),(6464,(.arr true true 1 x7))]⟩
def q0e.st2 (x0 x1 x2:List T) (x3 x4:Int) (x5:List T) (x6 x7:Int) (x8 x9:List T):St:=⟨[(0,(.one (.t (.rref [(.sl 2 x0)] 0)))),(2,ol 1 x1),(3,ol 1 x2),(4,oi x3),(5,oi x4),(6,ol 1 x5),(15,oi x6),(16,(.one (.obj 3584))),(18,(.one (.obj 6464))),(19,oi x7)],[(3584,(.arr true true 1 x8)),(6464,(.arr true true 1 x9))]⟩
def q0e.st0 (x0 x1 x2 x3:List T) (x4 x5:Int) (x6:List T) (x7 x8:Int) (x9:List T):St:=⟨[(0,(.one (.t (.rref [(.sl 2 x0)] 0)))),(1,ol 1 x1),(2,ol 1 x2),(3,ol 1 x3),(4,oi x4),(5,oi x5),(6,ol 1 x6),(15,oi x7),(16,(.one (.obj 3584))),(17,oi x8)],[(3584,(.arr true true 1 x9))]⟩
noncomputable def q0e.K0 (n:Nat):Ex→St→R:=kx F.q0e n [.block 0,.seq 0 (cx F.q0e [1,1,1,1,1,1])] (endOf prog A F.q0e)
noncomputable def q0e.at0 (n:Nat) (m:Nat) (s:St):R:=lx F.q0e n 0 [1,1,1,1,1,0,1,0,0] (q0e.K0 n) m s
noncomputable def q0e.rd0 (n:Nat) (L0:St→R) (s:St):R:=rx F.q0e n 0 [1,1,1,1,1,0,1,0,0] (q0e.K0 n) L0 s
theorem q0e.next0 (n:Nat) (m:Nat) (s:St):q0e.at0 n (m+1) s=q0e.rd0 n (q0e.at0 n m) s:=nx _ _ _ _ _ _ _
noncomputable def q0e.K2 (n:Nat):Ex→St→R:=kx F.q0e n [.block 2,.seq 0 (cx F.q0e [1,1,1,1,1,1,1,1,1])] (endOf prog A F.q0e)
noncomputable def q0e.at2 (n:Nat) (m:Nat) (s:St):R:=lx F.q0e n 2 [1,1,1,1,1,1,1,1,0,1,0,0] (q0e.K2 n) m s
noncomputable def q0e.rd2 (n:Nat) (L2:St→R) (s:St):R:=rx F.q0e n 2 [1,1,1,1,1,1,1,1,0,1,0,0] (q0e.K2 n) L2 s
theorem q0e.next2 (n:Nat) (m:Nat) (s:St):q0e.at2 n (m+1) s=q0e.rd2 n (q0e.at2 n m) s:=nx _ _ _ _ _ _ _
noncomputable def q0e.K4 (n:Nat):Ex→St→R:=kx F.q0e n [.block 4,.seq 0 (cx F.q0e [1,1,1,1,1,1,1,1,1,1,1])] (endOf prog A F.q0e)
noncomputable def q0e.at4 (n:Nat) (m:Nat) (s:St):R:=lx F.q0e n 4 [1,1,1,1,1,1,1,1,1,1,0,1,0,0] (q0e.K4 n) m s
noncomputable def q0e.rd4 (n:Nat) (L4:St→R) (s:St):R:=rx F.q0e n 4 [1,1,1,1,1,1,1,1,1,1,0,1,0,0] (q0e.K4 n) L4 s
theorem q0e.next4 (n:Nat) (m:Nat) (s:St):q0e.at4 n (m+1) s=q0e.rd4 n (q0e.at4 n m) s:=nx _ _ _ _ _ _ _
theorem q0e.round0 (n:Nat) (L0:St→R) (x0 x1 x2 x3:List T) (x4 x5:Int) (x6:List T) (x7 x8:Int) (x9:List T):q0e.rd0 n L0 (q0e.st0 x0 x1 x2 x3 x4 x5 x6 x7 x8 x9)=(bif (decide (x8 < ((((x9).length / 1):Nat):Int))) then (bif inB x8 ((x9).length / 1) then ((x9[((Int.toNat x8)*1)]?).bind fun e15=>((oInt .i64 e15).bind fun n16=>(bif inB (IntKind.wrap .i64 ((IntKind.wrap .i64 (n16*x7))+x5)) ((x6).length / 1) then ((x6[((Int.toNat (IntKind.wrap .i64 ((IntKind.wrap .i64 (n16*x7))+x5)))*1)]?).bind fun e17=>((oBool e17).bind fun b18=>(bif b18 then some ((.bool true),[]) else (bif inB x8 ((x9).length / 1) then ((x9[((Int.toNat x8)*1)]?).bind fun e19=>((oInt .i64 e19).bind fun n20=>((LIM F.q5h [(.rref [(.sl 2 x0)] 0),(.sl 1 x2),(.int .i64 n20),(.sl 1 x3),(.int .i64 x5)]).bind fun r21=>((oNil r21.2).bind fun _=>((oBool r21.1).bind fun b22=>(bif b22 then some ((.bool true),[]) else (L0 (q0e.st0 x0 x1 x2 x3 x4 x5 x6 x7 (IntKind.wrap .i64 (x8+(1:Int))) x9)))))))) else none)))) else none))) else none) else (bif inB x4 ((x2).length / 1) then ((x2[((Int.toNat x4)*1)]?).bind fun e23=>((oInt .i64 e23).bind fun n24=>((LIM F.q1n [(.sl 1 x1),(.int .i64 n24)]).bind fun r25=>((oNil r25.2).bind fun _=>((oInt .i64 r25.1).bind fun n26=>(bif inB x5 ((x3).length / 1) then ((x3[((Int.toNat x5)*1)]?).bind fun e27=>((oInt .i64 e27).bind fun n28=>((LIM F.q1n [(.sl 1 x1),(.int .i64 n28)]).bind fun r29=>((oNil r29.2).bind fun _=>((oInt .i64 r29.1).bind fun n30=>(bif (decide (n26 < n30)) then some ((.bool false),[]) else ((LIM F.q16 [(.rref [(.sl 2 x0)] 0),(.sl 1 x3),(.int .i64 x5)]).bind fun r31=>((oNil r31.2).bind fun _=>((oSl 1 r31.1).bind fun c32=>(q0e.at2 n n (q0e.st2 x0 x2 x3 x4 x5 x6 x7 (0:Int) x9 c32))))))))))) else none)))))) else none)):=by kernel_rfl
theorem q0e.round2 (n:Nat) (L2:St→R) (x0 x1 x2:List T) (x3 x4:Int) (x5:List T) (x6 x7:Int) (x8 x9:List T):q0e.rd2 n L2 (q0e.st2 x0 x1 x2 x3 x4 x5 x6 x7 x8 x9)=(bif (decide (x7 < ((((x9).length / 1):Nat):Int))) then (bif inB x7 ((x9).length / 1) then ((x9[((Int.toNat x7)*1)]?).bind fun e33=>((oInt .i64 e33).bind fun n34=>(bif inB (IntKind.wrap .i64 ((IntKind.wrap .i64 (x3*x6))+n34)) ((x5).length / 1) then ((x5[((Int.toNat (IntKind.wrap .i64 ((IntKind.wrap .i64 (x3*x6))+n34)))*1)]?).bind fun e35=>((oBool e35).bind fun b36=>(bif (!b36) then some ((.bool false),[]) else (L2 (q0e.st2 x0 x1 x2 x3 x4 x5 x6 (IntKind.wrap .i64 (x7+(1:Int))) x8 x9))))) else none))) else none) else (bif inB x3 ((x1).length / 1) then ((x1[((Int.toNat x3)*1)]?).bind fun e37=>((oInt .i64 e37).bind fun n38=>(bif inB x4 ((x2).length / 1) then ((x2[((Int.toNat x4)*1)]?).bind fun e39=>((oInt .i64 e39).bind fun n40=>(bif ((n38 != n40)) then some ((.bool true),[]) else (q0e.at4 n n (q0e.st4 x0 x1 x2 x5 x6 (0:Int) x8 x9))))) else none))) else none)):=by kernel_rfl
theorem q0e.round4 (n:Nat) (L4:St→R) (x0 x1 x2 x3:List T) (x4 x5:Int) (x6 x7:List T):q0e.rd4 n L4 (q0e.st4 x0 x1 x2 x3 x4 x5 x6 x7)=(bif (decide (x5 < ((((x6).length / 1):Nat):Int))) then (bif (decide (x5 < ((((x7).length / 1):Nat):Int))) then (bif inB x5 ((x6).length / 1) then ((x6[((Int.toNat x5)*1)]?).bind fun e41=>((oInt .i64 e41).bind fun n42=>(bif inB x5 ((x7).length / 1) then ((x7[((Int.toNat x5)*1)]?).bind fun e43=>((oInt .i64 e43).bind fun n44=>((LIM F.q5h [(.rref [(.sl 2 x0)] 0),(.sl 1 x1),(.int .i64 n42),(.sl 1 x2),(.int .i64 n44)]).bind fun r45=>((oNil r45.2).bind fun _=>((oBool r45.1).bind fun b46=>(bif (!b46) then (bif inB x5 ((x6).length / 1) then ((x6[((Int.toNat x5)*1)]?).bind fun e47=>((oInt .i64 e47).bind fun n48=>(bif inB x5 ((x7).length / 1) then ((x7[((Int.toNat x5)*1)]?).bind fun e49=>((oInt .i64 e49).bind fun n50=>(bif inB (IntKind.wrap .i64 ((IntKind.wrap .i64 (n48*x4))+n50)) ((x3).length / 1) then ((x3[((Int.toNat (IntKind.wrap .i64 ((IntKind.wrap .i64 (n48*x4))+n50)))*1)]?).bind fun e51=>((oBool e51).bind fun b52=>some ((.bool b52),[]))) else none))) else none))) else none) else (L4 (q0e.st4 x0 x1 x2 x3 x4 (IntKind.wrap .i64 (x5+(1:Int))) x6 x7)))))))) else none))) else none) else some ((.bool false),[])) else some ((.bool false),[])):=by kernel_rfl
theorem q0e.ev (n:Nat) (a0_0 a1 a2 a3:List T) (a4 a5:Int) (a6:List T):callK prog A H LIM n F.q0e [(.rref [(.sl 2 a0_0)] 0),(.sl 1 a1),(.sl 1 a2),(.sl 1 a3),(.int .i64 a4),(.int .i64 a5),(.sl 1 a6)]=(bif inB a5 ((a3).length / 1) then ((a3[((Int.toNat a5)*1)]?).bind fun e1=>((oInt .i64 e1).bind fun n2=>(bif (decide (n2 < (0:Int))) then (bif inB a4 ((a2).length / 1) then ((a2[((Int.toNat a4)*1)]?).bind fun e3=>((oInt .i64 e3).bind fun n4=>(bif (decide (n4 ≥ (0:Int))) then ((LIM F.q1l [(.rref [(.sl 2 a0_0)] 0),(.sl 1 a2),(.int .i64 a4)]).bind fun r5=>((oNil r5.2).bind fun _=>((oInt .i64 r5.1).bind fun n6=>(bif decide (0≤a4)&&decide (a4≤n6)&&decide (n6≤((((a2).length / 1):Nat):Int)) then (bif inB a5 ((a3).length / 1) then ((a3[((Int.toNat a5)*1)]?).bind fun e7=>((oInt .i64 e7).bind fun n8=>((LIM F.q1i [(.sl 1 ((a2.take ((Int.toNat n6)*1)).drop ((Int.toNat a4)*1))),(.int .i64 n8)]).bind fun r9=>((oNil r9.2).bind fun _=>((oInt .i64 r9.1).bind fun n10=>some ((.bool (decide (n10 > (0:Int)))),[])))))) else none) else none)))) else some ((.bool false),[])))) else none) else (bif inB a4 ((a2).length / 1) then ((a2[((Int.toNat a4)*1)]?).bind fun e11=>((oInt .i64 e11).bind fun n12=>(bif (decide (n12 < (0:Int))) then some ((.bool false),[]) else ((LIM F.q16 [(.rref [(.sl 2 a0_0)] 0),(.sl 1 a2),(.int .i64 a4)]).bind fun r13=>((oNil r13.2).bind fun _=>((oSl 1 r13.1).bind fun c14=>(q0e.at0 n n (q0e.st0 a0_0 a1 a2 a3 a4 a5 a6 ((((a3).length / 1):Nat):Int) (0:Int) c14)))))))) else none)))) else none):=by kernel_rfl
theorem q5s.ev (n:Nat) (a0_0 a1 a2 a3:List T):callK prog A H LIM n F.q5s [(.rref [(.sl 2 a0_0)] 0),(.sl 1 a1),(.sl 1 a2),(.sl 1 a3)]=((LIM F.q1p [(.sl 1 a2),(.sl 1 a3)]).bind fun r1=>((oNil r1.2).bind fun _=>((oBool r1.1).bind fun b2=>(bif b2 then some ((.int .i64 (3:Int)),[]) else ((LIM F.q56 [(.rref [(.sl 2 a0_0)] 0),(.sl 1 a1),(.sl 1 a2),(.sl 1 a3)]).bind fun r3=>((oNil r3.2).bind fun _=>((oBool r3.1).bind fun b4=>(bif b4 then some ((.int .i64 (1:Int)),[]) else ((LIM F.q56 [(.rref [(.sl 2 a0_0)] 0),(.sl 1 a1),(.sl 1 a3),(.sl 1 a2)]).bind fun r5=>((oNil r5.2).bind fun _=>((oBool r5.1).bind fun b6=>(bif b6 then some ((.int .i64 (2:Int)),[]) else some ((.int .i64 (0:Int)),[]))))))))))))):=by kernel_rfl
theorem q5h.ev (n:Nat) (a0_0 a1:List T) (a2:Int) (a3:List T) (a4:Int):callK prog A H LIM n F.q5h [(.rref [(.sl 2 a0_0)] 0),(.sl 1 a1),(.int .i64 a2),(.sl 1 a3),(.int .i64 a4)]=((LIM F.q1l [(.rref [(.sl 2 a0_0)] 0),(.sl 1 a1),(.int .i64 a2)]).bind fun r1=>((oNil r1.2).bind fun _=>((oInt .i64 r1.1).bind fun n2=>(bif decide (0≤a2)&&decide (a2≤n2)&&decide (n2≤((((a1).length / 1):Nat):Int)) then ((LIM F.q1l [(.rref [(.sl 2 a0_0)] 0),(.sl 1 a3),(.int .i64 a4)]).bind fun r3=>((oNil r3.2).bind fun _=>((oInt .i64 r3.1).bind fun n4=>(bif decide (0≤a4)&&decide (a4≤n4)&&decide (n4≤((((a3).length / 1):Nat):Int)) then ((LIM F.q1p [(.sl 1 ((a1.take ((Int.toNat n2)*1)).drop ((Int.toNat a2)*1))),(.sl 1 ((a3.take ((Int.toNat n4)*1)).drop ((Int.toNat a4)*1)))]).bind fun r5=>((oNil r5.2).bind fun _=>((oBool r5.1).bind fun b6=>some ((.bool b6),[])))) else none)))) else none)))):=by kernel_rfl
def q1m.st0 (x0 x1 x2:List T) (x3:Int):St:=⟨[(0,(.one (.t (.rref [(.sl 2 x0)] 0)))),(1,ol 1 x1),(2,ol 2 x2),(7,oi x3)],[]⟩
noncomputable def q1m.K0 (n:Nat):Ex→St→R:=kx F.q1m n [.block 0,.seq 0 (cx F.q1m [1,1])] (endOf prog A F.q1m)
noncomputable def q1m.at0 (n:Nat) (m:Nat) (s:St):R:=lx F.q1m n 0 [1,0,1,0,0] (q1m.K0 n) m s
noncomputable def q1m.rd0 (n:Nat) (L0:St→R) (s:St):R:=rx F.q1m n 0 [1,0,1,0,0] (q1m.K0 n) L0 s
theorem q1m.next0 (n:Nat) (m:Nat) (s:St):q1m.at0 n (m+1) s=q1m.rd0 n (q1m.at0 n m) s:=nx _ _ _ _ _ _ _
theorem q1m.round0 (n:Nat) (L0:St→R) (x0 x1 x2:List T) (x3:Int):q1m.rd0 n L0 (q1m.st0 x0 x1 x2 x3)=(bif (decide (x3 < ((((x2).length / 2):Nat):Int))) then (bif inB x3 ((x2).length / 2) then ((x2[((Int.toNat x3)*2)]?).bind fun e1=>((oSl 1 e1).bind fun c2=>(bif inB x3 ((x2).length / 2) then ((x2[(((Int.toNat x3)*2)+1)]?).bind fun e3=>((oSl 1 e3).bind fun c4=>((LIM F.q56 [(.rref [(.sl 2 x0)] 0),(.sl 1 x1),(.sl 1 c2),(.sl 1 c4)]).bind fun r5=>((oNil r5.2).bind fun _=>((oBool r5.1).bind fun b6=>(bif (!b6) then some ((.bool false),[]) else (L0 (q1m.st0 x0 x1 x2 (IntKind.wrap .i64 (x3+(1:Int))))))))))) else none))) else none) else some ((.bool true),[])):=by kernel_rfl
theorem q1m.ev (n:Nat) (a0_0 a1 a2:List T):callK prog A H LIM n F.q1m [(.rref [(.sl 2 a0_0)] 0),(.sl 1 a1),(.sl 2 a2)]=(q1m.at0 n n (q1m.st0 a0_0 a1 a2 (0:Int))):=by kernel_rfl
end Ev
end
section
open Go
set_option linter.unusedVariables false
set_option maxRecDepth 100000
namespace Ev
theorem q56.ev (n:Nat) (a0_0 a1 a2 a3:List T):callK prog A H LIM n F.q56 [(.rref [(.sl 2 a0_0)] 0),(.sl 1 a1),(.sl 1 a2),(.sl 1 a3)]=((LIM F.q0k [(.rref [(.sl 2 a0_0)] 0),(.sl 1 a1),(.sl 1 a2),(.sl 1 a3)]).bind fun r1=>((oNil r1.2).bind fun _=>((oSl 1 r1.1).bind fun c2=>(bif inB (0:Int) ((c2).length / 1) then ((c2[0]?).bind fun e3=>((oBool e3).bind fun b4=>some ((.bool b4),[]))) else none)))):=by kernel_rfl
def q15.st0 (x0 x1:List T) (x2:Int) (x3:List T) (x4:Int) (x5:List T):St:=⟨[(0,(.one (.ptr 1000000 0))),(1,(.one (.t (.rref [(.sl 2 x0)] 0)))),(2,ol 1 x1),(9,(.one (.obj 960))),(10,oi x2)],[(1000000,(.box [(.kept 0 (.sl 1 x3)),(.t (.int .i64 x4))])),(960,(.arr true true 2 x5))]⟩
noncomputable def q15.K0 (n:Nat):Ex→St→R:=kx F.q15 n [.block 0,.seq 0 (cx F.q15 [1,1,1])] (endOf prog A F.q15)
noncomputable def q15.at0 (n:Nat) (m:Nat) (s:St):R:=lx F.q15 n 0 [1,1,0,1,0,0] (q15.K0 n) m s
noncomputable def q15.rd0 (n:Nat) (L0:St→R) (s:St):R:=rx F.q15 n 0 [1,1,0,1,0,0] (q15.K0 n) L0 s
theorem q15.next0 (n:Nat) (m:Nat) (s:St):q15.at0 n (m+1) s=q15.rd0 n (q15.at0 n m) s:=nx _ _ _ _ _ _ _
theorem q15.round0 (n:Nat) (L0:St→R) (x0 x1:List T) (x2:Int) (x3:List T) (x4:Int) (x5:List T):q15.rd0 n L0 (q15.st0 x0 x1 x2 x3 x4 x5)=(bif (decide (x2 > (0:Int))) then ((LIM F.q5r [(.rref [(.sl 1 x3),(.int .i64 x4)] 0),(.rref [(.sl 2 x0)] 0)]).bind fun r9=>((oCons r9.2).bind fun p10=>((oNil p10.2).bind fun _=>((oAgg p10.1).bind fun c11=>((oCons c11).bind fun p12=>((oSl 1 p12.1).bind fun c13=>((oCons p12.2).bind fun p14=>((oInt .i64 p14.1).bind fun n15=>((oNil p14.2).bind fun _=>((oAgg r9.1).bind fun c16=>((oCons c16).bind fun p17=>((oSl 1 p17.1).bind fun c18=>((oCons p17.2).bind fun p19=>((oSl 1 p19.1).bind fun c20=>((oNil p19.2).bind fun _=>((LIM F.q3t [(.agg [(.sl 2 x0)]),(.sl 1 x1),(.agg [(.sl 1 c18),(.sl 1 c20)])]).bind fun r21=>((oNil r21.2).bind fun _=>((oAgg r21.1).bind fun c22=>((oCons c22).bind fun p23=>((oInt .i64 p23.1).bind fun n24=>((oCons p23.2).bind fun p25=>((oSl 1 p25.1).bind fun c26=>((oCons p25.2).bind fun p27=>((oSl 1 p27.1).bind fun c28=>((oNil p27.2).bind fun _=>(bif ((n24 == (0:Int))) then ((LIM F.q18 [(.rref [(.sl 1 c26),(.sl 1 c28)] 0)]).bind fun r29=>((oNil r29.2).bind fun _=>((oTup r29.1).bind fun c30=>((oCons c30).bind fun p31=>((oAgg p31.1).bind fun c32=>((oCons c32).bind fun p33=>((oSl 1 p33.1).bind fun c34=>((oCons p33.2).bind fun p35=>((oSl 1 p35.1).bind fun c36=>((oNil p35.2).bind fun _=>((oCons p31.2).bind fun p37=>((oBool p37.1).bind fun b38=>((oNil p37.2).bind fun _=>(bif b38 then (bif Nat.ble (((x5).length+2)*48) (140737488355328*2) then (L0 (q15.st0 x0 x1 (IntKind.wrap .i64 (x2 - (1:Int))) x3 n15 (x5++[(.sl 1 c34),(.sl 1 c36)]:List T))) else none) else (L0 (q15.st0 x0 x1 (IntKind.wrap .i64 (x2 - (1:Int))) x3 n15 x5)))))))))))))))) else (L0 (q15.st0 x0 x1 (IntKind.wrap .i64 (x2 - (1:Int))) x3 n15 x5)))))))))))))))))))))))))))) else some ((.sl 2 x5),[(.agg [(.sl 1 x3),(.int .i64 x4)])])):=by kernel_rfl
theorem q15.ev (n:Nat) (a0_0:List T) (a0_1:Int) (a1_0 a2:List T) (a3:Int):callK prog A H LIM n F.q15 [(.rref [(.sl 1 a0_0),(.int .i64 a0_1)] 0),(.rref [(.sl 2 a1_0)] 0),(.sl 1 a2),(.int .i64 a3)]=((LIM F.q1c [(.rref [(.sl 1 a0_0),(.int .i64 a0_1)] 0),(.int .i64 (IntKind.wrap .i64 (a3+(1:Int))))]).bind fun r1=>((oCons r1.2).bind fun p2=>((oNil p2.2).bind fun _=>((oAgg p2.1).bind fun c3=>((oCons c3).bind fun p4=>((oSl 1 p4.1).bind fun c5=>((oCons p4.2).bind fun p6=>((oInt .i64 p6.1).bind fun n7=>((oNil p6.2).bind fun _=>((oInt .i64 r1.1).bind fun n8=>(q15.at0 n n (q15.st0 a1_0 a2 n8 a0_0 n7 [])))))))))))):=by kernel_rfl
def q16.st0 (x0 x1:List T) (x2 x3 x4:Int) (x5:List T):St:=⟨[(0,(.one (.t (.rref [(.sl 2 x0)] 0)))),(1,ol 1 x1),(2,oi x2),(7,(.one (.obj 640))),(8,oi x3),(9,oi x4)],[(640,(.arr true true 1 x5))]⟩
noncomputable def q16.K0 (n:Nat):Ex→St→R:=kx F.q16 n [.block 0,.seq 0 (cx F.q16 [1,1,1,1])] (endOf prog A F.q16)
noncomputable def q16.at0 (n:Nat) (m:Nat) (s:St):R:=lx F.q16 n 0 [1,1,1,0,1,0,0] (q16.K0 n) m s
noncomputable def q16.rd0 (n:Nat) (L0:St→R) (s:St):R:=rx F.q16 n 0 [1,1,1,0,1,0,0] (q16.K0 n) L0 s
theorem q16.next0 (n:Nat) (m:Nat) (s:St):q16.at0 n (m+1) s=q16.rd0 n (q16.at0 n m) s:=nx _ _ _ _ _ _ _
theorem q16.round0 (n:Nat) (L0:St→R) (x0 x1:List T) (x2 x3 x4:Int) (x5:List T):q16.rd0 n L0 (q16.st0 x0 x1 x2 x3 x4 x5)=(bif inB x2 ((x1).length / 1) then ((x1[((Int.toNat x2)*1)]?).bind fun e1=>((oInt .i64 e1).bind fun n2=>(bif inB n2 ((x0).length / 2) then ((x0[(((Int.toNat n2)*2)+1)]?).bind fun e3=>((oInt .i64 e3).bind fun n4=>(bif (decide (x4 < n4)) then (bif Nat.ble (((x5).length+1)*8) (140737488355328*1) then ((LIM F.q1l [(.rref [(.sl 2 x0)] 0),(.sl 1 x1),(.int .i64 x3)]).bind fun r5=>((oNil r5.2).bind fun _=>((oInt .i64 r5.1).bind fun n6=>(L0 (q16.st0 x0 x1 x2 n6 (IntKind.wrap .i64 (x4+(1:Int))) (x5++[(.int .i64 x3)]:List T)))))) else none) else some ((.sl 1 x5),[])))) else none))) else none):=by kernel_rfl
theorem q16.ev (n:Nat) (a0_0 a1:List T) (a2:Int):callK prog A H LIM n F.q16 [(.rref [(.sl 2 a0_0)] 0),(.sl 1 a1),(.int .i64 a2)]=(q16.at0 n n (q16.st0 a0_0 a1 a2 (IntKind.wrap .i64 (a2+(1:Int))) (0:Int) [])):=by kernel_rfl
def q0k.st2 (x0 x1 x2 x3:List T) (x4 x5 x6:Int) (x7:List T):St:=⟨[(0,(.one (.t (.rref [(.sl 2 x0)] 0)))),(1,ol 1 x1),(2,ol 1 x2),(3,ol 1 x3),(9,oi x4),(10,(.one (.obj 1216))),(11,oi x5),(12,oi x6)],[(1216,(.arr true true 1 x7))]⟩
def q0k.st0 (x0 x1 x2 x3:List T) (x4 x5:Int) (x6:List T):St:=⟨[(0,(.one (.t (.rref [(.sl 2 x0)] 0)))),(1,ol 1 x1),(2,ol 1 x2),(3,ol 1 x3),(9,oi x4),(10,(.one (.obj 1216))),(11,oi x5)],[(1216,(.arr true true 1 x6))]⟩
noncomputable def q0k.K0 (n:Nat):Ex→St→R:=kx F.q0k n [.block 0,.seq 0 (cx F.q0k [1,1,1,1])] (endOf prog A F.q0k)
noncomputable def q0k.at0 (n:Nat) (m:Nat) (s:St):R:=lx F.q0k n 0 [1,1,1,0,1,0,0] (q0k.K0 n) m s
noncomputable def q0k.rd0 (n:Nat) (L0:St→R) (s:St):R:=rx F.q0k n 0 [1,1,1,0,1,0,0] (q0k.K0 n) L0 s
theorem q0k.next0 (n:Nat) (m:Nat) (s:St):q0k.at0 n (m+1) s=q0k.rd0 n (q0k.at0 n m) s:=nx _ _ _ _ _ _ _
noncomputable def q0k.K2 (n:Nat) (L0:St→R):Ex→St→R:=kx F.q0k n [.block 2,.block 1,.seq 0 (cx F.q0k [1,1,1,0,1,0,0,1,1])] (bx F.q0k 0 (q0k.K0 n) L0)
noncomputable def q0k.at2 (n:Nat) (L0:St→R) (m:Nat) (s:St):R:=lx F.q0k n 2 [1,1,1,0,1,0,0,1,0,0,1,0,0] (q0k.K2 n L0) m s
noncomputable def q0k.rd2 (n:Nat) (L0:St→R) (L2:St→R) (s:St):R:=rx F.q0k n 2 [1,1,1,0,1,0,0,1,0,0,1,0,0] (q0k.K2 n L0) L2 s
theorem q0k.next2 (n:Nat) (L0:St→R) (m:Nat) (s:St):q0k.at2 n L0 (m+1) s=q0k.rd2 n L0 (q0k.at2 n L0 m) s:=nx _ _ _ _ _ _ _
theorem q0k.round0 (n:Nat) (L0:St→R) (x0 x1 x2 x3:List T) (x4 x5:Int) (x6:List T):q0k.rd0 n L0 (q0k.st0 x0 x1 x2 x3 x4 x5 x6)=(bif (decide (x5 ≥ (0:Int))) then (q0k.at2 n L0 n (q0k.st2 x0 x1 x2 x3 x4 x5 (IntKind.wrap .i64 (x4 - (1:Int))) x6)) else some ((.sl 1 x6),[])):=by kernel_rfl
theorem q0k.round2 (n:Nat) (L0:St→R) (L2:St→R) (x0 x1 x2 x3:List T) (x4 x5 x6:Int) (x7:List T):q0k.rd2 n L0 L2 (q0k.st2 x0 x1 x2 x3 x4 x5 x6 x7)=(bif (decide (x6 ≥ (0:Int))) then ((LIM F.q0e [(.rref [(.sl 2 x0)] 0),(.sl 1 x1),(.sl 1 x2),(.sl 1 x3),(.int .i64 x5),(.int .i64 x6),(.sl 1 x7)]).bind fun r1=>((oNil r1.2).bind fun _=>((oBool r1.1).bind fun b2=>(bif inB (IntKind.wrap .i64 ((IntKind.wrap .i64 (x5*x4))+x6)) ((x7).length / 1) then (bif decide (((Int.toNat (IntKind.wrap .i64 ((IntKind.wrap .i64 (x5*x4))+x6)))*1)+1≤(x7).length) then (L2 (q0k.st2 x0 x1 x2 x3 x4 x5 (IntKind.wrap .i64 (x6 - (1:Int))) (setCells x7 ((Int.toNat (IntKind.wrap .i64 ((IntKind.wrap .i64 (x5*x4))+x6)))*1) [(.bool b2)]))) else none) else none)))) else (L0 (q0k.st0 x0 x1 x2 x3 x4 (IntKind.wrap .i64 (x5 - (1:Int))) x7))):=by kernel_rfl
theorem q0k.ev (n:Nat) (a0_0 a1 a2 a3:List T):callK prog A H LIM n F.q0k [(.rref [(.sl 2 a0_0)] 0),(.sl 1 a1),(.sl 1 a2),(.sl 1 a3)]=(bif decide (0≤(IntKind.wrap .i64 (((((a2).length / 1):Nat):Int)*((((a3).length / 1):Nat):Int))))&&decide ((IntKind.wrap .i64 (((((a2).length / 1):Nat):Int)*((((a3).length / 1):Nat):Int)))=(IntKind.wrap .i64 (((((a2).length / 1):Nat):Int)*((((a3).length / 1):Nat):Int))))&&Nat.ble (((Int.toNat (IntKind.wrap .i64 (((((a2).length / 1):Nat):Int)*((((a3).length / 1):Nat):Int))))*1)*1) (140737488355328*1) then (q0k.at0 n n (q0k.st0 a0_0 a1 a2 a3 ((((a3).length / 1):Nat):Int) (IntKind.wrap .i64 (((((a2).length / 1):Nat):Int) - (1:Int))) (repT (Int.toNat (IntKind.wrap .i64 (((((a2).length / 1):Nat):Int)*((((a3).length / 1):Nat):Int)))) [(.bool false)]))) else none):=by kernel_rfl
theorem q5y.ev (n:Nat) (a0_0 a1 a2:List T):callK prog A H LIM n F.q5y [(.rref [(.sl 2 a0_0)] 0),(.sl 2 a1),(.sl 1 a2)]=((LIM F.q57 [(.agg [(.sl 2 a0_0)]),(.sl 2 a1)]).bind fun r1=>((oNil r1.2).bind fun _=>((oInt .i64 r1.1).bind fun n2=>(bif ((n2 != (0:Int))) then some ((.int .i64 n2),[]) else ((LIM F.q0u [(.rref [(.sl 2 a0_0)] 0),(.sl 1 a2)]).bind fun r3=>((oNil r3.2).bind fun _=>((oInt .i64 r3.1).bind fun n4=>some ((.int .i64 n4),[])))))))):=by kernel_rfl
theorem q6b.ev (n:Nat) (a0:List T):callK prog A H LIM n F.q6b [(.sl 1 a0)]=((LIM F.q44 [(.sl 1 a0)]).bind fun r1=>((oNil r1.2).bind fun _=>((oBx r1.1).bind fun c2=>((oCons c2).bind fun p3=>((oSl 1 p3.1).bind fun c4=>((oCons p3.2).bind fun p5=>((oInt .i64 p5.1).bind fun n6=>((oNil p5.2).bind fun _=>((LIM F.q0q [(.rref [(.sl 1 c4),(.int .i64 n6)] 0)]).bind fun r7=>((oCons r7.2).bind fun p8=>((oNil p8.2).bind fun _=>((oAgg p8.1).bind fun c9=>((oCons c9).bind fun p10=>((oSl 1 p10.1).bind fun c11=>((oCons p10.2).bind fun p12=>((oInt .i64 p12.1).bind fun n13=>((oNil p12.2).bind fun _=>((oAgg r7.1).bind fun c14=>((oCons c14).bind fun p15=>((oSl 2 p15.1).bind fun c16=>((oNil p15.2).bind fun _=>((LIM F.q0r [(.rref [(.sl 1 c4),(.int .i64 n13)] 0),(.agg [(.sl 2 c16)])]).bind fun r17=>((oCons r17.2).bind fun p18=>((oNil p18.2).bind fun _=>((oAgg p18.1).bind fun c19=>((oCons c19).bind fun p20=>((oSl 1 p20.1).bind fun c21=>((oCons p20.2).bind fun p22=>((oInt .i64 p22.1).bind fun n23=>((oNil p22.2).bind fun _=>((oSl 1 r17.1).bind fun c24=>((LIM F.q0p [(.rref [(.sl 1 c4),(.int .i64 n23)] 0),(.rref [(.sl 2 c16)] 0),(.sl 1 c24)]).bind fun r25=>((oCons r25.2).bind fun p26=>((oNil p26.2).bind fun _=>((oAgg p26.1).bind fun c27=>((oCons c27).bind fun p28=>((oSl 1 p28.1).bind fun c29=>((oCons p28.2).bind fun p30=>((oInt .i64 p30.1).bind fun n31=>((oNil p30.2).bind fun _=>((oSl 2 r25.1).bind fun c32=>((LIM F.q29 [(.rref [(.sl 1 c4),(.int .i64 n31)] 0),(.sl 1 [(.int .i64 (4:Int)),(.int .i64 (8:Int)),(.int .i64 (12:Int)),(.int .i64 (20:Int))])]).bind fun r33=>((oCons r33.2).bind fun p34=>((oNil p34.2).bind fun _=>((oAgg p34.1).bind fun c35=>((oCons c35).bind fun p36=>((oSl 1 p36.1).bind fun c37=>((oCons p36.2).bind fun p38=>((oInt .i64 p38.1).bind fun n39=>((oNil p38.2).bind fun _=>((oInt .i64 r33.1).bind fun n40=>((LIM F.q29 [(.rref [(.sl 1 c4),(.int .i64 n39)] 0),(.sl 1 [(.int .i64 (0:Int)),(.int .i64 (0:Int)),(.int .i64 (3:Int))])]).bind fun r41=>((oCons r41.2).bind fun p42=>((oNil p42.2).bind fun _=>((oAgg p42.1).bind fun c43=>((oCons c43).bind fun p44=>((oSl 1 p44.1).bind fun c45=>((oCons p44.2).bind fun p46=>((oInt .i64 p46.1).bind fun n47=>((oNil p46.2).bind fun _=>((oInt .i64 r41.1).bind fun n48=>((LIM F.q0y [(.rref [(.sl 1 c4),(.int .i64 n47)] 0),(.rref [(.sl 2 c16)] 0),(.int .i64 n40),(.int .i64 n48)]).bind fun r49=>((oCons r49.2).bind fun p50=>((oNil p50.2).bind fun _=>((oAgg p50.1).bind fun c51=>((oCons c51).bind fun p52=>((oSl 1 p52.1).bind fun c53=>((oCons p52.2).bind fun p54=>((oInt .i64 p54.1).bind fun n55=>((oNil p54.2).bind fun _=>((oSl 1 r49.1).bind fun c56=>(bif (decide (((((c32).length / 2):Nat):Int) > (0:Int))) then ((LIM F.q27 [(.rref [(.sl 1 c4),(.int .i64 n55)] 0),(.int .i64 (2:Int))]).bind fun r57=>((oCons r57.2).bind fun p58=>((oNil p58.2).bind fun _=>((oAgg p58.1).bind fun c59=>((oCons c59).bind fun p60=>((oSl 1 p60.1).bind fun c61=>((oCons p60.2).bind fun p62=>((oInt .i64 p62.1).bind fun n63=>((oNil p62.2).bind fun _=>((oBool r57.1).bind fun b64=>(bif b64 then ((LIM F.q0u [(.rref [(.sl 2 c16)] 0),(.sl 1 c56)]).bind fun r65=>((oNil r65.2).bind fun _=>((oInt .i64 r65.1).bind fun n66=>(bif ((n66 == (0:Int))) then ((LIM F.q1e [(.rref [(.sl 2 c16)] 0),(.sl 2 c32)]).bind fun r67=>((oNil r67.2).bind fun _=>((oInt .i64 r67.1).bind fun n68=>(bif ((n68 == (0:Int))) then ((LIM F.q1o [(.rref [(.sl 1 c4),(.int .i64 n63)] 0),(.rref [(.sl 2 c16)] 0),(.int .i64 (3:Int))]).bind fun r69=>((oCons r69.2).bind fun p70=>((oNil p70.2).bind fun _=>((oAgg p70.1).bind fun c71=>((oCons c71).bind fun p72=>((oSl 1 p72.1).bind fun c73=>((oCons p72.2).bind fun p74=>((oInt .i64 p74.1).bind fun n75=>((oNil p74.2).bind fun _=>((oAgg r69.1).bind fun c76=>((oCons c76).bind fun p77=>((oSl 1 p77.1).bind fun c78=>((oCons p77.2).bind fun p79=>((oSl 1 p79.1).bind fun c80=>((oNil p79.2).bind fun _=>((LIM F.q1c [(.rref [(.sl 1 c4),(.int .i64 n75)] 0),(.int .i64 ((((c56).length / 1):Nat):Int))]).bind fun r81=>((oCons r81.2).bind fun p82=>((oNil p82.2).bind fun _=>((oAgg p82.1).bind fun c83=>((oCons c83).bind fun p84=>((oSl 1 p84.1).bind fun c85=>((oCons p84.2).bind fun p86=>((oInt .i64 p86.1).bind fun n87=>((oNil p86.2).bind fun _=>((oInt .i64 r81.1).bind fun n88=>(bif inB (0:Int) ((c32).length / 2) then ((c32[0]?).bind fun e89=>((oSl 1 e89).bind fun c90=>((LIM F.q17 [(.rref [(.sl 1 c78),(.sl 1 c80)] 0),(.sl 1 c90)]).bind fun r91=>((oNil r91.2).bind fun _=>((oSl 1 r91.1).bind fun c92=>((LIM F.q53 [(.agg [(.sl 2 c16)]),(.sl 1 c56),(.int .i64 n88),(.sl 1 c92)]).bind fun r93=>((oNil r93.2).bind fun _=>((oAgg r93.1).bind fun c94=>((oCons c94).bind fun p95=>((oInt .i64 p95.1).bind fun n96=>((oCons p95.2).bind fun p97=>((oSl 1 p97.1).bind fun c98=>((oNil p97.2).bind fun _=>(bif ((n96 == (0:Int))) then some ((.tup [(.agg [(.sl 2 c16)]),(.sl 2 (List.set c32 0 (.sl 1 c90))),(.sl 1 c98),(.bx [(.sl 1 c4),(.int .i64 n87)])]),[]) else some ((.tup [(.agg [(.sl 2 c16)]),(.sl 2 (List.set c32 0 (.sl 1 c90))),(.sl 1 c56),(.bx [(.sl 1 c4),(.int .i64 n87)])]),[]))))))))))))))) else none)))))))))))))))))))))))))) else some ((.tup [(.agg [(.sl 2 c16)]),(.sl 2 c32),(.sl 1 c56),(.bx [(.sl 1 c4),(.int .i64 n63)])]),[]))))) else some ((.tup [(.agg [(.sl 2 c16)]),(.sl 2 c32),(.sl 1 c56),(.bx [(.sl 1 c4),(.int .i64 n63)])]),[]))))) else some ((.tup [(.agg [(.sl 2 c16)]),(.sl 2 c32),(.sl 1 c56),(.bx [(.sl 1 c4),(.int .i64 n63)])]),[])))))))))))) else some ((.tup [(.agg [(.sl 2 c16)]),(.sl 2 c32),(.sl 1 c56),(.bx [(.sl 1 c4),(.int .i64 n55)])]),[]))))))))))))))))))))))))))))))))))))))))))))))))))))))))))))))))))))))))):=by kernel_rfl
def q0j.st2 (x0:List T) (x1 x2:Int):St:=⟨[(1,ol 2 x0),(6,oi x1),(7,oi x2)],[]⟩
def q0j.st0 (x0:List T) (x1:Int):St:=⟨[(1,ol 2 x0),(6,oi x1)],[]⟩
noncomputable def q0j.K0 (n:Nat):Ex→St→R:=kx F.q0j n [.block 0,.seq 0 (cx F.q0j [1,1,1])] (endOf prog A F.q0j)
noncomputable def q0j.at0 (n:Nat) (m:Nat) (s:St):R:=lx F.q0j n 0 [1,1,0,1,0,0] (q0j.K0 n) m s
noncomputable def q0j.rd0 (n:Nat) (L0:St→R) (s:St):R:=rx F.q0j n 0 [1,1,0,1,0,0] (q0j.K0 n) L0 s
theorem q0j.next0 (n:Nat) (m:Nat) (s:St):q0j.at0 n (m+1) s=q0j.rd0 n (q0j.at0 n m) s:=nx _ _ _ _ _ _ _
noncomputable def q0j.K2 (n:Nat) (L0:St→R):Ex→St→R:=kx F.q0j n [.block 2,.block 1,.seq 0 (cx F.q0j [1,1,0,1,0,0,1,1])] (bx F.q0j 0 (q0j.K0 n) L0)
noncomputable def q0j.at2 (n:Nat) (L0:St→R) (m:Nat) (s:St):R:=lx F.q0j n 2 [1,1,0,1,0,0,1,0,0,1,1,0,0] (q0j.K2 n L0) m s
noncomputable def q0j.rd2 (n:Nat) (L0:St→R) (L2:St→R) (s:St):R:=rx F.q0j n 2 [1,1,0,1,0,0,1,0,0,1,1,0,0] (q0j.K2 n L0) L2 s
theorem q0j.next2 (n:Nat) (L0:St→R) (m:Nat) (s:St):q0j.at2 n L0 (m+1) s=q0j.rd2 n L0 (q0j.at2 n L0 m) s:=nx _ _ _ _ _ _ _
theorem q0j.round0 (n:Nat) (L0:St→R) (x0:List T) (x1:Int):q0j.rd0 n L0 (q0j.st0 x0 x1)=(bif (decide (x1 < ((((x0).length / 2):Nat):Int))) then (bif inB x1 ((x0).length / 2) then ((x0[((Int.toNat x1)*2)]?).bind fun e3=>((oSl 1 e3).bind fun c4=>(bif inB (0:Int) ((c4).length / 1) then ((c4[0]?).bind fun e5=>((oInt .i64 e5).bind fun n6=>(bif (decide (n6 < (0:Int))) then some ((.int .i64 (1:Int)),[]) else (q0j.at2 n L0 n (q0j.st2 x0 x1 (0:Int)))))) else none))) else none) else some ((.int .i64 (0:Int)),[])):=by kernel_rfl
theorem q0j.round2 (n:Nat) (L0:St→R) (L2:St→R) (x0:List T) (x1 x2:Int):q0j.rd2 n L0 L2 (q0j.st2 x0 x1 x2)=(bif inB x1 ((x0).length / 2) then ((x0[(((Int.toNat x1)*2)+1)]?).bind fun e7=>((oSl 1 e7).bind fun c8=>(bif (decide (x2 < ((((c8).length / 1):Nat):Int))) then (bif inB x1 ((x0).length / 2) then ((x0[(((Int.toNat x1)*2)+1)]?).bind fun e9=>((oSl 1 e9).bind fun c10=>(bif inB x2 ((c10).length / 1) then ((c10[((Int.toNat x2)*1)]?).bind fun e11=>((oInt .i64 e11).bind fun n12=>(bif (decide (n12 < (0:Int))) then (bif inB x1 ((x0).length / 2) then ((x0[((Int.toNat x1)*2)]?).bind fun e13=>((oSl 1 e13).bind fun c14=>((LIM F.q1i [(.sl 1 c14),(.int .i64 n12)]).bind fun r15=>((oNil r15.2).bind fun _=>((oInt .i64 r15.1).bind fun n16=>(bif ((n16 == (0:Int))) then some ((.int .i64 (1:Int)),[]) else (L2 (q0j.st2 x0 x1 (IntKind.wrap .i64 (x2+(1:Int))))))))))) else none) else (L2 (q0j.st2 x0 x1 (IntKind.wrap .i64 (x2+(1:Int)))))))) else none))) else none) else (L0 (q0j.st0 x0 (IntKind.wrap .i64 (x1+(1:Int)))))))) else none):=by kernel_rfl
theorem q0j.ev (n:Nat) (a0_0 a1:List T):callK prog A H LIM n F.q0j [(.rref [(.sl 2 a0_0)] 0),(.sl 2 a1)]=((LIM F.q1e [(.rref [(.sl 2 a0_0)] 0),(.sl 2 a1)]).bind fun r1=>((oNil r1.2).bind fun _=>((oInt .i64 r1.1).bind fun n2=>(bif ((n2 != (0:Int))) then some ((.int .i64 n2),[]) else (q0j.at0 n n (q0j.st0 a1 (0:Int))))))):=by kernel_rfl
def q1j.st0 (x0 x1 x2:List T) (x3 x4 x5 x6:Int):St:=⟨[(0,(.one (.t (.rref [(.sl 2 x0)] 0)))),(1,ol 2 x1),(2,ol 1 x2),(8,oi x3),(9,oi x4),(10,oi x5),(11,oi x6)],[]⟩
noncomputable def q1j.K0 (n:Nat):Ex→St→R:=kx F.q1j n [.block 0,.seq 0 (cx F.q1j [1,1,1,1,1])] (endOf prog A F.q1j)
noncomputable def q1j.at0 (n:Nat) (m:Nat) (s:St):R:=lx F.q1j n 0 [1,1,1,1,0,1,0,0] (q1j.K0 n) m s
noncomputable def q1j.rd0 (n:Nat) (L0:St→R) (s:St):R:=rx F.q1j n 0 [1,1,1,1,0,1,0,0] (q1j.K0 n) L0 s
theorem q1j.next0 (n:Nat) (m:Nat) (s:St):q1j.at0 n (m+1) s=q1j.rd0 n (q1j.at0 n m) s:=nx _ _ _ _ _ _ _
theorem q1j.round0 (n:Nat) (L0:St→R) (x0 x1 x2:List T) (x3 x4 x5 x6:Int):q1j.rd0 n L0 (q1j.st0 x0 x1 x2 x3 x4 x5 x6)=(bif (decide (x6 < ((((x2).length / 1):Nat):Int))) then ((LIM F.q1l [(.rref [(.sl 2 x0)] 0),(.sl 1 x2),(.int .i64 x6)]).bind fun r1=>((oNil r1.2).bind fun _=>((oInt .i64 r1.1).bind fun n2=>(bif (decide (n2 > x5)) then (L0 (q1j.st0 x0 x1 x2 x3 x4 x5 (IntKind.wrap .i64 (x6+(1:Int))))) else ((LIM F.q1x [(.rref [(.sl 2 x0)] 0),(.sl 2 x1),(.sl 1 x2),(.int .i64 x6)]).bind fun r3=>((oNil r3.2).bind fun _=>((oInt .i64 r3.1).bind fun n4=>(bif (decide (n4 ≥ (0:Int))) then (L0 (q1j.st0 x0 x1 x2 x6 n4 n2 (IntKind.wrap .i64 (x6+(1:Int))))) else (L0 (q1j.st0 x0 x1 x2 x3 x4 x5 (IntKind.wrap .i64 (x6+(1:Int))))))))))))) else some ((.tup [(.int .i64 x3),(.int .i64 x4)]),[])):=by kernel_rfl
theorem q1j.ev (n:Nat) (a0_0 a1 a2:List T):callK prog A H LIM n F.q1j [(.rref [(.sl 2 a0_0)] 0),(.sl 2 a1),(.sl 1 a2)]=(q1j.at0 n n (q1j.st0 a0_0 a1 a2 (-1:Int) (-1:Int) (25:Int) (0:Int))):=by kernel_rfl
def q1x.st0 (x0 x1 x2:List T) (x3 x4:Int):St:=⟨[(0,(.one (.t (.rref [(.sl 2 x0)] 0)))),(1,ol 2 x1),(2,ol 1 x2),(3,oi x3),(9,oi x4)],[]⟩
noncomputable def q1x.K0 (n:Nat):Ex→St→R:=kx F.q1x n [.block 0,.seq 0 (cx F.q1x [1,1])] (endOf prog A F.q1x)
noncomputable def q1x.at0 (n:Nat) (m:Nat) (s:St):R:=lx F.q1x n 0 [1,0,1,0,0] (q1x.K0 n) m s
noncomputable def q1x.rd0 (n:Nat) (L0:St→R) (s:St):R:=rx F.q1x n 0 [1,0,1,0,0] (q1x.K0 n) L0 s
theorem q1x.next0 (n:Nat) (m:Nat) (s:St):q1x.at0 n (m+1) s=q1x.rd0 n (q1x.at0 n m) s:=nx _ _ _ _ _ _ _
theorem q1x.round0 (n:Nat) (L0:St→R) (x0 x1 x2:List T) (x3 x4:Int):q1x.rd0 n L0 (q1x.st0 x0 x1 x2 x3 x4)=(bif (decide (x4 < ((((x1).length / 2):Nat):Int))) then (bif inB x4 ((x1).length / 2) then ((x1[((Int.toNat x4)*2)]?).bind fun e1=>((oSl 1 e1).bind fun c2=>((LIM F.q10 [(.rref [(.sl 2 x0)] 0),(.sl 1 c2),(.sl 1 x2),(.int .i64 x3)]).bind fun r3=>((oNil r3.2).bind fun _=>((oTup r3.1).bind fun c4=>((oCons c4).bind fun p5=>((oAgg p5.1).bind fun c6=>((oCons c6).bind fun p7=>((oSl 1 p7.1).bind fun c8=>((oCons p7.2).bind fun p9=>((oSl 1 p9.1).bind fun c10=>((oNil p9.2).bind fun _=>((oCons p5.2).bind fun p11=>((oBool p11.1).bind fun b12=>((oNil p11.2).bind fun _=>(bif b12 then some ((.int .i64 x4),[]) else (L0 (q1x.st0 x0 x1 x2 x3 (IntKind.wrap .i64 (x4+(1:Int))))))))))))))))))))) else none) else some ((.int .i64 (-1:Int)),[])):=by kernel_rfl
theorem q1x.ev (n:Nat) (a0_0 a1 a2:List T) (a3:Int):callK prog A H LIM n F.q1x [(.rref [(.sl 2 a0_0)] 0),(.sl 2 a1),(.sl 1 a2),(.int .i64 a3)]=(q1x.at0 n n (q1x.st0 a0_0 a1 a2 a3 (0:Int))):=by kernel_rfl
theorem q5n.ev (n:Nat) (a0_0 a1_0 a1_1:List T) (a2:Int) (a3:List T):callK prog A H LIM n F.q5n [(.rref [(.sl 2 a0_0)] 0),(.rref [(.sl 1 a1_0),(.sl 1 a1_1)] 0),(.int .i64 a2),(.sl 1 a3)]=((LIM F.q10 [(.rref [(.sl 2 a0_0)] 0),(.sl 1 a1_0),(.sl 1 a3),(.int .i64 a2)]).bind fun r1=>((oNil r1.2).bind fun _=>((oTup r1.1).bind fun c2=>((oCons c2).bind fun p3=>((oAgg p3.1).bind fun c4=>((oCons c4).bind fun p5=>((oSl 1 p5.1).bind fun c6=>((oCons p5.2).bind fun p7=>((oSl 1 p7.1).bind fun c8=>((oNil p7.2).bind fun _=>((oCons p3.2).bind fun p9=>((oBool p9.1).bind fun b10=>((oNil p9.2).bind fun _=>(bif (!b10) then some ((.tup [(.sl 1 []),(.int .i64 (4:Int))]),[]) else ((LIM F.q17 [(.rref [(.sl 1 c6),(.sl 1 c8)] 0),(.sl 1 a1_1)]).bind fun r11=>((oNil r11.2).bind fun _=>((oSl 1 r11.1).bind fun c12=>((LIM F.q4c [(.rref [(.sl 2 a0_0)] 0),(.sl 1 a3),(.int .i64 a2),(.sl 1 c12)]).bind fun r13=>((oNil r13.2).bind fun _=>((oSl 1 r13.1).bind fun c14=>(bif (decide (((((c14).length / 1):Nat):Int) > (24:Int))) then some ((.tup [(.sl 1 []),(.int .i64 (2:Int))]),[]) else some ((.tup [(.sl 1 c14),(.int .i64 (0:Int))]),[])))))))))))))))))))))):=by kernel_rfl
end Ev
end
section
end
section
namespace Ev.Ty
open Go Ev
open Enc (enc)
open Sm (sm)
set_option linter.unusedVariables false
theorem q51 {g:FuncId} {args:List T} {r:T × List T} (hx:X g=none) (n:Nat) (h:callK prog A H LIM n g args=some r):LIM g args=some r:=lim_of hx n h
theorem q8b {α:Type} [Enc α] {l:List α} {a:Nat}:(a≤(cells l).length)=(a≤l.length*Enc.sz α):=by rw [q0t]
theorem set_same {α:Type} {o:List α} {i:Nat} {x:α} (h:o[i]?=some x):o.set i x=o:=by
 refine List.ext_getElem? fun j => ?_
 rw [List.getElem?_set]
 split
 · rename_i e; subst e
   have:=(List.getElem?_eq_some_iff.1 h).1
   rw [if_pos this,h]
 · rfl
theorem fset_gen {α:Type} [Enc α] {o:List α} {i n j:Nat} {x x':α} {c:T} (hn:Enc.sz α=n) (hi:i < o.length) (hj:j < n)
 (he:(enc x).set j c=enc x'):setCells (cells (o.set i x)) (i*n+j) [c]=cells (o.set i x'):=by
 subst hn
 rw [← cells_set o _ i rfl x hi,← cells_set o _ i rfl x' hi,← he]
 have hle:i*Enc.sz α+Enc.sz α≤o.length*Enc.sz α:=by
  rw [← Nat.succ_mul]; exact Nat.mul_le_mul_right _ hi
 have hl:=q0t o
 refine List.ext_getElem? fun q => ?_
 have hlen:(setCells (cells o) (i*Enc.sz α) (enc x)).length=(cells o).length:=q2g _ _ _
 have l1:(enc x).length=Enc.sz α:=Enc.len x
 have l2:((enc x).set j c).length=Enc.sz α:=by rw [List.length_set]; exact l1
 rw [q2j [c] _ _ _ (by rw [hlen,List.length_singleton]; omega),q2j (enc x) _ _ _ (by omega),q2j ((enc x).set j c) _ _ _ (by omega),l1,l2,List.length_singleton]
 by_cases hq:i*Enc.sz α+j=q
 · subst hq
   rw [if_pos ⟨by omega,by omega⟩,if_pos ⟨by omega,by omega⟩,List.getElem?_set,if_pos (by omega),if_pos (by omega)]
   simp
 · rw [if_neg (by omega)]
   split
   · rw [List.getElem?_set,if_neg (by omega)]
   · rfl
end Ev.Ty
end
section
namespace Ev.Ty
open Go Ev
end Ev.Ty
end
section
namespace Ev.Ty
open Go Ev
open Enc (enc)
open Sm (sm)
set_option linter.unusedVariables false
set_option linter.unusedSimpArgs false
end Ev.Ty
end
section
namespace Ev.Ty
open Go Ev
open Enc (enc)
open Sm (sm)
set_option linter.unusedSimpArgs false
def inR (n a b:Int):Bool:=decide (a≤n∧n≤b)
theorem q3i (n a b:Int):Call F.q3i [.int .i64 n,.int .i64 a,.int .i64 b] (.bool (inR n a b)):=by
 refine q0v rfl 0 ((q3i.ev _ _ _ _).trans ?_)
 simp only [evz,Nat.reduceLT,inR,ge_iff_le]
 by_cases h:a≤n <;> simp [h]
theorem q4w (n a b:Int):Call F.q4w [.int .i64 n,.int .i64 a,.int .i64 b] (.bool (inR n a b)):=by
 refine q0v rfl 0 ((q4w.ev _ _ _ _).trans ?_)
 simp only [evz,Nat.reduceLT,inR,ge_iff_le]
 by_cases h:a≤n <;> simp [h]
def twice {β:Type} [DecidableEq β] (l:List β):Bool := !decide l.Nodup
theorem twice_iff {β:Type} [DecidableEq β] (l:List β):twice l=true↔∃ i j,j < i∧∃ (h:i < l.length) (h':j < l.length),l[i]=l[j]:=by
 unfold twice
 rw [Bool.not_eq_true',decide_eq_false_iff_not,List.Nodup,List.pairwise_iff_getElem]
 constructor
 · intro h
   simp only [Classical.not_forall] at h
   obtain ⟨i,j,h1,h2,h3,h4⟩:=h
   simp only [ne_eq,Classical.not_not] at h4
   exact ⟨j,i,h3,h2,h1,h4.symm⟩
 · rintro ⟨i,j,h1,h2,h3,h4⟩ h
   exact h j i h3 h2 h1 h4.symm
theorem twice_first {α β:Type} [DecidableEq β] (f:α→β) (l:List α):((List.range l.length).any fun k=>l[k]?.any fun x=>decide (idx (fun y=>decide (f y=f x)) l≠(k:Nat)))=twice (l.map f):=by
 rw [Bool.eq_iff_iff,twice_iff]
 simp only [List.any_eq_true,List.mem_range,List.length_map,List.getElem_map]
 constructor
 · rintro ⟨k,hk,h⟩
   rw [List.getElem?_eq_getElem hk,Option.any_some] at h
   simp only [decide_eq_true_eq] at h
   rcases q60 (fun y=>decide (f y=f l[k])) l with ⟨_,h1⟩ | ⟨i,hi,h1,h2,h3⟩
   · have:=h1 l[k] (List.getElem_mem hk)
     simp at this
   · rw [h1] at h
     simp only [decide_eq_true_eq] at h2
     rcases Nat.lt_trichotomy i k with hlt | heq | hgt
     · exact ⟨k,i,hlt,hk,hi,h2.symm⟩
     · subst heq; simp at h
     · have:=h3 k hgt
       simp at this
 · rintro ⟨i,j,hji,hi,hj,he⟩
   refine ⟨i,hi,?_⟩
   rw [List.getElem?_eq_getElem hi,Option.any_some]
   simp only [decide_eq_true_eq]
   rcases q60 (fun y=>decide (f y=f l[i])) l with ⟨h0,_⟩ | ⟨k,hk,h1,h2,h3⟩
   · rw [h0]; omega
   · rw [h1]
     intro hk'
     have:k=i:=by omega
     subst this
     have:=h3 j hji
     simp [he] at this
theorem twice_pairs {α β:Type} [DecidableEq β] (f:α→β) (l:List α):((List.range l.length).any fun i=>(List.range i).any fun j=>l[i]?.any fun x=>l[j]?.any fun y=>decide (f x=f y))=twice (l.map f):=by
 rw [Bool.eq_iff_iff,twice_iff]
 simp only [List.any_eq_true,List.mem_range,List.length_map,List.getElem_map]
 constructor
 · rintro ⟨i,hi,j,hj,h⟩
   rw [List.getElem?_eq_getElem hi,List.getElem?_eq_getElem (show j < l.length by omega)] at h
   exact ⟨i,j,hj,hi,by omega,by simpa using h⟩
 · rintro ⟨i,j,hji,hi,hj,he⟩
   refine ⟨i,hi,j,hji,?_⟩
   rw [List.getElem?_eq_getElem hi,List.getElem?_eq_getElem hj]
   simpa using he
end Ev.Ty
end
section
namespace Ev.Ty
open Go Ev
open Enc (enc)
open Sm (sm)
set_option linter.unusedSimpArgs false
set_option linter.unusedVariables false
def q8e (b:UInt8):Bool:=decide (97≤b.toNat∧b.toNat≤122)
def nameOk (s:ByteArray):Bool:=decide (1≤s.size∧s.size≤3)&&s.data.toList.all q8e
def q82:ByteArray:=ByteArray.mk #[97,98,99,100,101,102,103,104,105,106,107,108,109,110,111,112,113,114,115,116,117,118,119,120,121,122]
theorem letters_has (b:UInt8):q82.data.toList.contains b=q8e b:=by
 have h:∀ n:Fin 256,q82.data.toList.contains (UInt8.ofNat n.val)=q8e (UInt8.ofNat n.val):=by decide +kernel
 have:=h ⟨b.toNat,b.toNat_lt⟩
 simpa using this
theorem dropWhile_nil {α:Type} (p:α→Bool):∀ l:List α,(l.dropWhile p).isEmpty=l.all p
 | []=>rfl
 | x::l=>by
   rw [List.dropWhile_cons,List.all_cons]
   cases hp:p x with
   | true=>simpa using dropWhile_nil p l
   | false=>simp
theorem trimS_empty (l:List UInt8):(Lib.trimS l q82.data.toList).isEmpty=l.all q8e:=by
 have e:(q82.data.toList.contains ·)=q8e:=funext letters_has
 unfold Lib.trimS Lib.trimLeftS
 rw [e,dropWhile_nil]
 unfold Lib.trimRightS
 rw [e,List.all_reverse]
 have:∀ l:List UInt8,(l.dropWhile q8e).all q8e=l.all q8e:=by
  intro l
  induction l with
  | nil=>rfl
  | cons x l ih =>
    rw [List.dropWhile_cons]
    cases hp:q8e x with
    | true=>simp [hp,ih]
    | false=>simp [hp]
 rw [this,List.all_reverse]
theorem q8g (s:ByteArray) (h:s.size≤3):Call F.q8g [.str s,.str q82] (.str ⟨(Lib.trimS s.data.toList q82.data.toList).toArray⟩):=by
 refine lim_ext (e:=trimE) rfl (Ev.of fun m => ?_)
 show (bif decide (s.size≤9223372036854775807)&&decide (q82.size < 4294967281)&&q82.data.toList.all (fun b=>decide (b.toNat < 128)) then _ else _)=_
 rw [decide_eq_true (by omega),show decide (q82.size < 4294967281)=true by decide +kernel,show q82.data.toList.all (fun b=>decide (b.toNat < 128))=true by decide +kernel]
 rfl
theorem q6w (s:ByteArray):Call F.q6w [.str s] (.bool (nameOk s)):=by
 refine q0v rfl 0 ((q6w.ev _ _).trans ?_)
 simp only [evz,Nat.reduceLT,ge_iff_le,nameOk]
 by_cases h1:1≤s.size
 · by_cases h2:s.size≤3
   · have h1':(1:Int)≤s.size:=by omega
     have h2':(s.size:Int)≤3:=by omega
     rw [show (ByteArray.mk #[97,98,99,100,101,102,103,104,105,106,107,108,109,110,111,112,113,114,115,116,117,118,119,120,121,122])=q82 from rfl]
     simp only [h1,h2,h1',h2',(q8g s h2).eq,evz,Nat.reduceLT,and_self,Bool.true_and]
     rw [← trimS_empty]
     congr 3
     rw [Bool.eq_iff_iff,decide_eq_true_eq,List.isEmpty_iff]
     simp
   · have h1':(1:Int)≤s.size:=by omega
     have h2':¬ (s.size:Int)≤3:=by omega
     simp only [h1,h2,h1',h2',evz,Nat.reduceLT,and_false,Bool.false_and]
 · have h1':¬ (1:Int)≤s.size:=by omega
   simp only [h1,h1',evz,Nat.reduceLT,false_and,Bool.false_and]
theorem byte_at {s:ByteArray} {k:Nat} (h:k < s.data.toList.length):s.data.getD k 0=s.data.toList[k]:=by
 simp at h
 simp [Array.getD,h]
theorem q24 (s:ByteArray):Call F.q24 [.str s] (.bool (nameOk s)):=by
 refine q0v rfl (s.size+1) ((q24.ev _ _).trans ?_)
 simp only [evz,Nat.reduceLT,gt_iff_lt,nameOk]
 by_cases h1:1≤s.size
 · by_cases h2:s.size≤3
   · have h1':¬ (s.size:Int) < 1:=by omega
     have h2':¬ (3:Int) < s.size:=by omega
     simp only [h1,h2,h1',h2',if_false,and_self,decide_true,Bool.true_and]
     have hsz:s.data.toList.length=s.size:=by rw [Array.length_toList]; rfl
     refine (q7n (l:=s.data.toList) (p:=fun b => !q8e b) (S:=fun m k=>q24.at0 (s.size+1) m (q24.st0 s (k:Nat))) (r:=some (.bool false,[])) (z:=some (.bool true,[])) (fun m k h => ?_) (fun m => ?_) (by omega)).trans ?_
     · have h':k < s.size:=by omega
       simp only [q24.next0,q24.round0,evz,Nat.reduceLT,h',byte_at h]
       rw [q0l (by omega)]
       unfold q8e
       by_cases c1:s.data.toList[k].toNat < 97
       · have c1':(s.data.toList[k].toNat:Int) < 97:=by omega
         rw [if_pos c1',if_pos (by simp only [Bool.not_eq_true',decide_eq_false_iff_not]; omega)]
       · have c1':¬ (s.data.toList[k].toNat:Int) < 97:=by omega
         rw [if_neg c1']
         by_cases c2:122 < s.data.toList[k].toNat
         · have c2':(s.data.toList[k].toNat:Int) > 122:=by omega
           rw [if_pos c2',if_pos (by simp only [Bool.not_eq_true',decide_eq_false_iff_not]; omega)]
         · have c2':¬ (s.data.toList[k].toNat:Int) > 122:=by omega
           rw [if_neg c2',if_neg (by simp only [Bool.not_eq_true',decide_eq_false_iff_not]; omega)]
     · rw [hsz]; simp only [q24.next0,q24.round0,evz,Nat.reduceLT,Nat.lt_irrefl]
     · have:s.data.toList.any (fun b => !q8e b) = !s.data.toList.all q8e:=by rw [List.not_all_eq_any_not]
       rw [this]
       cases s.data.toList.all q8e <;> rfl
   · have h1':¬ (s.size:Int) < 1:=by omega
     have h2':(3:Int) < s.size:=by omega
     simp only [h1,h2,h1',h2',evz,Nat.reduceLT,and_false,Bool.false_and]
 · have h1':(s.size:Int) < 1:=by omega
   simp only [h1,h1',evz,Nat.reduceLT,false_and,Bool.false_and]
def q6i (x:Symbol):Option Int:=if nameOk x.name=false then some 5 else if inR x.arity 0 2=false then some 3 else none
def q30 (s:Signature):Int :=
 if s.symbols.length < 1∨6 < s.symbols.length then 2
 else match s.symbols.findSome? q6i with
  | some c=>c
  | none=>if twice (s.symbols.map (·.name)) then 6 else if s.symbols.any (fun x=>decide (x.arity=0)) then 0 else 4
theorem q03 (l:List Symbol) (hs:l.length≤4294967296) (n:ByteArray):Call F.q19 [slc l,.clo F.q3c [.rref [.str n] 0]] (.int .i64 (idx (fun x=>decide (x.name=n)) l)):=by
 refine q0v rfl (l.length+1) ((q03.ev _ _ _).trans ?_)
 refine q6o (S:=fun m k=>q03.at0 (l.length+1) m (q03.st0 (cells l) n _ (k:Nat))) (fun m k h => ?_) (fun m => ?_) (Nat.lt_succ_self _)
 · have hlk:l[k]?=some l[k]:=List.getElem?_eq_getElem h
   have hc:Call F.q3c [.agg [.str l[k].name,.int .i64 l[k].arity],.rref [.str n] 0] (.bool (decide (l[k].name=n))):=by
    refine q0v rfl 0 ((q3c.ev _ _ _ _).trans ?_)
    simp only [evz,Nat.reduceLT]
   simp only [q03.next0,q03.round0,evz,Nat.reduceLT,h,hlk,q2k,hc.eq]
   rw [q0l (by omega)]
   simp only [decide_eq_true_eq]
 · simp only [q03.next0,q03.round0,evz,Nat.reduceLT,Nat.lt_irrefl]
theorem q4t (l:List Symbol) (hs:l.length≤4294967296) (n:ByteArray):Call F.q4t [.agg [slc l],.str n] (.int .i64 (idx (fun x=>decide (x.name=n)) l)):=by
 refine q0v rfl 0 ((q4t.ev _ _ _).trans ?_)
 simp only [evz,Nat.reduceLT,(q03 l hs n).eq]
theorem q02 (l:List Symbol) (hs:l.length≤4294967296):Call F.q19 [slc l,.clo F.q28 []] (.int .i64 (idx (fun x=>decide (x.arity=0)) l)):=by
 refine q0v rfl (l.length+1) ((q02.ev _ _).trans ?_)
 refine q6o (S:=fun m k=>q02.at0 (l.length+1) m (q02.st0 (cells l) _ (k:Nat))) (fun m k h => ?_) (fun m => ?_) (Nat.lt_succ_self _)
 · have hlk:l[k]?=some l[k]:=List.getElem?_eq_getElem h
   have hc:Call F.q28 [.agg [.str l[k].name,.int .i64 l[k].arity]] (.bool (decide (l[k].arity=0))):=by
    refine q0v rfl 0 ((q28.ev _ _ _).trans ?_)
    simp only [evz,Nat.reduceLT]
   simp only [q02.next0,q02.round0,evz,Nat.reduceLT,h,hlk,q2k,hc.eq]
   rw [q0l (by omega)]
   simp only [decide_eq_true_eq]
 · simp only [q02.next0,q02.round0,evz,Nat.reduceLT,Nat.lt_irrefl]
theorem q2f (l:List Symbol) (hs:l.length≤4294967296):Call F.q5a [slc l,.clo F.q28 []] (.bool (l.any fun x=>decide (x.arity=0))):=by
 refine q0v rfl 0 ((q2f.ev _ _).trans ?_)
 simp only [evz,Nat.reduceLT,(q02 l hs).eq,q7f]
theorem q04 (l:List Symbol) (hs:l.length≤4294967296):Call F.q04 [.agg [slc l]] (.int .i64 (q30 ⟨l⟩)):=by
 refine q0v rfl (l.length+1) ((q04.ev _ _).trans ?_)
 simp only [evz,Nat.reduceLT,q30,gt_iff_lt]
 by_cases h1:l.length < 1
 · have h1':(l.length:Int) < 1:=by omega
   simp only [h1,h1',evz,Nat.reduceLT,true_or]
 by_cases h2:6 < l.length
 · have h1':¬ (l.length:Int) < 1:=by omega
   have h2':(6:Int) < l.length:=by omega
   simp only [h1,h1',h2,h2',evz,Nat.reduceLT,or_true]
 have h1':¬ (l.length:Int) < 1:=by omega
 have h2':¬ (6:Int) < l.length:=by omega
 simp only [h1,h1',h2,h2',if_false,or_self]
 have two:=any_loop (n:=l.length) (bad:=fun k=>l[k]?.any fun x=>decide (idx (fun y=>decide (y.name=x.name)) l≠(k:Nat)))
  (S:=fun m k=>q04.at2 (l.length+1) m (q04.st2 (cells l) l.length (k:Nat) (cells l))) (r:=some (.int .i64 6,[])) (z:=if l.any (fun x=>decide (x.arity=0)) then some (.int .i64 0,[]) else some (.int .i64 4,[]))
  (fun m k h=>by
   have hlk:l[k]?=some l[k]:=List.getElem?_eq_getElem h
   simp only [q04.next2,q04.round2,evz,Nat.reduceLT,h,hlk,q2k,(q4t l hs _).eq]
   rw [q0l (by omega)]
   by_cases e:idx (fun y=>decide (y.name=l[k].name)) l=(k:Int) <;> simp [e])
  (fun m=>by
   simp only [q04.next2,q04.round2,evz,Nat.reduceLT,Nat.lt_irrefl,(q2f l hs).eq]
   cases l.any (fun x=>decide (x.arity=0)) <;> rfl) (Nat.lt_succ_self _)
 have one:=q8u (l:=l) (g:=fun x=>(q6i x).map fun c=>some (.int .i64 c,[]))
  (S:=fun m k=>q04.at0 (l.length+1) m (q04.st0 (cells l) l.length (k:Nat) (cells l)))
  (fun m k h=>by
   have hlk:l[k]?=some l[k]:=List.getElem?_eq_getElem h
   simp only [q04.next0,q04.round0,evz,Nat.reduceLT,h,hlk,q2k,(q6w _).eq,(q3i _ _ _).eq]
   rw [q0l (by omega)]
   cases h5:nameOk l[k].name with
   | false=>simp [q6i,h5]
   | true=>cases h6:inR l[k].arity 0 2 <;> simp [q6i,h5,h6])
  (fun m=>by simp only [q04.next0,q04.round0,evz,Nat.reduceLT,Nat.lt_irrefl]; rfl) (Nat.lt_succ_self _)
 refine one.trans ?_
 rw [show q04.at2 (l.length+1) (l.length+1) (q04.st2 (cells l) l.length 0 (cells l))=_ from two,twice_first (fun y:Symbol=>y.name),q7o]
 cases l.findSome? q6i with
 | some c=>rfl
 | none=>cases twice (l.map fun x=>x.name) <;> cases l.any (fun x=>decide (x.arity=0)) <;> rfl
theorem q01 (l:List Symbol) (hs:l.length≤4294967296):Call F.q01 [.agg [slc l]] (.int .i64 (q30 ⟨l⟩)):=by
 obtain ⟨n,hn⟩:∃ n,n=l.length+1:=⟨_,rfl⟩
 refine q0v rfl n ((q01.ev _ _).trans ?_)
 simp only [evz,Nat.reduceLT,q30,gt_iff_lt]
 by_cases h1:l.length < 1
 · have h1':(l.length:Int) < 1:=by omega
   simp only [h1,h1',evz,Nat.reduceLT,true_or]
 by_cases h2:6 < l.length
 · have h1':¬ (l.length:Int) < 1:=by omega
   have h2':(6:Int) < l.length:=by omega
   simp only [h1,h1',h2,h2',evz,Nat.reduceLT,or_true]
 have h1':¬ (l.length:Int) < 1:=by omega
 have h2':¬ (6:Int) < l.length:=by omega
 simp only [h1,h1',h2,h2',if_false,or_self]
 have six:=q7n (l:=l) (p:=fun x=>decide (x.arity=0)) (S:=fun m k=>q01.at6 n m (q01.st6 l.length (k:Nat) (cells l))) (r:=some (.int .i64 0,[])) (z:=some (.int .i64 4,[]))
  (fun m k h=>by
   have hlk:l[k]?=some l[k]:=List.getElem?_eq_getElem h
   simp only [q01.next6,q01.round6,evz,Nat.reduceLT,h,hlk,q2k]
   rw [q0l (by omega)]
   simp only [decide_eq_true_eq])
  (fun m=>by simp only [q01.next6,q01.round6,evz,Nat.reduceLT,Nat.lt_irrefl]) (show l.length < n by omega)
 have two:=any_loop (n:=l.length) (bad:=fun i=>(List.range i).any fun j=>l[i]?.any fun x=>l[j]?.any fun y=>decide (x.name=y.name))
  (S:=fun m i=>q01.at2 n m (q01.st2 l.length (i:Nat) (cells l))) (r:=some (.int .i64 6,[]))
  (fun m i h=>by
   have hlk:l[i]?=some l[i]:=List.getElem?_eq_getElem h
   simp only [q01.next2,q01.round2,evz,Nat.reduceLT,h]
   refine any_loop (n:=i) (f:=n) (bad:=fun j=>l[i]?.any fun x=>l[j]?.any fun y=>decide (x.name=y.name))
    (S:=fun m' j=>q01.at4 n (q01.at2 n m) m' (q01.st4 l.length (i:Nat) (j:Nat) (cells l))) (fun m' j hj => ?_) (fun m' => ?_) (by omega)
   · have hj':j < l.length:=by omega
     have hjk:l[j]?=some l[j]:=List.getElem?_eq_getElem hj'
     simp only [q01.next4,q01.round4,evz,Nat.reduceLT,h,hj,hj',hlk,hjk,q2k]
     rw [q0l (by omega)]
     by_cases e:l[i].name=l[j].name <;> simp [e]
   · simp only [q01.next4,q01.round4,evz,Nat.reduceLT,Nat.lt_irrefl]
     rw [q0l (by omega)])
  (fun m=>by simp only [q01.next2,q01.round2,evz,Nat.reduceLT,Nat.lt_irrefl]; exact six) (show l.length < n by omega)
 have one:=q8u (l:=l) (g:=fun x=>(q6i x).map fun c=>some (.int .i64 c,[]))
  (S:=fun m k=>q01.at0 n m (q01.st0 l.length (k:Nat) (cells l)))
  (fun m k h=>by
   have hlk:l[k]?=some l[k]:=List.getElem?_eq_getElem h
   simp only [q01.next0,q01.round0,evz,Nat.reduceLT,h,hlk,q2k,(q24 _).eq,(q4w _ _ _).eq]
   rw [q0l (by omega)]
   cases h5:nameOk l[k].name with
   | false=>simp [q6i,h5]
   | true=>cases h6:inR l[k].arity 0 2 <;> simp [q6i,h5,h6])
  (fun m=>by simp only [q01.next0,q01.round0,evz,Nat.reduceLT,Nat.lt_irrefl]; rfl) (show l.length < n by omega)
 refine one.trans ?_
 rw [show q01.at2 n n (q01.st2 l.length 0 (cells l))=_ from two,twice_pairs (fun y:Symbol=>y.name),q7o]
 cases l.findSome? q6i with
 | some c=>rfl
 | none=>cases twice (l.map fun x=>x.name) <;> cases l.any (fun x=>decide (x.arity=0)) <;> rfl
end Ev.Ty
end
section
namespace Ev.Ty
open Go Ev
open Enc (enc)
open Sm (sm)
set_option linter.unusedSimpArgs false
set_option linter.unusedVariables false
theorem q75 {n a b:Int}:inR n a b=true↔a≤n∧n≤b:=by unfold inR; simp
structure SigOk (s:Signature):Prop where
 pos:1≤s.symbols.length
 le:s.symbols.length≤6
 name:∀ x∈s.symbols,nameOk x.name=true
 arity:∀ x∈s.symbols,0≤x.arity∧x.arity≤2
 nodup:(s.symbols.map (·.name)).Nodup
 const:∃ x∈s.symbols,x.arity=0
theorem q7s {α β:Type} {f:α→Option β}:∀ {l:List α},l.findSome? f=none↔∀ x∈l,f x=none
 | []=>by simp
 | x::l=>by
   rw [List.findSome?_cons]
   cases h:f x with
   | some b=>simp [h]
   | none=>simp [h,q7s (l:=l)]
theorem sigOk_iff (s:Signature):q30 s=0↔SigOk s:=by
 unfold q30
 constructor
 · intro h
   split at h
   · cases h
   · rename_i h1
     split at h
     · rename_i c hc
       obtain ⟨x,hx,hf⟩:=List.exists_of_findSome?_eq_some hc
       unfold q6i at hf
       split at hf
       · cases hf; cases h
       · split at hf
         · cases hf; cases h
         · cases hf
     · rename_i hn
       rw [q7s] at hn
       split at h
       · cases h
       · rename_i ht
         split at h
         · rename_i ha
           have hx:∀ x∈s.symbols,nameOk x.name=true∧inR x.arity 0 2=true:=fun x hx=>by
            have:=hn x hx
            unfold q6i at this
            split at this
            · cases this
            · split at this
              · cases this
              · rename_i h1 h2; exact ⟨by simpa using h1,by simpa using h2⟩
           refine ⟨by omega,by omega,fun x h=>(hx x h).1,fun x h=>q75.1 (hx x h).2,?_,?_⟩
           · unfold twice at ht; simpa using ht
           · rw [List.any_eq_true] at ha
             obtain ⟨x,h1,h2⟩:=ha
             exact ⟨x,h1,by simpa using h2⟩
         · cases h
 · intro h
   rw [if_neg (by have:=h.pos; have:=h.le; omega)]
   have:s.symbols.findSome? q6i=none:=q7s.2 fun x hx=>by
    unfold q6i
    rw [if_neg (by simp [h.name x hx]),if_neg (by have:=q75.2 (h.arity x hx); simp [this])]
   rw [this]
   simp only
   rw [if_neg (by unfold twice; simpa using h.nodup),if_pos]
   rw [List.any_eq_true]
   obtain ⟨x,h1,h2⟩:=h.const
   exact ⟨x,h1,by simpa using h2⟩
end Ev.Ty
end
section
namespace Ev.Ty
open Go Ev
open Enc (enc)
open Sm (sm)
set_option linter.unusedSimpArgs false
set_option linter.unusedVariables false
def ar (l:List Symbol) (n:Int):Nat:=if n < 0 then 0 else ((l[n.toNat]?).map fun x=>x.arity.toNat).getD 0
def q4x (l:List Symbol) (n:Int):Bool:=inR n 0 (l.length - 1)||inR n (-12) (-1)
def skip (a:Int→Nat):Nat→List Int→Option (List Int)
 | 0,l=>some l
 | _+1,[]=>none
 | k+1,n::l=>skip a (k+a n) l
def q2s (l:List Symbol) (t:List Int):Int :=
 if t.length < 1∨24 < t.length then 2 else if t.any (fun n => !q4x l n) then 3 else if skip (ar l) 1 t=some [] then 0 else 1
def q4k (s:Signature) (t:List Int):Int:=if q30 s≠0 then q30 s else q2s s.symbols t
section
variable {a:Int→Nat}
@[simp] theorem q3q (l:List Int):skip a 0 l=some l:=by cases l <;> rfl
theorem q8z:∀ {l r:List Int} {k:Nat},skip a k l=some r→∃ p,l=p++r∧(0 < k→0 < p.length)
 | l,r,0,h=>by rw [q3q] at h; cases h; exact ⟨[],rfl,by omega⟩
 | [],r,k+1,h=>by cases h
 | n::l,r,k+1,h=>by
   obtain ⟨p,hp,_⟩:=q8z (l:=l) (k:=k+a n) h
   exact ⟨n::p,by rw [hp]; rfl,by simp⟩
theorem q88:∀ (l:List Int) (j k:Nat),skip a (j+k) l=(skip a j l).bind (skip a k)
 | l,0,k=>by simp
 | [],j+1,k=>by rw [Nat.add_right_comm]; rfl
 | n::l,j+1,k=>by
   rw [Nat.add_right_comm]
   show skip a (j+k+a n) l=(skip a (j+a n) l).bind (skip a k)
   rw [Nat.add_right_comm,q88 l (j+a n) k]
theorem skip_at {t r:List Int} {e k:Nat} (h:skip a k (t.drop e)=some r):r=t.drop (t.length - r.length)∧r.length≤t.length - e∧(0 < k→r.length < t.length - e):=by
 obtain ⟨p,hp,hk⟩:=q8z h
 have hl:(t.drop e).length=p.length+r.length:=by rw [hp,List.length_append]
 rw [List.length_drop] at hl
 refine ⟨?_,by omega,fun h0=>by have:=hk h0; omega⟩
 have h1:t.length - r.length=e+p.length∨t.length≤e:=by omega
 rcases h1 with h1 | h1
 · rw [h1,← List.drop_drop,hp,List.drop_left]
 · have:r.length=0:=by omega
   rw [List.eq_nil_of_length_eq_zero this]
   simp
end
theorem q4o {l:List Symbol} {n:Int}:q4x l n=true↔(0≤n∧n < l.length)∨(-12≤n∧n ≤ -1):=by
 unfold q4x
 rw [Bool.or_eq_true,q75,q75]
 omega
section
variable {l:List Symbol} (ok:SigOk ⟨l⟩)
include ok
theorem ar_le (n:Int):ar l n≤2:=by
 unfold ar
 split
 · omega
 · cases h:l[n.toNat]? with
   | none=>simp
   | some x =>
     have:=ok.arity x (List.mem_of_getElem? h)
     simp; omega
theorem q6z (n:Int):Call F.q6z [.agg [slc l],.int .i64 n] (.bool (q4x l n)):=by
 have hle:=ok.le
 have h1:Call F.q4i [.agg [slc l],.int .i64 n] (.bool (inR n 0 (l.length - 1))):=by
  refine q0v rfl 0 ((q4i.ev _ _ _).trans ?_)
  simp only [evz,Nat.reduceLT,q2u (x:=(l.length:Int) - 1) (by simp at hle; omega),(q3i _ _ _).eq]
 refine q0v rfl 0 ((q6z.ev _ _ _).trans ?_)
 simp only [evz,Nat.reduceLT,h1.eq,(q3i _ _ _).eq,q4x]
 cases inR n 0 (l.length - 1) <;> simp [evz,Nat.reduceLT]
theorem q6s (n:Int):Call F.q6s [.rref [slc l] 0,.int .i64 n] (.bool (q4x l n)):=by
 have hle:=ok.le
 have h1:Call F.q4g [.rref [slc l] 0,.int .i64 n] (.bool (inR n 0 (l.length - 1))):=by
  refine q0v rfl 0 ((q4g.ev _ _ _).trans ?_)
  simp only [evz,Nat.reduceLT,q2u (x:=(l.length:Int) - 1) (by simp at hle; omega),(q4w _ _ _).eq]
 refine q0v rfl 0 ((q6s.ev _ _ _).trans ?_)
 simp only [evz,Nat.reduceLT,h1.eq,(q4w _ _ _).eq,q4x]
 cases inR n 0 (l.length - 1) <;> simp [evz,Nat.reduceLT]
theorem ar_eq {n:Int} (hn:0≤n) (h:n.toNat < l.length):(l[n.toNat]).arity=(ar l n:Nat):=by
 have:=ok.arity l[n.toNat] (List.getElem_mem h)
 unfold ar
 rw [if_neg (by omega),List.getElem?_eq_getElem h]
 simp; omega
theorem q5l (n:Int) (h:q4x l n=true):Call F.q5l [.agg [slc l],.int .i64 n] (.int .i64 (ar l n:Nat)):=by
 refine q0v rfl 0 ((q5l.ev _ _ _).trans ?_)
 rw [q4o] at h
 by_cases hn:n < 0
 · simp [hn,ar]
 · obtain ⟨m,rfl⟩:∃ m:Nat,n=m:=⟨n.toNat,by omega⟩
   have hm:m < l.length:=by omega
   have e:=ar_eq ok (n:=m) (by omega) (by simpa using hm)
   have hl:l[m]?=some l[m]:=List.getElem?_eq_getElem hm
   have hn':¬ ((m:Int) < 0):=by omega
   simp only [evz,Nat.reduceLT,hn',hm,hl,q2k]
   simp at e
   rw [e]
def q7q (none':Int) (t:List Int) (r:Option (List Int)):Int:=match r with
 | some r=>((t.length - r.length:Nat):Int)
 | none=>none'
theorem q20 (t:List Int) (ht:∀ n∈t,q4x l n=true) (hl:t.length≤4294967296) (e:Nat) (he:e≤t.length) :
 Call F.q20 [.agg [slc l],slc t,.int .i64 e] (.int .i64 (q7q (t.length+1) t (skip (ar l) 1 (t.drop e)))):=by
 have loop:∀ m k o,k≤t.length→t.length+1 < m+k→o≤2*k+1 →
  q20.at0 (t.length+2) m (q20.st0 (cells t) (k:Nat) (o:Nat) (cells l))=some (.int .i64 (q7q (t.length+1) t (skip (ar l) o (t.drop k))),[]):=by
  intro m
  induction m with
  | zero=>intros; omega
  | succ m ih =>
    intro k o hk hm ho
    simp only [q20.next0,q20.round0,evz,Nat.reduceLT,gt_iff_lt,ge_iff_le]
    cases o with
    | zero =>
      rw [if_neg (by omega),q3q]
      simp only [q7q,List.length_drop]
      congr 3; omega
    | succ o =>
      rw [if_pos (by omega)]
      by_cases h:k < t.length
      · have hk':t[k]?=some t[k]:=List.getElem?_eq_getElem h
        have hn:=ht t[k] (List.getElem_mem h)
        have h2:=ar_le ok t[k]
        rw [if_neg (by omega)]
        simp only [h,hk',evz,Nat.reduceLT,q1r,(q5l ok t[k] hn).eq]
        rw [q0l (by omega),q2u (x:=((ar l t[k]:Nat):Int) - 1) (by omega),q2u (by omega)]
        rw [show ((o+1:Nat):Int)+(((ar l t[k]:Nat):Int) - 1)=((o+ar l t[k]:Nat):Int) by omega]
        rw [ih (k+1) (o+ar l t[k]) (by omega) (by omega) (by omega),List.drop_eq_getElem_cons h]
        rfl
      · obtain rfl:k=t.length:=by omega
        rw [if_pos (by omega),q2u (by omega),List.drop_of_length_le (Nat.le_refl _)]
        rfl
 refine q0v rfl (t.length+2) ((q20.ev _ _ _ _).trans ?_)
 have:=loop (t.length+2) e 1 he (by omega) (by omega)
 exact this
theorem q1l (t:List Int) (ht:∀ n∈t,q4x l n=true) (hl:t.length≤4294967296) (e:Nat) (he:e≤t.length) :
 Call F.q1l [.rref [slc l] 0,slc t,.int .i64 e] (.int .i64 (q7q (-1) t (skip (ar l) 1 (t.drop e)))):=by
 obtain ⟨d,hd⟩:∃ d,d=t.length - e:=⟨_,rfl⟩
 induction d using Nat.strongRecOn generalizing e with
 | ind d ih =>
 refine q0v rfl 4 ((q1l.ev _ _ _ _).trans ?_)
 simp only [evz,Nat.reduceLT,ge_iff_le]
 by_cases h:e < t.length
 case neg =>
  obtain rfl:e=t.length:=by omega
  rw [if_pos (by omega),List.drop_of_length_le (Nat.le_refl _)]
  rfl
 have hk':t[e]?=some t[e]:=List.getElem?_eq_getElem h
 have hn:=ht t[e] (List.getElem_mem h)
 have h2:=ar_le ok t[e]
 rw [if_neg (by omega)]
 simp only [h,hk',evz,Nat.reduceLT,q1r]
 rw [List.drop_eq_getElem_cons h]
 show _=some (T.int .i64 (q7q (-1) t (skip (ar l) (0+ar l t[e]) (t.drop (e+1)))),[])
 rw [Nat.zero_add,q0l (by omega)]
 by_cases hneg:t[e] < 0
 · rw [if_pos hneg]
   have:ar l t[e]=0:=by unfold ar; rw [if_pos hneg]
   rw [this,q3q]
   simp only [q7q,List.length_drop]
   congr 3; omega
 rw [if_neg hneg]
 rw [q4o] at hn
 obtain ⟨y,hy⟩:∃ y:Nat,t[e]=y:=⟨t[e].toNat,by omega⟩
 have hym:y < l.length:=by omega
 have hyl:l[y]?=some l[y]:=List.getElem?_eq_getElem hym
 have hya:l[y].arity=(ar l t[e]:Nat):=by
  have:=ar_eq ok (n:=t[e]) (by omega) (by omega)
  simpa [hy] using this
 have loop:∀ m i k,e < k→k≤t.length→i≤ar l t[e]→ar l t[e] < m+i →
  q1l.at0 4 m (q1l.st0 (cells l) (cells t) e (k:Nat) (i:Nat))=some (.int .i64 (q7q (-1) t (skip (ar l) (ar l t[e] - i) (t.drop k))),[]):=by
  intro m
  induction m with
  | zero=>intros; omega
  | succ m ihm =>
    intro i k hk1 hk2 hi hm
    simp only [q1l.next0,q1l.round0,evz,Nat.reduceLT,h,hk',q1r]
    simp only [hy,evz,Nat.reduceLT,hym,hyl,q2k,hya]
    by_cases hia:i < ar l t[e]
    · rw [hy] at hia
      rw [if_pos hia,(ih (t.length - k) (by omega) k hk2 rfl).eq]
      simp only [evz,Nat.reduceLT]
      rw [← hy] at hia
      rw [show ar l ((y:Nat):Int) - i=1+(ar l t[e] - (i+1)) by rw [hy]; rw [hy] at hia; omega,q88]
      cases hs:skip (ar l) 1 (t.drop k) with
      | none=>rfl
      | some r =>
        obtain ⟨hr1,hr2,hr3⟩:=skip_at hs
        have hr4:=hr3 (by omega)
        have hnn:¬ q7q (-1) t (some r) < 0:=by show ¬ ((t.length - r.length:Nat):Int) < 0; omega
        rw [if_neg hnn,q0l (by omega),show q7q (-1) t (some r)=((t.length - r.length:Nat):Int) from rfl,ihm (i+1) (t.length - r.length) (by omega) (by omega) (by omega) (by omega),← hr1]
        rfl
    · have:i=ar l t[e]:=by omega
      rw [if_neg (by rw [← hy]; exact hia),show ar l ((y:Nat):Int) - i=0 by rw [← hy]; omega,q3q]
      simp only [q7q,List.length_drop]
      congr 3; omega
 have:=loop 4 0 (e+1) (by omega) (by omega) (by omega) (by omega)
 exact this
end
theorem any_nodes {l:List Symbol} {t:List Int}:(t.any fun n => !q4x l n)=false↔∀ n∈t,q4x l n=true:=by
 rw [List.any_eq_false]; simp
theorem skip_whole {a:Int→Nat} {t:List Int}:(q7q (t.length+1) t (skip a 1 t)=t.length↔skip a 1 t=some [])∧(q7q (-1) t (skip a 1 t)=t.length↔skip a 1 t=some []):=by
 cases h:skip a 1 t with
 | none=>simp [q7q]; omega
 | some r =>
   obtain ⟨p,hp,_⟩:=q8z h
   have:r.length≤t.length:=by rw [hp]; simp
   cases r with
   | nil=>simp [q7q]
   | cons x r =>
     simp only [List.length_cons] at this
     refine ⟨⟨fun h => ?_,fun h=>by cases h⟩,⟨fun h => ?_,fun h=>by cases h⟩⟩ <;> (simp only [q7q,List.length_cons] at h; omega)
theorem q2w (l:List Symbol) (ok:SigOk ⟨l⟩) (t:List Int) (hs:t.length≤4294967296) :
 Call F.q1w [slc t,.clo F.q31 [.rref [slc l] 0]] (.bool (t.any fun n => !q4x l n)):=by
 have hi:Call F.q0g [slc t,.clo F.q31 [.rref [slc l] 0]] (.int .i64 (idx (fun n => !q4x l n) t)):=by
  refine q0v rfl (t.length+1) ((q09.ev _ _ _).trans ?_)
  refine q6o (S:=fun m k=>q09.at0 (t.length+1) m (q09.st0 (cells t) _ _ (k:Nat))) (fun m k h => ?_) (fun m => ?_) (Nat.lt_succ_self _)
  · have hlk:t[k]?=some t[k]:=List.getElem?_eq_getElem h
    have hc:Call F.q31 [.int .i64 t[k],.rref [slc l] 0] (.bool (!q4x l t[k])):=by
     refine q0v rfl 0 ((q31.ev _ _ _).trans ?_)
     simp only [evz,Nat.reduceLT,(q6z ok _).eq]
    simp only [q09.next0,q09.round0,evz,Nat.reduceLT,h,hlk,q1r,hc.eq]
    rw [q0l (by omega)]
    cases q4x l t[k] <;> rfl
  · simp only [q09.next0,q09.round0,evz,Nat.reduceLT,Nat.lt_irrefl]
 refine q0v rfl 0 ((q2w.ev _ _ _).trans ?_)
 simp only [evz,Nat.reduceLT,hi.eq,q7f]
theorem q2x (l:List Symbol) (hs:l.length≤4294967296) (t:List Int) (ht:t.length≤4294967296):Call F.q2x [.agg [slc l],slc t] (.int .i64 (q4k ⟨l⟩ t)):=by
 refine q0v rfl 0 ((q2x.ev _ _ _).trans ?_)
 simp only [evz,Nat.reduceLT,(q04 l hs).eq,q4k,q2s,gt_iff_lt]
 by_cases h1:q30 ⟨l⟩=0
 case neg=>simp only [h1,evz,Nat.reduceLT,ne_eq,not_false_eq_true]
 have ok:=(sigOk_iff _).1 h1
 simp only [h1,evz,Nat.reduceLT,ne_eq,not_true_eq_false]
 by_cases h2:t.length < 1
 · have h2':(t.length:Int) < 1:=by omega
   simp only [h2,h2',evz,Nat.reduceLT,true_or]
 by_cases h3:24 < t.length
 · have h2':¬ (t.length:Int) < 1:=by omega
   have h3':(24:Int) < t.length:=by omega
   simp only [h2,h2',h3,h3',evz,Nat.reduceLT,or_true]
 have h2':¬ (t.length:Int) < 1:=by omega
 have h3':¬ (24:Int) < t.length:=by omega
 simp only [h2,h2',h3,h3',evz,Nat.reduceLT,or_self,(q2w l ok t ht).eq]
 cases h4:t.any fun n => !q4x l n with
 | true=>simp only [evz,Nat.reduceLT]
 | false =>
   have hn:=any_nodes.1 h4
   have he:=q20 ok t hn ht 0 (by omega)
   simp only [evz,Nat.reduceLT,Bool.false_eq_true,show LIM F.q20 [.agg [slc l],slc t,.int .i64 0]=_ from he,List.drop_zero]
   by_cases h5:skip (ar l) 1 t=some []
   · rw [if_pos (skip_whole.1.2 h5),if_pos h5]
   · rw [if_neg fun h=>h5 (skip_whole.1.1 h),if_neg h5]
theorem q0u (l:List Symbol) (ok:SigOk ⟨l⟩) (t:List Int) (ht:t.length≤4294967296):Call F.q0u [.rref [slc l] 0,slc t] (.int .i64 (q2s l t)):=by
 refine q0v rfl (t.length+1) ((q0u.ev _ _ _).trans ?_)
 simp only [evz,Nat.reduceLT,q2s,gt_iff_lt]
 by_cases h2:t.length < 1
 · have h2':(t.length:Int) < 1:=by omega
   simp only [h2,h2',evz,Nat.reduceLT,true_or]
 by_cases h3:24 < t.length
 · have h2':¬ (t.length:Int) < 1:=by omega
   have h3':(24:Int) < t.length:=by omega
   simp only [h2,h2',h3,h3',evz,Nat.reduceLT,or_true]
 have h2':¬ (t.length:Int) < 1:=by omega
 have h3':¬ (24:Int) < t.length:=by omega
 simp only [h2,h2',h3,h3',evz,Nat.reduceLT,or_self]
 have step:∀ m k (h:k < t.length),q0u.at0 (t.length+1) (m+1) (q0u.st0 (cells l) (cells t) (k:Nat)) =
  if (fun n => !q4x l n) t[k]=true then some (.int .i64 3,[]) else q0u.at0 (t.length+1) m (q0u.st0 (cells l) (cells t) ((k+1:Nat):Int)):=fun m k h=>by
  have hlk:t[k]?=some t[k]:=List.getElem?_eq_getElem h
  simp only [q0u.next0,q0u.round0,evz,Nat.reduceLT,h,hlk,q1r,(q6s ok _).eq]
  rw [q0l (by omega)]
  by_cases hb:q4x l t[k]=true <;> simp [hb]
 cases h4:t.any fun n => !q4x l n with
 | true =>
   refine (hit_loop (p:=fun n => !q4x l n) (r:=some (.int .i64 3,[])) (S:=fun m k=>q0u.at0 (t.length+1) m (q0u.st0 (cells l) (cells t) (k:Nat))) step h4 (Nat.lt_succ_self _)).trans ?_
   simp only [evz,Nat.reduceLT]
 | false =>
   have hn:=any_nodes.1 h4
   have he:=q1l ok t hn ht 0 (by omega)
   refine (q7n (p:=fun n => !q4x l n) (r:=some (.int .i64 3,[])) (S:=fun m k=>q0u.at0 (t.length+1) m (q0u.st0 (cells l) (cells t) (k:Nat))) (z:=if skip (ar l) 1 t=some [] then some (.int .i64 0,[]) else some (.int .i64 1,[])) step (fun m => ?_) (Nat.lt_succ_self _)).trans ?_
   · simp only [q0u.next0,q0u.round0,evz,Nat.reduceLT,Nat.lt_irrefl,show LIM F.q1l [.rref [slc l] 0,slc t,.int .i64 0]=_ from he,List.drop_zero]
     by_cases h5:skip (ar l) 1 t=some []
     · rw [if_pos (skip_whole.2.2 h5),if_pos h5]
     · rw [if_neg fun h=>h5 (skip_whole.2.1 h),if_neg h5]
   · rw [h4]
     simp only [evz,Nat.reduceLT,Bool.false_eq_true]
     by_cases h5:skip (ar l) 1 t=some [] <;> simp only [h5,if_true,if_false]
end Ev.Ty
end
section
namespace Ev.Ty
open Go Ev
set_option linter.unusedSimpArgs false
set_option linter.unusedVariables false
inductive Tm where
 | v (n:Int)
 | k (n:Int)
 | u (n:Int) (x:Tm)
 | b (n:Int) (x y:Tm)
 deriving DecidableEq
namespace Tm
def flat:Tm→List Int
 | v n=>[n]
 | k n=>[n]
 | u n x=>n::x.flat
 | b n x y=>n::(x.flat++y.flat)
def head:Tm→Int
 | v n=>n
 | k n=>n
 | u n _=>n
 | b n _ _=>n
def ok (a:Int→Nat):Tm→Prop
 | v n=>n < 0
 | k n=>0≤n∧a n=0
 | u n x=>0≤n∧a n=1∧x.ok a
 | b n x y=>0≤n∧a n=2∧x.ok a∧y.ok a
theorem flat_pos (x:Tm):0 < x.flat.length:=by cases x <;> simp [flat]
theorem flat_head (x:Tm):∃ r,x.flat=x.head::r:=by cases x <;> exact ⟨_,rfl⟩
variable {a:Int→Nat}
theorem skip_flat (ha:∀ n,n < 0→a n=0):∀ (x:Tm) (r:List Int) (j:Nat),x.ok a→skip a (j+1) (x.flat++r)=skip a j r
 | v n,r,j,h=>by
   show skip a (j+a n) r=_
   rw [ha n h,Nat.add_zero]
 | k n,r,j,h=>by
   show skip a (j+a n) r=_
   rw [h.2,Nat.add_zero]
 | u n x,r,j,h=>by
   show skip a (j+a n) (x.flat++r)=_
   rw [h.2.1]; exact skip_flat ha x r j h.2.2
 | b n x y,r,j,h=>by
   show skip a (j+a n) ((x.flat++y.flat)++r)=_
   rw [h.2.1,List.append_assoc,skip_flat ha x _ (j+1) h.2.2.1,skip_flat ha y _ j h.2.2.2]
theorem parse (ha:∀ n,n < 0→a n=0) (h2:∀ n,a n≤2):∀ (m:Nat) (l r:List Int),l.length≤m→skip a 1 l=some r→∃ x:Tm,x.ok a∧l=x.flat++r
 | _,[],r,_,h=>by cases h
 | 0,n::l,r,hm,h=>by simp at hm
 | m+1,n::l,r,hm,h=>by
   have hm:l.length≤m:=by simpa using hm
   have h:skip a (0+a n) l=some r:=h
   rw [Nat.zero_add] at h
   by_cases hn:n < 0
   · rw [ha n hn,q3q] at h; cases h
     exact ⟨.v n,hn,rfl⟩
   · have:=h2 n
     have h3:a n=0∨a n=1∨a n=2:=by omega
     rcases h3 with h0 | h1 | h2'
     · rw [h0,q3q] at h; cases h
       exact ⟨.k n,⟨by omega,h0⟩,rfl⟩
     · rw [h1] at h
       obtain ⟨x,hx,rfl⟩:=parse ha h2 m l r hm h
       exact ⟨.u n x,⟨by omega,h1,hx⟩,rfl⟩
     · rw [h2',show 2=1+1 from rfl,q88] at h
       cases hs:skip a 1 l with
       | none=>rw [hs] at h; cases h
       | some r1 =>
         rw [hs] at h
         have h9:skip a 1 r1=some r:=h
         obtain ⟨x,hx,rfl⟩:=parse ha h2 m l r1 hm hs
         obtain ⟨y,hy,rfl⟩:=parse ha h2 m r1 r (by simp at hm; omega) h9
         exact ⟨.b n x y,⟨by omega,h2',hx,hy⟩,by simp [flat]⟩
end Tm
theorem ar_neg (l:List Symbol) {n:Int} (h:n < 0):ar l n=0:=by unfold ar; rw [if_pos h]
structure TermOk (l:List Symbol) (t:List Int):Prop where
 pos:1≤t.length
 le:t.length≤24
 node:∀ n∈t,q4x l n=true
 skip:skip (ar l) 1 t=some []
theorem q4r (l:List Symbol) (t:List Int):q2s l t=0↔TermOk l t:=by
 unfold q2s
 constructor
 · intro h
   split at h
   · cases h
   · split at h
     · cases h
     · rename_i h1 h2
       split at h
       · rename_i h3
         exact ⟨by omega,by omega,any_nodes.1 (by simpa using h2),h3⟩
       · cases h
 · intro h
   have:=h.pos; have:=h.le
   rw [if_neg (by omega),if_neg (by rw [any_nodes.2 h.node]; simp),if_pos h.skip]
theorem TermOk.tree {l:List Symbol} {t:List Int} (ok:SigOk ⟨l⟩) (h:TermOk l t):∃ x:Tm,x.ok (ar l)∧t=x.flat:=by
 obtain ⟨x,hx,e⟩:=Tm.parse (fun n hn=>ar_neg l hn) (ar_le ok) t.length t [] (Nat.le_refl _) h.skip
 exact ⟨x,hx,by simpa using e⟩
theorem at_head {t r:List Int} {e:Nat} {x:Tm} (h:t.drop e=x.flat++r):e < t.length∧t[e]?=some x.head∧e+x.flat.length≤t.length:=by
 have hl:(t.drop e).length=x.flat.length+r.length:=by rw [h,List.length_append]
 have hp:=x.flat_pos
 rw [List.length_drop] at hl
 refine ⟨by omega,?_,by omega⟩
 have:(t.drop e)[0]?=some x.head:=by
  rw [h]; obtain ⟨r',e'⟩:=x.flat_head; rw [e']; rfl
 rwa [List.getElem?_drop,Nat.add_zero] at this
end Ev.Ty
end
section
namespace Ev.Ty
open Go Ev
open Enc (enc)
open Sm (sm)
set_option linter.unusedSimpArgs false
set_option linter.unusedVariables false
structure AlgOk (l:List Symbol) (z:Int) (tb:List (List Int)):Prop where
 sig:SigOk ⟨l⟩
 size:1≤z∧z≤3
 len:tb.length=l.length
 rows:∀ (k:Nat) (h:k < l.length) (h':k < tb.length),tb[k].length=z.toNat ^ (l[k]).arity.toNat∧∀ n∈tb[k],0≤n∧n≤z - 1
def Tm.eval (z:Int) (tb:List (List Int)) (vs:List Int):Tm→Int
 | v n=>vs.getD (-1 - n).toNat 0
 | k n=>(tb.getD n.toNat []).getD 0 0
 | u n x=>(tb.getD n.toNat []).getD (x.eval z tb vs).toNat 0
 | b n x y=>(tb.getD n.toNat []).getD (x.eval z tb vs*z+y.eval z tb vs).toNat 0
section
variable {l:List Symbol} {z:Int} {tb:List (List Int)} (al:AlgOk l z tb) {vs:List Int} (hv:vs.length=6) (hr:∀ n∈vs,0≤n∧n≤z - 1)
include al
include hv hr
end
end Ev.Ty
end
section
namespace Ev.Ty
open Go Ev
open Enc (enc)
open Sm (sm)
set_option linter.unusedSimpArgs false
set_option linter.unusedVariables false
theorem getD_of {α:Type} {v:List α} {i:Nat} {d:α} (h:i < v.length):v.getD i d=v[i]:=by simp [h]
section
variable {l:List Symbol} {z:Int} {tb:List (List Int)} (al:AlgOk l z tb) {vs:List Int} (hv:vs.length=6) (hr:∀ n∈vs,0≤n∧n≤z - 1)
include al hv hr
end
end Ev.Ty
end
section
namespace Ev.Ty
open Go Ev
open Enc (enc)
open Sm (sm)
set_option linter.unusedSimpArgs false
set_option linter.unusedVariables false
theorem q1h (l:List Int) (hl:l.length≤4294967296):Call F.q1h [slc l] (.int .i64 ((l.find? fun n=>decide (n≠0)).getD 0)):=by
 refine q0v rfl (l.length+1) ((q1h.ev _ _).trans ?_)
 have:=q8u (l:=l) (g:=fun n=>if n≠0 then some (some (.int .i64 n,[])) else none) (z:=some (.int .i64 0,[])) (S:=fun m k=>q1h.at0 (l.length+1) m (q1h.st0 0 (cells l) l.length (k:Nat)))
  (fun m k h=>by
   have hlk:l[k]?=some l[k]:=List.getElem?_eq_getElem h
   simp only [q1h.next0,q1h.round0,evz,Nat.reduceLT,h,hlk,q1r]
   rw [q0l (by omega)]
   by_cases e:l[k]=0 <;> simp [e])
  (fun m=>by simp only [q1h.next0,q1h.round0,evz,Nat.reduceLT,Nat.lt_irrefl]) (Nat.lt_succ_self _)
 simp only [q5b,q39]
 refine this.trans ?_
 clear this
 induction l with
 | nil=>rfl
 | cons x l ih =>
   rw [List.findSome?_cons,List.find?_cons]
   by_cases e:x=0
   · simpa [e] using ih (by simp at hl; omega)
   · simp [e]
theorem impl_firstCode2 (a b:Int):Call F.q3z [.sl 1 [.int .i64 a,.int .i64 b]] (.int .i64 (if a=0 then b else a)):=by
 refine q0v rfl 0 ((q3z.ev _ _).trans ?_)
 have:=q1h [a,b] (by simp)
 simp only [evz,Nat.reduceLT,show LIM F.q1h [.sl 1 [.int .i64 a,.int .i64 b]]=_ from this]
 by_cases h:a=0
 · by_cases h':b=0 <;> simp [h,h']
 · simp [h]
theorem impl_firstCode3 (a b c:Int):Call F.q3z [.sl 1 [.int .i64 a,.int .i64 b,.int .i64 c]] (.int .i64 (if a=0 then if b=0 then c else b else a)):=by
 refine q0v rfl 0 ((q3z.ev _ _).trans ?_)
 have:=q1h [a,b,c] (by simp)
 simp only [evz,Nat.reduceLT,show LIM F.q1h [.sl 1 [.int .i64 a,.int .i64 b,.int .i64 c]]=_ from this]
 by_cases h:a=0
 · by_cases h':b=0
   · by_cases h'':c=0 <;> simp [h,h',h'']
   · simp [h,h']
 · simp [h]
theorem q25 (t:List Int) (hl:t.length≤4294967296):Call F.q25 [slc t] (.bool (!t.any fun n=>decide (n < -6))):=by
 refine q0v rfl (t.length+1) ((q25.ev _ _).trans ?_)
 refine (q7n (l:=t) (p:=fun n=>decide (n < -6)) (r:=some (.bool false,[])) (z:=some (.bool true,[])) (S:=fun m k=>q25.at0 (t.length+1) m (q25.st0 (cells t) (k:Nat))) (fun m k h => ?_) (fun m => ?_) (Nat.lt_succ_self _)).trans ?_
 · have hlk:t[k]?=some t[k]:=List.getElem?_eq_getElem h
   simp only [q25.next0,q25.round0,evz,Nat.reduceLT,h,hlk,q1r]
   rw [q0l (by omega)]
   simp only [decide_eq_true_eq]
 · simp only [q25.next0,q25.round0,evz,Nat.reduceLT,Nat.lt_irrefl]
 · cases t.any fun n=>decide (n < -6) <;> rfl
section
variable (l:List Symbol) (z:Int) (tb:List (List Int)) (vs t:List Int) (hs:l.length≤4294967296) (ht:sm 4294967296 tb) (hl:t.length≤4294967296)
include hs ht hl
end
end Ev.Ty
end
section
namespace Ev.Ty
open Go Ev
open Enc (enc)
open Sm (sm)
set_option linter.unusedSimpArgs false
set_option linter.unusedVariables false
theorem q6d:∀ l:List Int,intsT l=cells l
 | []=>rfl
 | x::l=>by rw [q6e,← q6d l]; rfl
def sorted (l:List Int):List Int:=l.mergeSort fun x y=>decide (x≤y)
theorem q67 (l:List Int) (h:l.length≤4294967296):LIM F.q67 [slc l]=some (.tup [],[slc (sorted l)]):=by
 refine lim_ext (e:=sortE) rfl (Ev.of fun m => ?_)
 show ((intsOf (cells l)).bind fun zs=>bif decide (zs.length < 4611686018427387904) then some (T.tup [],[T.sl 1 (intsT (zs.mergeSort fun x y=>decide (x≤y)))]) else none)=_
 rw [← q6d,q8c,Option.bind_some,decide_eq_true (by omega),cond_true,q6d]
 rfl
theorem q5g (l:List Int) (h:l.length≤4294967296):Call F.q5g [slc l] (slc (Lib.compact l)):=by
 refine lim_ext (e:=compactE) rfl (Ev.of fun m => ?_)
 show ((intsOf (cells l)).bind fun zs=>bif decide (zs.length < 4611686018427387904) then some (T.sl 1 (intsT (Lib.compact zs)),[]) else none)=_
 rw [← q6d,q8c,Option.bind_some,decide_eq_true (by omega),cond_true,q6d]
 rfl
theorem mem_compact {l:List Int} {x:Int}:x∈Lib.compact l↔x∈l:=by
 unfold Lib.compact Lib.compactUpTo
 simp only [List.mem_map,List.mem_filter,List.mem_range]
 constructor
 · rintro ⟨j,⟨hj,_⟩,rfl⟩
   rw [getElem!_pos _ j (by simpa using hj)]
   simp
 · intro h
   obtain ⟨i,hi,rfl⟩:=List.mem_iff_getElem.1 h
   have:∀ j,(hj:j < l.length)→∃ k,(k < l.length∧Lib.keeps l.toArray k=true)∧l.toArray[k]! = l[j]:=by
    intro j
    induction j with
    | zero=>intro hj; exact ⟨0,⟨hj,by simp [Lib.keeps]⟩,by simp [hj]⟩
    | succ j ih =>
      intro hj
      by_cases e:l[j+1]=l[j]
      · obtain ⟨k,hk,he⟩:=ih (by omega)
        exact ⟨k,hk,by rw [he,e]⟩
      · refine ⟨j+1,⟨hj,?_⟩,by simp [hj]⟩
        have hj':j < l.length:=by omega
        simp [Lib.keeps,hj,hj',e]
   exact this i hi
theorem compact_length (l:List Int):(Lib.compact l).length≤l.length:=compact_len l
def vars (t:List Int):List Int:=(t.filter fun n=>decide (n < 0)).map fun n => -1 - n
theorem mem_vars {t:List Int} {v:Int}:v∈vars t↔0≤v∧(-1 - v)∈t:=by
 unfold vars
 simp only [List.mem_map,List.mem_filter,decide_eq_true_eq]
 constructor
 · rintro ⟨n,⟨hn,h0⟩,rfl⟩
   exact ⟨by omega,by rw [show -1 - (-1 - n)=n by omega]; exact hn⟩
 · rintro ⟨h0,h⟩
   exact ⟨-1 - v,⟨h,by omega⟩,by omega⟩
theorem vars_length (t:List Int):(vars t).length≤t.length:=by
 unfold vars
 rw [List.length_map]; exact List.length_filter_le _ _
def q8n (l:List (List Int)):List Int:=Lib.compact (sorted (l.flatMap vars))
theorem q7e {l:List (List Int)} {v:Int}:v∈q8n l↔0≤v∧∃ t∈l,(-1 - v)∈t:=by
 unfold q8n sorted
 rw [mem_compact,List.mem_mergeSort,List.mem_flatMap]
 constructor
 · rintro ⟨t,ht,h⟩
   obtain ⟨h0,h1⟩:=mem_vars.1 h
   exact ⟨h0,t,ht,h1⟩
 · rintro ⟨h0,t,ht,h1⟩
   exact ⟨t,ht,mem_vars.2 ⟨h0,h1⟩⟩
theorem flat_vars_length:∀ l:List (List Int),(l.flatMap vars).length≤(l.map List.length).sum
 | []=>by simp
 | t::l=>by
   rw [List.flatMap_cons,List.length_append,List.map_cons,List.sum_cons]
   have:=vars_length t
   have:=flat_vars_length l
   omega
theorem varsOf_length (l:List (List Int)):(q8n l).length≤(l.map List.length).sum:=by
 unfold q8n
 refine Nat.le_trans (compact_length _) ?_
 unfold sorted
 rw [List.length_mergeSort]
 exact flat_vars_length l
theorem q0m (l:List (List Int)) (hl:l.length≤24) (ht:∀ t∈l,t.length≤4294967296∧∀ n∈t,-12≤n) (hsum:(l.map List.length).sum≤4294967296):Call F.q0m [slc l] (slc (q8n l)):=by
 obtain ⟨N,hN⟩:∃ N,N=4294967297:=⟨_,rfl⟩
 have inner:∀ (L0:St→R) (x0:List T) (x1 x2:Int) (t:List Int),(∀ n∈t,-12≤n)→∀ m k (acc:List Int),k≤t.length→t.length < m+k→acc.length+t.length≤k+4294967296→t.length≤4294967296 →
  q0m.at2 N L0 m (q0m.st2 x0 x1 x2 (cells t) t.length (k:Nat) (cells acc))=L0 (q0m.st0 x0 x1 (IntKind.wrap .i64 (x2+1)) (cells (acc++vars (t.drop k)))):=by
  intro L0 x0 x1 x2 t hn m
  induction m with
  | zero=>intros; omega
  | succ m ih =>
    intro k acc hk hm hacc htl
    by_cases h:k < t.length
    · have hlk:t[k]?=some t[k]:=List.getElem?_eq_getElem h
      simp only [q0m.next2,q0m.round2,evz,Nat.reduceLT,h,hlk,q1r]
      rw [q0l (by omega),List.drop_eq_getElem_cons h]
      have hge:=hn t[k] (List.getElem_mem h)
      by_cases h0:t[k] < 0
      · have hble:Nat.ble (((cells acc).length+1)*8) (140737488355328*1)=true:=by
         rw [Nat.ble_eq,q0t,q39]; omega
        rw [q2u (by omega),q2d,hble,ih (k+1) (acc++[-1 - t[k]]) (by omega) (by omega) (by rw [List.length_append]; simp; omega) htl]
        simp only [h0,evz,Nat.reduceLT,vars,List.filter_cons,List.map_cons,List.append_assoc,List.singleton_append]
      · rw [ih (k+1) acc (by omega) (by omega) (by omega) htl]
        simp only [h0,evz,Nat.reduceLT,vars,List.filter_cons,Bool.false_eq_true]
    · obtain rfl:k=t.length:=by omega
      simp only [q0m.next2,q0m.round2,evz,Nat.reduceLT,Nat.lt_irrefl,List.drop_length,vars,List.filter_nil,List.map_nil,List.append_nil]
 have outer:∀ m k (acc:List Int),k≤l.length→l.length < m+k→acc.length+((l.drop k).map List.length).sum≤4294967296 →
  q0m.at0 N m (q0m.st0 (cells l) l.length (k:Nat) (cells acc))=some (slc (Lib.compact (sorted (acc++(l.drop k).flatMap vars))),[]):=by
  intro m
  induction m with
  | zero=>intros; omega
  | succ m ih =>
    intro k acc hk hm hacc
    by_cases h:k < l.length
    · have hlk:l[k]?=some l[k]:=List.getElem?_eq_getElem h
      obtain ⟨q1,q2⟩:=ht l[k] (List.getElem_mem h)
      rw [List.drop_eq_getElem_cons h,List.map_cons,List.sum_cons] at hacc
      simp only [q0m.next0,q0m.round0,evz,Nat.reduceLT,h,hlk,q9b]
      have hin:=inner (q0m.at0 N m) (cells l) l.length (k:Nat) l[k] q2 N 0 acc (by omega) (by omega) (by omega) q1
      rw [List.drop_zero,q0l (by omega)] at hin
      refine Eq.trans hin ?_
      have:=vars_length l[k]
      rw [ih (k+1) (acc++vars l[k]) (by omega) (by omega) (by rw [List.length_append]; omega),List.drop_eq_getElem_cons h,List.flatMap_cons,List.append_assoc]
    · obtain rfl:k=l.length:=by omega
      rw [List.drop_length] at hacc ⊢
      have hs:=q67 acc (by simpa using hacc)
      have hc:=q5g (sorted acc) (by unfold sorted; rw [List.length_mergeSort]; simpa using hacc)
      simp only [q0m.next0,q0m.round0,evz,Nat.reduceLT,Nat.lt_irrefl,List.flatMap_nil,List.append_nil]
      simp only [hs,hc.eq,evz,Nat.reduceLT]
 refine q0v rfl N ((q0m.ev _ _).trans ?_)
 have:=outer N 0 [] (by omega) (by omega) (by simpa using hsum)
 rw [List.drop_zero,List.nil_append] at this
 simp only [q5b,sz_list]
 exact this
end Ev.Ty
end
section
namespace Ev.Ty
open Go Ev
open Enc (enc)
open Sm (sm)
set_option linter.unusedSimpArgs false
set_option linter.unusedVariables false
def low6 (t:List Int):Bool := !t.any fun n=>decide (n < -6)
theorem low6_iff {t:List Int}:low6 t=true↔∀ n∈t,-6≤n:=by
 unfold low6
 rw [Bool.not_eq_true',List.any_eq_false]
 constructor
 · intro h n hn; have:=h n hn; simpa using this
 · intro h n hn; simpa using h n hn
def q34 (l:List Symbol) (e:Equation):Int :=
 if q2s l e.left≠0 then q2s l e.left else if q2s l e.right≠0 then q2s l e.right else if low6 e.left=true then (if low6 e.right=true then 0 else 3) else 3
def q6j (l:List Symbol) (es:List Equation):Int :=
 if 12 < es.length then 2 else (es.findSome? fun e=>if q34 l e≠0 then some (q34 l e) else none).getD 0
def ruleOk (e:Equation):Bool:=decide (0≤e.left.headD 0) && !e.right.any fun n=>decide (n < 0∧n∉e.left)
def q84 (l:List Symbol) (es:List Equation):Int:=if q6j l es≠0 then q6j l es else if (es.any fun e => !ruleOk e)=true then 1 else 0
def q5d (s:Signature) (es:List Equation):Int:=if q30 s≠0 then q30 s else q84 s.symbols es
structure EqOk (l:List Symbol) (e:Equation):Prop where
 left:TermOk l e.left
 right:TermOk l e.right
 lowL:∀ n∈e.left,-6≤n
 lowR:∀ n∈e.right,-6≤n
theorem eqOk_iff {l:List Symbol} {e:Equation}:q34 l e=0↔EqOk l e:=by
 unfold q34
 constructor
 · intro h
   by_cases h1:q2s l e.left=0
   · by_cases h2:q2s l e.right=0
     · by_cases h3:low6 e.left=true
       · by_cases h4:low6 e.right=true
         · exact ⟨(q4r _ _).1 h1,(q4r _ _).1 h2,low6_iff.1 h3,low6_iff.1 h4⟩
         · simp [h1,h2,h3,h4] at h
       · simp [h1,h2,h3] at h
     · simp [h1,h2] at h
   · simp [h1] at h
 · intro h
   simp [(q4r _ _).2 h.left,(q4r _ _).2 h.right,low6_iff.2 h.lowL,low6_iff.2 h.lowR]
theorem eqsOk_iff {l:List Symbol} {es:List Equation}:q6j l es=0↔es.length≤12∧∀ e∈es,EqOk l e:=by
 unfold q6j
 by_cases h:12 < es.length
 · rw [if_pos h]
   constructor
   · intro h; cases h
   · intro h'; omega
 · rw [if_neg h]
   have:(es.findSome? fun e=>if q34 l e≠0 then some (q34 l e) else none).getD 0=0↔∀ e∈es,q34 l e=0:=by
    cases hf:es.findSome? fun e=>if q34 l e≠0 then some (q34 l e) else none with
    | none =>
      rw [q7s] at hf
      refine ⟨fun _ e he => ?_,fun _=>rfl⟩
      have:=hf e he
      by_cases h:q34 l e=0
      · exact h
      · simp [h] at this
    | some c =>
      obtain ⟨e,he,h1⟩:=List.exists_of_findSome?_eq_some hf
      by_cases h:q34 l e=0
      · simp [h] at h1
      · simp [h] at h1
        subst h1
        exact ⟨fun h'=>absurd h' h,fun h'=>absurd (h' e he) h⟩
   rw [this]
   constructor
   · intro h'; exact ⟨by omega,fun e he=>eqOk_iff.1 (h' e he)⟩
   · intro h' e he; exact eqOk_iff.2 (h'.2 e he)
theorem TermOk.ge {l:List Symbol} {t:List Int} (h:TermOk l t):∀ n∈t,-12≤n:=fun n hn=>by
 rcases q4o.1 (h.node n hn) with h | h <;> omega
theorem q2a (l:List Int) (x:Int) (hl:l.length≤4294967296):Call F.q2a [slc l,.int .i64 x] (.bool (decide (x∈l))):=by
 have hi:Call F.q0d [slc l,.int .i64 x] (.int .i64 (idx (fun y=>decide (x=y)) l)):=by
  refine q0v rfl (l.length+1) ((q0d.ev _ _ _).trans ?_)
  simp only [evz,Nat.reduceLT]
  refine q6o (S:=fun m k=>q0d.at0 (l.length+1) m (q0d.st0 (cells l) x l.length (k:Nat))) (fun m k h => ?_) (fun m => ?_) (Nat.lt_succ_self _)
  · have hlk:l[k]?=some l[k]:=List.getElem?_eq_getElem h
    simp only [q0d.next0,q0d.round0,evz,Nat.reduceLT,h,hlk,q1r]
    rw [q0l (by omega)]
    by_cases e:x=l[k] <;> simp [e]
  · simp only [q0d.next0,q0d.round0,evz,Nat.reduceLT,Nat.lt_irrefl]
 refine q0v rfl 0 ((q2a.ev _ _ _).trans ?_)
 simp only [evz,Nat.reduceLT,hi.eq,q7f]
 have:(l.any fun y=>decide (x=y))=decide (x∈l):=by
  rw [Bool.eq_iff_iff,List.any_eq_true,decide_eq_true_eq]
  constructor
  · rintro ⟨y,hy,h⟩; rw [decide_eq_true_eq] at h; rw [h]; exact hy
  · intro h; exact ⟨x,h,by simp⟩
 rw [this]
theorem q2m (t:List Int) (hs:t.length≤4294967296) :
 Call F.q1w [slc t,.clo F.q2b []] (.bool (t.any fun n=>decide (n ≥ 6))):=by
 have hi:Call F.q0g [slc t,.clo F.q2b []] (.int .i64 (idx (fun n=>decide (n ≥ 6)) t)):=by
  refine q0v rfl (t.length+1) ((q05.ev _ _).trans ?_)
  refine q6o (S:=fun m k=>q05.at0 (t.length+1) m (q05.st0 (cells t) _ (k:Nat))) (fun m k h => ?_) (fun m => ?_) (Nat.lt_succ_self _)
  · have hlk:t[k]?=some t[k]:=List.getElem?_eq_getElem h
    have hc:Call F.q2b [.int .i64 t[k]] (.bool (decide (t[k] ≥ 6))):=q0v rfl 0 (q2b.ev _ _)
    simp only [q05.next0,q05.round0,evz,Nat.reduceLT,h,hlk,q1r,hc.eq]
    rw [q0l (by omega)]
    by_cases e:t[k] ≥ 6 <;> simp [e]
  · simp only [q05.next0,q05.round0,evz,Nat.reduceLT,Nat.lt_irrefl]
 refine q0v rfl 0 ((q2m.ev _ _).trans ?_)
 simp only [evz,Nat.reduceLT,hi.eq,q7f]
theorem q42 (l:List Symbol) (hs:l.length≤4294967296) (a b:List Int) (ha:a.length≤4294967296) (hb:b.length≤4294967296) :
 Call F.q42 [.agg [slc l],.agg [slc a,slc b]] (.int .i64 (if q30 ⟨l⟩≠0 then q30 ⟨l⟩ else q34 l ⟨a,b⟩)):=by
 refine q0v rfl 0 ((q42.ev _ _ _ _).trans ?_)
 simp only [evz,Nat.reduceLT,(q2x l hs a ha).eq,(q2x l hs b hb).eq,(impl_firstCode2 _ _).eq,q4k,q34]
 by_cases h1:q30 ⟨l⟩=0
 case neg=>simp only [h1,evz,Nat.reduceLT,ne_eq,not_false_eq_true]
 simp only [h1,evz,Nat.reduceLT,ne_eq,not_true_eq_false]
 by_cases h2:q2s l a=0
 case neg=>simp only [h2,evz,Nat.reduceLT,not_false_eq_true]
 by_cases h3:q2s l b=0
 case neg=>simp only [h2,h3,evz,Nat.reduceLT,not_true_eq_false,not_false_eq_true]
 have ta:=(q4r l a).1 h2
 have tb:=(q4r l b).1 h3
 have hal:=ta.le
 have hbl:=tb.le
 have hv:=q0m [a,b] (by simp) (fun t ht=>by
  simp only [List.mem_cons,List.not_mem_nil,or_false] at ht
  rcases ht with rfl | rfl
  · exact ⟨ha,ta.ge⟩
  · exact ⟨hb,tb.ge⟩) (by simp; omega)
 have hvl:=varsOf_length [a,b]
 have hc:=q2m (q8n [a,b]) (by simp at hvl; omega)
 simp only [h2,h3,evz,Nat.reduceLT,not_true_eq_false,show LIM F.q0m [.sl 1 [slc a,slc b]]=_ from hv,hc.eq]
 have e1:((q8n [a,b]).any fun n=>decide (n ≥ 6)) = !(low6 a&&low6 b):=by
  rw [Bool.eq_iff_iff,List.any_eq_true,Bool.not_eq_true',Bool.eq_false_iff,ne_eq,Bool.and_eq_true,low6_iff,low6_iff]
  constructor
  · rintro ⟨v,hv,h6⟩ ⟨q1,q2⟩
    rw [decide_eq_true_eq] at h6
    obtain ⟨_,t,ht,hm⟩:=q7e.1 hv
    simp only [List.mem_cons,List.not_mem_nil,or_false] at ht
    rcases ht with rfl | rfl
    · have:=q1 _ hm; omega
    · have:=q2 _ hm; omega
  · intro h
    by_cases q1:∀ n∈a,-6≤n
    · have q2:¬ ∀ n∈b,-6≤n:=fun q2=>h ⟨q1,q2⟩
      simp only [Classical.not_forall] at q2
      obtain ⟨n,hn,hlt⟩:=q2
      exact ⟨-1 - n,q7e.2 ⟨by omega,b,by simp,by rw [show -1 - (-1 - n)=n by omega]; exact hn⟩,by simp; omega⟩
    · simp only [Classical.not_forall] at q1
      obtain ⟨n,hn,hlt⟩:=q1
      exact ⟨-1 - n,q7e.2 ⟨by omega,a,by simp,by rw [show -1 - (-1 - n)=n by omega]; exact hn⟩,by simp; omega⟩
 rw [e1]
 cases low6 a <;> cases low6 b <;> rfl
theorem q52 (l:List Symbol) (ok:SigOk ⟨l⟩) (a b:List Int) (ha:a.length≤4294967296) (hb:b.length≤4294967296) :
 Call F.q52 [.rref [slc l] 0,.rref [slc a,slc b] 0] (.int .i64 (q34 l ⟨a,b⟩)):=by
 have la:Call F.q25 [slc a] (.bool (low6 a)):=q25 a ha
 have lb:Call F.q25 [slc b] (.bool (low6 b)):=q25 b hb
 refine q0v rfl 0 ((q52.ev _ _ _ _).trans ?_)
 simp only [evz,Nat.reduceLT,(q0u l ok a ha).eq,(q0u l ok b hb).eq,la.eq,lb.eq,q34]
 by_cases h2:q2s l a=0
 case neg=>simp only [h2,evz,Nat.reduceLT,ne_eq,not_false_eq_true]
 by_cases h3:q2s l b=0
 case neg=>simp only [h2,h3,evz,Nat.reduceLT,ne_eq,not_true_eq_false,not_false_eq_true]
 simp only [h2,h3,evz,Nat.reduceLT,ne_eq,not_true_eq_false]
 cases low6 a <;> cases low6 b <;> rfl
theorem eqs_sm {es:List Equation} {k:Nat} (he:sm 4294967296 es) (h:k < es.length):es[k].left.length≤4294967296∧es[k].right.length≤4294967296:=by
 have:=he.2 es[k] (List.getElem_mem h)
 exact ⟨this.1.1,this.2.1⟩
theorem q0n (l:List Symbol) (hs:l.length≤4294967296) (es:List Equation) (he:sm 4294967296 es) :
 Call F.q0n [.agg [slc l],slc es] (.int .i64 (if q30 ⟨l⟩≠0 then q30 ⟨l⟩ else q6j l es)):=by
 refine q0v rfl (es.length+1) ((q0n.ev _ _ _).trans ?_)
 simp only [evz,Nat.reduceLT,(q04 l hs).eq,q6j,gt_iff_lt]
 by_cases h1:q30 ⟨l⟩=0
 case neg=>simp only [h1,evz,Nat.reduceLT,ne_eq,not_false_eq_true]
 by_cases h2:12 < es.length
 · have h2':(12:Int) < es.length:=by omega
   simp only [h1,h2,h2',evz,Nat.reduceLT,ne_eq,not_true_eq_false]
 have h2':¬ (12:Int) < es.length:=by omega
 simp only [h1,h2,h2',evz,Nat.reduceLT,ne_eq,not_true_eq_false]
 refine (q8u (l:=es) (g:=fun e=>if q34 l e≠0 then some (some (.int .i64 (q34 l e),[])) else none) (z:=some (.int .i64 0,[])) (S:=fun m k=>q0n.at0 (es.length+1) m (q0n.st0 (cells es) es.length (k:Nat) (cells l)))
  (fun m k h => ?_) (fun m => ?_) (Nat.lt_succ_self _)).trans ?_
 · have hlk:es[k]?=some es[k]:=List.getElem?_eq_getElem h
   obtain ⟨q1,q2⟩:=eqs_sm he h
   have hc:=q42 l hs es[k].left es[k].right q1 q2
   rw [if_neg (by simpa using h1)] at hc
   simp only [q0n.next0,q0n.round0,evz,Nat.reduceLT,h,hlk,q3p,hc.eq]
   rw [q0l (by omega)]
   by_cases e:q34 l es[k]=0
   · simp [e]
   · simp [e]
 · simp only [q0n.next0,q0n.round0,evz,Nat.reduceLT,Nat.lt_irrefl]
 · have:=q7o (fun e=>if q34 l e≠0 then some (q34 l e) else none) (fun n=>(some (T.int .i64 n,[]):R)) es
   rw [show (fun e=>(if q34 l e≠0 then some (q34 l e) else none).map fun n=>(some (T.int .i64 n,[]):R))=fun e=>if q34 l e≠0 then some (some (T.int .i64 (q34 l e),[])) else none from funext fun e=>by by_cases h:q34 l e=0 <;> simp [h]] at this
   rw [this]
   cases es.findSome? fun e=>if q34 l e≠0 then some (q34 l e) else none <;> rfl
theorem q1e (l:List Symbol) (ok:SigOk ⟨l⟩) (es:List Equation) (he:sm 4294967296 es):Call F.q1e [.rref [slc l] 0,slc es] (.int .i64 (q6j l es)):=by
 refine q0v rfl (es.length+1) ((q1e.ev _ _ _).trans ?_)
 simp only [evz,Nat.reduceLT,q6j,gt_iff_lt]
 by_cases h2:12 < es.length
 · have h2':(12:Int) < es.length:=by omega
   simp only [h2,h2',evz,Nat.reduceLT]
 have h2':¬ (12:Int) < es.length:=by omega
 simp only [h2,h2',evz,Nat.reduceLT]
 refine (q8u (l:=es) (g:=fun e=>if q34 l e≠0 then some (some (.int .i64 (q34 l e),[])) else none) (z:=some (.int .i64 0,[])) (S:=fun m k=>q1e.at0 (es.length+1) m (q1e.st0 (cells l) (cells es) (k:Nat)))
  (fun m k h => ?_) (fun m => ?_) (Nat.lt_succ_self _)).trans ?_
 · have hlk:es[k]?=some es[k]:=List.getElem?_eq_getElem h
   obtain ⟨q1,q2⟩:=eqs_sm he h
   have hc:=q52 l ok es[k].left es[k].right q1 q2
   simp only [q1e.next0,q1e.round0,evz,Nat.reduceLT,h,hlk,q70 q96 hlk,q3p,hc.eq]
   rw [q0l (by omega)]
   by_cases e:q34 l es[k]=0
   · simp [e]
   · simp [e]
 · simp only [q1e.next0,q1e.round0,evz,Nat.reduceLT,Nat.lt_irrefl]
 · have:=q7o (fun e=>if q34 l e≠0 then some (q34 l e) else none) (fun n=>(some (T.int .i64 n,[]):R)) es
   rw [show (fun e=>(if q34 l e≠0 then some (q34 l e) else none).map fun n=>(some (T.int .i64 n,[]):R))=fun e=>if q34 l e≠0 then some (some (T.int .i64 (q34 l e),[])) else none from funext fun e=>by by_cases h:q34 l e=0 <;> simp [h]] at this
   rw [this]
   cases es.findSome? fun e=>if q34 l e≠0 then some (q34 l e) else none <;> rfl
end Ev.Ty
end
section
namespace Ev.Ty
open Go Ev
open Enc (enc)
open Sm (sm)
set_option linter.unusedVariables false
set_option linter.unusedSimpArgs false
theorem q1p (l r:List Int) (hs:sm 4294967296 l):Call F.q1p [slc l,slc r] (.bool (decide (l=r))):=by
 refine q0v rfl (l.length+1) ((q1p.ev _ _ _).trans ?_)
 simp only [q5b,q39]
 by_cases hl:l.length=r.length
 · have loop:=eq_loop hl (S:=fun m k=>q1p.at0 (l.length+1) m (q1p.st0 (cells l) (cells r) (k:Nat)))
    (fun m k h h'=>by
     have hlk:l[k]?=some l[k]:=List.getElem?_eq_getElem h
     have hrk:r[k]?=some r[k]:=List.getElem?_eq_getElem h'
     simp only [q1p.next0,q1p.round0,evz,Nat.reduceLT,h,h',hlk,hrk,q70 (l:=l) q39 hlk,q70 (l:=r) q39 hrk,q1r,enc_u8]
     rw [q0l (by have:=hs.1; omega)])
    (fun m=>by
     simp only [q1p.next0,q1p.round0,evz,Nat.reduceLT,Nat.lt_irrefl])
   rw [cond_neg (by rw [hl]; exact bne_self_eq_false _)]
   exact loop
 · rw [q22 (by simp; omega)]
   simp only [show (l=r)=False from eq_false fun e=>hl (e ▸ rfl),decide_false]
theorem q0h (l r:List Int) (hs:sm 4294967296 l):Call F.q0h [slc l,slc r] (.bool (decide (l=r))):=by
 refine q0v rfl (l.length+1) ((q0h.ev _ _ _).trans ?_)
 simp only [q5b,q39]
 by_cases hl:l.length=r.length
 · have loop:=eq_loop hl (S:=fun m k=>q0h.at0 (l.length+1) m (q0h.st0 (cells l) (cells r) l.length (k:Nat)))
    (fun m k h h'=>by
     have hlk:l[k]?=some l[k]:=List.getElem?_eq_getElem h
     have hrk:r[k]?=some r[k]:=List.getElem?_eq_getElem h'
     simp only [q0h.next0,q0h.round0,evz,Nat.reduceLT,h,h',hlk,hrk,q70 (l:=l) q39 hlk,q70 (l:=r) q39 hrk,q1r,enc_u8]
     rw [q0l (by have:=hs.1; omega)])
    (fun m=>by
     simp only [q0h.next0,q0h.round0,evz,Nat.reduceLT,Nat.lt_irrefl])
   rw [cond_neg (by rw [hl]; exact bne_self_eq_false _)]
   exact loop
 · rw [q22 (by simp; omega)]
   simp only [show (l=r)=False from eq_false fun e=>hl (e ▸ rfl),decide_false]
end Ev.Ty
end
section
namespace Ev.Ty
open Go Ev
open Enc (enc)
open Sm (sm)
set_option linter.unusedSimpArgs false
set_option linter.unusedVariables false
theorem firstCode2 (a b:Int):Call F.q3z [.sl 1 [.int .i64 a,.int .i64 b]] (.int .i64 (if a=0 then b else a)):=impl_firstCode2 a b
theorem skip_inner {a:Int→Nat}:∀ {t r:List Int} {k p:Nat},skip a k t=some r→p+r.length < t.length→∃ q,skip a 1 (t.drop p)=some q
 | [],r,k,p,h,hp=>by simp at hp
 | n::t,r,0,p,h,hp=>by
   rw [q3q] at h; cases h; omega
 | n::t,r,k+1,0,h,hp=>by
   rw [show k+1=1+k by omega,q88] at h
   cases h1:skip a 1 (n::t) with
   | none=>rw [h1] at h; cases h
   | some q=>exact ⟨q,by simpa using h1⟩
 | n::t,r,k+1,p+1,h,hp=>by
   rw [skip] at h
   obtain ⟨q,hq⟩:=skip_inner (p:=p) h (by simp at hp; omega)
   exact ⟨q,by simpa using hq⟩
def endAt (l:List Symbol) (t:List Int) (p:Nat):Nat:=match skip (ar l) 1 (t.drop p) with
 | some r=>t.length - r.length
 | none=>t.length
theorem q2o {l:List Symbol} {t:List Int} (ok:TermOk l t) {p:Nat} (hp:p < t.length) :
 p < endAt l t p∧endAt l t p≤t.length∧∀ z,q7q z t (skip (ar l) 1 (t.drop p))=(endAt l t p:Nat):=by
 obtain ⟨q,hq⟩:=skip_inner (p:=p) ok.skip (by simpa using hp)
 have h:=skip_at hq
 unfold endAt
 rw [hq]
 refine ⟨?_,by simp only; omega,fun z=>rfl⟩
 have:=h.2.2 (by omega)
 simp only
 omega
section
variable {l:List Symbol} (ok:SigOk ⟨l⟩)
include ok
theorem endOf_at {t:List Int} (ht:TermOk l t) {p:Nat} (hp:p < t.length):Call F.q20 [.agg [slc l],slc t,.int .i64 p] (.int .i64 (endAt l t p:Nat)):=by
 have h:=q20 ok t ht.node (by have:=ht.le; omega) p (Nat.le_of_lt hp)
 rwa [(q2o ht hp).2.2] at h
theorem q7j {t:List Int} (ht:TermOk l t) {p:Nat} (hp:p < t.length):Call F.q1l [.rref [slc l] 0,slc t,.int .i64 p] (.int .i64 (endAt l t p:Nat)):=by
 have h:=q1l ok t ht.node (by have:=ht.le; omega) p (Nat.le_of_lt hp)
 rwa [(q2o ht hp).2.2] at h
end
theorem cells_cut (t:List Int) (i j:Nat):((cells t).take (j*1)).drop (i*1)=cells ((t.take j).drop i):=by
 rw [q7u t 1 j rfl,cells_drop _ 1 i rfl]
def subAt (l:List Symbol) (t:List Int) (p:Nat):List Int:=(t.take (endAt l t p)).drop p
theorem q8x (t:List Int) (i j:Nat):T.sl 1 (((cells t).take (j*1)).drop (i*1))=slc ((t.take j).drop i):=by rw [cells_cut]; rfl
theorem q5w (l:List Int) (h:l.length≤4294967296):Call F.q2e [slc l] (slc l):=by
 refine q0v rfl 0 ((q2e.ev _ _).trans ?_)
 rw [q3n,q22 rfl,q22 (q3v (by rw [q0t,q39]; omega))]
 rfl
theorem q2y (l:List Int) (h:l.length≤4294967296):Call F.q2y [slc l] (slc l):=by
 refine lim_ext (e:=cloneE) rfl (Ev.of fun m => ?_)
 show (intsOf (cells l)).bind _=_
 rw [← q6d,q8c]
 show (bif _ then _ else _)=_
 rw [q22 (by rw [decide_eq_true_iff]; omega),q6d]
 rfl
section
variable {l:List Symbol} (ok:SigOk ⟨l⟩)
include ok
theorem q2z {t:List Int} (ht:TermOk l t) {p:Nat} (hp:p < t.length):Call F.q2z [.agg [slc l],slc t,.int .i64 p] (slc (subAt l t p)):=by
 refine q0v rfl 0 ((q2z.ev _ _ _ _).trans ?_)
 obtain ⟨h1,h2,_⟩:=q2o ht hp
 simp only [evz,Nat.reduceLT,(endOf_at ok ht hp).eq]
 rw [q22 (by simp; omega),q8x]
 rfl
theorem q79 {t:List Int} (ht:TermOk l t) {p:Nat} (hp:p < t.length):Call F.q79 [.rref [slc l] 0,slc t,.int .i64 p] (slc (subAt l t p)):=by
 refine q0v rfl 0 ((q79.ev _ _ _ _).trans ?_)
 obtain ⟨h1,h2,_⟩:=q2o ht hp
 have hle:=ht.le
 simp only [evz,Nat.reduceLT,(q7j ok ht hp).eq]
 rw [q22 (by simp; omega),q8x,(q5w _ (by simp; omega)).eq]
 simp only [evz,Nat.reduceLT]
 rfl
def q4m (l:List Symbol) (t:List Int) (p:Nat) (by_:List Int):List Int:=(t.take p++by_)++t.drop (endAt l t p)
theorem q61 {t:List Int} (ht:TermOk l t) {p:Nat} (hp:p < t.length) (by_:List Int) (hb:by_.length≤1048576):Call F.q61 [.agg [slc l],slc t,.int .i64 p,slc by_] (slc (q4m l t p by_)):=by
 refine q0v rfl 0 ((q61.ev _ _ _ _ _).trans ?_)
 obtain ⟨h1,h2,_⟩:=q2o ht hp
 have hle:=ht.le
 simp only [q5b,q39,Int.toNat_natCast]
 rw [q22 (by simp; omega),q8x,(q2y _ (by simp; omega)).eq]
 simp only [evz,Nat.reduceLT,q3n,(endOf_at ok ht hp).eq,cells_cut,← q36,q5b,q39,Int.toNat_natCast]
 rw [q22 (q3v (by rw [q0t,q0t,q39]; simp; omega)),q22 (by simp; omega),q22 (q3v (by rw [q0t,q0t,q39]; simp; omega))]
 simp [q4m,slc]
theorem q4c {t:List Int} (ht:TermOk l t) {p:Nat} (hp:p < t.length) (by_:List Int) (hb:by_.length≤1048576):Call F.q4c [.rref [slc l] 0,slc t,.int .i64 p,slc by_] (slc (q4m l t p by_)):=by
 refine q0v rfl 0 ((q4c.ev _ _ _ _ _).trans ?_)
 obtain ⟨h1,h2,_⟩:=q2o ht hp
 have hle:=ht.le
 simp only [q5b,q39,Int.toNat_natCast]
 rw [q22 (by simp; omega),q8x,(q5w _ (by simp; omega)).eq]
 simp only [evz,Nat.reduceLT,q3n,(q7j ok ht hp).eq,cells_cut,← q36,q5b,q39,Int.toNat_natCast]
 rw [q22 (q3v (by rw [q0t,q0t,q39]; simp; omega)),q22 (by simp; omega),q22 (q3v (by rw [q0t,q0t,q39]; simp; omega))]
 simp [q4m,slc]
end
def q3d (vs:List Int) (ts:List (List Int)) (v:Int):Option (List Int):=if idx (fun x=>decide (x=v)) vs < 0 then none else ts[(idx (fun x=>decide (x=v)) vs).toNat]?
theorem q0d (l:List Int) (x:Int) (hl:l.length≤4294967296):Call F.q0d [slc l,.int .i64 x] (.int .i64 (idx (fun y=>decide (y=x)) l)):=by
 refine q0v rfl (l.length+1) ((q0d.ev _ _ _).trans ?_)
 simp only [evz,Nat.reduceLT]
 refine q6o (S:=fun m k=>q0d.at0 (l.length+1) m (q0d.st0 (cells l) x l.length (k:Nat))) (fun m k h => ?_) (fun m => ?_) (Nat.lt_succ_self _)
 · have hlk:l[k]?=some l[k]:=List.getElem?_eq_getElem h
   simp only [q0d.next0,q0d.round0,evz,Nat.reduceLT,h,hlk,q1r]
   rw [q0l (by omega)]
   by_cases e:x=l[k]
   · simp [e]
   · have e':¬ l[k]=x:=fun h=>e h.symm
     simp [e,e']
 · simp only [q0d.next0,q0d.round0,evz,Nat.reduceLT,Nat.lt_irrefl]
def ofT:Option (List Int)→T
 | some t => .tup [slc t,.bool true]
 | none => .tup [slc ([]:List Int),.bool false]
theorem q43 (vs:List Int) (ts:List (List Int)) (v:Int) (hl:vs.length=ts.length) (hs:vs.length≤4294967296):Call F.q43 [.agg [slc vs,slc ts],.int .i64 v] (ofT (q3d vs ts v)):=by
 refine q0v rfl 0 ((q43.ev _ _ _ _).trans ?_)
 simp only [evz,Nat.reduceLT,(q0d vs v hs).eq,q3d]
 rcases q60 (fun x:Int=>decide (x=v)) vs with ⟨h,_⟩ | ⟨i,hi,h,_,_⟩
 · simp only [h,evz,Nat.reduceLT,ofT,q7b,show ((-1:Int) < 0)=True from by simp]
 · have hn:¬ ((i:Nat):Int) < 0:=by omega
   have hit:i < ts.length:=by omega
   simp only [h,hn,evz,Nat.reduceLT,hit,List.getElem?_eq_getElem,q9b,ofT]
theorem q1y (vs:List Int) (ts:List (List Int)) (v:Int) (hl:vs.length=ts.length) (hs:vs.length≤4294967296):Call F.q1y [.rref [slc vs,slc ts] 0,.int .i64 v] (slc ((q3d vs ts v).getD [])):=by
 refine q0v rfl (vs.length+1) ((q1y.ev _ _ _ _).trans ?_)
 have loop:=q8u (l:=List.range vs.length) (g:=fun k=>if vs[k]?=some v then some (some (slc (ts[k]?.getD []),[])) else none) (z:=some (slc ([]:List Int),[]))
  (S:=fun m k=>q1y.at0 (vs.length+1) m (q1y.st0 (cells vs) (cells ts) v (k:Nat))) (fun m k h => ?_) (fun m => ?_) (f:=vs.length+1) (by simp)
 · refine loop.trans ?_
   unfold q3d
   rcases q60 (fun x:Int=>decide (x=v)) vs with ⟨h,hno⟩ | ⟨i,hi,h,hyes,hno⟩
   · rw [h,if_pos (by omega)]
     have:(List.range vs.length).findSome? (fun k=>if vs[k]?=some v then some ((some (slc (ts[k]?.getD []),[]):R)) else none)=none:=by
      rw [List.findSome?_eq_none_iff]
      intro k hk
      rw [List.mem_range] at hk
      rw [if_neg]
      rw [List.getElem?_eq_getElem hk]
      intro e
      have:=hno _ (List.getElem_mem hk)
      simp at this e
      exact this e
     rw [this]; rfl
   · rw [h,if_neg (by omega)]
     have hit:i < ts.length:=by omega
     have:(List.range vs.length).findSome? (fun k=>if vs[k]?=some v then some ((some (slc (ts[k]?.getD []),[]):R)) else none)=some (some (slc ts[i],[])):=by
      rw [List.findSome?_eq_some_iff]
      refine ⟨List.range i,i,(List.range' (i+1) (vs.length - i - 1)),?_,?_,?_⟩
      · rw [List.range_eq_range',List.range_eq_range',← List.range'_succ,show vs.length - i - 1+1=vs.length - i by omega]
        have:=List.range'_append (s:=0) (m:=i) (n:=vs.length - i) (step:=1)
        simp only [Nat.one_mul,Nat.zero_add] at this
        rw [this,Nat.add_sub_cancel' (Nat.le_of_lt hi)]
      · have e1:vs[i]?=some v:=(List.getElem?_eq_getElem hi).trans (congrArg some (of_decide_eq_true hyes))
        have e2:ts[i]?=some ts[i]:=List.getElem?_eq_getElem hit
        simp only [e1,e2,if_true,Option.getD_some]
      · intro k hk
        rw [List.mem_range] at hk
        rw [if_neg]
        rw [List.getElem?_eq_getElem (by omega)]
        intro e
        have:=hno k hk
        simp at this e
        exact this e
     rw [this,Int.toNat_natCast,List.getElem?_eq_getElem hit]; rfl
 · rw [List.length_range] at h
   have hlk:vs[k]?=some vs[k]:=List.getElem?_eq_getElem h
   have hkt:k < ts.length:=by omega
   simp only [q1y.next0,q1y.round0,evz,Nat.reduceLT,h,hkt,hlk,List.getElem?_eq_getElem,q1r,q9b,List.getElem_range,Option.getD_some,Option.some.injEq]
   rw [q0l (by omega)]
   by_cases e:vs[k]=v <;> simp [e]
 · rw [List.length_range]
   simp only [q1y.next0,q1y.round0,evz,Nat.reduceLT,Nat.lt_irrefl,q7b]
def q1q (vs:List Int) (ts:List (List Int)) (t:List Int):List Int:=t.flatMap fun n=>(q3d vs ts (-1 - n)).getD [n]
structure BindOk (vs:List Int) (ts:List (List Int)):Prop where
 len:vs.length=ts.length
 le:vs.length≤1000
 nn:∀ v∈vs,0≤v
 tm:∀ t∈ts,1≤t.length∧t.length≤4096
theorem bindOf_neg {vs:List Int} {ts:List (List Int)} (ok:BindOk vs ts) {v:Int} (hv:v < 0):q3d vs ts v=none:=by
 unfold q3d
 rcases q60 (fun x:Int=>decide (x=v)) vs with ⟨h,_⟩ | ⟨i,hi,h,hy,_⟩
 · rw [if_pos (by omega)]
 · have:=ok.nn _ (List.getElem_mem hi)
   simp at hy; omega
theorem q5e {vs:List Int} {ts:List (List Int)} {v:Int} {t:List Int} (h:q3d vs ts v=some t):t∈ts:=by
 unfold q3d at h
 split at h
 · cases h
 · exact List.mem_of_getElem? h
def q8k (vs:List Int) (ts:List (List Int)) (o:List Int) (n:Int):List Int:=o++(q3d vs ts (-1 - n)).getD [n]
theorem app_fold (vs:List Int) (ts:List (List Int)):∀ (t o:List Int),t.foldl (q8k vs ts) o=o++q1q vs ts t
 | [],o=>by simp [q1q]
 | n::t,o=>by
   rw [List.foldl_cons,app_fold vs ts t]
   simp [q8k,q1q]
def appI (k:Nat) (o:List Int):Prop:=o.length≤k*4096
theorem appI_step {vs:List Int} {ts:List (List Int)} (ok:BindOk vs ts) {k:Nat} {o:List Int} {n:Int} (h:appI k o):appI (k+1) (q8k vs ts o n):=by
 unfold appI q8k at *
 rw [List.length_append]
 cases hb:q3d vs ts (-1 - n) with
 | none=>simp; omega
 | some t=>have:=(ok.tm t (q5e hb)).2; simp; omega
theorem q8j {vs:List Int} {ts:List (List Int)} (ok:BindOk vs ts) (t:List Int):(q1q vs ts t).length≤t.length*4096:=by
 have:=fold_inv (l:=t) (g:=q8k vs ts) appI (fun k o _ h=>appI_step ok h) [] (by simp [appI])
 rw [app_fold] at this
 simpa [appI] using this
theorem q0i (vs:List Int) (ts:List (List Int)) (ok:BindOk vs ts) (t:List Int) (ht:t.length≤4096) (hr:∀ n∈t,-4611686018427387904≤n∧n≤4611686018427387904):Call F.q0i [.agg [slc vs,slc ts],slc t] (slc (q1q vs ts t)):=by
 have hle:=ok.le
 refine q0v rfl (t.length+1) ((q0i.ev _ _ _ _).trans ?_)
 simp only [q5b,q39]
 have key:=fold_loop (l:=t) (f:=t.length+1) (S:=fun m k (o:List Int)=>q0i.at0 (t.length+1) m (q0i.st0 (cells t) t.length (k:Nat) (cells vs) (cells ts) (cells o))) (g:=q8k vs ts) (z:=fun (o:List Int)=>some (slc o,[])) appI
  (fun m k o h ho => ?_) (fun k o h ho=>appI_step ok ho) (fun m o ho => ?_) [] (by simp [appI]) (by omega)
 · rw [app_fold] at key; exact key
 · have hn:=hr _ (List.getElem_mem h)
   have ho:o.length≤k*4096:=ho
   simp only [q0i.next0,q0i.round0,evz,Nat.reduceLT,h,List.getElem?_eq_getElem,q1r,q2u (x := -1 - t[k]) (by omega),(q43 vs ts (-1 - t[k]) ok.len (by omega)).eq,q8k]
   cases hb:q3d vs ts (-1 - t[k]) with
   | none =>
     simp only [ofT,evz,Nat.reduceLT,q3n,Option.getD_none,← q36]
     rw [q22 (q3v (by rw [q0t,q39]; omega)),q2d,q0l (by omega)]
   | some x =>
     have hx:=(ok.tm x (q5e hb)).2
     simp only [ofT,evz,Nat.reduceLT,q3n,Option.getD_some,← q36]
     rw [q22 (q3v (by rw [q0t,q0t,q39]; omega)),q0l (by omega)]
 · simp only [q0i.next0,q0i.round0,evz,Nat.reduceLT,Nat.lt_irrefl]
theorem q17 (vs:List Int) (ts:List (List Int)) (ok:BindOk vs ts) (t:List Int) (ht:t.length≤4096) (hr:∀ n∈t,-4611686018427387904≤n∧n≤4611686018427387904):Call F.q17 [.rref [slc vs,slc ts] 0,slc t] (slc (q1q vs ts t)):=by
 have hle:=ok.le
 refine q0v rfl (t.length+1) ((q17.ev _ _ _ _).trans ?_)
 have key:=fold_loop (l:=t) (f:=t.length+1) (S:=fun m k (o:List Int)=>q17.at0 (t.length+1) m (q17.st0 (cells vs) (cells ts) (cells t) (k:Nat) (cells o))) (g:=q8k vs ts) (z:=fun (o:List Int)=>some (slc o,[])) appI
  (fun m k o h ho => ?_) (fun k o h ho=>appI_step ok ho) (fun m o ho => ?_) [] (by simp [appI]) (by omega)
 · rw [app_fold] at key; exact key
 · have hn:=hr _ (List.getElem_mem h)
   have ho:o.length≤k*4096:=ho
   by_cases hneg:t[k] < 0
   · simp only [q17.next0,q17.round0,evz,Nat.reduceLT,h,List.getElem?_eq_getElem,q1r,hneg,q2u (x := -1 - t[k]) (by omega),(q1y vs ts (-1 - t[k]) ok.len (by omega)).eq,q8k]
     cases hb:q3d vs ts (-1 - t[k]) with
     | none =>
       simp only [q7b,evz,Nat.reduceLT,List.all_nil,Option.getD_none,cells_nil,List.length_nil,← q36,Int.natCast_zero,Nat.zero_div,Int.ofNat_zero]
       rw [q22 (q3v (by rw [q0t,q39]; omega)),q2d,q0l (by omega)]
     | some x =>
       have hx:=ok.tm x (q5e hb)
       have hx0:¬ ((x.length:Int)=0):=by omega
       simp only [evz,Nat.reduceLT,q3n,Option.getD_some,hx0,← q36]
       rw [q22 (q3v (by rw [q0t,q0t,q39]; omega)),q0l (by omega)]
   · simp only [q17.next0,q17.round0,evz,Nat.reduceLT,h,List.getElem?_eq_getElem,q1r,hneg,q8k,bindOf_neg ok (v := -1 - t[k]) (by omega),Option.getD_none]
     rw [q22 (q3v (by rw [q0t,q39]; omega)),q2d,q0l (by omega)]
 · simp only [q17.next0,q17.round0,evz,Nat.reduceLT,Nat.lt_irrefl]
theorem q7g {vs:List Int} {k:Nat} (h:k < vs.length):vs.getD k 0=vs[k]:=by rw [List.getD_eq_getElem?_getD,List.getElem?_eq_getElem h]; rfl
end Ev.Ty
end
