/- Steps on the way to RowDerives: X1, X2, XALL, TyMarks, TyFields, TyPlumb, TyNum, TySig, TyAlg, TyTerm, TyTree, TyEval, TyEvalF, TyEvalT, TyVars, TyEqs, TySame, TyBind. -/
import Derived.Test.YtgmpnljofoadnaaGreatDoorM3
import Derived.Lib.SlTrimSet
set_option linter.unusedSectionVars false
set_option linter.unusedVariables false
set_option linter.unusedSimpArgs false
section
open Go
set_option linter.unusedVariables false
set_option maxRecDepth 100000
namespace Ev
theorem q3f.ev (n:Nat) (a0:List T):callK prog A H LIM n F.q3f [(.sl 1 a0)]=((LIM F.q5d [(.sl 1 a0)]).bind fun r1=>((oNil r1.2).bind fun _=>((oBx r1.1).bind fun c2=>((oCons c2).bind fun p3=>((oSl 1 p3.1).bind fun c4=>((oCons p3.2).bind fun p5=>((oInt .i64 p5.1).bind fun n6=>((oNil p5.2).bind fun _=>((LIM F.q1a [(.rref [(.sl 1 c4),(.int .i64 n6)] 0),(.int .i64 (20:Int))]).bind fun r7=>((oCons r7.2).bind fun p8=>((oNil p8.2).bind fun _=>((oAgg p8.1).bind fun c9=>((oCons c9).bind fun p10=>((oSl 1 p10.1).bind fun c11=>((oCons p10.2).bind fun p12=>((oInt .i64 p12.1).bind fun n13=>((oNil p12.2).bind fun _=>((oTup r7.1).bind fun c14=>((oCons c14).bind fun p15=>((oAgg p15.1).bind fun c16=>((oCons c16).bind fun p17=>((oSl 2 p17.1).bind fun c18=>((oNil p17.2).bind fun _=>((oCons p15.2).bind fun p19=>((oSl 2 p19.1).bind fun c20=>((oCons p19.2).bind fun p21=>((oSl 7 p21.1).bind fun c22=>((oNil p21.2).bind fun _=>((LIM F.q4v [(.rref [(.sl 1 c4),(.int .i64 n13)] 0),(.sl 2 c20),(.sl 7 c22)]).bind fun r23=>((oCons r23.2).bind fun p24=>((oNil p24.2).bind fun _=>((oAgg p24.1).bind fun c25=>((oCons c25).bind fun p26=>((oSl 1 p26.1).bind fun c27=>((oCons p26.2).bind fun p28=>((oInt .i64 p28.1).bind fun n29=>((oNil p28.2).bind fun _=>((oAgg r23.1).bind fun c30=>((oCons c30).bind fun p31=>((oInt .i64 p31.1).bind fun n32=>((oCons p31.2).bind fun p33=>((oInt .i64 p33.1).bind fun n34=>((oCons p33.2).bind fun p35=>((oInt .i64 p35.1).bind fun n36=>((oCons p35.2).bind fun p37=>((oInt .i64 p37.1).bind fun n38=>((oCons p37.2).bind fun p39=>((oInt .i64 p39.1).bind fun n40=>((oCons p39.2).bind fun p41=>((oSl 1 p41.1).bind fun c42=>((oCons p41.2).bind fun p43=>((oSl 1 p43.1).bind fun c44=>((oNil p43.2).bind fun _=>((LIM F.q16 [(.rref [(.sl 1 c4),(.int .i64 n29)] 0),(.int .i64 (12:Int))]).bind fun r45=>((oCons r45.2).bind fun p46=>((oNil p46.2).bind fun _=>((oAgg p46.1).bind fun c47=>((oCons c47).bind fun p48=>((oSl 1 p48.1).bind fun c49=>((oCons p48.2).bind fun p50=>((oInt .i64 p50.1).bind fun n51=>((oNil p50.2).bind fun _=>((oInt .i64 r45.1).bind fun n52=>(bif ((n52 == (0:Int))) then ((LIM F.q32 [(.rref [(.sl 1 c4),(.int .i64 n51)] 0),(.sl 1 [(.int .i64 (0:Int)),(.int .i64 (6:Int))])]).bind fun r53=>((oCons r53.2).bind fun p54=>((oNil p54.2).bind fun _=>((oAgg p54.1).bind fun c55=>((oCons c55).bind fun p56=>((oSl 1 p56.1).bind fun c57=>((oCons p56.2).bind fun p58=>((oInt .i64 p58.1).bind fun n59=>((oNil p58.2).bind fun _=>((oInt .i64 r53.1).bind fun n60=>some ((.tup [(.agg [(.sl 2 c18)]),(.sl 2 c20),(.sl 7 c22),(.int .i64 n60),(.int .i64 n34),(.int .i64 n36),(.int .i64 n38),(.int .i64 n40)]),[]))))))))))) else (bif ((n52 == (1:Int))) then ((LIM F.q32 [(.rref [(.sl 1 c4),(.int .i64 n51)] 0),(.sl 1 [(.int .i64 (-1:Int)),(.int .i64 ((((c22).length / 7):Nat):Int)),(.int .i64 ((((c20).length / 2):Nat):Int))])]).bind fun r61=>((oCons r61.2).bind fun p62=>((oNil p62.2).bind fun _=>((oAgg p62.1).bind fun c63=>((oCons c63).bind fun p64=>((oSl 1 p64.1).bind fun c65=>((oCons p64.2).bind fun p66=>((oInt .i64 p66.1).bind fun n67=>((oNil p66.2).bind fun _=>((oInt .i64 r61.1).bind fun n68=>some ((.tup [(.agg [(.sl 2 c18)]),(.sl 2 c20),(.sl 7 c22),(.int .i64 n32),(.int .i64 n68),(.int .i64 n36),(.int .i64 n38),(.int .i64 n40)]),[]))))))))))) else (bif ((n52 == (2:Int))) then ((LIM F.q32 [(.rref [(.sl 1 c4),(.int .i64 n51)] 0),(.sl 1 [(.int .i64 (1:Int)),(.int .i64 (-1:Int)),(.int .i64 ((((c22).length / 7):Nat):Int))])]).bind fun r69=>((oCons r69.2).bind fun p70=>((oNil p70.2).bind fun _=>((oAgg p70.1).bind fun c71=>((oCons c71).bind fun p72=>((oSl 1 p72.1).bind fun c73=>((oCons p72.2).bind fun p74=>((oInt .i64 p74.1).bind fun n75=>((oNil p74.2).bind fun _=>((oInt .i64 r69.1).bind fun n76=>some ((.tup [(.agg [(.sl 2 c18)]),(.sl 2 c20),(.sl 7 c22),(.int .i64 n32),(.int .i64 n34),(.int .i64 n76),(.int .i64 n38),(.int .i64 n40)]),[]))))))))))) else (bif ((n52 == (3:Int))) then ((LIM F.q32 [(.rref [(.sl 1 c4),(.int .i64 n51)] 0),(.sl 1 [(.int .i64 (1:Int)),(.int .i64 (2:Int)),(.int .i64 (-1:Int))])]).bind fun r77=>((oCons r77.2).bind fun p78=>((oNil p78.2).bind fun _=>((oAgg p78.1).bind fun c79=>((oCons c79).bind fun p80=>((oSl 1 p80.1).bind fun c81=>((oCons p80.2).bind fun p82=>((oInt .i64 p82.1).bind fun n83=>((oNil p82.2).bind fun _=>((oInt .i64 r77.1).bind fun n84=>some ((.tup [(.agg [(.sl 2 c18)]),(.sl 2 c20),(.sl 7 c22),(.int .i64 n32),(.int .i64 n34),(.int .i64 n36),(.int .i64 n38),(.int .i64 n84)]),[]))))))))))) else (bif ((n52 == (4:Int))) then ((LIM F.q32 [(.rref [(.sl 1 c4),(.int .i64 n51)] 0),(.sl 1 [(.int .i64 (-1:Int)),(.int .i64 (24:Int)),(.int .i64 (1:Int))])]).bind fun r85=>((oCons r85.2).bind fun p86=>((oNil p86.2).bind fun _=>((oAgg p86.1).bind fun c87=>((oCons c87).bind fun p88=>((oSl 1 p88.1).bind fun c89=>((oCons p88.2).bind fun p90=>((oInt .i64 p90.1).bind fun n91=>((oNil p90.2).bind fun _=>((oInt .i64 r85.1).bind fun n92=>some ((.tup [(.agg [(.sl 2 c18)]),(.sl 2 c20),(.sl 7 c22),(.int .i64 n32),(.int .i64 n34),(.int .i64 n36),(.int .i64 n92),(.int .i64 n40)]),[]))))))))))) else (bif ((n52 == (5:Int))) then ((LIM F.q0x [(.rref [(.sl 1 c4),(.int .i64 n51)] 0),(.rref [(.sl 2 c18)] 0)]).bind fun r93=>((oCons r93.2).bind fun p94=>((oNil p94.2).bind fun _=>((oAgg p94.1).bind fun c95=>((oCons c95).bind fun p96=>((oSl 1 p96.1).bind fun c97=>((oCons p96.2).bind fun p98=>((oInt .i64 p98.1).bind fun n99=>((oNil p98.2).bind fun _=>((oSl 2 r93.1).bind fun c100=>some ((.tup [(.agg [(.sl 2 c18)]),(.sl 2 c100),(.sl 7 c22),(.int .i64 n32),(.int .i64 n34),(.int .i64 n36),(.int .i64 n38),(.int .i64 n40)]),[]))))))))))) else (bif ((n52 == (6:Int))) then (bif (decide (((((c22).length / 7):Nat):Int) > (0:Int))) then ((LIM F.q0t [(.rref [(.sl 1 c4),(.int .i64 n51)] 0),(.rref [(.sl 2 c18)] 0),(.int .i64 (4:Int)),(.int .i64 (8:Int))]).bind fun r101=>((oCons r101.2).bind fun p102=>((oNil p102.2).bind fun _=>((oAgg p102.1).bind fun c103=>((oCons c103).bind fun p104=>((oSl 1 p104.1).bind fun c105=>((oCons p104.2).bind fun p106=>((oInt .i64 p106.1).bind fun n107=>((oNil p106.2).bind fun _=>((oSl 1 r101.1).bind fun c108=>(bif inB (0:Int) ((c22).length / 7) then (bif decide (5+1≤(c22).length) then some ((.tup [(.agg [(.sl 2 c18)]),(.sl 2 c20),(.sl 7 (setCells c22 5 [(.sl 1 c108)])),(.int .i64 n32),(.int .i64 n34),(.int .i64 n36),(.int .i64 n38),(.int .i64 n40)]),[]) else none) else none))))))))))) else some ((.tup [(.agg [(.sl 2 c18)]),(.sl 2 c20),(.sl 7 c22),(.int .i64 n32),(.int .i64 n34),(.int .i64 n36),(.int .i64 n38),(.int .i64 n40)]),[])) else some ((.tup [(.agg [(.sl 2 c18)]),(.sl 2 c20),(.sl 7 c22),(.int .i64 n32),(.int .i64 n34),(.int .i64 n36),(.int .i64 n38),(.int .i64 n40)]),[]))))))))))))))))))))))))))))))))))))))))))))))))))))))))))))))))))))))):=by kernel_rfl
theorem q3b.ev (n:Nat) (a0_0 a1:List T):callK prog A H LIM n F.q3b [(.agg [(.sl 2 a0_0)]),(.sl 2 a1)]=((LIM F.q00 [(.agg [(.sl 2 a0_0)])]).bind fun r1=>((oNil r1.2).bind fun _=>((oInt .i64 r1.1).bind fun n2=>(bif ((n2 != (0:Int))) then some ((.int .i64 n2),[]) else ((LIM F.q1g [(.rref [(.sl 2 a0_0)] 0),(.sl 2 a1)]).bind fun r3=>((oNil r3.2).bind fun _=>((oInt .i64 r3.1).bind fun n4=>some ((.int .i64 n4),[])))))))):=by kernel_rfl
theorem q5r.ev (n:Nat) (a0_0 a1_0 a1_1 a2_0 a2_1:List T) (a3:Int):callK prog A H LIM n F.q5r [(.agg [(.sl 2 a0_0)]),(.agg [(.sl 1 a1_0),(.sl 1 a1_1)]),(.agg [(.sl 1 a2_0),(.sl 1 a2_1)]),(.int .i64 a3)]=((LIM F.q8n [(.rref [(.sl 2 a0_0)] 0),(.rref [(.sl 1 a1_0),(.sl 1 a1_1)] 0),(.rref [(.sl 1 a2_0),(.sl 1 a2_1)] 0)]).bind fun r1=>((oNil r1.2).bind fun _=>((oInt .i64 r1.1).bind fun n2=>(bif ((n2 != (0:Int))) then some ((.agg [(.int .i64 n2),(.sl 1 []),(.sl 1 [])]),[]) else ((LIM F.q5a [(.sl 1 a1_0),(.int .i64 a3)]).bind fun r3=>((oNil r3.2).bind fun _=>((oBool r3.1).bind fun b4=>(bif (!b4) then some ((.agg [(.int .i64 (3:Int)),(.sl 1 []),(.sl 1 [])]),[]) else (bif inB a3 ((a1_0).length / 1) then ((a1_0[((Int.toNat a3)*1)]?).bind fun e5=>((oInt .i64 e5).bind fun n6=>(bif (decide (n6 < (0:Int))) then some ((.agg [(.int .i64 (1:Int)),(.sl 1 []),(.sl 1 [])]),[]) else ((LIM F.q6t [(.rref [(.sl 2 a0_0)] 0),(.rref [(.sl 1 a1_0),(.sl 1 a1_1)] 0),(.rref [(.sl 1 a2_0),(.sl 1 a2_1)] 0),(.int .i64 a3)]).bind fun r7=>((oNil r7.2).bind fun _=>((oTup r7.1).bind fun c8=>((oCons c8).bind fun p9=>((oAgg p9.1).bind fun c10=>((oCons c10).bind fun p11=>((oSl 1 p11.1).bind fun c12=>((oCons p11.2).bind fun p13=>((oSl 1 p13.1).bind fun c14=>((oNil p13.2).bind fun _=>((oCons p9.2).bind fun p15=>((oInt .i64 p15.1).bind fun n16=>((oNil p15.2).bind fun _=>some ((.agg [(.int .i64 n16),(.sl 1 c12),(.sl 1 c14)]),[]))))))))))))))))) else none))))))))):=by kernel_rfl
theorem q41.ev (n:Nat) (a0_0:List T) (a1:ByteArray):callK prog A H LIM n F.q41 [(.agg [(.sl 2 a0_0)]),(.str a1)]=((LIM F.q00 [(.agg [(.sl 2 a0_0)])]).bind fun r1=>((oNil r1.2).bind fun _=>((oInt .i64 r1.1).bind fun n2=>(bif ((n2 != (0:Int))) then some ((.agg [(.int .i64 n2),(.sl 1 []),(.sl 1 [])]),[]) else (bif (decide ((a1.size:Int) > (337:Int))) then some ((.agg [(.int .i64 (5:Int)),(.sl 1 []),(.sl 1 [])]),[]) else ((LIM F.q1v [(.str a1),(.int .u8 (61:Int))]).bind fun r3=>((oNil r3.2).bind fun _=>((oSl 1 r3.1).bind fun c4=>(bif ((((((c4).length / 1):Nat):Int) != (2:Int))) then some ((.agg [(.int .i64 (5:Int)),(.sl 1 []),(.sl 1 [])]),[]) else (bif inB (0:Int) ((c4).length / 1) then ((c4[0]?).bind fun e5=>((oStr e5).bind fun s6=>((LIM F.q5i [(.rref [(.sl 2 a0_0)] 0),(.str s6)]).bind fun r7=>((oNil r7.2).bind fun _=>((oSl 1 r7.1).bind fun c8=>(bif inB (1:Int) ((c4).length / 1) then ((c4[1]?).bind fun e9=>((oStr e9).bind fun s10=>((LIM F.q5i [(.rref [(.sl 2 a0_0)] 0),(.str s10)]).bind fun r11=>((oNil r11.2).bind fun _=>((oSl 1 r11.1).bind fun c12=>((LIM F.q43 [(.rref [(.sl 2 a0_0)] 0),(.rref [(.sl 1 c8),(.sl 1 c12)] 0)]).bind fun r13=>((oNil r13.2).bind fun _=>((oInt .i64 r13.1).bind fun n14=>(bif ((n14 != (0:Int))) then some ((.agg [(.int .i64 (5:Int)),(.sl 1 []),(.sl 1 [])]),[]) else some ((.agg [(.int .i64 (0:Int)),(.sl 1 c8),(.sl 1 c12)]),[])))))))))) else none)))))) else none)))))))))):=by kernel_rfl
theorem q3k.ev (n:Nat) (a0_0 a1:List T) (a2 a3:Int) (a4:List T):callK prog A H LIM n F.q3k [(.agg [(.sl 2 a0_0)]),(.sl 2 a1),(.int .i64 a2),(.int .i64 a3),(.sl 1 a4)]=((LIM F.q6s [(.rref [(.sl 2 a0_0)] 0),(.sl 2 a1),(.sl 1 a4)]).bind fun r1=>((oNil r1.2).bind fun _=>((oInt .i64 r1.1).bind fun n2=>(bif ((n2 != (0:Int))) then some ((.agg [(.int .i64 n2),(.sl 1 [])]),[]) else ((LIM F.q14 [(.int .i64 a2),(.int .i64 (0:Int)),(.int .i64 (IntKind.wrap .i64 (((((a1).length / 2):Nat):Int) - (1:Int))))]).bind fun r3=>((oNil r3.2).bind fun _=>((oBool r3.1).bind fun b4=>(bif (!b4) then some ((.agg [(.int .i64 (3:Int)),(.sl 1 [])]),[]) else ((LIM F.q5a [(.sl 1 a4),(.int .i64 a3)]).bind fun r5=>((oNil r5.2).bind fun _=>((oBool r5.1).bind fun b6=>(bif (!b6) then some ((.agg [(.int .i64 (3:Int)),(.sl 1 [])]),[]) else (bif inB a2 ((a1).length / 2) then ((LIM F.q5j [(.rref [(.sl 2 a0_0)] 0),(.rref ((a1.drop ((Int.toNat a2)*2)).take 2) 0),(.int .i64 a3),(.sl 1 a4)]).bind fun r7=>((oNil r7.2).bind fun _=>((oTup r7.1).bind fun c8=>((oCons c8).bind fun p9=>((oSl 1 p9.1).bind fun c10=>((oCons p9.2).bind fun p11=>((oInt .i64 p11.1).bind fun n12=>((oNil p11.2).bind fun _=>some ((.agg [(.int .i64 n12),(.sl 1 c10)]),[]))))))))) else none))))))))))))):=by kernel_rfl
theorem q3s.ev (n:Nat) (a0_0 a1:List T):callK prog A H LIM n F.q3s [(.agg [(.sl 2 a0_0)]),(.sl 2 a1)]=((LIM F.q00 [(.agg [(.sl 2 a0_0)])]).bind fun r1=>((oNil r1.2).bind fun _=>((oInt .i64 r1.1).bind fun n2=>(bif ((n2 != (0:Int))) then some ((.int .i64 n2),[]) else ((LIM F.q0k [(.rref [(.sl 2 a0_0)] 0),(.sl 2 a1)]).bind fun r3=>((oNil r3.2).bind fun _=>((oInt .i64 r3.1).bind fun n4=>some ((.int .i64 n4),[])))))))):=by kernel_rfl
def q00.st4 (x0 x1 x2:Int) (x3:List T):St:=⟨[(1,(.one (.ptr 64 0))),(3,oi x0),(5,oi x1),(6,oi x2)],[(64,(.box [(.t (.sl 2 x3))]))]⟩
def q00.st6 (x0 x1:Int) (x2:List T):St:=⟨[(1,(.one (.ptr 64 0))),(3,oi x0),(7,oi x1)],[(64,(.box [(.t (.sl 2 x2))]))]⟩
def q00.st2 (x0 x1:Int) (x2:List T):St:=⟨[(1,(.one (.ptr 64 0))),(3,oi x0),(5,oi x1)],[(64,(.box [(.t (.sl 2 x2))]))]⟩
def q00.st0 (x0 x1:Int) (x2:List T):St:=⟨[(1,(.one (.ptr 64 0))),(3,oi x0),(4,oi x1)],[(64,(.box [(.t (.sl 2 x2))]))]⟩
noncomputable def q00.K0 (n:Nat):Ex→St→R:=kx F.q00 n [.block 0,.seq 0 (cx F.q00 [1,1,1,1])] (endOf prog A F.q00)
noncomputable def q00.at0 (n:Nat) (m:Nat) (s:St):R:=lx F.q00 n 0 [1,1,1,0,1,0,0] (q00.K0 n) m s
noncomputable def q00.rd0 (n:Nat) (L0:St→R) (s:St):R:=rx F.q00 n 0 [1,1,1,0,1,0,0] (q00.K0 n) L0 s
theorem q00.next0 (n:Nat) (m:Nat) (s:St):q00.at0 n (m+1) s=q00.rd0 n (q00.at0 n m) s:=nx _ _ _ _ _ _ _
noncomputable def q00.K2 (n:Nat):Ex→St→R:=kx F.q00 n [.block 2,.seq 0 (cx F.q00 [1,1,1,1,1])] (endOf prog A F.q00)
noncomputable def q00.at2 (n:Nat) (m:Nat) (s:St):R:=lx F.q00 n 2 [1,1,1,1,0,1,0,0] (q00.K2 n) m s
noncomputable def q00.rd2 (n:Nat) (L2:St→R) (s:St):R:=rx F.q00 n 2 [1,1,1,1,0,1,0,0] (q00.K2 n) L2 s
theorem q00.next2 (n:Nat) (m:Nat) (s:St):q00.at2 n (m+1) s=q00.rd2 n (q00.at2 n m) s:=nx _ _ _ _ _ _ _
noncomputable def q00.K6 (n:Nat):Ex→St→R:=kx F.q00 n [.block 6,.seq 0 (cx F.q00 [1,1,1,1,1,1])] (endOf prog A F.q00)
noncomputable def q00.at6 (n:Nat) (m:Nat) (s:St):R:=lx F.q00 n 6 [1,1,1,1,1,0,1,0,0] (q00.K6 n) m s
noncomputable def q00.rd6 (n:Nat) (L6:St→R) (s:St):R:=rx F.q00 n 6 [1,1,1,1,1,0,1,0,0] (q00.K6 n) L6 s
theorem q00.next6 (n:Nat) (m:Nat) (s:St):q00.at6 n (m+1) s=q00.rd6 n (q00.at6 n m) s:=nx _ _ _ _ _ _ _
noncomputable def q00.K4 (n:Nat) (L2:St→R):Ex→St→R:=kx F.q00 n [.block 4,.block 3,.seq 2 (cx F.q00 [1,1,1,1,0,1,0,0,1,1])] (bx F.q00 2 (q00.K2 n) L2)
noncomputable def q00.at4 (n:Nat) (L2:St→R) (m:Nat) (s:St):R:=lx F.q00 n 4 [1,1,1,1,0,1,0,0,1,0,0,1,0,0] (q00.K4 n L2) m s
noncomputable def q00.rd4 (n:Nat) (L2:St→R) (L4:St→R) (s:St):R:=rx F.q00 n 4 [1,1,1,1,0,1,0,0,1,0,0,1,0,0] (q00.K4 n L2) L4 s
theorem q00.next4 (n:Nat) (L2:St→R) (m:Nat) (s:St):q00.at4 n L2 (m+1) s=q00.rd4 n L2 (q00.at4 n L2 m) s:=nx _ _ _ _ _ _ _
theorem q00.round0 (n:Nat) (L0:St→R) (x0 x1:Int) (x2:List T):q00.rd0 n L0 (q00.st0 x0 x1 x2)=(bif (decide (x1 < x0)) then (bif inB x1 ((x2).length / 2) then ((x2[((Int.toNat x1)*2)]?).bind fun e1=>((oStr e1).bind fun s2=>((LIM F.q20 [(.str s2)]).bind fun r3=>((oNil r3.2).bind fun _=>((oBool r3.1).bind fun b4=>(bif (!b4) then some ((.int .i64 (5:Int)),[]) else (bif inB x1 ((x2).length / 2) then ((x2[(((Int.toNat x1)*2)+1)]?).bind fun e5=>((oInt .i64 e5).bind fun n6=>((LIM F.q14 [(.int .i64 n6),(.int .i64 (0:Int)),(.int .i64 (2:Int))]).bind fun r7=>((oNil r7.2).bind fun _=>((oBool r7.1).bind fun b8=>(bif (!b8) then some ((.int .i64 (3:Int)),[]) else (L0 (q00.st0 x0 (IntKind.wrap .i64 (x1+(1:Int))) x2)))))))) else none))))))) else none) else (q00.at2 n n (q00.st2 x0 (0:Int) x2))):=by kernel_rfl
theorem q00.round2 (n:Nat) (L2:St→R) (x0 x1:Int) (x2:List T):q00.rd2 n L2 (q00.st2 x0 x1 x2)=(bif (decide (x1 < x0)) then (q00.at4 n L2 n (q00.st4 x0 x1 (0:Int) x2)) else (q00.at6 n n (q00.st6 x0 (0:Int) x2))):=by kernel_rfl
theorem q00.round6 (n:Nat) (L6:St→R) (x0 x1:Int) (x2:List T):q00.rd6 n L6 (q00.st6 x0 x1 x2)=(bif (decide (x1 < x0)) then (bif inB x1 ((x2).length / 2) then ((x2[(((Int.toNat x1)*2)+1)]?).bind fun e13=>((oInt .i64 e13).bind fun n14=>(bif ((n14 == (0:Int))) then some ((.int .i64 (0:Int)),[]) else (L6 (q00.st6 x0 (IntKind.wrap .i64 (x1+(1:Int))) x2))))) else none) else some ((.int .i64 (4:Int)),[])):=by kernel_rfl
theorem q00.round4 (n:Nat) (L2:St→R) (L4:St→R) (x0 x1 x2:Int) (x3:List T):q00.rd4 n L2 L4 (q00.st4 x0 x1 x2 x3)=(bif (decide (x2 < x1)) then (bif inB x1 ((x3).length / 2) then ((x3[((Int.toNat x1)*2)]?).bind fun e9=>((oStr e9).bind fun s10=>(bif inB x2 ((x3).length / 2) then ((x3[((Int.toNat x2)*2)]?).bind fun e11=>((oStr e11).bind fun s12=>(bif (s10.toList == s12.toList) then some ((.int .i64 (6:Int)),[]) else (L4 (q00.st4 x0 x1 (IntKind.wrap .i64 (x2+(1:Int))) x3))))) else none))) else none) else (L2 (q00.st2 x0 (IntKind.wrap .i64 (x1+(1:Int))) x3))):=by kernel_rfl
theorem q00.ev (n:Nat) (a0_0:List T):callK prog A H LIM n F.q00 [(.agg [(.sl 2 a0_0)])]=(bif (decide (((((a0_0).length / 2):Nat):Int) < (1:Int))) then some ((.int .i64 (2:Int)),[]) else (bif (decide (((((a0_0).length / 2):Nat):Int) > (6:Int))) then some ((.int .i64 (2:Int)),[]) else (q00.at0 n n (q00.st0 ((((a0_0).length / 2):Nat):Int) (0:Int) a0_0)))):=by kernel_rfl
def q1h.st0 (x0 x1 x2:List T) (x3:Int):St:=⟨[(0,(.one (.t (.rref [(.sl 2 x0)] 0)))),(1,ol 2 x1),(2,ol 7 x2),(7,oi x3)],[]⟩
noncomputable def q1h.K0 (n:Nat):Ex→St→R:=kx F.q1h n [.block 0,.seq 0 (cx F.q1h [1,1,1])] (endOf prog A F.q1h)
noncomputable def q1h.at0 (n:Nat) (m:Nat) (s:St):R:=lx F.q1h n 0 [1,1,0,1,0,0] (q1h.K0 n) m s
noncomputable def q1h.rd0 (n:Nat) (L0:St→R) (s:St):R:=rx F.q1h n 0 [1,1,0,1,0,0] (q1h.K0 n) L0 s
theorem q1h.next0 (n:Nat) (m:Nat) (s:St):q1h.at0 n (m+1) s=q1h.rd0 n (q1h.at0 n m) s:=nx _ _ _ _ _ _ _
theorem q1h.round0 (n:Nat) (L0:St→R) (x0 x1 x2:List T) (x3:Int):q1h.rd0 n L0 (q1h.st0 x0 x1 x2 x3)=(bif (decide (x3 < ((((x2).length / 7):Nat):Int))) then (bif decide (0≤(0:Int))&&decide ((0:Int)≤x3)&&decide (x3≤((((x2).length / 7):Nat):Int)) then (bif inB x3 ((x2).length / 7) then ((LIM F.q4c [(.rref [(.sl 2 x0)] 0),(.sl 2 x1),(.sl 7 ((x2.take ((Int.toNat x3)*7)).drop (0*7))),(.rref ((x2.drop ((Int.toNat x3)*7)).take 7) 0)]).bind fun r1=>((oNil r1.2).bind fun _=>((oTup r1.1).bind fun c2=>((oCons c2).bind fun p3=>((oAgg p3.1).bind fun c4=>((oCons c4).bind fun p5=>((oSl 1 p5.1).bind fun c6=>((oCons p5.2).bind fun p7=>((oSl 1 p7.1).bind fun c8=>((oNil p7.2).bind fun _=>((oCons p3.2).bind fun p9=>((oInt .i64 p9.1).bind fun n10=>((oNil p9.2).bind fun _=>(bif ((n10 != (0:Int))) then some ((.int .i64 n10),[]) else (bif inB x3 ((x2).length / 7) then ((x2[(((Int.toNat x3)*7)+5)]?).bind fun e11=>((oSl 1 e11).bind fun c12=>((LIM F.q1l [(.sl 1 c6),(.sl 1 c12)]).bind fun r13=>((oNil r13.2).bind fun _=>((oBool r13.1).bind fun b14=>(bif (!b14) then some ((.int .i64 (8:Int)),[]) else (bif inB x3 ((x2).length / 7) then ((x2[(((Int.toNat x3)*7)+6)]?).bind fun e15=>((oSl 1 e15).bind fun c16=>((LIM F.q1l [(.sl 1 c8),(.sl 1 c16)]).bind fun r17=>((oNil r17.2).bind fun _=>((oBool r17.1).bind fun b18=>(bif (!b18) then some ((.int .i64 (8:Int)),[]) else (L0 (q1h.st0 x0 x1 x2 (IntKind.wrap .i64 (x3+(1:Int))))))))))) else none))))))) else none))))))))))))))) else none) else none) else some ((.int .i64 (0:Int)),[])):=by kernel_rfl
theorem q1h.ev (n:Nat) (a0_0 a1 a2:List T):callK prog A H LIM n F.q1h [(.rref [(.sl 2 a0_0)] 0),(.sl 2 a1),(.sl 7 a2)]=(bif (decide (((((a2).length / 7):Nat):Int) > (500:Int))) then some ((.int .i64 (2:Int)),[]) else (q1h.at0 n n (q1h.st0 a0_0 a1 a2 (0:Int)))):=by kernel_rfl
theorem q4c.ev (n:Nat) (a0_0 a1 a2:List T) (a3_0 a3_1 a3_2 a3_3 a3_4:Int) (a3_5 a3_6:List T):callK prog A H LIM n F.q4c [(.rref [(.sl 2 a0_0)] 0),(.sl 2 a1),(.sl 7 a2),(.rref [(.int .i64 a3_0),(.int .i64 a3_1),(.int .i64 a3_2),(.int .i64 a3_3),(.int .i64 a3_4),(.sl 1 a3_5),(.sl 1 a3_6)] 0)]=((LIM F.q54 [(.int .i64 ((((a1).length / 2):Nat):Int)),(.int .i64 ((((a2).length / 7):Nat):Int)),(.rref [(.int .i64 a3_0),(.int .i64 a3_1),(.int .i64 a3_2),(.int .i64 a3_3),(.int .i64 a3_4),(.sl 1 a3_5),(.sl 1 a3_6)] 0)]).bind fun r1=>((oNil r1.2).bind fun _=>((oInt .i64 r1.1).bind fun n2=>(bif ((n2 != (0:Int))) then some ((.tup [(.agg [(.sl 1 []),(.sl 1 [])]),(.int .i64 n2)]),[]) else (bif ((a3_0 == (1:Int))) then (bif inB a3_1 ((a1).length / 2) then ((LIM F.q7u [(.rref ((a1.drop ((Int.toNat a3_1)*2)).take 2) 0)]).bind fun r3=>((oNil r3.2).bind fun _=>((oAgg r3.1).bind fun c4=>((oCons c4).bind fun p5=>((oSl 1 p5.1).bind fun c6=>((oCons p5.2).bind fun p7=>((oSl 1 p7.1).bind fun c8=>((oNil p7.2).bind fun _=>some ((.tup [(.agg [(.sl 1 c6),(.sl 1 c8)]),(.int .i64 (0:Int))]),[]))))))))) else none) else (bif inB a3_1 ((a2).length / 7) then ((LIM F.q2y [(.rref ((a2.drop ((Int.toNat a3_1)*7)).take 7) 0)]).bind fun r9=>((oNil r9.2).bind fun _=>((oAgg r9.1).bind fun c10=>((oCons c10).bind fun p11=>((oSl 1 p11.1).bind fun c12=>((oCons p11.2).bind fun p13=>((oSl 1 p13.1).bind fun c14=>((oNil p13.2).bind fun _=>(bif ((a3_0 == (2:Int))) then some ((.tup [(.agg [(.sl 1 c14),(.sl 1 c12)]),(.int .i64 (0:Int))]),[]) else (bif ((a3_0 == (3:Int))) then ((LIM F.q13 [(.rref [(.sl 1 c12),(.sl 1 c14)] 0)]).bind fun r15=>((oNil r15.2).bind fun _=>((oTup r15.1).bind fun c16=>((oCons c16).bind fun p17=>((oAgg p17.1).bind fun c18=>((oCons c18).bind fun p19=>((oSl 1 p19.1).bind fun c20=>((oCons p19.2).bind fun p21=>((oSl 1 p21.1).bind fun c22=>((oNil p21.2).bind fun _=>((oCons p17.2).bind fun p23=>((oBool p23.1).bind fun b24=>((oNil p23.2).bind fun _=>some ((.tup [(.agg [(.sl 1 c20),(.sl 1 c22)]),(.int .i64 (0:Int))]),[])))))))))))))) else (bif ((a3_0 == (5:Int))) then (bif inB a3_2 ((a2).length / 7) then ((LIM F.q2y [(.rref ((a2.drop ((Int.toNat a3_2)*7)).take 7) 0)]).bind fun r25=>((oNil r25.2).bind fun _=>((oAgg r25.1).bind fun c26=>((oCons c26).bind fun p27=>((oSl 1 p27.1).bind fun c28=>((oCons p27.2).bind fun p29=>((oSl 1 p29.1).bind fun c30=>((oNil p29.2).bind fun _=>((LIM F.q5r [(.agg [(.sl 2 a0_0)]),(.agg [(.sl 1 c12),(.sl 1 c14)]),(.agg [(.sl 1 c28),(.sl 1 c30)]),(.int .i64 a3_3)]).bind fun r31=>((oNil r31.2).bind fun _=>((oAgg r31.1).bind fun c32=>((oCons c32).bind fun p33=>((oInt .i64 p33.1).bind fun n34=>((oCons p33.2).bind fun p35=>((oSl 1 p35.1).bind fun c36=>((oCons p35.2).bind fun p37=>((oSl 1 p37.1).bind fun c38=>((oNil p37.2).bind fun _=>some ((.tup [(.agg [(.sl 1 c36),(.sl 1 c38)]),(.int .i64 n34)]),[]))))))))))))))))))) else none) else (bif inB a3_2 ((a2).length / 7) then ((LIM F.q2y [(.rref ((a2.drop ((Int.toNat a3_2)*7)).take 7) 0)]).bind fun r39=>((oNil r39.2).bind fun _=>((oAgg r39.1).bind fun c40=>((oCons c40).bind fun p41=>((oSl 1 p41.1).bind fun c42=>((oCons p41.2).bind fun p43=>((oSl 1 p43.1).bind fun c44=>((oNil p43.2).bind fun _=>(bif ((a3_4 == (0:Int))) then ((LIM F.q3k [(.agg [(.sl 2 a0_0)]),(.sl 2 [(.sl 1 c42),(.sl 1 c44)]),(.int .i64 (0:Int)),(.int .i64 a3_3),(.sl 1 c12)]).bind fun r45=>((oNil r45.2).bind fun _=>((oAgg r45.1).bind fun c46=>((oCons c46).bind fun p47=>((oInt .i64 p47.1).bind fun n48=>((oCons p47.2).bind fun p49=>((oSl 1 p49.1).bind fun c50=>((oNil p49.2).bind fun _=>some ((.tup [(.agg [(.sl 1 c50),(.sl 1 c14)]),(.int .i64 n48)]),[]))))))))) else ((LIM F.q3k [(.agg [(.sl 2 a0_0)]),(.sl 2 [(.sl 1 c42),(.sl 1 c44)]),(.int .i64 (0:Int)),(.int .i64 a3_3),(.sl 1 c14)]).bind fun r51=>((oNil r51.2).bind fun _=>((oAgg r51.1).bind fun c52=>((oCons c52).bind fun p53=>((oInt .i64 p53.1).bind fun n54=>((oCons p53.2).bind fun p55=>((oSl 1 p55.1).bind fun c56=>((oNil p55.2).bind fun _=>some ((.tup [(.agg [(.sl 1 c12),(.sl 1 c56)]),(.int .i64 n54)]),[])))))))))))))))))) else none)))))))))))) else none)))))):=by kernel_rfl
def q1a.st0 (x0:Int) (x1:List T) (x2:Int) (x3 x4 x5:List T):St:=⟨[(0,(.one (.ptr 1000000 0))),(4,(.one (.ptr 256 0))),(7,(.one (.ptr 448 0))),(8,(.one (.obj 1024))),(9,(.one (.obj 1088))),(10,oi x0)],[(1000000,(.box [(.kept 0 (.sl 1 x1)),(.t (.int .i64 x2))])),(256,(.box [.nil])),(896,(.arr true true 2 x3)),(448,(.box [(.obj 896)])),(1024,(.arr true true 2 x4)),(1088,(.arr true true 7 x5))]⟩
noncomputable def q1a.K0 (n:Nat):Ex→St→R:=kx F.q1a n [.block 0,.seq 0 (cx F.q1a [1,1,1,1,1,1])] (endOf prog A F.q1a)
noncomputable def q1a.at0 (n:Nat) (m:Nat) (s:St):R:=lx F.q1a n 0 [1,1,1,1,1,0,1,0,0] (q1a.K0 n) m s
noncomputable def q1a.rd0 (n:Nat) (L0:St→R) (s:St):R:=rx F.q1a n 0 [1,1,1,1,1,0,1,0,0] (q1a.K0 n) L0 s
theorem q1a.next0 (n:Nat) (m:Nat) (s:St):q1a.at0 n (m+1) s=q1a.rd0 n (q1a.at0 n m) s:=nx _ _ _ _ _ _ _
theorem q1a.round0 (n:Nat) (L0:St→R) (x0:Int) (x1:List T) (x2:Int) (x3 x4 x5:List T):q1a.rd0 n L0 (q1a.st0 x0 x1 x2 x3 x4 x5)=(bif (decide (x0 > (0:Int))) then ((LIM F.q4v [(.rref [(.sl 1 x1),(.int .i64 x2)] 0),(.sl 2 x4),(.sl 7 x5)]).bind fun r27=>((oCons r27.2).bind fun p28=>((oNil p28.2).bind fun _=>((oAgg p28.1).bind fun c29=>((oCons c29).bind fun p30=>((oSl 1 p30.1).bind fun c31=>((oCons p30.2).bind fun p32=>((oInt .i64 p32.1).bind fun n33=>((oNil p32.2).bind fun _=>((oAgg r27.1).bind fun c34=>((oCons c34).bind fun p35=>((oInt .i64 p35.1).bind fun n36=>((oCons p35.2).bind fun p37=>((oInt .i64 p37.1).bind fun n38=>((oCons p37.2).bind fun p39=>((oInt .i64 p39.1).bind fun n40=>((oCons p39.2).bind fun p41=>((oInt .i64 p41.1).bind fun n42=>((oCons p41.2).bind fun p43=>((oInt .i64 p43.1).bind fun n44=>((oCons p43.2).bind fun p45=>((oSl 1 p45.1).bind fun c46=>((oCons p45.2).bind fun p47=>((oSl 1 p47.1).bind fun c48=>((oNil p47.2).bind fun _=>((LIM F.q4z [(.rref [(.sl 2 x3)] 0),(.sl 2 x4),(.sl 7 x5),(.agg [(.int .i64 n36),(.int .i64 n38),(.int .i64 n40),(.int .i64 n42),(.int .i64 n44),(.sl 1 c46),(.sl 1 c48)])]).bind fun r49=>((oNil r49.2).bind fun _=>((oTup r49.1).bind fun c50=>((oCons c50).bind fun p51=>((oAgg p51.1).bind fun c52=>((oCons c52).bind fun p53=>((oInt .i64 p53.1).bind fun n54=>((oCons p53.2).bind fun p55=>((oInt .i64 p55.1).bind fun n56=>((oCons p55.2).bind fun p57=>((oInt .i64 p57.1).bind fun n58=>((oCons p57.2).bind fun p59=>((oInt .i64 p59.1).bind fun n60=>((oCons p59.2).bind fun p61=>((oInt .i64 p61.1).bind fun n62=>((oCons p61.2).bind fun p63=>((oSl 1 p63.1).bind fun c64=>((oCons p63.2).bind fun p65=>((oSl 1 p65.1).bind fun c66=>((oNil p65.2).bind fun _=>((oCons p51.2).bind fun p67=>((oInt .i64 p67.1).bind fun n68=>((oNil p67.2).bind fun _=>(bif ((n68 == (0:Int))) then (bif Nat.ble (((x5).length+7)*88) (140737488355328*7) then (L0 (q1a.st0 (IntKind.wrap .i64 (x0 - (1:Int))) x1 n33 x3 x4 (x5++[(.int .i64 n54),(.int .i64 n56),(.int .i64 n58),(.int .i64 n60),(.int .i64 n62),(.sl 1 c64),(.sl 1 c66)]:List T))) else none) else (L0 (q1a.st0 (IntKind.wrap .i64 (x0 - (1:Int))) x1 n33 x3 x4 x5))))))))))))))))))))))))))))))))))))))))))))))))))) else some ((.tup [(.agg [(.sl 2 x3)]),(.sl 2 x4),(.sl 7 x5)]),[(.agg [(.sl 1 x1),(.int .i64 x2)])])):=by kernel_rfl
theorem q1a.ev (n:Nat) (a0_0:List T) (a0_1 a1:Int):callK prog A H LIM n F.q1a [(.rref [(.sl 1 a0_0),(.int .i64 a0_1)] 0),(.int .i64 a1)]=((LIM F.q6x [(.rref [(.sl 1 a0_0),(.int .i64 a0_1)] 0)]).bind fun r1=>((oCons r1.2).bind fun p2=>((oNil p2.2).bind fun _=>((oAgg p2.1).bind fun c3=>((oCons c3).bind fun p4=>((oSl 1 p4.1).bind fun c5=>((oCons p4.2).bind fun p6=>((oInt .i64 p6.1).bind fun n7=>((oNil p6.2).bind fun _=>((oAgg r1.1).bind fun c8=>((oCons c8).bind fun p9=>((oSl 2 p9.1).bind fun c10=>((oNil p9.2).bind fun _=>((LIM F.q0v [(.rref [(.sl 1 a0_0),(.int .i64 n7)] 0),(.rref [(.sl 2 c10)] 0),(.int .i64 (4:Int))]).bind fun r11=>((oCons r11.2).bind fun p12=>((oNil p12.2).bind fun _=>((oAgg p12.1).bind fun c13=>((oCons c13).bind fun p14=>((oSl 1 p14.1).bind fun c15=>((oCons p14.2).bind fun p16=>((oInt .i64 p16.1).bind fun n17=>((oNil p16.2).bind fun _=>((oSl 2 r11.1).bind fun c18=>(bif ((((((c18).length / 2):Nat):Int) == (0:Int))) then some ((.tup [(.agg [(.sl 2 c10)]),(.sl 2 c18),(.sl 7 [])]),[(.agg [(.sl 1 a0_0),(.int .i64 n17)])]) else ((LIM F.q16 [(.rref [(.sl 1 a0_0),(.int .i64 n17)] 0),(.int .i64 a1)]).bind fun r19=>((oCons r19.2).bind fun p20=>((oNil p20.2).bind fun _=>((oAgg p20.1).bind fun c21=>((oCons c21).bind fun p22=>((oSl 1 p22.1).bind fun c23=>((oCons p22.2).bind fun p24=>((oInt .i64 p24.1).bind fun n25=>((oNil p24.2).bind fun _=>((oInt .i64 r19.1).bind fun n26=>(q1a.at0 n n (q1a.st0 n26 a0_0 n25 c10 c18 [])))))))))))))))))))))))))))))))))))):=by kernel_rfl
theorem q2y.ev (n:Nat) (a0_0 a0_1 a0_2 a0_3 a0_4:Int) (a0_5 a0_6:List T):callK prog A H LIM n F.q2y [(.rref [(.int .i64 a0_0),(.int .i64 a0_1),(.int .i64 a0_2),(.int .i64 a0_3),(.int .i64 a0_4),(.sl 1 a0_5),(.sl 1 a0_6)] 0)]=((LIM F.q27 [(.sl 1 a0_5)]).bind fun r1=>((oNil r1.2).bind fun _=>((oSl 1 r1.1).bind fun c2=>((LIM F.q27 [(.sl 1 a0_6)]).bind fun r3=>((oNil r3.2).bind fun _=>((oSl 1 r3.1).bind fun c4=>some ((.agg [(.sl 1 c2),(.sl 1 c4)]),[]))))))):=by kernel_rfl
def q1b.st0 (x0 x1:List T) (x2:Int):St:=⟨[(0,(.one (.t (.rref [(.sl 2 x0)] 0)))),(1,ol 7 x1),(5,oi x2)],[]⟩
noncomputable def q1b.K0 (n:Nat):Ex→St→R:=kx F.q1b n [.block 0,.seq 0 (cx F.q1b [1,1,1])] (endOf prog A F.q1b)
noncomputable def q1b.at0 (n:Nat) (m:Nat) (s:St):R:=lx F.q1b n 0 [1,1,0,1,0,0] (q1b.K0 n) m s
noncomputable def q1b.rd0 (n:Nat) (L0:St→R) (s:St):R:=rx F.q1b n 0 [1,1,0,1,0,0] (q1b.K0 n) L0 s
theorem q1b.next0 (n:Nat) (m:Nat) (s:St):q1b.at0 n (m+1) s=q1b.rd0 n (q1b.at0 n m) s:=nx _ _ _ _ _ _ _
theorem q1b.round0 (n:Nat) (L0:St→R) (x0 x1:List T) (x2:Int):q1b.rd0 n L0 (q1b.st0 x0 x1 x2)=(bif (decide (x2 < ((((x1).length / 7):Nat):Int))) then (bif inB x2 ((x1).length / 7) then ((LIM F.q2y [(.rref ((x1.drop ((Int.toNat x2)*7)).take 7) 0)]).bind fun r1=>((oNil r1.2).bind fun _=>((oAgg r1.1).bind fun c2=>((oCons c2).bind fun p3=>((oSl 1 p3.1).bind fun c4=>((oCons p3.2).bind fun p5=>((oSl 1 p5.1).bind fun c6=>((oNil p5.2).bind fun _=>((LIM F.q43 [(.rref [(.sl 2 x0)] 0),(.rref [(.sl 1 c4),(.sl 1 c6)] 0)]).bind fun r7=>((oNil r7.2).bind fun _=>((oInt .i64 r7.1).bind fun n8=>(bif ((n8 != (0:Int))) then some ((.int .i64 n8),[]) else (L0 (q1b.st0 x0 x1 (IntKind.wrap .i64 (x2+(1:Int))))))))))))))))) else none) else some ((.int .i64 (0:Int)),[])):=by kernel_rfl
theorem q1b.ev (n:Nat) (a0_0 a1:List T):callK prog A H LIM n F.q1b [(.rref [(.sl 2 a0_0)] 0),(.sl 7 a1)]=(bif (decide (((((a1).length / 7):Nat):Int) > (500:Int))) then some ((.int .i64 (2:Int)),[]) else (q1b.at0 n n (q1b.st0 a0_0 a1 (0:Int)))):=by kernel_rfl
theorem q4z.ev (n:Nat) (a0_0 a1 a2:List T) (a3_0 a3_1 a3_2 a3_3 a3_4:Int) (a3_5 a3_6:List T):callK prog A H LIM n F.q4z [(.rref [(.sl 2 a0_0)] 0),(.sl 2 a1),(.sl 7 a2),(.agg [(.int .i64 a3_0),(.int .i64 a3_1),(.int .i64 a3_2),(.int .i64 a3_3),(.int .i64 a3_4),(.sl 1 a3_5),(.sl 1 a3_6)])]=((LIM F.q4c [(.rref [(.sl 2 a0_0)] 0),(.sl 2 a1),(.sl 7 a2),(.rref [(.int .i64 a3_0),(.int .i64 a3_1),(.int .i64 a3_2),(.int .i64 a3_3),(.int .i64 a3_4),(.sl 1 a3_5),(.sl 1 a3_6)] 0)]).bind fun r1=>((oNil r1.2).bind fun _=>((oTup r1.1).bind fun c2=>((oCons c2).bind fun p3=>((oAgg p3.1).bind fun c4=>((oCons c4).bind fun p5=>((oSl 1 p5.1).bind fun c6=>((oCons p5.2).bind fun p7=>((oSl 1 p7.1).bind fun c8=>((oNil p7.2).bind fun _=>((oCons p3.2).bind fun p9=>((oInt .i64 p9.1).bind fun n10=>((oNil p9.2).bind fun _=>(bif ((n10 != (0:Int))) then some ((.tup [(.agg [(.int .i64 (0:Int)),(.int .i64 (0:Int)),(.int .i64 (0:Int)),(.int .i64 (0:Int)),(.int .i64 (0:Int)),(.sl 1 []),(.sl 1 [])]),(.int .i64 n10)]),[]) else some ((.tup [(.agg [(.int .i64 a3_0),(.int .i64 a3_1),(.int .i64 a3_2),(.int .i64 a3_3),(.int .i64 a3_4),(.sl 1 c6),(.sl 1 c8)]),(.int .i64 (0:Int))]),[]))))))))))))))):=by kernel_rfl
theorem q4v.ev (n:Nat) (a0_0:List T) (a0_1:Int) (a1 a2:List T):callK prog A H LIM n F.q4v [(.rref [(.sl 1 a0_0),(.int .i64 a0_1)] 0),(.sl 2 a1),(.sl 7 a2)]=(bif ((((((a2).length / 7):Nat):Int) == (0:Int))) then ((LIM F.q16 [(.rref [(.sl 1 a0_0),(.int .i64 a0_1)] 0),(.int .i64 ((((a1).length / 2):Nat):Int))]).bind fun r1=>((oCons r1.2).bind fun p2=>((oNil p2.2).bind fun _=>((oAgg p2.1).bind fun c3=>((oCons c3).bind fun p4=>((oSl 1 p4.1).bind fun c5=>((oCons p4.2).bind fun p6=>((oInt .i64 p6.1).bind fun n7=>((oNil p6.2).bind fun _=>((oInt .i64 r1.1).bind fun n8=>some ((.agg [(.int .i64 (1:Int)),(.int .i64 n8),(.int .i64 (0:Int)),(.int .i64 (0:Int)),(.int .i64 (0:Int)),(.sl 1 []),(.sl 1 [])]),[(.agg [(.sl 1 a0_0),(.int .i64 n7)])]))))))))))) else ((LIM F.q2u [(.rref [(.sl 1 a0_0),(.int .i64 a0_1)] 0),(.int .i64 (5:Int))]).bind fun r9=>((oCons r9.2).bind fun p10=>((oNil p10.2).bind fun _=>((oAgg p10.1).bind fun c11=>((oCons c11).bind fun p12=>((oSl 1 p12.1).bind fun c13=>((oCons p12.2).bind fun p14=>((oInt .i64 p14.1).bind fun n15=>((oNil p14.2).bind fun _=>((oBool r9.1).bind fun b16=>(bif b16 then ((LIM F.q16 [(.rref [(.sl 1 a0_0),(.int .i64 n15)] 0),(.int .i64 ((((a1).length / 2):Nat):Int))]).bind fun r17=>((oCons r17.2).bind fun p18=>((oNil p18.2).bind fun _=>((oAgg p18.1).bind fun c19=>((oCons c19).bind fun p20=>((oSl 1 p20.1).bind fun c21=>((oCons p20.2).bind fun p22=>((oInt .i64 p22.1).bind fun n23=>((oNil p22.2).bind fun _=>((oInt .i64 r17.1).bind fun n24=>some ((.agg [(.int .i64 (1:Int)),(.int .i64 n24),(.int .i64 (0:Int)),(.int .i64 (0:Int)),(.int .i64 (0:Int)),(.sl 1 []),(.sl 1 [])]),[(.agg [(.sl 1 a0_0),(.int .i64 n23)])]))))))))))) else ((LIM F.q16 [(.rref [(.sl 1 a0_0),(.int .i64 n15)] 0),(.int .i64 ((((a2).length / 7):Nat):Int))]).bind fun r25=>((oCons r25.2).bind fun p26=>((oNil p26.2).bind fun _=>((oAgg p26.1).bind fun c27=>((oCons c27).bind fun p28=>((oSl 1 p28.1).bind fun c29=>((oCons p28.2).bind fun p30=>((oInt .i64 p30.1).bind fun n31=>((oNil p30.2).bind fun _=>((oInt .i64 r25.1).bind fun n32=>((LIM F.q16 [(.rref [(.sl 1 a0_0),(.int .i64 n31)] 0),(.int .i64 ((((a2).length / 7):Nat):Int))]).bind fun r33=>((oCons r33.2).bind fun p34=>((oNil p34.2).bind fun _=>((oAgg p34.1).bind fun c35=>((oCons c35).bind fun p36=>((oSl 1 p36.1).bind fun c37=>((oCons p36.2).bind fun p38=>((oInt .i64 p38.1).bind fun n39=>((oNil p38.2).bind fun _=>((oInt .i64 r33.1).bind fun n40=>((LIM F.q16 [(.rref [(.sl 1 a0_0),(.int .i64 n39)] 0),(.int .i64 (6:Int))]).bind fun r41=>((oCons r41.2).bind fun p42=>((oNil p42.2).bind fun _=>((oAgg p42.1).bind fun c43=>((oCons c43).bind fun p44=>((oSl 1 p44.1).bind fun c45=>((oCons p44.2).bind fun p46=>((oInt .i64 p46.1).bind fun n47=>((oNil p46.2).bind fun _=>((oInt .i64 r41.1).bind fun n48=>(bif ((n48 == (0:Int))) then some ((.agg [(.int .i64 (2:Int)),(.int .i64 n32),(.int .i64 (0:Int)),(.int .i64 (0:Int)),(.int .i64 (0:Int)),(.sl 1 []),(.sl 1 [])]),[(.agg [(.sl 1 a0_0),(.int .i64 n47)])]) else (bif ((n48 == (1:Int))) then some ((.agg [(.int .i64 (3:Int)),(.int .i64 n32),(.int .i64 (0:Int)),(.int .i64 (0:Int)),(.int .i64 (0:Int)),(.sl 1 []),(.sl 1 [])]),[(.agg [(.sl 1 a0_0),(.int .i64 n47)])]) else (bif ((n48 == (2:Int))) then (bif ((n48 == (2:Int))) then ((LIM F.q16 [(.rref [(.sl 1 a0_0),(.int .i64 n47)] 0),(.int .i64 (2:Int))]).bind fun r49=>((oCons r49.2).bind fun p50=>((oNil p50.2).bind fun _=>((oAgg p50.1).bind fun c51=>((oCons c51).bind fun p52=>((oSl 1 p52.1).bind fun c53=>((oCons p52.2).bind fun p54=>((oInt .i64 p54.1).bind fun n55=>((oNil p54.2).bind fun _=>((oInt .i64 r49.1).bind fun n56=>(bif inB n32 ((a2).length / 7) then ((a2[(((Int.toNat n32)*7)+5)]?).bind fun e57=>((oSl 1 e57).bind fun c58=>(bif ((n56 == (1:Int))) then (bif inB n32 ((a2).length / 7) then ((a2[(((Int.toNat n32)*7)+6)]?).bind fun e59=>((oSl 1 e59).bind fun c60=>((LIM F.q16 [(.rref [(.sl 1 a0_0),(.int .i64 n55)] 0),(.int .i64 ((((c60).length / 1):Nat):Int))]).bind fun r61=>((oCons r61.2).bind fun p62=>((oNil p62.2).bind fun _=>((oAgg p62.1).bind fun c63=>((oCons c63).bind fun p64=>((oSl 1 p64.1).bind fun c65=>((oCons p64.2).bind fun p66=>((oInt .i64 p66.1).bind fun n67=>((oNil p66.2).bind fun _=>((oInt .i64 r61.1).bind fun n68=>some ((.agg [(.int .i64 (4:Int)),(.int .i64 n32),(.int .i64 n40),(.int .i64 n68),(.int .i64 n56),(.sl 1 []),(.sl 1 [])]),[(.agg [(.sl 1 a0_0),(.int .i64 n67)])]))))))))))))) else none) else ((LIM F.q16 [(.rref [(.sl 1 a0_0),(.int .i64 n55)] 0),(.int .i64 ((((c58).length / 1):Nat):Int))]).bind fun r69=>((oCons r69.2).bind fun p70=>((oNil p70.2).bind fun _=>((oAgg p70.1).bind fun c71=>((oCons c71).bind fun p72=>((oSl 1 p72.1).bind fun c73=>((oCons p72.2).bind fun p74=>((oInt .i64 p74.1).bind fun n75=>((oNil p74.2).bind fun _=>((oInt .i64 r69.1).bind fun n76=>some ((.agg [(.int .i64 (4:Int)),(.int .i64 n32),(.int .i64 n40),(.int .i64 n76),(.int .i64 n56),(.sl 1 []),(.sl 1 [])]),[(.agg [(.sl 1 a0_0),(.int .i64 n75)])])))))))))))))) else none))))))))))) else (bif inB n32 ((a2).length / 7) then ((a2[(((Int.toNat n32)*7)+5)]?).bind fun e77=>((oSl 1 e77).bind fun c78=>((LIM F.q16 [(.rref [(.sl 1 a0_0),(.int .i64 n47)] 0),(.int .i64 ((((c78).length / 1):Nat):Int))]).bind fun r79=>((oCons r79.2).bind fun p80=>((oNil p80.2).bind fun _=>((oAgg p80.1).bind fun c81=>((oCons c81).bind fun p82=>((oSl 1 p82.1).bind fun c83=>((oCons p82.2).bind fun p84=>((oInt .i64 p84.1).bind fun n85=>((oNil p84.2).bind fun _=>((oInt .i64 r79.1).bind fun n86=>some ((.agg [(.int .i64 (5:Int)),(.int .i64 n32),(.int .i64 n40),(.int .i64 n86),(.int .i64 (0:Int)),(.sl 1 []),(.sl 1 [])]),[(.agg [(.sl 1 a0_0),(.int .i64 n85)])]))))))))))))) else none)) else (bif ((n48 == (3:Int))) then ((LIM F.q16 [(.rref [(.sl 1 a0_0),(.int .i64 n47)] 0),(.int .i64 (2:Int))]).bind fun r87=>((oCons r87.2).bind fun p88=>((oNil p88.2).bind fun _=>((oAgg p88.1).bind fun c89=>((oCons c89).bind fun p90=>((oSl 1 p90.1).bind fun c91=>((oCons p90.2).bind fun p92=>((oInt .i64 p92.1).bind fun n93=>((oNil p92.2).bind fun _=>((oInt .i64 r87.1).bind fun n94=>(bif inB n32 ((a2).length / 7) then ((a2[(((Int.toNat n32)*7)+5)]?).bind fun e95=>((oSl 1 e95).bind fun c96=>(bif ((n94 == (1:Int))) then (bif inB n32 ((a2).length / 7) then ((a2[(((Int.toNat n32)*7)+6)]?).bind fun e97=>((oSl 1 e97).bind fun c98=>((LIM F.q16 [(.rref [(.sl 1 a0_0),(.int .i64 n93)] 0),(.int .i64 ((((c98).length / 1):Nat):Int))]).bind fun r99=>((oCons r99.2).bind fun p100=>((oNil p100.2).bind fun _=>((oAgg p100.1).bind fun c101=>((oCons c101).bind fun p102=>((oSl 1 p102.1).bind fun c103=>((oCons p102.2).bind fun p104=>((oInt .i64 p104.1).bind fun n105=>((oNil p104.2).bind fun _=>((oInt .i64 r99.1).bind fun n106=>some ((.agg [(.int .i64 (4:Int)),(.int .i64 n32),(.int .i64 n40),(.int .i64 n106),(.int .i64 n94),(.sl 1 []),(.sl 1 [])]),[(.agg [(.sl 1 a0_0),(.int .i64 n105)])]))))))))))))) else none) else ((LIM F.q16 [(.rref [(.sl 1 a0_0),(.int .i64 n93)] 0),(.int .i64 ((((c96).length / 1):Nat):Int))]).bind fun r107=>((oCons r107.2).bind fun p108=>((oNil p108.2).bind fun _=>((oAgg p108.1).bind fun c109=>((oCons c109).bind fun p110=>((oSl 1 p110.1).bind fun c111=>((oCons p110.2).bind fun p112=>((oInt .i64 p112.1).bind fun n113=>((oNil p112.2).bind fun _=>((oInt .i64 r107.1).bind fun n114=>some ((.agg [(.int .i64 (4:Int)),(.int .i64 n32),(.int .i64 n40),(.int .i64 n114),(.int .i64 n94),(.sl 1 []),(.sl 1 [])]),[(.agg [(.sl 1 a0_0),(.int .i64 n113)])])))))))))))))) else none))))))))))) else (bif inB n32 ((a2).length / 7) then ((a2[(((Int.toNat n32)*7)+5)]?).bind fun e115=>((oSl 1 e115).bind fun c116=>((LIM F.q16 [(.rref [(.sl 1 a0_0),(.int .i64 n47)] 0),(.int .i64 ((((c116).length / 1):Nat):Int))]).bind fun r117=>((oCons r117.2).bind fun p118=>((oNil p118.2).bind fun _=>((oAgg p118.1).bind fun c119=>((oCons c119).bind fun p120=>((oSl 1 p120.1).bind fun c121=>((oCons p120.2).bind fun p122=>((oInt .i64 p122.1).bind fun n123=>((oNil p122.2).bind fun _=>((oInt .i64 r117.1).bind fun n124=>some ((.agg [(.int .i64 (5:Int)),(.int .i64 n32),(.int .i64 n40),(.int .i64 n124),(.int .i64 (0:Int)),(.sl 1 []),(.sl 1 [])]),[(.agg [(.sl 1 a0_0),(.int .i64 n123)])]))))))))))))) else none))))))))))))))))))))))))))))))))))))))))))))))):=by kernel_rfl
theorem q54.ev (n:Nat) (a0 a1 a2_0 a2_1 a2_2 a2_3 a2_4:Int) (a2_5 a2_6:List T):callK prog A H LIM n F.q54 [(.int .i64 a0),(.int .i64 a1),(.rref [(.int .i64 a2_0),(.int .i64 a2_1),(.int .i64 a2_2),(.int .i64 a2_3),(.int .i64 a2_4),(.sl 1 a2_5),(.sl 1 a2_6)] 0)]=((LIM F.q14 [(.int .i64 a2_0),(.int .i64 (1:Int)),(.int .i64 (5:Int))]).bind fun r1=>((oNil r1.2).bind fun _=>((oBool r1.1).bind fun b2=>(bif (!b2) then some ((.int .i64 (1:Int)),[]) else (bif ((a2_0 == (4:Int))) then (bif ((a2_0 != (4:Int))) then (bif ((a2_4 != (0:Int))) then some ((.int .i64 (1:Int)),[]) else (bif ((a2_0 == (1:Int))) then ((LIM F.q14 [(.int .i64 a2_1),(.int .i64 (0:Int)),(.int .i64 (IntKind.wrap .i64 (a0 - (1:Int))))]).bind fun r3=>((oNil r3.2).bind fun _=>((oBool r3.1).bind fun b4=>(bif (!b4) then some ((.int .i64 (3:Int)),[]) else ((LIM F.q14 [(.int .i64 a2_2),(.int .i64 (0:Int)),(.int .i64 (IntKind.wrap .i64 (a1 - (1:Int))))]).bind fun r5=>((oNil r5.2).bind fun _=>((oBool r5.1).bind fun b6=>(bif (!b6) then some ((.int .i64 (3:Int)),[]) else ((LIM F.q14 [(.int .i64 a2_4),(.int .i64 (0:Int)),(.int .i64 (1:Int))]).bind fun r7=>((oNil r7.2).bind fun _=>((oBool r7.1).bind fun b8=>(bif (!b8) then some ((.int .i64 (3:Int)),[]) else some ((.int .i64 (0:Int)),[]))))))))))))) else ((LIM F.q14 [(.int .i64 a2_1),(.int .i64 (0:Int)),(.int .i64 (IntKind.wrap .i64 (a1 - (1:Int))))]).bind fun r9=>((oNil r9.2).bind fun _=>((oBool r9.1).bind fun b10=>(bif (!b10) then some ((.int .i64 (3:Int)),[]) else ((LIM F.q14 [(.int .i64 a2_2),(.int .i64 (0:Int)),(.int .i64 (IntKind.wrap .i64 (a1 - (1:Int))))]).bind fun r11=>((oNil r11.2).bind fun _=>((oBool r11.1).bind fun b12=>(bif (!b12) then some ((.int .i64 (3:Int)),[]) else ((LIM F.q14 [(.int .i64 a2_4),(.int .i64 (0:Int)),(.int .i64 (1:Int))]).bind fun r13=>((oNil r13.2).bind fun _=>((oBool r13.1).bind fun b14=>(bif (!b14) then some ((.int .i64 (3:Int)),[]) else some ((.int .i64 (0:Int)),[]))))))))))))))) else (bif ((a2_0 == (1:Int))) then ((LIM F.q14 [(.int .i64 a2_1),(.int .i64 (0:Int)),(.int .i64 (IntKind.wrap .i64 (a0 - (1:Int))))]).bind fun r15=>((oNil r15.2).bind fun _=>((oBool r15.1).bind fun b16=>(bif (!b16) then some ((.int .i64 (3:Int)),[]) else ((LIM F.q14 [(.int .i64 a2_2),(.int .i64 (0:Int)),(.int .i64 (IntKind.wrap .i64 (a1 - (1:Int))))]).bind fun r17=>((oNil r17.2).bind fun _=>((oBool r17.1).bind fun b18=>(bif (!b18) then some ((.int .i64 (3:Int)),[]) else ((LIM F.q14 [(.int .i64 a2_4),(.int .i64 (0:Int)),(.int .i64 (1:Int))]).bind fun r19=>((oNil r19.2).bind fun _=>((oBool r19.1).bind fun b20=>(bif (!b20) then some ((.int .i64 (3:Int)),[]) else some ((.int .i64 (0:Int)),[]))))))))))))) else ((LIM F.q14 [(.int .i64 a2_1),(.int .i64 (0:Int)),(.int .i64 (IntKind.wrap .i64 (a1 - (1:Int))))]).bind fun r21=>((oNil r21.2).bind fun _=>((oBool r21.1).bind fun b22=>(bif (!b22) then some ((.int .i64 (3:Int)),[]) else ((LIM F.q14 [(.int .i64 a2_2),(.int .i64 (0:Int)),(.int .i64 (IntKind.wrap .i64 (a1 - (1:Int))))]).bind fun r23=>((oNil r23.2).bind fun _=>((oBool r23.1).bind fun b24=>(bif (!b24) then some ((.int .i64 (3:Int)),[]) else ((LIM F.q14 [(.int .i64 a2_4),(.int .i64 (0:Int)),(.int .i64 (1:Int))]).bind fun r25=>((oNil r25.2).bind fun _=>((oBool r25.1).bind fun b26=>(bif (!b26) then some ((.int .i64 (3:Int)),[]) else some ((.int .i64 (0:Int)),[]))))))))))))))) else (bif (!((a2_0 == (5:Int)))) then (bif ((a2_2 != (0:Int))) then some ((.int .i64 (1:Int)),[]) else (bif ((a2_3 != (0:Int))) then some ((.int .i64 (1:Int)),[]) else (bif ((a2_0 != (4:Int))) then (bif ((a2_4 != (0:Int))) then some ((.int .i64 (1:Int)),[]) else (bif ((a2_0 == (1:Int))) then ((LIM F.q14 [(.int .i64 a2_1),(.int .i64 (0:Int)),(.int .i64 (IntKind.wrap .i64 (a0 - (1:Int))))]).bind fun r27=>((oNil r27.2).bind fun _=>((oBool r27.1).bind fun b28=>(bif (!b28) then some ((.int .i64 (3:Int)),[]) else (bif ((a2_0 == (5:Int))) then ((LIM F.q14 [(.int .i64 a2_2),(.int .i64 (0:Int)),(.int .i64 (IntKind.wrap .i64 (a1 - (1:Int))))]).bind fun r29=>((oNil r29.2).bind fun _=>((oBool r29.1).bind fun b30=>(bif (!b30) then some ((.int .i64 (3:Int)),[]) else ((LIM F.q14 [(.int .i64 a2_4),(.int .i64 (0:Int)),(.int .i64 (1:Int))]).bind fun r31=>((oNil r31.2).bind fun _=>((oBool r31.1).bind fun b32=>(bif (!b32) then some ((.int .i64 (3:Int)),[]) else some ((.int .i64 (0:Int)),[]))))))))) else ((LIM F.q14 [(.int .i64 a2_4),(.int .i64 (0:Int)),(.int .i64 (1:Int))]).bind fun r33=>((oNil r33.2).bind fun _=>((oBool r33.1).bind fun b34=>(bif (!b34) then some ((.int .i64 (3:Int)),[]) else some ((.int .i64 (0:Int)),[])))))))))) else ((LIM F.q14 [(.int .i64 a2_1),(.int .i64 (0:Int)),(.int .i64 (IntKind.wrap .i64 (a1 - (1:Int))))]).bind fun r35=>((oNil r35.2).bind fun _=>((oBool r35.1).bind fun b36=>(bif (!b36) then some ((.int .i64 (3:Int)),[]) else (bif ((a2_0 == (5:Int))) then ((LIM F.q14 [(.int .i64 a2_2),(.int .i64 (0:Int)),(.int .i64 (IntKind.wrap .i64 (a1 - (1:Int))))]).bind fun r37=>((oNil r37.2).bind fun _=>((oBool r37.1).bind fun b38=>(bif (!b38) then some ((.int .i64 (3:Int)),[]) else ((LIM F.q14 [(.int .i64 a2_4),(.int .i64 (0:Int)),(.int .i64 (1:Int))]).bind fun r39=>((oNil r39.2).bind fun _=>((oBool r39.1).bind fun b40=>(bif (!b40) then some ((.int .i64 (3:Int)),[]) else some ((.int .i64 (0:Int)),[]))))))))) else ((LIM F.q14 [(.int .i64 a2_4),(.int .i64 (0:Int)),(.int .i64 (1:Int))]).bind fun r41=>((oNil r41.2).bind fun _=>((oBool r41.1).bind fun b42=>(bif (!b42) then some ((.int .i64 (3:Int)),[]) else some ((.int .i64 (0:Int)),[])))))))))))) else (bif ((a2_0 == (1:Int))) then ((LIM F.q14 [(.int .i64 a2_1),(.int .i64 (0:Int)),(.int .i64 (IntKind.wrap .i64 (a0 - (1:Int))))]).bind fun r43=>((oNil r43.2).bind fun _=>((oBool r43.1).bind fun b44=>(bif (!b44) then some ((.int .i64 (3:Int)),[]) else (bif ((a2_0 == (5:Int))) then ((LIM F.q14 [(.int .i64 a2_2),(.int .i64 (0:Int)),(.int .i64 (IntKind.wrap .i64 (a1 - (1:Int))))]).bind fun r45=>((oNil r45.2).bind fun _=>((oBool r45.1).bind fun b46=>(bif (!b46) then some ((.int .i64 (3:Int)),[]) else ((LIM F.q14 [(.int .i64 a2_4),(.int .i64 (0:Int)),(.int .i64 (1:Int))]).bind fun r47=>((oNil r47.2).bind fun _=>((oBool r47.1).bind fun b48=>(bif (!b48) then some ((.int .i64 (3:Int)),[]) else some ((.int .i64 (0:Int)),[]))))))))) else ((LIM F.q14 [(.int .i64 a2_4),(.int .i64 (0:Int)),(.int .i64 (1:Int))]).bind fun r49=>((oNil r49.2).bind fun _=>((oBool r49.1).bind fun b50=>(bif (!b50) then some ((.int .i64 (3:Int)),[]) else some ((.int .i64 (0:Int)),[])))))))))) else ((LIM F.q14 [(.int .i64 a2_1),(.int .i64 (0:Int)),(.int .i64 (IntKind.wrap .i64 (a1 - (1:Int))))]).bind fun r51=>((oNil r51.2).bind fun _=>((oBool r51.1).bind fun b52=>(bif (!b52) then some ((.int .i64 (3:Int)),[]) else (bif ((a2_0 == (5:Int))) then ((LIM F.q14 [(.int .i64 a2_2),(.int .i64 (0:Int)),(.int .i64 (IntKind.wrap .i64 (a1 - (1:Int))))]).bind fun r53=>((oNil r53.2).bind fun _=>((oBool r53.1).bind fun b54=>(bif (!b54) then some ((.int .i64 (3:Int)),[]) else ((LIM F.q14 [(.int .i64 a2_4),(.int .i64 (0:Int)),(.int .i64 (1:Int))]).bind fun r55=>((oNil r55.2).bind fun _=>((oBool r55.1).bind fun b56=>(bif (!b56) then some ((.int .i64 (3:Int)),[]) else some ((.int .i64 (0:Int)),[]))))))))) else ((LIM F.q14 [(.int .i64 a2_4),(.int .i64 (0:Int)),(.int .i64 (1:Int))]).bind fun r57=>((oNil r57.2).bind fun _=>((oBool r57.1).bind fun b58=>(bif (!b58) then some ((.int .i64 (3:Int)),[]) else some ((.int .i64 (0:Int)),[])))))))))))))) else (bif ((a2_0 != (4:Int))) then (bif ((a2_4 != (0:Int))) then some ((.int .i64 (1:Int)),[]) else (bif ((a2_0 == (1:Int))) then ((LIM F.q14 [(.int .i64 a2_1),(.int .i64 (0:Int)),(.int .i64 (IntKind.wrap .i64 (a0 - (1:Int))))]).bind fun r59=>((oNil r59.2).bind fun _=>((oBool r59.1).bind fun b60=>(bif (!b60) then some ((.int .i64 (3:Int)),[]) else (bif ((a2_0 == (5:Int))) then ((LIM F.q14 [(.int .i64 a2_2),(.int .i64 (0:Int)),(.int .i64 (IntKind.wrap .i64 (a1 - (1:Int))))]).bind fun r61=>((oNil r61.2).bind fun _=>((oBool r61.1).bind fun b62=>(bif (!b62) then some ((.int .i64 (3:Int)),[]) else ((LIM F.q14 [(.int .i64 a2_4),(.int .i64 (0:Int)),(.int .i64 (1:Int))]).bind fun r63=>((oNil r63.2).bind fun _=>((oBool r63.1).bind fun b64=>(bif (!b64) then some ((.int .i64 (3:Int)),[]) else some ((.int .i64 (0:Int)),[]))))))))) else ((LIM F.q14 [(.int .i64 a2_4),(.int .i64 (0:Int)),(.int .i64 (1:Int))]).bind fun r65=>((oNil r65.2).bind fun _=>((oBool r65.1).bind fun b66=>(bif (!b66) then some ((.int .i64 (3:Int)),[]) else some ((.int .i64 (0:Int)),[])))))))))) else ((LIM F.q14 [(.int .i64 a2_1),(.int .i64 (0:Int)),(.int .i64 (IntKind.wrap .i64 (a1 - (1:Int))))]).bind fun r67=>((oNil r67.2).bind fun _=>((oBool r67.1).bind fun b68=>(bif (!b68) then some ((.int .i64 (3:Int)),[]) else (bif ((a2_0 == (5:Int))) then ((LIM F.q14 [(.int .i64 a2_2),(.int .i64 (0:Int)),(.int .i64 (IntKind.wrap .i64 (a1 - (1:Int))))]).bind fun r69=>((oNil r69.2).bind fun _=>((oBool r69.1).bind fun b70=>(bif (!b70) then some ((.int .i64 (3:Int)),[]) else ((LIM F.q14 [(.int .i64 a2_4),(.int .i64 (0:Int)),(.int .i64 (1:Int))]).bind fun r71=>((oNil r71.2).bind fun _=>((oBool r71.1).bind fun b72=>(bif (!b72) then some ((.int .i64 (3:Int)),[]) else some ((.int .i64 (0:Int)),[]))))))))) else ((LIM F.q14 [(.int .i64 a2_4),(.int .i64 (0:Int)),(.int .i64 (1:Int))]).bind fun r73=>((oNil r73.2).bind fun _=>((oBool r73.1).bind fun b74=>(bif (!b74) then some ((.int .i64 (3:Int)),[]) else some ((.int .i64 (0:Int)),[])))))))))))) else (bif ((a2_0 == (1:Int))) then ((LIM F.q14 [(.int .i64 a2_1),(.int .i64 (0:Int)),(.int .i64 (IntKind.wrap .i64 (a0 - (1:Int))))]).bind fun r75=>((oNil r75.2).bind fun _=>((oBool r75.1).bind fun b76=>(bif (!b76) then some ((.int .i64 (3:Int)),[]) else (bif ((a2_0 == (5:Int))) then ((LIM F.q14 [(.int .i64 a2_2),(.int .i64 (0:Int)),(.int .i64 (IntKind.wrap .i64 (a1 - (1:Int))))]).bind fun r77=>((oNil r77.2).bind fun _=>((oBool r77.1).bind fun b78=>(bif (!b78) then some ((.int .i64 (3:Int)),[]) else ((LIM F.q14 [(.int .i64 a2_4),(.int .i64 (0:Int)),(.int .i64 (1:Int))]).bind fun r79=>((oNil r79.2).bind fun _=>((oBool r79.1).bind fun b80=>(bif (!b80) then some ((.int .i64 (3:Int)),[]) else some ((.int .i64 (0:Int)),[]))))))))) else ((LIM F.q14 [(.int .i64 a2_4),(.int .i64 (0:Int)),(.int .i64 (1:Int))]).bind fun r81=>((oNil r81.2).bind fun _=>((oBool r81.1).bind fun b82=>(bif (!b82) then some ((.int .i64 (3:Int)),[]) else some ((.int .i64 (0:Int)),[])))))))))) else ((LIM F.q14 [(.int .i64 a2_1),(.int .i64 (0:Int)),(.int .i64 (IntKind.wrap .i64 (a1 - (1:Int))))]).bind fun r83=>((oNil r83.2).bind fun _=>((oBool r83.1).bind fun b84=>(bif (!b84) then some ((.int .i64 (3:Int)),[]) else (bif ((a2_0 == (5:Int))) then ((LIM F.q14 [(.int .i64 a2_2),(.int .i64 (0:Int)),(.int .i64 (IntKind.wrap .i64 (a1 - (1:Int))))]).bind fun r85=>((oNil r85.2).bind fun _=>((oBool r85.1).bind fun b86=>(bif (!b86) then some ((.int .i64 (3:Int)),[]) else ((LIM F.q14 [(.int .i64 a2_4),(.int .i64 (0:Int)),(.int .i64 (1:Int))]).bind fun r87=>((oNil r87.2).bind fun _=>((oBool r87.1).bind fun b88=>(bif (!b88) then some ((.int .i64 (3:Int)),[]) else some ((.int .i64 (0:Int)),[]))))))))) else ((LIM F.q14 [(.int .i64 a2_4),(.int .i64 (0:Int)),(.int .i64 (1:Int))]).bind fun r89=>((oNil r89.2).bind fun _=>((oBool r89.1).bind fun b90=>(bif (!b90) then some ((.int .i64 (3:Int)),[]) else some ((.int .i64 (0:Int)),[])))))))))))))))))):=by kernel_rfl
theorem q2u.ev (n:Nat) (a0_0:List T) (a0_1 a1:Int):callK prog A H LIM n F.q2u [(.rref [(.sl 1 a0_0),(.int .i64 a0_1)] 0),(.int .i64 a1)]=((LIM F.q16 [(.rref [(.sl 1 a0_0),(.int .i64 a0_1)] 0),(.int .i64 a1)]).bind fun r1=>((oCons r1.2).bind fun p2=>((oNil p2.2).bind fun _=>((oAgg p2.1).bind fun c3=>((oCons c3).bind fun p4=>((oSl 1 p4.1).bind fun c5=>((oCons p4.2).bind fun p6=>((oInt .i64 p6.1).bind fun n7=>((oNil p6.2).bind fun _=>((oInt .i64 r1.1).bind fun n8=>some ((.bool ((n8 == (0:Int)))),[(.agg [(.sl 1 a0_0),(.int .i64 n7)])]))))))))))):=by kernel_rfl
def q1v.st0 (x0:ByteArray) (x1 x2 x3:Int) (x4:List T):St:=⟨[(0,(.one (.t (.str x0)))),(1,(.one (.t (.int .u8 x1)))),(5,(.one (.obj 512))),(6,oi x2),(7,oi x3)],[(512,(.arr true true 1 x4))]⟩
noncomputable def q1v.K0 (n:Nat):Ex→St→R:=kx F.q1v n [.block 0,.seq 0 (cx F.q1v [1,1,1,1])] (endOf prog A F.q1v)
noncomputable def q1v.at0 (n:Nat) (m:Nat) (s:St):R:=lx F.q1v n 0 [1,1,1,0,1,0,0] (q1v.K0 n) m s
noncomputable def q1v.rd0 (n:Nat) (L0:St→R) (s:St):R:=rx F.q1v n 0 [1,1,1,0,1,0,0] (q1v.K0 n) L0 s
theorem q1v.next0 (n:Nat) (m:Nat) (s:St):q1v.at0 n (m+1) s=q1v.rd0 n (q1v.at0 n m) s:=nx _ _ _ _ _ _ _
theorem q1v.round0 (n:Nat) (L0:St→R) (x0:ByteArray) (x1 x2 x3:Int) (x4:List T):q1v.rd0 n L0 (q1v.st0 x0 x1 x2 x3 x4)=(bif (decide (x3≤(x0.size:Int))) then (bif ((x3 == (x0.size:Int))) then (bif decide (0≤x2)&&decide (x2≤x3)&&decide (x3≤(x0.size:Int)) then (bif Nat.ble (((x4).length+1)*16) (140737488355328*1) then (L0 (q1v.st0 x0 x1 (IntKind.wrap .i64 (x3+(1:Int))) (IntKind.wrap .i64 (x3+(1:Int))) (x4++[(.str (x0.extract (Int.toNat x2) (Int.toNat x3)))]:List T))) else none) else none) else (bif inB x3 x0.size then (bif ((((x0.data.getD (Int.toNat x3) 0).toNat:Int) == x1)) then (bif decide (0≤x2)&&decide (x2≤x3)&&decide (x3≤(x0.size:Int)) then (bif Nat.ble (((x4).length+1)*16) (140737488355328*1) then (L0 (q1v.st0 x0 x1 (IntKind.wrap .i64 (x3+(1:Int))) (IntKind.wrap .i64 (x3+(1:Int))) (x4++[(.str (x0.extract (Int.toNat x2) (Int.toNat x3)))]:List T))) else none) else none) else (L0 (q1v.st0 x0 x1 x2 (IntKind.wrap .i64 (x3+(1:Int))) x4))) else none)) else some ((.sl 1 x4),[])):=by kernel_rfl
theorem q1v.ev (n:Nat) (a0:ByteArray) (a1:Int):callK prog A H LIM n F.q1v [(.str a0),(.int .u8 a1)]=(q1v.at0 n n (q1v.st0 a0 a1 (0:Int) (0:Int) [])):=by kernel_rfl
theorem q14.ev (n:Nat) (a0 a1 a2:Int):callK prog A H LIM n F.q14 [(.int .i64 a0),(.int .i64 a1),(.int .i64 a2)]=(bif (decide (a0 ≥ a1)) then some ((.bool (decide (a0≤a2))),[]) else some ((.bool false),[])):=by kernel_rfl
theorem q27.ev (n:Nat) (a0:List T):callK prog A H LIM n F.q27 [(.sl 1 a0)]=(bif (a0).all T.scalar then (bif Nat.ble ((0+(a0).length)*8) (140737488355328*1) then some ((.sl 1 a0),[]) else none) else none):=by kernel_rfl
theorem q16.ev (n:Nat) (a0_0:List T) (a0_1 a1:Int):callK prog A H LIM n F.q16 [(.rref [(.sl 1 a0_0),(.int .i64 a0_1)] 0),(.int .i64 a1)]=(bif (decide (a1 < (1:Int))) then some ((.int .i64 (0:Int)),[(.agg [(.sl 1 a0_0),(.int .i64 (IntKind.wrap .i64 (a0_1+(1:Int))))])]) else (bif ((((((a0_0).length / 1):Nat):Int) == (0:Int))) then (bif decide (a1=0) then none else some ((.int .i64 (Int.tmod (IntKind.wrap .i64 ((IntKind.wrap .i64 ((IntKind.wrap .i64 (a0_1+(1:Int))) - (1:Int)))*(7:Int))) a1)),[(.agg [(.sl 1 a0_0),(.int .i64 (IntKind.wrap .i64 (a0_1+(1:Int))))])])) else (bif decide (((((a0_0).length / 1):Nat):Int)=0) then none else (bif inB (Int.tmod (IntKind.wrap .i64 ((IntKind.wrap .i64 (a0_1+(1:Int))) - (1:Int))) ((((a0_0).length / 1):Nat):Int)) ((a0_0).length / 1) then ((a0_0[((Int.toNat (Int.tmod (IntKind.wrap .i64 ((IntKind.wrap .i64 (a0_1+(1:Int))) - (1:Int))) ((((a0_0).length / 1):Nat):Int)))*1)]?).bind fun e1=>((oInt .u8 e1).bind fun n2=>(bif decide (((((a0_0).length / 1):Nat):Int)=0) then none else (bif (decide (a1 > (200:Int))) then (bif decide (((((a0_0).length / 1):Nat):Int)=0) then none else (bif inB (Int.tmod (IntKind.wrap .i64 ((IntKind.wrap .i64 ((IntKind.wrap .i64 (a0_1+(1:Int))) - (1:Int)))+(1:Int))) ((((a0_0).length / 1):Nat):Int)) ((a0_0).length / 1) then ((a0_0[((Int.toNat (Int.tmod (IntKind.wrap .i64 ((IntKind.wrap .i64 ((IntKind.wrap .i64 (a0_1+(1:Int))) - (1:Int)))+(1:Int))) ((((a0_0).length / 1):Nat):Int)))*1)]?).bind fun e3=>((oInt .u8 e3).bind fun n4=>(bif decide (a1=0) then none else some ((.int .i64 (Int.tmod (IntKind.wrap .i64 ((IntKind.wrap .i64 ((IntKind.wrap .i64 ((IntKind.wrap .i64 ((IntKind.wrap .i64 n2)+(IntKind.wrap .i64 ((IntKind.wrap .i64 (Int.tdiv (IntKind.wrap .i64 ((IntKind.wrap .i64 (a0_1+(1:Int))) - (1:Int))) ((((a0_0).length / 1):Nat):Int)))*(37:Int)))))*(251:Int)))+(IntKind.wrap .i64 ((IntKind.wrap .i64 n4)*(13:Int)))))+(IntKind.wrap .i64 ((IntKind.wrap .i64 (a0_1+(1:Int))) - (1:Int))))) a1)),[(.agg [(.sl 1 a0_0),(.int .i64 (IntKind.wrap .i64 (a0_1+(1:Int))))])])))) else none)) else (bif decide (a1=0) then none else some ((.int .i64 (Int.tmod (IntKind.wrap .i64 ((IntKind.wrap .i64 n2)+(IntKind.wrap .i64 ((IntKind.wrap .i64 (Int.tdiv (IntKind.wrap .i64 ((IntKind.wrap .i64 (a0_1+(1:Int))) - (1:Int))) ((((a0_0).length / 1):Nat):Int)))*(37:Int))))) a1)),[(.agg [(.sl 1 a0_0),(.int .i64 (IntKind.wrap .i64 (a0_1+(1:Int))))])])))))) else none)))):=by kernel_rfl
theorem q32.ev (n:Nat) (a0_0:List T) (a0_1:Int) (a1:List T):callK prog A H LIM n F.q32 [(.rref [(.sl 1 a0_0),(.int .i64 a0_1)] 0),(.sl 1 a1)]=((LIM F.q16 [(.rref [(.sl 1 a0_0),(.int .i64 a0_1)] 0),(.int .i64 ((((a1).length / 1):Nat):Int))]).bind fun r1=>((oCons r1.2).bind fun p2=>((oNil p2.2).bind fun _=>((oAgg p2.1).bind fun c3=>((oCons c3).bind fun p4=>((oSl 1 p4.1).bind fun c5=>((oCons p4.2).bind fun p6=>((oInt .i64 p6.1).bind fun n7=>((oNil p6.2).bind fun _=>((oInt .i64 r1.1).bind fun n8=>(bif inB n8 ((a1).length / 1) then ((a1[((Int.toNat n8)*1)]?).bind fun e9=>((oInt .i64 e9).bind fun n10=>some ((.int .i64 n10),[(.agg [(.sl 1 a0_0),(.int .i64 n7)])]))) else none))))))))))):=by kernel_rfl
def q1l.st0 (x0 x1:List T) (x2:Int):St:=⟨[(0,ol 1 x0),(1,ol 1 x1),(5,oi x2)],[]⟩
noncomputable def q1l.K0 (n:Nat):Ex→St→R:=kx F.q1l n [.block 0,.seq 0 (cx F.q1l [1,1,1])] (endOf prog A F.q1l)
noncomputable def q1l.at0 (n:Nat) (m:Nat) (s:St):R:=lx F.q1l n 0 [1,1,0,1,0,0] (q1l.K0 n) m s
noncomputable def q1l.rd0 (n:Nat) (L0:St→R) (s:St):R:=rx F.q1l n 0 [1,1,0,1,0,0] (q1l.K0 n) L0 s
theorem q1l.next0 (n:Nat) (m:Nat) (s:St):q1l.at0 n (m+1) s=q1l.rd0 n (q1l.at0 n m) s:=nx _ _ _ _ _ _ _
theorem q1l.round0 (n:Nat) (L0:St→R) (x0 x1:List T) (x2:Int):q1l.rd0 n L0 (q1l.st0 x0 x1 x2)=(bif (decide (x2 < ((((x0).length / 1):Nat):Int))) then (bif inB x2 ((x0).length / 1) then ((x0[((Int.toNat x2)*1)]?).bind fun e1=>((oInt .i64 e1).bind fun n2=>(bif inB x2 ((x1).length / 1) then ((x1[((Int.toNat x2)*1)]?).bind fun e3=>((oInt .i64 e3).bind fun n4=>(bif ((n2 != n4)) then some ((.bool false),[]) else (L0 (q1l.st0 x0 x1 (IntKind.wrap .i64 (x2+(1:Int)))))))) else none))) else none) else some ((.bool true),[])):=by kernel_rfl
theorem q1l.ev (n:Nat) (a0 a1:List T):callK prog A H LIM n F.q1l [(.sl 1 a0),(.sl 1 a1)]=(bif ((((((a0).length / 1):Nat):Int) != ((((a1).length / 1):Nat):Int))) then some ((.bool false),[]) else (q1l.at0 n n (q1l.st0 a0 a1 (0:Int)))):=by kernel_rfl
theorem q5d.ev (n:Nat) (a0:List T):callK prog A H LIM n F.q5d [(.sl 1 a0)]=some ((.bx [(.sl 1 a0),(.int .i64 (0:Int))]),[]):=by kernel_rfl
def q1k.st0 (x0:List T) (x1:ByteArray) (x2:Int):St:=⟨[(0,(.one (.t (.rref [(.sl 2 x0)] 0)))),(1,(.one (.t (.str x1)))),(5,oi x2)],[]⟩
noncomputable def q1k.K0 (n:Nat):Ex→St→R:=kx F.q1k n [.block 0,.seq 0 (cx F.q1k [1,1])] (endOf prog A F.q1k)
noncomputable def q1k.at0 (n:Nat) (m:Nat) (s:St):R:=lx F.q1k n 0 [1,0,1,0,0] (q1k.K0 n) m s
noncomputable def q1k.rd0 (n:Nat) (L0:St→R) (s:St):R:=rx F.q1k n 0 [1,0,1,0,0] (q1k.K0 n) L0 s
theorem q1k.next0 (n:Nat) (m:Nat) (s:St):q1k.at0 n (m+1) s=q1k.rd0 n (q1k.at0 n m) s:=nx _ _ _ _ _ _ _
theorem q1k.round0 (n:Nat) (L0:St→R) (x0:List T) (x1:ByteArray) (x2:Int):q1k.rd0 n L0 (q1k.st0 x0 x1 x2)=(bif (decide (x2 < ((((x0).length / 2):Nat):Int))) then (bif inB x2 ((x0).length / 2) then ((x0[((Int.toNat x2)*2)]?).bind fun e1=>((oStr e1).bind fun s2=>(bif (s2.toList == x1.toList) then some ((.int .i64 x2),[]) else (L0 (q1k.st0 x0 x1 (IntKind.wrap .i64 (x2+(1:Int)))))))) else none) else some ((.int .i64 (-1:Int)),[])):=by kernel_rfl
theorem q1k.ev (n:Nat) (a0_0:List T) (a1:ByteArray):callK prog A H LIM n F.q1k [(.rref [(.sl 2 a0_0)] 0),(.str a1)]=(q1k.at0 n n (q1k.st0 a0_0 a1 (0:Int))):=by kernel_rfl
def q20.st0 (x0:ByteArray) (x1:Int):St:=⟨[(0,(.one (.t (.str x0)))),(3,oi x1)],[]⟩
noncomputable def q20.K0 (n:Nat):Ex→St→R:=kx F.q20 n [.block 0,.seq 0 (cx F.q20 [1,1,1])] (endOf prog A F.q20)
noncomputable def q20.at0 (n:Nat) (m:Nat) (s:St):R:=lx F.q20 n 0 [1,1,0,1,0,0] (q20.K0 n) m s
noncomputable def q20.rd0 (n:Nat) (L0:St→R) (s:St):R:=rx F.q20 n 0 [1,1,0,1,0,0] (q20.K0 n) L0 s
theorem q20.next0 (n:Nat) (m:Nat) (s:St):q20.at0 n (m+1) s=q20.rd0 n (q20.at0 n m) s:=nx _ _ _ _ _ _ _
theorem q20.round0 (n:Nat) (L0:St→R) (x0:ByteArray) (x1:Int):q20.rd0 n L0 (q20.st0 x0 x1)=(bif (decide (x1 < (x0.size:Int))) then (bif inB x1 x0.size then (bif (decide (((x0.data.getD (Int.toNat x1) 0).toNat:Int) < (97:Int))) then some ((.bool false),[]) else (bif inB x1 x0.size then (bif (decide (((x0.data.getD (Int.toNat x1) 0).toNat:Int) > (122:Int))) then some ((.bool false),[]) else (L0 (q20.st0 x0 (IntKind.wrap .i64 (x1+(1:Int)))))) else none)) else none) else some ((.bool true),[])):=by kernel_rfl
theorem q20.ev (n:Nat) (a0:ByteArray):callK prog A H LIM n F.q20 [(.str a0)]=(bif (decide ((a0.size:Int) < (1:Int))) then some ((.bool false),[]) else (bif (decide ((a0.size:Int) > (3:Int))) then some ((.bool false),[]) else (q20.at0 n n (q20.st0 a0 (0:Int))))):=by kernel_rfl
def q1z.st0 (x0:List T) (x1 x2:Int):St:=⟨[(0,ol 1 x0),(1,oi x1),(5,oi x2)],[]⟩
noncomputable def q1z.K0 (n:Nat):Ex→St→R:=kx F.q1z n [.block 0,.seq 0 (cx F.q1z [1,1])] (endOf prog A F.q1z)
noncomputable def q1z.at0 (n:Nat) (m:Nat) (s:St):R:=lx F.q1z n 0 [1,0,1,0,0] (q1z.K0 n) m s
noncomputable def q1z.rd0 (n:Nat) (L0:St→R) (s:St):R:=rx F.q1z n 0 [1,0,1,0,0] (q1z.K0 n) L0 s
theorem q1z.next0 (n:Nat) (m:Nat) (s:St):q1z.at0 n (m+1) s=q1z.rd0 n (q1z.at0 n m) s:=nx _ _ _ _ _ _ _
theorem q1z.round0 (n:Nat) (L0:St→R) (x0:List T) (x1 x2:Int):q1z.rd0 n L0 (q1z.st0 x0 x1 x2)=(bif (decide (x2 < ((((x0).length / 1):Nat):Int))) then (bif inB x2 ((x0).length / 1) then ((x0[((Int.toNat x2)*1)]?).bind fun e1=>((oInt .i64 e1).bind fun n2=>(bif ((n2 == x1)) then some ((.int .i64 x2),[]) else (L0 (q1z.st0 x0 x1 (IntKind.wrap .i64 (x2+(1:Int)))))))) else none) else some ((.int .i64 (-1:Int)),[])):=by kernel_rfl
theorem q1z.ev (n:Nat) (a0:List T) (a1:Int):callK prog A H LIM n F.q1z [(.sl 1 a0),(.int .i64 a1)]=(q1z.at0 n n (q1z.st0 a0 a1 (0:Int))):=by kernel_rfl
theorem q6x.ev (n:Nat) (a0_0:List T) (a0_1:Int):callK prog A H LIM n F.q6x [(.rref [(.sl 1 a0_0),(.int .i64 a0_1)] 0)]=((LIM F.q16 [(.rref [(.sl 1 a0_0),(.int .i64 a0_1)] 0),(.int .i64 (8:Int))]).bind fun r1=>((oCons r1.2).bind fun p2=>((oNil p2.2).bind fun _=>((oAgg p2.1).bind fun c3=>((oCons c3).bind fun p4=>((oSl 1 p4.1).bind fun c5=>((oCons p4.2).bind fun p6=>((oInt .i64 p6.1).bind fun n7=>((oNil p6.2).bind fun _=>((oInt .i64 r1.1).bind fun n8=>(bif ((n8 == (0:Int))) then (bif ((n8 == (0:Int))) then some ((.agg [(.sl 2 [(.str (ByteArray.mk #[101])),(.int .i64 (0:Int)),(.str (ByteArray.mk #[105])),(.int .i64 (1:Int)),(.str (ByteArray.mk #[109])),(.int .i64 (2:Int)),(.str (ByteArray.mk #[97])),(.int .i64 (0:Int))])]),[(.agg [(.sl 1 a0_0),(.int .i64 n7)])]) else (bif ((n8 == (3:Int))) then (bif ((n8 == (3:Int))) then some ((.agg [(.sl 2 [(.str (ByteArray.mk #[97])),(.int .i64 (0:Int)),(.str (ByteArray.mk #[115,117,99])),(.int .i64 (1:Int)),(.str (ByteArray.mk #[97,100,100])),(.int .i64 (2:Int)),(.str (ByteArray.mk #[98])),(.int .i64 (0:Int))])]),[(.agg [(.sl 1 a0_0),(.int .i64 n7)])]) else (bif ((n8 == (5:Int))) then some ((.agg [(.sl 2 [(.str (ByteArray.mk #[97])),(.int .i64 (0:Int)),(.str (ByteArray.mk #[102])),(.int .i64 (1:Int)),(.str (ByteArray.mk #[103])),(.int .i64 (1:Int))])]),[(.agg [(.sl 1 a0_0),(.int .i64 n7)])]) else (bif ((n8 == (6:Int))) then some ((.agg [(.sl 2 [(.str (ByteArray.mk #[97])),(.int .i64 (0:Int)),(.str (ByteArray.mk #[98])),(.int .i64 (0:Int)),(.str (ByteArray.mk #[101])),(.int .i64 (0:Int)),(.str (ByteArray.mk #[109])),(.int .i64 (2:Int)),(.str (ByteArray.mk #[105])),(.int .i64 (1:Int)),(.str (ByteArray.mk #[115,117,99])),(.int .i64 (1:Int))])]),[(.agg [(.sl 1 a0_0),(.int .i64 n7)])]) else some ((.agg [(.sl 2 [(.str (ByteArray.mk #[97])),(.int .i64 (0:Int))])]),[(.agg [(.sl 1 a0_0),(.int .i64 n7)])])))) else (bif ((n8 == (4:Int))) then some ((.agg [(.sl 2 [(.str (ByteArray.mk #[97])),(.int .i64 (0:Int)),(.str (ByteArray.mk #[115,117,99])),(.int .i64 (1:Int)),(.str (ByteArray.mk #[97,100,100])),(.int .i64 (2:Int)),(.str (ByteArray.mk #[98])),(.int .i64 (0:Int))])]),[(.agg [(.sl 1 a0_0),(.int .i64 n7)])]) else (bif ((n8 == (5:Int))) then some ((.agg [(.sl 2 [(.str (ByteArray.mk #[97])),(.int .i64 (0:Int)),(.str (ByteArray.mk #[102])),(.int .i64 (1:Int)),(.str (ByteArray.mk #[103])),(.int .i64 (1:Int))])]),[(.agg [(.sl 1 a0_0),(.int .i64 n7)])]) else (bif ((n8 == (6:Int))) then some ((.agg [(.sl 2 [(.str (ByteArray.mk #[97])),(.int .i64 (0:Int)),(.str (ByteArray.mk #[98])),(.int .i64 (0:Int)),(.str (ByteArray.mk #[101])),(.int .i64 (0:Int)),(.str (ByteArray.mk #[109])),(.int .i64 (2:Int)),(.str (ByteArray.mk #[105])),(.int .i64 (1:Int)),(.str (ByteArray.mk #[115,117,99])),(.int .i64 (1:Int))])]),[(.agg [(.sl 1 a0_0),(.int .i64 n7)])]) else some ((.agg [(.sl 2 [(.str (ByteArray.mk #[97])),(.int .i64 (0:Int))])]),[(.agg [(.sl 1 a0_0),(.int .i64 n7)])])))))) else (bif ((n8 == (1:Int))) then (bif ((n8 == (1:Int))) then some ((.agg [(.sl 2 [(.str (ByteArray.mk #[101])),(.int .i64 (0:Int)),(.str (ByteArray.mk #[105])),(.int .i64 (1:Int)),(.str (ByteArray.mk #[109])),(.int .i64 (2:Int)),(.str (ByteArray.mk #[97])),(.int .i64 (0:Int))])]),[(.agg [(.sl 1 a0_0),(.int .i64 n7)])]) else (bif ((n8 == (3:Int))) then (bif ((n8 == (3:Int))) then some ((.agg [(.sl 2 [(.str (ByteArray.mk #[97])),(.int .i64 (0:Int)),(.str (ByteArray.mk #[115,117,99])),(.int .i64 (1:Int)),(.str (ByteArray.mk #[97,100,100])),(.int .i64 (2:Int)),(.str (ByteArray.mk #[98])),(.int .i64 (0:Int))])]),[(.agg [(.sl 1 a0_0),(.int .i64 n7)])]) else (bif ((n8 == (5:Int))) then some ((.agg [(.sl 2 [(.str (ByteArray.mk #[97])),(.int .i64 (0:Int)),(.str (ByteArray.mk #[102])),(.int .i64 (1:Int)),(.str (ByteArray.mk #[103])),(.int .i64 (1:Int))])]),[(.agg [(.sl 1 a0_0),(.int .i64 n7)])]) else (bif ((n8 == (6:Int))) then some ((.agg [(.sl 2 [(.str (ByteArray.mk #[97])),(.int .i64 (0:Int)),(.str (ByteArray.mk #[98])),(.int .i64 (0:Int)),(.str (ByteArray.mk #[101])),(.int .i64 (0:Int)),(.str (ByteArray.mk #[109])),(.int .i64 (2:Int)),(.str (ByteArray.mk #[105])),(.int .i64 (1:Int)),(.str (ByteArray.mk #[115,117,99])),(.int .i64 (1:Int))])]),[(.agg [(.sl 1 a0_0),(.int .i64 n7)])]) else some ((.agg [(.sl 2 [(.str (ByteArray.mk #[97])),(.int .i64 (0:Int))])]),[(.agg [(.sl 1 a0_0),(.int .i64 n7)])])))) else (bif ((n8 == (4:Int))) then some ((.agg [(.sl 2 [(.str (ByteArray.mk #[97])),(.int .i64 (0:Int)),(.str (ByteArray.mk #[115,117,99])),(.int .i64 (1:Int)),(.str (ByteArray.mk #[97,100,100])),(.int .i64 (2:Int)),(.str (ByteArray.mk #[98])),(.int .i64 (0:Int))])]),[(.agg [(.sl 1 a0_0),(.int .i64 n7)])]) else (bif ((n8 == (5:Int))) then some ((.agg [(.sl 2 [(.str (ByteArray.mk #[97])),(.int .i64 (0:Int)),(.str (ByteArray.mk #[102])),(.int .i64 (1:Int)),(.str (ByteArray.mk #[103])),(.int .i64 (1:Int))])]),[(.agg [(.sl 1 a0_0),(.int .i64 n7)])]) else (bif ((n8 == (6:Int))) then some ((.agg [(.sl 2 [(.str (ByteArray.mk #[97])),(.int .i64 (0:Int)),(.str (ByteArray.mk #[98])),(.int .i64 (0:Int)),(.str (ByteArray.mk #[101])),(.int .i64 (0:Int)),(.str (ByteArray.mk #[109])),(.int .i64 (2:Int)),(.str (ByteArray.mk #[105])),(.int .i64 (1:Int)),(.str (ByteArray.mk #[115,117,99])),(.int .i64 (1:Int))])]),[(.agg [(.sl 1 a0_0),(.int .i64 n7)])]) else some ((.agg [(.sl 2 [(.str (ByteArray.mk #[97])),(.int .i64 (0:Int))])]),[(.agg [(.sl 1 a0_0),(.int .i64 n7)])])))))) else (bif ((n8 == (2:Int))) then some ((.agg [(.sl 2 [(.str (ByteArray.mk #[101])),(.int .i64 (0:Int)),(.str (ByteArray.mk #[105])),(.int .i64 (1:Int)),(.str (ByteArray.mk #[109])),(.int .i64 (2:Int)),(.str (ByteArray.mk #[97])),(.int .i64 (0:Int))])]),[(.agg [(.sl 1 a0_0),(.int .i64 n7)])]) else (bif ((n8 == (3:Int))) then (bif ((n8 == (3:Int))) then some ((.agg [(.sl 2 [(.str (ByteArray.mk #[97])),(.int .i64 (0:Int)),(.str (ByteArray.mk #[115,117,99])),(.int .i64 (1:Int)),(.str (ByteArray.mk #[97,100,100])),(.int .i64 (2:Int)),(.str (ByteArray.mk #[98])),(.int .i64 (0:Int))])]),[(.agg [(.sl 1 a0_0),(.int .i64 n7)])]) else (bif ((n8 == (5:Int))) then some ((.agg [(.sl 2 [(.str (ByteArray.mk #[97])),(.int .i64 (0:Int)),(.str (ByteArray.mk #[102])),(.int .i64 (1:Int)),(.str (ByteArray.mk #[103])),(.int .i64 (1:Int))])]),[(.agg [(.sl 1 a0_0),(.int .i64 n7)])]) else (bif ((n8 == (6:Int))) then some ((.agg [(.sl 2 [(.str (ByteArray.mk #[97])),(.int .i64 (0:Int)),(.str (ByteArray.mk #[98])),(.int .i64 (0:Int)),(.str (ByteArray.mk #[101])),(.int .i64 (0:Int)),(.str (ByteArray.mk #[109])),(.int .i64 (2:Int)),(.str (ByteArray.mk #[105])),(.int .i64 (1:Int)),(.str (ByteArray.mk #[115,117,99])),(.int .i64 (1:Int))])]),[(.agg [(.sl 1 a0_0),(.int .i64 n7)])]) else some ((.agg [(.sl 2 [(.str (ByteArray.mk #[97])),(.int .i64 (0:Int))])]),[(.agg [(.sl 1 a0_0),(.int .i64 n7)])])))) else (bif ((n8 == (4:Int))) then some ((.agg [(.sl 2 [(.str (ByteArray.mk #[97])),(.int .i64 (0:Int)),(.str (ByteArray.mk #[115,117,99])),(.int .i64 (1:Int)),(.str (ByteArray.mk #[97,100,100])),(.int .i64 (2:Int)),(.str (ByteArray.mk #[98])),(.int .i64 (0:Int))])]),[(.agg [(.sl 1 a0_0),(.int .i64 n7)])]) else (bif ((n8 == (5:Int))) then some ((.agg [(.sl 2 [(.str (ByteArray.mk #[97])),(.int .i64 (0:Int)),(.str (ByteArray.mk #[102])),(.int .i64 (1:Int)),(.str (ByteArray.mk #[103])),(.int .i64 (1:Int))])]),[(.agg [(.sl 1 a0_0),(.int .i64 n7)])]) else (bif ((n8 == (6:Int))) then some ((.agg [(.sl 2 [(.str (ByteArray.mk #[97])),(.int .i64 (0:Int)),(.str (ByteArray.mk #[98])),(.int .i64 (0:Int)),(.str (ByteArray.mk #[101])),(.int .i64 (0:Int)),(.str (ByteArray.mk #[109])),(.int .i64 (2:Int)),(.str (ByteArray.mk #[105])),(.int .i64 (1:Int)),(.str (ByteArray.mk #[115,117,99])),(.int .i64 (1:Int))])]),[(.agg [(.sl 1 a0_0),(.int .i64 n7)])]) else some ((.agg [(.sl 2 [(.str (ByteArray.mk #[97])),(.int .i64 (0:Int))])]),[(.agg [(.sl 1 a0_0),(.int .i64 n7)])])))))))))))))))))):=by kernel_rfl
theorem q5h.ev (n:Nat) (a0_0:List T) (a1:Int):callK prog A H LIM n F.q5h [(.rref [(.sl 2 a0_0)] 0),(.int .i64 a1)]=((LIM F.q14 [(.int .i64 a1),(.int .i64 (0:Int)),(.int .i64 (IntKind.wrap .i64 (((((a0_0).length / 2):Nat):Int) - (1:Int))))]).bind fun r1=>((oNil r1.2).bind fun _=>((oBool r1.1).bind fun b2=>some ((.bool b2),[])))):=by kernel_rfl
def q0t.st1 (x0:Int) (x1:List T) (x2:Int) (x3:List T):St:=⟨[(0,(.one (.ptr 1000000 0))),(10,(.one (.obj 4224))),(11,oi x0)],[(1000000,(.box [(.kept 0 (.sl 1 x1)),(.t (.int .i64 x2))])),(4224,(.arr true true 1 x3))]⟩
noncomputable def q0t.K1 (n:Nat):Ex→St→R:=kx F.q0t n [.block 1,.seq 0 (cx F.q0t [1,1,1,1,1,1,1])] (endOf prog A F.q0t)
noncomputable def q0t.at1 (n:Nat) (m:Nat) (s:St):R:=lx F.q0t n 1 [1,1,1,1,1,1,0,1,0,0] (q0t.K1 n) m s
noncomputable def q0t.rd1 (n:Nat) (L1:St→R) (s:St):R:=rx F.q0t n 1 [1,1,1,1,1,1,0,1,0,0] (q0t.K1 n) L1 s
theorem q0t.next1 (n:Nat) (m:Nat) (s:St):q0t.at1 n (m+1) s=q0t.rd1 n (q0t.at1 n m) s:=nx _ _ _ _ _ _ _
theorem q0t.round1 (n:Nat) (L1:St→R) (x0:Int) (x1:List T) (x2:Int) (x3:List T):q0t.rd1 n L1 (q0t.st1 x0 x1 x2 x3)=((LIM F.q32 [(.rref [(.sl 1 x1),(.int .i64 x2)] 0),(.sl 1 [(.int .i64 (24:Int)),(.int .i64 (25:Int))])]).bind fun r43=>((oCons r43.2).bind fun p44=>((oNil p44.2).bind fun _=>((oAgg p44.1).bind fun c45=>((oCons c45).bind fun p46=>((oSl 1 p46.1).bind fun c47=>((oCons p46.2).bind fun p48=>((oInt .i64 p48.1).bind fun n49=>((oNil p48.2).bind fun _=>((oInt .i64 r43.1).bind fun n50=>(bif (decide (x0 < n50)) then ((LIM F.q32 [(.rref [(.sl 1 x1),(.int .i64 n49)] 0),(.sl 1 [(.int .i64 (1:Int)),(.int .i64 (2:Int)),(.int .i64 (0:Int))])]).bind fun r51=>((oCons r51.2).bind fun p52=>((oNil p52.2).bind fun _=>((oAgg p52.1).bind fun c53=>((oCons c53).bind fun p54=>((oSl 1 p54.1).bind fun c55=>((oCons p54.2).bind fun p56=>((oInt .i64 p56.1).bind fun n57=>((oNil p56.2).bind fun _=>((oInt .i64 r51.1).bind fun n58=>(bif Nat.ble (((x3).length+1)*8) (140737488355328*1) then (L1 (q0t.st1 (IntKind.wrap .i64 (x0+(1:Int))) x1 n57 (x3++[(.int .i64 n58)]:List T))) else none))))))))))) else some ((.sl 1 x3),[(.agg [(.sl 1 x1),(.int .i64 n49)])])))))))))))):=by kernel_rfl
theorem q0t.ev (n:Nat) (a0_0:List T) (a0_1:Int) (a1_0:List T) (a2 a3:Int):callK prog A H LIM n F.q0t [(.rref [(.sl 1 a0_0),(.int .i64 a0_1)] 0),(.rref [(.sl 2 a1_0)] 0),(.int .i64 a2),(.int .i64 a3)]=(bif (decide (((((a1_0).length / 2):Nat):Int) < (1:Int))) then some ((.sl 1 [(.int .i64 (0:Int))]),[(.agg [(.sl 1 a0_0),(.int .i64 a0_1)])]) else ((LIM F.q00 [(.agg [(.sl 2 a1_0)])]).bind fun r1=>((oNil r1.2).bind fun _=>((oInt .i64 r1.1).bind fun n2=>(bif ((n2 != (0:Int))) then some ((.sl 1 [(.int .i64 (0:Int))]),[(.agg [(.sl 1 a0_0),(.int .i64 a0_1)])]) else ((LIM F.q0a [(.rref [(.sl 1 a0_0),(.int .i64 a0_1)] 0),(.rref [(.sl 2 a1_0)] 0),(.int .i64 a2),(.int .i64 a3)]).bind fun r3=>((oCons r3.2).bind fun p4=>((oNil p4.2).bind fun _=>((oAgg p4.1).bind fun c5=>((oCons c5).bind fun p6=>((oSl 1 p6.1).bind fun c7=>((oCons p6.2).bind fun p8=>((oInt .i64 p8.1).bind fun n9=>((oNil p8.2).bind fun _=>((oSl 1 r3.1).bind fun c10=>((LIM F.q2u [(.rref [(.sl 1 a0_0),(.int .i64 n9)] 0),(.int .i64 (11:Int))]).bind fun r11=>((oCons r11.2).bind fun p12=>((oNil p12.2).bind fun _=>((oAgg p12.1).bind fun c13=>((oCons c13).bind fun p14=>((oSl 1 p14.1).bind fun c15=>((oCons p14.2).bind fun p16=>((oInt .i64 p16.1).bind fun n17=>((oNil p16.2).bind fun _=>((oBool r11.1).bind fun b18=>(bif (!b18) then some ((.sl 1 c10),[(.agg [(.sl 1 a0_0),(.int .i64 n17)])]) else ((LIM F.q16 [(.rref [(.sl 1 a0_0),(.int .i64 n17)] 0),(.int .i64 (4:Int))]).bind fun r19=>((oCons r19.2).bind fun p20=>((oNil p20.2).bind fun _=>((oAgg p20.1).bind fun c21=>((oCons c21).bind fun p22=>((oSl 1 p22.1).bind fun c23=>((oCons p22.2).bind fun p24=>((oInt .i64 p24.1).bind fun n25=>((oNil p24.2).bind fun _=>((oInt .i64 r19.1).bind fun n26=>(bif ((n26 == (0:Int))) then (bif decide (0≤(IntKind.wrap .i64 (((((c10).length / 1):Nat):Int) - (1:Int))))&&decide ((IntKind.wrap .i64 (((((c10).length / 1):Nat):Int) - (1:Int)))≤((((c10).length / 1):Nat):Int)) then some ((.sl 1 (c10.take ((Int.toNat (IntKind.wrap .i64 (((((c10).length / 1):Nat):Int) - (1:Int))))*1))),[(.agg [(.sl 1 a0_0),(.int .i64 n25)])]) else none) else (bif ((n26 == (1:Int))) then (bif Nat.ble (((c10).length+1)*8) (140737488355328*1) then some ((.sl 1 (c10++[(.int .i64 (0:Int))]:List T)),[(.agg [(.sl 1 a0_0),(.int .i64 n25)])]) else none) else (bif ((n26 == (2:Int))) then ((LIM F.q16 [(.rref [(.sl 1 a0_0),(.int .i64 n25)] 0),(.int .i64 ((((c10).length / 1):Nat):Int))]).bind fun r27=>((oCons r27.2).bind fun p28=>((oNil p28.2).bind fun _=>((oAgg p28.1).bind fun c29=>((oCons c29).bind fun p30=>((oSl 1 p30.1).bind fun c31=>((oCons p30.2).bind fun p32=>((oInt .i64 p32.1).bind fun n33=>((oNil p32.2).bind fun _=>((oInt .i64 r27.1).bind fun n34=>((LIM F.q32 [(.rref [(.sl 1 a0_0),(.int .i64 n33)] 0),(.sl 1 [(.int .i64 ((((a1_0).length / 2):Nat):Int)),(.int .i64 (-13:Int)),(.int .i64 (-12:Int))])]).bind fun r35=>((oCons r35.2).bind fun p36=>((oNil p36.2).bind fun _=>((oAgg p36.1).bind fun c37=>((oCons c37).bind fun p38=>((oSl 1 p38.1).bind fun c39=>((oCons p38.2).bind fun p40=>((oInt .i64 p40.1).bind fun n41=>((oNil p40.2).bind fun _=>((oInt .i64 r35.1).bind fun n42=>(bif inB n34 ((c10).length / 1) then (bif decide (((Int.toNat n34)*1)+1≤(c10).length) then some ((.sl 1 (setCells c10 ((Int.toNat n34)*1) [(.int .i64 n42)])),[(.agg [(.sl 1 a0_0),(.int .i64 n41)])]) else none) else none))))))))))))))))))))) else (q0t.at1 n n (q0t.st1 (0:Int) a0_0 n25 []))))))))))))))))))))))))))))))))))))))))):=by kernel_rfl
def q1f.st0 (x0:List T) (x1 x2 x3:Int):St:=⟨[(0,ol 1 x0),(1,oi x1),(5,oi x2),(6,oi x3)],[]⟩
noncomputable def q1f.K0 (n:Nat):Ex→St→R:=kx F.q1f n [.block 0,.seq 0 (cx F.q1f [1,1,1])] (endOf prog A F.q1f)
noncomputable def q1f.at0 (n:Nat) (m:Nat) (s:St):R:=lx F.q1f n 0 [1,1,0,1,0,0] (q1f.K0 n) m s
noncomputable def q1f.rd0 (n:Nat) (L0:St→R) (s:St):R:=rx F.q1f n 0 [1,1,0,1,0,0] (q1f.K0 n) L0 s
theorem q1f.next0 (n:Nat) (m:Nat) (s:St):q1f.at0 n (m+1) s=q1f.rd0 n (q1f.at0 n m) s:=nx _ _ _ _ _ _ _
theorem q1f.round0 (n:Nat) (L0:St→R) (x0:List T) (x1 x2 x3:Int):q1f.rd0 n L0 (q1f.st0 x0 x1 x2 x3)=(bif (decide (x3 < ((((x0).length / 1):Nat):Int))) then (bif inB x3 ((x0).length / 1) then ((x0[((Int.toNat x3)*1)]?).bind fun e1=>((oInt .i64 e1).bind fun n2=>(bif ((n2 == x1)) then (L0 (q1f.st0 x0 x1 (IntKind.wrap .i64 (x2+(1:Int))) (IntKind.wrap .i64 (x3+(1:Int))))) else (L0 (q1f.st0 x0 x1 x2 (IntKind.wrap .i64 (x3+(1:Int)))))))) else none) else some ((.int .i64 x2),[])):=by kernel_rfl
theorem q1f.ev (n:Nat) (a0:List T) (a1:Int):callK prog A H LIM n F.q1f [(.sl 1 a0),(.int .i64 a1)]=(q1f.at0 n n (q1f.st0 a0 a1 (0:Int) (0:Int))):=by kernel_rfl
def q0a.st2 (x0:List T) (x1 x2 x3 x4 x5:Int) (x6:List T) (x7:Int):St:=⟨[(0,(.one (.ptr 1000000 0))),(1,(.one (.t (.rref [(.sl 2 x0)] 0)))),(2,oi x1),(3,oi x2),(9,oi x3),(10,oi x4),(12,oi x5)],[(1000000,(.box [(.kept 0 (.sl 1 x6)),(.t (.int .i64 x7))]))]⟩
def q0a.st0 (x0:List T) (x1 x2 x3 x4 x5:Int) (x6:List T) (x7:Int):St:=⟨[(0,(.one (.ptr 1000000 0))),(1,(.one (.t (.rref [(.sl 2 x0)] 0)))),(2,oi x1),(3,oi x2),(9,oi x3),(10,oi x4),(11,oi x5)],[(1000000,(.box [(.kept 0 (.sl 1 x6)),(.t (.int .i64 x7))]))]⟩
noncomputable def q0a.K0 (n:Nat):Ex→St→R:=kx F.q0a n [.block 0,.seq 0 (cx F.q0a [1,1,1,1,1])] (endOf prog A F.q0a)
noncomputable def q0a.at0 (n:Nat) (m:Nat) (s:St):R:=lx F.q0a n 0 [1,1,1,1,0,1,0,0] (q0a.K0 n) m s
noncomputable def q0a.rd0 (n:Nat) (L0:St→R) (s:St):R:=rx F.q0a n 0 [1,1,1,1,0,1,0,0] (q0a.K0 n) L0 s
theorem q0a.next0 (n:Nat) (m:Nat) (s:St):q0a.at0 n (m+1) s=q0a.rd0 n (q0a.at0 n m) s:=nx _ _ _ _ _ _ _
noncomputable def q0a.K2 (n:Nat):Ex→St→R:=kx F.q0a n [.block 2,.seq 0 (cx F.q0a [1,1,1,1,1,1])] (endOf prog A F.q0a)
noncomputable def q0a.at2 (n:Nat) (m:Nat) (s:St):R:=lx F.q0a n 2 [1,1,1,1,1,0,1,0,1,0,0] (q0a.K2 n) m s
noncomputable def q0a.rd2 (n:Nat) (L2:St→R) (s:St):R:=rx F.q0a n 2 [1,1,1,1,1,0,1,0,1,0,0] (q0a.K2 n) L2 s
theorem q0a.next2 (n:Nat) (m:Nat) (s:St):q0a.at2 n (m+1) s=q0a.rd2 n (q0a.at2 n m) s:=nx _ _ _ _ _ _ _
theorem q0a.round0 (n:Nat) (L0:St→R) (x0:List T) (x1 x2 x3 x4 x5:Int) (x6:List T) (x7:Int):q0a.rd0 n L0 (q0a.st0 x0 x1 x2 x3 x4 x5 x6 x7)=(bif (decide (x5 < x3)) then (bif inB x4 ((x0).length / 2) then ((x0[(((Int.toNat x4)*2)+1)]?).bind fun e41=>((oInt .i64 e41).bind fun n42=>(bif (decide (n42 ≥ x1)) then (bif decide (x3=0) then none else (L0 (q0a.st0 x0 x1 x2 x3 (Int.tmod (IntKind.wrap .i64 (x4+(1:Int))) x3) (IntKind.wrap .i64 (x5+(1:Int))) x6 x7))) else (bif (decide (x1 < (2:Int))) then (q0a.at2 n n (q0a.st2 x0 x1 x2 x3 x4 (0:Int) x6 x7)) else (bif inB x4 ((x0).length / 2) then ((x0[(((Int.toNat x4)*2)+1)]?).bind fun e97=>((oInt .i64 e97).bind fun n98=>(bif ((n98 == (1:Int))) then ((LIM F.q0a [(.rref [(.sl 1 x6),(.int .i64 x7)] 0),(.rref [(.sl 2 x0)] 0),(.int .i64 (IntKind.wrap .i64 (x1 - (1:Int)))),(.int .i64 x2)]).bind fun r99=>((oCons r99.2).bind fun p100=>((oNil p100.2).bind fun _=>((oAgg p100.1).bind fun c101=>((oCons c101).bind fun p102=>((oSl 1 p102.1).bind fun c103=>((oCons p102.2).bind fun p104=>((oInt .i64 p104.1).bind fun n105=>((oNil p104.2).bind fun _=>((oSl 1 r99.1).bind fun c106=>(bif (c106).all T.scalar then (bif Nat.ble ((1+(c106).length)*8) (140737488355328*1) then some ((.sl 1 ([(.int .i64 x4)]++c106:List T)),[(.agg [(.sl 1 x6),(.int .i64 n105)])]) else none) else none))))))))))) else (bif ((n98 == (2:Int))) then ((LIM F.q0a [(.rref [(.sl 1 x6),(.int .i64 x7)] 0),(.rref [(.sl 2 x0)] 0),(.int .i64 (IntKind.wrap .i64 (x1 - (2:Int)))),(.int .i64 x2)]).bind fun r107=>((oCons r107.2).bind fun p108=>((oNil p108.2).bind fun _=>((oAgg p108.1).bind fun c109=>((oCons c109).bind fun p110=>((oSl 1 p110.1).bind fun c111=>((oCons p110.2).bind fun p112=>((oInt .i64 p112.1).bind fun n113=>((oNil p112.2).bind fun _=>((oSl 1 r107.1).bind fun c114=>(bif (c114).all T.scalar then (bif Nat.ble ((1+(c114).length)*8) (140737488355328*1) then ((LIM F.q0a [(.rref [(.sl 1 x6),(.int .i64 n113)] 0),(.rref [(.sl 2 x0)] 0),(.int .i64 (IntKind.wrap .i64 ((IntKind.wrap .i64 (x1 - (1:Int))) - ((((c114).length / 1):Nat):Int)))),(.int .i64 x2)]).bind fun r115=>((oCons r115.2).bind fun p116=>((oNil p116.2).bind fun _=>((oAgg p116.1).bind fun c117=>((oCons c117).bind fun p118=>((oSl 1 p118.1).bind fun c119=>((oCons p118.2).bind fun p120=>((oInt .i64 p120.1).bind fun n121=>((oNil p120.2).bind fun _=>((oSl 1 r115.1).bind fun c122=>(bif (c122).all T.scalar then (bif Nat.ble (((([(.int .i64 x4)]++c114:List T)).length+(c122).length)*8) (140737488355328*1) then some ((.sl 1 (([(.int .i64 x4)]++c114:List T)++c122:List T)),[(.agg [(.sl 1 x6),(.int .i64 n121)])]) else none) else none))))))))))) else none) else none))))))))))) else some ((.sl 1 [(.int .i64 x4)]),[(.agg [(.sl 1 x6),(.int .i64 x7)])]))))) else none))))) else none) else (bif (decide (x1 < (2:Int))) then (q0a.at2 n n (q0a.st2 x0 x1 x2 x3 x4 (0:Int) x6 x7)) else (bif inB x4 ((x0).length / 2) then ((x0[(((Int.toNat x4)*2)+1)]?).bind fun e123=>((oInt .i64 e123).bind fun n124=>(bif ((n124 == (1:Int))) then ((LIM F.q0a [(.rref [(.sl 1 x6),(.int .i64 x7)] 0),(.rref [(.sl 2 x0)] 0),(.int .i64 (IntKind.wrap .i64 (x1 - (1:Int)))),(.int .i64 x2)]).bind fun r125=>((oCons r125.2).bind fun p126=>((oNil p126.2).bind fun _=>((oAgg p126.1).bind fun c127=>((oCons c127).bind fun p128=>((oSl 1 p128.1).bind fun c129=>((oCons p128.2).bind fun p130=>((oInt .i64 p130.1).bind fun n131=>((oNil p130.2).bind fun _=>((oSl 1 r125.1).bind fun c132=>(bif (c132).all T.scalar then (bif Nat.ble ((1+(c132).length)*8) (140737488355328*1) then some ((.sl 1 ([(.int .i64 x4)]++c132:List T)),[(.agg [(.sl 1 x6),(.int .i64 n131)])]) else none) else none))))))))))) else (bif ((n124 == (2:Int))) then ((LIM F.q0a [(.rref [(.sl 1 x6),(.int .i64 x7)] 0),(.rref [(.sl 2 x0)] 0),(.int .i64 (IntKind.wrap .i64 (x1 - (2:Int)))),(.int .i64 x2)]).bind fun r133=>((oCons r133.2).bind fun p134=>((oNil p134.2).bind fun _=>((oAgg p134.1).bind fun c135=>((oCons c135).bind fun p136=>((oSl 1 p136.1).bind fun c137=>((oCons p136.2).bind fun p138=>((oInt .i64 p138.1).bind fun n139=>((oNil p138.2).bind fun _=>((oSl 1 r133.1).bind fun c140=>(bif (c140).all T.scalar then (bif Nat.ble ((1+(c140).length)*8) (140737488355328*1) then ((LIM F.q0a [(.rref [(.sl 1 x6),(.int .i64 n139)] 0),(.rref [(.sl 2 x0)] 0),(.int .i64 (IntKind.wrap .i64 ((IntKind.wrap .i64 (x1 - (1:Int))) - ((((c140).length / 1):Nat):Int)))),(.int .i64 x2)]).bind fun r141=>((oCons r141.2).bind fun p142=>((oNil p142.2).bind fun _=>((oAgg p142.1).bind fun c143=>((oCons c143).bind fun p144=>((oSl 1 p144.1).bind fun c145=>((oCons p144.2).bind fun p146=>((oInt .i64 p146.1).bind fun n147=>((oNil p146.2).bind fun _=>((oSl 1 r141.1).bind fun c148=>(bif (c148).all T.scalar then (bif Nat.ble (((([(.int .i64 x4)]++c140:List T)).length+(c148).length)*8) (140737488355328*1) then some ((.sl 1 (([(.int .i64 x4)]++c140:List T)++c148:List T)),[(.agg [(.sl 1 x6),(.int .i64 n147)])]) else none) else none))))))))))) else none) else none))))))))))) else some ((.sl 1 [(.int .i64 x4)]),[(.agg [(.sl 1 x6),(.int .i64 x7)])]))))) else none))):=by kernel_rfl
theorem q0a.round2 (n:Nat) (L2:St→R) (x0:List T) (x1 x2 x3 x4 x5:Int) (x6:List T) (x7:Int):q0a.rd2 n L2 (q0a.st2 x0 x1 x2 x3 x4 x5 x6 x7)=(bif (decide (x5 < x3)) then (bif inB x4 ((x0).length / 2) then ((x0[(((Int.toNat x4)*2)+1)]?).bind fun e43=>((oInt .i64 e43).bind fun n44=>(bif (decide (n44 > (0:Int))) then (bif decide (x3=0) then none else (L2 (q0a.st2 x0 x1 x2 x3 (Int.tmod (IntKind.wrap .i64 (x4+(1:Int))) x3) (IntKind.wrap .i64 (x5+(1:Int))) x6 x7))) else (bif inB x4 ((x0).length / 2) then ((x0[(((Int.toNat x4)*2)+1)]?).bind fun e45=>((oInt .i64 e45).bind fun n46=>(bif ((n46 == (1:Int))) then ((LIM F.q0a [(.rref [(.sl 1 x6),(.int .i64 x7)] 0),(.rref [(.sl 2 x0)] 0),(.int .i64 (IntKind.wrap .i64 (x1 - (1:Int)))),(.int .i64 x2)]).bind fun r47=>((oCons r47.2).bind fun p48=>((oNil p48.2).bind fun _=>((oAgg p48.1).bind fun c49=>((oCons c49).bind fun p50=>((oSl 1 p50.1).bind fun c51=>((oCons p50.2).bind fun p52=>((oInt .i64 p52.1).bind fun n53=>((oNil p52.2).bind fun _=>((oSl 1 r47.1).bind fun c54=>(bif (c54).all T.scalar then (bif Nat.ble ((1+(c54).length)*8) (140737488355328*1) then some ((.sl 1 ([(.int .i64 x4)]++c54:List T)),[(.agg [(.sl 1 x6),(.int .i64 n53)])]) else none) else none))))))))))) else (bif ((n46 == (2:Int))) then ((LIM F.q0a [(.rref [(.sl 1 x6),(.int .i64 x7)] 0),(.rref [(.sl 2 x0)] 0),(.int .i64 (IntKind.wrap .i64 (x1 - (2:Int)))),(.int .i64 x2)]).bind fun r55=>((oCons r55.2).bind fun p56=>((oNil p56.2).bind fun _=>((oAgg p56.1).bind fun c57=>((oCons c57).bind fun p58=>((oSl 1 p58.1).bind fun c59=>((oCons p58.2).bind fun p60=>((oInt .i64 p60.1).bind fun n61=>((oNil p60.2).bind fun _=>((oSl 1 r55.1).bind fun c62=>(bif (c62).all T.scalar then (bif Nat.ble ((1+(c62).length)*8) (140737488355328*1) then ((LIM F.q0a [(.rref [(.sl 1 x6),(.int .i64 n61)] 0),(.rref [(.sl 2 x0)] 0),(.int .i64 (IntKind.wrap .i64 ((IntKind.wrap .i64 (x1 - (1:Int))) - ((((c62).length / 1):Nat):Int)))),(.int .i64 x2)]).bind fun r63=>((oCons r63.2).bind fun p64=>((oNil p64.2).bind fun _=>((oAgg p64.1).bind fun c65=>((oCons c65).bind fun p66=>((oSl 1 p66.1).bind fun c67=>((oCons p66.2).bind fun p68=>((oInt .i64 p68.1).bind fun n69=>((oNil p68.2).bind fun _=>((oSl 1 r63.1).bind fun c70=>(bif (c70).all T.scalar then (bif Nat.ble (((([(.int .i64 x4)]++c62:List T)).length+(c70).length)*8) (140737488355328*1) then some ((.sl 1 (([(.int .i64 x4)]++c62:List T)++c70:List T)),[(.agg [(.sl 1 x6),(.int .i64 n69)])]) else none) else none))))))))))) else none) else none))))))))))) else some ((.sl 1 [(.int .i64 x4)]),[(.agg [(.sl 1 x6),(.int .i64 x7)])]))))) else none)))) else none) else (bif inB x4 ((x0).length / 2) then ((x0[(((Int.toNat x4)*2)+1)]?).bind fun e71=>((oInt .i64 e71).bind fun n72=>(bif ((n72 == (1:Int))) then ((LIM F.q0a [(.rref [(.sl 1 x6),(.int .i64 x7)] 0),(.rref [(.sl 2 x0)] 0),(.int .i64 (IntKind.wrap .i64 (x1 - (1:Int)))),(.int .i64 x2)]).bind fun r73=>((oCons r73.2).bind fun p74=>((oNil p74.2).bind fun _=>((oAgg p74.1).bind fun c75=>((oCons c75).bind fun p76=>((oSl 1 p76.1).bind fun c77=>((oCons p76.2).bind fun p78=>((oInt .i64 p78.1).bind fun n79=>((oNil p78.2).bind fun _=>((oSl 1 r73.1).bind fun c80=>(bif (c80).all T.scalar then (bif Nat.ble ((1+(c80).length)*8) (140737488355328*1) then some ((.sl 1 ([(.int .i64 x4)]++c80:List T)),[(.agg [(.sl 1 x6),(.int .i64 n79)])]) else none) else none))))))))))) else (bif ((n72 == (2:Int))) then ((LIM F.q0a [(.rref [(.sl 1 x6),(.int .i64 x7)] 0),(.rref [(.sl 2 x0)] 0),(.int .i64 (IntKind.wrap .i64 (x1 - (2:Int)))),(.int .i64 x2)]).bind fun r81=>((oCons r81.2).bind fun p82=>((oNil p82.2).bind fun _=>((oAgg p82.1).bind fun c83=>((oCons c83).bind fun p84=>((oSl 1 p84.1).bind fun c85=>((oCons p84.2).bind fun p86=>((oInt .i64 p86.1).bind fun n87=>((oNil p86.2).bind fun _=>((oSl 1 r81.1).bind fun c88=>(bif (c88).all T.scalar then (bif Nat.ble ((1+(c88).length)*8) (140737488355328*1) then ((LIM F.q0a [(.rref [(.sl 1 x6),(.int .i64 n87)] 0),(.rref [(.sl 2 x0)] 0),(.int .i64 (IntKind.wrap .i64 ((IntKind.wrap .i64 (x1 - (1:Int))) - ((((c88).length / 1):Nat):Int)))),(.int .i64 x2)]).bind fun r89=>((oCons r89.2).bind fun p90=>((oNil p90.2).bind fun _=>((oAgg p90.1).bind fun c91=>((oCons c91).bind fun p92=>((oSl 1 p92.1).bind fun c93=>((oCons p92.2).bind fun p94=>((oInt .i64 p94.1).bind fun n95=>((oNil p94.2).bind fun _=>((oSl 1 r89.1).bind fun c96=>(bif (c96).all T.scalar then (bif Nat.ble (((([(.int .i64 x4)]++c88:List T)).length+(c96).length)*8) (140737488355328*1) then some ((.sl 1 (([(.int .i64 x4)]++c88:List T)++c96:List T)),[(.agg [(.sl 1 x6),(.int .i64 n95)])]) else none) else none))))))))))) else none) else none))))))))))) else some ((.sl 1 [(.int .i64 x4)]),[(.agg [(.sl 1 x6),(.int .i64 x7)])]))))) else none)):=by kernel_rfl
theorem q0a.ev (n:Nat) (a0_0:List T) (a0_1:Int) (a1_0:List T) (a2 a3:Int):callK prog A H LIM n F.q0a [(.rref [(.sl 1 a0_0),(.int .i64 a0_1)] 0),(.rref [(.sl 2 a1_0)] 0),(.int .i64 a2),(.int .i64 a3)]=(bif (decide (a3 > (0:Int))) then (bif (decide (a2 < (2:Int))) then ((LIM F.q2u [(.rref [(.sl 1 a0_0),(.int .i64 a0_1)] 0),(.int .i64 (2:Int))]).bind fun r1=>((oCons r1.2).bind fun p2=>((oNil p2.2).bind fun _=>((oAgg p2.1).bind fun c3=>((oCons c3).bind fun p4=>((oSl 1 p4.1).bind fun c5=>((oCons p4.2).bind fun p6=>((oInt .i64 p6.1).bind fun n7=>((oNil p6.2).bind fun _=>((oBool r1.1).bind fun b8=>(bif b8 then ((LIM F.q16 [(.rref [(.sl 1 a0_0),(.int .i64 n7)] 0),(.int .i64 a3)]).bind fun r9=>((oCons r9.2).bind fun p10=>((oNil p10.2).bind fun _=>((oAgg p10.1).bind fun c11=>((oCons c11).bind fun p12=>((oSl 1 p12.1).bind fun c13=>((oCons p12.2).bind fun p14=>((oInt .i64 p14.1).bind fun n15=>((oNil p14.2).bind fun _=>((oInt .i64 r9.1).bind fun n16=>some ((.sl 1 [(.int .i64 (IntKind.wrap .i64 ((-1:Int) - n16)))]),[(.agg [(.sl 1 a0_0),(.int .i64 n15)])]))))))))))) else ((LIM F.q2u [(.rref [(.sl 1 a0_0),(.int .i64 n7)] 0),(.int .i64 (4:Int))]).bind fun r17=>((oCons r17.2).bind fun p18=>((oNil p18.2).bind fun _=>((oAgg p18.1).bind fun c19=>((oCons c19).bind fun p20=>((oSl 1 p20.1).bind fun c21=>((oCons p20.2).bind fun p22=>((oInt .i64 p22.1).bind fun n23=>((oNil p22.2).bind fun _=>((oBool r17.1).bind fun b24=>(bif b24 then ((LIM F.q16 [(.rref [(.sl 1 a0_0),(.int .i64 n23)] 0),(.int .i64 a3)]).bind fun r25=>((oCons r25.2).bind fun p26=>((oNil p26.2).bind fun _=>((oAgg p26.1).bind fun c27=>((oCons c27).bind fun p28=>((oSl 1 p28.1).bind fun c29=>((oCons p28.2).bind fun p30=>((oInt .i64 p30.1).bind fun n31=>((oNil p30.2).bind fun _=>((oInt .i64 r25.1).bind fun n32=>some ((.sl 1 [(.int .i64 (IntKind.wrap .i64 ((-1:Int) - n32)))]),[(.agg [(.sl 1 a0_0),(.int .i64 n31)])]))))))))))) else ((LIM F.q16 [(.rref [(.sl 1 a0_0),(.int .i64 n23)] 0),(.int .i64 ((((a1_0).length / 2):Nat):Int))]).bind fun r33=>((oCons r33.2).bind fun p34=>((oNil p34.2).bind fun _=>((oAgg p34.1).bind fun c35=>((oCons c35).bind fun p36=>((oSl 1 p36.1).bind fun c37=>((oCons p36.2).bind fun p38=>((oInt .i64 p38.1).bind fun n39=>((oNil p38.2).bind fun _=>((oInt .i64 r33.1).bind fun n40=>(q0a.at0 n n (q0a.st0 a1_0 a2 a3 ((((a1_0).length / 2):Nat):Int) n40 (0:Int) a0_0 n39)))))))))))))))))))))))))))))))))) else ((LIM F.q2u [(.rref [(.sl 1 a0_0),(.int .i64 a0_1)] 0),(.int .i64 (4:Int))]).bind fun r149=>((oCons r149.2).bind fun p150=>((oNil p150.2).bind fun _=>((oAgg p150.1).bind fun c151=>((oCons c151).bind fun p152=>((oSl 1 p152.1).bind fun c153=>((oCons p152.2).bind fun p154=>((oInt .i64 p154.1).bind fun n155=>((oNil p154.2).bind fun _=>((oBool r149.1).bind fun b156=>(bif b156 then ((LIM F.q16 [(.rref [(.sl 1 a0_0),(.int .i64 n155)] 0),(.int .i64 a3)]).bind fun r157=>((oCons r157.2).bind fun p158=>((oNil p158.2).bind fun _=>((oAgg p158.1).bind fun c159=>((oCons c159).bind fun p160=>((oSl 1 p160.1).bind fun c161=>((oCons p160.2).bind fun p162=>((oInt .i64 p162.1).bind fun n163=>((oNil p162.2).bind fun _=>((oInt .i64 r157.1).bind fun n164=>some ((.sl 1 [(.int .i64 (IntKind.wrap .i64 ((-1:Int) - n164)))]),[(.agg [(.sl 1 a0_0),(.int .i64 n163)])]))))))))))) else ((LIM F.q16 [(.rref [(.sl 1 a0_0),(.int .i64 n155)] 0),(.int .i64 ((((a1_0).length / 2):Nat):Int))]).bind fun r165=>((oCons r165.2).bind fun p166=>((oNil p166.2).bind fun _=>((oAgg p166.1).bind fun c167=>((oCons c167).bind fun p168=>((oSl 1 p168.1).bind fun c169=>((oCons p168.2).bind fun p170=>((oInt .i64 p170.1).bind fun n171=>((oNil p170.2).bind fun _=>((oInt .i64 r165.1).bind fun n172=>(q0a.at0 n n (q0a.st0 a1_0 a2 a3 ((((a1_0).length / 2):Nat):Int) n172 (0:Int) a0_0 n171)))))))))))))))))))))))) else ((LIM F.q16 [(.rref [(.sl 1 a0_0),(.int .i64 a0_1)] 0),(.int .i64 ((((a1_0).length / 2):Nat):Int))]).bind fun r173=>((oCons r173.2).bind fun p174=>((oNil p174.2).bind fun _=>((oAgg p174.1).bind fun c175=>((oCons c175).bind fun p176=>((oSl 1 p176.1).bind fun c177=>((oCons p176.2).bind fun p178=>((oInt .i64 p178.1).bind fun n179=>((oNil p178.2).bind fun _=>((oInt .i64 r173.1).bind fun n180=>(q0a.at0 n n (q0a.st0 a1_0 a2 a3 ((((a1_0).length / 2):Nat):Int) n180 (0:Int) a0_0 n179))))))))))))):=by kernel_rfl
def q1x.st0 (x0 x1:List T) (x2 x3 x4:Int):St:=⟨[(0,(.one (.t (.rref [(.sl 2 x0)] 0)))),(1,ol 1 x1),(2,oi x2),(7,oi x3),(8,oi x4)],[]⟩
noncomputable def q1x.K0 (n:Nat):Ex→St→R:=kx F.q1x n [.block 0,.seq 0 (cx F.q1x [1,1,1,1,1])] (endOf prog A F.q1x)
noncomputable def q1x.at0 (n:Nat) (m:Nat) (s:St):R:=lx F.q1x n 0 [1,1,1,1,0,1,0,0] (q1x.K0 n) m s
noncomputable def q1x.rd0 (n:Nat) (L0:St→R) (s:St):R:=rx F.q1x n 0 [1,1,1,1,0,1,0,0] (q1x.K0 n) L0 s
theorem q1x.next0 (n:Nat) (m:Nat) (s:St):q1x.at0 n (m+1) s=q1x.rd0 n (q1x.at0 n m) s:=nx _ _ _ _ _ _ _
theorem q1x.round0 (n:Nat) (L0:St→R) (x0 x1:List T) (x2 x3 x4:Int):q1x.rd0 n L0 (q1x.st0 x0 x1 x2 x3 x4)=(bif inB x2 ((x1).length / 1) then ((x1[((Int.toNat x2)*1)]?).bind fun e3=>((oInt .i64 e3).bind fun n4=>(bif inB n4 ((x0).length / 2) then ((x0[(((Int.toNat n4)*2)+1)]?).bind fun e5=>((oInt .i64 e5).bind fun n6=>(bif (decide (x4 < n6)) then ((LIM F.q1x [(.rref [(.sl 2 x0)] 0),(.sl 1 x1),(.int .i64 x3)]).bind fun r7=>((oNil r7.2).bind fun _=>((oInt .i64 r7.1).bind fun n8=>(bif (decide (n8 < (0:Int))) then some ((.int .i64 (-1:Int)),[]) else (L0 (q1x.st0 x0 x1 x2 n8 (IntKind.wrap .i64 (x4+(1:Int))))))))) else some ((.int .i64 x3),[])))) else none))) else none):=by kernel_rfl
theorem q1x.ev (n:Nat) (a0_0 a1:List T) (a2:Int):callK prog A H LIM n F.q1x [(.rref [(.sl 2 a0_0)] 0),(.sl 1 a1),(.int .i64 a2)]=(bif (decide (a2 ≥ ((((a1).length / 1):Nat):Int))) then some ((.int .i64 (-1:Int)),[]) else (bif inB a2 ((a1).length / 1) then ((a1[((Int.toNat a2)*1)]?).bind fun e1=>((oInt .i64 e1).bind fun n2=>(bif (decide (n2 < (0:Int))) then some ((.int .i64 (IntKind.wrap .i64 (a2+(1:Int)))),[]) else (q1x.at0 n n (q1x.st0 a0_0 a1 a2 (IntKind.wrap .i64 (a2+(1:Int))) (0:Int)))))) else none)):=by kernel_rfl
def q0y.st0 (x0 x1:List T) (x2:Int):St:=⟨[(0,(.one (.t (.rref [(.sl 2 x0)] 0)))),(1,ol 1 x1),(5,oi x2)],[]⟩
noncomputable def q0y.K0 (n:Nat):Ex→St→R:=kx F.q0y n [.block 0,.seq 0 (cx F.q0y [1,1,1])] (endOf prog A F.q0y)
noncomputable def q0y.at0 (n:Nat) (m:Nat) (s:St):R:=lx F.q0y n 0 [1,1,0,1,0,0] (q0y.K0 n) m s
noncomputable def q0y.rd0 (n:Nat) (L0:St→R) (s:St):R:=rx F.q0y n 0 [1,1,0,1,0,0] (q0y.K0 n) L0 s
theorem q0y.next0 (n:Nat) (m:Nat) (s:St):q0y.at0 n (m+1) s=q0y.rd0 n (q0y.at0 n m) s:=nx _ _ _ _ _ _ _
theorem q0y.round0 (n:Nat) (L0:St→R) (x0 x1:List T) (x2:Int):q0y.rd0 n L0 (q0y.st0 x0 x1 x2)=(bif (decide (x2 < ((((x1).length / 1):Nat):Int))) then (bif inB x2 ((x1).length / 1) then ((x1[((Int.toNat x2)*1)]?).bind fun e1=>((oInt .i64 e1).bind fun n2=>((LIM F.q6u [(.rref [(.sl 2 x0)] 0),(.int .i64 n2)]).bind fun r3=>((oNil r3.2).bind fun _=>((oBool r3.1).bind fun b4=>(bif (!b4) then some ((.int .i64 (3:Int)),[]) else (L0 (q0y.st0 x0 x1 (IntKind.wrap .i64 (x2+(1:Int))))))))))) else none) else ((LIM F.q1x [(.rref [(.sl 2 x0)] 0),(.sl 1 x1),(.int .i64 (0:Int))]).bind fun r5=>((oNil r5.2).bind fun _=>((oInt .i64 r5.1).bind fun n6=>(bif ((n6 != ((((x1).length / 1):Nat):Int))) then some ((.int .i64 (1:Int)),[]) else some ((.int .i64 (0:Int)),[])))))):=by kernel_rfl
theorem q0y.ev (n:Nat) (a0_0 a1:List T):callK prog A H LIM n F.q0y [(.rref [(.sl 2 a0_0)] 0),(.sl 1 a1)]=(bif (decide (((((a1).length / 1):Nat):Int) < (1:Int))) then some ((.int .i64 (2:Int)),[]) else (bif (decide (((((a1).length / 1):Nat):Int) > (24:Int))) then some ((.int .i64 (2:Int)),[]) else (q0y.at0 n n (q0y.st0 a0_0 a1 (0:Int))))):=by kernel_rfl
theorem q6u.ev (n:Nat) (a0_0:List T) (a1:Int):callK prog A H LIM n F.q6u [(.rref [(.sl 2 a0_0)] 0),(.int .i64 a1)]=((LIM F.q5h [(.rref [(.sl 2 a0_0)] 0),(.int .i64 a1)]).bind fun r1=>((oNil r1.2).bind fun _=>((oBool r1.1).bind fun b2=>(bif b2 then some ((.bool true),[]) else ((LIM F.q14 [(.int .i64 a1),(.int .i64 (-12:Int)),(.int .i64 (-1:Int))]).bind fun r3=>((oNil r3.2).bind fun _=>((oBool r3.1).bind fun b4=>some ((.bool b4),[])))))))):=by kernel_rfl
theorem q5a.ev (n:Nat) (a0:List T) (a1:Int):callK prog A H LIM n F.q5a [(.sl 1 a0),(.int .i64 a1)]=((LIM F.q14 [(.int .i64 a1),(.int .i64 (0:Int)),(.int .i64 (IntKind.wrap .i64 (((((a0).length / 1):Nat):Int) - (1:Int))))]).bind fun r1=>((oNil r1.2).bind fun _=>((oBool r1.1).bind fun b2=>some ((.bool b2),[])))):=by kernel_rfl
theorem q4f.ev (n:Nat) (a0_0 a1:List T) (a2:Int) (a3:List T):callK prog A H LIM n F.q4f [(.rref [(.sl 2 a0_0)] 0),(.sl 1 a1),(.int .i64 a2),(.sl 1 a3)]=(bif decide (0≤(0:Int))&&decide ((0:Int)≤a2)&&decide (a2≤((((a1).length / 1):Nat):Int)) then ((LIM F.q27 [(.sl 1 ((a1.take ((Int.toNat a2)*1)).drop (0*1)))]).bind fun r1=>((oNil r1.2).bind fun _=>((oSl 1 r1.1).bind fun c2=>(bif (a3).all T.scalar then (bif Nat.ble (((c2).length+(a3).length)*8) (140737488355328*1) then ((LIM F.q1x [(.rref [(.sl 2 a0_0)] 0),(.sl 1 a1),(.int .i64 a2)]).bind fun r3=>((oNil r3.2).bind fun _=>((oInt .i64 r3.1).bind fun n4=>(bif decide (0≤n4)&&decide (n4≤((((a1).length / 1):Nat):Int))&&decide (((((a1).length / 1):Nat):Int)≤((((a1).length / 1):Nat):Int)) then (bif (((a1.take ((Int.toNat ((((a1).length / 1):Nat):Int))*1)).drop ((Int.toNat n4)*1))).all T.scalar then (bif Nat.ble ((((c2++a3:List T)).length+(((a1.take ((Int.toNat ((((a1).length / 1):Nat):Int))*1)).drop ((Int.toNat n4)*1))).length)*8) (140737488355328*1) then some ((.sl 1 ((c2++a3:List T)++((a1.take ((Int.toNat ((((a1).length / 1):Nat):Int))*1)).drop ((Int.toNat n4)*1)):List T)),[]) else none) else none) else none)))) else none) else none)))) else none):=by kernel_rfl
theorem q51.ev (n:Nat) (a0_0 a1:List T) (a2:Int):callK prog A H LIM n F.q51 [(.rref [(.sl 2 a0_0)] 0),(.sl 1 a1),(.int .i64 a2)]=((LIM F.q1x [(.rref [(.sl 2 a0_0)] 0),(.sl 1 a1),(.int .i64 a2)]).bind fun r1=>((oNil r1.2).bind fun _=>((oInt .i64 r1.1).bind fun n2=>(bif decide (0≤a2)&&decide (a2≤n2)&&decide (n2≤((((a1).length / 1):Nat):Int)) then ((LIM F.q27 [(.sl 1 ((a1.take ((Int.toNat n2)*1)).drop ((Int.toNat a2)*1)))]).bind fun r3=>((oNil r3.2).bind fun _=>((oSl 1 r3.1).bind fun c4=>some ((.sl 1 c4),[])))) else none)))):=by kernel_rfl
theorem q3h.ev (n:Nat) (a0_0:List T) (a0_1:Int) (a1_0:List T):callK prog A H LIM n F.q3h [(.rref [(.sl 1 a0_0),(.int .i64 a0_1)] 0),(.rref [(.sl 2 a1_0)] 0)]=((LIM F.q00 [(.agg [(.sl 2 a1_0)])]).bind fun r1=>((oNil r1.2).bind fun _=>((oInt .i64 r1.1).bind fun n2=>(bif ((n2 != (0:Int))) then some ((.agg [(.sl 1 [(.int .i64 (0:Int))]),(.sl 1 [(.int .i64 (0:Int))])]),[(.agg [(.sl 1 a0_0),(.int .i64 a0_1)])]) else ((LIM F.q2u [(.rref [(.sl 1 a0_0),(.int .i64 a0_1)] 0),(.int .i64 (6:Int))]).bind fun r3=>((oCons r3.2).bind fun p4=>((oNil p4.2).bind fun _=>((oAgg p4.1).bind fun c5=>((oCons c5).bind fun p6=>((oSl 1 p6.1).bind fun c7=>((oCons p6.2).bind fun p8=>((oInt .i64 p8.1).bind fun n9=>((oNil p8.2).bind fun _=>((oBool r3.1).bind fun b10=>(bif b10 then ((LIM F.q0t [(.rref [(.sl 1 a0_0),(.int .i64 n9)] 0),(.rref [(.sl 2 a1_0)] 0),(.int .i64 (9:Int)),(.int .i64 (7:Int))]).bind fun r11=>((oCons r11.2).bind fun p12=>((oNil p12.2).bind fun _=>((oAgg p12.1).bind fun c13=>((oCons c13).bind fun p14=>((oSl 1 p14.1).bind fun c15=>((oCons p14.2).bind fun p16=>((oInt .i64 p16.1).bind fun n17=>((oNil p16.2).bind fun _=>((oSl 1 r11.1).bind fun c18=>((LIM F.q0t [(.rref [(.sl 1 a0_0),(.int .i64 n17)] 0),(.rref [(.sl 2 a1_0)] 0),(.int .i64 (5:Int)),(.int .i64 (12:Int))]).bind fun r19=>((oCons r19.2).bind fun p20=>((oNil p20.2).bind fun _=>((oAgg p20.1).bind fun c21=>((oCons c21).bind fun p22=>((oSl 1 p22.1).bind fun c23=>((oCons p22.2).bind fun p24=>((oInt .i64 p24.1).bind fun n25=>((oNil p24.2).bind fun _=>((oSl 1 r19.1).bind fun c26=>some ((.agg [(.sl 1 c18),(.sl 1 c26)]),[(.agg [(.sl 1 a0_0),(.int .i64 n25)])]))))))))))))))))))))) else ((LIM F.q4n [(.rref [(.sl 1 a0_0),(.int .i64 n9)] 0),(.rref [(.sl 2 a1_0)] 0)]).bind fun r27=>((oCons r27.2).bind fun p28=>((oNil p28.2).bind fun _=>((oAgg p28.1).bind fun c29=>((oCons c29).bind fun p30=>((oSl 1 p30.1).bind fun c31=>((oCons p30.2).bind fun p32=>((oInt .i64 p32.1).bind fun n33=>((oNil p32.2).bind fun _=>((oAgg r27.1).bind fun c34=>((oCons c34).bind fun p35=>((oSl 1 p35.1).bind fun c36=>((oCons p35.2).bind fun p37=>((oSl 1 p37.1).bind fun c38=>((oNil p37.2).bind fun _=>some ((.agg [(.sl 1 c36),(.sl 1 c38)]),[(.agg [(.sl 1 a0_0),(.int .i64 n33)])]))))))))))))))))))))))))))))))):=by kernel_rfl
theorem q7u.ev (n:Nat) (a0_0 a0_1:List T):callK prog A H LIM n F.q7u [(.rref [(.sl 1 a0_0),(.sl 1 a0_1)] 0)]=((LIM F.q27 [(.sl 1 a0_0)]).bind fun r1=>((oNil r1.2).bind fun _=>((oSl 1 r1.1).bind fun c2=>((LIM F.q27 [(.sl 1 a0_1)]).bind fun r3=>((oNil r3.2).bind fun _=>((oSl 1 r3.1).bind fun c4=>some ((.agg [(.sl 1 c2),(.sl 1 c4)]),[]))))))):=by kernel_rfl
theorem q4n.ev (n:Nat) (a0_0:List T) (a0_1:Int) (a1_0:List T):callK prog A H LIM n F.q4n [(.rref [(.sl 1 a0_0),(.int .i64 a0_1)] 0),(.rref [(.sl 2 a1_0)] 0)]=((LIM F.q2u [(.rref [(.sl 1 a0_0),(.int .i64 a0_1)] 0),(.int .i64 (4:Int))]).bind fun r1=>((oCons r1.2).bind fun p2=>((oNil p2.2).bind fun _=>((oAgg p2.1).bind fun c3=>((oCons c3).bind fun p4=>((oSl 1 p4.1).bind fun c5=>((oCons p4.2).bind fun p6=>((oInt .i64 p6.1).bind fun n7=>((oNil p6.2).bind fun _=>((oBool r1.1).bind fun b8=>(bif b8 then ((LIM F.q32 [(.rref [(.sl 1 a0_0),(.int .i64 n7)] 0),(.sl 1 [(.int .i64 (4:Int)),(.int .i64 (7:Int)),(.int .i64 (9:Int))])]).bind fun r9=>((oCons r9.2).bind fun p10=>((oNil p10.2).bind fun _=>((oAgg p10.1).bind fun c11=>((oCons c11).bind fun p12=>((oSl 1 p12.1).bind fun c13=>((oCons p12.2).bind fun p14=>((oInt .i64 p14.1).bind fun n15=>((oNil p14.2).bind fun _=>((oInt .i64 r9.1).bind fun n16=>((LIM F.q0a [(.rref [(.sl 1 a0_0),(.int .i64 n15)] 0),(.rref [(.sl 2 a1_0)] 0),(.int .i64 n16),(.int .i64 (3:Int))]).bind fun r17=>((oCons r17.2).bind fun p18=>((oNil p18.2).bind fun _=>((oAgg p18.1).bind fun c19=>((oCons c19).bind fun p20=>((oSl 1 p20.1).bind fun c21=>((oCons p20.2).bind fun p22=>((oInt .i64 p22.1).bind fun n23=>((oNil p22.2).bind fun _=>((oSl 1 r17.1).bind fun c24=>((LIM F.q32 [(.rref [(.sl 1 a0_0),(.int .i64 n23)] 0),(.sl 1 [(.int .i64 (1:Int)),(.int .i64 (3:Int)),(.int .i64 (5:Int))])]).bind fun r25=>((oCons r25.2).bind fun p26=>((oNil p26.2).bind fun _=>((oAgg p26.1).bind fun c27=>((oCons c27).bind fun p28=>((oSl 1 p28.1).bind fun c29=>((oCons p28.2).bind fun p30=>((oInt .i64 p30.1).bind fun n31=>((oNil p30.2).bind fun _=>((oInt .i64 r25.1).bind fun n32=>((LIM F.q0a [(.rref [(.sl 1 a0_0),(.int .i64 n31)] 0),(.rref [(.sl 2 a1_0)] 0),(.int .i64 n32),(.int .i64 (3:Int))]).bind fun r33=>((oCons r33.2).bind fun p34=>((oNil p34.2).bind fun _=>((oAgg p34.1).bind fun c35=>((oCons c35).bind fun p36=>((oSl 1 p36.1).bind fun c37=>((oCons p36.2).bind fun p38=>((oInt .i64 p38.1).bind fun n39=>((oNil p38.2).bind fun _=>((oSl 1 r33.1).bind fun c40=>some ((.agg [(.sl 1 c24),(.sl 1 c40)]),[(.agg [(.sl 1 a0_0),(.int .i64 n39)])]))))))))))))))))))))))))))))))))))))))))) else ((LIM F.q1r [(.rref [(.sl 1 a0_0),(.int .i64 n7)] 0),(.rref [(.sl 2 a1_0)] 0)]).bind fun r41=>((oCons r41.2).bind fun p42=>((oNil p42.2).bind fun _=>((oAgg p42.1).bind fun c43=>((oCons c43).bind fun p44=>((oSl 1 p44.1).bind fun c45=>((oCons p44.2).bind fun p46=>((oInt .i64 p46.1).bind fun n47=>((oNil p46.2).bind fun _=>((oAgg r41.1).bind fun c48=>((oCons c48).bind fun p49=>((oSl 1 p49.1).bind fun c50=>((oCons p49.2).bind fun p51=>((oSl 1 p51.1).bind fun c52=>((oNil p51.2).bind fun _=>some ((.agg [(.sl 1 c50),(.sl 1 c52)]),[(.agg [(.sl 1 a0_0),(.int .i64 n47)])]))))))))))))))))))))))))))):=by kernel_rfl
theorem q43.ev (n:Nat) (a0_0 a1_0 a1_1:List T):callK prog A H LIM n F.q43 [(.rref [(.sl 2 a0_0)] 0),(.rref [(.sl 1 a1_0),(.sl 1 a1_1)] 0)]=((LIM F.q0y [(.rref [(.sl 2 a0_0)] 0),(.sl 1 a1_0)]).bind fun r1=>((oNil r1.2).bind fun _=>((oInt .i64 r1.1).bind fun n2=>(bif ((n2 != (0:Int))) then some ((.int .i64 n2),[]) else ((LIM F.q0y [(.rref [(.sl 2 a0_0)] 0),(.sl 1 a1_1)]).bind fun r3=>((oNil r3.2).bind fun _=>((oInt .i64 r3.1).bind fun n4=>(bif ((n4 != (0:Int))) then some ((.int .i64 n4),[]) else ((LIM F.q21 [(.sl 1 a1_0)]).bind fun r5=>((oNil r5.2).bind fun _=>((oBool r5.1).bind fun b6=>(bif (!b6) then some ((.int .i64 (3:Int)),[]) else ((LIM F.q21 [(.sl 1 a1_1)]).bind fun r7=>((oNil r7.2).bind fun _=>((oBool r7.1).bind fun b8=>(bif (!b8) then some ((.int .i64 (3:Int)),[]) else some ((.int .i64 (0:Int)),[]))))))))))))))))):=by kernel_rfl
def q21.st0 (x0:List T) (x1:Int):St:=⟨[(0,ol 1 x0),(3,oi x1)],[]⟩
noncomputable def q21.K0 (n:Nat):Ex→St→R:=kx F.q21 n [.block 0,.seq 0 (cx F.q21 [1,1])] (endOf prog A F.q21)
noncomputable def q21.at0 (n:Nat) (m:Nat) (s:St):R:=lx F.q21 n 0 [1,0,1,0,0] (q21.K0 n) m s
noncomputable def q21.rd0 (n:Nat) (L0:St→R) (s:St):R:=rx F.q21 n 0 [1,0,1,0,0] (q21.K0 n) L0 s
theorem q21.next0 (n:Nat) (m:Nat) (s:St):q21.at0 n (m+1) s=q21.rd0 n (q21.at0 n m) s:=nx _ _ _ _ _ _ _
theorem q21.round0 (n:Nat) (L0:St→R) (x0:List T) (x1:Int):q21.rd0 n L0 (q21.st0 x0 x1)=(bif (decide (x1 < ((((x0).length / 1):Nat):Int))) then (bif inB x1 ((x0).length / 1) then ((x0[((Int.toNat x1)*1)]?).bind fun e1=>((oInt .i64 e1).bind fun n2=>(bif (decide (n2 < (-6:Int))) then some ((.bool false),[]) else (L0 (q21.st0 x0 (IntKind.wrap .i64 (x1+(1:Int)))))))) else none) else some ((.bool true),[])):=by kernel_rfl
theorem q21.ev (n:Nat) (a0:List T):callK prog A H LIM n F.q21 [(.sl 1 a0)]=(q21.at0 n n (q21.st0 a0 (0:Int))):=by kernel_rfl
def q0f.st3 (x0:List T) (x1:ByteArray) (x2 x3:Int) (x4:List T):St:=⟨[(0,(.one (.t (.rref [(.sl 2 x0)] 0)))),(1,(.one (.t (.str x1)))),(6,(.one (.obj 704))),(7,oi x2),(9,oi x3)],[(704,(.arr true true 1 x4))]⟩
def q0f.st0 (x0:List T) (x1:ByteArray) (x2:Int) (x3:List T):St:=⟨[(0,(.one (.t (.rref [(.sl 2 x0)] 0)))),(1,(.one (.t (.str x1)))),(6,(.one (.obj 704))),(7,oi x2)],[(704,(.arr true true 1 x3))]⟩
noncomputable def q0f.K0 (n:Nat):Ex→St→R:=kx F.q0f n [.block 0,.seq 0 (cx F.q0f [1,1,1,1])] (endOf prog A F.q0f)
noncomputable def q0f.at0 (n:Nat) (m:Nat) (s:St):R:=lx F.q0f n 0 [1,1,1,0,0,0] (q0f.K0 n) m s
noncomputable def q0f.rd0 (n:Nat) (L0:St→R) (s:St):R:=rx F.q0f n 0 [1,1,1,0,0,0] (q0f.K0 n) L0 s
theorem q0f.next0 (n:Nat) (m:Nat) (s:St):q0f.at0 n (m+1) s=q0f.rd0 n (q0f.at0 n m) s:=nx _ _ _ _ _ _ _
noncomputable def q0f.K3 (n:Nat) (L0:St→R):Ex→St→R:=kx F.q0f n [.block 3,.seq 2 (cx F.q0f [1,1,1,0,0,0,1,0,1,0,1,1,1,1,1,0,1,1]),.block 2,.block 1] (bx F.q0f 0 (q0f.K0 n) L0)
noncomputable def q0f.at3 (n:Nat) (L0:St→R) (m:Nat) (s:St):R:=lx F.q0f n 3 [1,1,1,0,0,0,1,0,1,0,1,1,1,1,1,0,1,0,0,0] (q0f.K3 n L0) m s
noncomputable def q0f.rd3 (n:Nat) (L0:St→R) (L3:St→R) (s:St):R:=rx F.q0f n 3 [1,1,1,0,0,0,1,0,1,0,1,1,1,1,1,0,1,0,0,0] (q0f.K3 n L0) L3 s
theorem q0f.next3 (n:Nat) (L0:St→R) (m:Nat) (s:St):q0f.at3 n L0 (m+1) s=q0f.rd3 n L0 (q0f.at3 n L0 m) s:=nx _ _ _ _ _ _ _
theorem q0f.round0 (n:Nat) (L0:St→R) (x0:List T) (x1:ByteArray) (x2:Int) (x3:List T):q0f.rd0 n L0 (q0f.st0 x0 x1 x2 x3)=(bif (decide (x2 < (x1.size:Int))) then (bif inB x2 x1.size then (bif ((((x1.data.getD (Int.toNat x2) 0).toNat:Int) == (40:Int))) then (L0 (q0f.st0 x0 x1 (IntKind.wrap .i64 (x2+(1:Int))) x3)) else (bif ((((x1.data.getD (Int.toNat x2) 0).toNat:Int) == (41:Int))) then (L0 (q0f.st0 x0 x1 (IntKind.wrap .i64 (x2+(1:Int))) x3)) else (bif ((((x1.data.getD (Int.toNat x2) 0).toNat:Int) == (44:Int))) then (L0 (q0f.st0 x0 x1 (IntKind.wrap .i64 (x2+(1:Int))) x3)) else (bif (decide (((x1.data.getD (Int.toNat x2) 0).toNat:Int) ≥ (65:Int))) then (bif (decide (((x1.data.getD (Int.toNat x2) 0).toNat:Int) < (77:Int))) then (bif Nat.ble (((x3).length+1)*8) (140737488355328*1) then (L0 (q0f.st0 x0 x1 (IntKind.wrap .i64 (x2+(1:Int))) (x3++[(.int .i64 (IntKind.wrap .i64 ((-1:Int) - (IntKind.wrap .i64 (IntKind.wrap .u8 (((x1.data.getD (Int.toNat x2) 0).toNat:Int) - (65:Int)))))))]:List T))) else none) else (bif (decide (((x1.data.getD (Int.toNat x2) 0).toNat:Int) ≥ (97:Int))) then (bif (decide (((x1.data.getD (Int.toNat x2) 0).toNat:Int)≤(122:Int))) then (q0f.at3 n L0 n (q0f.st3 x0 x1 x2 x2 x3)) else some ((.tup [(.sl 1 []),(.bool false)]),[])) else some ((.tup [(.sl 1 []),(.bool false)]),[]))) else (bif (decide (((x1.data.getD (Int.toNat x2) 0).toNat:Int) ≥ (97:Int))) then (bif (decide (((x1.data.getD (Int.toNat x2) 0).toNat:Int)≤(122:Int))) then (q0f.at3 n L0 n (q0f.st3 x0 x1 x2 x2 x3)) else some ((.tup [(.sl 1 []),(.bool false)]),[])) else some ((.tup [(.sl 1 []),(.bool false)]),[])))))) else none) else some ((.tup [(.sl 1 x3),(.bool true)]),[])):=by kernel_rfl
theorem q0f.round3 (n:Nat) (L0:St→R) (L3:St→R) (x0:List T) (x1:ByteArray) (x2 x3:Int) (x4:List T):q0f.rd3 n L0 L3 (q0f.st3 x0 x1 x2 x3 x4)=(bif (decide (x3 < (x1.size:Int))) then (bif inB x3 x1.size then (bif (decide (((x1.data.getD (Int.toNat x3) 0).toNat:Int) ≥ (97:Int))) then (bif inB x3 x1.size then (bif (decide (((x1.data.getD (Int.toNat x3) 0).toNat:Int)≤(122:Int))) then (L3 (q0f.st3 x0 x1 x2 (IntKind.wrap .i64 (x3+(1:Int))) x4)) else (bif decide (0≤x2)&&decide (x2≤x3)&&decide (x3≤(x1.size:Int)) then ((LIM F.q1k [(.rref [(.sl 2 x0)] 0),(.str (x1.extract (Int.toNat x2) (Int.toNat x3)))]).bind fun r1=>((oNil r1.2).bind fun _=>((oInt .i64 r1.1).bind fun n2=>(bif (decide (n2 < (0:Int))) then some ((.tup [(.sl 1 []),(.bool false)]),[]) else (bif Nat.ble (((x4).length+1)*8) (140737488355328*1) then (L0 (q0f.st0 x0 x1 x3 (x4++[(.int .i64 n2)]:List T))) else none))))) else none)) else none) else (bif decide (0≤x2)&&decide (x2≤x3)&&decide (x3≤(x1.size:Int)) then ((LIM F.q1k [(.rref [(.sl 2 x0)] 0),(.str (x1.extract (Int.toNat x2) (Int.toNat x3)))]).bind fun r3=>((oNil r3.2).bind fun _=>((oInt .i64 r3.1).bind fun n4=>(bif (decide (n4 < (0:Int))) then some ((.tup [(.sl 1 []),(.bool false)]),[]) else (bif Nat.ble (((x4).length+1)*8) (140737488355328*1) then (L0 (q0f.st0 x0 x1 x3 (x4++[(.int .i64 n4)]:List T))) else none))))) else none)) else none) else (bif decide (0≤x2)&&decide (x2≤x3)&&decide (x3≤(x1.size:Int)) then ((LIM F.q1k [(.rref [(.sl 2 x0)] 0),(.str (x1.extract (Int.toNat x2) (Int.toNat x3)))]).bind fun r5=>((oNil r5.2).bind fun _=>((oInt .i64 r5.1).bind fun n6=>(bif (decide (n6 < (0:Int))) then some ((.tup [(.sl 1 []),(.bool false)]),[]) else (bif Nat.ble (((x4).length+1)*8) (140737488355328*1) then (L0 (q0f.st0 x0 x1 x3 (x4++[(.int .i64 n6)]:List T))) else none))))) else none)):=by kernel_rfl
theorem q0f.ev (n:Nat) (a0_0:List T) (a1:ByteArray):callK prog A H LIM n F.q0f [(.rref [(.sl 2 a0_0)] 0),(.str a1)]=(q0f.at0 n n (q0f.st0 a0_0 a1 (0:Int) [])):=by kernel_rfl
def q13.st0 (x0 x1:List T) (x2:Int) (x3 x4:List T):St:=⟨[(0,(.one (.t (.rref [(.sl 1 x0),(.sl 1 x1)] 0)))),(2,(.one (.ptr 128 0))),(4,(.one (.obj 832))),(5,(.one (.obj 1216))),(6,oi x2)],[(128,(.box [.nil,.nil])),(832,(.arr true true 1 x3)),(1216,(.arr true true 1 x4))]⟩
noncomputable def q13.K0 (n:Nat):Ex→St→R:=kx F.q13 n [.block 0,.seq 0 (cx F.q13 [1,1,1,1])] (endOf prog A F.q13)
noncomputable def q13.at0 (n:Nat) (m:Nat) (s:St):R:=lx F.q13 n 0 [1,1,1,0,1,0,0] (q13.K0 n) m s
noncomputable def q13.rd0 (n:Nat) (L0:St→R) (s:St):R:=rx F.q13 n 0 [1,1,1,0,1,0,0] (q13.K0 n) L0 s
theorem q13.next0 (n:Nat) (m:Nat) (s:St):q13.at0 n (m+1) s=q13.rd0 n (q13.at0 n m) s:=nx _ _ _ _ _ _ _
theorem q13.round0 (n:Nat) (L0:St→R) (x0 x1:List T) (x2:Int) (x3 x4:List T):q13.rd0 n L0 (q13.st0 x0 x1 x2 x3 x4)=(bif (decide (x2 < ((((x3).length / 1):Nat):Int))) then (bif inB x2 ((x3).length / 1) then ((x3[((Int.toNat x2)*1)]?).bind fun e3=>((oInt .i64 e3).bind fun n4=>(bif (decide (n4 ≥ (0:Int))) then (L0 (q13.st0 x0 x1 (IntKind.wrap .i64 (x2+(1:Int))) x3 x4)) else (bif inB x2 ((x3).length / 1) then ((x3[((Int.toNat x2)*1)]?).bind fun e5=>((oInt .i64 e5).bind fun n6=>((LIM F.q1z [(.sl 1 x4),(.int .i64 n6)]).bind fun r7=>((oNil r7.2).bind fun _=>((oInt .i64 r7.1).bind fun n8=>(bif (decide (n8 < (0:Int))) then (bif inB x2 ((x3).length / 1) then ((x3[((Int.toNat x2)*1)]?).bind fun e9=>((oInt .i64 e9).bind fun n10=>(bif Nat.ble (((x4).length+1)*8) (140737488355328*1) then (bif inB x2 ((x3).length / 1) then (bif decide (((Int.toNat x2)*1)+1≤(x3).length) then (L0 (q13.st0 x0 x1 (IntKind.wrap .i64 (x2+(1:Int))) (setCells x3 ((Int.toNat x2)*1) [(.int .i64 (IntKind.wrap .i64 ((-1:Int) - ((((x4).length / 1):Nat):Int))))]) (x4++[(.int .i64 n10)]:List T))) else none) else none) else none))) else none) else (bif inB x2 ((x3).length / 1) then (bif decide (((Int.toNat x2)*1)+1≤(x3).length) then (L0 (q13.st0 x0 x1 (IntKind.wrap .i64 (x2+(1:Int))) (setCells x3 ((Int.toNat x2)*1) [(.int .i64 (IntKind.wrap .i64 ((-1:Int) - n8)))]) x4)) else none) else none))))))) else none)))) else none) else (bif (decide (((((x4).length / 1):Nat):Int) > (6:Int))) then some ((.tup [(.agg [(.sl 1 []),(.sl 1 [])]),(.bool false)]),[]) else (bif decide (0≤(0:Int))&&decide ((0:Int)≤((((x0).length / 1):Nat):Int))&&decide (((((x0).length / 1):Nat):Int)≤((((x3).length / 1):Nat):Int)) then ((LIM F.q27 [(.sl 1 ((x3.take ((Int.toNat ((((x0).length / 1):Nat):Int))*1)).drop (0*1)))]).bind fun r11=>((oNil r11.2).bind fun _=>((oSl 1 r11.1).bind fun c12=>(bif decide (0≤((((x0).length / 1):Nat):Int))&&decide (((((x0).length / 1):Nat):Int)≤((((x3).length / 1):Nat):Int))&&decide (((((x3).length / 1):Nat):Int)≤((((x3).length / 1):Nat):Int)) then ((LIM F.q27 [(.sl 1 ((x3.take ((Int.toNat ((((x3).length / 1):Nat):Int))*1)).drop ((Int.toNat ((((x0).length / 1):Nat):Int))*1)))]).bind fun r13=>((oNil r13.2).bind fun _=>((oSl 1 r13.1).bind fun c14=>some ((.tup [(.agg [(.sl 1 c12),(.sl 1 c14)]),(.bool true)]),[])))) else none)))) else none))):=by kernel_rfl
theorem q13.ev (n:Nat) (a0_0 a0_1:List T):callK prog A H LIM n F.q13 [(.rref [(.sl 1 a0_0),(.sl 1 a0_1)] 0)]=((LIM F.q27 [(.sl 1 a0_0)]).bind fun r1=>((oNil r1.2).bind fun _=>((oSl 1 r1.1).bind fun c2=>(bif (a0_1).all T.scalar then (bif Nat.ble (((c2).length+(a0_1).length)*8) (140737488355328*1) then (q13.at0 n n (q13.st0 a0_0 a0_1 (0:Int) (c2++a0_1:List T) [])) else none) else none)))):=by kernel_rfl
def q1r.st0 (x0:List T) (x1 x2 x3:Int) (x4:List T) (x5:Int) (x6:List T):St:=⟨[(0,(.one (.ptr 1000000 0))),(1,(.one (.t (.rref [(.sl 2 x0)] 0)))),(4,(.one (.ptr 256 0))),(5,(.one (.obj 640))),(6,oi x1),(7,oi x2),(8,oi x3)],[(1000000,(.box [(.kept 0 (.sl 1 x4)),(.t (.int .i64 x5))])),(256,(.box [.nil,.nil])),(640,(.arr true true 1 x6))]⟩
noncomputable def q1r.K0 (n:Nat):Ex→St→R:=kx F.q1r n [.block 0,.seq 0 (cx F.q1r [1,1,1,1,1])] (endOf prog A F.q1r)
noncomputable def q1r.at0 (n:Nat) (m:Nat) (s:St):R:=lx F.q1r n 0 [1,1,1,1,0,1,0,0] (q1r.K0 n) m s
noncomputable def q1r.rd0 (n:Nat) (L0:St→R) (s:St):R:=rx F.q1r n 0 [1,1,1,1,0,1,0,0] (q1r.K0 n) L0 s
theorem q1r.next0 (n:Nat) (m:Nat) (s:St):q1r.at0 n (m+1) s=q1r.rd0 n (q1r.at0 n m) s:=nx _ _ _ _ _ _ _
theorem q1r.round0 (n:Nat) (L0:St→R) (x0:List T) (x1 x2 x3:Int) (x4:List T) (x5:Int) (x6:List T):q1r.rd0 n L0 (q1r.st0 x0 x1 x2 x3 x4 x5 x6)=(bif (decide (x3 < x1)) then (bif decide (x1=0) then none else (bif inB (Int.tmod (IntKind.wrap .i64 (x2+x3)) x1) ((x6).length / 1) then ((x6[((Int.toNat (Int.tmod (IntKind.wrap .i64 (x2+x3)) x1))*1)]?).bind fun e9=>((oStr e9).bind fun s10=>((LIM F.q41 [(.agg [(.sl 2 x0)]),(.str s10)]).bind fun r11=>((oNil r11.2).bind fun _=>((oAgg r11.1).bind fun c12=>((oCons c12).bind fun p13=>((oInt .i64 p13.1).bind fun n14=>((oCons p13.2).bind fun p15=>((oSl 1 p15.1).bind fun c16=>((oCons p15.2).bind fun p17=>((oSl 1 p17.1).bind fun c18=>((oNil p17.2).bind fun _=>(bif ((n14 == (0:Int))) then some ((.agg [(.sl 1 c16),(.sl 1 c18)]),[(.agg [(.sl 1 x4),(.int .i64 x5)])]) else (L0 (q1r.st0 x0 x1 x2 (IntKind.wrap .i64 (x3+(1:Int))) x4 x5 x6))))))))))))))) else none)) else ((LIM F.q0a [(.rref [(.sl 1 x4),(.int .i64 x5)] 0),(.rref [(.sl 2 x0)] 0),(.int .i64 (4:Int)),(.int .i64 (2:Int))]).bind fun r19=>((oCons r19.2).bind fun p20=>((oNil p20.2).bind fun _=>((oAgg p20.1).bind fun c21=>((oCons c21).bind fun p22=>((oSl 1 p22.1).bind fun c23=>((oCons p22.2).bind fun p24=>((oInt .i64 p24.1).bind fun n25=>((oNil p24.2).bind fun _=>((oSl 1 r19.1).bind fun c26=>((LIM F.q0a [(.rref [(.sl 1 x4),(.int .i64 n25)] 0),(.rref [(.sl 2 x0)] 0),(.int .i64 (2:Int)),(.int .i64 (2:Int))]).bind fun r27=>((oCons r27.2).bind fun p28=>((oNil p28.2).bind fun _=>((oAgg p28.1).bind fun c29=>((oCons c29).bind fun p30=>((oSl 1 p30.1).bind fun c31=>((oCons p30.2).bind fun p32=>((oInt .i64 p32.1).bind fun n33=>((oNil p32.2).bind fun _=>((oSl 1 r27.1).bind fun c34=>some ((.agg [(.sl 1 c26),(.sl 1 c34)]),[(.agg [(.sl 1 x4),(.int .i64 n33)])])))))))))))))))))))))):=by kernel_rfl
theorem q1r.ev (n:Nat) (a0_0:List T) (a0_1:Int) (a1_0:List T):callK prog A H LIM n F.q1r [(.rref [(.sl 1 a0_0),(.int .i64 a0_1)] 0),(.rref [(.sl 2 a1_0)] 0)]=((LIM F.q16 [(.rref [(.sl 1 a0_0),(.int .i64 a0_1)] 0),(.int .i64 (18:Int))]).bind fun r1=>((oCons r1.2).bind fun p2=>((oNil p2.2).bind fun _=>((oAgg p2.1).bind fun c3=>((oCons c3).bind fun p4=>((oSl 1 p4.1).bind fun c5=>((oCons p4.2).bind fun p6=>((oInt .i64 p6.1).bind fun n7=>((oNil p6.2).bind fun _=>((oInt .i64 r1.1).bind fun n8=>(q1r.at0 n n (q1r.st0 a1_0 (18:Int) n8 (0:Int) a0_0 n7 [(.str (ByteArray.mk #[109,40,101,44,65,41,61,65])),(.str (ByteArray.mk #[109,40,65,44,101,41,61,65])),(.str (ByteArray.mk #[109,40,105,40,65,41,44,65,41,61,101])),(.str (ByteArray.mk #[105,40,105,40,65,41,41,61,65])),(.str (ByteArray.mk #[105,40,101,41,61,101])),(.str (ByteArray.mk #[97,100,100,40,97,44,65,41,61,65])),(.str (ByteArray.mk #[97,100,100,40,115,117,99,40,65,41,44,66,41,61,115,117,99,40,97,100,100,40,65,44,66,41,41])),(.str (ByteArray.mk #[102,40,103,40,65,41,41,61,65])),(.str (ByteArray.mk #[102,40,102,40,65,41,41,61,65])),(.str (ByteArray.mk #[103,40,102,40,97,41,41,61,97])),(.str (ByteArray.mk #[109,40,109,40,65,44,66,41,44,67,41,61,109,40,65,44,109,40,66,44,67,41,41])),(.str (ByteArray.mk #[115,117,99,40,115,117,99,40,65,41,41,61,65])),(.str (ByteArray.mk #[98,61,97])),(.str (ByteArray.mk #[109,40,97,44,97,41,61,97])),(.str (ByteArray.mk #[97,100,100,40,65,44,98,41,61,65])),(.str (ByteArray.mk #[115,117,99,40,98,41,61,97])),(.str (ByteArray.mk #[102,40,102,40,102,40,97,41,41,41,61,97])),(.str (ByteArray.mk #[105,40,109,40,65,44,66,41,41,61,109,40,105,40,66,41,44,105,40,65,41,41]))])))))))))))):=by kernel_rfl
theorem q5i.ev (n:Nat) (a0_0:List T) (a1:ByteArray):callK prog A H LIM n F.q5i [(.rref [(.sl 2 a0_0)] 0),(.str a1)]=(bif (decide ((a1.size:Int) > (168:Int))) then some ((.sl 1 []),[]) else ((LIM F.q0f [(.rref [(.sl 2 a0_0)] 0),(.str a1)]).bind fun r1=>((oNil r1.2).bind fun _=>((oTup r1.1).bind fun c2=>((oCons c2).bind fun p3=>((oSl 1 p3.1).bind fun c4=>((oCons p3.2).bind fun p5=>((oBool p5.1).bind fun b6=>((oNil p5.2).bind fun _=>(bif (!b6) then some ((.sl 1 []),[]) else ((LIM F.q0y [(.rref [(.sl 2 a0_0)] 0),(.sl 1 c4)]).bind fun r7=>((oNil r7.2).bind fun _=>((oInt .i64 r7.1).bind fun n8=>(bif ((n8 != (0:Int))) then some ((.sl 1 []),[]) else ((LIM F.q1q [(.rref [(.sl 2 a0_0)] 0),(.sl 1 c4),(.int .i64 (0:Int))]).bind fun r9=>((oNil r9.2).bind fun _=>((oStr r9.1).bind fun s10=>(bif (!(s10.toList == a1.toList)) then some ((.sl 1 []),[]) else some ((.sl 1 c4),[]))))))))))))))))))):=by kernel_rfl
def q1q.st0 (x0 x1:List T) (x2:ByteArray) (x3 x4:Int) (x5:ByteArray) (x6:Int):St:=⟨[(0,(.one (.t (.rref [(.sl 2 x0)] 0)))),(1,ol 1 x1),(7,(.one (.ptr 448 0))),(8,(.one (.t (.str x2)))),(9,oi x3),(10,oi x4)],[(448,(.box [(.t (.str x5)),(.t (.int .i64 x6))]))]⟩
noncomputable def q1q.K0 (n:Nat):Ex→St→R:=kx F.q1q n [.block 0,.seq 0 (cx F.q1q [1,1,1,1,1,1,1])] (endOf prog A F.q1q)
noncomputable def q1q.at0 (n:Nat) (m:Nat) (s:St):R:=lx F.q1q n 0 [1,1,1,1,1,1,0,1,0,0] (q1q.K0 n) m s
noncomputable def q1q.rd0 (n:Nat) (L0:St→R) (s:St):R:=rx F.q1q n 0 [1,1,1,1,1,1,0,1,0,0] (q1q.K0 n) L0 s
theorem q1q.next0 (n:Nat) (m:Nat) (s:St):q1q.at0 n (m+1) s=q1q.rd0 n (q1q.at0 n m) s:=nx _ _ _ _ _ _ _
theorem q1q.round0 (n:Nat) (L0:St→R) (x0 x1:List T) (x2:ByteArray) (x3 x4:Int) (x5:ByteArray) (x6:Int):q1q.rd0 n L0 (q1q.st0 x0 x1 x2 x3 x4 x5 x6)=(bif (decide (x4 < x6)) then (bif (decide (x4 > (0:Int))) then (bif decide (x2.size+(ByteArray.mk #[44]).size≤9223372036854775807) then ((LIM F.q1q [(.rref [(.sl 2 x0)] 0),(.sl 1 x1),(.int .i64 x3)]).bind fun r11=>((oNil r11.2).bind fun _=>((oStr r11.1).bind fun s12=>(bif decide ((x2++(ByteArray.mk #[44])).size+s12.size≤9223372036854775807) then ((LIM F.q1x [(.rref [(.sl 2 x0)] 0),(.sl 1 x1),(.int .i64 x3)]).bind fun r13=>((oNil r13.2).bind fun _=>((oInt .i64 r13.1).bind fun n14=>(L0 (q1q.st0 x0 x1 ((x2++(ByteArray.mk #[44]))++s12) n14 (IntKind.wrap .i64 (x4+(1:Int))) x5 x6))))) else none)))) else none) else ((LIM F.q1q [(.rref [(.sl 2 x0)] 0),(.sl 1 x1),(.int .i64 x3)]).bind fun r15=>((oNil r15.2).bind fun _=>((oStr r15.1).bind fun s16=>(bif decide (x2.size+s16.size≤9223372036854775807) then ((LIM F.q1x [(.rref [(.sl 2 x0)] 0),(.sl 1 x1),(.int .i64 x3)]).bind fun r17=>((oNil r17.2).bind fun _=>((oInt .i64 r17.1).bind fun n18=>(L0 (q1q.st0 x0 x1 (x2++s16) n18 (IntKind.wrap .i64 (x4+(1:Int))) x5 x6))))) else none))))) else (bif decide (x2.size+(ByteArray.mk #[41]).size≤9223372036854775807) then some ((.str (x2++(ByteArray.mk #[41]))),[]) else none)):=by kernel_rfl
theorem q1q.ev (n:Nat) (a0_0 a1:List T) (a2:Int):callK prog A H LIM n F.q1q [(.rref [(.sl 2 a0_0)] 0),(.sl 1 a1),(.int .i64 a2)]=(bif inB a2 ((a1).length / 1) then ((a1[((Int.toNat a2)*1)]?).bind fun e1=>((oInt .i64 e1).bind fun n2=>(bif (decide (n2 < (0:Int))) then (bif inB a2 ((a1).length / 1) then ((a1[((Int.toNat a2)*1)]?).bind fun e3=>((oInt .i64 e3).bind fun n4=>some ((.str (List.foldl (fun r n=>ByteArray.push r (UInt8.ofNat (Int.toNat n))) ByteArray.empty [(IntKind.wrap .u8 (IntKind.wrap .i64 ((64:Int) - n4)))])),[]))) else none) else (bif inB a2 ((a1).length / 1) then ((a1[((Int.toNat a2)*1)]?).bind fun e5=>((oInt .i64 e5).bind fun n6=>(bif inB n6 ((a0_0).length / 2) then ((a0_0[((Int.toNat n6)*2)]?).bind fun e7=>((oStr e7).bind fun s8=>((a0_0[(((Int.toNat n6)*2)+1)]?).bind fun e9=>((oInt .i64 e9).bind fun n10=>(bif ((n10 == (0:Int))) then some ((.str s8),[]) else (bif decide (s8.size+(ByteArray.mk #[40]).size≤9223372036854775807) then (q1q.at0 n n (q1q.st0 a0_0 a1 (s8++(ByteArray.mk #[40])) (IntKind.wrap .i64 (a2+(1:Int))) (0:Int) s8 n10)) else none)))))) else none))) else none)))) else none):=by kernel_rfl
def q0x.st0 (x0:List T) (x1:Int) (x2:List T) (x3:Int) (x4:List T):St:=⟨[(0,(.one (.ptr 1000000 0))),(1,(.one (.t (.rref [(.sl 2 x0)] 0)))),(5,(.one (.obj 960))),(6,oi x1)],[(1000000,(.box [(.kept 0 (.sl 1 x2)),(.t (.int .i64 x3))])),(960,(.arr true true 2 x4))]⟩
noncomputable def q0x.K0 (n:Nat):Ex→St→R:=kx F.q0x n [.block 0,.seq 0 (cx F.q0x [1,1,0,1,0,1,1]),.seq 0 (cx F.q0x [1,1,1])] (endOf prog A F.q0x)
noncomputable def q0x.at0 (n:Nat) (m:Nat) (s:St):R:=lx F.q0x n 0 [1,1,0,1,0,1,0,1,0,0] (q0x.K0 n) m s
noncomputable def q0x.rd0 (n:Nat) (L0:St→R) (s:St):R:=rx F.q0x n 0 [1,1,0,1,0,1,0,1,0,0] (q0x.K0 n) L0 s
theorem q0x.next0 (n:Nat) (m:Nat) (s:St):q0x.at0 n (m+1) s=q0x.rd0 n (q0x.at0 n m) s:=nx _ _ _ _ _ _ _
theorem q0x.round0 (n:Nat) (L0:St→R) (x0:List T) (x1:Int) (x2:List T) (x3:Int) (x4:List T):q0x.rd0 n L0 (q0x.st0 x0 x1 x2 x3 x4)=(bif (decide (x1 > (0:Int))) then ((LIM F.q4n [(.rref [(.sl 1 x2),(.int .i64 x3)] 0),(.rref [(.sl 2 x0)] 0)]).bind fun r19=>((oCons r19.2).bind fun p20=>((oNil p20.2).bind fun _=>((oAgg p20.1).bind fun c21=>((oCons c21).bind fun p22=>((oSl 1 p22.1).bind fun c23=>((oCons p22.2).bind fun p24=>((oInt .i64 p24.1).bind fun n25=>((oNil p24.2).bind fun _=>((oAgg r19.1).bind fun c26=>((oCons c26).bind fun p27=>((oSl 1 p27.1).bind fun c28=>((oCons p27.2).bind fun p29=>((oSl 1 p29.1).bind fun c30=>((oNil p29.2).bind fun _=>(bif Nat.ble (((x4).length+2)*48) (140737488355328*2) then (L0 (q0x.st0 x0 (IntKind.wrap .i64 (x1 - (1:Int))) x2 n25 (x4++[(.sl 1 c28),(.sl 1 c30)]:List T))) else none)))))))))))))))) else some ((.sl 2 x4),[(.agg [(.sl 1 x2),(.int .i64 x3)])])):=by kernel_rfl
theorem q0x.ev (n:Nat) (a0_0:List T) (a0_1:Int) (a1_0:List T):callK prog A H LIM n F.q0x [(.rref [(.sl 1 a0_0),(.int .i64 a0_1)] 0),(.rref [(.sl 2 a1_0)] 0)]=((LIM F.q00 [(.agg [(.sl 2 a1_0)])]).bind fun r1=>((oNil r1.2).bind fun _=>((oInt .i64 r1.1).bind fun n2=>(bif ((n2 != (0:Int))) then some ((.sl 2 []),[(.agg [(.sl 1 a0_0),(.int .i64 a0_1)])]) else ((LIM F.q2u [(.rref [(.sl 1 a0_0),(.int .i64 a0_1)] 0),(.int .i64 (20:Int))]).bind fun r3=>((oCons r3.2).bind fun p4=>((oNil p4.2).bind fun _=>((oAgg p4.1).bind fun c5=>((oCons c5).bind fun p6=>((oSl 1 p6.1).bind fun c7=>((oCons p6.2).bind fun p8=>((oInt .i64 p8.1).bind fun n9=>((oNil p8.2).bind fun _=>((oBool r3.1).bind fun b10=>(bif b10 then ((LIM F.q32 [(.rref [(.sl 1 a0_0),(.int .i64 n9)] 0),(.sl 1 [(.int .i64 (12:Int)),(.int .i64 (13:Int))])]).bind fun r11=>((oCons r11.2).bind fun p12=>((oNil p12.2).bind fun _=>((oAgg p12.1).bind fun c13=>((oCons c13).bind fun p14=>((oSl 1 p14.1).bind fun c15=>((oCons p14.2).bind fun p16=>((oInt .i64 p16.1).bind fun n17=>((oNil p16.2).bind fun _=>((oInt .i64 r11.1).bind fun n18=>(q0x.at0 n n (q0x.st0 a1_0 n18 a0_0 n17 [])))))))))))) else ((LIM F.q0v [(.rref [(.sl 1 a0_0),(.int .i64 n9)] 0),(.rref [(.sl 2 a1_0)] 0),(.int .i64 (4:Int))]).bind fun r31=>((oCons r31.2).bind fun p32=>((oNil p32.2).bind fun _=>((oAgg p32.1).bind fun c33=>((oCons c33).bind fun p34=>((oSl 1 p34.1).bind fun c35=>((oCons p34.2).bind fun p36=>((oInt .i64 p36.1).bind fun n37=>((oNil p36.2).bind fun _=>((oSl 2 r31.1).bind fun c38=>((LIM F.q2u [(.rref [(.sl 1 a0_0),(.int .i64 n37)] 0),(.int .i64 (7:Int))]).bind fun r39=>((oCons r39.2).bind fun p40=>((oNil p40.2).bind fun _=>((oAgg p40.1).bind fun c41=>((oCons c41).bind fun p42=>((oSl 1 p42.1).bind fun c43=>((oCons p42.2).bind fun p44=>((oInt .i64 p44.1).bind fun n45=>((oNil p44.2).bind fun _=>((oBool r39.1).bind fun b46=>(bif b46 then ((LIM F.q3h [(.rref [(.sl 1 a0_0),(.int .i64 n45)] 0),(.rref [(.sl 2 a1_0)] 0)]).bind fun r47=>((oCons r47.2).bind fun p48=>((oNil p48.2).bind fun _=>((oAgg p48.1).bind fun c49=>((oCons c49).bind fun p50=>((oSl 1 p50.1).bind fun c51=>((oCons p50.2).bind fun p52=>((oInt .i64 p52.1).bind fun n53=>((oNil p52.2).bind fun _=>((oAgg r47.1).bind fun c54=>((oCons c54).bind fun p55=>((oSl 1 p55.1).bind fun c56=>((oCons p55.2).bind fun p57=>((oSl 1 p57.1).bind fun c58=>((oNil p57.2).bind fun _=>(bif Nat.ble (((c38).length+2)*48) (140737488355328*2) then some ((.sl 2 (c38++[(.sl 1 c56),(.sl 1 c58)]:List T)),[(.agg [(.sl 1 a0_0),(.int .i64 n53)])]) else none)))))))))))))))) else some ((.sl 2 c38),[(.agg [(.sl 1 a0_0),(.int .i64 n45)])]))))))))))))))))))))))))))))))))))))):=by kernel_rfl
def q0v.st0 (x0:List T) (x1:Int) (x2:List T) (x3:Int) (x4:List T):St:=⟨[(0,(.one (.ptr 1000000 0))),(1,(.one (.t (.rref [(.sl 2 x0)] 0)))),(7,(.one (.obj 576))),(8,oi x1)],[(1000000,(.box [(.kept 0 (.sl 1 x2)),(.t (.int .i64 x3))])),(576,(.arr true true 2 x4))]⟩
noncomputable def q0v.K0 (n:Nat):Ex→St→R:=kx F.q0v n [.block 0,.seq 0 (cx F.q0v [1,1,1])] (endOf prog A F.q0v)
noncomputable def q0v.at0 (n:Nat) (m:Nat) (s:St):R:=lx F.q0v n 0 [1,1,0,1,0,0] (q0v.K0 n) m s
noncomputable def q0v.rd0 (n:Nat) (L0:St→R) (s:St):R:=rx F.q0v n 0 [1,1,0,1,0,0] (q0v.K0 n) L0 s
theorem q0v.next0 (n:Nat) (m:Nat) (s:St):q0v.at0 n (m+1) s=q0v.rd0 n (q0v.at0 n m) s:=nx _ _ _ _ _ _ _
theorem q0v.round0 (n:Nat) (L0:St→R) (x0:List T) (x1:Int) (x2:List T) (x3:Int) (x4:List T):q0v.rd0 n L0 (q0v.st0 x0 x1 x2 x3 x4)=(bif (decide (x1 > (0:Int))) then ((LIM F.q4n [(.rref [(.sl 1 x2),(.int .i64 x3)] 0),(.rref [(.sl 2 x0)] 0)]).bind fun r9=>((oCons r9.2).bind fun p10=>((oNil p10.2).bind fun _=>((oAgg p10.1).bind fun c11=>((oCons c11).bind fun p12=>((oSl 1 p12.1).bind fun c13=>((oCons p12.2).bind fun p14=>((oInt .i64 p14.1).bind fun n15=>((oNil p14.2).bind fun _=>((oAgg r9.1).bind fun c16=>((oCons c16).bind fun p17=>((oSl 1 p17.1).bind fun c18=>((oCons p17.2).bind fun p19=>((oSl 1 p19.1).bind fun c20=>((oNil p19.2).bind fun _=>(bif Nat.ble (((x4).length+2)*48) (140737488355328*2) then (L0 (q0v.st0 x0 (IntKind.wrap .i64 (x1 - (1:Int))) x2 n15 (x4++[(.sl 1 c18),(.sl 1 c20)]:List T))) else none)))))))))))))))) else some ((.sl 2 x4),[(.agg [(.sl 1 x2),(.int .i64 x3)])])):=by kernel_rfl
theorem q0v.ev (n:Nat) (a0_0:List T) (a0_1:Int) (a1_0:List T) (a2:Int):callK prog A H LIM n F.q0v [(.rref [(.sl 1 a0_0),(.int .i64 a0_1)] 0),(.rref [(.sl 2 a1_0)] 0),(.int .i64 a2)]=((LIM F.q16 [(.rref [(.sl 1 a0_0),(.int .i64 a0_1)] 0),(.int .i64 (IntKind.wrap .i64 (a2+(1:Int))))]).bind fun r1=>((oCons r1.2).bind fun p2=>((oNil p2.2).bind fun _=>((oAgg p2.1).bind fun c3=>((oCons c3).bind fun p4=>((oSl 1 p4.1).bind fun c5=>((oCons p4.2).bind fun p6=>((oInt .i64 p6.1).bind fun n7=>((oNil p6.2).bind fun _=>((oInt .i64 r1.1).bind fun n8=>(q0v.at0 n n (q0v.st0 a1_0 n8 a0_0 n7 [])))))))))))):=by kernel_rfl
def q1g.st0 (x0 x1:List T) (x2:Int):St:=⟨[(0,(.one (.t (.rref [(.sl 2 x0)] 0)))),(1,ol 2 x1),(5,oi x2)],[]⟩
noncomputable def q1g.K0 (n:Nat):Ex→St→R:=kx F.q1g n [.block 0,.seq 0 (cx F.q1g [1,1,1])] (endOf prog A F.q1g)
noncomputable def q1g.at0 (n:Nat) (m:Nat) (s:St):R:=lx F.q1g n 0 [1,1,0,1,0,0] (q1g.K0 n) m s
noncomputable def q1g.rd0 (n:Nat) (L0:St→R) (s:St):R:=rx F.q1g n 0 [1,1,0,1,0,0] (q1g.K0 n) L0 s
theorem q1g.next0 (n:Nat) (m:Nat) (s:St):q1g.at0 n (m+1) s=q1g.rd0 n (q1g.at0 n m) s:=nx _ _ _ _ _ _ _
theorem q1g.round0 (n:Nat) (L0:St→R) (x0 x1:List T) (x2:Int):q1g.rd0 n L0 (q1g.st0 x0 x1 x2)=(bif (decide (x2 < ((((x1).length / 2):Nat):Int))) then (bif inB x2 ((x1).length / 2) then ((LIM F.q43 [(.rref [(.sl 2 x0)] 0),(.rref ((x1.drop ((Int.toNat x2)*2)).take 2) 0)]).bind fun r1=>((oNil r1.2).bind fun _=>((oInt .i64 r1.1).bind fun n2=>(bif ((n2 != (0:Int))) then some ((.int .i64 n2),[]) else (L0 (q1g.st0 x0 x1 (IntKind.wrap .i64 (x2+(1:Int))))))))) else none) else some ((.int .i64 (0:Int)),[])):=by kernel_rfl
theorem q1g.ev (n:Nat) (a0_0 a1:List T):callK prog A H LIM n F.q1g [(.rref [(.sl 2 a0_0)] 0),(.sl 2 a1)]=(bif (decide (((((a1).length / 2):Nat):Int) > (12:Int))) then some ((.int .i64 (2:Int)),[]) else (q1g.at0 n n (q1g.st0 a0_0 a1 (0:Int)))):=by kernel_rfl
def q0w.st0 (x0 x1 x2:List T) (x3:Int) (x4:List T):St:=⟨[(0,(.one (.t (.rref [(.sl 1 x0),(.sl 1 x1)] 0)))),(1,ol 1 x2),(5,(.one (.obj 512))),(6,oi x3)],[(512,(.arr true true 1 x4))]⟩
noncomputable def q0w.K0 (n:Nat):Ex→St→R:=kx F.q0w n [.block 0,.seq 0 (cx F.q0w [1,1,1])] (endOf prog A F.q0w)
noncomputable def q0w.at0 (n:Nat) (m:Nat) (s:St):R:=lx F.q0w n 0 [1,1,0,1,0,0] (q0w.K0 n) m s
noncomputable def q0w.rd0 (n:Nat) (L0:St→R) (s:St):R:=rx F.q0w n 0 [1,1,0,1,0,0] (q0w.K0 n) L0 s
theorem q0w.next0 (n:Nat) (m:Nat) (s:St):q0w.at0 n (m+1) s=q0w.rd0 n (q0w.at0 n m) s:=nx _ _ _ _ _ _ _
theorem q0w.round0 (n:Nat) (L0:St→R) (x0 x1 x2:List T) (x3:Int) (x4:List T):q0w.rd0 n L0 (q0w.st0 x0 x1 x2 x3 x4)=(bif (decide (x3 < ((((x2).length / 1):Nat):Int))) then (bif inB x3 ((x2).length / 1) then ((x2[((Int.toNat x3)*1)]?).bind fun e1=>((oInt .i64 e1).bind fun n2=>(bif (decide (n2 < (0:Int))) then (bif inB x3 ((x2).length / 1) then ((x2[((Int.toNat x3)*1)]?).bind fun e3=>((oInt .i64 e3).bind fun n4=>((LIM F.q1u [(.rref [(.sl 1 x0),(.sl 1 x1)] 0),(.int .i64 (IntKind.wrap .i64 ((-1:Int) - n4)))]).bind fun r5=>((oNil r5.2).bind fun _=>((oSl 1 r5.1).bind fun c6=>(bif (c6).all T.scalar then (bif ((((((c6).length / 1):Nat):Int) == (0:Int))) then (bif inB x3 ((x2).length / 1) then ((x2[((Int.toNat x3)*1)]?).bind fun e7=>((oInt .i64 e7).bind fun n8=>(bif Nat.ble (((x4).length+1)*8) (140737488355328*1) then (L0 (q0w.st0 x0 x1 x2 (IntKind.wrap .i64 (x3+(1:Int))) (x4++[(.int .i64 n8)]:List T))) else none))) else none) else (bif (c6).all T.scalar then (bif Nat.ble (((x4).length+(c6).length)*8) (140737488355328*1) then (L0 (q0w.st0 x0 x1 x2 (IntKind.wrap .i64 (x3+(1:Int))) (x4++c6:List T))) else none) else none)) else none)))))) else none) else (bif inB x3 ((x2).length / 1) then ((x2[((Int.toNat x3)*1)]?).bind fun e9=>((oInt .i64 e9).bind fun n10=>(bif Nat.ble (((x4).length+1)*8) (140737488355328*1) then (L0 (q0w.st0 x0 x1 x2 (IntKind.wrap .i64 (x3+(1:Int))) (x4++[(.int .i64 n10)]:List T))) else none))) else none)))) else none) else some ((.sl 1 x4),[])):=by kernel_rfl
theorem q0w.ev (n:Nat) (a0_0 a0_1 a1:List T):callK prog A H LIM n F.q0w [(.rref [(.sl 1 a0_0),(.sl 1 a0_1)] 0),(.sl 1 a1)]=(q0w.at0 n n (q0w.st0 a0_0 a0_1 a1 (0:Int) [])):=by kernel_rfl
def q1y.st0 (x0 x1 x2:List T) (x3 x4 x5:Int) (x6:List T):St:=⟨[(0,(.one (.t (.rref [(.sl 2 x0)] 0)))),(1,ol 1 x1),(2,ol 1 x2),(7,(.one (.obj 832))),(8,oi x3),(9,oi x4),(10,oi x5)],[(832,(.arr true true 2 x6))]⟩
noncomputable def q1y.K0 (n:Nat):Ex→St→R:=kx F.q1y n [.block 0,.seq 0 (cx F.q1y [1,1,1,1,1])] (endOf prog A F.q1y)
noncomputable def q1y.at0 (n:Nat) (m:Nat) (s:St):R:=lx F.q1y n 0 [1,1,1,1,0,1,0,0] (q1y.K0 n) m s
noncomputable def q1y.rd0 (n:Nat) (L0:St→R) (s:St):R:=rx F.q1y n 0 [1,1,1,1,0,1,0,0] (q1y.K0 n) L0 s
theorem q1y.next0 (n:Nat) (m:Nat) (s:St):q1y.at0 n (m+1) s=q1y.rd0 n (q1y.at0 n m) s:=nx _ _ _ _ _ _ _
theorem q1y.round0 (n:Nat) (L0:St→R) (x0 x1 x2:List T) (x3 x4 x5:Int) (x6:List T):q1y.rd0 n L0 (q1y.st0 x0 x1 x2 x3 x4 x5 x6)=(bif inB (0:Int) ((x1).length / 1) then ((x1[0]?).bind fun e1=>((oInt .i64 e1).bind fun n2=>(bif inB n2 ((x0).length / 2) then ((x0[(((Int.toNat n2)*2)+1)]?).bind fun e3=>((oInt .i64 e3).bind fun n4=>(bif (decide (x5 < n4)) then ((LIM F.q51 [(.rref [(.sl 2 x0)] 0),(.sl 1 x1),(.int .i64 x3)]).bind fun r5=>((oNil r5.2).bind fun _=>((oSl 1 r5.1).bind fun c6=>((LIM F.q51 [(.rref [(.sl 2 x0)] 0),(.sl 1 x2),(.int .i64 x4)]).bind fun r7=>((oNil r7.2).bind fun _=>((oSl 1 r7.1).bind fun c8=>(bif Nat.ble (((x6).length+2)*48) (140737488355328*2) then (L0 (q1y.st0 x0 x1 x2 (IntKind.wrap .i64 (x3+((((c6).length / 1):Nat):Int))) (IntKind.wrap .i64 (x4+((((c8).length / 1):Nat):Int))) (IntKind.wrap .i64 (x5+(1:Int))) (x6++[(.sl 1 c6),(.sl 1 c8)]:List T))) else none))))))) else some ((.sl 2 x6),[])))) else none))) else none):=by kernel_rfl
theorem q1y.ev (n:Nat) (a0_0 a1 a2:List T):callK prog A H LIM n F.q1y [(.rref [(.sl 2 a0_0)] 0),(.sl 1 a1),(.sl 1 a2)]=(q1y.at0 n n (q1y.st0 a0_0 a1 a2 (1:Int) (1:Int) (0:Int) [])):=by kernel_rfl
def q1j.st0 (x0 x1:List T) (x2:Int) (x3:List T) (x4:Int) (x5 x6 x7 x8:List T):St:=⟨[(0,(.one (.t (.rref [(.sl 1 x0),(.sl 1 x1)] 0)))),(1,oi x2),(2,ol 1 x3),(6,(.one (.ptr 384 0))),(8,(.one (.ptr 512 0))),(9,(.one (.ptr 576 0))),(10,oi x4)],[(384,(.box [.nil,.nil])),(1216,(.arr true true 1 x5)),(1344,(.arr true false 1 x6)),(512,(.box [(.obj 1216),(.obj 1344)])),(1728,(.arr true true 1 x7)),(576,(.box [(.obj 1728),(.obj 519217)])),(519217,(.arr true true 1 x8))]⟩
noncomputable def q1j.K0 (n:Nat):Ex→St→R:=kx F.q1j n [.block 0,.seq 0 (cx F.q1j [1,1,1,1,1])] (endOf prog A F.q1j)
noncomputable def q1j.at0 (n:Nat) (m:Nat) (s:St):R:=lx F.q1j n 0 [1,1,1,1,0,1,0,0] (q1j.K0 n) m s
noncomputable def q1j.rd0 (n:Nat) (L0:St→R) (s:St):R:=rx F.q1j n 0 [1,1,1,1,0,1,0,0] (q1j.K0 n) L0 s
theorem q1j.next0 (n:Nat) (m:Nat) (s:St):q1j.at0 n (m+1) s=q1j.rd0 n (q1j.at0 n m) s:=nx _ _ _ _ _ _ _
theorem q1j.round0 (n:Nat) (L0:St→R) (x0 x1:List T) (x2:Int) (x3:List T) (x4:Int) (x5 x6 x7 x8:List T):q1j.rd0 n L0 (q1j.st0 x0 x1 x2 x3 x4 x5 x6 x7 x8)=(bif (decide (x4 < ((((x1).length / 1):Nat):Int))) then (bif inB x4 ((x1).length / 1) then ((x1[((Int.toNat x4)*1)]?).bind fun e5=>((oSl 1 e5).bind fun c6=>((LIM F.q0w [(.rref [(.sl 1 x5),(.sl 1 x6)] 0),(.sl 1 c6)]).bind fun r7=>((oNil r7.2).bind fun _=>((oSl 1 r7.1).bind fun c8=>(bif (decide (((((c8).length / 1):Nat):Int) > (24:Int))) then some ((.tup [(.agg [(.sl 1 []),(.sl 1 [])]),(.int .i64 (2:Int))]),[]) else (bif Nat.ble (((x8).length+1)*24) (140737488355328*1) then (L0 (q1j.st0 x0 x1 x2 x3 (IntKind.wrap .i64 (x4+(1:Int))) x5 x6 x7 (x8++[(.sl 1 c8)]:List T))) else none))))))) else none) else ((LIM F.q15 [(.rref [(.sl 1 x7),(.sl 1 x8)] 0),(.int .i64 x2),(.sl 1 x3)]).bind fun r9=>((oNil r9.2).bind fun _=>((oAgg r9.1).bind fun c10=>((oCons c10).bind fun p11=>((oSl 1 p11.1).bind fun c12=>((oCons p11.2).bind fun p13=>((oSl 1 p13.1).bind fun c14=>((oNil p13.2).bind fun _=>some ((.tup [(.agg [(.sl 1 c12),(.sl 1 c14)]),(.int .i64 (0:Int))]),[])))))))))):=by kernel_rfl
theorem q1j.ev (n:Nat) (a0_0 a0_1:List T) (a1:Int) (a2:List T):callK prog A H LIM n F.q1j [(.rref [(.sl 1 a0_0),(.sl 1 a0_1)] 0),(.int .i64 a1),(.sl 1 a2)]=((LIM F.q1f [(.sl 1 a2),(.int .i64 (IntKind.wrap .i64 ((-1:Int) - a1)))]).bind fun r1=>((oNil r1.2).bind fun _=>((oInt .i64 r1.1).bind fun n2=>(bif (decide (n2 > (0:Int))) then some ((.tup [(.agg [(.sl 1 []),(.sl 1 [])]),(.int .i64 (4:Int))]),[]) else ((LIM F.q27 [(.sl 1 a0_0)]).bind fun r3=>((oNil r3.2).bind fun _=>((oSl 1 r3.1).bind fun c4=>(q1j.at0 n n (q1j.st0 a0_0 a0_1 a1 a2 (0:Int) [(.int .i64 a1)] [(.sl 1 a2)] c4 []))))))))):=by kernel_rfl
def q0z.st0 (x0 x1 x2:List T) (x3 x4:Int) (x5 x6:List T):St:=⟨[(0,(.one (.t (.rref [(.sl 2 x0)] 0)))),(1,ol 1 x1),(2,ol 1 x2),(3,oi x3),(8,(.one (.ptr 512 0))),(10,(.one (.ptr 640 0))),(11,oi x4)],[(512,(.box [.nil,.nil])),(640,(.box [(.obj 520240),(.obj 520241)])),(520240,(.arr true true 1 x5)),(520241,(.arr true true 1 x6))]⟩
noncomputable def q0z.K0 (n:Nat):Ex→St→R:=kx F.q0z n [.block 0,.seq 0 (cx F.q0z [1,1,1])] (endOf prog A F.q0z)
noncomputable def q0z.at0 (n:Nat) (m:Nat) (s:St):R:=lx F.q0z n 0 [1,1,0,1,0,0] (q0z.K0 n) m s
noncomputable def q0z.rd0 (n:Nat) (L0:St→R) (s:St):R:=rx F.q0z n 0 [1,1,0,1,0,0] (q0z.K0 n) L0 s
theorem q0z.next0 (n:Nat) (m:Nat) (s:St):q0z.at0 n (m+1) s=q0z.rd0 n (q0z.at0 n m) s:=nx _ _ _ _ _ _ _
theorem q0z.round0 (n:Nat) (L0:St→R) (x0 x1 x2:List T) (x3 x4:Int) (x5 x6:List T):q0z.rd0 n L0 (q0z.st0 x0 x1 x2 x3 x4 x5 x6)=(bif (decide (x4 < ((((x1).length / 1):Nat):Int))) then (bif (decide (x3 ≥ ((((x2).length / 1):Nat):Int))) then some ((.tup [(.agg [(.sl 1 []),(.sl 1 [])]),(.bool false)]),[]) else (bif inB x4 ((x1).length / 1) then ((x1[((Int.toNat x4)*1)]?).bind fun e1=>((oInt .i64 e1).bind fun n2=>(bif (decide (n2 ≥ (0:Int))) then (bif inB x3 ((x2).length / 1) then ((x2[((Int.toNat x3)*1)]?).bind fun e3=>((oInt .i64 e3).bind fun n4=>(bif inB x4 ((x1).length / 1) then ((x1[((Int.toNat x4)*1)]?).bind fun e5=>((oInt .i64 e5).bind fun n6=>(bif ((n4 != n6)) then some ((.tup [(.agg [(.sl 1 []),(.sl 1 [])]),(.bool false)]),[]) else (L0 (q0z.st0 x0 x1 x2 (IntKind.wrap .i64 (x3+(1:Int))) (IntKind.wrap .i64 (x4+(1:Int))) x5 x6))))) else none))) else none) else ((LIM F.q51 [(.rref [(.sl 2 x0)] 0),(.sl 1 x2),(.int .i64 x3)]).bind fun r7=>((oNil r7.2).bind fun _=>((oSl 1 r7.1).bind fun c8=>(bif inB x4 ((x1).length / 1) then ((x1[((Int.toNat x4)*1)]?).bind fun e9=>((oInt .i64 e9).bind fun n10=>((LIM F.q1u [(.rref [(.sl 1 x5),(.sl 1 x6)] 0),(.int .i64 (IntKind.wrap .i64 ((-1:Int) - n10)))]).bind fun r11=>((oNil r11.2).bind fun _=>((oSl 1 r11.1).bind fun c12=>(bif (c12).all T.scalar then (bif ((((((c12).length / 1):Nat):Int) == (0:Int))) then (bif inB x4 ((x1).length / 1) then ((x1[((Int.toNat x4)*1)]?).bind fun e13=>((oInt .i64 e13).bind fun n14=>((LIM F.q15 [(.rref [(.sl 1 x5),(.sl 1 x6)] 0),(.int .i64 (IntKind.wrap .i64 ((-1:Int) - n14))),(.sl 1 c8)]).bind fun r15=>((oNil r15.2).bind fun _=>((oAgg r15.1).bind fun c16=>((oCons c16).bind fun p17=>((oSl 1 p17.1).bind fun c18=>((oCons p17.2).bind fun p19=>((oSl 1 p19.1).bind fun c20=>((oNil p19.2).bind fun _=>(L0 (q0z.st0 x0 x1 x2 (IntKind.wrap .i64 (x3+((((c8).length / 1):Nat):Int))) (IntKind.wrap .i64 (x4+(1:Int))) c18 c20)))))))))))) else none) else ((LIM F.q1l [(.sl 1 c12),(.sl 1 c8)]).bind fun r21=>((oNil r21.2).bind fun _=>((oBool r21.1).bind fun b22=>(bif (!b22) then some ((.tup [(.agg [(.sl 1 []),(.sl 1 [])]),(.bool false)]),[]) else (L0 (q0z.st0 x0 x1 x2 (IntKind.wrap .i64 (x3+((((c8).length / 1):Nat):Int))) (IntKind.wrap .i64 (x4+(1:Int))) x5 x6))))))) else none)))))) else none))))))) else none)) else some ((.tup [(.agg [(.sl 1 x5),(.sl 1 x6)]),(.bool true)]),[])):=by kernel_rfl
theorem q0z.ev (n:Nat) (a0_0 a1 a2:List T) (a3:Int):callK prog A H LIM n F.q0z [(.rref [(.sl 2 a0_0)] 0),(.sl 1 a1),(.sl 1 a2),(.int .i64 a3)]=(q0z.at0 n n (q0z.st0 a0_0 a1 a2 a3 (0:Int) [] [])):=by kernel_rfl
def q1d.st0 (x0:List T) (x1 x2:Int) (x3:List T):St:=⟨[(0,ol 1 x0),(1,oi x1),(5,(.one (.obj 448))),(6,oi x2)],[(448,(.arr true true 1 x3))]⟩
noncomputable def q1d.K0 (n:Nat):Ex→St→R:=kx F.q1d n [.block 0,.seq 0 (cx F.q1d [1,1,1])] (endOf prog A F.q1d)
noncomputable def q1d.at0 (n:Nat) (m:Nat) (s:St):R:=lx F.q1d n 0 [1,1,0,1,0,0] (q1d.K0 n) m s
noncomputable def q1d.rd0 (n:Nat) (L0:St→R) (s:St):R:=rx F.q1d n 0 [1,1,0,1,0,0] (q1d.K0 n) L0 s
theorem q1d.next0 (n:Nat) (m:Nat) (s:St):q1d.at0 n (m+1) s=q1d.rd0 n (q1d.at0 n m) s:=nx _ _ _ _ _ _ _
theorem q1d.round0 (n:Nat) (L0:St→R) (x0:List T) (x1 x2:Int) (x3:List T):q1d.rd0 n L0 (q1d.st0 x0 x1 x2 x3)=(bif (decide (x2 < ((((x0).length / 1):Nat):Int))) then (bif inB x2 ((x0).length / 1) then ((x0[((Int.toNat x2)*1)]?).bind fun e1=>((oInt .i64 e1).bind fun n2=>(bif (decide (n2 < (0:Int))) then (bif inB x2 ((x0).length / 1) then ((x0[((Int.toNat x2)*1)]?).bind fun e3=>((oInt .i64 e3).bind fun n4=>(bif Nat.ble (((x3).length+1)*8) (140737488355328*1) then (L0 (q1d.st0 x0 x1 (IntKind.wrap .i64 (x2+(1:Int))) (x3++[(.int .i64 (IntKind.wrap .i64 (n4 - x1)))]:List T))) else none))) else none) else (bif inB x2 ((x0).length / 1) then ((x0[((Int.toNat x2)*1)]?).bind fun e5=>((oInt .i64 e5).bind fun n6=>(bif Nat.ble (((x3).length+1)*8) (140737488355328*1) then (L0 (q1d.st0 x0 x1 (IntKind.wrap .i64 (x2+(1:Int))) (x3++[(.int .i64 n6)]:List T))) else none))) else none)))) else none) else some ((.sl 1 x3),[])):=by kernel_rfl
theorem q1d.ev (n:Nat) (a0:List T) (a1:Int):callK prog A H LIM n F.q1d [(.sl 1 a0),(.int .i64 a1)]=(q1d.at0 n n (q1d.st0 a0 a1 (0:Int) [])):=by kernel_rfl
def q1u.st0 (x0 x1:List T) (x2 x3:Int):St:=⟨[(0,(.one (.t (.rref [(.sl 1 x0),(.sl 1 x1)] 0)))),(1,oi x2),(5,oi x3)],[]⟩
noncomputable def q1u.K0 (n:Nat):Ex→St→R:=kx F.q1u n [.block 0,.seq 0 (cx F.q1u [1,1])] (endOf prog A F.q1u)
noncomputable def q1u.at0 (n:Nat) (m:Nat) (s:St):R:=lx F.q1u n 0 [1,0,1,0,0] (q1u.K0 n) m s
noncomputable def q1u.rd0 (n:Nat) (L0:St→R) (s:St):R:=rx F.q1u n 0 [1,0,1,0,0] (q1u.K0 n) L0 s
theorem q1u.next0 (n:Nat) (m:Nat) (s:St):q1u.at0 n (m+1) s=q1u.rd0 n (q1u.at0 n m) s:=nx _ _ _ _ _ _ _
theorem q1u.round0 (n:Nat) (L0:St→R) (x0 x1:List T) (x2 x3:Int):q1u.rd0 n L0 (q1u.st0 x0 x1 x2 x3)=(bif (decide (x3 < ((((x0).length / 1):Nat):Int))) then (bif inB x3 ((x0).length / 1) then ((x0[((Int.toNat x3)*1)]?).bind fun e1=>((oInt .i64 e1).bind fun n2=>(bif ((n2 == x2)) then (bif inB x3 ((x1).length / 1) then ((x1[((Int.toNat x3)*1)]?).bind fun e3=>((oSl 1 e3).bind fun c4=>some ((.sl 1 c4),[]))) else none) else (L0 (q1u.st0 x0 x1 x2 (IntKind.wrap .i64 (x3+(1:Int)))))))) else none) else some ((.sl 1 []),[])):=by kernel_rfl
theorem q1u.ev (n:Nat) (a0_0 a0_1:List T) (a1:Int):callK prog A H LIM n F.q1u [(.rref [(.sl 1 a0_0),(.sl 1 a0_1)] 0),(.int .i64 a1)]=(q1u.at0 n n (q1u.st0 a0_0 a0_1 a1 (0:Int))):=by kernel_rfl
def q10.st0 (x0 x1 x2 x3:List T):St:=⟨[(0,(.one (.t (.rref [(.sl 2 x0)] 0)))),(6,(.one (.ptr 384 0))),(8,(.one (.ptr 512 0))),(9,ol 2 x1)],[(384,(.box [.nil,.nil])),(512,(.box [(.obj 518192),(.obj 518193)])),(518192,(.arr true true 1 x2)),(518193,(.arr true true 1 x3))]⟩
noncomputable def q10.K0 (n:Nat):Ex→St→R:=kx F.q10 n [.block 0,.seq 0 (cx F.q10 [1,1,1,1])] (endOf prog A F.q10)
noncomputable def q10.at0 (n:Nat) (m:Nat) (s:St):R:=lx F.q10 n 0 [1,1,1,0,0,0] (q10.K0 n) m s
noncomputable def q10.rd0 (n:Nat) (L0:St→R) (s:St):R:=rx F.q10 n 0 [1,1,1,0,0,0] (q10.K0 n) L0 s
theorem q10.next0 (n:Nat) (m:Nat) (s:St):q10.at0 n (m+1) s=q10.rd0 n (q10.at0 n m) s:=nx _ _ _ _ _ _ _
theorem q10.round0 (n:Nat) (L0:St→R) (x0 x1 x2 x3:List T):q10.rd0 n L0 (q10.st0 x0 x1 x2 x3)=(bif (decide (((((x1).length / 2):Nat):Int) > (0:Int))) then (bif inB (0:Int) ((x1).length / 2) then ((x1[0]?).bind fun e5=>((oSl 1 e5).bind fun c6=>((LIM F.q0w [(.rref [(.sl 1 x2),(.sl 1 x3)] 0),(.sl 1 c6)]).bind fun r7=>((oNil r7.2).bind fun _=>((oSl 1 r7.1).bind fun c8=>(bif inB (0:Int) ((x1).length / 2) then ((x1[1]?).bind fun e9=>((oSl 1 e9).bind fun c10=>((LIM F.q0w [(.rref [(.sl 1 x2),(.sl 1 x3)] 0),(.sl 1 c10)]).bind fun r11=>((oNil r11.2).bind fun _=>((oSl 1 r11.1).bind fun c12=>(bif decide (0≤(1:Int))&&decide ((1:Int)≤((((x1).length / 2):Nat):Int))&&decide (((((x1).length / 2):Nat):Int)≤((((x1).length / 2):Nat):Int)) then (bif (decide (((((c8).length / 1):Nat):Int) > (24:Int))) then some ((.tup [(.agg [(.sl 1 []),(.sl 1 [])]),(.int .i64 (2:Int))]),[]) else (bif (decide (((((c12).length / 1):Nat):Int) > (24:Int))) then some ((.tup [(.agg [(.sl 1 []),(.sl 1 [])]),(.int .i64 (2:Int))]),[]) else ((LIM F.q1l [(.sl 1 c8),(.sl 1 c12)]).bind fun r13=>((oNil r13.2).bind fun _=>((oBool r13.1).bind fun b14=>(bif b14 then (L0 (q10.st0 x0 ((x1.take ((Int.toNat ((((x1).length / 2):Nat):Int))*2)).drop (1*2)) x2 x3)) else (bif inB (0:Int) ((c8).length / 1) then ((c8[0]?).bind fun e15=>((oInt .i64 e15).bind fun n16=>(bif (decide (n16 < (0:Int))) then (bif inB (0:Int) ((c8).length / 1) then ((c8[0]?).bind fun e17=>((oInt .i64 e17).bind fun n18=>((LIM F.q1j [(.rref [(.sl 1 x2),(.sl 1 x3)] 0),(.int .i64 (IntKind.wrap .i64 ((-1:Int) - n18))),(.sl 1 c12)]).bind fun r19=>((oNil r19.2).bind fun _=>((oTup r19.1).bind fun c20=>((oCons c20).bind fun p21=>((oAgg p21.1).bind fun c22=>((oCons c22).bind fun p23=>((oSl 1 p23.1).bind fun c24=>((oCons p23.2).bind fun p25=>((oSl 1 p25.1).bind fun c26=>((oNil p25.2).bind fun _=>((oCons p21.2).bind fun p27=>((oInt .i64 p27.1).bind fun n28=>((oNil p27.2).bind fun _=>(bif ((n28 != (0:Int))) then some ((.tup [(.agg [(.sl 1 []),(.sl 1 [])]),(.int .i64 n28)]),[]) else (L0 (q10.st0 x0 ((x1.take ((Int.toNat ((((x1).length / 2):Nat):Int))*2)).drop (1*2)) c24 c26)))))))))))))))))) else none) else (bif inB (0:Int) ((c12).length / 1) then ((c12[0]?).bind fun e29=>((oInt .i64 e29).bind fun n30=>(bif (decide (n30 < (0:Int))) then (bif inB (0:Int) ((c12).length / 1) then ((c12[0]?).bind fun e31=>((oInt .i64 e31).bind fun n32=>((LIM F.q1j [(.rref [(.sl 1 x2),(.sl 1 x3)] 0),(.int .i64 (IntKind.wrap .i64 ((-1:Int) - n32))),(.sl 1 c8)]).bind fun r33=>((oNil r33.2).bind fun _=>((oTup r33.1).bind fun c34=>((oCons c34).bind fun p35=>((oAgg p35.1).bind fun c36=>((oCons c36).bind fun p37=>((oSl 1 p37.1).bind fun c38=>((oCons p37.2).bind fun p39=>((oSl 1 p39.1).bind fun c40=>((oNil p39.2).bind fun _=>((oCons p35.2).bind fun p41=>((oInt .i64 p41.1).bind fun n42=>((oNil p41.2).bind fun _=>(bif ((n42 != (0:Int))) then some ((.tup [(.agg [(.sl 1 []),(.sl 1 [])]),(.int .i64 n42)]),[]) else (L0 (q10.st0 x0 ((x1.take ((Int.toNat ((((x1).length / 2):Nat):Int))*2)).drop (1*2)) c38 c40)))))))))))))))))) else none) else (bif inB (0:Int) ((c8).length / 1) then ((c8[0]?).bind fun e43=>((oInt .i64 e43).bind fun n44=>(bif inB (0:Int) ((c12).length / 1) then ((c12[0]?).bind fun e45=>((oInt .i64 e45).bind fun n46=>(bif ((n44 != n46)) then some ((.tup [(.agg [(.sl 1 []),(.sl 1 [])]),(.int .i64 (4:Int))]),[]) else ((LIM F.q1y [(.rref [(.sl 2 x0)] 0),(.sl 1 c8),(.sl 1 c12)]).bind fun r47=>((oNil r47.2).bind fun _=>((oSl 2 r47.1).bind fun c48=>(bif Nat.ble (((c48).length+(((x1.take ((Int.toNat ((((x1).length / 2):Nat):Int))*2)).drop (1*2))).length)*48) (140737488355328*2) then (L0 (q10.st0 x0 (c48++((x1.take ((Int.toNat ((((x1).length / 2):Nat):Int))*2)).drop (1*2)):List T) x2 x3)) else none))))))) else none))) else none)))) else none)))) else none))))))) else none)))))) else none)))))) else none) else some ((.tup [(.agg [(.sl 1 x2),(.sl 1 x3)]),(.int .i64 (0:Int))]),[])):=by kernel_rfl
theorem q10.ev (n:Nat) (a0_0 a1 a2:List T):callK prog A H LIM n F.q10 [(.rref [(.sl 2 a0_0)] 0),(.sl 1 a1),(.sl 1 a2)]=((LIM F.q27 [(.sl 1 a1)]).bind fun r1=>((oNil r1.2).bind fun _=>((oSl 1 r1.1).bind fun c2=>((LIM F.q27 [(.sl 1 a2)]).bind fun r3=>((oNil r3.2).bind fun _=>((oSl 1 r3.1).bind fun c4=>(q10.at0 n n (q10.st0 a0_0 [(.sl 1 c2),(.sl 1 c4)] [] [])))))))):=by kernel_rfl
def q15.st0 (x0 x1:List T) (x2:Int) (x3:List T) (x4:Bool) (x5:Int) (x6 x7:List T):St:=⟨[(0,(.one (.t (.rref [(.sl 1 x0),(.sl 1 x1)] 0)))),(1,oi x2),(2,ol 1 x3),(6,(.one (.ptr 384 0))),(7,(.one (.ptr 448 0))),(8,(.one (.t (.bool x4)))),(9,oi x5)],[(384,(.box [.nil,.nil])),(448,(.box [(.obj 517168),(.obj 517169)])),(517168,(.arr true true 1 x6)),(517169,(.arr true true 1 x7))]⟩
noncomputable def q15.K0 (n:Nat):Ex→St→R:=kx F.q15 n [.block 0,.seq 0 (cx F.q15 [1,1,1,1])] (endOf prog A F.q15)
noncomputable def q15.at0 (n:Nat) (m:Nat) (s:St):R:=lx F.q15 n 0 [1,1,1,0,1,0,0] (q15.K0 n) m s
noncomputable def q15.rd0 (n:Nat) (L0:St→R) (s:St):R:=rx F.q15 n 0 [1,1,1,0,1,0,0] (q15.K0 n) L0 s
theorem q15.next0 (n:Nat) (m:Nat) (s:St):q15.at0 n (m+1) s=q15.rd0 n (q15.at0 n m) s:=nx _ _ _ _ _ _ _
theorem q15.round0 (n:Nat) (L0:St→R) (x0 x1:List T) (x2:Int) (x3:List T) (x4:Bool) (x5:Int) (x6 x7:List T):q15.rd0 n L0 (q15.st0 x0 x1 x2 x3 x4 x5 x6 x7)=(bif (decide (x5 < ((((x0).length / 1):Nat):Int))) then (bif (!x4) then (bif inB x5 ((x0).length / 1) then ((x0[((Int.toNat x5)*1)]?).bind fun e1=>((oInt .i64 e1).bind fun n2=>(bif (decide (n2 > x2)) then (bif Nat.ble (((x6).length+1)*8) (140737488355328*1) then ((LIM F.q27 [(.sl 1 x3)]).bind fun r3=>((oNil r3.2).bind fun _=>((oSl 1 r3.1).bind fun c4=>(bif Nat.ble (((x7).length+1)*24) (140737488355328*1) then (bif inB x5 ((x0).length / 1) then ((x0[((Int.toNat x5)*1)]?).bind fun e5=>((oInt .i64 e5).bind fun n6=>(bif Nat.ble ((((x6++[(.int .i64 x2)]:List T)).length+1)*8) (140737488355328*1) then (bif inB x5 ((x1).length / 1) then ((x1[((Int.toNat x5)*1)]?).bind fun e7=>((oSl 1 e7).bind fun c8=>((LIM F.q27 [(.sl 1 c8)]).bind fun r9=>((oNil r9.2).bind fun _=>((oSl 1 r9.1).bind fun c10=>(bif Nat.ble ((((x7++[(.sl 1 c4)]:List T)).length+1)*24) (140737488355328*1) then (L0 (q15.st0 x0 x1 x2 x3 true (IntKind.wrap .i64 (x5+(1:Int))) ((x6++[(.int .i64 x2)]:List T)++[(.int .i64 n6)]:List T) ((x7++[(.sl 1 c4)]:List T)++[(.sl 1 c10)]:List T))) else none)))))) else none) else none))) else none) else none)))) else none) else (bif inB x5 ((x0).length / 1) then ((x0[((Int.toNat x5)*1)]?).bind fun e11=>((oInt .i64 e11).bind fun n12=>(bif Nat.ble (((x6).length+1)*8) (140737488355328*1) then (bif inB x5 ((x1).length / 1) then ((x1[((Int.toNat x5)*1)]?).bind fun e13=>((oSl 1 e13).bind fun c14=>((LIM F.q27 [(.sl 1 c14)]).bind fun r15=>((oNil r15.2).bind fun _=>((oSl 1 r15.1).bind fun c16=>(bif Nat.ble (((x7).length+1)*24) (140737488355328*1) then (L0 (q15.st0 x0 x1 x2 x3 x4 (IntKind.wrap .i64 (x5+(1:Int))) (x6++[(.int .i64 n12)]:List T) (x7++[(.sl 1 c16)]:List T))) else none)))))) else none) else none))) else none)))) else none) else (bif inB x5 ((x0).length / 1) then ((x0[((Int.toNat x5)*1)]?).bind fun e17=>((oInt .i64 e17).bind fun n18=>(bif Nat.ble (((x6).length+1)*8) (140737488355328*1) then (bif inB x5 ((x1).length / 1) then ((x1[((Int.toNat x5)*1)]?).bind fun e19=>((oSl 1 e19).bind fun c20=>((LIM F.q27 [(.sl 1 c20)]).bind fun r21=>((oNil r21.2).bind fun _=>((oSl 1 r21.1).bind fun c22=>(bif Nat.ble (((x7).length+1)*24) (140737488355328*1) then (L0 (q15.st0 x0 x1 x2 x3 x4 (IntKind.wrap .i64 (x5+(1:Int))) (x6++[(.int .i64 n18)]:List T) (x7++[(.sl 1 c22)]:List T))) else none)))))) else none) else none))) else none)) else (bif (!x4) then (bif Nat.ble (((x6).length+1)*8) (140737488355328*1) then ((LIM F.q27 [(.sl 1 x3)]).bind fun r23=>((oNil r23.2).bind fun _=>((oSl 1 r23.1).bind fun c24=>(bif Nat.ble (((x7).length+1)*24) (140737488355328*1) then some ((.agg [(.sl 1 (x6++[(.int .i64 x2)]:List T)),(.sl 1 (x7++[(.sl 1 c24)]:List T))]),[]) else none)))) else none) else some ((.agg [(.sl 1 x6),(.sl 1 x7)]),[]))):=by kernel_rfl
theorem q15.ev (n:Nat) (a0_0 a0_1:List T) (a1:Int) (a2:List T):callK prog A H LIM n F.q15 [(.rref [(.sl 1 a0_0),(.sl 1 a0_1)] 0),(.int .i64 a1),(.sl 1 a2)]=(q15.at0 n n (q15.st0 a0_0 a0_1 a1 a2 false (0:Int) [] [])):=by kernel_rfl
end Ev
end
section
open Go
set_option linter.unusedVariables false
set_option maxRecDepth 100000
namespace Ev
theorem q6s.ev (n:Nat) (a0_0 a1 a2:List T):callK prog A H LIM n F.q6s [(.rref [(.sl 2 a0_0)] 0),(.sl 2 a1),(.sl 1 a2)]=((LIM F.q3s [(.agg [(.sl 2 a0_0)]),(.sl 2 a1)]).bind fun r1=>((oNil r1.2).bind fun _=>((oInt .i64 r1.1).bind fun n2=>(bif ((n2 != (0:Int))) then some ((.int .i64 n2),[]) else ((LIM F.q0y [(.rref [(.sl 2 a0_0)] 0),(.sl 1 a2)]).bind fun r3=>((oNil r3.2).bind fun _=>((oInt .i64 r3.1).bind fun n4=>some ((.int .i64 n4),[])))))))):=by kernel_rfl
def q0k.st2 (x0:List T) (x1 x2:Int):St:=⟨[(1,ol 2 x0),(6,oi x1),(7,oi x2)],[]⟩
def q0k.st0 (x0:List T) (x1:Int):St:=⟨[(1,ol 2 x0),(6,oi x1)],[]⟩
noncomputable def q0k.K0 (n:Nat):Ex→St→R:=kx F.q0k n [.block 0,.seq 0 (cx F.q0k [1,1,1])] (endOf prog A F.q0k)
noncomputable def q0k.at0 (n:Nat) (m:Nat) (s:St):R:=lx F.q0k n 0 [1,1,0,1,0,0] (q0k.K0 n) m s
noncomputable def q0k.rd0 (n:Nat) (L0:St→R) (s:St):R:=rx F.q0k n 0 [1,1,0,1,0,0] (q0k.K0 n) L0 s
theorem q0k.next0 (n:Nat) (m:Nat) (s:St):q0k.at0 n (m+1) s=q0k.rd0 n (q0k.at0 n m) s:=nx _ _ _ _ _ _ _
noncomputable def q0k.K2 (n:Nat) (L0:St→R):Ex→St→R:=kx F.q0k n [.block 2,.block 1,.seq 0 (cx F.q0k [1,1,0,1,0,0,1,1])] (bx F.q0k 0 (q0k.K0 n) L0)
noncomputable def q0k.at2 (n:Nat) (L0:St→R) (m:Nat) (s:St):R:=lx F.q0k n 2 [1,1,0,1,0,0,1,0,0,1,1,0,0] (q0k.K2 n L0) m s
noncomputable def q0k.rd2 (n:Nat) (L0:St→R) (L2:St→R) (s:St):R:=rx F.q0k n 2 [1,1,0,1,0,0,1,0,0,1,1,0,0] (q0k.K2 n L0) L2 s
theorem q0k.next2 (n:Nat) (L0:St→R) (m:Nat) (s:St):q0k.at2 n L0 (m+1) s=q0k.rd2 n L0 (q0k.at2 n L0 m) s:=nx _ _ _ _ _ _ _
theorem q0k.round0 (n:Nat) (L0:St→R) (x0:List T) (x1:Int):q0k.rd0 n L0 (q0k.st0 x0 x1)=(bif (decide (x1 < ((((x0).length / 2):Nat):Int))) then (bif inB x1 ((x0).length / 2) then ((x0[((Int.toNat x1)*2)]?).bind fun e3=>((oSl 1 e3).bind fun c4=>(bif inB (0:Int) ((c4).length / 1) then ((c4[0]?).bind fun e5=>((oInt .i64 e5).bind fun n6=>(bif (decide (n6 < (0:Int))) then some ((.int .i64 (1:Int)),[]) else (q0k.at2 n L0 n (q0k.st2 x0 x1 (0:Int)))))) else none))) else none) else some ((.int .i64 (0:Int)),[])):=by kernel_rfl
theorem q0k.round2 (n:Nat) (L0:St→R) (L2:St→R) (x0:List T) (x1 x2:Int):q0k.rd2 n L0 L2 (q0k.st2 x0 x1 x2)=(bif inB x1 ((x0).length / 2) then ((x0[(((Int.toNat x1)*2)+1)]?).bind fun e7=>((oSl 1 e7).bind fun c8=>(bif (decide (x2 < ((((c8).length / 1):Nat):Int))) then (bif inB x1 ((x0).length / 2) then ((x0[(((Int.toNat x1)*2)+1)]?).bind fun e9=>((oSl 1 e9).bind fun c10=>(bif inB x2 ((c10).length / 1) then ((c10[((Int.toNat x2)*1)]?).bind fun e11=>((oInt .i64 e11).bind fun n12=>(bif (decide (n12 < (0:Int))) then (bif inB x1 ((x0).length / 2) then ((x0[((Int.toNat x1)*2)]?).bind fun e13=>((oSl 1 e13).bind fun c14=>((LIM F.q1f [(.sl 1 c14),(.int .i64 n12)]).bind fun r15=>((oNil r15.2).bind fun _=>((oInt .i64 r15.1).bind fun n16=>(bif ((n16 == (0:Int))) then some ((.int .i64 (1:Int)),[]) else (L2 (q0k.st2 x0 x1 (IntKind.wrap .i64 (x2+(1:Int))))))))))) else none) else (L2 (q0k.st2 x0 x1 (IntKind.wrap .i64 (x2+(1:Int)))))))) else none))) else none) else (L0 (q0k.st0 x0 (IntKind.wrap .i64 (x1+(1:Int)))))))) else none):=by kernel_rfl
theorem q0k.ev (n:Nat) (a0_0 a1:List T):callK prog A H LIM n F.q0k [(.rref [(.sl 2 a0_0)] 0),(.sl 2 a1)]=((LIM F.q1g [(.rref [(.sl 2 a0_0)] 0),(.sl 2 a1)]).bind fun r1=>((oNil r1.2).bind fun _=>((oInt .i64 r1.1).bind fun n2=>(bif ((n2 != (0:Int))) then some ((.int .i64 n2),[]) else (q0k.at0 n n (q0k.st0 a1 (0:Int))))))):=by kernel_rfl
theorem q5j.ev (n:Nat) (a0_0 a1_0 a1_1:List T) (a2:Int) (a3:List T):callK prog A H LIM n F.q5j [(.rref [(.sl 2 a0_0)] 0),(.rref [(.sl 1 a1_0),(.sl 1 a1_1)] 0),(.int .i64 a2),(.sl 1 a3)]=((LIM F.q0z [(.rref [(.sl 2 a0_0)] 0),(.sl 1 a1_0),(.sl 1 a3),(.int .i64 a2)]).bind fun r1=>((oNil r1.2).bind fun _=>((oTup r1.1).bind fun c2=>((oCons c2).bind fun p3=>((oAgg p3.1).bind fun c4=>((oCons c4).bind fun p5=>((oSl 1 p5.1).bind fun c6=>((oCons p5.2).bind fun p7=>((oSl 1 p7.1).bind fun c8=>((oNil p7.2).bind fun _=>((oCons p3.2).bind fun p9=>((oBool p9.1).bind fun b10=>((oNil p9.2).bind fun _=>(bif (!b10) then some ((.tup [(.sl 1 []),(.int .i64 (4:Int))]),[]) else ((LIM F.q0w [(.rref [(.sl 1 c6),(.sl 1 c8)] 0),(.sl 1 a1_1)]).bind fun r11=>((oNil r11.2).bind fun _=>((oSl 1 r11.1).bind fun c12=>((LIM F.q4f [(.rref [(.sl 2 a0_0)] 0),(.sl 1 a3),(.int .i64 a2),(.sl 1 c12)]).bind fun r13=>((oNil r13.2).bind fun _=>((oSl 1 r13.1).bind fun c14=>(bif (decide (((((c14).length / 1):Nat):Int) > (24:Int))) then some ((.tup [(.sl 1 []),(.int .i64 (2:Int))]),[]) else some ((.tup [(.sl 1 c14),(.int .i64 (0:Int))]),[])))))))))))))))))))))):=by kernel_rfl
theorem q6t.ev (n:Nat) (a0_0 a1_0 a1_1 a2_0 a2_1:List T) (a3:Int):callK prog A H LIM n F.q6t [(.rref [(.sl 2 a0_0)] 0),(.rref [(.sl 1 a1_0),(.sl 1 a1_1)] 0),(.rref [(.sl 1 a2_0),(.sl 1 a2_1)] 0),(.int .i64 a3)]=((LIM F.q1d [(.sl 1 a2_0),(.int .i64 (6:Int))]).bind fun r1=>((oNil r1.2).bind fun _=>((oSl 1 r1.1).bind fun c2=>((LIM F.q1d [(.sl 1 a2_1),(.int .i64 (6:Int))]).bind fun r3=>((oNil r3.2).bind fun _=>((oSl 1 r3.1).bind fun c4=>((LIM F.q51 [(.rref [(.sl 2 a0_0)] 0),(.sl 1 a1_0),(.int .i64 a3)]).bind fun r5=>((oNil r5.2).bind fun _=>((oSl 1 r5.1).bind fun c6=>((LIM F.q10 [(.rref [(.sl 2 a0_0)] 0),(.sl 1 c6),(.sl 1 c2)]).bind fun r7=>((oNil r7.2).bind fun _=>((oTup r7.1).bind fun c8=>((oCons c8).bind fun p9=>((oAgg p9.1).bind fun c10=>((oCons c10).bind fun p11=>((oSl 1 p11.1).bind fun c12=>((oCons p11.2).bind fun p13=>((oSl 1 p13.1).bind fun c14=>((oNil p13.2).bind fun _=>((oCons p9.2).bind fun p15=>((oInt .i64 p15.1).bind fun n16=>((oNil p15.2).bind fun _=>(bif ((n16 != (0:Int))) then some ((.tup [(.agg [(.sl 1 []),(.sl 1 [])]),(.int .i64 n16)]),[]) else ((LIM F.q0w [(.rref [(.sl 1 c12),(.sl 1 c14)] 0),(.sl 1 a1_1)]).bind fun r17=>((oNil r17.2).bind fun _=>((oSl 1 r17.1).bind fun c18=>((LIM F.q4f [(.rref [(.sl 2 a0_0)] 0),(.sl 1 a1_0),(.int .i64 a3),(.sl 1 c4)]).bind fun r19=>((oNil r19.2).bind fun _=>((oSl 1 r19.1).bind fun c20=>((LIM F.q0w [(.rref [(.sl 1 c12),(.sl 1 c14)] 0),(.sl 1 c20)]).bind fun r21=>((oNil r21.2).bind fun _=>((oSl 1 r21.1).bind fun c22=>(bif (decide (((((c18).length / 1):Nat):Int) > (24:Int))) then some ((.tup [(.agg [(.sl 1 []),(.sl 1 [])]),(.int .i64 (2:Int))]),[]) else (bif (decide (((((c22).length / 1):Nat):Int) > (24:Int))) then some ((.tup [(.agg [(.sl 1 []),(.sl 1 [])]),(.int .i64 (2:Int))]),[]) else ((LIM F.q13 [(.rref [(.sl 1 c18),(.sl 1 c22)] 0)]).bind fun r23=>((oNil r23.2).bind fun _=>((oTup r23.1).bind fun c24=>((oCons c24).bind fun p25=>((oAgg p25.1).bind fun c26=>((oCons c26).bind fun p27=>((oSl 1 p27.1).bind fun c28=>((oCons p27.2).bind fun p29=>((oSl 1 p29.1).bind fun c30=>((oNil p29.2).bind fun _=>((oCons p25.2).bind fun p31=>((oBool p31.1).bind fun b32=>((oNil p31.2).bind fun _=>(bif (!b32) then some ((.tup [(.agg [(.sl 1 []),(.sl 1 [])]),(.int .i64 (2:Int))]),[]) else some ((.tup [(.agg [(.sl 1 c28),(.sl 1 c30)]),(.int .i64 (0:Int))]),[]))))))))))))))))))))))))))))))))))))))))))))))))):=by kernel_rfl
theorem q8n.ev (n:Nat) (a0_0 a1_0 a1_1 a2_0 a2_1:List T):callK prog A H LIM n F.q8n [(.rref [(.sl 2 a0_0)] 0),(.rref [(.sl 1 a1_0),(.sl 1 a1_1)] 0),(.rref [(.sl 1 a2_0),(.sl 1 a2_1)] 0)]=((LIM F.q3s [(.agg [(.sl 2 a0_0)]),(.sl 2 [(.sl 1 a1_0),(.sl 1 a1_1),(.sl 1 a2_0),(.sl 1 a2_1)])]).bind fun r1=>((oNil r1.2).bind fun _=>((oInt .i64 r1.1).bind fun n2=>some ((.int .i64 n2),[])))):=by kernel_rfl
end Ev
end
section
end
section
namespace Ev.Ty
open Go Ev
open Enc (enc)
open Sm (sm)
set_option linter.unusedVariables false
theorem q83 {g:FuncId} {args:List T} {r:T × List T} (hx:X g=none) (n:Nat) (h:callK prog A H LIM n g args=some r):LIM g args=some r:=lim_of hx n h
theorem cells_le {α:Type} [Enc α] {l:List α} {a:Nat}:(a≤(cells l).length)=(a≤l.length*Enc.sz α):=by rw [q0j]
theorem set_same {α:Type} {o:List α} {i:Nat} {x:α} (h:o[i]?=some x):o.set i x=o:=by
 refine List.ext_getElem? fun j => ?_
 rw [List.getElem?_set]
 split
 · rename_i e; subst e
   have:=(List.getElem?_eq_some_iff.1 h).1
   rw [if_pos this,h]
 · rfl
end Ev.Ty
end
section
namespace Ev.Ty
open Go Ev
end Ev.Ty
end
section
namespace Ev.Ty
open Go Ev
open Enc (enc)
open Sm (sm)
set_option linter.unusedVariables false
set_option linter.unusedSimpArgs false
end Ev.Ty
end
section
namespace Ev.Ty
open Go Ev
open Enc (enc)
open Sm (sm)
set_option linter.unusedSimpArgs false
def inR (n a b:Int):Bool:=decide (a≤n∧n≤b)
theorem q2g (n a b:Int):Call F.q2g [.int .i64 n,.int .i64 a,.int .i64 b] (.bool (inR n a b)):=by
 refine q0q rfl 0 ((q2g.ev _ _ _ _).trans ?_)
 simp only [evz,Nat.reduceLT,inR,ge_iff_le]
 by_cases h:a≤n <;> simp [h]
theorem q14 (n a b:Int):Call F.q14 [.int .i64 n,.int .i64 a,.int .i64 b] (.bool (inR n a b)):=by
 refine q0q rfl 0 ((q14.ev _ _ _ _).trans ?_)
 simp only [evz,Nat.reduceLT,inR,ge_iff_le]
 by_cases h:a≤n <;> simp [h]
def twice {β:Type} [DecidableEq β] (l:List β):Bool := !decide l.Nodup
theorem twice_iff {β:Type} [DecidableEq β] (l:List β):twice l=true↔∃ i j,j < i∧∃ (h:i < l.length) (h':j < l.length),l[i]=l[j]:=by
 unfold twice
 rw [Bool.not_eq_true',decide_eq_false_iff_not,List.Nodup,List.pairwise_iff_getElem]
 constructor
 · intro h
   simp only [Classical.not_forall] at h
   obtain ⟨i,j,h1,h2,h3,h4⟩:=h
   simp only [ne_eq,Classical.not_not] at h4
   exact ⟨j,i,h3,h2,h1,h4.symm⟩
 · rintro ⟨i,j,h1,h2,h3,h4⟩ h
   exact h j i h3 h2 h1 h4.symm
theorem twice_first {α β:Type} [DecidableEq β] (f:α→β) (l:List α):((List.range l.length).any fun k=>l[k]?.any fun x=>decide (idx (fun y=>decide (f y=f x)) l≠(k:Nat)))=twice (l.map f):=by
 rw [Bool.eq_iff_iff,twice_iff]
 simp only [List.any_eq_true,List.mem_range,List.length_map,List.getElem_map]
 constructor
 · rintro ⟨k,hk,h⟩
   rw [List.getElem?_eq_getElem hk,Option.any_some] at h
   simp only [decide_eq_true_eq] at h
   rcases q7c (fun y=>decide (f y=f l[k])) l with ⟨_,h1⟩ | ⟨i,hi,h1,h2,h3⟩
   · have:=h1 l[k] (List.getElem_mem hk)
     simp at this
   · rw [h1] at h
     simp only [decide_eq_true_eq] at h2
     rcases Nat.lt_trichotomy i k with hlt | heq | hgt
     · exact ⟨k,i,hlt,hk,hi,h2.symm⟩
     · subst heq; simp at h
     · have:=h3 k hgt
       simp at this
 · rintro ⟨i,j,hji,hi,hj,he⟩
   refine ⟨i,hi,?_⟩
   rw [List.getElem?_eq_getElem hi,Option.any_some]
   simp only [decide_eq_true_eq]
   rcases q7c (fun y=>decide (f y=f l[i])) l with ⟨h0,_⟩ | ⟨k,hk,h1,h2,h3⟩
   · rw [h0]; omega
   · rw [h1]
     intro hk'
     have:k=i:=by omega
     subst this
     have:=h3 j hji
     simp [he] at this
theorem twice_pairs {α β:Type} [DecidableEq β] (f:α→β) (l:List α):((List.range l.length).any fun i=>(List.range i).any fun j=>l[i]?.any fun x=>l[j]?.any fun y=>decide (f x=f y))=twice (l.map f):=by
 rw [Bool.eq_iff_iff,twice_iff]
 simp only [List.any_eq_true,List.mem_range,List.length_map,List.getElem_map]
 constructor
 · rintro ⟨i,hi,j,hj,h⟩
   rw [List.getElem?_eq_getElem hi,List.getElem?_eq_getElem (show j < l.length by omega)] at h
   exact ⟨i,j,hj,hi,by omega,by simpa using h⟩
 · rintro ⟨i,j,hji,hi,hj,he⟩
   refine ⟨i,hi,j,hji,?_⟩
   rw [List.getElem?_eq_getElem hi,List.getElem?_eq_getElem hj]
   simpa using he
end Ev.Ty
end
section
namespace Ev.Ty
open Go Ev
open Enc (enc)
open Sm (sm)
set_option linter.unusedSimpArgs false
set_option linter.unusedVariables false
def q8b (b:UInt8):Bool:=decide (97≤b.toNat∧b.toNat≤122)
def nameOk (s:ByteArray):Bool:=decide (1≤s.size∧s.size≤3)&&s.data.toList.all q8b
def q7w:ByteArray:=ByteArray.mk #[97,98,99,100,101,102,103,104,105,106,107,108,109,110,111,112,113,114,115,116,117,118,119,120,121,122]
theorem letters_has (b:UInt8):q7w.data.toList.contains b=q8b b:=by
 have h:∀ n:Fin 256,q7w.data.toList.contains (UInt8.ofNat n.val)=q8b (UInt8.ofNat n.val):=by decide +kernel
 have:=h ⟨b.toNat,b.toNat_lt⟩
 simpa using this
theorem dropWhile_nil {α:Type} (p:α→Bool):∀ l:List α,(l.dropWhile p).isEmpty=l.all p
 | []=>rfl
 | x::l=>by
   rw [List.dropWhile_cons,List.all_cons]
   cases hp:p x with
   | true=>simpa using dropWhile_nil p l
   | false=>simp
theorem trimS_empty (l:List UInt8):(Lib.trimS l q7w.data.toList).isEmpty=l.all q8b:=by
 have e:(q7w.data.toList.contains ·)=q8b:=funext letters_has
 unfold Lib.trimS Lib.trimLeftS
 rw [e,dropWhile_nil]
 unfold Lib.trimRightS
 rw [e,List.all_reverse]
 have:∀ l:List UInt8,(l.dropWhile q8b).all q8b=l.all q8b:=by
  intro l
  induction l with
  | nil=>rfl
  | cons x l ih =>
    rw [List.dropWhile_cons]
    cases hp:q8b x with
    | true=>simp [hp,ih]
    | false=>simp [hp]
 rw [this,List.all_reverse]
theorem q84 (s:ByteArray) (h:s.size≤3):Call F.q84 [.str s,.str q7w] (.str ⟨(Lib.trimS s.data.toList q7w.data.toList).toArray⟩):=by
 refine lim_ext (e:=trimE) rfl (Ev.of fun m => ?_)
 show (bif decide (s.size≤9223372036854775807)&&decide (q7w.size < 4294967281)&&q7w.data.toList.all (fun b=>decide (b.toNat < 128)) then _ else _)=_
 rw [decide_eq_true (by omega),show decide (q7w.size < 4294967281)=true by decide +kernel,show q7w.data.toList.all (fun b=>decide (b.toNat < 128))=true by decide +kernel]
 rfl
theorem q6q (s:ByteArray):Call F.q6q [.str s] (.bool (nameOk s)):=by
 refine q0q rfl 0 ((q6q.ev _ _).trans ?_)
 simp only [evz,Nat.reduceLT,ge_iff_le,nameOk]
 by_cases h1:1≤s.size
 · by_cases h2:s.size≤3
   · have h1':(1:Int)≤s.size:=by omega
     have h2':(s.size:Int)≤3:=by omega
     rw [show (ByteArray.mk #[97,98,99,100,101,102,103,104,105,106,107,108,109,110,111,112,113,114,115,116,117,118,119,120,121,122])=q7w from rfl]
     simp only [h1,h2,h1',h2',(q84 s h2).eq,evz,Nat.reduceLT,and_self,Bool.true_and]
     rw [← trimS_empty]
     congr 3
     rw [Bool.eq_iff_iff,decide_eq_true_eq,List.isEmpty_iff]
     simp
   · have h1':(1:Int)≤s.size:=by omega
     have h2':¬ (s.size:Int)≤3:=by omega
     simp only [h1,h2,h1',h2',evz,Nat.reduceLT,and_false,Bool.false_and]
 · have h1':¬ (1:Int)≤s.size:=by omega
   simp only [h1,h1',evz,Nat.reduceLT,false_and,Bool.false_and]
theorem byte_at {s:ByteArray} {k:Nat} (h:k < s.data.toList.length):s.data.getD k 0=s.data.toList[k]:=by
 simp at h
 simp [Array.getD,h]
theorem q20 (s:ByteArray):Call F.q20 [.str s] (.bool (nameOk s)):=by
 refine q0q rfl (s.size+1) ((q20.ev _ _).trans ?_)
 simp only [evz,Nat.reduceLT,gt_iff_lt,nameOk]
 by_cases h1:1≤s.size
 · by_cases h2:s.size≤3
   · have h1':¬ (s.size:Int) < 1:=by omega
     have h2':¬ (3:Int) < s.size:=by omega
     simp only [h1,h2,h1',h2',if_false,and_self,decide_true,Bool.true_and]
     have hsz:s.data.toList.length=s.size:=by rw [Array.length_toList]; rfl
     refine (q8i (l:=s.data.toList) (p:=fun b => !q8b b) (S:=fun m k=>q20.at0 (s.size+1) m (q20.st0 s (k:Nat))) (r:=some (.bool false,[])) (z:=some (.bool true,[])) (fun m k h => ?_) (fun m => ?_) (by omega)).trans ?_
     · have h':k < s.size:=by omega
       simp only [q20.next0,q20.round0,evz,Nat.reduceLT,h',byte_at h]
       rw [q0n (by omega)]
       unfold q8b
       by_cases c1:s.data.toList[k].toNat < 97
       · have c1':(s.data.toList[k].toNat:Int) < 97:=by omega
         rw [if_pos c1',if_pos (by simp only [Bool.not_eq_true',decide_eq_false_iff_not]; omega)]
       · have c1':¬ (s.data.toList[k].toNat:Int) < 97:=by omega
         rw [if_neg c1']
         by_cases c2:122 < s.data.toList[k].toNat
         · have c2':(s.data.toList[k].toNat:Int) > 122:=by omega
           rw [if_pos c2',if_pos (by simp only [Bool.not_eq_true',decide_eq_false_iff_not]; omega)]
         · have c2':¬ (s.data.toList[k].toNat:Int) > 122:=by omega
           rw [if_neg c2',if_neg (by simp only [Bool.not_eq_true',decide_eq_false_iff_not]; omega)]
     · rw [hsz]; simp only [q20.next0,q20.round0,evz,Nat.reduceLT,Nat.lt_irrefl]
     · have:s.data.toList.any (fun b => !q8b b) = !s.data.toList.all q8b:=by rw [List.not_all_eq_any_not]
       rw [this]
       cases s.data.toList.all q8b <;> rfl
   · have h1':¬ (s.size:Int) < 1:=by omega
     have h2':(3:Int) < s.size:=by omega
     simp only [h1,h2,h1',h2',evz,Nat.reduceLT,and_false,Bool.false_and]
 · have h1':(s.size:Int) < 1:=by omega
   simp only [h1,h1',evz,Nat.reduceLT,false_and,Bool.false_and]
def q6d (x:Symbol):Option Int:=if nameOk x.name=false then some 5 else if inR x.arity 0 2=false then some 3 else none
def q2f (s:Signature):Int :=
 if s.symbols.length < 1∨6 < s.symbols.length then 2
 else match s.symbols.findSome? q6d with
  | some c=>c
  | none=>if twice (s.symbols.map (·.name)) then 6 else if s.symbols.any (fun x=>decide (x.arity=0)) then 0 else 4
theorem q02 (l:List Symbol) (hs:l.length≤4294967296) (n:ByteArray):Call F.q17 [slc l,.clo F.q3g [.rref [.str n] 0]] (.int .i64 (idx (fun x=>decide (x.name=n)) l)):=by
 refine q0q rfl (l.length+1) ((q02.ev _ _ _).trans ?_)
 refine q7l (S:=fun m k=>q02.at0 (l.length+1) m (q02.st0 (cells l) n _ (k:Nat))) (fun m k h => ?_) (fun m => ?_) (Nat.lt_succ_self _)
 · have hlk:l[k]?=some l[k]:=List.getElem?_eq_getElem h
   have hc:Call F.q3g [.agg [.str l[k].name,.int .i64 l[k].arity],.rref [.str n] 0] (.bool (decide (l[k].name=n))):=by
    refine q0q rfl 0 ((q3g.ev _ _ _ _).trans ?_)
    simp only [evz,Nat.reduceLT]
   simp only [q02.next0,q02.round0,evz,Nat.reduceLT,h,hlk,q30,hc.eq]
   rw [q0n (by omega)]
   simp only [decide_eq_true_eq]
 · simp only [q02.next0,q02.round0,evz,Nat.reduceLT,Nat.lt_irrefl]
theorem q4m (l:List Symbol) (hs:l.length≤4294967296) (n:ByteArray):Call F.q4m [.agg [slc l],.str n] (.int .i64 (idx (fun x=>decide (x.name=n)) l)):=by
 refine q0q rfl 0 ((q4m.ev _ _ _).trans ?_)
 simp only [evz,Nat.reduceLT,(q02 l hs n).eq]
theorem q01 (l:List Symbol) (hs:l.length≤4294967296):Call F.q17 [slc l,.clo F.q26 []] (.int .i64 (idx (fun x=>decide (x.arity=0)) l)):=by
 refine q0q rfl (l.length+1) ((q01.ev _ _).trans ?_)
 refine q7l (S:=fun m k=>q01.at0 (l.length+1) m (q01.st0 (cells l) _ (k:Nat))) (fun m k h => ?_) (fun m => ?_) (Nat.lt_succ_self _)
 · have hlk:l[k]?=some l[k]:=List.getElem?_eq_getElem h
   have hc:Call F.q26 [.agg [.str l[k].name,.int .i64 l[k].arity]] (.bool (decide (l[k].arity=0))):=by
    refine q0q rfl 0 ((q26.ev _ _ _).trans ?_)
    simp only [evz,Nat.reduceLT]
   simp only [q01.next0,q01.round0,evz,Nat.reduceLT,h,hlk,q30,hc.eq]
   rw [q0n (by omega)]
   simp only [decide_eq_true_eq]
 · simp only [q01.next0,q01.round0,evz,Nat.reduceLT,Nat.lt_irrefl]
theorem q2k (l:List Symbol) (hs:l.length≤4294967296):Call F.q53 [slc l,.clo F.q26 []] (.bool (l.any fun x=>decide (x.arity=0))):=by
 refine q0q rfl 0 ((q2k.ev _ _).trans ?_)
 simp only [evz,Nat.reduceLT,(q01 l hs).eq,q7o]
theorem q05 (l:List Symbol) (hs:l.length≤4294967296):Call F.q05 [.agg [slc l]] (.int .i64 (q2f ⟨l⟩)):=by
 refine q0q rfl (l.length+1) ((q05.ev _ _).trans ?_)
 simp only [evz,Nat.reduceLT,q2f,gt_iff_lt]
 by_cases h1:l.length < 1
 · have h1':(l.length:Int) < 1:=by omega
   simp only [h1,h1',evz,Nat.reduceLT,true_or]
 by_cases h2:6 < l.length
 · have h1':¬ (l.length:Int) < 1:=by omega
   have h2':(6:Int) < l.length:=by omega
   simp only [h1,h1',h2,h2',evz,Nat.reduceLT,or_true]
 have h1':¬ (l.length:Int) < 1:=by omega
 have h2':¬ (6:Int) < l.length:=by omega
 simp only [h1,h1',h2,h2',if_false,or_self]
 have two:=any_loop (n:=l.length) (bad:=fun k=>l[k]?.any fun x=>decide (idx (fun y=>decide (y.name=x.name)) l≠(k:Nat)))
  (S:=fun m k=>q05.at2 (l.length+1) m (q05.st2 (cells l) l.length (k:Nat) (cells l))) (r:=some (.int .i64 6,[])) (z:=if l.any (fun x=>decide (x.arity=0)) then some (.int .i64 0,[]) else some (.int .i64 4,[]))
  (fun m k h=>by
   have hlk:l[k]?=some l[k]:=List.getElem?_eq_getElem h
   simp only [q05.next2,q05.round2,evz,Nat.reduceLT,h,hlk,q30,(q4m l hs _).eq]
   rw [q0n (by omega)]
   by_cases e:idx (fun y=>decide (y.name=l[k].name)) l=(k:Int) <;> simp [e])
  (fun m=>by
   simp only [q05.next2,q05.round2,evz,Nat.reduceLT,Nat.lt_irrefl,(q2k l hs).eq]
   cases l.any (fun x=>decide (x.arity=0)) <;> rfl) (Nat.lt_succ_self _)
 have one:=q7e (l:=l) (g:=fun x=>(q6d x).map fun c=>some (.int .i64 c,[]))
  (S:=fun m k=>q05.at0 (l.length+1) m (q05.st0 (cells l) l.length (k:Nat) (cells l)))
  (fun m k h=>by
   have hlk:l[k]?=some l[k]:=List.getElem?_eq_getElem h
   simp only [q05.next0,q05.round0,evz,Nat.reduceLT,h,hlk,q30,(q6q _).eq,(q2g _ _ _).eq]
   rw [q0n (by omega)]
   cases h5:nameOk l[k].name with
   | false=>simp [q6d,h5]
   | true=>cases h6:inR l[k].arity 0 2 <;> simp [q6d,h5,h6])
  (fun m=>by simp only [q05.next0,q05.round0,evz,Nat.reduceLT,Nat.lt_irrefl]; rfl) (Nat.lt_succ_self _)
 refine one.trans ?_
 rw [show q05.at2 (l.length+1) (l.length+1) (q05.st2 (cells l) l.length 0 (cells l))=_ from two,twice_first (fun y:Symbol=>y.name),q66]
 cases l.findSome? q6d with
 | some c=>rfl
 | none=>cases twice (l.map fun x=>x.name) <;> cases l.any (fun x=>decide (x.arity=0)) <;> rfl
theorem q00 (l:List Symbol) (hs:l.length≤4294967296):Call F.q00 [.agg [slc l]] (.int .i64 (q2f ⟨l⟩)):=by
 obtain ⟨n,hn⟩:∃ n,n=l.length+1:=⟨_,rfl⟩
 refine q0q rfl n ((q00.ev _ _).trans ?_)
 simp only [evz,Nat.reduceLT,q2f,gt_iff_lt]
 by_cases h1:l.length < 1
 · have h1':(l.length:Int) < 1:=by omega
   simp only [h1,h1',evz,Nat.reduceLT,true_or]
 by_cases h2:6 < l.length
 · have h1':¬ (l.length:Int) < 1:=by omega
   have h2':(6:Int) < l.length:=by omega
   simp only [h1,h1',h2,h2',evz,Nat.reduceLT,or_true]
 have h1':¬ (l.length:Int) < 1:=by omega
 have h2':¬ (6:Int) < l.length:=by omega
 simp only [h1,h1',h2,h2',if_false,or_self]
 have six:=q8i (l:=l) (p:=fun x=>decide (x.arity=0)) (S:=fun m k=>q00.at6 n m (q00.st6 l.length (k:Nat) (cells l))) (r:=some (.int .i64 0,[])) (z:=some (.int .i64 4,[]))
  (fun m k h=>by
   have hlk:l[k]?=some l[k]:=List.getElem?_eq_getElem h
   simp only [q00.next6,q00.round6,evz,Nat.reduceLT,h,hlk,q30]
   rw [q0n (by omega)]
   simp only [decide_eq_true_eq])
  (fun m=>by simp only [q00.next6,q00.round6,evz,Nat.reduceLT,Nat.lt_irrefl]) (show l.length < n by omega)
 have two:=any_loop (n:=l.length) (bad:=fun i=>(List.range i).any fun j=>l[i]?.any fun x=>l[j]?.any fun y=>decide (x.name=y.name))
  (S:=fun m i=>q00.at2 n m (q00.st2 l.length (i:Nat) (cells l))) (r:=some (.int .i64 6,[]))
  (fun m i h=>by
   have hlk:l[i]?=some l[i]:=List.getElem?_eq_getElem h
   simp only [q00.next2,q00.round2,evz,Nat.reduceLT,h]
   refine any_loop (n:=i) (f:=n) (bad:=fun j=>l[i]?.any fun x=>l[j]?.any fun y=>decide (x.name=y.name))
    (S:=fun m' j=>q00.at4 n (q00.at2 n m) m' (q00.st4 l.length (i:Nat) (j:Nat) (cells l))) (fun m' j hj => ?_) (fun m' => ?_) (by omega)
   · have hj':j < l.length:=by omega
     have hjk:l[j]?=some l[j]:=List.getElem?_eq_getElem hj'
     simp only [q00.next4,q00.round4,evz,Nat.reduceLT,h,hj,hj',hlk,hjk,q30]
     rw [q0n (by omega)]
     by_cases e:l[i].name=l[j].name <;> simp [e]
   · simp only [q00.next4,q00.round4,evz,Nat.reduceLT,Nat.lt_irrefl]
     rw [q0n (by omega)])
  (fun m=>by simp only [q00.next2,q00.round2,evz,Nat.reduceLT,Nat.lt_irrefl]; exact six) (show l.length < n by omega)
 have one:=q7e (l:=l) (g:=fun x=>(q6d x).map fun c=>some (.int .i64 c,[]))
  (S:=fun m k=>q00.at0 n m (q00.st0 l.length (k:Nat) (cells l)))
  (fun m k h=>by
   have hlk:l[k]?=some l[k]:=List.getElem?_eq_getElem h
   simp only [q00.next0,q00.round0,evz,Nat.reduceLT,h,hlk,q30,(q20 _).eq,(q14 _ _ _).eq]
   rw [q0n (by omega)]
   cases h5:nameOk l[k].name with
   | false=>simp [q6d,h5]
   | true=>cases h6:inR l[k].arity 0 2 <;> simp [q6d,h5,h6])
  (fun m=>by simp only [q00.next0,q00.round0,evz,Nat.reduceLT,Nat.lt_irrefl]; rfl) (show l.length < n by omega)
 refine one.trans ?_
 rw [show q00.at2 n n (q00.st2 l.length 0 (cells l))=_ from two,twice_pairs (fun y:Symbol=>y.name),q66]
 cases l.findSome? q6d with
 | some c=>rfl
 | none=>cases twice (l.map fun x=>x.name) <;> cases l.any (fun x=>decide (x.arity=0)) <;> rfl
end Ev.Ty
end
section
namespace Ev.Ty
open Go Ev
open Enc (enc)
open Sm (sm)
set_option linter.unusedSimpArgs false
set_option linter.unusedVariables false
theorem q6g {n a b:Int}:inR n a b=true↔a≤n∧n≤b:=by unfold inR; simp
structure SigOk (s:Signature):Prop where
 pos:1≤s.symbols.length
 le:s.symbols.length≤6
 name:∀ x∈s.symbols,nameOk x.name=true
 arity:∀ x∈s.symbols,0≤x.arity∧x.arity≤2
 nodup:(s.symbols.map (·.name)).Nodup
 const:∃ x∈s.symbols,x.arity=0
theorem q74 {α β:Type} {f:α→Option β}:∀ {l:List α},l.findSome? f=none↔∀ x∈l,f x=none
 | []=>by simp
 | x::l=>by
   rw [List.findSome?_cons]
   cases h:f x with
   | some b=>simp [h]
   | none=>simp [h,q74 (l:=l)]
theorem q5t (s:Signature):q2f s=0↔SigOk s:=by
 unfold q2f
 constructor
 · intro h
   split at h
   · cases h
   · rename_i h1
     split at h
     · rename_i c hc
       obtain ⟨x,hx,hf⟩:=List.exists_of_findSome?_eq_some hc
       unfold q6d at hf
       split at hf
       · cases hf; cases h
       · split at hf
         · cases hf; cases h
         · cases hf
     · rename_i hn
       rw [q74] at hn
       split at h
       · cases h
       · rename_i ht
         split at h
         · rename_i ha
           have hx:∀ x∈s.symbols,nameOk x.name=true∧inR x.arity 0 2=true:=fun x hx=>by
            have:=hn x hx
            unfold q6d at this
            split at this
            · cases this
            · split at this
              · cases this
              · rename_i h1 h2; exact ⟨by simpa using h1,by simpa using h2⟩
           refine ⟨by omega,by omega,fun x h=>(hx x h).1,fun x h=>q6g.1 (hx x h).2,?_,?_⟩
           · unfold twice at ht; simpa using ht
           · rw [List.any_eq_true] at ha
             obtain ⟨x,h1,h2⟩:=ha
             exact ⟨x,h1,by simpa using h2⟩
         · cases h
 · intro h
   rw [if_neg (by have:=h.pos; have:=h.le; omega)]
   have:s.symbols.findSome? q6d=none:=q74.2 fun x hx=>by
    unfold q6d
    rw [if_neg (by simp [h.name x hx]),if_neg (by have:=q6g.2 (h.arity x hx); simp [this])]
   rw [this]
   simp only
   rw [if_neg (by unfold twice; simpa using h.nodup),if_pos]
   rw [List.any_eq_true]
   obtain ⟨x,h1,h2⟩:=h.const
   exact ⟨x,h1,by simpa using h2⟩
end Ev.Ty
end
section
namespace Ev.Ty
open Go Ev
open Enc (enc)
open Sm (sm)
set_option linter.unusedSimpArgs false
set_option linter.unusedVariables false
def ar (l:List Symbol) (n:Int):Nat:=if n < 0 then 0 else ((l[n.toNat]?).map fun x=>x.arity.toNat).getD 0
def q5m (l:List Symbol) (n:Int):Bool:=inR n 0 (l.length - 1)||inR n (-12) (-1)
def skip (a:Int→Nat):Nat→List Int→Option (List Int)
 | 0,l=>some l
 | _+1,[]=>none
 | k+1,n::l=>skip a (k+a n) l
def q3p (l:List Symbol) (t:List Int):Int :=
 if t.length < 1∨24 < t.length then 2 else if t.any (fun n => !q5m l n) then 3 else if skip (ar l) 1 t=some [] then 0 else 1
def termFault (s:Signature) (t:List Int):Int:=if q2f s≠0 then q2f s else q3p s.symbols t
section
variable {a:Int→Nat}
@[simp] theorem q37 (l:List Int):skip a 0 l=some l:=by cases l <;> rfl
theorem q8w:∀ {l r:List Int} {k:Nat},skip a k l=some r→∃ p,l=p++r∧(0 < k→0 < p.length)
 | l,r,0,h=>by rw [q37] at h; cases h; exact ⟨[],rfl,by omega⟩
 | [],r,k+1,h=>by cases h
 | n::l,r,k+1,h=>by
   obtain ⟨p,hp,_⟩:=q8w (l:=l) (k:=k+a n) h
   exact ⟨n::p,by rw [hp]; rfl,by simp⟩
theorem q8a:∀ (l:List Int) (j k:Nat),skip a (j+k) l=(skip a j l).bind (skip a k)
 | l,0,k=>by simp
 | [],j+1,k=>by rw [Nat.add_right_comm]; rfl
 | n::l,j+1,k=>by
   rw [Nat.add_right_comm]
   show skip a (j+k+a n) l=(skip a (j+a n) l).bind (skip a k)
   rw [Nat.add_right_comm,q8a l (j+a n) k]
theorem skip_at {t r:List Int} {e k:Nat} (h:skip a k (t.drop e)=some r):r=t.drop (t.length - r.length)∧r.length≤t.length - e∧(0 < k→r.length < t.length - e):=by
 obtain ⟨p,hp,hk⟩:=q8w h
 have hl:(t.drop e).length=p.length+r.length:=by rw [hp,List.length_append]
 rw [List.length_drop] at hl
 refine ⟨?_,by omega,fun h0=>by have:=hk h0; omega⟩
 have h1:t.length - r.length=e+p.length∨t.length≤e:=by omega
 rcases h1 with h1 | h1
 · rw [h1,← List.drop_drop,hp,List.drop_left]
 · have:r.length=0:=by omega
   rw [List.eq_nil_of_length_eq_zero this]
   simp
end
theorem q50 {l:List Symbol} {n:Int}:q5m l n=true↔(0≤n∧n < l.length)∨(-12≤n∧n ≤ -1):=by
 unfold q5m
 rw [Bool.or_eq_true,q6g,q6g]
 omega
section
variable {l:List Symbol} (ok:SigOk ⟨l⟩)
include ok
theorem ar_le (n:Int):ar l n≤2:=by
 unfold ar
 split
 · omega
 · cases h:l[n.toNat]? with
   | none=>simp
   | some x =>
     have:=ok.arity x (List.mem_of_getElem? h)
     simp; omega
theorem q6o (n:Int):Call F.q6o [.agg [slc l],.int .i64 n] (.bool (q5m l n)):=by
 have hle:=ok.le
 have h1:Call F.q5e [.agg [slc l],.int .i64 n] (.bool (inR n 0 (l.length - 1))):=by
  refine q0q rfl 0 ((q5e.ev _ _ _).trans ?_)
  simp only [evz,Nat.reduceLT,q2j (x:=(l.length:Int) - 1) (by simp at hle; omega),(q2g _ _ _).eq]
 refine q0q rfl 0 ((q6o.ev _ _ _).trans ?_)
 simp only [evz,Nat.reduceLT,h1.eq,(q2g _ _ _).eq,q5m]
 cases inR n 0 (l.length - 1) <;> simp [evz,Nat.reduceLT]
theorem q6u (n:Int):Call F.q6u [.rref [slc l] 0,.int .i64 n] (.bool (q5m l n)):=by
 have hle:=ok.le
 have h1:Call F.q5h [.rref [slc l] 0,.int .i64 n] (.bool (inR n 0 (l.length - 1))):=by
  refine q0q rfl 0 ((q5h.ev _ _ _).trans ?_)
  simp only [evz,Nat.reduceLT,q2j (x:=(l.length:Int) - 1) (by simp at hle; omega),(q14 _ _ _).eq]
 refine q0q rfl 0 ((q6u.ev _ _ _).trans ?_)
 simp only [evz,Nat.reduceLT,h1.eq,(q14 _ _ _).eq,q5m]
 cases inR n 0 (l.length - 1) <;> simp [evz,Nat.reduceLT]
theorem ar_eq {n:Int} (hn:0≤n) (h:n.toNat < l.length):(l[n.toNat]).arity=(ar l n:Nat):=by
 have:=ok.arity l[n.toNat] (List.getElem_mem h)
 unfold ar
 rw [if_neg (by omega),List.getElem?_eq_getElem h]
 simp; omega
theorem q5f (n:Int) (h:q5m l n=true):Call F.q5f [.agg [slc l],.int .i64 n] (.int .i64 (ar l n:Nat)):=by
 refine q0q rfl 0 ((q5f.ev _ _ _).trans ?_)
 rw [q50] at h
 by_cases hn:n < 0
 · simp [hn,ar]
 · obtain ⟨m,rfl⟩:∃ m:Nat,n=m:=⟨n.toNat,by omega⟩
   have hm:m < l.length:=by omega
   have e:=ar_eq ok (n:=m) (by omega) (by simpa using hm)
   have hl:l[m]?=some l[m]:=List.getElem?_eq_getElem hm
   have hn':¬ ((m:Int) < 0):=by omega
   simp only [evz,Nat.reduceLT,hn',hm,hl,q30]
   simp at e
   rw [e]
def q7h (none':Int) (t:List Int) (r:Option (List Int)):Int:=match r with
 | some r=>((t.length - r.length:Nat):Int)
 | none=>none'
theorem q22 (t:List Int) (ht:∀ n∈t,q5m l n=true) (hl:t.length≤4294967296) (e:Nat) (he:e≤t.length) :
 Call F.q22 [.agg [slc l],slc t,.int .i64 e] (.int .i64 (q7h (t.length+1) t (skip (ar l) 1 (t.drop e)))):=by
 have loop:∀ m k o,k≤t.length→t.length+1 < m+k→o≤2*k+1 →
  q22.at0 (t.length+2) m (q22.st0 (cells t) (k:Nat) (o:Nat) (cells l))=some (.int .i64 (q7h (t.length+1) t (skip (ar l) o (t.drop k))),[]):=by
  intro m
  induction m with
  | zero=>intros; omega
  | succ m ih =>
    intro k o hk hm ho
    simp only [q22.next0,q22.round0,evz,Nat.reduceLT,gt_iff_lt,ge_iff_le]
    cases o with
    | zero =>
      rw [if_neg (by omega),q37]
      simp only [q7h,List.length_drop]
      congr 3; omega
    | succ o =>
      rw [if_pos (by omega)]
      by_cases h:k < t.length
      · have hk':t[k]?=some t[k]:=List.getElem?_eq_getElem h
        have hn:=ht t[k] (List.getElem_mem h)
        have h2:=ar_le ok t[k]
        rw [if_neg (by omega)]
        simp only [h,hk',evz,Nat.reduceLT,q28,(q5f ok t[k] hn).eq]
        rw [q0n (by omega),q2j (x:=((ar l t[k]:Nat):Int) - 1) (by omega),q2j (by omega)]
        rw [show ((o+1:Nat):Int)+(((ar l t[k]:Nat):Int) - 1)=((o+ar l t[k]:Nat):Int) by omega]
        rw [ih (k+1) (o+ar l t[k]) (by omega) (by omega) (by omega),List.drop_eq_getElem_cons h]
        rfl
      · obtain rfl:k=t.length:=by omega
        rw [if_pos (by omega),q2j (by omega),List.drop_of_length_le (Nat.le_refl _)]
        rfl
 refine q0q rfl (t.length+2) ((q22.ev _ _ _ _).trans ?_)
 have:=loop (t.length+2) e 1 he (by omega) (by omega)
 exact this
theorem q1x (t:List Int) (ht:∀ n∈t,q5m l n=true) (hl:t.length≤4294967296) (e:Nat) (he:e≤t.length) :
 Call F.q1x [.rref [slc l] 0,slc t,.int .i64 e] (.int .i64 (q7h (-1) t (skip (ar l) 1 (t.drop e)))):=by
 obtain ⟨d,hd⟩:∃ d,d=t.length - e:=⟨_,rfl⟩
 induction d using Nat.strongRecOn generalizing e with
 | ind d ih =>
 refine q0q rfl 4 ((q1x.ev _ _ _ _).trans ?_)
 simp only [evz,Nat.reduceLT,ge_iff_le]
 by_cases h:e < t.length
 case neg =>
  obtain rfl:e=t.length:=by omega
  rw [if_pos (by omega),List.drop_of_length_le (Nat.le_refl _)]
  rfl
 have hk':t[e]?=some t[e]:=List.getElem?_eq_getElem h
 have hn:=ht t[e] (List.getElem_mem h)
 have h2:=ar_le ok t[e]
 rw [if_neg (by omega)]
 simp only [h,hk',evz,Nat.reduceLT,q28]
 rw [List.drop_eq_getElem_cons h]
 show _=some (T.int .i64 (q7h (-1) t (skip (ar l) (0+ar l t[e]) (t.drop (e+1)))),[])
 rw [Nat.zero_add,q0n (by omega)]
 by_cases hneg:t[e] < 0
 · rw [if_pos hneg]
   have:ar l t[e]=0:=by unfold ar; rw [if_pos hneg]
   rw [this,q37]
   simp only [q7h,List.length_drop]
   congr 3; omega
 rw [if_neg hneg]
 rw [q50] at hn
 obtain ⟨y,hy⟩:∃ y:Nat,t[e]=y:=⟨t[e].toNat,by omega⟩
 have hym:y < l.length:=by omega
 have hyl:l[y]?=some l[y]:=List.getElem?_eq_getElem hym
 have hya:l[y].arity=(ar l t[e]:Nat):=by
  have:=ar_eq ok (n:=t[e]) (by omega) (by omega)
  simpa [hy] using this
 have loop:∀ m i k,e < k→k≤t.length→i≤ar l t[e]→ar l t[e] < m+i →
  q1x.at0 4 m (q1x.st0 (cells l) (cells t) e (k:Nat) (i:Nat))=some (.int .i64 (q7h (-1) t (skip (ar l) (ar l t[e] - i) (t.drop k))),[]):=by
  intro m
  induction m with
  | zero=>intros; omega
  | succ m ihm =>
    intro i k hk1 hk2 hi hm
    simp only [q1x.next0,q1x.round0,evz,Nat.reduceLT,h,hk',q28]
    simp only [hy,evz,Nat.reduceLT,hym,hyl,q30,hya]
    by_cases hia:i < ar l t[e]
    · rw [hy] at hia
      rw [if_pos hia,(ih (t.length - k) (by omega) k hk2 rfl).eq]
      simp only [evz,Nat.reduceLT]
      rw [← hy] at hia
      rw [show ar l ((y:Nat):Int) - i=1+(ar l t[e] - (i+1)) by rw [hy]; rw [hy] at hia; omega,q8a]
      cases hs:skip (ar l) 1 (t.drop k) with
      | none=>rfl
      | some r =>
        obtain ⟨hr1,hr2,hr3⟩:=skip_at hs
        have hr4:=hr3 (by omega)
        have hnn:¬ q7h (-1) t (some r) < 0:=by show ¬ ((t.length - r.length:Nat):Int) < 0; omega
        rw [if_neg hnn,q0n (by omega),show q7h (-1) t (some r)=((t.length - r.length:Nat):Int) from rfl,ihm (i+1) (t.length - r.length) (by omega) (by omega) (by omega) (by omega),← hr1]
        rfl
    · have:i=ar l t[e]:=by omega
      rw [if_neg (by rw [← hy]; exact hia),show ar l ((y:Nat):Int) - i=0 by rw [← hy]; omega,q37]
      simp only [q7h,List.length_drop]
      congr 3; omega
 have:=loop 4 0 (e+1) (by omega) (by omega) (by omega) (by omega)
 exact this
end
theorem any_nodes {l:List Symbol} {t:List Int}:(t.any fun n => !q5m l n)=false↔∀ n∈t,q5m l n=true:=by
 rw [List.any_eq_false]; simp
theorem skip_whole {a:Int→Nat} {t:List Int}:(q7h (t.length+1) t (skip a 1 t)=t.length↔skip a 1 t=some [])∧(q7h (-1) t (skip a 1 t)=t.length↔skip a 1 t=some []):=by
 cases h:skip a 1 t with
 | none=>simp [q7h]; omega
 | some r =>
   obtain ⟨p,hp,_⟩:=q8w h
   have:r.length≤t.length:=by rw [hp]; simp
   cases r with
   | nil=>simp [q7h]
   | cons x r =>
     simp only [List.length_cons] at this
     refine ⟨⟨fun h => ?_,fun h=>by cases h⟩,⟨fun h => ?_,fun h=>by cases h⟩⟩ <;> (simp only [q7h,List.length_cons] at h; omega)
theorem q2w (l:List Symbol) (ok:SigOk ⟨l⟩) (t:List Int) (hs:t.length≤4294967296) :
 Call F.q2a [slc t,.clo F.q2z [.rref [slc l] 0]] (.bool (t.any fun n => !q5m l n)):=by
 have hi:Call F.q0s [slc t,.clo F.q2z [.rref [slc l] 0]] (.int .i64 (idx (fun n => !q5m l n) t)):=by
  refine q0q rfl (t.length+1) ((q07.ev _ _ _).trans ?_)
  refine q7l (S:=fun m k=>q07.at0 (t.length+1) m (q07.st0 (cells t) _ _ (k:Nat))) (fun m k h => ?_) (fun m => ?_) (Nat.lt_succ_self _)
  · have hlk:t[k]?=some t[k]:=List.getElem?_eq_getElem h
    have hc:Call F.q2z [.int .i64 t[k],.rref [slc l] 0] (.bool (!q5m l t[k])):=by
     refine q0q rfl 0 ((q2z.ev _ _ _).trans ?_)
     simp only [evz,Nat.reduceLT,(q6o ok _).eq]
    simp only [q07.next0,q07.round0,evz,Nat.reduceLT,h,hlk,q28,hc.eq]
    rw [q0n (by omega)]
    cases q5m l t[k] <;> rfl
  · simp only [q07.next0,q07.round0,evz,Nat.reduceLT,Nat.lt_irrefl]
 refine q0q rfl 0 ((q2w.ev _ _ _).trans ?_)
 simp only [evz,Nat.reduceLT,hi.eq,q7o]
theorem q3u (l:List Symbol) (hs:l.length≤4294967296) (t:List Int) (ht:t.length≤4294967296):Call F.q3u [.agg [slc l],slc t] (.int .i64 (termFault ⟨l⟩ t)):=by
 refine q0q rfl 0 ((q3u.ev _ _ _).trans ?_)
 simp only [evz,Nat.reduceLT,(q05 l hs).eq,termFault,q3p,gt_iff_lt]
 by_cases h1:q2f ⟨l⟩=0
 case neg=>simp only [h1,evz,Nat.reduceLT,ne_eq,not_false_eq_true]
 have ok:=(q5t _).1 h1
 simp only [h1,evz,Nat.reduceLT,ne_eq,not_true_eq_false]
 by_cases h2:t.length < 1
 · have h2':(t.length:Int) < 1:=by omega
   simp only [h2,h2',evz,Nat.reduceLT,true_or]
 by_cases h3:24 < t.length
 · have h2':¬ (t.length:Int) < 1:=by omega
   have h3':(24:Int) < t.length:=by omega
   simp only [h2,h2',h3,h3',evz,Nat.reduceLT,or_true]
 have h2':¬ (t.length:Int) < 1:=by omega
 have h3':¬ (24:Int) < t.length:=by omega
 simp only [h2,h2',h3,h3',evz,Nat.reduceLT,or_self,(q2w l ok t ht).eq]
 cases h4:t.any fun n => !q5m l n with
 | true=>simp only [evz,Nat.reduceLT]
 | false =>
   have hn:=any_nodes.1 h4
   have he:=q22 ok t hn ht 0 (by omega)
   simp only [evz,Nat.reduceLT,Bool.false_eq_true,show LIM F.q22 [.agg [slc l],slc t,.int .i64 0]=_ from he,List.drop_zero]
   by_cases h5:skip (ar l) 1 t=some []
   · rw [if_pos (skip_whole.1.2 h5),if_pos h5]
   · rw [if_neg fun h=>h5 (skip_whole.1.1 h),if_neg h5]
theorem q0y (l:List Symbol) (ok:SigOk ⟨l⟩) (t:List Int) (ht:t.length≤4294967296):Call F.q0y [.rref [slc l] 0,slc t] (.int .i64 (q3p l t)):=by
 refine q0q rfl (t.length+1) ((q0y.ev _ _ _).trans ?_)
 simp only [evz,Nat.reduceLT,q3p,gt_iff_lt]
 by_cases h2:t.length < 1
 · have h2':(t.length:Int) < 1:=by omega
   simp only [h2,h2',evz,Nat.reduceLT,true_or]
 by_cases h3:24 < t.length
 · have h2':¬ (t.length:Int) < 1:=by omega
   have h3':(24:Int) < t.length:=by omega
   simp only [h2,h2',h3,h3',evz,Nat.reduceLT,or_true]
 have h2':¬ (t.length:Int) < 1:=by omega
 have h3':¬ (24:Int) < t.length:=by omega
 simp only [h2,h2',h3,h3',evz,Nat.reduceLT,or_self]
 have step:∀ m k (h:k < t.length),q0y.at0 (t.length+1) (m+1) (q0y.st0 (cells l) (cells t) (k:Nat)) =
  if (fun n => !q5m l n) t[k]=true then some (.int .i64 3,[]) else q0y.at0 (t.length+1) m (q0y.st0 (cells l) (cells t) ((k+1:Nat):Int)):=fun m k h=>by
  have hlk:t[k]?=some t[k]:=List.getElem?_eq_getElem h
  simp only [q0y.next0,q0y.round0,evz,Nat.reduceLT,h,hlk,q28,(q6u ok _).eq]
  rw [q0n (by omega)]
  by_cases hb:q5m l t[k]=true <;> simp [hb]
 cases h4:t.any fun n => !q5m l n with
 | true =>
   refine (hit_loop (p:=fun n => !q5m l n) (r:=some (.int .i64 3,[])) (S:=fun m k=>q0y.at0 (t.length+1) m (q0y.st0 (cells l) (cells t) (k:Nat))) step h4 (Nat.lt_succ_self _)).trans ?_
   simp only [evz,Nat.reduceLT]
 | false =>
   have hn:=any_nodes.1 h4
   have he:=q1x ok t hn ht 0 (by omega)
   refine (q8i (p:=fun n => !q5m l n) (r:=some (.int .i64 3,[])) (S:=fun m k=>q0y.at0 (t.length+1) m (q0y.st0 (cells l) (cells t) (k:Nat))) (z:=if skip (ar l) 1 t=some [] then some (.int .i64 0,[]) else some (.int .i64 1,[])) step (fun m => ?_) (Nat.lt_succ_self _)).trans ?_
   · simp only [q0y.next0,q0y.round0,evz,Nat.reduceLT,Nat.lt_irrefl,show LIM F.q1x [.rref [slc l] 0,slc t,.int .i64 0]=_ from he,List.drop_zero]
     by_cases h5:skip (ar l) 1 t=some []
     · rw [if_pos (skip_whole.2.2 h5),if_pos h5]
     · rw [if_neg fun h=>h5 (skip_whole.2.1 h),if_neg h5]
   · rw [h4]
     simp only [evz,Nat.reduceLT,Bool.false_eq_true]
     by_cases h5:skip (ar l) 1 t=some [] <;> simp only [h5,if_true,if_false]
end Ev.Ty
end
section
namespace Ev.Ty
open Go Ev
set_option linter.unusedSimpArgs false
set_option linter.unusedVariables false
inductive Tm where
 | v (n:Int)
 | k (n:Int)
 | u (n:Int) (x:Tm)
 | b (n:Int) (x y:Tm)
 deriving DecidableEq
namespace Tm
def flat:Tm→List Int
 | v n=>[n]
 | k n=>[n]
 | u n x=>n::x.flat
 | b n x y=>n::(x.flat++y.flat)
def head:Tm→Int
 | v n=>n
 | k n=>n
 | u n _=>n
 | b n _ _=>n
def ok (a:Int→Nat):Tm→Prop
 | v n=>n < 0
 | k n=>0≤n∧a n=0
 | u n x=>0≤n∧a n=1∧x.ok a
 | b n x y=>0≤n∧a n=2∧x.ok a∧y.ok a
theorem flat_pos (x:Tm):0 < x.flat.length:=by cases x <;> simp [flat]
theorem flat_head (x:Tm):∃ r,x.flat=x.head::r:=by cases x <;> exact ⟨_,rfl⟩
variable {a:Int→Nat}
theorem skip_flat (ha:∀ n,n < 0→a n=0):∀ (x:Tm) (r:List Int) (j:Nat),x.ok a→skip a (j+1) (x.flat++r)=skip a j r
 | v n,r,j,h=>by
   show skip a (j+a n) r=_
   rw [ha n h,Nat.add_zero]
 | k n,r,j,h=>by
   show skip a (j+a n) r=_
   rw [h.2,Nat.add_zero]
 | u n x,r,j,h=>by
   show skip a (j+a n) (x.flat++r)=_
   rw [h.2.1]; exact skip_flat ha x r j h.2.2
 | b n x y,r,j,h=>by
   show skip a (j+a n) ((x.flat++y.flat)++r)=_
   rw [h.2.1,List.append_assoc,skip_flat ha x _ (j+1) h.2.2.1,skip_flat ha y _ j h.2.2.2]
theorem parse (ha:∀ n,n < 0→a n=0) (h2:∀ n,a n≤2):∀ (m:Nat) (l r:List Int),l.length≤m→skip a 1 l=some r→∃ x:Tm,x.ok a∧l=x.flat++r
 | _,[],r,_,h=>by cases h
 | 0,n::l,r,hm,h=>by simp at hm
 | m+1,n::l,r,hm,h=>by
   have hm:l.length≤m:=by simpa using hm
   have h:skip a (0+a n) l=some r:=h
   rw [Nat.zero_add] at h
   by_cases hn:n < 0
   · rw [ha n hn,q37] at h; cases h
     exact ⟨.v n,hn,rfl⟩
   · have:=h2 n
     have h3:a n=0∨a n=1∨a n=2:=by omega
     rcases h3 with h0 | h1 | h2'
     · rw [h0,q37] at h; cases h
       exact ⟨.k n,⟨by omega,h0⟩,rfl⟩
     · rw [h1] at h
       obtain ⟨x,hx,rfl⟩:=parse ha h2 m l r hm h
       exact ⟨.u n x,⟨by omega,h1,hx⟩,rfl⟩
     · rw [h2',show 2=1+1 from rfl,q8a] at h
       cases hs:skip a 1 l with
       | none=>rw [hs] at h; cases h
       | some r1 =>
         rw [hs] at h
         have h9:skip a 1 r1=some r:=h
         obtain ⟨x,hx,rfl⟩:=parse ha h2 m l r1 hm hs
         obtain ⟨y,hy,rfl⟩:=parse ha h2 m r1 r (by simp at hm; omega) h9
         exact ⟨.b n x y,⟨by omega,h2',hx,hy⟩,by simp [flat]⟩
end Tm
theorem ar_neg (l:List Symbol) {n:Int} (h:n < 0):ar l n=0:=by unfold ar; rw [if_pos h]
structure TermOk (l:List Symbol) (t:List Int):Prop where
 pos:1≤t.length
 le:t.length≤24
 node:∀ n∈t,q5m l n=true
 skip:skip (ar l) 1 t=some []
theorem q6w (l:List Symbol) (t:List Int):q3p l t=0↔TermOk l t:=by
 unfold q3p
 constructor
 · intro h
   split at h
   · cases h
   · split at h
     · cases h
     · rename_i h1 h2
       split at h
       · rename_i h3
         exact ⟨by omega,by omega,any_nodes.1 (by simpa using h2),h3⟩
       · cases h
 · intro h
   have:=h.pos; have:=h.le
   rw [if_neg (by omega),if_neg (by rw [any_nodes.2 h.node]; simp),if_pos h.skip]
theorem TermOk.tree {l:List Symbol} {t:List Int} (ok:SigOk ⟨l⟩) (h:TermOk l t):∃ x:Tm,x.ok (ar l)∧t=x.flat:=by
 obtain ⟨x,hx,e⟩:=Tm.parse (fun n hn=>ar_neg l hn) (ar_le ok) t.length t [] (Nat.le_refl _) h.skip
 exact ⟨x,hx,by simpa using e⟩
theorem at_head {t r:List Int} {e:Nat} {x:Tm} (h:t.drop e=x.flat++r):e < t.length∧t[e]?=some x.head∧e+x.flat.length≤t.length:=by
 have hl:(t.drop e).length=x.flat.length+r.length:=by rw [h,List.length_append]
 have hp:=x.flat_pos
 rw [List.length_drop] at hl
 refine ⟨by omega,?_,by omega⟩
 have:(t.drop e)[0]?=some x.head:=by
  rw [h]; obtain ⟨r',e'⟩:=x.flat_head; rw [e']; rfl
 rwa [List.getElem?_drop,Nat.add_zero] at this
end Ev.Ty
end
section
namespace Ev.Ty
open Go Ev
open Enc (enc)
open Sm (sm)
set_option linter.unusedSimpArgs false
set_option linter.unusedVariables false
structure AlgOk (l:List Symbol) (z:Int) (tb:List (List Int)):Prop where
 sig:SigOk ⟨l⟩
 size:1≤z∧z≤3
 len:tb.length=l.length
 rows:∀ (k:Nat) (h:k < l.length) (h':k < tb.length),tb[k].length=z.toNat ^ (l[k]).arity.toNat∧∀ n∈tb[k],0≤n∧n≤z - 1
def Tm.eval (z:Int) (tb:List (List Int)) (vs:List Int):Tm→Int
 | v n=>vs.getD (-1 - n).toNat 0
 | k n=>(tb.getD n.toNat []).getD 0 0
 | u n x=>(tb.getD n.toNat []).getD (x.eval z tb vs).toNat 0
 | b n x y=>(tb.getD n.toNat []).getD (x.eval z tb vs*z+y.eval z tb vs).toNat 0
section
variable {l:List Symbol} {z:Int} {tb:List (List Int)} (al:AlgOk l z tb) {vs:List Int} (hv:vs.length=6) (hr:∀ n∈vs,0≤n∧n≤z - 1)
include al
include hv hr
end
end Ev.Ty
end
section
namespace Ev.Ty
open Go Ev
open Enc (enc)
open Sm (sm)
set_option linter.unusedSimpArgs false
set_option linter.unusedVariables false
theorem getD_of {α:Type} {v:List α} {i:Nat} {d:α} (h:i < v.length):v.getD i d=v[i]:=by simp [h]
section
variable {l:List Symbol} {z:Int} {tb:List (List Int)} (al:AlgOk l z tb) {vs:List Int} (hv:vs.length=6) (hr:∀ n∈vs,0≤n∧n≤z - 1)
include al hv hr
end
end Ev.Ty
end
section
namespace Ev.Ty
open Go Ev
open Enc (enc)
open Sm (sm)
set_option linter.unusedSimpArgs false
set_option linter.unusedVariables false
theorem q1n (l:List Int) (hl:l.length≤4294967296):Call F.q1n [slc l] (.int .i64 ((l.find? fun n=>decide (n≠0)).getD 0)):=by
 refine q0q rfl (l.length+1) ((q1n.ev _ _).trans ?_)
 have:=q7e (l:=l) (g:=fun n=>if n≠0 then some (some (.int .i64 n,[])) else none) (z:=some (.int .i64 0,[])) (S:=fun m k=>q1n.at0 (l.length+1) m (q1n.st0 0 (cells l) l.length (k:Nat)))
  (fun m k h=>by
   have hlk:l[k]?=some l[k]:=List.getElem?_eq_getElem h
   simp only [q1n.next0,q1n.round0,evz,Nat.reduceLT,h,hlk,q28]
   rw [q0n (by omega)]
   by_cases e:l[k]=0 <;> simp [e])
  (fun m=>by simp only [q1n.next0,q1n.round0,evz,Nat.reduceLT,Nat.lt_irrefl]) (Nat.lt_succ_self _)
 simp only [q4j,q38]
 refine this.trans ?_
 clear this
 induction l with
 | nil=>rfl
 | cons x l ih =>
   rw [List.findSome?_cons,List.find?_cons]
   by_cases e:x=0
   · simpa [e] using ih (by simp at hl; omega)
   · simp [e]
theorem impl_firstCode2 (a b:Int):Call F.q4u [.sl 1 [.int .i64 a,.int .i64 b]] (.int .i64 (if a=0 then b else a)):=by
 refine q0q rfl 0 ((q4u.ev _ _).trans ?_)
 have:=q1n [a,b] (by simp)
 simp only [evz,Nat.reduceLT,show LIM F.q1n [.sl 1 [.int .i64 a,.int .i64 b]]=_ from this]
 by_cases h:a=0
 · by_cases h':b=0 <;> simp [h,h']
 · simp [h]
theorem q21 (t:List Int) (hl:t.length≤4294967296):Call F.q21 [slc t] (.bool (!t.any fun n=>decide (n < -6))):=by
 refine q0q rfl (t.length+1) ((q21.ev _ _).trans ?_)
 refine (q8i (l:=t) (p:=fun n=>decide (n < -6)) (r:=some (.bool false,[])) (z:=some (.bool true,[])) (S:=fun m k=>q21.at0 (t.length+1) m (q21.st0 (cells t) (k:Nat))) (fun m k h => ?_) (fun m => ?_) (Nat.lt_succ_self _)).trans ?_
 · have hlk:t[k]?=some t[k]:=List.getElem?_eq_getElem h
   simp only [q21.next0,q21.round0,evz,Nat.reduceLT,h,hlk,q28]
   rw [q0n (by omega)]
   simp only [decide_eq_true_eq]
 · simp only [q21.next0,q21.round0,evz,Nat.reduceLT,Nat.lt_irrefl]
 · cases t.any fun n=>decide (n < -6) <;> rfl
section
variable (l:List Symbol) (z:Int) (tb:List (List Int)) (vs t:List Int) (hs:l.length≤4294967296) (ht:sm 4294967296 tb) (hl:t.length≤4294967296)
include hs ht hl
end
end Ev.Ty
end
section
namespace Ev.Ty
open Go Ev
open Enc (enc)
open Sm (sm)
set_option linter.unusedSimpArgs false
set_option linter.unusedVariables false
theorem q69:∀ l:List Int,intsT l=cells l
 | []=>rfl
 | x::l=>by rw [q6y,← q69 l]; rfl
def sorted (l:List Int):List Int:=l.mergeSort fun x y=>decide (x≤y)
theorem q64 (l:List Int) (h:l.length≤4294967296):LIM F.q64 [slc l]=some (.tup [],[slc (sorted l)]):=by
 refine lim_ext (e:=sortE) rfl (Ev.of fun m => ?_)
 show ((intsOf (cells l)).bind fun zs=>bif decide (zs.length < 4611686018427387904) then some (T.tup [],[T.sl 1 (intsT (zs.mergeSort fun x y=>decide (x≤y)))]) else none)=_
 rw [← q69,q86,Option.bind_some,decide_eq_true (by omega),cond_true,q69]
 rfl
theorem q5g (l:List Int) (h:l.length≤4294967296):Call F.q5g [slc l] (slc (Lib.compact l)):=by
 refine lim_ext (e:=compactE) rfl (Ev.of fun m => ?_)
 show ((intsOf (cells l)).bind fun zs=>bif decide (zs.length < 4611686018427387904) then some (T.sl 1 (intsT (Lib.compact zs)),[]) else none)=_
 rw [← q69,q86,Option.bind_some,decide_eq_true (by omega),cond_true,q69]
 rfl
theorem mem_compact {l:List Int} {x:Int}:x∈Lib.compact l↔x∈l:=by
 unfold Lib.compact Lib.compactUpTo
 simp only [List.mem_map,List.mem_filter,List.mem_range]
 constructor
 · rintro ⟨j,⟨hj,_⟩,rfl⟩
   rw [getElem!_pos _ j (by simpa using hj)]
   simp
 · intro h
   obtain ⟨i,hi,rfl⟩:=List.mem_iff_getElem.1 h
   have:∀ j,(hj:j < l.length)→∃ k,(k < l.length∧Lib.keeps l.toArray k=true)∧l.toArray[k]! = l[j]:=by
    intro j
    induction j with
    | zero=>intro hj; exact ⟨0,⟨hj,by simp [Lib.keeps]⟩,by simp [hj]⟩
    | succ j ih =>
      intro hj
      by_cases e:l[j+1]=l[j]
      · obtain ⟨k,hk,he⟩:=ih (by omega)
        exact ⟨k,hk,by rw [he,e]⟩
      · refine ⟨j+1,⟨hj,?_⟩,by simp [hj]⟩
        have hj':j < l.length:=by omega
        simp [Lib.keeps,hj,hj',e]
   exact this i hi
theorem compact_length (l:List Int):(Lib.compact l).length≤l.length:=compact_len l
def vars (t:List Int):List Int:=(t.filter fun n=>decide (n < 0)).map fun n => -1 - n
theorem mem_vars {t:List Int} {v:Int}:v∈vars t↔0≤v∧(-1 - v)∈t:=by
 unfold vars
 simp only [List.mem_map,List.mem_filter,decide_eq_true_eq]
 constructor
 · rintro ⟨n,⟨hn,h0⟩,rfl⟩
   exact ⟨by omega,by rw [show -1 - (-1 - n)=n by omega]; exact hn⟩
 · rintro ⟨h0,h⟩
   exact ⟨-1 - v,⟨h,by omega⟩,by omega⟩
theorem vars_length (t:List Int):(vars t).length≤t.length:=by
 unfold vars
 rw [List.length_map]; exact List.length_filter_le _ _
def q8g (l:List (List Int)):List Int:=Lib.compact (sorted (l.flatMap vars))
theorem q78 {l:List (List Int)} {v:Int}:v∈q8g l↔0≤v∧∃ t∈l,(-1 - v)∈t:=by
 unfold q8g sorted
 rw [mem_compact,List.mem_mergeSort,List.mem_flatMap]
 constructor
 · rintro ⟨t,ht,h⟩
   obtain ⟨h0,h1⟩:=mem_vars.1 h
   exact ⟨h0,t,ht,h1⟩
 · rintro ⟨h0,t,ht,h1⟩
   exact ⟨t,ht,mem_vars.2 ⟨h0,h1⟩⟩
theorem flat_vars_length:∀ l:List (List Int),(l.flatMap vars).length≤(l.map List.length).sum
 | []=>by simp
 | t::l=>by
   rw [List.flatMap_cons,List.length_append,List.map_cons,List.sum_cons]
   have:=vars_length t
   have:=flat_vars_length l
   omega
theorem varsOf_length (l:List (List Int)):(q8g l).length≤(l.map List.length).sum:=by
 unfold q8g
 refine Nat.le_trans (compact_length _) ?_
 unfold sorted
 rw [List.length_mergeSort]
 exact flat_vars_length l
theorem q0m (l:List (List Int)) (hl:l.length≤24) (ht:∀ t∈l,t.length≤4294967296∧∀ n∈t,-12≤n) (hsum:(l.map List.length).sum≤4294967296):Call F.q0m [slc l] (slc (q8g l)):=by
 obtain ⟨N,hN⟩:∃ N,N=4294967297:=⟨_,rfl⟩
 have inner:∀ (L0:St→R) (x0:List T) (x1 x2:Int) (t:List Int),(∀ n∈t,-12≤n)→∀ m k (acc:List Int),k≤t.length→t.length < m+k→acc.length+t.length≤k+4294967296→t.length≤4294967296 →
  q0m.at2 N L0 m (q0m.st2 x0 x1 x2 (cells t) t.length (k:Nat) (cells acc))=L0 (q0m.st0 x0 x1 (IntKind.wrap .i64 (x2+1)) (cells (acc++vars (t.drop k)))):=by
  intro L0 x0 x1 x2 t hn m
  induction m with
  | zero=>intros; omega
  | succ m ih =>
    intro k acc hk hm hacc htl
    by_cases h:k < t.length
    · have hlk:t[k]?=some t[k]:=List.getElem?_eq_getElem h
      simp only [q0m.next2,q0m.round2,evz,Nat.reduceLT,h,hlk,q28]
      rw [q0n (by omega),List.drop_eq_getElem_cons h]
      have hge:=hn t[k] (List.getElem_mem h)
      by_cases h0:t[k] < 0
      · have hble:Nat.ble (((cells acc).length+1)*8) (140737488355328*1)=true:=by
         rw [Nat.ble_eq,q0j,q38]; omega
        rw [q2j (by omega),q2d,hble,ih (k+1) (acc++[-1 - t[k]]) (by omega) (by omega) (by rw [List.length_append]; simp; omega) htl]
        simp only [h0,evz,Nat.reduceLT,vars,List.filter_cons,List.map_cons,List.append_assoc,List.singleton_append]
      · rw [ih (k+1) acc (by omega) (by omega) (by omega) htl]
        simp only [h0,evz,Nat.reduceLT,vars,List.filter_cons,Bool.false_eq_true]
    · obtain rfl:k=t.length:=by omega
      simp only [q0m.next2,q0m.round2,evz,Nat.reduceLT,Nat.lt_irrefl,List.drop_length,vars,List.filter_nil,List.map_nil,List.append_nil]
 have outer:∀ m k (acc:List Int),k≤l.length→l.length < m+k→acc.length+((l.drop k).map List.length).sum≤4294967296 →
  q0m.at0 N m (q0m.st0 (cells l) l.length (k:Nat) (cells acc))=some (slc (Lib.compact (sorted (acc++(l.drop k).flatMap vars))),[]):=by
  intro m
  induction m with
  | zero=>intros; omega
  | succ m ih =>
    intro k acc hk hm hacc
    by_cases h:k < l.length
    · have hlk:l[k]?=some l[k]:=List.getElem?_eq_getElem h
      obtain ⟨q1,q2⟩:=ht l[k] (List.getElem_mem h)
      rw [List.drop_eq_getElem_cons h,List.map_cons,List.sum_cons] at hacc
      simp only [q0m.next0,q0m.round0,evz,Nat.reduceLT,h,hlk,q8s]
      have hin:=inner (q0m.at0 N m) (cells l) l.length (k:Nat) l[k] q2 N 0 acc (by omega) (by omega) (by omega) q1
      rw [List.drop_zero,q0n (by omega)] at hin
      refine Eq.trans hin ?_
      have:=vars_length l[k]
      rw [ih (k+1) (acc++vars l[k]) (by omega) (by omega) (by rw [List.length_append]; omega),List.drop_eq_getElem_cons h,List.flatMap_cons,List.append_assoc]
    · obtain rfl:k=l.length:=by omega
      rw [List.drop_length] at hacc ⊢
      have hs:=q64 acc (by simpa using hacc)
      have hc:=q5g (sorted acc) (by unfold sorted; rw [List.length_mergeSort]; simpa using hacc)
      simp only [q0m.next0,q0m.round0,evz,Nat.reduceLT,Nat.lt_irrefl,List.flatMap_nil,List.append_nil]
      simp only [hs,hc.eq,evz,Nat.reduceLT]
 refine q0q rfl N ((q0m.ev _ _).trans ?_)
 have:=outer N 0 [] (by omega) (by omega) (by simpa using hsum)
 rw [List.drop_zero,List.nil_append] at this
 simp only [q4j,sz_list]
 exact this
end Ev.Ty
end
section
namespace Ev.Ty
open Go Ev
open Enc (enc)
open Sm (sm)
set_option linter.unusedSimpArgs false
set_option linter.unusedVariables false
def low6 (t:List Int):Bool := !t.any fun n=>decide (n < -6)
theorem low6_iff {t:List Int}:low6 t=true↔∀ n∈t,-6≤n:=by
 unfold low6
 rw [Bool.not_eq_true',List.any_eq_false]
 constructor
 · intro h n hn; have:=h n hn; simpa using this
 · intro h n hn; simpa using h n hn
def q25 (l:List Symbol) (e:Equation):Int :=
 if q3p l e.left≠0 then q3p l e.left else if q3p l e.right≠0 then q3p l e.right else if low6 e.left=true then (if low6 e.right=true then 0 else 3) else 3
def q49 (l:List Symbol) (es:List Equation):Int :=
 if 12 < es.length then 2 else (es.findSome? fun e=>if q25 l e≠0 then some (q25 l e) else none).getD 0
def ruleOk (e:Equation):Bool:=decide (0≤e.left.headD 0) && !e.right.any fun n=>decide (n < 0∧n∉e.left)
def q7s (l:List Symbol) (es:List Equation):Int:=if q49 l es≠0 then q49 l es else if (es.any fun e => !ruleOk e)=true then 1 else 0
def q3q (s:Signature) (es:List Equation):Int:=if q2f s≠0 then q2f s else q7s s.symbols es
structure EqOk (l:List Symbol) (e:Equation):Prop where
 left:TermOk l e.left
 right:TermOk l e.right
 lowL:∀ n∈e.left,-6≤n
 lowR:∀ n∈e.right,-6≤n
theorem eqOk_iff {l:List Symbol} {e:Equation}:q25 l e=0↔EqOk l e:=by
 unfold q25
 constructor
 · intro h
   by_cases h1:q3p l e.left=0
   · by_cases h2:q3p l e.right=0
     · by_cases h3:low6 e.left=true
       · by_cases h4:low6 e.right=true
         · exact ⟨(q6w _ _).1 h1,(q6w _ _).1 h2,low6_iff.1 h3,low6_iff.1 h4⟩
         · simp [h1,h2,h3,h4] at h
       · simp [h1,h2,h3] at h
     · simp [h1,h2] at h
   · simp [h1] at h
 · intro h
   simp [(q6w _ _).2 h.left,(q6w _ _).2 h.right,low6_iff.2 h.lowL,low6_iff.2 h.lowR]
theorem q76 {l:List Symbol} {es:List Equation}:q49 l es=0↔es.length≤12∧∀ e∈es,EqOk l e:=by
 unfold q49
 by_cases h:12 < es.length
 · rw [if_pos h]
   constructor
   · intro h; cases h
   · intro h'; omega
 · rw [if_neg h]
   have:(es.findSome? fun e=>if q25 l e≠0 then some (q25 l e) else none).getD 0=0↔∀ e∈es,q25 l e=0:=by
    cases hf:es.findSome? fun e=>if q25 l e≠0 then some (q25 l e) else none with
    | none =>
      rw [q74] at hf
      refine ⟨fun _ e he => ?_,fun _=>rfl⟩
      have:=hf e he
      by_cases h:q25 l e=0
      · exact h
      · simp [h] at this
    | some c =>
      obtain ⟨e,he,h1⟩:=List.exists_of_findSome?_eq_some hf
      by_cases h:q25 l e=0
      · simp [h] at h1
      · simp [h] at h1
        subst h1
        exact ⟨fun h'=>absurd h' h,fun h'=>absurd (h' e he) h⟩
   rw [this]
   constructor
   · intro h'; exact ⟨by omega,fun e he=>eqOk_iff.1 (h' e he)⟩
   · intro h' e he; exact eqOk_iff.2 (h'.2 e he)
theorem TermOk.ge {l:List Symbol} {t:List Int} (h:TermOk l t):∀ n∈t,-12≤n:=fun n hn=>by
 rcases q50.1 (h.node n hn) with h | h <;> omega
theorem q1e (l:List Int) (x:Int) (hl:l.length≤4294967296):Call F.q1e [slc l,.int .i64 x] (.bool (decide (x∈l))):=by
 have hi:Call F.q0b [slc l,.int .i64 x] (.int .i64 (idx (fun y=>decide (x=y)) l)):=by
  refine q0q rfl (l.length+1) ((q0b.ev _ _ _).trans ?_)
  simp only [evz,Nat.reduceLT]
  refine q7l (S:=fun m k=>q0b.at0 (l.length+1) m (q0b.st0 (cells l) x l.length (k:Nat))) (fun m k h => ?_) (fun m => ?_) (Nat.lt_succ_self _)
  · have hlk:l[k]?=some l[k]:=List.getElem?_eq_getElem h
    simp only [q0b.next0,q0b.round0,evz,Nat.reduceLT,h,hlk,q28]
    rw [q0n (by omega)]
    by_cases e:x=l[k] <;> simp [e]
  · simp only [q0b.next0,q0b.round0,evz,Nat.reduceLT,Nat.lt_irrefl]
 refine q0q rfl 0 ((q1e.ev _ _ _).trans ?_)
 simp only [evz,Nat.reduceLT,hi.eq,q7o]
 have:(l.any fun y=>decide (x=y))=decide (x∈l):=by
  rw [Bool.eq_iff_iff,List.any_eq_true,decide_eq_true_eq]
  constructor
  · rintro ⟨y,hy,h⟩; rw [decide_eq_true_eq] at h; rw [h]; exact hy
  · intro h; exact ⟨x,h,by simp⟩
 rw [this]
theorem q2n (t:List Int) (hs:t.length≤4294967296) :
 Call F.q2a [slc t,.clo F.q2c []] (.bool (t.any fun n=>decide (n ≥ 6))):=by
 have hi:Call F.q0s [slc t,.clo F.q2c []] (.int .i64 (idx (fun n=>decide (n ≥ 6)) t)):=by
  refine q0q rfl (t.length+1) ((q04.ev _ _).trans ?_)
  refine q7l (S:=fun m k=>q04.at0 (t.length+1) m (q04.st0 (cells t) _ (k:Nat))) (fun m k h => ?_) (fun m => ?_) (Nat.lt_succ_self _)
  · have hlk:t[k]?=some t[k]:=List.getElem?_eq_getElem h
    have hc:Call F.q2c [.int .i64 t[k]] (.bool (decide (t[k] ≥ 6))):=q0q rfl 0 (q2c.ev _ _)
    simp only [q04.next0,q04.round0,evz,Nat.reduceLT,h,hlk,q28,hc.eq]
    rw [q0n (by omega)]
    by_cases e:t[k] ≥ 6 <;> simp [e]
  · simp only [q04.next0,q04.round0,evz,Nat.reduceLT,Nat.lt_irrefl]
 refine q0q rfl 0 ((q2n.ev _ _).trans ?_)
 simp only [evz,Nat.reduceLT,hi.eq,q7o]
theorem q2v (l:List Symbol) (hs:l.length≤4294967296) (a b:List Int) (ha:a.length≤4294967296) (hb:b.length≤4294967296) :
 Call F.q2v [.agg [slc l],.agg [slc a,slc b]] (.int .i64 (if q2f ⟨l⟩≠0 then q2f ⟨l⟩ else q25 l ⟨a,b⟩)):=by
 refine q0q rfl 0 ((q2v.ev _ _ _ _).trans ?_)
 simp only [evz,Nat.reduceLT,(q3u l hs a ha).eq,(q3u l hs b hb).eq,(impl_firstCode2 _ _).eq,termFault,q25]
 by_cases h1:q2f ⟨l⟩=0
 case neg=>simp only [h1,evz,Nat.reduceLT,ne_eq,not_false_eq_true]
 simp only [h1,evz,Nat.reduceLT,ne_eq,not_true_eq_false]
 by_cases h2:q3p l a=0
 case neg=>simp only [h2,evz,Nat.reduceLT,not_false_eq_true]
 by_cases h3:q3p l b=0
 case neg=>simp only [h2,h3,evz,Nat.reduceLT,not_true_eq_false,not_false_eq_true]
 have ta:=(q6w l a).1 h2
 have tb:=(q6w l b).1 h3
 have hal:=ta.le
 have hbl:=tb.le
 have hv:=q0m [a,b] (by simp) (fun t ht=>by
  simp only [List.mem_cons,List.not_mem_nil,or_false] at ht
  rcases ht with rfl | rfl
  · exact ⟨ha,ta.ge⟩
  · exact ⟨hb,tb.ge⟩) (by simp; omega)
 have hvl:=varsOf_length [a,b]
 have hc:=q2n (q8g [a,b]) (by simp at hvl; omega)
 simp only [h2,h3,evz,Nat.reduceLT,not_true_eq_false,show LIM F.q0m [.sl 1 [slc a,slc b]]=_ from hv,hc.eq]
 have e1:((q8g [a,b]).any fun n=>decide (n ≥ 6)) = !(low6 a&&low6 b):=by
  rw [Bool.eq_iff_iff,List.any_eq_true,Bool.not_eq_true',Bool.eq_false_iff,ne_eq,Bool.and_eq_true,low6_iff,low6_iff]
  constructor
  · rintro ⟨v,hv,h6⟩ ⟨q1,q2⟩
    rw [decide_eq_true_eq] at h6
    obtain ⟨_,t,ht,hm⟩:=q78.1 hv
    simp only [List.mem_cons,List.not_mem_nil,or_false] at ht
    rcases ht with rfl | rfl
    · have:=q1 _ hm; omega
    · have:=q2 _ hm; omega
  · intro h
    by_cases q1:∀ n∈a,-6≤n
    · have q2:¬ ∀ n∈b,-6≤n:=fun q2=>h ⟨q1,q2⟩
      simp only [Classical.not_forall] at q2
      obtain ⟨n,hn,hlt⟩:=q2
      exact ⟨-1 - n,q78.2 ⟨by omega,b,by simp,by rw [show -1 - (-1 - n)=n by omega]; exact hn⟩,by simp; omega⟩
    · simp only [Classical.not_forall] at q1
      obtain ⟨n,hn,hlt⟩:=q1
      exact ⟨-1 - n,q78.2 ⟨by omega,a,by simp,by rw [show -1 - (-1 - n)=n by omega]; exact hn⟩,by simp; omega⟩
 rw [e1]
 cases low6 a <;> cases low6 b <;> rfl
theorem q43 (l:List Symbol) (ok:SigOk ⟨l⟩) (a b:List Int) (ha:a.length≤4294967296) (hb:b.length≤4294967296) :
 Call F.q43 [.rref [slc l] 0,.rref [slc a,slc b] 0] (.int .i64 (q25 l ⟨a,b⟩)):=by
 have la:Call F.q21 [slc a] (.bool (low6 a)):=q21 a ha
 have lb:Call F.q21 [slc b] (.bool (low6 b)):=q21 b hb
 refine q0q rfl 0 ((q43.ev _ _ _ _).trans ?_)
 simp only [evz,Nat.reduceLT,(q0y l ok a ha).eq,(q0y l ok b hb).eq,la.eq,lb.eq,q25]
 by_cases h2:q3p l a=0
 case neg=>simp only [h2,evz,Nat.reduceLT,ne_eq,not_false_eq_true]
 by_cases h3:q3p l b=0
 case neg=>simp only [h2,h3,evz,Nat.reduceLT,ne_eq,not_true_eq_false,not_false_eq_true]
 simp only [h2,h3,evz,Nat.reduceLT,ne_eq,not_true_eq_false]
 cases low6 a <;> cases low6 b <;> rfl
theorem eqs_sm {es:List Equation} {k:Nat} (he:sm 4294967296 es) (h:k < es.length):es[k].left.length≤4294967296∧es[k].right.length≤4294967296:=by
 have:=he.2 es[k] (List.getElem_mem h)
 exact ⟨this.1.1,this.2.1⟩
theorem q0i (l:List Symbol) (hs:l.length≤4294967296) (es:List Equation) (he:sm 4294967296 es) :
 Call F.q0i [.agg [slc l],slc es] (.int .i64 (if q2f ⟨l⟩≠0 then q2f ⟨l⟩ else q49 l es)):=by
 refine q0q rfl (es.length+1) ((q0i.ev _ _ _).trans ?_)
 simp only [evz,Nat.reduceLT,(q05 l hs).eq,q49,gt_iff_lt]
 by_cases h1:q2f ⟨l⟩=0
 case neg=>simp only [h1,evz,Nat.reduceLT,ne_eq,not_false_eq_true]
 by_cases h2:12 < es.length
 · have h2':(12:Int) < es.length:=by omega
   simp only [h1,h2,h2',evz,Nat.reduceLT,ne_eq,not_true_eq_false]
 have h2':¬ (12:Int) < es.length:=by omega
 simp only [h1,h2,h2',evz,Nat.reduceLT,ne_eq,not_true_eq_false]
 refine (q7e (l:=es) (g:=fun e=>if q25 l e≠0 then some (some (.int .i64 (q25 l e),[])) else none) (z:=some (.int .i64 0,[])) (S:=fun m k=>q0i.at0 (es.length+1) m (q0i.st0 (cells es) es.length (k:Nat) (cells l)))
  (fun m k h => ?_) (fun m => ?_) (Nat.lt_succ_self _)).trans ?_
 · have hlk:es[k]?=some es[k]:=List.getElem?_eq_getElem h
   obtain ⟨q1,q2⟩:=eqs_sm he h
   have hc:=q2v l hs es[k].left es[k].right q1 q2
   rw [if_neg (by simpa using h1)] at hc
   simp only [q0i.next0,q0i.round0,evz,Nat.reduceLT,h,hlk,q4y,hc.eq]
   rw [q0n (by omega)]
   by_cases e:q25 l es[k]=0
   · simp [e]
   · simp [e]
 · simp only [q0i.next0,q0i.round0,evz,Nat.reduceLT,Nat.lt_irrefl]
 · have:=q66 (fun e=>if q25 l e≠0 then some (q25 l e) else none) (fun n=>(some (T.int .i64 n,[]):R)) es
   rw [show (fun e=>(if q25 l e≠0 then some (q25 l e) else none).map fun n=>(some (T.int .i64 n,[]):R))=fun e=>if q25 l e≠0 then some (some (T.int .i64 (q25 l e),[])) else none from funext fun e=>by by_cases h:q25 l e=0 <;> simp [h]] at this
   rw [this]
   cases es.findSome? fun e=>if q25 l e≠0 then some (q25 l e) else none <;> rfl
theorem q1g (l:List Symbol) (ok:SigOk ⟨l⟩) (es:List Equation) (he:sm 4294967296 es):Call F.q1g [.rref [slc l] 0,slc es] (.int .i64 (q49 l es)):=by
 refine q0q rfl (es.length+1) ((q1g.ev _ _ _).trans ?_)
 simp only [evz,Nat.reduceLT,q49,gt_iff_lt]
 by_cases h2:12 < es.length
 · have h2':(12:Int) < es.length:=by omega
   simp only [h2,h2',evz,Nat.reduceLT]
 have h2':¬ (12:Int) < es.length:=by omega
 simp only [h2,h2',evz,Nat.reduceLT]
 refine (q7e (l:=es) (g:=fun e=>if q25 l e≠0 then some (some (.int .i64 (q25 l e),[])) else none) (z:=some (.int .i64 0,[])) (S:=fun m k=>q1g.at0 (es.length+1) m (q1g.st0 (cells l) (cells es) (k:Nat)))
  (fun m k h => ?_) (fun m => ?_) (Nat.lt_succ_self _)).trans ?_
 · have hlk:es[k]?=some es[k]:=List.getElem?_eq_getElem h
   obtain ⟨q1,q2⟩:=eqs_sm he h
   have hc:=q43 l ok es[k].left es[k].right q1 q2
   simp only [q1g.next0,q1g.round0,evz,Nat.reduceLT,h,hlk,q42 q6a hlk,q4y,hc.eq]
   rw [q0n (by omega)]
   by_cases e:q25 l es[k]=0
   · simp [e]
   · simp [e]
 · simp only [q1g.next0,q1g.round0,evz,Nat.reduceLT,Nat.lt_irrefl]
 · have:=q66 (fun e=>if q25 l e≠0 then some (q25 l e) else none) (fun n=>(some (T.int .i64 n,[]):R)) es
   rw [show (fun e=>(if q25 l e≠0 then some (q25 l e) else none).map fun n=>(some (T.int .i64 n,[]):R))=fun e=>if q25 l e≠0 then some (some (T.int .i64 (q25 l e),[])) else none from funext fun e=>by by_cases h:q25 l e=0 <;> simp [h]] at this
   rw [this]
   cases es.findSome? fun e=>if q25 l e≠0 then some (q25 l e) else none <;> rfl
end Ev.Ty
end
section
namespace Ev.Ty
open Go Ev
open Enc (enc)
open Sm (sm)
set_option linter.unusedVariables false
set_option linter.unusedSimpArgs false
theorem q1l (l r:List Int) (hs:sm 4294967296 l):Call F.q1l [slc l,slc r] (.bool (decide (l=r))):=by
 refine q0q rfl (l.length+1) ((q1l.ev _ _ _).trans ?_)
 simp only [q4j,q38]
 by_cases hl:l.length=r.length
 · have loop:=eq_loop hl (S:=fun m k=>q1l.at0 (l.length+1) m (q1l.st0 (cells l) (cells r) (k:Nat)))
    (fun m k h h'=>by
     have hlk:l[k]?=some l[k]:=List.getElem?_eq_getElem h
     have hrk:r[k]?=some r[k]:=List.getElem?_eq_getElem h'
     simp only [q1l.next0,q1l.round0,evz,Nat.reduceLT,h,h',hlk,hrk,q42 (l:=l) q38 hlk,q42 (l:=r) q38 hrk,q28,enc_u8]
     rw [q0n (by have:=hs.1; omega)])
    (fun m=>by
     simp only [q1l.next0,q1l.round0,evz,Nat.reduceLT,Nat.lt_irrefl])
   rw [cond_neg (by rw [hl]; exact bne_self_eq_false _)]
   exact loop
 · rw [q1m (by simp; omega)]
   simp only [show (l=r)=False from eq_false fun e=>hl (e ▸ rfl),decide_false]
theorem q0h (l r:List Int) (hs:sm 4294967296 l):Call F.q0h [slc l,slc r] (.bool (decide (l=r))):=by
 refine q0q rfl (l.length+1) ((q0h.ev _ _ _).trans ?_)
 simp only [q4j,q38]
 by_cases hl:l.length=r.length
 · have loop:=eq_loop hl (S:=fun m k=>q0h.at0 (l.length+1) m (q0h.st0 (cells l) (cells r) l.length (k:Nat)))
    (fun m k h h'=>by
     have hlk:l[k]?=some l[k]:=List.getElem?_eq_getElem h
     have hrk:r[k]?=some r[k]:=List.getElem?_eq_getElem h'
     simp only [q0h.next0,q0h.round0,evz,Nat.reduceLT,h,h',hlk,hrk,q42 (l:=l) q38 hlk,q42 (l:=r) q38 hrk,q28,enc_u8]
     rw [q0n (by have:=hs.1; omega)])
    (fun m=>by
     simp only [q0h.next0,q0h.round0,evz,Nat.reduceLT,Nat.lt_irrefl])
   rw [cond_neg (by rw [hl]; exact bne_self_eq_false _)]
   exact loop
 · rw [q1m (by simp; omega)]
   simp only [show (l=r)=False from eq_false fun e=>hl (e ▸ rfl),decide_false]
theorem q3n (v_left:List Int) (v_right:List Int) (w_left:List Int) (w_right:List Int) (hs:sm 4294967296 (Equation.mk v_left v_right)):Call F.q3n [.agg [slc v_left,slc v_right],.agg [slc w_left,slc w_right]] (.bool (decide ((Equation.mk v_left v_right)=(Equation.mk w_left w_right)))):=by
 refine q0q rfl 0 ((q3n.ev _ _ _ _ _ ).trans ?_)
 simp only [evz,Nat.reduceLT,(q0h _ _ hs.1).eq,(q0h _ _ hs.2).eq,Equation.mk.injEq]
 by_cases h0:v_left=w_left
 case neg=>simp only [h0,  beq_self_eq_true,decide_eq_false,not_false_eq_true,if_true,if_false,decide_false,decide_true,cond_false,cond_true,false_and,and_false,↓reduceIte]
 by_cases h1:v_right=w_right
 case neg=>simp only [h1,h0,  beq_self_eq_true,decide_eq_false,not_false_eq_true,if_true,if_false,decide_false,decide_true,cond_false,cond_true,false_and,and_false,↓reduceIte]
 simp only [h0,h1,if_true,decide_true,cond_true,and_true,and_self,beq_self_eq_true]
theorem q1o (a b c d e:Int) (l r:List Int):Call F.q1o [.agg [.int .i64 a,.int .i64 b,.int .i64 c,.int .i64 d,.int .i64 e,slc l,slc r]] (.agg [slc l,slc r]) :=
 q0q rfl 0 ((q1o.ev _ _ _ _ _ _ _ _).trans rfl)
theorem q3t (v_kind:Int) (v_a:Int) (v_b:Int) (v_place:Int) (v_side:Int) (v_left:List Int) (v_right:List Int) (w_kind:Int) (w_a:Int) (w_b:Int) (w_place:Int) (w_side:Int) (w_left:List Int) (w_right:List Int) (hs:sm 4294967296 (Entry.mk v_kind v_a v_b v_place v_side v_left v_right)):Call F.q3t [.agg [.int .i64 v_kind,.int .i64 v_a,.int .i64 v_b,.int .i64 v_place,.int .i64 v_side,slc v_left,slc v_right],.agg [.int .i64 w_kind,.int .i64 w_a,.int .i64 w_b,.int .i64 w_place,.int .i64 w_side,slc w_left,slc w_right]] (.bool (decide ((Entry.mk v_kind v_a v_b v_place v_side v_left v_right)=(Entry.mk w_kind w_a w_b w_place w_side w_left w_right)))):=by
 refine q0q rfl 0 ((q3t.ev _ _ _ _ _ _ _ _ _ _ _ _ _ _ _ ).trans ?_)
 simp only [evz,Nat.reduceLT,(q1o _ _ _ _ _ _ _).eq,(q3n _ _ _ _ hs).eq,Equation.mk.injEq,Entry.mk.injEq]
 by_cases h0:v_kind=w_kind
 case neg=>simp only [h0,  beq_self_eq_true,decide_eq_false,not_false_eq_true,if_true,if_false,decide_false,decide_true,cond_false,cond_true,false_and,and_false,↓reduceIte]
 by_cases h1:v_a=w_a
 case neg=>simp only [h1,h0,  beq_self_eq_true,decide_eq_false,not_false_eq_true,if_true,if_false,decide_false,decide_true,cond_false,cond_true,false_and,and_false,↓reduceIte]
 by_cases h2:v_b=w_b
 case neg=>simp only [h2,h0,h1,  beq_self_eq_true,decide_eq_false,not_false_eq_true,if_true,if_false,decide_false,decide_true,cond_false,cond_true,false_and,and_false,↓reduceIte]
 by_cases h3:v_place=w_place
 case neg=>simp only [h3,h0,h1,h2,  beq_self_eq_true,decide_eq_false,not_false_eq_true,if_true,if_false,decide_false,decide_true,cond_false,cond_true,false_and,and_false,↓reduceIte]
 by_cases h4:v_side=w_side
 case neg=>simp only [h4,h0,h1,h2,h3,  beq_self_eq_true,decide_eq_false,not_false_eq_true,if_true,if_false,decide_false,decide_true,cond_false,cond_true,false_and,and_false,↓reduceIte]
 by_cases h5:v_left=w_left
 case neg=>simp only [h5,h0,h1,h2,h3,h4,  beq_self_eq_true,decide_eq_false,not_false_eq_true,if_true,if_false,decide_false,decide_true,cond_false,cond_true,false_and,and_false,↓reduceIte]
 by_cases h6:v_right=w_right
 case neg=>simp only [h6,h0,h1,h2,h3,h4,h5,  beq_self_eq_true,decide_eq_false,not_false_eq_true,if_true,if_false,decide_false,decide_true,cond_false,cond_true,false_and,and_false,↓reduceIte]
 simp only [h0,h1,h2,h3,h4,h5,h6,if_true,decide_true,cond_true,and_true,and_self,beq_self_eq_true]
theorem q06 (l r:List Entry) (hs:sm 4294967296 l):Call F.q2t [slc l,slc r,.clo F.q3t []] (.bool (decide (l=r))):=by
 refine q0q rfl (l.length+1) ((q06.ev _ _ _).trans ?_)
 simp only [q4j,q7k]
 by_cases hl:l.length=r.length
 · have loop:=eq_loop hl (S:=fun m k=>q06.at0 (l.length+1) m (q06.st0 (cells r) (cells l) l.length (k:Nat)))
    (fun m k h h'=>by
     have hlk:l[k]?=some l[k]:=List.getElem?_eq_getElem h
     have hrk:r[k]?=some r[k]:=List.getElem?_eq_getElem h'
     simp only [q06.next0,q06.round0,evz,Nat.reduceLT,h,h',hlk,hrk,q42 (l:=l) q7k hlk,q42 (l:=r) q7k hrk,q31,(q3t l[k].kind l[k].a l[k].b l[k].place l[k].side l[k].left l[k].right r[k].kind r[k].a r[k].b r[k].place r[k].side r[k].left r[k].right (hs.2 _ (List.getElem_mem h))).eq]
     rw [q0n (by have:=hs.1; omega)])
    (fun m=>by
     simp only [q06.next0,q06.round0,evz,Nat.reduceLT,Nat.lt_irrefl])
   rw [cond_neg (by rw [hl]; exact bne_self_eq_false _)]
   exact loop
 · rw [q1m (by simp; omega)]
   simp only [show (l=r)=False from eq_false fun e=>hl (e ▸ rfl),decide_false]
theorem q4p (l r:List Entry) (hs:sm 4294967296 l):Call F.q4p [slc l,slc r] (.bool (decide (l=r))):=by
 refine q0q rfl 0 ((q4p.ev _ _ _).trans ?_)
 simp only [evz,Nat.reduceLT,(q06 l r hs).eq]
end Ev.Ty
end
section
namespace Ev.Ty
open Go Ev
open Enc (enc)
open Sm (sm)
set_option linter.unusedSimpArgs false
set_option linter.unusedVariables false
theorem firstCode2 (a b:Int):Call F.q4u [.sl 1 [.int .i64 a,.int .i64 b]] (.int .i64 (if a=0 then b else a)):=impl_firstCode2 a b
theorem skip_inner {a:Int→Nat}:∀ {t r:List Int} {k p:Nat},skip a k t=some r→p+r.length < t.length→∃ q,skip a 1 (t.drop p)=some q
 | [],r,k,p,h,hp=>by simp at hp
 | n::t,r,0,p,h,hp=>by
   rw [q37] at h; cases h; omega
 | n::t,r,k+1,0,h,hp=>by
   rw [show k+1=1+k by omega,q8a] at h
   cases h1:skip a 1 (n::t) with
   | none=>rw [h1] at h; cases h
   | some q=>exact ⟨q,by simpa using h1⟩
 | n::t,r,k+1,p+1,h,hp=>by
   rw [skip] at h
   obtain ⟨q,hq⟩:=skip_inner (p:=p) h (by simp at hp; omega)
   exact ⟨q,by simpa using hq⟩
def endAt (l:List Symbol) (t:List Int) (p:Nat):Nat:=match skip (ar l) 1 (t.drop p) with
 | some r=>t.length - r.length
 | none=>t.length
theorem q44 {l:List Symbol} {t:List Int} (ok:TermOk l t) {p:Nat} (hp:p < t.length) :
 p < endAt l t p∧endAt l t p≤t.length∧∀ z,q7h z t (skip (ar l) 1 (t.drop p))=(endAt l t p:Nat):=by
 obtain ⟨q,hq⟩:=skip_inner (p:=p) ok.skip (by simpa using hp)
 have h:=skip_at hq
 unfold endAt
 rw [hq]
 refine ⟨?_,by simp only; omega,fun z=>rfl⟩
 have:=h.2.2 (by omega)
 simp only
 omega
section
variable {l:List Symbol} (ok:SigOk ⟨l⟩)
include ok
theorem endOf_at {t:List Int} (ht:TermOk l t) {p:Nat} (hp:p < t.length):Call F.q22 [.agg [slc l],slc t,.int .i64 p] (.int .i64 (endAt l t p:Nat)):=by
 have h:=q22 ok t ht.node (by have:=ht.le; omega) p (Nat.le_of_lt hp)
 rwa [(q44 ht hp).2.2] at h
theorem l3End_at {t:List Int} (ht:TermOk l t) {p:Nat} (hp:p < t.length):Call F.q1x [.rref [slc l] 0,slc t,.int .i64 p] (.int .i64 (endAt l t p:Nat)):=by
 have h:=q1x ok t ht.node (by have:=ht.le; omega) p (Nat.le_of_lt hp)
 rwa [(q44 ht hp).2.2] at h
end
theorem cells_cut (t:List Int) (i j:Nat):((cells t).take (j*1)).drop (i*1)=cells ((t.take j).drop i):=by
 rw [q7b t 1 j rfl,cells_drop _ 1 i rfl]
def subAt (l:List Symbol) (t:List Int) (p:Nat):List Int:=(t.take (endAt l t p)).drop p
theorem slc_cut (t:List Int) (i j:Nat):T.sl 1 (((cells t).take (j*1)).drop (i*1))=slc ((t.take j).drop i):=by rw [cells_cut]; rfl
theorem q4h (l:List Int) (h:l.length≤4294967296):Call F.q27 [slc l] (slc l):=by
 refine q0q rfl 0 ((q27.ev _ _).trans ?_)
 rw [q3o,q1m rfl,q1m (q3i (by rw [q0j,q38]; omega))]
 rfl
theorem q23 (l:List Int) (h:l.length≤4294967296):Call F.q23 [slc l] (slc l):=by
 refine lim_ext (e:=cloneE) rfl (Ev.of fun m => ?_)
 show (intsOf (cells l)).bind _=_
 rw [← q69,q86]
 show (bif _ then _ else _)=_
 rw [q1m (by rw [decide_eq_true_iff]; omega),q69]
 rfl
section
variable {l:List Symbol} (ok:SigOk ⟨l⟩)
include ok
theorem q3e {t:List Int} (ht:TermOk l t) {p:Nat} (hp:p < t.length):Call F.q3e [.agg [slc l],slc t,.int .i64 p] (slc (subAt l t p)):=by
 refine q0q rfl 0 ((q3e.ev _ _ _ _).trans ?_)
 obtain ⟨h1,h2,_⟩:=q44 ht hp
 simp only [evz,Nat.reduceLT,(endOf_at ok ht hp).eq]
 rw [q1m (by simp; omega),slc_cut]
 rfl
theorem q51 {t:List Int} (ht:TermOk l t) {p:Nat} (hp:p < t.length):Call F.q51 [.rref [slc l] 0,slc t,.int .i64 p] (slc (subAt l t p)):=by
 refine q0q rfl 0 ((q51.ev _ _ _ _).trans ?_)
 obtain ⟨h1,h2,_⟩:=q44 ht hp
 have hle:=ht.le
 simp only [evz,Nat.reduceLT,(l3End_at ok ht hp).eq]
 rw [q1m (by simp; omega),slc_cut,(q4h _ (by simp; omega)).eq]
 simp only [evz,Nat.reduceLT]
 rfl
def q48 (l:List Symbol) (t:List Int) (p:Nat) (by_:List Int):List Int:=(t.take p++by_)++t.drop (endAt l t p)
theorem q4s {t:List Int} (ht:TermOk l t) {p:Nat} (hp:p < t.length) (by_:List Int) (hb:by_.length≤1048576):Call F.q4s [.agg [slc l],slc t,.int .i64 p,slc by_] (slc (q48 l t p by_)):=by
 refine q0q rfl 0 ((q4s.ev _ _ _ _ _).trans ?_)
 obtain ⟨h1,h2,_⟩:=q44 ht hp
 have hle:=ht.le
 simp only [q4j,q38,Int.toNat_natCast]
 rw [q1m (by simp; omega),slc_cut,(q23 _ (by simp; omega)).eq]
 simp only [evz,Nat.reduceLT,q3o,(endOf_at ok ht hp).eq,cells_cut,← q2m,q4j,q38,Int.toNat_natCast]
 rw [q1m (q3i (by rw [q0j,q0j,q38]; simp; omega)),q1m (by simp; omega),q1m (q3i (by rw [q0j,q0j,q38]; simp; omega))]
 simp [q48,slc]
theorem q4f {t:List Int} (ht:TermOk l t) {p:Nat} (hp:p < t.length) (by_:List Int) (hb:by_.length≤1048576):Call F.q4f [.rref [slc l] 0,slc t,.int .i64 p,slc by_] (slc (q48 l t p by_)):=by
 refine q0q rfl 0 ((q4f.ev _ _ _ _ _).trans ?_)
 obtain ⟨h1,h2,_⟩:=q44 ht hp
 have hle:=ht.le
 simp only [q4j,q38,Int.toNat_natCast]
 rw [q1m (by simp; omega),slc_cut,(q4h _ (by simp; omega)).eq]
 simp only [evz,Nat.reduceLT,q3o,(l3End_at ok ht hp).eq,cells_cut,← q2m,q4j,q38,Int.toNat_natCast]
 rw [q1m (q3i (by rw [q0j,q0j,q38]; simp; omega)),q1m (by simp; omega),q1m (q3i (by rw [q0j,q0j,q38]; simp; omega))]
 simp [q48,slc]
end
theorem replAt_length {l:List Symbol} {t:List Int} {p:Nat} {by_:List Int}:(q48 l t p by_).length≤t.length+by_.length+t.length:=by simp [q48]; omega
def q4w (vs:List Int) (ts:List (List Int)) (v:Int):Option (List Int):=if idx (fun x=>decide (x=v)) vs < 0 then none else ts[(idx (fun x=>decide (x=v)) vs).toNat]?
theorem q0b (l:List Int) (x:Int) (hl:l.length≤4294967296):Call F.q0b [slc l,.int .i64 x] (.int .i64 (idx (fun y=>decide (y=x)) l)):=by
 refine q0q rfl (l.length+1) ((q0b.ev _ _ _).trans ?_)
 simp only [evz,Nat.reduceLT]
 refine q7l (S:=fun m k=>q0b.at0 (l.length+1) m (q0b.st0 (cells l) x l.length (k:Nat))) (fun m k h => ?_) (fun m => ?_) (Nat.lt_succ_self _)
 · have hlk:l[k]?=some l[k]:=List.getElem?_eq_getElem h
   simp only [q0b.next0,q0b.round0,evz,Nat.reduceLT,h,hlk,q28]
   rw [q0n (by omega)]
   by_cases e:x=l[k]
   · simp [e]
   · have e':¬ l[k]=x:=fun h=>e h.symm
     simp [e,e']
 · simp only [q0b.next0,q0b.round0,evz,Nat.reduceLT,Nat.lt_irrefl]
def ofT:Option (List Int)→T
 | some t => .tup [slc t,.bool true]
 | none => .tup [slc ([]:List Int),.bool false]
theorem q47 (vs:List Int) (ts:List (List Int)) (v:Int) (hl:vs.length=ts.length) (hs:vs.length≤4294967296):Call F.q47 [.agg [slc vs,slc ts],.int .i64 v] (ofT (q4w vs ts v)):=by
 refine q0q rfl 0 ((q47.ev _ _ _ _).trans ?_)
 simp only [evz,Nat.reduceLT,(q0b vs v hs).eq,q4w]
 rcases q7c (fun x:Int=>decide (x=v)) vs with ⟨h,_⟩ | ⟨i,hi,h,_,_⟩
 · simp only [h,evz,Nat.reduceLT,ofT,q36,show ((-1:Int) < 0)=True from by simp]
 · have hn:¬ ((i:Nat):Int) < 0:=by omega
   have hit:i < ts.length:=by omega
   simp only [h,hn,evz,Nat.reduceLT,hit,List.getElem?_eq_getElem,q8s,ofT]
theorem q1u (vs:List Int) (ts:List (List Int)) (v:Int) (hl:vs.length=ts.length) (hs:vs.length≤4294967296):Call F.q1u [.rref [slc vs,slc ts] 0,.int .i64 v] (slc ((q4w vs ts v).getD [])):=by
 refine q0q rfl (vs.length+1) ((q1u.ev _ _ _ _).trans ?_)
 have loop:=q7e (l:=List.range vs.length) (g:=fun k=>if vs[k]?=some v then some (some (slc (ts[k]?.getD []),[])) else none) (z:=some (slc ([]:List Int),[]))
  (S:=fun m k=>q1u.at0 (vs.length+1) m (q1u.st0 (cells vs) (cells ts) v (k:Nat))) (fun m k h => ?_) (fun m => ?_) (f:=vs.length+1) (by simp)
 · refine loop.trans ?_
   unfold q4w
   rcases q7c (fun x:Int=>decide (x=v)) vs with ⟨h,hno⟩ | ⟨i,hi,h,hyes,hno⟩
   · rw [h,if_pos (by omega)]
     have:(List.range vs.length).findSome? (fun k=>if vs[k]?=some v then some ((some (slc (ts[k]?.getD []),[]):R)) else none)=none:=by
      rw [List.findSome?_eq_none_iff]
      intro k hk
      rw [List.mem_range] at hk
      rw [if_neg]
      rw [List.getElem?_eq_getElem hk]
      intro e
      have:=hno _ (List.getElem_mem hk)
      simp at this e
      exact this e
     rw [this]; rfl
   · rw [h,if_neg (by omega)]
     have hit:i < ts.length:=by omega
     have:(List.range vs.length).findSome? (fun k=>if vs[k]?=some v then some ((some (slc (ts[k]?.getD []),[]):R)) else none)=some (some (slc ts[i],[])):=by
      rw [List.findSome?_eq_some_iff]
      refine ⟨List.range i,i,(List.range' (i+1) (vs.length - i - 1)),?_,?_,?_⟩
      · rw [List.range_eq_range',List.range_eq_range',← List.range'_succ,show vs.length - i - 1+1=vs.length - i by omega]
        have:=List.range'_append (s:=0) (m:=i) (n:=vs.length - i) (step:=1)
        simp only [Nat.one_mul,Nat.zero_add] at this
        rw [this,Nat.add_sub_cancel' (Nat.le_of_lt hi)]
      · have e1:vs[i]?=some v:=(List.getElem?_eq_getElem hi).trans (congrArg some (of_decide_eq_true hyes))
        have e2:ts[i]?=some ts[i]:=List.getElem?_eq_getElem hit
        simp only [e1,e2,if_true,Option.getD_some]
      · intro k hk
        rw [List.mem_range] at hk
        rw [if_neg]
        rw [List.getElem?_eq_getElem (by omega)]
        intro e
        have:=hno k hk
        simp at this e
        exact this e
     rw [this,Int.toNat_natCast,List.getElem?_eq_getElem hit]; rfl
 · rw [List.length_range] at h
   have hlk:vs[k]?=some vs[k]:=List.getElem?_eq_getElem h
   have hkt:k < ts.length:=by omega
   simp only [q1u.next0,q1u.round0,evz,Nat.reduceLT,h,hkt,hlk,List.getElem?_eq_getElem,q28,q8s,List.getElem_range,Option.getD_some,Option.some.injEq]
   rw [q0n (by omega)]
   by_cases e:vs[k]=v <;> simp [e]
 · rw [List.length_range]
   simp only [q1u.next0,q1u.round0,evz,Nat.reduceLT,Nat.lt_irrefl,q36]
def q0d (vs:List Int) (ts:List (List Int)) (t:List Int):List Int:=t.flatMap fun n=>(q4w vs ts (-1 - n)).getD [n]
structure BindOk (vs:List Int) (ts:List (List Int)):Prop where
 len:vs.length=ts.length
 le:vs.length≤1000
 nn:∀ v∈vs,0≤v
 tm:∀ t∈ts,1≤t.length∧t.length≤4096
theorem bindOf_neg {vs:List Int} {ts:List (List Int)} (ok:BindOk vs ts) {v:Int} (hv:v < 0):q4w vs ts v=none:=by
 unfold q4w
 rcases q7c (fun x:Int=>decide (x=v)) vs with ⟨h,_⟩ | ⟨i,hi,h,hy,_⟩
 · rw [if_pos (by omega)]
 · have:=ok.nn _ (List.getElem_mem hi)
   simp at hy; omega
theorem q5w {vs:List Int} {ts:List (List Int)} {v:Int} {t:List Int} (h:q4w vs ts v=some t):t∈ts:=by
 unfold q4w at h
 split at h
 · cases h
 · exact List.mem_of_getElem? h
def q8f (vs:List Int) (ts:List (List Int)) (o:List Int) (n:Int):List Int:=o++(q4w vs ts (-1 - n)).getD [n]
theorem app_fold (vs:List Int) (ts:List (List Int)):∀ (t o:List Int),t.foldl (q8f vs ts) o=o++q0d vs ts t
 | [],o=>by simp [q0d]
 | n::t,o=>by
   rw [List.foldl_cons,app_fold vs ts t]
   simp [q8f,q0d]
def appI (k:Nat) (o:List Int):Prop:=o.length≤k*4096
theorem appI_step {vs:List Int} {ts:List (List Int)} (ok:BindOk vs ts) {k:Nat} {o:List Int} {n:Int} (h:appI k o):appI (k+1) (q8f vs ts o n):=by
 unfold appI q8f at *
 rw [List.length_append]
 cases hb:q4w vs ts (-1 - n) with
 | none=>simp; omega
 | some t=>have:=(ok.tm t (q5w hb)).2; simp; omega
theorem q5x {vs:List Int} {ts:List (List Int)} (ok:BindOk vs ts) (t:List Int):(q0d vs ts t).length≤t.length*4096:=by
 have:=fold_inv (l:=t) (g:=q8f vs ts) appI (fun k o _ h=>appI_step ok h) [] (by simp [appI])
 rw [app_fold] at this
 simpa [appI] using this
theorem q0e (vs:List Int) (ts:List (List Int)) (ok:BindOk vs ts) (t:List Int) (ht:t.length≤4096) (hr:∀ n∈t,-4611686018427387904≤n∧n≤4611686018427387904):Call F.q0e [.agg [slc vs,slc ts],slc t] (slc (q0d vs ts t)):=by
 have hle:=ok.le
 refine q0q rfl (t.length+1) ((q0e.ev _ _ _ _).trans ?_)
 simp only [q4j,q38]
 have key:=fold_loop (l:=t) (f:=t.length+1) (S:=fun m k (o:List Int)=>q0e.at0 (t.length+1) m (q0e.st0 (cells t) t.length (k:Nat) (cells vs) (cells ts) (cells o))) (g:=q8f vs ts) (z:=fun (o:List Int)=>some (slc o,[])) appI
  (fun m k o h ho => ?_) (fun k o h ho=>appI_step ok ho) (fun m o ho => ?_) [] (by simp [appI]) (by omega)
 · rw [app_fold] at key; exact key
 · have hn:=hr _ (List.getElem_mem h)
   have ho:o.length≤k*4096:=ho
   simp only [q0e.next0,q0e.round0,evz,Nat.reduceLT,h,List.getElem?_eq_getElem,q28,q2j (x := -1 - t[k]) (by omega),(q47 vs ts (-1 - t[k]) ok.len (by omega)).eq,q8f]
   cases hb:q4w vs ts (-1 - t[k]) with
   | none =>
     simp only [ofT,evz,Nat.reduceLT,q3o,Option.getD_none,← q2m]
     rw [q1m (q3i (by rw [q0j,q38]; omega)),q2d,q0n (by omega)]
   | some x =>
     have hx:=(ok.tm x (q5w hb)).2
     simp only [ofT,evz,Nat.reduceLT,q3o,Option.getD_some,← q2m]
     rw [q1m (q3i (by rw [q0j,q0j,q38]; omega)),q0n (by omega)]
 · simp only [q0e.next0,q0e.round0,evz,Nat.reduceLT,Nat.lt_irrefl]
theorem q0w (vs:List Int) (ts:List (List Int)) (ok:BindOk vs ts) (t:List Int) (ht:t.length≤4096) (hr:∀ n∈t,-4611686018427387904≤n∧n≤4611686018427387904):Call F.q0w [.rref [slc vs,slc ts] 0,slc t] (slc (q0d vs ts t)):=by
 have hle:=ok.le
 refine q0q rfl (t.length+1) ((q0w.ev _ _ _ _).trans ?_)
 have key:=fold_loop (l:=t) (f:=t.length+1) (S:=fun m k (o:List Int)=>q0w.at0 (t.length+1) m (q0w.st0 (cells vs) (cells ts) (cells t) (k:Nat) (cells o))) (g:=q8f vs ts) (z:=fun (o:List Int)=>some (slc o,[])) appI
  (fun m k o h ho => ?_) (fun k o h ho=>appI_step ok ho) (fun m o ho => ?_) [] (by simp [appI]) (by omega)
 · rw [app_fold] at key; exact key
 · have hn:=hr _ (List.getElem_mem h)
   have ho:o.length≤k*4096:=ho
   by_cases hneg:t[k] < 0
   · simp only [q0w.next0,q0w.round0,evz,Nat.reduceLT,h,List.getElem?_eq_getElem,q28,hneg,q2j (x := -1 - t[k]) (by omega),(q1u vs ts (-1 - t[k]) ok.len (by omega)).eq,q8f]
     cases hb:q4w vs ts (-1 - t[k]) with
     | none =>
       simp only [q36,evz,Nat.reduceLT,List.all_nil,Option.getD_none,cells_nil,List.length_nil,← q2m,Int.natCast_zero,Nat.zero_div,Int.ofNat_zero]
       rw [q1m (q3i (by rw [q0j,q38]; omega)),q2d,q0n (by omega)]
     | some x =>
       have hx:=ok.tm x (q5w hb)
       have hx0:¬ ((x.length:Int)=0):=by omega
       simp only [evz,Nat.reduceLT,q3o,Option.getD_some,hx0,← q2m]
       rw [q1m (q3i (by rw [q0j,q0j,q38]; omega)),q0n (by omega)]
   · simp only [q0w.next0,q0w.round0,evz,Nat.reduceLT,h,List.getElem?_eq_getElem,q28,hneg,q8f,bindOf_neg ok (v := -1 - t[k]) (by omega),Option.getD_none]
     rw [q1m (q3i (by rw [q0j,q38]; omega)),q2d,q0n (by omega)]
 · simp only [q0w.next0,q0w.round0,evz,Nat.reduceLT,Nat.lt_irrefl]
theorem q73 {vs:List Int} {k:Nat} (h:k < vs.length):vs.getD k 0=vs[k]:=by rw [List.getD_eq_getElem?_getD,List.getElem?_eq_getElem h]; rfl
end Ev.Ty
end
