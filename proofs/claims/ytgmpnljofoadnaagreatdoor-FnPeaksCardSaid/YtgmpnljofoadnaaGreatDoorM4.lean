/- Steps on the way to RowPeaks: X1, X2, XALL, TyMarks, TyFields, TyPlumb, TyNum, TySig, TyAlg, TyTerm, TyTree, TyEval, TyEvalF, TyEvalT. -/
import Derived.Test.YtgmpnljofoadnaaGreatDoorM3
import Derived.Lib.SlTrimSet
set_option linter.unusedSectionVars false
set_option linter.unusedVariables false
set_option linter.unusedSimpArgs false
section
open Go
set_option maxRecDepth 100000
namespace Ev
theorem q5b.ev (n:Nat) (a0:List T):q1m prog A H LIM n F.q5b [(.sl 1 a0)]=((LIM F.q71 [(.sl 1 a0)]).bind fun r1=>((oNil r1.2).bind fun _=>((oTup r1.1).bind fun c2=>((q0i c2).bind fun p3=>((oAgg p3.1).bind fun c4=>((q0i c4).bind fun p5=>((oSl 2 p5.1).bind fun c6=>((oNil p5.2).bind fun _=>((q0i p3.2).bind fun p7=>((oAgg p7.1).bind fun c8=>((q0i c8).bind fun p9=>((oSl 1 p9.1).bind fun c10=>((q0i p9.2).bind fun p11=>((oSl 1 p11.1).bind fun c12=>((oNil p11.2).bind fun _=>((q0i p7.2).bind fun p13=>((oAgg p13.1).bind fun c14=>((q0i c14).bind fun p15=>((oSl 1 p15.1).bind fun c16=>((q0i p15.2).bind fun p17=>((oSl 1 p17.1).bind fun c18=>((oNil p17.2).bind fun _=>((q0i p13.2).bind fun p19=>((oBx p19.1).bind fun c20=>((q0i c20).bind fun p21=>((oSl 1 p21.1).bind fun c22=>((q0i p21.2).bind fun p23=>((oInt .i64 p23.1).bind fun n24=>((oNil p23.2).bind fun _=>((oNil p19.2).bind fun _=>((LIM F.q6j [(.rref [(.sl 1 c10),(.sl 1 c12)] 0)]).bind fun r25=>((oNil r25.2).bind fun _=>((oAgg r25.1).bind fun c26=>((q0i c26).bind fun p27=>((oSl 1 p27.1).bind fun c28=>((q0i p27.2).bind fun p29=>((oSl 1 p29.1).bind fun c30=>((oNil p29.2).bind fun _=>((LIM F.q6j [(.rref [(.sl 1 c16),(.sl 1 c18)] 0)]).bind fun r31=>((oNil r31.2).bind fun _=>((oAgg r31.1).bind fun c32=>((q0i c32).bind fun p33=>((oSl 1 p33.1).bind fun c34=>((q0i p33.2).bind fun p35=>((oSl 1 p35.1).bind fun c36=>((oNil p35.2).bind fun _=>((LIM F.q9g [(.rref [(.sl 1 c22),(.int .i64 n24)] 0),(.sl 1 c10)]).bind fun r37=>((q0i r37.2).bind fun p38=>((oNil p38.2).bind fun _=>((oAgg p38.1).bind fun c39=>((q0i c39).bind fun p40=>((oSl 1 p40.1).bind fun c41=>((q0i p40.2).bind fun p42=>((oInt .i64 p42.1).bind fun n43=>((oNil p42.2).bind fun _=>((oInt .i64 r37.1).bind fun n44=>some ((.tup [(.agg [(.sl 2 c6)]),(.agg [(.sl 1 c28),(.sl 1 c30)]),(.agg [(.sl 1 c34),(.sl 1 c36)]),(.int .i64 n44)]),[]))))))))))))))))))))))))))))))))))))))))))))))))))))))))):=by kernel_rfl
theorem q4f.ev (n:Nat) (a0_0 a1:List T):q1m prog A H LIM n F.q4f [(.agg [(.sl 2 a0_0)]),(.sl 1 a1)]=((LIM F.q00 [(.agg [(.sl 2 a0_0)])]).bind fun r1=>((oNil r1.2).bind fun _=>((oInt .i64 r1.1).bind fun n2=>(bif ((n2 != (0:Int))) then some ((.int .i64 n2),[]) else ((LIM F.q0h [(.rref [(.sl 2 a0_0)] 0),(.sl 1 a1)]).bind fun r3=>((oNil r3.2).bind fun _=>((oInt .i64 r3.1).bind fun n4=>some ((.int .i64 n4),[])))))))):=by kernel_rfl
theorem q4b.ev (n:Nat) (a0_0 a1 a2_0 a2_1:List T):q1m prog A H LIM n F.q4b [(.agg [(.sl 2 a0_0)]),(.sl 1 a1),(.agg [(.sl 1 a2_0),(.sl 1 a2_1)])]=((LIM F.q4f [(.agg [(.sl 2 a0_0)]),(.sl 1 a1)]).bind fun r1=>((oNil r1.2).bind fun _=>((oInt .i64 r1.1).bind fun n2=>(bif ((n2 != (0:Int))) then some ((.agg [(.int .i64 n2),(.sl 1 []),(.sl 1 [])]),[]) else ((LIM F.q17 [(.rref [(.sl 2 a0_0)] 0),(.sl 1 a2_0)]).bind fun r3=>((oNil r3.2).bind fun _=>((oInt .i64 r3.1).bind fun n4=>(bif ((n4 != (0:Int))) then some ((.agg [(.int .i64 n4),(.sl 1 []),(.sl 1 [])]),[]) else ((LIM F.q17 [(.rref [(.sl 2 a0_0)] 0),(.sl 1 a2_1)]).bind fun r5=>((oNil r5.2).bind fun _=>((oInt .i64 r5.1).bind fun n6=>(bif ((n6 != (0:Int))) then some ((.agg [(.int .i64 n6),(.sl 1 []),(.sl 1 [])]),[]) else ((LIM F.q5y [(.rref [(.sl 2 a0_0)] 0),(.sl 1 a1),(.sl 1 a2_0),(.sl 1 a2_1)]).bind fun r7=>((oNil r7.2).bind fun _=>((oInt .i64 r7.1).bind fun n8=>(bif ((n8 == (1:Int))) then ((LIM F.q6j [(.rref [(.sl 1 a2_0),(.sl 1 a2_1)] 0)]).bind fun r9=>((oNil r9.2).bind fun _=>((oAgg r9.1).bind fun c10=>((q0i c10).bind fun p11=>((oSl 1 p11.1).bind fun c12=>((q0i p11.2).bind fun p13=>((oSl 1 p13.1).bind fun c14=>((oNil p13.2).bind fun _=>some ((.agg [(.int .i64 (0:Int)),(.sl 1 c12),(.sl 1 c14)]),[]))))))))) else (bif ((n8 == (2:Int))) then ((LIM F.q2s [(.sl 1 a2_1)]).bind fun r15=>((oNil r15.2).bind fun _=>((oSl 1 r15.1).bind fun c16=>((LIM F.q2s [(.sl 1 a2_0)]).bind fun r17=>((oNil r17.2).bind fun _=>((oSl 1 r17.1).bind fun c18=>some ((.agg [(.int .i64 (0:Int)),(.sl 1 c16),(.sl 1 c18)]),[]))))))) else some ((.agg [(.int .i64 (10:Int)),(.sl 1 []),(.sl 1 [])]),[])))))))))))))))))):=by kernel_rfl
theorem q6h.ev (n:Nat) (a0_0 a1_0 a1_1 a2_0 a2_1:List T) (a3:Int):q1m prog A H LIM n F.q6h [(.agg [(.sl 2 a0_0)]),(.agg [(.sl 1 a1_0),(.sl 1 a1_1)]),(.agg [(.sl 1 a2_0),(.sl 1 a2_1)]),(.int .i64 a3)]=((LIM F.q7y [(.rref [(.sl 2 a0_0)] 0),(.rref [(.sl 1 a1_0),(.sl 1 a1_1)] 0),(.rref [(.sl 1 a2_0),(.sl 1 a2_1)] 0)]).bind fun r1=>((oNil r1.2).bind fun _=>((oInt .i64 r1.1).bind fun n2=>(bif ((n2 != (0:Int))) then some ((.agg [(.int .i64 n2),(.sl 1 []),(.sl 1 [])]),[]) else ((LIM F.q77 [(.sl 1 a1_0),(.int .i64 a3)]).bind fun r3=>((oNil r3.2).bind fun _=>((q3h r3.1).bind fun b4=>(bif (!b4) then some ((.agg [(.int .i64 (3:Int)),(.sl 1 []),(.sl 1 [])]),[]) else (bif inB a3 ((a1_0).length / 1) then ((a1_0[((Int.toNat a3)*1)]?).bind fun e5=>((oInt .i64 e5).bind fun n6=>(bif (decide (n6 < (0:Int))) then some ((.agg [(.int .i64 (1:Int)),(.sl 1 []),(.sl 1 [])]),[]) else ((LIM F.q4x [(.rref [(.sl 2 a0_0)] 0),(.rref [(.sl 1 a1_0),(.sl 1 a1_1)] 0),(.rref [(.sl 1 a2_0),(.sl 1 a2_1)] 0),(.int .i64 a3)]).bind fun r7=>((oNil r7.2).bind fun _=>((oTup r7.1).bind fun c8=>((q0i c8).bind fun p9=>((oAgg p9.1).bind fun c10=>((q0i c10).bind fun p11=>((oSl 1 p11.1).bind fun c12=>((q0i p11.2).bind fun p13=>((oSl 1 p13.1).bind fun c14=>((oNil p13.2).bind fun _=>((q0i p9.2).bind fun p15=>((oInt .i64 p15.1).bind fun n16=>((oNil p15.2).bind fun _=>some ((.agg [(.int .i64 n16),(.sl 1 c12),(.sl 1 c14)]),[]))))))))))))))))) else none))))))))):=by kernel_rfl
theorem q5t.ev (n:Nat) (a0_0 a1_0 a1_1 a2_0 a2_1:List T) (a3:Bool):q1m prog A H LIM n F.q5t [(.agg [(.sl 2 a0_0)]),(.agg [(.sl 1 a1_0),(.sl 1 a1_1)]),(.agg [(.sl 1 a2_0),(.sl 1 a2_1)]),(.bool a3)]=((LIM F.q7y [(.rref [(.sl 2 a0_0)] 0),(.rref [(.sl 1 a1_0),(.sl 1 a1_1)] 0),(.rref [(.sl 1 a2_0),(.sl 1 a2_1)] 0)]).bind fun r1=>((oNil r1.2).bind fun _=>((oInt .i64 r1.1).bind fun n2=>(bif ((n2 != (0:Int))) then some ((.agg [(.int .i64 n2),(.sl 2 [])]),[]) else ((LIM F.q1q [(.rref [(.sl 2 a0_0)] 0),(.rref [(.sl 1 a1_0),(.sl 1 a1_1)] 0),(.rref [(.sl 1 a2_0),(.sl 1 a2_1)] 0),(.bool a3)]).bind fun r3=>((oNil r3.2).bind fun _=>((oTup r3.1).bind fun c4=>((q0i c4).bind fun p5=>((oSl 2 p5.1).bind fun c6=>((q0i p5.2).bind fun p7=>((oInt .i64 p7.1).bind fun n8=>((oNil p7.2).bind fun _=>(bif ((n8 != (0:Int))) then some ((.agg [(.int .i64 n8),(.sl 2 [])]),[]) else some ((.agg [(.int .i64 (0:Int)),(.sl 2 c6)]),[])))))))))))))):=by kernel_rfl
theorem q4c.ev (n:Nat) (a0_0:List T) (a1:ByteArray):q1m prog A H LIM n F.q4c [(.agg [(.sl 2 a0_0)]),(.str a1)]=((LIM F.q00 [(.agg [(.sl 2 a0_0)])]).bind fun r1=>((oNil r1.2).bind fun _=>((oInt .i64 r1.1).bind fun n2=>(bif ((n2 != (0:Int))) then some ((.agg [(.int .i64 n2),(.sl 1 []),(.sl 1 [])]),[]) else (bif (decide ((a1.size:Int) > (337:Int))) then some ((.agg [(.int .i64 (5:Int)),(.sl 1 []),(.sl 1 [])]),[]) else ((LIM F.q29 [(.str a1),(.int .u8 (61:Int))]).bind fun r3=>((oNil r3.2).bind fun _=>((oSl 1 r3.1).bind fun c4=>(bif ((((((c4).length / 1):Nat):Int) != (2:Int))) then some ((.agg [(.int .i64 (5:Int)),(.sl 1 []),(.sl 1 [])]),[]) else (bif inB (0:Int) ((c4).length / 1) then ((c4[0]?).bind fun e5=>((oStr e5).bind fun s6=>((LIM F.q5w [(.rref [(.sl 2 a0_0)] 0),(.str s6)]).bind fun r7=>((oNil r7.2).bind fun _=>((oSl 1 r7.1).bind fun c8=>(bif inB (1:Int) ((c4).length / 1) then ((c4[1]?).bind fun e9=>((oStr e9).bind fun s10=>((LIM F.q5w [(.rref [(.sl 2 a0_0)] 0),(.str s10)]).bind fun r11=>((oNil r11.2).bind fun _=>((oSl 1 r11.1).bind fun c12=>((LIM F.q51 [(.rref [(.sl 2 a0_0)] 0),(.rref [(.sl 1 c8),(.sl 1 c12)] 0)]).bind fun r13=>((oNil r13.2).bind fun _=>((oInt .i64 r13.1).bind fun n14=>(bif ((n14 != (0:Int))) then some ((.agg [(.int .i64 (5:Int)),(.sl 1 []),(.sl 1 [])]),[]) else some ((.agg [(.int .i64 (0:Int)),(.sl 1 c8),(.sl 1 c12)]),[])))))))))) else none)))))) else none)))))))))):=by kernel_rfl
theorem q45.ev (n:Nat) (a0_0 a1:List T):q1m prog A H LIM n F.q45 [(.agg [(.sl 2 a0_0)]),(.sl 2 a1)]=((LIM F.q00 [(.agg [(.sl 2 a0_0)])]).bind fun r1=>((oNil r1.2).bind fun _=>((oInt .i64 r1.1).bind fun n2=>(bif ((n2 != (0:Int))) then some ((.int .i64 n2),[]) else ((LIM F.q0u [(.rref [(.sl 2 a0_0)] 0),(.sl 2 a1)]).bind fun r3=>((oNil r3.2).bind fun _=>((oInt .i64 r3.1).bind fun n4=>some ((.int .i64 n4),[])))))))):=by kernel_rfl
def q00.st4 (x0 x1 x2:Int) (x3:List T):St:=⟨[(1,(.one (.ptr 64 0))),(3,oi x0),(5,oi x1),(6,oi x2)],[(64,(.box [(.t (.sl 2 x3))]))]⟩
def q00.st6 (x0 x1:Int) (x2:List T):St:=⟨[(1,(.one (.ptr 64 0))),(3,oi x0),(7,oi x1)],[(64,(.box [(.t (.sl 2 x2))]))]⟩
def q00.st2 (x0 x1:Int) (x2:List T):St:=⟨[(1,(.one (.ptr 64 0))),(3,oi x0),(5,oi x1)],[(64,(.box [(.t (.sl 2 x2))]))]⟩
def q00.st0 (x0 x1:Int) (x2:List T):St:=⟨[(1,(.one (.ptr 64 0))),(3,oi x0),(4,oi x1)],[(64,(.box [(.t (.sl 2 x2))]))]⟩
noncomputable def q00.K0 (n:Nat):Ex→St→R:=kx F.q00 n [.block 0,.seq 0 (cx F.q00 [1,1,1,1])] (q3u prog A F.q00)
noncomputable def q00.at0 (n:Nat) (m:Nat) (s:St):R:=lx F.q00 n 0 [1,1,1,0,1,0,0] (q00.K0 n) m s
noncomputable def q00.rd0 (n:Nat) (L0:St→R) (s:St):R:=rx F.q00 n 0 [1,1,1,0,1,0,0] (q00.K0 n) L0 s
theorem q00.next0 (n:Nat) (m:Nat) (s:St):q00.at0 n (m+1) s=q00.rd0 n (q00.at0 n m) s:=nx _ _ _ _ _ _ _
noncomputable def q00.K2 (n:Nat):Ex→St→R:=kx F.q00 n [.block 2,.seq 0 (cx F.q00 [1,1,1,1,1])] (q3u prog A F.q00)
noncomputable def q00.at2 (n:Nat) (m:Nat) (s:St):R:=lx F.q00 n 2 [1,1,1,1,0,1,0,0] (q00.K2 n) m s
noncomputable def q00.rd2 (n:Nat) (L2:St→R) (s:St):R:=rx F.q00 n 2 [1,1,1,1,0,1,0,0] (q00.K2 n) L2 s
theorem q00.next2 (n:Nat) (m:Nat) (s:St):q00.at2 n (m+1) s=q00.rd2 n (q00.at2 n m) s:=nx _ _ _ _ _ _ _
noncomputable def q00.K6 (n:Nat):Ex→St→R:=kx F.q00 n [.block 6,.seq 0 (cx F.q00 [1,1,1,1,1,1])] (q3u prog A F.q00)
noncomputable def q00.at6 (n:Nat) (m:Nat) (s:St):R:=lx F.q00 n 6 [1,1,1,1,1,0,1,0,0] (q00.K6 n) m s
noncomputable def q00.rd6 (n:Nat) (L6:St→R) (s:St):R:=rx F.q00 n 6 [1,1,1,1,1,0,1,0,0] (q00.K6 n) L6 s
theorem q00.next6 (n:Nat) (m:Nat) (s:St):q00.at6 n (m+1) s=q00.rd6 n (q00.at6 n m) s:=nx _ _ _ _ _ _ _
noncomputable def q00.K4 (n:Nat) (L2:St→R):Ex→St→R:=kx F.q00 n [.block 4,.block 3,.seq 2 (cx F.q00 [1,1,1,1,0,1,0,0,1,1])] (bx F.q00 2 (q00.K2 n) L2)
noncomputable def q00.at4 (n:Nat) (L2:St→R) (m:Nat) (s:St):R:=lx F.q00 n 4 [1,1,1,1,0,1,0,0,1,0,0,1,0,0] (q00.K4 n L2) m s
noncomputable def q00.rd4 (n:Nat) (L2:St→R) (L4:St→R) (s:St):R:=rx F.q00 n 4 [1,1,1,1,0,1,0,0,1,0,0,1,0,0] (q00.K4 n L2) L4 s
theorem q00.next4 (n:Nat) (L2:St→R) (m:Nat) (s:St):q00.at4 n L2 (m+1) s=q00.rd4 n L2 (q00.at4 n L2 m) s:=nx _ _ _ _ _ _ _
theorem q00.round0 (n:Nat) (L0:St→R) (x0 x1:Int) (x2:List T):q00.rd0 n L0 (q00.st0 x0 x1 x2)=(bif (decide (x1 < x0)) then (bif inB x1 ((x2).length / 2) then ((x2[((Int.toNat x1)*2)]?).bind fun e1=>((oStr e1).bind fun s2=>((LIM F.q2d [(.str s2)]).bind fun r3=>((oNil r3.2).bind fun _=>((q3h r3.1).bind fun b4=>(bif (!b4) then some ((.int .i64 (5:Int)),[]) else (bif inB x1 ((x2).length / 2) then ((x2[(((Int.toNat x1)*2)+1)]?).bind fun e5=>((oInt .i64 e5).bind fun n6=>((LIM F.q47 [(.int .i64 n6),(.int .i64 (0:Int)),(.int .i64 (2:Int))]).bind fun r7=>((oNil r7.2).bind fun _=>((q3h r7.1).bind fun b8=>(bif (!b8) then some ((.int .i64 (3:Int)),[]) else (L0 (q00.st0 x0 (IntKind.wrap .i64 (x1+(1:Int))) x2)))))))) else none))))))) else none) else (q00.at2 n n (q00.st2 x0 (0:Int) x2))):=by kernel_rfl
theorem q00.round2 (n:Nat) (L2:St→R) (x0 x1:Int) (x2:List T):q00.rd2 n L2 (q00.st2 x0 x1 x2)=(bif (decide (x1 < x0)) then (q00.at4 n L2 n (q00.st4 x0 x1 (0:Int) x2)) else (q00.at6 n n (q00.st6 x0 (0:Int) x2))):=by kernel_rfl
theorem q00.round6 (n:Nat) (L6:St→R) (x0 x1:Int) (x2:List T):q00.rd6 n L6 (q00.st6 x0 x1 x2)=(bif (decide (x1 < x0)) then (bif inB x1 ((x2).length / 2) then ((x2[(((Int.toNat x1)*2)+1)]?).bind fun e13=>((oInt .i64 e13).bind fun n14=>(bif ((n14 == (0:Int))) then some ((.int .i64 (0:Int)),[]) else (L6 (q00.st6 x0 (IntKind.wrap .i64 (x1+(1:Int))) x2))))) else none) else some ((.int .i64 (4:Int)),[])):=by kernel_rfl
theorem q00.round4 (n:Nat) (L2:St→R) (L4:St→R) (x0 x1 x2:Int) (x3:List T):q00.rd4 n L2 L4 (q00.st4 x0 x1 x2 x3)=(bif (decide (x2 < x1)) then (bif inB x1 ((x3).length / 2) then ((x3[((Int.toNat x1)*2)]?).bind fun e9=>((oStr e9).bind fun s10=>(bif inB x2 ((x3).length / 2) then ((x3[((Int.toNat x2)*2)]?).bind fun e11=>((oStr e11).bind fun s12=>(bif (s10.toList == s12.toList) then some ((.int .i64 (6:Int)),[]) else (L4 (q00.st4 x0 x1 (IntKind.wrap .i64 (x2+(1:Int))) x3))))) else none))) else none) else (L2 (q00.st2 x0 (IntKind.wrap .i64 (x1+(1:Int))) x3))):=by kernel_rfl
theorem q00.ev (n:Nat) (a0_0:List T):q1m prog A H LIM n F.q00 [(.agg [(.sl 2 a0_0)])]=(bif (decide (((((a0_0).length / 2):Nat):Int) < (1:Int))) then some ((.int .i64 (2:Int)),[]) else (bif (decide (((((a0_0).length / 2):Nat):Int) > (6:Int))) then some ((.int .i64 (2:Int)),[]) else (q00.at0 n n (q00.st0 ((((a0_0).length / 2):Nat):Int) (0:Int) a0_0)))):=by kernel_rfl
def q2m.st0 (x0:List T) (x1:Int) (x2 x3:List T) (x4:Int):St:=⟨[(0,(.one (.t (.rref [(.sl 2 x0)] 0)))),(1,(.one (.t (.rref [(.int .i64 x1),(.sl 1 x2)] 0)))),(2,ol 2 x3),(7,oi x4)],[]⟩
noncomputable def q2m.K0 (n:Nat):Ex→St→R:=kx F.q2m n [.block 0,.seq 0 (cx F.q2m [1,1])] (q3u prog A F.q2m)
noncomputable def q2m.at0 (n:Nat) (m:Nat) (s:St):R:=lx F.q2m n 0 [1,0,1,0,0] (q2m.K0 n) m s
noncomputable def q2m.rd0 (n:Nat) (L0:St→R) (s:St):R:=rx F.q2m n 0 [1,0,1,0,0] (q2m.K0 n) L0 s
theorem q2m.next0 (n:Nat) (m:Nat) (s:St):q2m.at0 n (m+1) s=q2m.rd0 n (q2m.at0 n m) s:=nx _ _ _ _ _ _ _
theorem q2m.round0 (n:Nat) (L0:St→R) (x0:List T) (x1:Int) (x2 x3:List T) (x4:Int):q2m.rd0 n L0 (q2m.st0 x0 x1 x2 x3 x4)=(bif (decide (x4 < ((((x3).length / 2):Nat):Int))) then (bif inB x4 ((x3).length / 2) then ((LIM F.q0p [(.rref [(.sl 2 x0)] 0),(.rref [(.int .i64 x1),(.sl 1 x2)] 0),(.rref ((x3.drop ((Int.toNat x4)*2)).take 2) 0)]).bind fun r1=>((oNil r1.2).bind fun _=>((q3h r1.1).bind fun b2=>(bif (!b2) then some ((.bool false),[]) else (L0 (q2m.st0 x0 x1 x2 x3 (IntKind.wrap .i64 (x4+(1:Int))))))))) else none) else some ((.bool true),[])):=by kernel_rfl
theorem q2m.ev (n:Nat) (a0_0:List T) (a1_0:Int) (a1_1 a2:List T):q1m prog A H LIM n F.q2m [(.rref [(.sl 2 a0_0)] 0),(.rref [(.int .i64 a1_0),(.sl 1 a1_1)] 0),(.sl 2 a2)]=(q2m.at0 n n (q2m.st0 a0_0 a1_0 a1_1 a2 (0:Int))):=by kernel_rfl
theorem q7t.ev (n:Nat) (a0:Bool):q1m prog A H LIM n F.q7t [(.bool a0)]=(bif a0 then some ((.agg [(.int .i64 (0:Int)),(.int .i64 (1:Int))]),[]) else some ((.agg [(.int .i64 (0:Int)),(.int .i64 (0:Int))]),[])):=by kernel_rfl
def q1a.st0 (x0:List T) (x1:Int) (x2 x3 x4:List T) (x5 x6 x7 x8:Int):St:=⟨[(0,(.one (.t (.rref [(.sl 2 x0)] 0)))),(1,(.one (.t (.rref [(.int .i64 x1),(.sl 1 x2)] 0)))),(2,ol 1 x3),(3,ol 1 x4),(4,oi x5),(11,oi x6),(12,oi x7),(13,oi x8)],[]⟩
noncomputable def q1a.K0 (n:Nat):Ex→St→R:=kx F.q1a n [.block 0,.seq 0 (cx F.q1a [1,1,1,1,1])] (q3u prog A F.q1a)
noncomputable def q1a.at0 (n:Nat) (m:Nat) (s:St):R:=lx F.q1a n 0 [1,1,1,1,0,1,0,0] (q1a.K0 n) m s
noncomputable def q1a.rd0 (n:Nat) (L0:St→R) (s:St):R:=rx F.q1a n 0 [1,1,1,1,0,1,0,0] (q1a.K0 n) L0 s
theorem q1a.next0 (n:Nat) (m:Nat) (s:St):q1a.at0 n (m+1) s=q1a.rd0 n (q1a.at0 n m) s:=nx _ _ _ _ _ _ _
theorem q1a.round0 (n:Nat) (L0:St→R) (x0:List T) (x1:Int) (x2 x3 x4:List T) (x5 x6 x7 x8:Int):q1a.rd0 n L0 (q1a.st0 x0 x1 x2 x3 x4 x5 x6 x7 x8)=(bif inB x5 ((x4).length / 1) then ((x4[((Int.toNat x5)*1)]?).bind fun e7=>((oInt .i64 e7).bind fun n8=>(bif inB n8 ((x0).length / 2) then ((x0[(((Int.toNat n8)*2)+1)]?).bind fun e9=>((oInt .i64 e9).bind fun n10=>(bif (decide (x8 < n10)) then ((LIM F.q1a [(.rref [(.sl 2 x0)] 0),(.rref [(.int .i64 x1),(.sl 1 x2)] 0),(.sl 1 x3),(.sl 1 x4),(.int .i64 x7)]).bind fun r11=>((oNil r11.2).bind fun _=>((oInt .i64 r11.1).bind fun n12=>((LIM F.q1v [(.rref [(.sl 2 x0)] 0),(.sl 1 x4),(.int .i64 x7)]).bind fun r13=>((oNil r13.2).bind fun _=>((oInt .i64 r13.1).bind fun n14=>(L0 (q1a.st0 x0 x1 x2 x3 x4 x5 (IntKind.wrap .i64 ((IntKind.wrap .i64 (x6*x1))+n12)) n14 (IntKind.wrap .i64 (x8+(1:Int))))))))))) else (bif inB x5 ((x4).length / 1) then ((x4[((Int.toNat x5)*1)]?).bind fun e15=>((oInt .i64 e15).bind fun n16=>(bif inB n16 ((x2).length / 1) then ((x2[((Int.toNat n16)*1)]?).bind fun e17=>((oSl 1 e17).bind fun c18=>(bif inB x6 ((c18).length / 1) then ((c18[((Int.toNat x6)*1)]?).bind fun e19=>((oInt .i64 e19).bind fun n20=>some ((.int .i64 n20),[]))) else none))) else none))) else none)))) else none))) else none):=by kernel_rfl
theorem q1a.ev (n:Nat) (a0_0:List T) (a1_0:Int) (a1_1 a2 a3:List T) (a4:Int):q1m prog A H LIM n F.q1a [(.rref [(.sl 2 a0_0)] 0),(.rref [(.int .i64 a1_0),(.sl 1 a1_1)] 0),(.sl 1 a2),(.sl 1 a3),(.int .i64 a4)]=(bif inB a4 ((a3).length / 1) then ((a3[((Int.toNat a4)*1)]?).bind fun e1=>((oInt .i64 e1).bind fun n2=>(bif (decide (n2 < (0:Int))) then (bif inB a4 ((a3).length / 1) then ((a3[((Int.toNat a4)*1)]?).bind fun e3=>((oInt .i64 e3).bind fun n4=>(bif inB (IntKind.wrap .i64 ((-1:Int) - n4)) ((a2).length / 1) then ((a2[((Int.toNat (IntKind.wrap .i64 ((-1:Int) - n4)))*1)]?).bind fun e5=>((oInt .i64 e5).bind fun n6=>some ((.int .i64 n6),[]))) else none))) else none) else (q1a.at0 n n (q1a.st0 a0_0 a1_0 a1_1 a2 a3 a4 (0:Int) (IntKind.wrap .i64 (a4+(1:Int))) (0:Int)))))) else none):=by kernel_rfl
def q0p.st2 (x0:List T) (x1:Int) (x2 x3 x4:List T) (x5 x6 x7:Int) (x8:List T):St:=⟨[(0,(.one (.t (.rref [(.sl 2 x0)] 0)))),(1,(.one (.t (.rref [(.int .i64 x1),(.sl 1 x2)] 0)))),(2,(.one (.t (.rref [(.sl 1 x3),(.sl 1 x4)] 0)))),(7,oi x5),(8,(.one (.obj 1280))),(9,oi x6),(10,oi x7)],[(1280,(.arr true true 1 x8))]⟩
def q0p.st0 (x0:List T) (x1:Int) (x2 x3 x4:List T) (x5:Int):St:=⟨[(0,(.one (.t (.rref [(.sl 2 x0)] 0)))),(1,(.one (.t (.rref [(.int .i64 x1),(.sl 1 x2)] 0)))),(2,(.one (.t (.rref [(.sl 1 x3),(.sl 1 x4)] 0)))),(7,oi x5)],[]⟩
noncomputable def q0p.K0 (n:Nat):Ex→St→R:=kx F.q0p n [.block 0,.seq 0 (cx F.q0p [1,1])] (q3u prog A F.q0p)
noncomputable def q0p.at0 (n:Nat) (m:Nat) (s:St):R:=lx F.q0p n 0 [1,0,1,0,0] (q0p.K0 n) m s
noncomputable def q0p.rd0 (n:Nat) (L0:St→R) (s:St):R:=rx F.q0p n 0 [1,0,1,0,0] (q0p.K0 n) L0 s
theorem q0p.next0 (n:Nat) (m:Nat) (s:St):q0p.at0 n (m+1) s=q0p.rd0 n (q0p.at0 n m) s:=nx _ _ _ _ _ _ _
noncomputable def q0p.K2 (n:Nat) (L0:St→R):Ex→St→R:=kx F.q0p n [.block 2,.seq 1 (cx F.q0p [1,0,1,0,0,1,0,0,1,1,1]),.block 1,.seq 0 (cx F.q0p [1,0,1,0,0,1,1])] (bx F.q0p 0 (q0p.K0 n) L0)
noncomputable def q0p.at2 (n:Nat) (L0:St→R) (m:Nat) (s:St):R:=lx F.q0p n 2 [1,0,1,0,0,1,0,0,1,1,0,1,0,0] (q0p.K2 n L0) m s
noncomputable def q0p.rd2 (n:Nat) (L0:St→R) (L2:St→R) (s:St):R:=rx F.q0p n 2 [1,0,1,0,0,1,0,0,1,1,0,1,0,0] (q0p.K2 n L0) L2 s
theorem q0p.next2 (n:Nat) (L0:St→R) (m:Nat) (s:St):q0p.at2 n L0 (m+1) s=q0p.rd2 n L0 (q0p.at2 n L0 m) s:=nx _ _ _ _ _ _ _
theorem q0p.round0 (n:Nat) (L0:St→R) (x0:List T) (x1:Int) (x2 x3 x4:List T) (x5:Int):q0p.rd0 n L0 (q0p.st0 x0 x1 x2 x3 x4 x5)=((LIM F.q4a [(.int .i64 x1),(.int .i64 (6:Int))]).bind fun r1=>((oNil r1.2).bind fun _=>((oInt .i64 r1.1).bind fun n2=>(bif (decide (x5 < n2)) then (q0p.at2 n L0 n (q0p.st2 x0 x1 x2 x3 x4 x5 x5 (0:Int) [])) else some ((.bool true),[]))))):=by kernel_rfl
theorem q0p.round2 (n:Nat) (L0:St→R) (L2:St→R) (x0:List T) (x1:Int) (x2 x3 x4:List T) (x5 x6 x7:Int) (x8:List T):q0p.rd2 n L0 L2 (q0p.st2 x0 x1 x2 x3 x4 x5 x6 x7 x8)=(bif (decide (x7 < (6:Int))) then (bif decide (x1=0) then none else (bif Nat.ble (((x8).length+1)*8) (140737488355328*1) then (bif decide (x1=0) then none else (L2 (q0p.st2 x0 x1 x2 x3 x4 x5 (IntKind.wrap .i64 (Int.tdiv x6 x1)) (IntKind.wrap .i64 (x7+(1:Int))) (x8++[(.int .i64 (Int.tmod x6 x1))]:List T)))) else none)) else ((LIM F.q1a [(.rref [(.sl 2 x0)] 0),(.rref [(.int .i64 x1),(.sl 1 x2)] 0),(.sl 1 x8),(.sl 1 x3),(.int .i64 (0:Int))]).bind fun r3=>((oNil r3.2).bind fun _=>((oInt .i64 r3.1).bind fun n4=>((LIM F.q1a [(.rref [(.sl 2 x0)] 0),(.rref [(.int .i64 x1),(.sl 1 x2)] 0),(.sl 1 x8),(.sl 1 x4),(.int .i64 (0:Int))]).bind fun r5=>((oNil r5.2).bind fun _=>((oInt .i64 r5.1).bind fun n6=>(bif ((n4 != n6)) then some ((.bool false),[]) else (L0 (q0p.st0 x0 x1 x2 x3 x4 (IntKind.wrap .i64 (x5+(1:Int))))))))))))):=by kernel_rfl
theorem q0p.ev (n:Nat) (a0_0:List T) (a1_0:Int) (a1_1 a2_0 a2_1:List T):q1m prog A H LIM n F.q0p [(.rref [(.sl 2 a0_0)] 0),(.rref [(.int .i64 a1_0),(.sl 1 a1_1)] 0),(.rref [(.sl 1 a2_0),(.sl 1 a2_1)] 0)]=(q0p.at0 n n (q0p.st0 a0_0 a1_0 a1_1 a2_0 a2_1 (0:Int))):=by kernel_rfl
def q0s.st2 (x0:List T) (x1 x2 x3 x4 x5 x6:Int) (x7 x8:List T):St:=⟨[(0,(.one (.t (.rref [(.sl 2 x0)] 0)))),(1,oi x1),(2,oi x2),(6,(.one (.ptr 384 0))),(7,(.one (.ptr 448 0))),(8,oi x3),(9,(.one (.obj 1408))),(10,oi x4)],[(384,(.box [(.t (.int .i64 x5)),.nil])),(448,(.box [(.t (.int .i64 x6)),(.obj 517169)])),(517169,(.arr true true 1 x7)),(1408,(.arr true true 1 x8))]⟩
def q0s.st0 (x0:List T) (x1 x2 x3 x4 x5:Int) (x6:List T):St:=⟨[(0,(.one (.t (.rref [(.sl 2 x0)] 0)))),(1,oi x1),(2,oi x2),(6,(.one (.ptr 384 0))),(7,(.one (.ptr 448 0))),(8,oi x3)],[(384,(.box [(.t (.int .i64 x4)),.nil])),(448,(.box [(.t (.int .i64 x5)),(.obj 517169)])),(517169,(.arr true true 1 x6))]⟩
noncomputable def q0s.K0 (n:Nat):Ex→St→R:=kx F.q0s n [.block 0,.seq 0 (cx F.q0s [1,1,1])] (q3u prog A F.q0s)
noncomputable def q0s.at0 (n:Nat) (m:Nat) (s:St):R:=lx F.q0s n 0 [1,1,0,1,0,0] (q0s.K0 n) m s
noncomputable def q0s.rd0 (n:Nat) (L0:St→R) (s:St):R:=rx F.q0s n 0 [1,1,0,1,0,0] (q0s.K0 n) L0 s
theorem q0s.next0 (n:Nat) (m:Nat) (s:St):q0s.at0 n (m+1) s=q0s.rd0 n (q0s.at0 n m) s:=nx _ _ _ _ _ _ _
noncomputable def q0s.K2 (n:Nat) (L0:St→R):Ex→St→R:=kx F.q0s n [.block 2,.seq 1 (cx F.q0s [1,1,0,1,0,0,1,0,0,1,1]),.block 1,.seq 0 (cx F.q0s [1,1,0,1,0,0,1,1])] (bx F.q0s 0 (q0s.K0 n) L0)
noncomputable def q0s.at2 (n:Nat) (L0:St→R) (m:Nat) (s:St):R:=lx F.q0s n 2 [1,1,0,1,0,0,1,0,0,1,0,1,0,0] (q0s.K2 n L0) m s
noncomputable def q0s.rd2 (n:Nat) (L0:St→R) (L2:St→R) (s:St):R:=rx F.q0s n 2 [1,1,0,1,0,0,1,0,0,1,0,1,0,0] (q0s.K2 n L0) L2 s
theorem q0s.next2 (n:Nat) (L0:St→R) (m:Nat) (s:St):q0s.at2 n L0 (m+1) s=q0s.rd2 n L0 (q0s.at2 n L0 m) s:=nx _ _ _ _ _ _ _
theorem q0s.round0 (n:Nat) (L0:St→R) (x0:List T) (x1 x2 x3 x4 x5:Int) (x6:List T):q0s.rd0 n L0 (q0s.st0 x0 x1 x2 x3 x4 x5 x6)=(bif (decide (x3 < ((((x0).length / 2):Nat):Int))) then (bif inB x3 ((x0).length / 2) then ((x0[(((Int.toNat x3)*2)+1)]?).bind fun e1=>((oInt .i64 e1).bind fun n2=>((LIM F.q4a [(.int .i64 x1),(.int .i64 n2)]).bind fun r3=>((oNil r3.2).bind fun _=>((oInt .i64 r3.1).bind fun n4=>(q0s.at2 n L0 n (q0s.st2 x0 x1 x2 x3 n4 x4 x5 x6 []))))))) else none) else some ((.agg [(.int .i64 x5),(.sl 1 x6)]),[])):=by kernel_rfl
theorem q0s.round2 (n:Nat) (L0:St→R) (L2:St→R) (x0:List T) (x1 x2 x3 x4 x5 x6:Int) (x7 x8:List T):q0s.rd2 n L0 L2 (q0s.st2 x0 x1 x2 x3 x4 x5 x6 x7 x8)=(bif (decide (x4 > (0:Int))) then (bif decide (x1=0) then none else (bif Nat.ble (((x8).length+1)*8) (140737488355328*1) then (L2 (q0s.st2 x0 x1 (Int.tmod (IntKind.wrap .i64 ((IntKind.wrap .i64 ((227:Int)*x2))+(1:Int))) (65521:Int)) x3 (IntKind.wrap .i64 (x4 - (1:Int))) x5 x6 x7 (x8++[(.int .i64 (Int.tmod (Int.tmod (IntKind.wrap .i64 ((IntKind.wrap .i64 ((227:Int)*x2))+(1:Int))) (65521:Int)) x1))]:List T))) else none)) else (bif Nat.ble (((x7).length+1)*24) (140737488355328*1) then (L0 (q0s.st0 x0 x1 x2 (IntKind.wrap .i64 (x3+(1:Int))) x5 x6 (x7++[(.sl 1 x8)]:List T))) else none)):=by kernel_rfl
theorem q0s.ev (n:Nat) (a0_0:List T) (a1 a2:Int):q1m prog A H LIM n F.q0s [(.rref [(.sl 2 a0_0)] 0),(.int .i64 a1),(.int .i64 a2)]=(q0s.at0 n n (q0s.st0 a0_0 a1 a2 (0:Int) (0:Int) a1 [])):=by kernel_rfl
theorem q4a.ev (n:Nat) (a0 a1:Int):q1m prog A H LIM n F.q4a [(.int .i64 a0),(.int .i64 a1)]=(bif ((a1 == (0:Int))) then some ((.int .i64 (1:Int)),[]) else ((LIM F.q4a [(.int .i64 a0),(.int .i64 (IntKind.wrap .i64 (a1 - (1:Int))))]).bind fun r1=>((oNil r1.2).bind fun _=>((oInt .i64 r1.1).bind fun n2=>some ((.int .i64 (IntKind.wrap .i64 (a0*n2))),[]))))):=by kernel_rfl
theorem q34.ev (n:Nat) (a0_0:List T) (a0_1 a1:Int):q1m prog A H LIM n F.q34 [(.rref [(.sl 1 a0_0),(.int .i64 a0_1)] 0),(.int .i64 a1)]=((LIM F.q1p [(.rref [(.sl 1 a0_0),(.int .i64 a0_1)] 0),(.int .i64 a1)]).bind fun r1=>((q0i r1.2).bind fun p2=>((oNil p2.2).bind fun _=>((oAgg p2.1).bind fun c3=>((q0i c3).bind fun p4=>((oSl 1 p4.1).bind fun c5=>((q0i p4.2).bind fun p6=>((oInt .i64 p6.1).bind fun n7=>((oNil p6.2).bind fun _=>((oInt .i64 r1.1).bind fun n8=>some ((.bool ((n8 == (0:Int)))),[(.agg [(.sl 1 a0_0),(.int .i64 n7)])]))))))))))):=by kernel_rfl
def q29.st0 (x0:ByteArray) (x1 x2 x3:Int) (x4:List T):St:=⟨[(0,(.one (.t (.str x0)))),(1,(.one (.t (.int .u8 x1)))),(5,(.one (.obj 512))),(6,oi x2),(7,oi x3)],[(512,(.arr true true 1 x4))]⟩
noncomputable def q29.K0 (n:Nat):Ex→St→R:=kx F.q29 n [.block 0,.seq 0 (cx F.q29 [1,1,1,1])] (q3u prog A F.q29)
noncomputable def q29.at0 (n:Nat) (m:Nat) (s:St):R:=lx F.q29 n 0 [1,1,1,0,1,0,0] (q29.K0 n) m s
noncomputable def q29.rd0 (n:Nat) (L0:St→R) (s:St):R:=rx F.q29 n 0 [1,1,1,0,1,0,0] (q29.K0 n) L0 s
theorem q29.next0 (n:Nat) (m:Nat) (s:St):q29.at0 n (m+1) s=q29.rd0 n (q29.at0 n m) s:=nx _ _ _ _ _ _ _
theorem q29.round0 (n:Nat) (L0:St→R) (x0:ByteArray) (x1 x2 x3:Int) (x4:List T):q29.rd0 n L0 (q29.st0 x0 x1 x2 x3 x4)=(bif (decide (x3≤(x0.size:Int))) then (bif ((x3 == (x0.size:Int))) then (bif decide (0≤x2)&&decide (x2≤x3)&&decide (x3≤(x0.size:Int)) then (bif Nat.ble (((x4).length+1)*16) (140737488355328*1) then (L0 (q29.st0 x0 x1 (IntKind.wrap .i64 (x3+(1:Int))) (IntKind.wrap .i64 (x3+(1:Int))) (x4++[(.str (x0.extract (Int.toNat x2) (Int.toNat x3)))]:List T))) else none) else none) else (bif inB x3 x0.size then (bif ((((x0.data.getD (Int.toNat x3) 0).toNat:Int) == x1)) then (bif decide (0≤x2)&&decide (x2≤x3)&&decide (x3≤(x0.size:Int)) then (bif Nat.ble (((x4).length+1)*16) (140737488355328*1) then (L0 (q29.st0 x0 x1 (IntKind.wrap .i64 (x3+(1:Int))) (IntKind.wrap .i64 (x3+(1:Int))) (x4++[(.str (x0.extract (Int.toNat x2) (Int.toNat x3)))]:List T))) else none) else none) else (L0 (q29.st0 x0 x1 x2 (IntKind.wrap .i64 (x3+(1:Int))) x4))) else none)) else some ((.sl 1 x4),[])):=by kernel_rfl
theorem q29.ev (n:Nat) (a0:ByteArray) (a1:Int):q1m prog A H LIM n F.q29 [(.str a0),(.int .u8 a1)]=(q29.at0 n n (q29.st0 a0 a1 (0:Int) (0:Int) [])):=by kernel_rfl
theorem q47.ev (n:Nat) (a0 a1 a2:Int):q1m prog A H LIM n F.q47 [(.int .i64 a0),(.int .i64 a1),(.int .i64 a2)]=(bif (decide (a0 ≥ a1)) then some ((.bool (decide (a0≤a2))),[]) else some ((.bool false),[])):=by kernel_rfl
theorem q2s.ev (n:Nat) (a0:List T):q1m prog A H LIM n F.q2s [(.sl 1 a0)]=(bif (a0).all T.scalar then (bif Nat.ble ((0+(a0).length)*8) (140737488355328*1) then some ((.sl 1 a0),[]) else none) else none):=by kernel_rfl
theorem q1p.ev (n:Nat) (a0_0:List T) (a0_1 a1:Int):q1m prog A H LIM n F.q1p [(.rref [(.sl 1 a0_0),(.int .i64 a0_1)] 0),(.int .i64 a1)]=(bif (decide (a1 < (1:Int))) then some ((.int .i64 (0:Int)),[(.agg [(.sl 1 a0_0),(.int .i64 (IntKind.wrap .i64 (a0_1+(1:Int))))])]) else (bif ((((((a0_0).length / 1):Nat):Int) == (0:Int))) then (bif decide (a1=0) then none else some ((.int .i64 (Int.tmod (IntKind.wrap .i64 ((IntKind.wrap .i64 ((IntKind.wrap .i64 (a0_1+(1:Int))) - (1:Int)))*(7:Int))) a1)),[(.agg [(.sl 1 a0_0),(.int .i64 (IntKind.wrap .i64 (a0_1+(1:Int))))])])) else (bif decide (((((a0_0).length / 1):Nat):Int)=0) then none else (bif inB (Int.tmod (IntKind.wrap .i64 ((IntKind.wrap .i64 (a0_1+(1:Int))) - (1:Int))) ((((a0_0).length / 1):Nat):Int)) ((a0_0).length / 1) then ((a0_0[((Int.toNat (Int.tmod (IntKind.wrap .i64 ((IntKind.wrap .i64 (a0_1+(1:Int))) - (1:Int))) ((((a0_0).length / 1):Nat):Int)))*1)]?).bind fun e1=>((oInt .u8 e1).bind fun n2=>(bif decide (((((a0_0).length / 1):Nat):Int)=0) then none else (bif (decide (a1 > (200:Int))) then (bif decide (((((a0_0).length / 1):Nat):Int)=0) then none else (bif inB (Int.tmod (IntKind.wrap .i64 ((IntKind.wrap .i64 ((IntKind.wrap .i64 (a0_1+(1:Int))) - (1:Int)))+(1:Int))) ((((a0_0).length / 1):Nat):Int)) ((a0_0).length / 1) then ((a0_0[((Int.toNat (Int.tmod (IntKind.wrap .i64 ((IntKind.wrap .i64 ((IntKind.wrap .i64 (a0_1+(1:Int))) - (1:Int)))+(1:Int))) ((((a0_0).length / 1):Nat):Int)))*1)]?).bind fun e3=>((oInt .u8 e3).bind fun n4=>(bif decide (a1=0) then none else some ((.int .i64 (Int.tmod (IntKind.wrap .i64 ((IntKind.wrap .i64 ((IntKind.wrap .i64 ((IntKind.wrap .i64 ((IntKind.wrap .i64 n2)+(IntKind.wrap .i64 ((IntKind.wrap .i64 (Int.tdiv (IntKind.wrap .i64 ((IntKind.wrap .i64 (a0_1+(1:Int))) - (1:Int))) ((((a0_0).length / 1):Nat):Int)))*(37:Int)))))*(251:Int)))+(IntKind.wrap .i64 ((IntKind.wrap .i64 n4)*(13:Int)))))+(IntKind.wrap .i64 ((IntKind.wrap .i64 (a0_1+(1:Int))) - (1:Int))))) a1)),[(.agg [(.sl 1 a0_0),(.int .i64 (IntKind.wrap .i64 (a0_1+(1:Int))))])])))) else none)) else (bif decide (a1=0) then none else some ((.int .i64 (Int.tmod (IntKind.wrap .i64 ((IntKind.wrap .i64 n2)+(IntKind.wrap .i64 ((IntKind.wrap .i64 (Int.tdiv (IntKind.wrap .i64 ((IntKind.wrap .i64 (a0_1+(1:Int))) - (1:Int))) ((((a0_0).length / 1):Nat):Int)))*(37:Int))))) a1)),[(.agg [(.sl 1 a0_0),(.int .i64 (IntKind.wrap .i64 (a0_1+(1:Int))))])])))))) else none)))):=by kernel_rfl
theorem q3s.ev (n:Nat) (a0_0:List T) (a0_1:Int) (a1:List T):q1m prog A H LIM n F.q3s [(.rref [(.sl 1 a0_0),(.int .i64 a0_1)] 0),(.sl 1 a1)]=((LIM F.q1p [(.rref [(.sl 1 a0_0),(.int .i64 a0_1)] 0),(.int .i64 ((((a1).length / 1):Nat):Int))]).bind fun r1=>((q0i r1.2).bind fun p2=>((oNil p2.2).bind fun _=>((oAgg p2.1).bind fun c3=>((q0i c3).bind fun p4=>((oSl 1 p4.1).bind fun c5=>((q0i p4.2).bind fun p6=>((oInt .i64 p6.1).bind fun n7=>((oNil p6.2).bind fun _=>((oInt .i64 r1.1).bind fun n8=>(bif inB n8 ((a1).length / 1) then ((a1[((Int.toNat n8)*1)]?).bind fun e9=>((oInt .i64 e9).bind fun n10=>some ((.int .i64 n10),[(.agg [(.sl 1 a0_0),(.int .i64 n7)])]))) else none))))))))))):=by kernel_rfl
def q23.st0 (x0 x1:List T) (x2:Int):St:=⟨[(0,ol 1 x0),(1,ol 1 x1),(5,oi x2)],[]⟩
noncomputable def q23.K0 (n:Nat):Ex→St→R:=kx F.q23 n [.block 0,.seq 0 (cx F.q23 [1,1,1])] (q3u prog A F.q23)
noncomputable def q23.at0 (n:Nat) (m:Nat) (s:St):R:=lx F.q23 n 0 [1,1,0,1,0,0] (q23.K0 n) m s
noncomputable def q23.rd0 (n:Nat) (L0:St→R) (s:St):R:=rx F.q23 n 0 [1,1,0,1,0,0] (q23.K0 n) L0 s
theorem q23.next0 (n:Nat) (m:Nat) (s:St):q23.at0 n (m+1) s=q23.rd0 n (q23.at0 n m) s:=nx _ _ _ _ _ _ _
theorem q23.round0 (n:Nat) (L0:St→R) (x0 x1:List T) (x2:Int):q23.rd0 n L0 (q23.st0 x0 x1 x2)=(bif (decide (x2 < ((((x0).length / 1):Nat):Int))) then (bif inB x2 ((x0).length / 1) then ((x0[((Int.toNat x2)*1)]?).bind fun e1=>((oInt .i64 e1).bind fun n2=>(bif inB x2 ((x1).length / 1) then ((x1[((Int.toNat x2)*1)]?).bind fun e3=>((oInt .i64 e3).bind fun n4=>(bif ((n2 != n4)) then some ((.bool false),[]) else (L0 (q23.st0 x0 x1 (IntKind.wrap .i64 (x2+(1:Int)))))))) else none))) else none) else some ((.bool true),[])):=by kernel_rfl
theorem q23.ev (n:Nat) (a0 a1:List T):q1m prog A H LIM n F.q23 [(.sl 1 a0),(.sl 1 a1)]=(bif ((((((a0).length / 1):Nat):Int) != ((((a1).length / 1):Nat):Int))) then some ((.bool false),[]) else (q23.at0 n n (q23.st0 a0 a1 (0:Int)))):=by kernel_rfl
theorem q5o.ev (n:Nat) (a0:List T):q1m prog A H LIM n F.q5o [(.sl 1 a0)]=some ((.bx [(.sl 1 a0),(.int .i64 (0:Int))]),[]):=by kernel_rfl
def q12.st3 (x0 x1:Int) (x2:List T) (x3:Int) (x4:List T):St:=⟨[(0,(.one (.ptr 1000000 0))),(2,(.one (.ptr 128 0))),(3,(.one (.ptr 192 0))),(4,oi x0),(5,oi x1)],[(1000000,(.box [(.kept 0 (.sl 1 x2)),(.t (.int .i64 x3))])),(128,(.box [.nil])),(448,(.arr true true 2 x4)),(192,(.box [(.obj 448)]))]⟩
def q12.st1 (x0:List T) (x1:Int) (x2:List T):St:=⟨[(0,(.one (.ptr 1000000 0))),(2,(.one (.ptr 128 0))),(3,(.one (.ptr 192 0)))],[(1000000,(.box [(.kept 0 (.sl 1 x0)),(.t (.int .i64 x1))])),(128,(.box [.nil])),(448,(.arr true true 2 x2)),(192,(.box [(.obj 448)]))]⟩
noncomputable def q12.K1 (n:Nat):Ex→St→R:=kx F.q12 n [.block 1,.block 0,.seq 0 (cx F.q12 [1,1,1,1,1])] (q3u prog A F.q12)
noncomputable def q12.at1 (n:Nat) (m:Nat) (s:St):R:=lx F.q12 n 1 [1,1,1,1,0,1,0,1,1,1,1,1,1,1,1,1,1,1,1,0,0] (q12.K1 n) m s
noncomputable def q12.rd1 (n:Nat) (L1:St→R) (s:St):R:=rx F.q12 n 1 [1,1,1,1,0,1,0,1,1,1,1,1,1,1,1,1,1,1,1,0,0] (q12.K1 n) L1 s
theorem q12.next1 (n:Nat) (m:Nat) (s:St):q12.at1 n (m+1) s=q12.rd1 n (q12.at1 n m) s:=nx _ _ _ _ _ _ _
noncomputable def q12.K3 (n:Nat):Ex→St→R:=kx F.q12 n [.block 3,.block 0,.seq 0 (cx F.q12 [1,1,1,1,1])] (q3u prog A F.q12)
noncomputable def q12.at3 (n:Nat) (m:Nat) (s:St):R:=lx F.q12 n 3 [1,1,1,1,0,1,0,1,1,1,1,1,1,1,1,1,1,1,0,1,0,0] (q12.K3 n) m s
noncomputable def q12.rd3 (n:Nat) (L3:St→R) (s:St):R:=rx F.q12 n 3 [1,1,1,1,0,1,0,1,1,1,1,1,1,1,1,1,1,1,0,1,0,0] (q12.K3 n) L3 s
theorem q12.next3 (n:Nat) (m:Nat) (s:St):q12.at3 n (m+1) s=q12.rd3 n (q12.at3 n m) s:=nx _ _ _ _ _ _ _
theorem q12.round1 (n:Nat) (L1:St→R) (x0:List T) (x1:Int) (x2:List T):q12.rd1 n L1 (q12.st1 x0 x1 x2)=(bif (decide (((((x2).length / 2):Nat):Int) < (7:Int))) then (bif Nat.ble (((x2).length+2)*24) (140737488355328*2) then (L1 (q12.st1 x0 x1 (x2++[(.str (ByteArray.mk #[122])),(.int .i64 (0:Int))]:List T))) else none) else some ((.agg [(.sl 2 x2)]),[(.agg [(.sl 1 x0),(.int .i64 x1)])])):=by kernel_rfl
theorem q12.round3 (n:Nat) (L3:St→R) (x0 x1:Int) (x2:List T) (x3:Int) (x4:List T):q12.rd3 n L3 (q12.st3 x0 x1 x2 x3 x4)=(bif (decide (x1 < x0)) then (bif inB x1 ((x4).length / 2) then (bif decide ((((Int.toNat x1)*2)+1)+1≤(x4).length) then (L3 (q12.st3 x0 (IntKind.wrap .i64 (x1+(1:Int))) x2 x3 (setCells x4 (((Int.toNat x1)*2)+1) [(.int .i64 (1:Int))]))) else none) else none) else some ((.agg [(.sl 2 x4)]),[(.agg [(.sl 1 x2),(.int .i64 x3)])])):=by kernel_rfl
theorem q12.ev (n:Nat) (a0_0:List T) (a0_1:Int):q1m prog A H LIM n F.q12 [(.rref [(.sl 1 a0_0),(.int .i64 a0_1)] 0)]=((LIM F.q7z [(.rref [(.sl 1 a0_0),(.int .i64 a0_1)] 0)]).bind fun r1=>((q0i r1.2).bind fun p2=>((oNil p2.2).bind fun _=>((oAgg p2.1).bind fun c3=>((q0i c3).bind fun p4=>((oSl 1 p4.1).bind fun c5=>((q0i p4.2).bind fun p6=>((oInt .i64 p6.1).bind fun n7=>((oNil p6.2).bind fun _=>((oAgg r1.1).bind fun c8=>((q0i c8).bind fun p9=>((oSl 2 p9.1).bind fun c10=>((oNil p9.2).bind fun _=>((LIM F.q34 [(.rref [(.sl 1 a0_0),(.int .i64 n7)] 0),(.int .i64 (9:Int))]).bind fun r11=>((q0i r11.2).bind fun p12=>((oNil p12.2).bind fun _=>((oAgg p12.1).bind fun c13=>((q0i c13).bind fun p14=>((oSl 1 p14.1).bind fun c15=>((q0i p14.2).bind fun p16=>((oInt .i64 p16.1).bind fun n17=>((oNil p16.2).bind fun _=>((q3h r11.1).bind fun b18=>(bif (!b18) then some ((.agg [(.sl 2 c10)]),[(.agg [(.sl 1 a0_0),(.int .i64 n17)])]) else ((LIM F.q1p [(.rref [(.sl 1 a0_0),(.int .i64 n17)] 0),(.int .i64 (7:Int))]).bind fun r19=>((q0i r19.2).bind fun p20=>((oNil p20.2).bind fun _=>((oAgg p20.1).bind fun c21=>((q0i c21).bind fun p22=>((oSl 1 p22.1).bind fun c23=>((q0i p22.2).bind fun p24=>((oInt .i64 p24.1).bind fun n25=>((oNil p24.2).bind fun _=>((oInt .i64 r19.1).bind fun n26=>(bif ((n26 == (0:Int))) then some ((.agg [(.sl 2 [])]),[(.agg [(.sl 1 a0_0),(.int .i64 n25)])]) else (bif ((n26 == (1:Int))) then (bif inB (IntKind.wrap .i64 (((((c10).length / 2):Nat):Int) - (1:Int))) ((c10).length / 2) then (bif decide (((Int.toNat (IntKind.wrap .i64 (((((c10).length / 2):Nat):Int) - (1:Int))))*2)+1≤(c10).length) then some ((.agg [(.sl 2 (setCells c10 ((Int.toNat (IntKind.wrap .i64 (((((c10).length / 2):Nat):Int) - (1:Int))))*2) [(.str (ByteArray.mk #[97,98,99,100]))]))]),[(.agg [(.sl 1 a0_0),(.int .i64 n25)])]) else none) else none) else (bif ((n26 == (2:Int))) then ((LIM F.q1p [(.rref [(.sl 1 a0_0),(.int .i64 n25)] 0),(.int .i64 ((((c10).length / 2):Nat):Int))]).bind fun r27=>((q0i r27.2).bind fun p28=>((oNil p28.2).bind fun _=>((oAgg p28.1).bind fun c29=>((q0i c29).bind fun p30=>((oSl 1 p30.1).bind fun c31=>((q0i p30.2).bind fun p32=>((oInt .i64 p32.1).bind fun n33=>((oNil p32.2).bind fun _=>((oInt .i64 r27.1).bind fun n34=>(bif inB n34 ((c10).length / 2) then (bif decide (((Int.toNat n34)*2)+1≤(c10).length) then some ((.agg [(.sl 2 (setCells c10 ((Int.toNat n34)*2) [(.str (ByteArray.mk #[97,66]))]))]),[(.agg [(.sl 1 a0_0),(.int .i64 n33)])]) else none) else none))))))))))) else (bif ((n26 == (3:Int))) then ((LIM F.q1p [(.rref [(.sl 1 a0_0),(.int .i64 n25)] 0),(.int .i64 ((((c10).length / 2):Nat):Int))]).bind fun r35=>((q0i r35.2).bind fun p36=>((oNil p36.2).bind fun _=>((oAgg p36.1).bind fun c37=>((q0i c37).bind fun p38=>((oSl 1 p38.1).bind fun c39=>((q0i p38.2).bind fun p40=>((oInt .i64 p40.1).bind fun n41=>((oNil p40.2).bind fun _=>((oInt .i64 r35.1).bind fun n42=>((LIM F.q3s [(.rref [(.sl 1 a0_0),(.int .i64 n41)] 0),(.sl 1 [(.int .i64 (3:Int)),(.int .i64 (-1:Int))])]).bind fun r43=>((q0i r43.2).bind fun p44=>((oNil p44.2).bind fun _=>((oAgg p44.1).bind fun c45=>((q0i c45).bind fun p46=>((oSl 1 p46.1).bind fun c47=>((q0i p46.2).bind fun p48=>((oInt .i64 p48.1).bind fun n49=>((oNil p48.2).bind fun _=>((oInt .i64 r43.1).bind fun n50=>(bif inB n42 ((c10).length / 2) then (bif decide ((((Int.toNat n42)*2)+1)+1≤(c10).length) then some ((.agg [(.sl 2 (setCells c10 (((Int.toNat n42)*2)+1) [(.int .i64 n50)]))]),[(.agg [(.sl 1 a0_0),(.int .i64 n49)])]) else none) else none))))))))))))))))))))) else (bif ((n26 == (4:Int))) then (bif inB (0:Int) ((c10).length / 2) then ((c10[0]?).bind fun e51=>((oStr e51).bind fun s52=>((c10[1]?).bind fun e53=>((oInt .i64 e53).bind fun n54=>(bif Nat.ble (((c10).length+2)*24) (140737488355328*2) then some ((.agg [(.sl 2 (c10++[(.str s52),(.int .i64 n54)]:List T))]),[(.agg [(.sl 1 a0_0),(.int .i64 n25)])]) else none))))) else none) else (bif ((n26 == (5:Int))) then (q12.at3 n n (q12.st3 ((((c10).length / 2):Nat):Int) (0:Int) a0_0 n25 c10)) else (q12.at1 n n (q12.st1 a0_0 n25 c10)))))))))))))))))))))))))))))))))))))))))):=by kernel_rfl
def q13.st0 (x0:Int) (x1:List T) (x2:Int) (x3:List T):St:=⟨[(0,(.one (.ptr 1000000 0))),(5,(.one (.obj 768))),(6,oi x0)],[(1000000,(.box [(.kept 0 (.sl 1 x1)),(.t (.int .i64 x2))])),(768,(.arr true true 1 x3))]⟩
noncomputable def q13.K0 (n:Nat):Ex→St→R:=kx F.q13 n [.block 0,.seq 0 (cx F.q13 [1,1,1])] (q3u prog A F.q13)
noncomputable def q13.at0 (n:Nat) (m:Nat) (s:St):R:=lx F.q13 n 0 [1,1,0,1,0,0] (q13.K0 n) m s
noncomputable def q13.rd0 (n:Nat) (L0:St→R) (s:St):R:=rx F.q13 n 0 [1,1,0,1,0,0] (q13.K0 n) L0 s
theorem q13.next0 (n:Nat) (m:Nat) (s:St):q13.at0 n (m+1) s=q13.rd0 n (q13.at0 n m) s:=nx _ _ _ _ _ _ _
theorem q13.round0 (n:Nat) (L0:St→R) (x0:Int) (x1:List T) (x2:Int) (x3:List T):q13.rd0 n L0 (q13.st0 x0 x1 x2 x3)=(bif (decide (x0 > (0:Int))) then (bif (decide (((((x3).length / 1):Nat):Int) > (1:Int))) then ((LIM F.q1p [(.rref [(.sl 1 x1),(.int .i64 x2)] 0),(.int .i64 (IntKind.wrap .i64 (((((x3).length / 1):Nat):Int) - (1:Int))))]).bind fun r11=>((q0i r11.2).bind fun p12=>((oNil p12.2).bind fun _=>((oAgg p12.1).bind fun c13=>((q0i c13).bind fun p14=>((oSl 1 p14.1).bind fun c15=>((q0i p14.2).bind fun p16=>((oInt .i64 p16.1).bind fun n17=>((oNil p16.2).bind fun _=>((oInt .i64 r11.1).bind fun n18=>(bif inB n18 ((x3).length / 1) then ((x3[((Int.toNat n18)*1)]?).bind fun e19=>((oInt .i64 e19).bind fun n20=>(bif inB (IntKind.wrap .i64 (n18+(1:Int))) ((x3).length / 1) then ((x3[((Int.toNat (IntKind.wrap .i64 (n18+(1:Int))))*1)]?).bind fun e21=>((oInt .i64 e21).bind fun n22=>(bif inB n18 ((x3).length / 1) then (bif decide (((Int.toNat n18)*1)+1≤(x3).length) then (bif inB (IntKind.wrap .i64 (n18+(1:Int))) (((setCells x3 ((Int.toNat n18)*1) [(.int .i64 n22)])).length / 1) then (bif decide (((Int.toNat (IntKind.wrap .i64 (n18+(1:Int))))*1)+1≤((setCells x3 ((Int.toNat n18)*1) [(.int .i64 n22)])).length) then (L0 (q13.st0 (IntKind.wrap .i64 (x0 - (1:Int))) x1 n17 (setCells (setCells x3 ((Int.toNat n18)*1) [(.int .i64 n22)]) ((Int.toNat (IntKind.wrap .i64 (n18+(1:Int))))*1) [(.int .i64 n20)]))) else none) else none) else none) else none))) else none))) else none))))))))))) else some ((.sl 1 x3),[(.agg [(.sl 1 x1),(.int .i64 x2)])])) else some ((.sl 1 x3),[(.agg [(.sl 1 x1),(.int .i64 x2)])])):=by kernel_rfl
theorem q13.ev (n:Nat) (a0_0:List T) (a0_1:Int) (a1_0:List T):q1m prog A H LIM n F.q13 [(.rref [(.sl 1 a0_0),(.int .i64 a0_1)] 0),(.agg [(.sl 2 a1_0)])]=((LIM F.q2g [(.int .i64 ((((a1_0).length / 2):Nat):Int))]).bind fun r1=>((oNil r1.2).bind fun _=>((oSl 1 r1.1).bind fun c2=>((LIM F.q1p [(.rref [(.sl 1 a0_0),(.int .i64 a0_1)] 0),(.int .i64 (4:Int))]).bind fun r3=>((q0i r3.2).bind fun p4=>((oNil p4.2).bind fun _=>((oAgg p4.1).bind fun c5=>((q0i c5).bind fun p6=>((oSl 1 p6.1).bind fun c7=>((q0i p6.2).bind fun p8=>((oInt .i64 p8.1).bind fun n9=>((oNil p8.2).bind fun _=>((oInt .i64 r3.1).bind fun n10=>(q13.at0 n n (q13.st0 n10 a0_0 n9 c2))))))))))))))):=by kernel_rfl
def q1x.st0 (x0:List T) (x1:ByteArray) (x2:Int):St:=⟨[(0,(.one (.t (.rref [(.sl 2 x0)] 0)))),(1,(.one (.t (.str x1)))),(5,oi x2)],[]⟩
noncomputable def q1x.K0 (n:Nat):Ex→St→R:=kx F.q1x n [.block 0,.seq 0 (cx F.q1x [1,1])] (q3u prog A F.q1x)
noncomputable def q1x.at0 (n:Nat) (m:Nat) (s:St):R:=lx F.q1x n 0 [1,0,1,0,0] (q1x.K0 n) m s
noncomputable def q1x.rd0 (n:Nat) (L0:St→R) (s:St):R:=rx F.q1x n 0 [1,0,1,0,0] (q1x.K0 n) L0 s
theorem q1x.next0 (n:Nat) (m:Nat) (s:St):q1x.at0 n (m+1) s=q1x.rd0 n (q1x.at0 n m) s:=nx _ _ _ _ _ _ _
theorem q1x.round0 (n:Nat) (L0:St→R) (x0:List T) (x1:ByteArray) (x2:Int):q1x.rd0 n L0 (q1x.st0 x0 x1 x2)=(bif (decide (x2 < ((((x0).length / 2):Nat):Int))) then (bif inB x2 ((x0).length / 2) then ((x0[((Int.toNat x2)*2)]?).bind fun e1=>((oStr e1).bind fun s2=>(bif (s2.toList == x1.toList) then some ((.int .i64 x2),[]) else (L0 (q1x.st0 x0 x1 (IntKind.wrap .i64 (x2+(1:Int)))))))) else none) else some ((.int .i64 (-1:Int)),[])):=by kernel_rfl
theorem q1x.ev (n:Nat) (a0_0:List T) (a1:ByteArray):q1m prog A H LIM n F.q1x [(.rref [(.sl 2 a0_0)] 0),(.str a1)]=(q1x.at0 n n (q1x.st0 a0_0 a1 (0:Int))):=by kernel_rfl
def q2d.st0 (x0:ByteArray) (x1:Int):St:=⟨[(0,(.one (.t (.str x0)))),(3,oi x1)],[]⟩
noncomputable def q2d.K0 (n:Nat):Ex→St→R:=kx F.q2d n [.block 0,.seq 0 (cx F.q2d [1,1,1])] (q3u prog A F.q2d)
noncomputable def q2d.at0 (n:Nat) (m:Nat) (s:St):R:=lx F.q2d n 0 [1,1,0,1,0,0] (q2d.K0 n) m s
noncomputable def q2d.rd0 (n:Nat) (L0:St→R) (s:St):R:=rx F.q2d n 0 [1,1,0,1,0,0] (q2d.K0 n) L0 s
theorem q2d.next0 (n:Nat) (m:Nat) (s:St):q2d.at0 n (m+1) s=q2d.rd0 n (q2d.at0 n m) s:=nx _ _ _ _ _ _ _
theorem q2d.round0 (n:Nat) (L0:St→R) (x0:ByteArray) (x1:Int):q2d.rd0 n L0 (q2d.st0 x0 x1)=(bif (decide (x1 < (x0.size:Int))) then (bif inB x1 x0.size then (bif (decide (((x0.data.getD (Int.toNat x1) 0).toNat:Int) < (97:Int))) then some ((.bool false),[]) else (bif inB x1 x0.size then (bif (decide (((x0.data.getD (Int.toNat x1) 0).toNat:Int) > (122:Int))) then some ((.bool false),[]) else (L0 (q2d.st0 x0 (IntKind.wrap .i64 (x1+(1:Int)))))) else none)) else none) else some ((.bool true),[])):=by kernel_rfl
theorem q2d.ev (n:Nat) (a0:ByteArray):q1m prog A H LIM n F.q2d [(.str a0)]=(bif (decide ((a0.size:Int) < (1:Int))) then some ((.bool false),[]) else (bif (decide ((a0.size:Int) > (3:Int))) then some ((.bool false),[]) else (q2d.at0 n n (q2d.st0 a0 (0:Int))))):=by kernel_rfl
def q0h.st4 (x0:List T) (x1 x2:Int):St:=⟨[(1,ol 1 x0),(6,oi x1),(7,oi x2)],[]⟩
def q0h.st2 (x0:List T) (x1:Int):St:=⟨[(1,ol 1 x0),(6,oi x1)],[]⟩
def q0h.st0 (x0 x1:List T) (x2:Int):St:=⟨[(0,(.one (.t (.rref [(.sl 2 x0)] 0)))),(1,ol 1 x1),(5,oi x2)],[]⟩
noncomputable def q0h.K0 (n:Nat):Ex→St→R:=kx F.q0h n [.block 0,.seq 0 (cx F.q0h [1,1,1])] (q3u prog A F.q0h)
noncomputable def q0h.at0 (n:Nat) (m:Nat) (s:St):R:=lx F.q0h n 0 [1,1,0,1,0,0] (q0h.K0 n) m s
noncomputable def q0h.rd0 (n:Nat) (L0:St→R) (s:St):R:=rx F.q0h n 0 [1,1,0,1,0,0] (q0h.K0 n) L0 s
theorem q0h.next0 (n:Nat) (m:Nat) (s:St):q0h.at0 n (m+1) s=q0h.rd0 n (q0h.at0 n m) s:=nx _ _ _ _ _ _ _
noncomputable def q0h.K2 (n:Nat):Ex→St→R:=kx F.q0h n [.block 2,.seq 0 (cx F.q0h [1,1,1,1])] (q3u prog A F.q0h)
noncomputable def q0h.at2 (n:Nat) (m:Nat) (s:St):R:=lx F.q0h n 2 [1,1,1,0,1,0,0] (q0h.K2 n) m s
noncomputable def q0h.rd2 (n:Nat) (L2:St→R) (s:St):R:=rx F.q0h n 2 [1,1,1,0,1,0,0] (q0h.K2 n) L2 s
theorem q0h.next2 (n:Nat) (m:Nat) (s:St):q0h.at2 n (m+1) s=q0h.rd2 n (q0h.at2 n m) s:=nx _ _ _ _ _ _ _
noncomputable def q0h.K4 (n:Nat) (L2:St→R):Ex→St→R:=kx F.q0h n [.block 4,.block 3,.seq 2 (cx F.q0h [1,1,1,0,1,0,0,1,1])] (bx F.q0h 2 (q0h.K2 n) L2)
noncomputable def q0h.at4 (n:Nat) (L2:St→R) (m:Nat) (s:St):R:=lx F.q0h n 4 [1,1,1,0,1,0,0,1,0,0,1,0,0] (q0h.K4 n L2) m s
noncomputable def q0h.rd4 (n:Nat) (L2:St→R) (L4:St→R) (s:St):R:=rx F.q0h n 4 [1,1,1,0,1,0,0,1,0,0,1,0,0] (q0h.K4 n L2) L4 s
theorem q0h.next4 (n:Nat) (L2:St→R) (m:Nat) (s:St):q0h.at4 n L2 (m+1) s=q0h.rd4 n L2 (q0h.at4 n L2 m) s:=nx _ _ _ _ _ _ _
theorem q0h.round0 (n:Nat) (L0:St→R) (x0 x1:List T) (x2:Int):q0h.rd0 n L0 (q0h.st0 x0 x1 x2)=(bif (decide (x2 < ((((x1).length / 1):Nat):Int))) then (bif inB x2 ((x1).length / 1) then ((x1[((Int.toNat x2)*1)]?).bind fun e1=>((oInt .i64 e1).bind fun n2=>((LIM F.q4m [(.rref [(.sl 2 x0)] 0),(.int .i64 n2)]).bind fun r3=>((oNil r3.2).bind fun _=>((q3h r3.1).bind fun b4=>(bif (!b4) then some ((.int .i64 (3:Int)),[]) else (L0 (q0h.st0 x0 x1 (IntKind.wrap .i64 (x2+(1:Int))))))))))) else none) else (q0h.at2 n n (q0h.st2 x1 (0:Int)))):=by kernel_rfl
theorem q0h.round2 (n:Nat) (L2:St→R) (x0:List T) (x1:Int):q0h.rd2 n L2 (q0h.st2 x0 x1)=(bif (decide (x1 < ((((x0).length / 1):Nat):Int))) then (q0h.at4 n L2 n (q0h.st4 x0 x1 (0:Int))) else some ((.int .i64 (0:Int)),[])):=by kernel_rfl
theorem q0h.round4 (n:Nat) (L2:St→R) (L4:St→R) (x0:List T) (x1 x2:Int):q0h.rd4 n L2 L4 (q0h.st4 x0 x1 x2)=(bif (decide (x2 < x1)) then (bif inB x1 ((x0).length / 1) then ((x0[((Int.toNat x1)*1)]?).bind fun e5=>((oInt .i64 e5).bind fun n6=>(bif inB x2 ((x0).length / 1) then ((x0[((Int.toNat x2)*1)]?).bind fun e7=>((oInt .i64 e7).bind fun n8=>(bif ((n6 == n8)) then some ((.int .i64 (6:Int)),[]) else (L4 (q0h.st4 x0 x1 (IntKind.wrap .i64 (x2+(1:Int)))))))) else none))) else none) else (L2 (q0h.st2 x0 (IntKind.wrap .i64 (x1+(1:Int)))))):=by kernel_rfl
theorem q0h.ev (n:Nat) (a0_0 a1:List T):q1m prog A H LIM n F.q0h [(.rref [(.sl 2 a0_0)] 0),(.sl 1 a1)]=(bif ((((((a1).length / 1):Nat):Int) != ((((a0_0).length / 2):Nat):Int))) then some ((.int .i64 (2:Int)),[]) else (q0h.at0 n n (q0h.st0 a0_0 a1 (0:Int)))):=by kernel_rfl
def q22.st0 (x0:List T) (x1 x2:Int):St:=⟨[(0,ol 1 x0),(1,oi x1),(5,oi x2)],[]⟩
noncomputable def q22.K0 (n:Nat):Ex→St→R:=kx F.q22 n [.block 0,.seq 0 (cx F.q22 [1,1])] (q3u prog A F.q22)
noncomputable def q22.at0 (n:Nat) (m:Nat) (s:St):R:=lx F.q22 n 0 [1,0,1,0,0] (q22.K0 n) m s
noncomputable def q22.rd0 (n:Nat) (L0:St→R) (s:St):R:=rx F.q22 n 0 [1,0,1,0,0] (q22.K0 n) L0 s
theorem q22.next0 (n:Nat) (m:Nat) (s:St):q22.at0 n (m+1) s=q22.rd0 n (q22.at0 n m) s:=nx _ _ _ _ _ _ _
theorem q22.round0 (n:Nat) (L0:St→R) (x0:List T) (x1 x2:Int):q22.rd0 n L0 (q22.st0 x0 x1 x2)=(bif (decide (x2 < ((((x0).length / 1):Nat):Int))) then (bif inB x2 ((x0).length / 1) then ((x0[((Int.toNat x2)*1)]?).bind fun e1=>((oInt .i64 e1).bind fun n2=>(bif ((n2 == x1)) then some ((.int .i64 x2),[]) else (L0 (q22.st0 x0 x1 (IntKind.wrap .i64 (x2+(1:Int)))))))) else none) else some ((.int .i64 (-1:Int)),[])):=by kernel_rfl
theorem q22.ev (n:Nat) (a0:List T) (a1:Int):q1m prog A H LIM n F.q22 [(.sl 1 a0),(.int .i64 a1)]=(q22.at0 n n (q22.st0 a0 a1 (0:Int))):=by kernel_rfl
def q2g.st0 (x0 x1:Int) (x2:List T):St:=⟨[(0,oi x0),(3,(.one (.obj 320))),(4,oi x1)],[(320,(.arr true true 1 x2))]⟩
noncomputable def q2g.K0 (n:Nat):Ex→St→R:=kx F.q2g n [.block 0,.seq 0 (cx F.q2g [1,1,1])] (q3u prog A F.q2g)
noncomputable def q2g.at0 (n:Nat) (m:Nat) (s:St):R:=lx F.q2g n 0 [1,1,0,1,0,0] (q2g.K0 n) m s
noncomputable def q2g.rd0 (n:Nat) (L0:St→R) (s:St):R:=rx F.q2g n 0 [1,1,0,1,0,0] (q2g.K0 n) L0 s
theorem q2g.next0 (n:Nat) (m:Nat) (s:St):q2g.at0 n (m+1) s=q2g.rd0 n (q2g.at0 n m) s:=nx _ _ _ _ _ _ _
theorem q2g.round0 (n:Nat) (L0:St→R) (x0 x1:Int) (x2:List T):q2g.rd0 n L0 (q2g.st0 x0 x1 x2)=(bif (decide (x1 < x0)) then (bif Nat.ble (((x2).length+1)*8) (140737488355328*1) then (L0 (q2g.st0 x0 (IntKind.wrap .i64 (x1+(1:Int))) (x2++[(.int .i64 x1)]:List T))) else none) else some ((.sl 1 x2),[])):=by kernel_rfl
theorem q2g.ev (n:Nat) (a0:Int):q1m prog A H LIM n F.q2g [(.int .i64 a0)]=(q2g.at0 n n (q2g.st0 a0 (0:Int) [])):=by kernel_rfl
theorem q7z.ev (n:Nat) (a0_0:List T) (a0_1:Int):q1m prog A H LIM n F.q7z [(.rref [(.sl 1 a0_0),(.int .i64 a0_1)] 0)]=((LIM F.q1p [(.rref [(.sl 1 a0_0),(.int .i64 a0_1)] 0),(.int .i64 (8:Int))]).bind fun r1=>((q0i r1.2).bind fun p2=>((oNil p2.2).bind fun _=>((oAgg p2.1).bind fun c3=>((q0i c3).bind fun p4=>((oSl 1 p4.1).bind fun c5=>((q0i p4.2).bind fun p6=>((oInt .i64 p6.1).bind fun n7=>((oNil p6.2).bind fun _=>((oInt .i64 r1.1).bind fun n8=>(bif ((n8 == (0:Int))) then (bif ((n8 == (0:Int))) then some ((.agg [(.sl 2 [(.str (ByteArray.mk #[101])),(.int .i64 (0:Int)),(.str (ByteArray.mk #[105])),(.int .i64 (1:Int)),(.str (ByteArray.mk #[109])),(.int .i64 (2:Int)),(.str (ByteArray.mk #[97])),(.int .i64 (0:Int))])]),[(.agg [(.sl 1 a0_0),(.int .i64 n7)])]) else (bif ((n8 == (3:Int))) then (bif ((n8 == (3:Int))) then some ((.agg [(.sl 2 [(.str (ByteArray.mk #[97])),(.int .i64 (0:Int)),(.str (ByteArray.mk #[115,117,99])),(.int .i64 (1:Int)),(.str (ByteArray.mk #[97,100,100])),(.int .i64 (2:Int)),(.str (ByteArray.mk #[98])),(.int .i64 (0:Int))])]),[(.agg [(.sl 1 a0_0),(.int .i64 n7)])]) else (bif ((n8 == (5:Int))) then some ((.agg [(.sl 2 [(.str (ByteArray.mk #[97])),(.int .i64 (0:Int)),(.str (ByteArray.mk #[102])),(.int .i64 (1:Int)),(.str (ByteArray.mk #[103])),(.int .i64 (1:Int))])]),[(.agg [(.sl 1 a0_0),(.int .i64 n7)])]) else (bif ((n8 == (6:Int))) then some ((.agg [(.sl 2 [(.str (ByteArray.mk #[97])),(.int .i64 (0:Int)),(.str (ByteArray.mk #[98])),(.int .i64 (0:Int)),(.str (ByteArray.mk #[101])),(.int .i64 (0:Int)),(.str (ByteArray.mk #[109])),(.int .i64 (2:Int)),(.str (ByteArray.mk #[105])),(.int .i64 (1:Int)),(.str (ByteArray.mk #[115,117,99])),(.int .i64 (1:Int))])]),[(.agg [(.sl 1 a0_0),(.int .i64 n7)])]) else some ((.agg [(.sl 2 [(.str (ByteArray.mk #[97])),(.int .i64 (0:Int))])]),[(.agg [(.sl 1 a0_0),(.int .i64 n7)])])))) else (bif ((n8 == (4:Int))) then some ((.agg [(.sl 2 [(.str (ByteArray.mk #[97])),(.int .i64 (0:Int)),(.str (ByteArray.mk #[115,117,99])),(.int .i64 (1:Int)),(.str (ByteArray.mk #[97,100,100])),(.int .i64 (2:Int)),(.str (ByteArray.mk #[98])),(.int .i64 (0:Int))])]),[(.agg [(.sl 1 a0_0),(.int .i64 n7)])]) else (bif ((n8 == (5:Int))) then some ((.agg [(.sl 2 [(.str (ByteArray.mk #[97])),(.int .i64 (0:Int)),(.str (ByteArray.mk #[102])),(.int .i64 (1:Int)),(.str (ByteArray.mk #[103])),(.int .i64 (1:Int))])]),[(.agg [(.sl 1 a0_0),(.int .i64 n7)])]) else (bif ((n8 == (6:Int))) then some ((.agg [(.sl 2 [(.str (ByteArray.mk #[97])),(.int .i64 (0:Int)),(.str (ByteArray.mk #[98])),(.int .i64 (0:Int)),(.str (ByteArray.mk #[101])),(.int .i64 (0:Int)),(.str (ByteArray.mk #[109])),(.int .i64 (2:Int)),(.str (ByteArray.mk #[105])),(.int .i64 (1:Int)),(.str (ByteArray.mk #[115,117,99])),(.int .i64 (1:Int))])]),[(.agg [(.sl 1 a0_0),(.int .i64 n7)])]) else some ((.agg [(.sl 2 [(.str (ByteArray.mk #[97])),(.int .i64 (0:Int))])]),[(.agg [(.sl 1 a0_0),(.int .i64 n7)])])))))) else (bif ((n8 == (1:Int))) then (bif ((n8 == (1:Int))) then some ((.agg [(.sl 2 [(.str (ByteArray.mk #[101])),(.int .i64 (0:Int)),(.str (ByteArray.mk #[105])),(.int .i64 (1:Int)),(.str (ByteArray.mk #[109])),(.int .i64 (2:Int)),(.str (ByteArray.mk #[97])),(.int .i64 (0:Int))])]),[(.agg [(.sl 1 a0_0),(.int .i64 n7)])]) else (bif ((n8 == (3:Int))) then (bif ((n8 == (3:Int))) then some ((.agg [(.sl 2 [(.str (ByteArray.mk #[97])),(.int .i64 (0:Int)),(.str (ByteArray.mk #[115,117,99])),(.int .i64 (1:Int)),(.str (ByteArray.mk #[97,100,100])),(.int .i64 (2:Int)),(.str (ByteArray.mk #[98])),(.int .i64 (0:Int))])]),[(.agg [(.sl 1 a0_0),(.int .i64 n7)])]) else (bif ((n8 == (5:Int))) then some ((.agg [(.sl 2 [(.str (ByteArray.mk #[97])),(.int .i64 (0:Int)),(.str (ByteArray.mk #[102])),(.int .i64 (1:Int)),(.str (ByteArray.mk #[103])),(.int .i64 (1:Int))])]),[(.agg [(.sl 1 a0_0),(.int .i64 n7)])]) else (bif ((n8 == (6:Int))) then some ((.agg [(.sl 2 [(.str (ByteArray.mk #[97])),(.int .i64 (0:Int)),(.str (ByteArray.mk #[98])),(.int .i64 (0:Int)),(.str (ByteArray.mk #[101])),(.int .i64 (0:Int)),(.str (ByteArray.mk #[109])),(.int .i64 (2:Int)),(.str (ByteArray.mk #[105])),(.int .i64 (1:Int)),(.str (ByteArray.mk #[115,117,99])),(.int .i64 (1:Int))])]),[(.agg [(.sl 1 a0_0),(.int .i64 n7)])]) else some ((.agg [(.sl 2 [(.str (ByteArray.mk #[97])),(.int .i64 (0:Int))])]),[(.agg [(.sl 1 a0_0),(.int .i64 n7)])])))) else (bif ((n8 == (4:Int))) then some ((.agg [(.sl 2 [(.str (ByteArray.mk #[97])),(.int .i64 (0:Int)),(.str (ByteArray.mk #[115,117,99])),(.int .i64 (1:Int)),(.str (ByteArray.mk #[97,100,100])),(.int .i64 (2:Int)),(.str (ByteArray.mk #[98])),(.int .i64 (0:Int))])]),[(.agg [(.sl 1 a0_0),(.int .i64 n7)])]) else (bif ((n8 == (5:Int))) then some ((.agg [(.sl 2 [(.str (ByteArray.mk #[97])),(.int .i64 (0:Int)),(.str (ByteArray.mk #[102])),(.int .i64 (1:Int)),(.str (ByteArray.mk #[103])),(.int .i64 (1:Int))])]),[(.agg [(.sl 1 a0_0),(.int .i64 n7)])]) else (bif ((n8 == (6:Int))) then some ((.agg [(.sl 2 [(.str (ByteArray.mk #[97])),(.int .i64 (0:Int)),(.str (ByteArray.mk #[98])),(.int .i64 (0:Int)),(.str (ByteArray.mk #[101])),(.int .i64 (0:Int)),(.str (ByteArray.mk #[109])),(.int .i64 (2:Int)),(.str (ByteArray.mk #[105])),(.int .i64 (1:Int)),(.str (ByteArray.mk #[115,117,99])),(.int .i64 (1:Int))])]),[(.agg [(.sl 1 a0_0),(.int .i64 n7)])]) else some ((.agg [(.sl 2 [(.str (ByteArray.mk #[97])),(.int .i64 (0:Int))])]),[(.agg [(.sl 1 a0_0),(.int .i64 n7)])])))))) else (bif ((n8 == (2:Int))) then some ((.agg [(.sl 2 [(.str (ByteArray.mk #[101])),(.int .i64 (0:Int)),(.str (ByteArray.mk #[105])),(.int .i64 (1:Int)),(.str (ByteArray.mk #[109])),(.int .i64 (2:Int)),(.str (ByteArray.mk #[97])),(.int .i64 (0:Int))])]),[(.agg [(.sl 1 a0_0),(.int .i64 n7)])]) else (bif ((n8 == (3:Int))) then (bif ((n8 == (3:Int))) then some ((.agg [(.sl 2 [(.str (ByteArray.mk #[97])),(.int .i64 (0:Int)),(.str (ByteArray.mk #[115,117,99])),(.int .i64 (1:Int)),(.str (ByteArray.mk #[97,100,100])),(.int .i64 (2:Int)),(.str (ByteArray.mk #[98])),(.int .i64 (0:Int))])]),[(.agg [(.sl 1 a0_0),(.int .i64 n7)])]) else (bif ((n8 == (5:Int))) then some ((.agg [(.sl 2 [(.str (ByteArray.mk #[97])),(.int .i64 (0:Int)),(.str (ByteArray.mk #[102])),(.int .i64 (1:Int)),(.str (ByteArray.mk #[103])),(.int .i64 (1:Int))])]),[(.agg [(.sl 1 a0_0),(.int .i64 n7)])]) else (bif ((n8 == (6:Int))) then some ((.agg [(.sl 2 [(.str (ByteArray.mk #[97])),(.int .i64 (0:Int)),(.str (ByteArray.mk #[98])),(.int .i64 (0:Int)),(.str (ByteArray.mk #[101])),(.int .i64 (0:Int)),(.str (ByteArray.mk #[109])),(.int .i64 (2:Int)),(.str (ByteArray.mk #[105])),(.int .i64 (1:Int)),(.str (ByteArray.mk #[115,117,99])),(.int .i64 (1:Int))])]),[(.agg [(.sl 1 a0_0),(.int .i64 n7)])]) else some ((.agg [(.sl 2 [(.str (ByteArray.mk #[97])),(.int .i64 (0:Int))])]),[(.agg [(.sl 1 a0_0),(.int .i64 n7)])])))) else (bif ((n8 == (4:Int))) then some ((.agg [(.sl 2 [(.str (ByteArray.mk #[97])),(.int .i64 (0:Int)),(.str (ByteArray.mk #[115,117,99])),(.int .i64 (1:Int)),(.str (ByteArray.mk #[97,100,100])),(.int .i64 (2:Int)),(.str (ByteArray.mk #[98])),(.int .i64 (0:Int))])]),[(.agg [(.sl 1 a0_0),(.int .i64 n7)])]) else (bif ((n8 == (5:Int))) then some ((.agg [(.sl 2 [(.str (ByteArray.mk #[97])),(.int .i64 (0:Int)),(.str (ByteArray.mk #[102])),(.int .i64 (1:Int)),(.str (ByteArray.mk #[103])),(.int .i64 (1:Int))])]),[(.agg [(.sl 1 a0_0),(.int .i64 n7)])]) else (bif ((n8 == (6:Int))) then some ((.agg [(.sl 2 [(.str (ByteArray.mk #[97])),(.int .i64 (0:Int)),(.str (ByteArray.mk #[98])),(.int .i64 (0:Int)),(.str (ByteArray.mk #[101])),(.int .i64 (0:Int)),(.str (ByteArray.mk #[109])),(.int .i64 (2:Int)),(.str (ByteArray.mk #[105])),(.int .i64 (1:Int)),(.str (ByteArray.mk #[115,117,99])),(.int .i64 (1:Int))])]),[(.agg [(.sl 1 a0_0),(.int .i64 n7)])]) else some ((.agg [(.sl 2 [(.str (ByteArray.mk #[97])),(.int .i64 (0:Int))])]),[(.agg [(.sl 1 a0_0),(.int .i64 n7)])])))))))))))))))))):=by kernel_rfl
theorem q4m.ev (n:Nat) (a0_0:List T) (a1:Int):q1m prog A H LIM n F.q4m [(.rref [(.sl 2 a0_0)] 0),(.int .i64 a1)]=((LIM F.q47 [(.int .i64 a1),(.int .i64 (0:Int)),(.int .i64 (IntKind.wrap .i64 (((((a0_0).length / 2):Nat):Int) - (1:Int))))]).bind fun r1=>((oNil r1.2).bind fun _=>((q3h r1.1).bind fun b2=>some ((.bool b2),[])))):=by kernel_rfl
theorem q9g.ev (n:Nat) (a0_0:List T) (a0_1:Int) (a1:List T):q1m prog A H LIM n F.q9g [(.rref [(.sl 1 a0_0),(.int .i64 a0_1)] 0),(.sl 1 a1)]=((LIM F.q1p [(.rref [(.sl 1 a0_0),(.int .i64 a0_1)] 0),(.int .i64 ((((a1).length / 1):Nat):Int))]).bind fun r1=>((q0i r1.2).bind fun p2=>((oNil p2.2).bind fun _=>((oAgg p2.1).bind fun c3=>((q0i c3).bind fun p4=>((oSl 1 p4.1).bind fun c5=>((q0i p4.2).bind fun p6=>((oInt .i64 p6.1).bind fun n7=>((oNil p6.2).bind fun _=>((oInt .i64 r1.1).bind fun n8=>((LIM F.q1p [(.rref [(.sl 1 a0_0),(.int .i64 n7)] 0),(.int .i64 ((((a1).length / 1):Nat):Int))]).bind fun r9=>((q0i r9.2).bind fun p10=>((oNil p10.2).bind fun _=>((oAgg p10.1).bind fun c11=>((q0i c11).bind fun p12=>((oSl 1 p12.1).bind fun c13=>((q0i p12.2).bind fun p14=>((oInt .i64 p14.1).bind fun n15=>((oNil p14.2).bind fun _=>((oInt .i64 r9.1).bind fun n16=>((LIM F.q1p [(.rref [(.sl 1 a0_0),(.int .i64 n15)] 0),(.int .i64 ((((a1).length / 1):Nat):Int))]).bind fun r17=>((q0i r17.2).bind fun p18=>((oNil p18.2).bind fun _=>((oAgg p18.1).bind fun c19=>((q0i c19).bind fun p20=>((oSl 1 p20.1).bind fun c21=>((q0i p20.2).bind fun p22=>((oInt .i64 p22.1).bind fun n23=>((oNil p22.2).bind fun _=>((oInt .i64 r17.1).bind fun n24=>((LIM F.q3s [(.rref [(.sl 1 a0_0),(.int .i64 n23)] 0),(.sl 1 [(.int .i64 (0:Int)),(.int .i64 (IntKind.wrap .i64 (((((a1).length / 1):Nat):Int) - (1:Int)))),(.int .i64 n8),(.int .i64 n16),(.int .i64 n24),(.int .i64 ((((a1).length / 1):Nat):Int)),(.int .i64 (-1:Int))])]).bind fun r25=>((q0i r25.2).bind fun p26=>((oNil p26.2).bind fun _=>((oAgg p26.1).bind fun c27=>((q0i c27).bind fun p28=>((oSl 1 p28.1).bind fun c29=>((q0i p28.2).bind fun p30=>((oInt .i64 p30.1).bind fun n31=>((oNil p30.2).bind fun _=>((oInt .i64 r25.1).bind fun n32=>some ((.int .i64 n32),[(.agg [(.sl 1 a0_0),(.int .i64 n31)])]))))))))))))))))))))))))))))))))))))))))):=by kernel_rfl
def q16.st1 (x0:Int) (x1:List T) (x2:Int) (x3:List T):St:=⟨[(0,(.one (.ptr 1000000 0))),(10,(.one (.obj 4224))),(11,oi x0)],[(1000000,(.box [(.kept 0 (.sl 1 x1)),(.t (.int .i64 x2))])),(4224,(.arr true true 1 x3))]⟩
noncomputable def q16.K1 (n:Nat):Ex→St→R:=kx F.q16 n [.block 1,.seq 0 (cx F.q16 [1,1,1,1,1,1,1])] (q3u prog A F.q16)
noncomputable def q16.at1 (n:Nat) (m:Nat) (s:St):R:=lx F.q16 n 1 [1,1,1,1,1,1,0,1,0,0] (q16.K1 n) m s
noncomputable def q16.rd1 (n:Nat) (L1:St→R) (s:St):R:=rx F.q16 n 1 [1,1,1,1,1,1,0,1,0,0] (q16.K1 n) L1 s
theorem q16.next1 (n:Nat) (m:Nat) (s:St):q16.at1 n (m+1) s=q16.rd1 n (q16.at1 n m) s:=nx _ _ _ _ _ _ _
theorem q16.round1 (n:Nat) (L1:St→R) (x0:Int) (x1:List T) (x2:Int) (x3:List T):q16.rd1 n L1 (q16.st1 x0 x1 x2 x3)=((LIM F.q3s [(.rref [(.sl 1 x1),(.int .i64 x2)] 0),(.sl 1 [(.int .i64 (24:Int)),(.int .i64 (25:Int))])]).bind fun r43=>((q0i r43.2).bind fun p44=>((oNil p44.2).bind fun _=>((oAgg p44.1).bind fun c45=>((q0i c45).bind fun p46=>((oSl 1 p46.1).bind fun c47=>((q0i p46.2).bind fun p48=>((oInt .i64 p48.1).bind fun n49=>((oNil p48.2).bind fun _=>((oInt .i64 r43.1).bind fun n50=>(bif (decide (x0 < n50)) then ((LIM F.q3s [(.rref [(.sl 1 x1),(.int .i64 n49)] 0),(.sl 1 [(.int .i64 (1:Int)),(.int .i64 (2:Int)),(.int .i64 (0:Int))])]).bind fun r51=>((q0i r51.2).bind fun p52=>((oNil p52.2).bind fun _=>((oAgg p52.1).bind fun c53=>((q0i c53).bind fun p54=>((oSl 1 p54.1).bind fun c55=>((q0i p54.2).bind fun p56=>((oInt .i64 p56.1).bind fun n57=>((oNil p56.2).bind fun _=>((oInt .i64 r51.1).bind fun n58=>(bif Nat.ble (((x3).length+1)*8) (140737488355328*1) then (L1 (q16.st1 (IntKind.wrap .i64 (x0+(1:Int))) x1 n57 (x3++[(.int .i64 n58)]:List T))) else none))))))))))) else some ((.sl 1 x3),[(.agg [(.sl 1 x1),(.int .i64 n49)])])))))))))))):=by kernel_rfl
theorem q16.ev (n:Nat) (a0_0:List T) (a0_1:Int) (a1_0:List T) (a2 a3:Int):q1m prog A H LIM n F.q16 [(.rref [(.sl 1 a0_0),(.int .i64 a0_1)] 0),(.rref [(.sl 2 a1_0)] 0),(.int .i64 a2),(.int .i64 a3)]=(bif (decide (((((a1_0).length / 2):Nat):Int) < (1:Int))) then some ((.sl 1 [(.int .i64 (0:Int))]),[(.agg [(.sl 1 a0_0),(.int .i64 a0_1)])]) else ((LIM F.q00 [(.agg [(.sl 2 a1_0)])]).bind fun r1=>((oNil r1.2).bind fun _=>((oInt .i64 r1.1).bind fun n2=>(bif ((n2 != (0:Int))) then some ((.sl 1 [(.int .i64 (0:Int))]),[(.agg [(.sl 1 a0_0),(.int .i64 a0_1)])]) else ((LIM F.q0f [(.rref [(.sl 1 a0_0),(.int .i64 a0_1)] 0),(.rref [(.sl 2 a1_0)] 0),(.int .i64 a2),(.int .i64 a3)]).bind fun r3=>((q0i r3.2).bind fun p4=>((oNil p4.2).bind fun _=>((oAgg p4.1).bind fun c5=>((q0i c5).bind fun p6=>((oSl 1 p6.1).bind fun c7=>((q0i p6.2).bind fun p8=>((oInt .i64 p8.1).bind fun n9=>((oNil p8.2).bind fun _=>((oSl 1 r3.1).bind fun c10=>((LIM F.q34 [(.rref [(.sl 1 a0_0),(.int .i64 n9)] 0),(.int .i64 (11:Int))]).bind fun r11=>((q0i r11.2).bind fun p12=>((oNil p12.2).bind fun _=>((oAgg p12.1).bind fun c13=>((q0i c13).bind fun p14=>((oSl 1 p14.1).bind fun c15=>((q0i p14.2).bind fun p16=>((oInt .i64 p16.1).bind fun n17=>((oNil p16.2).bind fun _=>((q3h r11.1).bind fun b18=>(bif (!b18) then some ((.sl 1 c10),[(.agg [(.sl 1 a0_0),(.int .i64 n17)])]) else ((LIM F.q1p [(.rref [(.sl 1 a0_0),(.int .i64 n17)] 0),(.int .i64 (4:Int))]).bind fun r19=>((q0i r19.2).bind fun p20=>((oNil p20.2).bind fun _=>((oAgg p20.1).bind fun c21=>((q0i c21).bind fun p22=>((oSl 1 p22.1).bind fun c23=>((q0i p22.2).bind fun p24=>((oInt .i64 p24.1).bind fun n25=>((oNil p24.2).bind fun _=>((oInt .i64 r19.1).bind fun n26=>(bif ((n26 == (0:Int))) then (bif decide (0≤(IntKind.wrap .i64 (((((c10).length / 1):Nat):Int) - (1:Int))))&&decide ((IntKind.wrap .i64 (((((c10).length / 1):Nat):Int) - (1:Int)))≤((((c10).length / 1):Nat):Int)) then some ((.sl 1 (c10.take ((Int.toNat (IntKind.wrap .i64 (((((c10).length / 1):Nat):Int) - (1:Int))))*1))),[(.agg [(.sl 1 a0_0),(.int .i64 n25)])]) else none) else (bif ((n26 == (1:Int))) then (bif Nat.ble (((c10).length+1)*8) (140737488355328*1) then some ((.sl 1 (c10++[(.int .i64 (0:Int))]:List T)),[(.agg [(.sl 1 a0_0),(.int .i64 n25)])]) else none) else (bif ((n26 == (2:Int))) then ((LIM F.q1p [(.rref [(.sl 1 a0_0),(.int .i64 n25)] 0),(.int .i64 ((((c10).length / 1):Nat):Int))]).bind fun r27=>((q0i r27.2).bind fun p28=>((oNil p28.2).bind fun _=>((oAgg p28.1).bind fun c29=>((q0i c29).bind fun p30=>((oSl 1 p30.1).bind fun c31=>((q0i p30.2).bind fun p32=>((oInt .i64 p32.1).bind fun n33=>((oNil p32.2).bind fun _=>((oInt .i64 r27.1).bind fun n34=>((LIM F.q3s [(.rref [(.sl 1 a0_0),(.int .i64 n33)] 0),(.sl 1 [(.int .i64 ((((a1_0).length / 2):Nat):Int)),(.int .i64 (-13:Int)),(.int .i64 (-12:Int))])]).bind fun r35=>((q0i r35.2).bind fun p36=>((oNil p36.2).bind fun _=>((oAgg p36.1).bind fun c37=>((q0i c37).bind fun p38=>((oSl 1 p38.1).bind fun c39=>((q0i p38.2).bind fun p40=>((oInt .i64 p40.1).bind fun n41=>((oNil p40.2).bind fun _=>((oInt .i64 r35.1).bind fun n42=>(bif inB n34 ((c10).length / 1) then (bif decide (((Int.toNat n34)*1)+1≤(c10).length) then some ((.sl 1 (setCells c10 ((Int.toNat n34)*1) [(.int .i64 n42)])),[(.agg [(.sl 1 a0_0),(.int .i64 n41)])]) else none) else none))))))))))))))))))))) else (q16.at1 n n (q16.st1 (0:Int) a0_0 n25 []))))))))))))))))))))))))))))))))))))))))):=by kernel_rfl
def q1k.st0 (x0:List T) (x1 x2 x3:Int):St:=⟨[(0,ol 1 x0),(1,oi x1),(5,oi x2),(6,oi x3)],[]⟩
noncomputable def q1k.K0 (n:Nat):Ex→St→R:=kx F.q1k n [.block 0,.seq 0 (cx F.q1k [1,1,1])] (q3u prog A F.q1k)
noncomputable def q1k.at0 (n:Nat) (m:Nat) (s:St):R:=lx F.q1k n 0 [1,1,0,1,0,0] (q1k.K0 n) m s
noncomputable def q1k.rd0 (n:Nat) (L0:St→R) (s:St):R:=rx F.q1k n 0 [1,1,0,1,0,0] (q1k.K0 n) L0 s
theorem q1k.next0 (n:Nat) (m:Nat) (s:St):q1k.at0 n (m+1) s=q1k.rd0 n (q1k.at0 n m) s:=nx _ _ _ _ _ _ _
theorem q1k.round0 (n:Nat) (L0:St→R) (x0:List T) (x1 x2 x3:Int):q1k.rd0 n L0 (q1k.st0 x0 x1 x2 x3)=(bif (decide (x3 < ((((x0).length / 1):Nat):Int))) then (bif inB x3 ((x0).length / 1) then ((x0[((Int.toNat x3)*1)]?).bind fun e1=>((oInt .i64 e1).bind fun n2=>(bif ((n2 == x1)) then (L0 (q1k.st0 x0 x1 (IntKind.wrap .i64 (x2+(1:Int))) (IntKind.wrap .i64 (x3+(1:Int))))) else (L0 (q1k.st0 x0 x1 x2 (IntKind.wrap .i64 (x3+(1:Int)))))))) else none) else some ((.int .i64 x2),[])):=by kernel_rfl
theorem q1k.ev (n:Nat) (a0:List T) (a1:Int):q1m prog A H LIM n F.q1k [(.sl 1 a0),(.int .i64 a1)]=(q1k.at0 n n (q1k.st0 a0 a1 (0:Int) (0:Int))):=by kernel_rfl
def q0f.st2 (x0:List T) (x1 x2 x3 x4 x5:Int) (x6:List T) (x7:Int):St:=⟨[(0,(.one (.ptr 1000000 0))),(1,(.one (.t (.rref [(.sl 2 x0)] 0)))),(2,oi x1),(3,oi x2),(9,oi x3),(10,oi x4),(12,oi x5)],[(1000000,(.box [(.kept 0 (.sl 1 x6)),(.t (.int .i64 x7))]))]⟩
def q0f.st0 (x0:List T) (x1 x2 x3 x4 x5:Int) (x6:List T) (x7:Int):St:=⟨[(0,(.one (.ptr 1000000 0))),(1,(.one (.t (.rref [(.sl 2 x0)] 0)))),(2,oi x1),(3,oi x2),(9,oi x3),(10,oi x4),(11,oi x5)],[(1000000,(.box [(.kept 0 (.sl 1 x6)),(.t (.int .i64 x7))]))]⟩
noncomputable def q0f.K0 (n:Nat):Ex→St→R:=kx F.q0f n [.block 0,.seq 0 (cx F.q0f [1,1,1,1,1])] (q3u prog A F.q0f)
noncomputable def q0f.at0 (n:Nat) (m:Nat) (s:St):R:=lx F.q0f n 0 [1,1,1,1,0,1,0,0] (q0f.K0 n) m s
noncomputable def q0f.rd0 (n:Nat) (L0:St→R) (s:St):R:=rx F.q0f n 0 [1,1,1,1,0,1,0,0] (q0f.K0 n) L0 s
theorem q0f.next0 (n:Nat) (m:Nat) (s:St):q0f.at0 n (m+1) s=q0f.rd0 n (q0f.at0 n m) s:=nx _ _ _ _ _ _ _
noncomputable def q0f.K2 (n:Nat):Ex→St→R:=kx F.q0f n [.block 2,.seq 0 (cx F.q0f [1,1,1,1,1,1])] (q3u prog A F.q0f)
noncomputable def q0f.at2 (n:Nat) (m:Nat) (s:St):R:=lx F.q0f n 2 [1,1,1,1,1,0,1,0,1,0,0] (q0f.K2 n) m s
noncomputable def q0f.rd2 (n:Nat) (L2:St→R) (s:St):R:=rx F.q0f n 2 [1,1,1,1,1,0,1,0,1,0,0] (q0f.K2 n) L2 s
theorem q0f.next2 (n:Nat) (m:Nat) (s:St):q0f.at2 n (m+1) s=q0f.rd2 n (q0f.at2 n m) s:=nx _ _ _ _ _ _ _
theorem q0f.round0 (n:Nat) (L0:St→R) (x0:List T) (x1 x2 x3 x4 x5:Int) (x6:List T) (x7:Int):q0f.rd0 n L0 (q0f.st0 x0 x1 x2 x3 x4 x5 x6 x7)=(bif (decide (x5 < x3)) then (bif inB x4 ((x0).length / 2) then ((x0[(((Int.toNat x4)*2)+1)]?).bind fun e41=>((oInt .i64 e41).bind fun n42=>(bif (decide (n42 ≥ x1)) then (bif decide (x3=0) then none else (L0 (q0f.st0 x0 x1 x2 x3 (Int.tmod (IntKind.wrap .i64 (x4+(1:Int))) x3) (IntKind.wrap .i64 (x5+(1:Int))) x6 x7))) else (bif (decide (x1 < (2:Int))) then (q0f.at2 n n (q0f.st2 x0 x1 x2 x3 x4 (0:Int) x6 x7)) else (bif inB x4 ((x0).length / 2) then ((x0[(((Int.toNat x4)*2)+1)]?).bind fun e97=>((oInt .i64 e97).bind fun n98=>(bif ((n98 == (1:Int))) then ((LIM F.q0f [(.rref [(.sl 1 x6),(.int .i64 x7)] 0),(.rref [(.sl 2 x0)] 0),(.int .i64 (IntKind.wrap .i64 (x1 - (1:Int)))),(.int .i64 x2)]).bind fun r99=>((q0i r99.2).bind fun p100=>((oNil p100.2).bind fun _=>((oAgg p100.1).bind fun c101=>((q0i c101).bind fun p102=>((oSl 1 p102.1).bind fun c103=>((q0i p102.2).bind fun p104=>((oInt .i64 p104.1).bind fun n105=>((oNil p104.2).bind fun _=>((oSl 1 r99.1).bind fun c106=>(bif (c106).all T.scalar then (bif Nat.ble ((1+(c106).length)*8) (140737488355328*1) then some ((.sl 1 ([(.int .i64 x4)]++c106:List T)),[(.agg [(.sl 1 x6),(.int .i64 n105)])]) else none) else none))))))))))) else (bif ((n98 == (2:Int))) then ((LIM F.q0f [(.rref [(.sl 1 x6),(.int .i64 x7)] 0),(.rref [(.sl 2 x0)] 0),(.int .i64 (IntKind.wrap .i64 (x1 - (2:Int)))),(.int .i64 x2)]).bind fun r107=>((q0i r107.2).bind fun p108=>((oNil p108.2).bind fun _=>((oAgg p108.1).bind fun c109=>((q0i c109).bind fun p110=>((oSl 1 p110.1).bind fun c111=>((q0i p110.2).bind fun p112=>((oInt .i64 p112.1).bind fun n113=>((oNil p112.2).bind fun _=>((oSl 1 r107.1).bind fun c114=>(bif (c114).all T.scalar then (bif Nat.ble ((1+(c114).length)*8) (140737488355328*1) then ((LIM F.q0f [(.rref [(.sl 1 x6),(.int .i64 n113)] 0),(.rref [(.sl 2 x0)] 0),(.int .i64 (IntKind.wrap .i64 ((IntKind.wrap .i64 (x1 - (1:Int))) - ((((c114).length / 1):Nat):Int)))),(.int .i64 x2)]).bind fun r115=>((q0i r115.2).bind fun p116=>((oNil p116.2).bind fun _=>((oAgg p116.1).bind fun c117=>((q0i c117).bind fun p118=>((oSl 1 p118.1).bind fun c119=>((q0i p118.2).bind fun p120=>((oInt .i64 p120.1).bind fun n121=>((oNil p120.2).bind fun _=>((oSl 1 r115.1).bind fun c122=>(bif (c122).all T.scalar then (bif Nat.ble (((([(.int .i64 x4)]++c114:List T)).length+(c122).length)*8) (140737488355328*1) then some ((.sl 1 (([(.int .i64 x4)]++c114:List T)++c122:List T)),[(.agg [(.sl 1 x6),(.int .i64 n121)])]) else none) else none))))))))))) else none) else none))))))))))) else some ((.sl 1 [(.int .i64 x4)]),[(.agg [(.sl 1 x6),(.int .i64 x7)])]))))) else none))))) else none) else (bif (decide (x1 < (2:Int))) then (q0f.at2 n n (q0f.st2 x0 x1 x2 x3 x4 (0:Int) x6 x7)) else (bif inB x4 ((x0).length / 2) then ((x0[(((Int.toNat x4)*2)+1)]?).bind fun e123=>((oInt .i64 e123).bind fun n124=>(bif ((n124 == (1:Int))) then ((LIM F.q0f [(.rref [(.sl 1 x6),(.int .i64 x7)] 0),(.rref [(.sl 2 x0)] 0),(.int .i64 (IntKind.wrap .i64 (x1 - (1:Int)))),(.int .i64 x2)]).bind fun r125=>((q0i r125.2).bind fun p126=>((oNil p126.2).bind fun _=>((oAgg p126.1).bind fun c127=>((q0i c127).bind fun p128=>((oSl 1 p128.1).bind fun c129=>((q0i p128.2).bind fun p130=>((oInt .i64 p130.1).bind fun n131=>((oNil p130.2).bind fun _=>((oSl 1 r125.1).bind fun c132=>(bif (c132).all T.scalar then (bif Nat.ble ((1+(c132).length)*8) (140737488355328*1) then some ((.sl 1 ([(.int .i64 x4)]++c132:List T)),[(.agg [(.sl 1 x6),(.int .i64 n131)])]) else none) else none))))))))))) else (bif ((n124 == (2:Int))) then ((LIM F.q0f [(.rref [(.sl 1 x6),(.int .i64 x7)] 0),(.rref [(.sl 2 x0)] 0),(.int .i64 (IntKind.wrap .i64 (x1 - (2:Int)))),(.int .i64 x2)]).bind fun r133=>((q0i r133.2).bind fun p134=>((oNil p134.2).bind fun _=>((oAgg p134.1).bind fun c135=>((q0i c135).bind fun p136=>((oSl 1 p136.1).bind fun c137=>((q0i p136.2).bind fun p138=>((oInt .i64 p138.1).bind fun n139=>((oNil p138.2).bind fun _=>((oSl 1 r133.1).bind fun c140=>(bif (c140).all T.scalar then (bif Nat.ble ((1+(c140).length)*8) (140737488355328*1) then ((LIM F.q0f [(.rref [(.sl 1 x6),(.int .i64 n139)] 0),(.rref [(.sl 2 x0)] 0),(.int .i64 (IntKind.wrap .i64 ((IntKind.wrap .i64 (x1 - (1:Int))) - ((((c140).length / 1):Nat):Int)))),(.int .i64 x2)]).bind fun r141=>((q0i r141.2).bind fun p142=>((oNil p142.2).bind fun _=>((oAgg p142.1).bind fun c143=>((q0i c143).bind fun p144=>((oSl 1 p144.1).bind fun c145=>((q0i p144.2).bind fun p146=>((oInt .i64 p146.1).bind fun n147=>((oNil p146.2).bind fun _=>((oSl 1 r141.1).bind fun c148=>(bif (c148).all T.scalar then (bif Nat.ble (((([(.int .i64 x4)]++c140:List T)).length+(c148).length)*8) (140737488355328*1) then some ((.sl 1 (([(.int .i64 x4)]++c140:List T)++c148:List T)),[(.agg [(.sl 1 x6),(.int .i64 n147)])]) else none) else none))))))))))) else none) else none))))))))))) else some ((.sl 1 [(.int .i64 x4)]),[(.agg [(.sl 1 x6),(.int .i64 x7)])]))))) else none))):=by kernel_rfl
theorem q0f.round2 (n:Nat) (L2:St→R) (x0:List T) (x1 x2 x3 x4 x5:Int) (x6:List T) (x7:Int):q0f.rd2 n L2 (q0f.st2 x0 x1 x2 x3 x4 x5 x6 x7)=(bif (decide (x5 < x3)) then (bif inB x4 ((x0).length / 2) then ((x0[(((Int.toNat x4)*2)+1)]?).bind fun e43=>((oInt .i64 e43).bind fun n44=>(bif (decide (n44 > (0:Int))) then (bif decide (x3=0) then none else (L2 (q0f.st2 x0 x1 x2 x3 (Int.tmod (IntKind.wrap .i64 (x4+(1:Int))) x3) (IntKind.wrap .i64 (x5+(1:Int))) x6 x7))) else (bif inB x4 ((x0).length / 2) then ((x0[(((Int.toNat x4)*2)+1)]?).bind fun e45=>((oInt .i64 e45).bind fun n46=>(bif ((n46 == (1:Int))) then ((LIM F.q0f [(.rref [(.sl 1 x6),(.int .i64 x7)] 0),(.rref [(.sl 2 x0)] 0),(.int .i64 (IntKind.wrap .i64 (x1 - (1:Int)))),(.int .i64 x2)]).bind fun r47=>((q0i r47.2).bind fun p48=>((oNil p48.2).bind fun _=>((oAgg p48.1).bind fun c49=>((q0i c49).bind fun p50=>((oSl 1 p50.1).bind fun c51=>((q0i p50.2).bind fun p52=>((oInt .i64 p52.1).bind fun n53=>((oNil p52.2).bind fun _=>((oSl 1 r47.1).bind fun c54=>(bif (c54).all T.scalar then (bif Nat.ble ((1+(c54).length)*8) (140737488355328*1) then some ((.sl 1 ([(.int .i64 x4)]++c54:List T)),[(.agg [(.sl 1 x6),(.int .i64 n53)])]) else none) else none))))))))))) else (bif ((n46 == (2:Int))) then ((LIM F.q0f [(.rref [(.sl 1 x6),(.int .i64 x7)] 0),(.rref [(.sl 2 x0)] 0),(.int .i64 (IntKind.wrap .i64 (x1 - (2:Int)))),(.int .i64 x2)]).bind fun r55=>((q0i r55.2).bind fun p56=>((oNil p56.2).bind fun _=>((oAgg p56.1).bind fun c57=>((q0i c57).bind fun p58=>((oSl 1 p58.1).bind fun c59=>((q0i p58.2).bind fun p60=>((oInt .i64 p60.1).bind fun n61=>((oNil p60.2).bind fun _=>((oSl 1 r55.1).bind fun c62=>(bif (c62).all T.scalar then (bif Nat.ble ((1+(c62).length)*8) (140737488355328*1) then ((LIM F.q0f [(.rref [(.sl 1 x6),(.int .i64 n61)] 0),(.rref [(.sl 2 x0)] 0),(.int .i64 (IntKind.wrap .i64 ((IntKind.wrap .i64 (x1 - (1:Int))) - ((((c62).length / 1):Nat):Int)))),(.int .i64 x2)]).bind fun r63=>((q0i r63.2).bind fun p64=>((oNil p64.2).bind fun _=>((oAgg p64.1).bind fun c65=>((q0i c65).bind fun p66=>((oSl 1 p66.1).bind fun c67=>((q0i p66.2).bind fun p68=>((oInt .i64 p68.1).bind fun n69=>((oNil p68.2).bind fun _=>((oSl 1 r63.1).bind fun c70=>(bif (c70).all T.scalar then (bif Nat.ble (((([(.int .i64 x4)]++c62:List T)).length+(c70).length)*8) (140737488355328*1) then some ((.sl 1 (([(.int .i64 x4)]++c62:List T)++c70:List T)),[(.agg [(.sl 1 x6),(.int .i64 n69)])]) else none) else none))))))))))) else none) else none))))))))))) else some ((.sl 1 [(.int .i64 x4)]),[(.agg [(.sl 1 x6),(.int .i64 x7)])]))))) else none)))) else none) else (bif inB x4 ((x0).length / 2) then ((x0[(((Int.toNat x4)*2)+1)]?).bind fun e71=>((oInt .i64 e71).bind fun n72=>(bif ((n72 == (1:Int))) then ((LIM F.q0f [(.rref [(.sl 1 x6),(.int .i64 x7)] 0),(.rref [(.sl 2 x0)] 0),(.int .i64 (IntKind.wrap .i64 (x1 - (1:Int)))),(.int .i64 x2)]).bind fun r73=>((q0i r73.2).bind fun p74=>((oNil p74.2).bind fun _=>((oAgg p74.1).bind fun c75=>((q0i c75).bind fun p76=>((oSl 1 p76.1).bind fun c77=>((q0i p76.2).bind fun p78=>((oInt .i64 p78.1).bind fun n79=>((oNil p78.2).bind fun _=>((oSl 1 r73.1).bind fun c80=>(bif (c80).all T.scalar then (bif Nat.ble ((1+(c80).length)*8) (140737488355328*1) then some ((.sl 1 ([(.int .i64 x4)]++c80:List T)),[(.agg [(.sl 1 x6),(.int .i64 n79)])]) else none) else none))))))))))) else (bif ((n72 == (2:Int))) then ((LIM F.q0f [(.rref [(.sl 1 x6),(.int .i64 x7)] 0),(.rref [(.sl 2 x0)] 0),(.int .i64 (IntKind.wrap .i64 (x1 - (2:Int)))),(.int .i64 x2)]).bind fun r81=>((q0i r81.2).bind fun p82=>((oNil p82.2).bind fun _=>((oAgg p82.1).bind fun c83=>((q0i c83).bind fun p84=>((oSl 1 p84.1).bind fun c85=>((q0i p84.2).bind fun p86=>((oInt .i64 p86.1).bind fun n87=>((oNil p86.2).bind fun _=>((oSl 1 r81.1).bind fun c88=>(bif (c88).all T.scalar then (bif Nat.ble ((1+(c88).length)*8) (140737488355328*1) then ((LIM F.q0f [(.rref [(.sl 1 x6),(.int .i64 n87)] 0),(.rref [(.sl 2 x0)] 0),(.int .i64 (IntKind.wrap .i64 ((IntKind.wrap .i64 (x1 - (1:Int))) - ((((c88).length / 1):Nat):Int)))),(.int .i64 x2)]).bind fun r89=>((q0i r89.2).bind fun p90=>((oNil p90.2).bind fun _=>((oAgg p90.1).bind fun c91=>((q0i c91).bind fun p92=>((oSl 1 p92.1).bind fun c93=>((q0i p92.2).bind fun p94=>((oInt .i64 p94.1).bind fun n95=>((oNil p94.2).bind fun _=>((oSl 1 r89.1).bind fun c96=>(bif (c96).all T.scalar then (bif Nat.ble (((([(.int .i64 x4)]++c88:List T)).length+(c96).length)*8) (140737488355328*1) then some ((.sl 1 (([(.int .i64 x4)]++c88:List T)++c96:List T)),[(.agg [(.sl 1 x6),(.int .i64 n95)])]) else none) else none))))))))))) else none) else none))))))))))) else some ((.sl 1 [(.int .i64 x4)]),[(.agg [(.sl 1 x6),(.int .i64 x7)])]))))) else none)):=by kernel_rfl
theorem q0f.ev (n:Nat) (a0_0:List T) (a0_1:Int) (a1_0:List T) (a2 a3:Int):q1m prog A H LIM n F.q0f [(.rref [(.sl 1 a0_0),(.int .i64 a0_1)] 0),(.rref [(.sl 2 a1_0)] 0),(.int .i64 a2),(.int .i64 a3)]=(bif (decide (a3 > (0:Int))) then (bif (decide (a2 < (2:Int))) then ((LIM F.q34 [(.rref [(.sl 1 a0_0),(.int .i64 a0_1)] 0),(.int .i64 (2:Int))]).bind fun r1=>((q0i r1.2).bind fun p2=>((oNil p2.2).bind fun _=>((oAgg p2.1).bind fun c3=>((q0i c3).bind fun p4=>((oSl 1 p4.1).bind fun c5=>((q0i p4.2).bind fun p6=>((oInt .i64 p6.1).bind fun n7=>((oNil p6.2).bind fun _=>((q3h r1.1).bind fun b8=>(bif b8 then ((LIM F.q1p [(.rref [(.sl 1 a0_0),(.int .i64 n7)] 0),(.int .i64 a3)]).bind fun r9=>((q0i r9.2).bind fun p10=>((oNil p10.2).bind fun _=>((oAgg p10.1).bind fun c11=>((q0i c11).bind fun p12=>((oSl 1 p12.1).bind fun c13=>((q0i p12.2).bind fun p14=>((oInt .i64 p14.1).bind fun n15=>((oNil p14.2).bind fun _=>((oInt .i64 r9.1).bind fun n16=>some ((.sl 1 [(.int .i64 (IntKind.wrap .i64 ((-1:Int) - n16)))]),[(.agg [(.sl 1 a0_0),(.int .i64 n15)])]))))))))))) else ((LIM F.q34 [(.rref [(.sl 1 a0_0),(.int .i64 n7)] 0),(.int .i64 (4:Int))]).bind fun r17=>((q0i r17.2).bind fun p18=>((oNil p18.2).bind fun _=>((oAgg p18.1).bind fun c19=>((q0i c19).bind fun p20=>((oSl 1 p20.1).bind fun c21=>((q0i p20.2).bind fun p22=>((oInt .i64 p22.1).bind fun n23=>((oNil p22.2).bind fun _=>((q3h r17.1).bind fun b24=>(bif b24 then ((LIM F.q1p [(.rref [(.sl 1 a0_0),(.int .i64 n23)] 0),(.int .i64 a3)]).bind fun r25=>((q0i r25.2).bind fun p26=>((oNil p26.2).bind fun _=>((oAgg p26.1).bind fun c27=>((q0i c27).bind fun p28=>((oSl 1 p28.1).bind fun c29=>((q0i p28.2).bind fun p30=>((oInt .i64 p30.1).bind fun n31=>((oNil p30.2).bind fun _=>((oInt .i64 r25.1).bind fun n32=>some ((.sl 1 [(.int .i64 (IntKind.wrap .i64 ((-1:Int) - n32)))]),[(.agg [(.sl 1 a0_0),(.int .i64 n31)])]))))))))))) else ((LIM F.q1p [(.rref [(.sl 1 a0_0),(.int .i64 n23)] 0),(.int .i64 ((((a1_0).length / 2):Nat):Int))]).bind fun r33=>((q0i r33.2).bind fun p34=>((oNil p34.2).bind fun _=>((oAgg p34.1).bind fun c35=>((q0i c35).bind fun p36=>((oSl 1 p36.1).bind fun c37=>((q0i p36.2).bind fun p38=>((oInt .i64 p38.1).bind fun n39=>((oNil p38.2).bind fun _=>((oInt .i64 r33.1).bind fun n40=>(q0f.at0 n n (q0f.st0 a1_0 a2 a3 ((((a1_0).length / 2):Nat):Int) n40 (0:Int) a0_0 n39)))))))))))))))))))))))))))))))))) else ((LIM F.q34 [(.rref [(.sl 1 a0_0),(.int .i64 a0_1)] 0),(.int .i64 (4:Int))]).bind fun r149=>((q0i r149.2).bind fun p150=>((oNil p150.2).bind fun _=>((oAgg p150.1).bind fun c151=>((q0i c151).bind fun p152=>((oSl 1 p152.1).bind fun c153=>((q0i p152.2).bind fun p154=>((oInt .i64 p154.1).bind fun n155=>((oNil p154.2).bind fun _=>((q3h r149.1).bind fun b156=>(bif b156 then ((LIM F.q1p [(.rref [(.sl 1 a0_0),(.int .i64 n155)] 0),(.int .i64 a3)]).bind fun r157=>((q0i r157.2).bind fun p158=>((oNil p158.2).bind fun _=>((oAgg p158.1).bind fun c159=>((q0i c159).bind fun p160=>((oSl 1 p160.1).bind fun c161=>((q0i p160.2).bind fun p162=>((oInt .i64 p162.1).bind fun n163=>((oNil p162.2).bind fun _=>((oInt .i64 r157.1).bind fun n164=>some ((.sl 1 [(.int .i64 (IntKind.wrap .i64 ((-1:Int) - n164)))]),[(.agg [(.sl 1 a0_0),(.int .i64 n163)])]))))))))))) else ((LIM F.q1p [(.rref [(.sl 1 a0_0),(.int .i64 n155)] 0),(.int .i64 ((((a1_0).length / 2):Nat):Int))]).bind fun r165=>((q0i r165.2).bind fun p166=>((oNil p166.2).bind fun _=>((oAgg p166.1).bind fun c167=>((q0i c167).bind fun p168=>((oSl 1 p168.1).bind fun c169=>((q0i p168.2).bind fun p170=>((oInt .i64 p170.1).bind fun n171=>((oNil p170.2).bind fun _=>((oInt .i64 r165.1).bind fun n172=>(q0f.at0 n n (q0f.st0 a1_0 a2 a3 ((((a1_0).length / 2):Nat):Int) n172 (0:Int) a0_0 n171)))))))))))))))))))))))) else ((LIM F.q1p [(.rref [(.sl 1 a0_0),(.int .i64 a0_1)] 0),(.int .i64 ((((a1_0).length / 2):Nat):Int))]).bind fun r173=>((q0i r173.2).bind fun p174=>((oNil p174.2).bind fun _=>((oAgg p174.1).bind fun c175=>((q0i c175).bind fun p176=>((oSl 1 p176.1).bind fun c177=>((q0i p176.2).bind fun p178=>((oInt .i64 p178.1).bind fun n179=>((oNil p178.2).bind fun _=>((oInt .i64 r173.1).bind fun n180=>(q0f.at0 n n (q0f.st0 a1_0 a2 a3 ((((a1_0).length / 2):Nat):Int) n180 (0:Int) a0_0 n179))))))))))))):=by kernel_rfl
def q1v.st0 (x0 x1:List T) (x2 x3 x4:Int):St:=⟨[(0,(.one (.t (.rref [(.sl 2 x0)] 0)))),(1,ol 1 x1),(2,oi x2),(7,oi x3),(8,oi x4)],[]⟩
noncomputable def q1v.K0 (n:Nat):Ex→St→R:=kx F.q1v n [.block 0,.seq 0 (cx F.q1v [1,1,1,1,1])] (q3u prog A F.q1v)
noncomputable def q1v.at0 (n:Nat) (m:Nat) (s:St):R:=lx F.q1v n 0 [1,1,1,1,0,1,0,0] (q1v.K0 n) m s
noncomputable def q1v.rd0 (n:Nat) (L0:St→R) (s:St):R:=rx F.q1v n 0 [1,1,1,1,0,1,0,0] (q1v.K0 n) L0 s
theorem q1v.next0 (n:Nat) (m:Nat) (s:St):q1v.at0 n (m+1) s=q1v.rd0 n (q1v.at0 n m) s:=nx _ _ _ _ _ _ _
theorem q1v.round0 (n:Nat) (L0:St→R) (x0 x1:List T) (x2 x3 x4:Int):q1v.rd0 n L0 (q1v.st0 x0 x1 x2 x3 x4)=(bif inB x2 ((x1).length / 1) then ((x1[((Int.toNat x2)*1)]?).bind fun e3=>((oInt .i64 e3).bind fun n4=>(bif inB n4 ((x0).length / 2) then ((x0[(((Int.toNat n4)*2)+1)]?).bind fun e5=>((oInt .i64 e5).bind fun n6=>(bif (decide (x4 < n6)) then ((LIM F.q1v [(.rref [(.sl 2 x0)] 0),(.sl 1 x1),(.int .i64 x3)]).bind fun r7=>((oNil r7.2).bind fun _=>((oInt .i64 r7.1).bind fun n8=>(bif (decide (n8 < (0:Int))) then some ((.int .i64 (-1:Int)),[]) else (L0 (q1v.st0 x0 x1 x2 n8 (IntKind.wrap .i64 (x4+(1:Int))))))))) else some ((.int .i64 x3),[])))) else none))) else none):=by kernel_rfl
theorem q1v.ev (n:Nat) (a0_0 a1:List T) (a2:Int):q1m prog A H LIM n F.q1v [(.rref [(.sl 2 a0_0)] 0),(.sl 1 a1),(.int .i64 a2)]=(bif (decide (a2 ≥ ((((a1).length / 1):Nat):Int))) then some ((.int .i64 (-1:Int)),[]) else (bif inB a2 ((a1).length / 1) then ((a1[((Int.toNat a2)*1)]?).bind fun e1=>((oInt .i64 e1).bind fun n2=>(bif (decide (n2 < (0:Int))) then some ((.int .i64 (IntKind.wrap .i64 (a2+(1:Int)))),[]) else (q1v.at0 n n (q1v.st0 a0_0 a1 a2 (IntKind.wrap .i64 (a2+(1:Int))) (0:Int)))))) else none)):=by kernel_rfl
def q17.st0 (x0 x1:List T) (x2:Int):St:=⟨[(0,(.one (.t (.rref [(.sl 2 x0)] 0)))),(1,ol 1 x1),(5,oi x2)],[]⟩
noncomputable def q17.K0 (n:Nat):Ex→St→R:=kx F.q17 n [.block 0,.seq 0 (cx F.q17 [1,1,1])] (q3u prog A F.q17)
noncomputable def q17.at0 (n:Nat) (m:Nat) (s:St):R:=lx F.q17 n 0 [1,1,0,1,0,0] (q17.K0 n) m s
noncomputable def q17.rd0 (n:Nat) (L0:St→R) (s:St):R:=rx F.q17 n 0 [1,1,0,1,0,0] (q17.K0 n) L0 s
theorem q17.next0 (n:Nat) (m:Nat) (s:St):q17.at0 n (m+1) s=q17.rd0 n (q17.at0 n m) s:=nx _ _ _ _ _ _ _
theorem q17.round0 (n:Nat) (L0:St→R) (x0 x1:List T) (x2:Int):q17.rd0 n L0 (q17.st0 x0 x1 x2)=(bif (decide (x2 < ((((x1).length / 1):Nat):Int))) then (bif inB x2 ((x1).length / 1) then ((x1[((Int.toNat x2)*1)]?).bind fun e1=>((oInt .i64 e1).bind fun n2=>((LIM F.q7o [(.rref [(.sl 2 x0)] 0),(.int .i64 n2)]).bind fun r3=>((oNil r3.2).bind fun _=>((q3h r3.1).bind fun b4=>(bif (!b4) then some ((.int .i64 (3:Int)),[]) else (L0 (q17.st0 x0 x1 (IntKind.wrap .i64 (x2+(1:Int))))))))))) else none) else ((LIM F.q1v [(.rref [(.sl 2 x0)] 0),(.sl 1 x1),(.int .i64 (0:Int))]).bind fun r5=>((oNil r5.2).bind fun _=>((oInt .i64 r5.1).bind fun n6=>(bif ((n6 != ((((x1).length / 1):Nat):Int))) then some ((.int .i64 (1:Int)),[]) else some ((.int .i64 (0:Int)),[])))))):=by kernel_rfl
theorem q17.ev (n:Nat) (a0_0 a1:List T):q1m prog A H LIM n F.q17 [(.rref [(.sl 2 a0_0)] 0),(.sl 1 a1)]=(bif (decide (((((a1).length / 1):Nat):Int) < (1:Int))) then some ((.int .i64 (2:Int)),[]) else (bif (decide (((((a1).length / 1):Nat):Int) > (24:Int))) then some ((.int .i64 (2:Int)),[]) else (q17.at0 n n (q17.st0 a0_0 a1 (0:Int))))):=by kernel_rfl
theorem q7o.ev (n:Nat) (a0_0:List T) (a1:Int):q1m prog A H LIM n F.q7o [(.rref [(.sl 2 a0_0)] 0),(.int .i64 a1)]=((LIM F.q4m [(.rref [(.sl 2 a0_0)] 0),(.int .i64 a1)]).bind fun r1=>((oNil r1.2).bind fun _=>((q3h r1.1).bind fun b2=>(bif b2 then some ((.bool true),[]) else ((LIM F.q47 [(.int .i64 a1),(.int .i64 (-12:Int)),(.int .i64 (-1:Int))]).bind fun r3=>((oNil r3.2).bind fun _=>((q3h r3.1).bind fun b4=>some ((.bool b4),[])))))))):=by kernel_rfl
theorem q77.ev (n:Nat) (a0:List T) (a1:Int):q1m prog A H LIM n F.q77 [(.sl 1 a0),(.int .i64 a1)]=((LIM F.q47 [(.int .i64 a1),(.int .i64 (0:Int)),(.int .i64 (IntKind.wrap .i64 (((((a0).length / 1):Nat):Int) - (1:Int))))]).bind fun r1=>((oNil r1.2).bind fun _=>((q3h r1.1).bind fun b2=>some ((.bool b2),[])))):=by kernel_rfl
theorem q5x.ev (n:Nat) (a0_0 a1:List T) (a2:Int) (a3:List T):q1m prog A H LIM n F.q5x [(.rref [(.sl 2 a0_0)] 0),(.sl 1 a1),(.int .i64 a2),(.sl 1 a3)]=(bif decide (0≤(0:Int))&&decide ((0:Int)≤a2)&&decide (a2≤((((a1).length / 1):Nat):Int)) then ((LIM F.q2s [(.sl 1 ((a1.take ((Int.toNat a2)*1)).drop (0*1)))]).bind fun r1=>((oNil r1.2).bind fun _=>((oSl 1 r1.1).bind fun c2=>(bif (a3).all T.scalar then (bif Nat.ble (((c2).length+(a3).length)*8) (140737488355328*1) then ((LIM F.q1v [(.rref [(.sl 2 a0_0)] 0),(.sl 1 a1),(.int .i64 a2)]).bind fun r3=>((oNil r3.2).bind fun _=>((oInt .i64 r3.1).bind fun n4=>(bif decide (0≤n4)&&decide (n4≤((((a1).length / 1):Nat):Int))&&decide (((((a1).length / 1):Nat):Int)≤((((a1).length / 1):Nat):Int)) then (bif (((a1.take ((Int.toNat ((((a1).length / 1):Nat):Int))*1)).drop ((Int.toNat n4)*1))).all T.scalar then (bif Nat.ble ((((c2++a3:List T)).length+(((a1.take ((Int.toNat ((((a1).length / 1):Nat):Int))*1)).drop ((Int.toNat n4)*1))).length)*8) (140737488355328*1) then some ((.sl 1 ((c2++a3:List T)++((a1.take ((Int.toNat ((((a1).length / 1):Nat):Int))*1)).drop ((Int.toNat n4)*1)):List T)),[]) else none) else none) else none)))) else none) else none)))) else none):=by kernel_rfl
theorem q64.ev (n:Nat) (a0_0 a1:List T) (a2:Int):q1m prog A H LIM n F.q64 [(.rref [(.sl 2 a0_0)] 0),(.sl 1 a1),(.int .i64 a2)]=((LIM F.q1v [(.rref [(.sl 2 a0_0)] 0),(.sl 1 a1),(.int .i64 a2)]).bind fun r1=>((oNil r1.2).bind fun _=>((oInt .i64 r1.1).bind fun n2=>(bif decide (0≤a2)&&decide (a2≤n2)&&decide (n2≤((((a1).length / 1):Nat):Int)) then ((LIM F.q2s [(.sl 1 ((a1.take ((Int.toNat n2)*1)).drop ((Int.toNat a2)*1)))]).bind fun r3=>((oNil r3.2).bind fun _=>((oSl 1 r3.1).bind fun c4=>some ((.sl 1 c4),[])))) else none)))):=by kernel_rfl
theorem q3g.ev (n:Nat) (a0_0:List T) (a0_1:Int) (a1_0:List T):q1m prog A H LIM n F.q3g [(.rref [(.sl 1 a0_0),(.int .i64 a0_1)] 0),(.rref [(.sl 2 a1_0)] 0)]=((LIM F.q00 [(.agg [(.sl 2 a1_0)])]).bind fun r1=>((oNil r1.2).bind fun _=>((oInt .i64 r1.1).bind fun n2=>(bif ((n2 != (0:Int))) then some ((.agg [(.sl 1 [(.int .i64 (0:Int))]),(.sl 1 [(.int .i64 (0:Int))])]),[(.agg [(.sl 1 a0_0),(.int .i64 a0_1)])]) else ((LIM F.q34 [(.rref [(.sl 1 a0_0),(.int .i64 a0_1)] 0),(.int .i64 (6:Int))]).bind fun r3=>((q0i r3.2).bind fun p4=>((oNil p4.2).bind fun _=>((oAgg p4.1).bind fun c5=>((q0i c5).bind fun p6=>((oSl 1 p6.1).bind fun c7=>((q0i p6.2).bind fun p8=>((oInt .i64 p8.1).bind fun n9=>((oNil p8.2).bind fun _=>((q3h r3.1).bind fun b10=>(bif b10 then ((LIM F.q16 [(.rref [(.sl 1 a0_0),(.int .i64 n9)] 0),(.rref [(.sl 2 a1_0)] 0),(.int .i64 (9:Int)),(.int .i64 (7:Int))]).bind fun r11=>((q0i r11.2).bind fun p12=>((oNil p12.2).bind fun _=>((oAgg p12.1).bind fun c13=>((q0i c13).bind fun p14=>((oSl 1 p14.1).bind fun c15=>((q0i p14.2).bind fun p16=>((oInt .i64 p16.1).bind fun n17=>((oNil p16.2).bind fun _=>((oSl 1 r11.1).bind fun c18=>((LIM F.q16 [(.rref [(.sl 1 a0_0),(.int .i64 n17)] 0),(.rref [(.sl 2 a1_0)] 0),(.int .i64 (5:Int)),(.int .i64 (12:Int))]).bind fun r19=>((q0i r19.2).bind fun p20=>((oNil p20.2).bind fun _=>((oAgg p20.1).bind fun c21=>((q0i c21).bind fun p22=>((oSl 1 p22.1).bind fun c23=>((q0i p22.2).bind fun p24=>((oInt .i64 p24.1).bind fun n25=>((oNil p24.2).bind fun _=>((oSl 1 r19.1).bind fun c26=>some ((.agg [(.sl 1 c18),(.sl 1 c26)]),[(.agg [(.sl 1 a0_0),(.int .i64 n25)])]))))))))))))))))))))) else ((LIM F.q5u [(.rref [(.sl 1 a0_0),(.int .i64 n9)] 0),(.rref [(.sl 2 a1_0)] 0)]).bind fun r27=>((q0i r27.2).bind fun p28=>((oNil p28.2).bind fun _=>((oAgg p28.1).bind fun c29=>((q0i c29).bind fun p30=>((oSl 1 p30.1).bind fun c31=>((q0i p30.2).bind fun p32=>((oInt .i64 p32.1).bind fun n33=>((oNil p32.2).bind fun _=>((oAgg r27.1).bind fun c34=>((q0i c34).bind fun p35=>((oSl 1 p35.1).bind fun c36=>((q0i p35.2).bind fun p37=>((oSl 1 p37.1).bind fun c38=>((oNil p37.2).bind fun _=>some ((.agg [(.sl 1 c36),(.sl 1 c38)]),[(.agg [(.sl 1 a0_0),(.int .i64 n33)])]))))))))))))))))))))))))))))))):=by kernel_rfl
theorem q6j.ev (n:Nat) (a0_0 a0_1:List T):q1m prog A H LIM n F.q6j [(.rref [(.sl 1 a0_0),(.sl 1 a0_1)] 0)]=((LIM F.q2s [(.sl 1 a0_0)]).bind fun r1=>((oNil r1.2).bind fun _=>((oSl 1 r1.1).bind fun c2=>((LIM F.q2s [(.sl 1 a0_1)]).bind fun r3=>((oNil r3.2).bind fun _=>((oSl 1 r3.1).bind fun c4=>some ((.agg [(.sl 1 c2),(.sl 1 c4)]),[]))))))):=by kernel_rfl
theorem q5u.ev (n:Nat) (a0_0:List T) (a0_1:Int) (a1_0:List T):q1m prog A H LIM n F.q5u [(.rref [(.sl 1 a0_0),(.int .i64 a0_1)] 0),(.rref [(.sl 2 a1_0)] 0)]=((LIM F.q34 [(.rref [(.sl 1 a0_0),(.int .i64 a0_1)] 0),(.int .i64 (4:Int))]).bind fun r1=>((q0i r1.2).bind fun p2=>((oNil p2.2).bind fun _=>((oAgg p2.1).bind fun c3=>((q0i c3).bind fun p4=>((oSl 1 p4.1).bind fun c5=>((q0i p4.2).bind fun p6=>((oInt .i64 p6.1).bind fun n7=>((oNil p6.2).bind fun _=>((q3h r1.1).bind fun b8=>(bif b8 then ((LIM F.q3s [(.rref [(.sl 1 a0_0),(.int .i64 n7)] 0),(.sl 1 [(.int .i64 (4:Int)),(.int .i64 (7:Int)),(.int .i64 (9:Int))])]).bind fun r9=>((q0i r9.2).bind fun p10=>((oNil p10.2).bind fun _=>((oAgg p10.1).bind fun c11=>((q0i c11).bind fun p12=>((oSl 1 p12.1).bind fun c13=>((q0i p12.2).bind fun p14=>((oInt .i64 p14.1).bind fun n15=>((oNil p14.2).bind fun _=>((oInt .i64 r9.1).bind fun n16=>((LIM F.q0f [(.rref [(.sl 1 a0_0),(.int .i64 n15)] 0),(.rref [(.sl 2 a1_0)] 0),(.int .i64 n16),(.int .i64 (3:Int))]).bind fun r17=>((q0i r17.2).bind fun p18=>((oNil p18.2).bind fun _=>((oAgg p18.1).bind fun c19=>((q0i c19).bind fun p20=>((oSl 1 p20.1).bind fun c21=>((q0i p20.2).bind fun p22=>((oInt .i64 p22.1).bind fun n23=>((oNil p22.2).bind fun _=>((oSl 1 r17.1).bind fun c24=>((LIM F.q3s [(.rref [(.sl 1 a0_0),(.int .i64 n23)] 0),(.sl 1 [(.int .i64 (1:Int)),(.int .i64 (3:Int)),(.int .i64 (5:Int))])]).bind fun r25=>((q0i r25.2).bind fun p26=>((oNil p26.2).bind fun _=>((oAgg p26.1).bind fun c27=>((q0i c27).bind fun p28=>((oSl 1 p28.1).bind fun c29=>((q0i p28.2).bind fun p30=>((oInt .i64 p30.1).bind fun n31=>((oNil p30.2).bind fun _=>((oInt .i64 r25.1).bind fun n32=>((LIM F.q0f [(.rref [(.sl 1 a0_0),(.int .i64 n31)] 0),(.rref [(.sl 2 a1_0)] 0),(.int .i64 n32),(.int .i64 (3:Int))]).bind fun r33=>((q0i r33.2).bind fun p34=>((oNil p34.2).bind fun _=>((oAgg p34.1).bind fun c35=>((q0i c35).bind fun p36=>((oSl 1 p36.1).bind fun c37=>((q0i p36.2).bind fun p38=>((oInt .i64 p38.1).bind fun n39=>((oNil p38.2).bind fun _=>((oSl 1 r33.1).bind fun c40=>some ((.agg [(.sl 1 c24),(.sl 1 c40)]),[(.agg [(.sl 1 a0_0),(.int .i64 n39)])]))))))))))))))))))))))))))))))))))))))))) else ((LIM F.q25 [(.rref [(.sl 1 a0_0),(.int .i64 n7)] 0),(.rref [(.sl 2 a1_0)] 0)]).bind fun r41=>((q0i r41.2).bind fun p42=>((oNil p42.2).bind fun _=>((oAgg p42.1).bind fun c43=>((q0i c43).bind fun p44=>((oSl 1 p44.1).bind fun c45=>((q0i p44.2).bind fun p46=>((oInt .i64 p46.1).bind fun n47=>((oNil p46.2).bind fun _=>((oAgg r41.1).bind fun c48=>((q0i c48).bind fun p49=>((oSl 1 p49.1).bind fun c50=>((q0i p49.2).bind fun p51=>((oSl 1 p51.1).bind fun c52=>((oNil p51.2).bind fun _=>some ((.agg [(.sl 1 c50),(.sl 1 c52)]),[(.agg [(.sl 1 a0_0),(.int .i64 n47)])]))))))))))))))))))))))))))):=by kernel_rfl
theorem q51.ev (n:Nat) (a0_0 a1_0 a1_1:List T):q1m prog A H LIM n F.q51 [(.rref [(.sl 2 a0_0)] 0),(.rref [(.sl 1 a1_0),(.sl 1 a1_1)] 0)]=((LIM F.q17 [(.rref [(.sl 2 a0_0)] 0),(.sl 1 a1_0)]).bind fun r1=>((oNil r1.2).bind fun _=>((oInt .i64 r1.1).bind fun n2=>(bif ((n2 != (0:Int))) then some ((.int .i64 n2),[]) else ((LIM F.q17 [(.rref [(.sl 2 a0_0)] 0),(.sl 1 a1_1)]).bind fun r3=>((oNil r3.2).bind fun _=>((oInt .i64 r3.1).bind fun n4=>(bif ((n4 != (0:Int))) then some ((.int .i64 n4),[]) else ((LIM F.q2l [(.sl 1 a1_0)]).bind fun r5=>((oNil r5.2).bind fun _=>((q3h r5.1).bind fun b6=>(bif (!b6) then some ((.int .i64 (3:Int)),[]) else ((LIM F.q2l [(.sl 1 a1_1)]).bind fun r7=>((oNil r7.2).bind fun _=>((q3h r7.1).bind fun b8=>(bif (!b8) then some ((.int .i64 (3:Int)),[]) else some ((.int .i64 (0:Int)),[]))))))))))))))))):=by kernel_rfl
def q2l.st0 (x0:List T) (x1:Int):St:=⟨[(0,ol 1 x0),(3,oi x1)],[]⟩
noncomputable def q2l.K0 (n:Nat):Ex→St→R:=kx F.q2l n [.block 0,.seq 0 (cx F.q2l [1,1])] (q3u prog A F.q2l)
noncomputable def q2l.at0 (n:Nat) (m:Nat) (s:St):R:=lx F.q2l n 0 [1,0,1,0,0] (q2l.K0 n) m s
noncomputable def q2l.rd0 (n:Nat) (L0:St→R) (s:St):R:=rx F.q2l n 0 [1,0,1,0,0] (q2l.K0 n) L0 s
theorem q2l.next0 (n:Nat) (m:Nat) (s:St):q2l.at0 n (m+1) s=q2l.rd0 n (q2l.at0 n m) s:=nx _ _ _ _ _ _ _
theorem q2l.round0 (n:Nat) (L0:St→R) (x0:List T) (x1:Int):q2l.rd0 n L0 (q2l.st0 x0 x1)=(bif (decide (x1 < ((((x0).length / 1):Nat):Int))) then (bif inB x1 ((x0).length / 1) then ((x0[((Int.toNat x1)*1)]?).bind fun e1=>((oInt .i64 e1).bind fun n2=>(bif (decide (n2 < (-6:Int))) then some ((.bool false),[]) else (L0 (q2l.st0 x0 (IntKind.wrap .i64 (x1+(1:Int)))))))) else none) else some ((.bool true),[])):=by kernel_rfl
theorem q2l.ev (n:Nat) (a0:List T):q1m prog A H LIM n F.q2l [(.sl 1 a0)]=(q2l.at0 n n (q2l.st0 a0 (0:Int))):=by kernel_rfl
def q0l.st3 (x0:List T) (x1:ByteArray) (x2 x3:Int) (x4:List T):St:=⟨[(0,(.one (.t (.rref [(.sl 2 x0)] 0)))),(1,(.one (.t (.str x1)))),(6,(.one (.obj 704))),(7,oi x2),(9,oi x3)],[(704,(.arr true true 1 x4))]⟩
def q0l.st0 (x0:List T) (x1:ByteArray) (x2:Int) (x3:List T):St:=⟨[(0,(.one (.t (.rref [(.sl 2 x0)] 0)))),(1,(.one (.t (.str x1)))),(6,(.one (.obj 704))),(7,oi x2)],[(704,(.arr true true 1 x3))]⟩
noncomputable def q0l.K0 (n:Nat):Ex→St→R:=kx F.q0l n [.block 0,.seq 0 (cx F.q0l [1,1,1,1])] (q3u prog A F.q0l)
noncomputable def q0l.at0 (n:Nat) (m:Nat) (s:St):R:=lx F.q0l n 0 [1,1,1,0,0,0] (q0l.K0 n) m s
noncomputable def q0l.rd0 (n:Nat) (L0:St→R) (s:St):R:=rx F.q0l n 0 [1,1,1,0,0,0] (q0l.K0 n) L0 s
theorem q0l.next0 (n:Nat) (m:Nat) (s:St):q0l.at0 n (m+1) s=q0l.rd0 n (q0l.at0 n m) s:=nx _ _ _ _ _ _ _
noncomputable def q0l.K3 (n:Nat) (L0:St→R):Ex→St→R:=kx F.q0l n [.block 3,.seq 2 (cx F.q0l [1,1,1,0,0,0,1,0,1,0,1,1,1,1,1,0,1,1]),.block 2,.block 1] (bx F.q0l 0 (q0l.K0 n) L0)
noncomputable def q0l.at3 (n:Nat) (L0:St→R) (m:Nat) (s:St):R:=lx F.q0l n 3 [1,1,1,0,0,0,1,0,1,0,1,1,1,1,1,0,1,0,0,0] (q0l.K3 n L0) m s
noncomputable def q0l.rd3 (n:Nat) (L0:St→R) (L3:St→R) (s:St):R:=rx F.q0l n 3 [1,1,1,0,0,0,1,0,1,0,1,1,1,1,1,0,1,0,0,0] (q0l.K3 n L0) L3 s
theorem q0l.next3 (n:Nat) (L0:St→R) (m:Nat) (s:St):q0l.at3 n L0 (m+1) s=q0l.rd3 n L0 (q0l.at3 n L0 m) s:=nx _ _ _ _ _ _ _
theorem q0l.round0 (n:Nat) (L0:St→R) (x0:List T) (x1:ByteArray) (x2:Int) (x3:List T):q0l.rd0 n L0 (q0l.st0 x0 x1 x2 x3)=(bif (decide (x2 < (x1.size:Int))) then (bif inB x2 x1.size then (bif ((((x1.data.getD (Int.toNat x2) 0).toNat:Int) == (40:Int))) then (L0 (q0l.st0 x0 x1 (IntKind.wrap .i64 (x2+(1:Int))) x3)) else (bif ((((x1.data.getD (Int.toNat x2) 0).toNat:Int) == (41:Int))) then (L0 (q0l.st0 x0 x1 (IntKind.wrap .i64 (x2+(1:Int))) x3)) else (bif ((((x1.data.getD (Int.toNat x2) 0).toNat:Int) == (44:Int))) then (L0 (q0l.st0 x0 x1 (IntKind.wrap .i64 (x2+(1:Int))) x3)) else (bif (decide (((x1.data.getD (Int.toNat x2) 0).toNat:Int) ≥ (65:Int))) then (bif (decide (((x1.data.getD (Int.toNat x2) 0).toNat:Int) < (77:Int))) then (bif Nat.ble (((x3).length+1)*8) (140737488355328*1) then (L0 (q0l.st0 x0 x1 (IntKind.wrap .i64 (x2+(1:Int))) (x3++[(.int .i64 (IntKind.wrap .i64 ((-1:Int) - (IntKind.wrap .i64 (IntKind.wrap .u8 (((x1.data.getD (Int.toNat x2) 0).toNat:Int) - (65:Int)))))))]:List T))) else none) else (bif (decide (((x1.data.getD (Int.toNat x2) 0).toNat:Int) ≥ (97:Int))) then (bif (decide (((x1.data.getD (Int.toNat x2) 0).toNat:Int)≤(122:Int))) then (q0l.at3 n L0 n (q0l.st3 x0 x1 x2 x2 x3)) else some ((.tup [(.sl 1 []),(.bool false)]),[])) else some ((.tup [(.sl 1 []),(.bool false)]),[]))) else (bif (decide (((x1.data.getD (Int.toNat x2) 0).toNat:Int) ≥ (97:Int))) then (bif (decide (((x1.data.getD (Int.toNat x2) 0).toNat:Int)≤(122:Int))) then (q0l.at3 n L0 n (q0l.st3 x0 x1 x2 x2 x3)) else some ((.tup [(.sl 1 []),(.bool false)]),[])) else some ((.tup [(.sl 1 []),(.bool false)]),[])))))) else none) else some ((.tup [(.sl 1 x3),(.bool true)]),[])):=by kernel_rfl
theorem q0l.round3 (n:Nat) (L0:St→R) (L3:St→R) (x0:List T) (x1:ByteArray) (x2 x3:Int) (x4:List T):q0l.rd3 n L0 L3 (q0l.st3 x0 x1 x2 x3 x4)=(bif (decide (x3 < (x1.size:Int))) then (bif inB x3 x1.size then (bif (decide (((x1.data.getD (Int.toNat x3) 0).toNat:Int) ≥ (97:Int))) then (bif inB x3 x1.size then (bif (decide (((x1.data.getD (Int.toNat x3) 0).toNat:Int)≤(122:Int))) then (L3 (q0l.st3 x0 x1 x2 (IntKind.wrap .i64 (x3+(1:Int))) x4)) else (bif decide (0≤x2)&&decide (x2≤x3)&&decide (x3≤(x1.size:Int)) then ((LIM F.q1x [(.rref [(.sl 2 x0)] 0),(.str (x1.extract (Int.toNat x2) (Int.toNat x3)))]).bind fun r1=>((oNil r1.2).bind fun _=>((oInt .i64 r1.1).bind fun n2=>(bif (decide (n2 < (0:Int))) then some ((.tup [(.sl 1 []),(.bool false)]),[]) else (bif Nat.ble (((x4).length+1)*8) (140737488355328*1) then (L0 (q0l.st0 x0 x1 x3 (x4++[(.int .i64 n2)]:List T))) else none))))) else none)) else none) else (bif decide (0≤x2)&&decide (x2≤x3)&&decide (x3≤(x1.size:Int)) then ((LIM F.q1x [(.rref [(.sl 2 x0)] 0),(.str (x1.extract (Int.toNat x2) (Int.toNat x3)))]).bind fun r3=>((oNil r3.2).bind fun _=>((oInt .i64 r3.1).bind fun n4=>(bif (decide (n4 < (0:Int))) then some ((.tup [(.sl 1 []),(.bool false)]),[]) else (bif Nat.ble (((x4).length+1)*8) (140737488355328*1) then (L0 (q0l.st0 x0 x1 x3 (x4++[(.int .i64 n4)]:List T))) else none))))) else none)) else none) else (bif decide (0≤x2)&&decide (x2≤x3)&&decide (x3≤(x1.size:Int)) then ((LIM F.q1x [(.rref [(.sl 2 x0)] 0),(.str (x1.extract (Int.toNat x2) (Int.toNat x3)))]).bind fun r5=>((oNil r5.2).bind fun _=>((oInt .i64 r5.1).bind fun n6=>(bif (decide (n6 < (0:Int))) then some ((.tup [(.sl 1 []),(.bool false)]),[]) else (bif Nat.ble (((x4).length+1)*8) (140737488355328*1) then (L0 (q0l.st0 x0 x1 x3 (x4++[(.int .i64 n6)]:List T))) else none))))) else none)):=by kernel_rfl
theorem q0l.ev (n:Nat) (a0_0:List T) (a1:ByteArray):q1m prog A H LIM n F.q0l [(.rref [(.sl 2 a0_0)] 0),(.str a1)]=(q0l.at0 n n (q0l.st0 a0_0 a1 (0:Int) [])):=by kernel_rfl
def q1f.st0 (x0 x1:List T) (x2:Int) (x3 x4:List T):St:=⟨[(0,(.one (.t (.rref [(.sl 1 x0),(.sl 1 x1)] 0)))),(2,(.one (.ptr 128 0))),(4,(.one (.obj 832))),(5,(.one (.obj 1216))),(6,oi x2)],[(128,(.box [.nil,.nil])),(832,(.arr true true 1 x3)),(1216,(.arr true true 1 x4))]⟩
noncomputable def q1f.K0 (n:Nat):Ex→St→R:=kx F.q1f n [.block 0,.seq 0 (cx F.q1f [1,1,1,1])] (q3u prog A F.q1f)
noncomputable def q1f.at0 (n:Nat) (m:Nat) (s:St):R:=lx F.q1f n 0 [1,1,1,0,1,0,0] (q1f.K0 n) m s
noncomputable def q1f.rd0 (n:Nat) (L0:St→R) (s:St):R:=rx F.q1f n 0 [1,1,1,0,1,0,0] (q1f.K0 n) L0 s
theorem q1f.next0 (n:Nat) (m:Nat) (s:St):q1f.at0 n (m+1) s=q1f.rd0 n (q1f.at0 n m) s:=nx _ _ _ _ _ _ _
theorem q1f.round0 (n:Nat) (L0:St→R) (x0 x1:List T) (x2:Int) (x3 x4:List T):q1f.rd0 n L0 (q1f.st0 x0 x1 x2 x3 x4)=(bif (decide (x2 < ((((x3).length / 1):Nat):Int))) then (bif inB x2 ((x3).length / 1) then ((x3[((Int.toNat x2)*1)]?).bind fun e3=>((oInt .i64 e3).bind fun n4=>(bif (decide (n4 ≥ (0:Int))) then (L0 (q1f.st0 x0 x1 (IntKind.wrap .i64 (x2+(1:Int))) x3 x4)) else (bif inB x2 ((x3).length / 1) then ((x3[((Int.toNat x2)*1)]?).bind fun e5=>((oInt .i64 e5).bind fun n6=>((LIM F.q22 [(.sl 1 x4),(.int .i64 n6)]).bind fun r7=>((oNil r7.2).bind fun _=>((oInt .i64 r7.1).bind fun n8=>(bif (decide (n8 < (0:Int))) then (bif inB x2 ((x3).length / 1) then ((x3[((Int.toNat x2)*1)]?).bind fun e9=>((oInt .i64 e9).bind fun n10=>(bif Nat.ble (((x4).length+1)*8) (140737488355328*1) then (bif inB x2 ((x3).length / 1) then (bif decide (((Int.toNat x2)*1)+1≤(x3).length) then (L0 (q1f.st0 x0 x1 (IntKind.wrap .i64 (x2+(1:Int))) (setCells x3 ((Int.toNat x2)*1) [(.int .i64 (IntKind.wrap .i64 ((-1:Int) - ((((x4).length / 1):Nat):Int))))]) (x4++[(.int .i64 n10)]:List T))) else none) else none) else none))) else none) else (bif inB x2 ((x3).length / 1) then (bif decide (((Int.toNat x2)*1)+1≤(x3).length) then (L0 (q1f.st0 x0 x1 (IntKind.wrap .i64 (x2+(1:Int))) (setCells x3 ((Int.toNat x2)*1) [(.int .i64 (IntKind.wrap .i64 ((-1:Int) - n8)))]) x4)) else none) else none))))))) else none)))) else none) else (bif (decide (((((x4).length / 1):Nat):Int) > (6:Int))) then some ((.tup [(.agg [(.sl 1 []),(.sl 1 [])]),(.bool false)]),[]) else (bif decide (0≤(0:Int))&&decide ((0:Int)≤((((x0).length / 1):Nat):Int))&&decide (((((x0).length / 1):Nat):Int)≤((((x3).length / 1):Nat):Int)) then ((LIM F.q2s [(.sl 1 ((x3.take ((Int.toNat ((((x0).length / 1):Nat):Int))*1)).drop (0*1)))]).bind fun r11=>((oNil r11.2).bind fun _=>((oSl 1 r11.1).bind fun c12=>(bif decide (0≤((((x0).length / 1):Nat):Int))&&decide (((((x0).length / 1):Nat):Int)≤((((x3).length / 1):Nat):Int))&&decide (((((x3).length / 1):Nat):Int)≤((((x3).length / 1):Nat):Int)) then ((LIM F.q2s [(.sl 1 ((x3.take ((Int.toNat ((((x3).length / 1):Nat):Int))*1)).drop ((Int.toNat ((((x0).length / 1):Nat):Int))*1)))]).bind fun r13=>((oNil r13.2).bind fun _=>((oSl 1 r13.1).bind fun c14=>some ((.tup [(.agg [(.sl 1 c12),(.sl 1 c14)]),(.bool true)]),[])))) else none)))) else none))):=by kernel_rfl
theorem q1f.ev (n:Nat) (a0_0 a0_1:List T):q1m prog A H LIM n F.q1f [(.rref [(.sl 1 a0_0),(.sl 1 a0_1)] 0)]=((LIM F.q2s [(.sl 1 a0_0)]).bind fun r1=>((oNil r1.2).bind fun _=>((oSl 1 r1.1).bind fun c2=>(bif (a0_1).all T.scalar then (bif Nat.ble (((c2).length+(a0_1).length)*8) (140737488355328*1) then (q1f.at0 n n (q1f.st0 a0_0 a0_1 (0:Int) (c2++a0_1:List T) [])) else none) else none)))):=by kernel_rfl
def q25.st0 (x0:List T) (x1 x2 x3:Int) (x4:List T) (x5:Int) (x6:List T):St:=⟨[(0,(.one (.ptr 1000000 0))),(1,(.one (.t (.rref [(.sl 2 x0)] 0)))),(4,(.one (.ptr 256 0))),(5,(.one (.obj 640))),(6,oi x1),(7,oi x2),(8,oi x3)],[(1000000,(.box [(.kept 0 (.sl 1 x4)),(.t (.int .i64 x5))])),(256,(.box [.nil,.nil])),(640,(.arr true true 1 x6))]⟩
noncomputable def q25.K0 (n:Nat):Ex→St→R:=kx F.q25 n [.block 0,.seq 0 (cx F.q25 [1,1,1,1,1])] (q3u prog A F.q25)
noncomputable def q25.at0 (n:Nat) (m:Nat) (s:St):R:=lx F.q25 n 0 [1,1,1,1,0,1,0,0] (q25.K0 n) m s
noncomputable def q25.rd0 (n:Nat) (L0:St→R) (s:St):R:=rx F.q25 n 0 [1,1,1,1,0,1,0,0] (q25.K0 n) L0 s
theorem q25.next0 (n:Nat) (m:Nat) (s:St):q25.at0 n (m+1) s=q25.rd0 n (q25.at0 n m) s:=nx _ _ _ _ _ _ _
theorem q25.round0 (n:Nat) (L0:St→R) (x0:List T) (x1 x2 x3:Int) (x4:List T) (x5:Int) (x6:List T):q25.rd0 n L0 (q25.st0 x0 x1 x2 x3 x4 x5 x6)=(bif (decide (x3 < x1)) then (bif decide (x1=0) then none else (bif inB (Int.tmod (IntKind.wrap .i64 (x2+x3)) x1) ((x6).length / 1) then ((x6[((Int.toNat (Int.tmod (IntKind.wrap .i64 (x2+x3)) x1))*1)]?).bind fun e9=>((oStr e9).bind fun s10=>((LIM F.q4c [(.agg [(.sl 2 x0)]),(.str s10)]).bind fun r11=>((oNil r11.2).bind fun _=>((oAgg r11.1).bind fun c12=>((q0i c12).bind fun p13=>((oInt .i64 p13.1).bind fun n14=>((q0i p13.2).bind fun p15=>((oSl 1 p15.1).bind fun c16=>((q0i p15.2).bind fun p17=>((oSl 1 p17.1).bind fun c18=>((oNil p17.2).bind fun _=>(bif ((n14 == (0:Int))) then some ((.agg [(.sl 1 c16),(.sl 1 c18)]),[(.agg [(.sl 1 x4),(.int .i64 x5)])]) else (L0 (q25.st0 x0 x1 x2 (IntKind.wrap .i64 (x3+(1:Int))) x4 x5 x6))))))))))))))) else none)) else ((LIM F.q0f [(.rref [(.sl 1 x4),(.int .i64 x5)] 0),(.rref [(.sl 2 x0)] 0),(.int .i64 (4:Int)),(.int .i64 (2:Int))]).bind fun r19=>((q0i r19.2).bind fun p20=>((oNil p20.2).bind fun _=>((oAgg p20.1).bind fun c21=>((q0i c21).bind fun p22=>((oSl 1 p22.1).bind fun c23=>((q0i p22.2).bind fun p24=>((oInt .i64 p24.1).bind fun n25=>((oNil p24.2).bind fun _=>((oSl 1 r19.1).bind fun c26=>((LIM F.q0f [(.rref [(.sl 1 x4),(.int .i64 n25)] 0),(.rref [(.sl 2 x0)] 0),(.int .i64 (2:Int)),(.int .i64 (2:Int))]).bind fun r27=>((q0i r27.2).bind fun p28=>((oNil p28.2).bind fun _=>((oAgg p28.1).bind fun c29=>((q0i c29).bind fun p30=>((oSl 1 p30.1).bind fun c31=>((q0i p30.2).bind fun p32=>((oInt .i64 p32.1).bind fun n33=>((oNil p32.2).bind fun _=>((oSl 1 r27.1).bind fun c34=>some ((.agg [(.sl 1 c26),(.sl 1 c34)]),[(.agg [(.sl 1 x4),(.int .i64 n33)])])))))))))))))))))))))):=by kernel_rfl
theorem q25.ev (n:Nat) (a0_0:List T) (a0_1:Int) (a1_0:List T):q1m prog A H LIM n F.q25 [(.rref [(.sl 1 a0_0),(.int .i64 a0_1)] 0),(.rref [(.sl 2 a1_0)] 0)]=((LIM F.q1p [(.rref [(.sl 1 a0_0),(.int .i64 a0_1)] 0),(.int .i64 (18:Int))]).bind fun r1=>((q0i r1.2).bind fun p2=>((oNil p2.2).bind fun _=>((oAgg p2.1).bind fun c3=>((q0i c3).bind fun p4=>((oSl 1 p4.1).bind fun c5=>((q0i p4.2).bind fun p6=>((oInt .i64 p6.1).bind fun n7=>((oNil p6.2).bind fun _=>((oInt .i64 r1.1).bind fun n8=>(q25.at0 n n (q25.st0 a1_0 (18:Int) n8 (0:Int) a0_0 n7 [(.str (ByteArray.mk #[109,40,101,44,65,41,61,65])),(.str (ByteArray.mk #[109,40,65,44,101,41,61,65])),(.str (ByteArray.mk #[109,40,105,40,65,41,44,65,41,61,101])),(.str (ByteArray.mk #[105,40,105,40,65,41,41,61,65])),(.str (ByteArray.mk #[105,40,101,41,61,101])),(.str (ByteArray.mk #[97,100,100,40,97,44,65,41,61,65])),(.str (ByteArray.mk #[97,100,100,40,115,117,99,40,65,41,44,66,41,61,115,117,99,40,97,100,100,40,65,44,66,41,41])),(.str (ByteArray.mk #[102,40,103,40,65,41,41,61,65])),(.str (ByteArray.mk #[102,40,102,40,65,41,41,61,65])),(.str (ByteArray.mk #[103,40,102,40,97,41,41,61,97])),(.str (ByteArray.mk #[109,40,109,40,65,44,66,41,44,67,41,61,109,40,65,44,109,40,66,44,67,41,41])),(.str (ByteArray.mk #[115,117,99,40,115,117,99,40,65,41,41,61,65])),(.str (ByteArray.mk #[98,61,97])),(.str (ByteArray.mk #[109,40,97,44,97,41,61,97])),(.str (ByteArray.mk #[97,100,100,40,65,44,98,41,61,65])),(.str (ByteArray.mk #[115,117,99,40,98,41,61,97])),(.str (ByteArray.mk #[102,40,102,40,102,40,97,41,41,41,61,97])),(.str (ByteArray.mk #[105,40,109,40,65,44,66,41,41,61,109,40,105,40,66,41,44,105,40,65,41,41]))])))))))))))):=by kernel_rfl
theorem q5w.ev (n:Nat) (a0_0:List T) (a1:ByteArray):q1m prog A H LIM n F.q5w [(.rref [(.sl 2 a0_0)] 0),(.str a1)]=(bif (decide ((a1.size:Int) > (168:Int))) then some ((.sl 1 []),[]) else ((LIM F.q0l [(.rref [(.sl 2 a0_0)] 0),(.str a1)]).bind fun r1=>((oNil r1.2).bind fun _=>((oTup r1.1).bind fun c2=>((q0i c2).bind fun p3=>((oSl 1 p3.1).bind fun c4=>((q0i p3.2).bind fun p5=>((q3h p5.1).bind fun b6=>((oNil p5.2).bind fun _=>(bif (!b6) then some ((.sl 1 []),[]) else ((LIM F.q17 [(.rref [(.sl 2 a0_0)] 0),(.sl 1 c4)]).bind fun r7=>((oNil r7.2).bind fun _=>((oInt .i64 r7.1).bind fun n8=>(bif ((n8 != (0:Int))) then some ((.sl 1 []),[]) else ((LIM F.q24 [(.rref [(.sl 2 a0_0)] 0),(.sl 1 c4),(.int .i64 (0:Int))]).bind fun r9=>((oNil r9.2).bind fun _=>((oStr r9.1).bind fun s10=>(bif (!(s10.toList == a1.toList)) then some ((.sl 1 []),[]) else some ((.sl 1 c4),[]))))))))))))))))))):=by kernel_rfl
def q24.st0 (x0 x1:List T) (x2:ByteArray) (x3 x4:Int) (x5:ByteArray) (x6:Int):St:=⟨[(0,(.one (.t (.rref [(.sl 2 x0)] 0)))),(1,ol 1 x1),(7,(.one (.ptr 448 0))),(8,(.one (.t (.str x2)))),(9,oi x3),(10,oi x4)],[(448,(.box [(.t (.str x5)),(.t (.int .i64 x6))]))]⟩
noncomputable def q24.K0 (n:Nat):Ex→St→R:=kx F.q24 n [.block 0,.seq 0 (cx F.q24 [1,1,1,1,1,1,1])] (q3u prog A F.q24)
noncomputable def q24.at0 (n:Nat) (m:Nat) (s:St):R:=lx F.q24 n 0 [1,1,1,1,1,1,0,1,0,0] (q24.K0 n) m s
noncomputable def q24.rd0 (n:Nat) (L0:St→R) (s:St):R:=rx F.q24 n 0 [1,1,1,1,1,1,0,1,0,0] (q24.K0 n) L0 s
theorem q24.next0 (n:Nat) (m:Nat) (s:St):q24.at0 n (m+1) s=q24.rd0 n (q24.at0 n m) s:=nx _ _ _ _ _ _ _
theorem q24.round0 (n:Nat) (L0:St→R) (x0 x1:List T) (x2:ByteArray) (x3 x4:Int) (x5:ByteArray) (x6:Int):q24.rd0 n L0 (q24.st0 x0 x1 x2 x3 x4 x5 x6)=(bif (decide (x4 < x6)) then (bif (decide (x4 > (0:Int))) then (bif decide (x2.size+(ByteArray.mk #[44]).size≤9223372036854775807) then ((LIM F.q24 [(.rref [(.sl 2 x0)] 0),(.sl 1 x1),(.int .i64 x3)]).bind fun r11=>((oNil r11.2).bind fun _=>((oStr r11.1).bind fun s12=>(bif decide ((x2++(ByteArray.mk #[44])).size+s12.size≤9223372036854775807) then ((LIM F.q1v [(.rref [(.sl 2 x0)] 0),(.sl 1 x1),(.int .i64 x3)]).bind fun r13=>((oNil r13.2).bind fun _=>((oInt .i64 r13.1).bind fun n14=>(L0 (q24.st0 x0 x1 ((x2++(ByteArray.mk #[44]))++s12) n14 (IntKind.wrap .i64 (x4+(1:Int))) x5 x6))))) else none)))) else none) else ((LIM F.q24 [(.rref [(.sl 2 x0)] 0),(.sl 1 x1),(.int .i64 x3)]).bind fun r15=>((oNil r15.2).bind fun _=>((oStr r15.1).bind fun s16=>(bif decide (x2.size+s16.size≤9223372036854775807) then ((LIM F.q1v [(.rref [(.sl 2 x0)] 0),(.sl 1 x1),(.int .i64 x3)]).bind fun r17=>((oNil r17.2).bind fun _=>((oInt .i64 r17.1).bind fun n18=>(L0 (q24.st0 x0 x1 (x2++s16) n18 (IntKind.wrap .i64 (x4+(1:Int))) x5 x6))))) else none))))) else (bif decide (x2.size+(ByteArray.mk #[41]).size≤9223372036854775807) then some ((.str (x2++(ByteArray.mk #[41]))),[]) else none)):=by kernel_rfl
theorem q24.ev (n:Nat) (a0_0 a1:List T) (a2:Int):q1m prog A H LIM n F.q24 [(.rref [(.sl 2 a0_0)] 0),(.sl 1 a1),(.int .i64 a2)]=(bif inB a2 ((a1).length / 1) then ((a1[((Int.toNat a2)*1)]?).bind fun e1=>((oInt .i64 e1).bind fun n2=>(bif (decide (n2 < (0:Int))) then (bif inB a2 ((a1).length / 1) then ((a1[((Int.toNat a2)*1)]?).bind fun e3=>((oInt .i64 e3).bind fun n4=>some ((.str (List.foldl (fun r n=>ByteArray.push r (UInt8.ofNat (Int.toNat n))) ByteArray.empty [(IntKind.wrap .u8 (IntKind.wrap .i64 ((64:Int) - n4)))])),[]))) else none) else (bif inB a2 ((a1).length / 1) then ((a1[((Int.toNat a2)*1)]?).bind fun e5=>((oInt .i64 e5).bind fun n6=>(bif inB n6 ((a0_0).length / 2) then ((a0_0[((Int.toNat n6)*2)]?).bind fun e7=>((oStr e7).bind fun s8=>((a0_0[(((Int.toNat n6)*2)+1)]?).bind fun e9=>((oInt .i64 e9).bind fun n10=>(bif ((n10 == (0:Int))) then some ((.str s8),[]) else (bif decide (s8.size+(ByteArray.mk #[40]).size≤9223372036854775807) then (q24.at0 n n (q24.st0 a0_0 a1 (s8++(ByteArray.mk #[40])) (IntKind.wrap .i64 (a2+(1:Int))) (0:Int) s8 n10)) else none)))))) else none))) else none)))) else none):=by kernel_rfl
def q1w.st0 (x0 x1:List T) (x2:Int):St:=⟨[(0,(.one (.t (.rref [(.sl 2 x0)] 0)))),(1,ol 2 x1),(5,oi x2)],[]⟩
noncomputable def q1w.K0 (n:Nat):Ex→St→R:=kx F.q1w n [.block 0,.seq 0 (cx F.q1w [1,1,1])] (q3u prog A F.q1w)
noncomputable def q1w.at0 (n:Nat) (m:Nat) (s:St):R:=lx F.q1w n 0 [1,1,0,1,0,0] (q1w.K0 n) m s
noncomputable def q1w.rd0 (n:Nat) (L0:St→R) (s:St):R:=rx F.q1w n 0 [1,1,0,1,0,0] (q1w.K0 n) L0 s
theorem q1w.next0 (n:Nat) (m:Nat) (s:St):q1w.at0 n (m+1) s=q1w.rd0 n (q1w.at0 n m) s:=nx _ _ _ _ _ _ _
theorem q1w.round0 (n:Nat) (L0:St→R) (x0 x1:List T) (x2:Int):q1w.rd0 n L0 (q1w.st0 x0 x1 x2)=(bif (decide (x2 < ((((x1).length / 2):Nat):Int))) then (bif inB x2 ((x1).length / 2) then ((LIM F.q51 [(.rref [(.sl 2 x0)] 0),(.rref ((x1.drop ((Int.toNat x2)*2)).take 2) 0)]).bind fun r1=>((oNil r1.2).bind fun _=>((oInt .i64 r1.1).bind fun n2=>(bif ((n2 != (0:Int))) then some ((.int .i64 n2),[]) else (L0 (q1w.st0 x0 x1 (IntKind.wrap .i64 (x2+(1:Int))))))))) else none) else some ((.int .i64 (0:Int)),[])):=by kernel_rfl
theorem q1w.ev (n:Nat) (a0_0 a1:List T):q1m prog A H LIM n F.q1w [(.rref [(.sl 2 a0_0)] 0),(.sl 2 a1)]=(bif (decide (((((a1).length / 2):Nat):Int) > (12:Int))) then some ((.int .i64 (2:Int)),[]) else (q1w.at0 n n (q1w.st0 a0_0 a1 (0:Int)))):=by kernel_rfl
def q19.st0 (x0 x1 x2:List T) (x3:Int) (x4:List T):St:=⟨[(0,(.one (.t (.rref [(.sl 1 x0),(.sl 1 x1)] 0)))),(1,ol 1 x2),(5,(.one (.obj 512))),(6,oi x3)],[(512,(.arr true true 1 x4))]⟩
noncomputable def q19.K0 (n:Nat):Ex→St→R:=kx F.q19 n [.block 0,.seq 0 (cx F.q19 [1,1,1])] (q3u prog A F.q19)
noncomputable def q19.at0 (n:Nat) (m:Nat) (s:St):R:=lx F.q19 n 0 [1,1,0,1,0,0] (q19.K0 n) m s
noncomputable def q19.rd0 (n:Nat) (L0:St→R) (s:St):R:=rx F.q19 n 0 [1,1,0,1,0,0] (q19.K0 n) L0 s
theorem q19.next0 (n:Nat) (m:Nat) (s:St):q19.at0 n (m+1) s=q19.rd0 n (q19.at0 n m) s:=nx _ _ _ _ _ _ _
theorem q19.round0 (n:Nat) (L0:St→R) (x0 x1 x2:List T) (x3:Int) (x4:List T):q19.rd0 n L0 (q19.st0 x0 x1 x2 x3 x4)=(bif (decide (x3 < ((((x2).length / 1):Nat):Int))) then (bif inB x3 ((x2).length / 1) then ((x2[((Int.toNat x3)*1)]?).bind fun e1=>((oInt .i64 e1).bind fun n2=>(bif (decide (n2 < (0:Int))) then (bif inB x3 ((x2).length / 1) then ((x2[((Int.toNat x3)*1)]?).bind fun e3=>((oInt .i64 e3).bind fun n4=>((LIM F.q2f [(.rref [(.sl 1 x0),(.sl 1 x1)] 0),(.int .i64 (IntKind.wrap .i64 ((-1:Int) - n4)))]).bind fun r5=>((oNil r5.2).bind fun _=>((oSl 1 r5.1).bind fun c6=>(bif (c6).all T.scalar then (bif ((((((c6).length / 1):Nat):Int) == (0:Int))) then (bif inB x3 ((x2).length / 1) then ((x2[((Int.toNat x3)*1)]?).bind fun e7=>((oInt .i64 e7).bind fun n8=>(bif Nat.ble (((x4).length+1)*8) (140737488355328*1) then (L0 (q19.st0 x0 x1 x2 (IntKind.wrap .i64 (x3+(1:Int))) (x4++[(.int .i64 n8)]:List T))) else none))) else none) else (bif (c6).all T.scalar then (bif Nat.ble (((x4).length+(c6).length)*8) (140737488355328*1) then (L0 (q19.st0 x0 x1 x2 (IntKind.wrap .i64 (x3+(1:Int))) (x4++c6:List T))) else none) else none)) else none)))))) else none) else (bif inB x3 ((x2).length / 1) then ((x2[((Int.toNat x3)*1)]?).bind fun e9=>((oInt .i64 e9).bind fun n10=>(bif Nat.ble (((x4).length+1)*8) (140737488355328*1) then (L0 (q19.st0 x0 x1 x2 (IntKind.wrap .i64 (x3+(1:Int))) (x4++[(.int .i64 n10)]:List T))) else none))) else none)))) else none) else some ((.sl 1 x4),[])):=by kernel_rfl
theorem q19.ev (n:Nat) (a0_0 a0_1 a1:List T):q1m prog A H LIM n F.q19 [(.rref [(.sl 1 a0_0),(.sl 1 a0_1)] 0),(.sl 1 a1)]=(q19.at0 n n (q19.st0 a0_0 a0_1 a1 (0:Int) [])):=by kernel_rfl
def q2e.st0 (x0 x1 x2:List T) (x3 x4 x5:Int) (x6:List T):St:=⟨[(0,(.one (.t (.rref [(.sl 2 x0)] 0)))),(1,ol 1 x1),(2,ol 1 x2),(7,(.one (.obj 832))),(8,oi x3),(9,oi x4),(10,oi x5)],[(832,(.arr true true 2 x6))]⟩
noncomputable def q2e.K0 (n:Nat):Ex→St→R:=kx F.q2e n [.block 0,.seq 0 (cx F.q2e [1,1,1,1,1])] (q3u prog A F.q2e)
noncomputable def q2e.at0 (n:Nat) (m:Nat) (s:St):R:=lx F.q2e n 0 [1,1,1,1,0,1,0,0] (q2e.K0 n) m s
noncomputable def q2e.rd0 (n:Nat) (L0:St→R) (s:St):R:=rx F.q2e n 0 [1,1,1,1,0,1,0,0] (q2e.K0 n) L0 s
theorem q2e.next0 (n:Nat) (m:Nat) (s:St):q2e.at0 n (m+1) s=q2e.rd0 n (q2e.at0 n m) s:=nx _ _ _ _ _ _ _
theorem q2e.round0 (n:Nat) (L0:St→R) (x0 x1 x2:List T) (x3 x4 x5:Int) (x6:List T):q2e.rd0 n L0 (q2e.st0 x0 x1 x2 x3 x4 x5 x6)=(bif inB (0:Int) ((x1).length / 1) then ((x1[0]?).bind fun e1=>((oInt .i64 e1).bind fun n2=>(bif inB n2 ((x0).length / 2) then ((x0[(((Int.toNat n2)*2)+1)]?).bind fun e3=>((oInt .i64 e3).bind fun n4=>(bif (decide (x5 < n4)) then ((LIM F.q64 [(.rref [(.sl 2 x0)] 0),(.sl 1 x1),(.int .i64 x3)]).bind fun r5=>((oNil r5.2).bind fun _=>((oSl 1 r5.1).bind fun c6=>((LIM F.q64 [(.rref [(.sl 2 x0)] 0),(.sl 1 x2),(.int .i64 x4)]).bind fun r7=>((oNil r7.2).bind fun _=>((oSl 1 r7.1).bind fun c8=>(bif Nat.ble (((x6).length+2)*48) (140737488355328*2) then (L0 (q2e.st0 x0 x1 x2 (IntKind.wrap .i64 (x3+((((c6).length / 1):Nat):Int))) (IntKind.wrap .i64 (x4+((((c8).length / 1):Nat):Int))) (IntKind.wrap .i64 (x5+(1:Int))) (x6++[(.sl 1 c6),(.sl 1 c8)]:List T))) else none))))))) else some ((.sl 2 x6),[])))) else none))) else none):=by kernel_rfl
theorem q2e.ev (n:Nat) (a0_0 a1 a2:List T):q1m prog A H LIM n F.q2e [(.rref [(.sl 2 a0_0)] 0),(.sl 1 a1),(.sl 1 a2)]=(q2e.at0 n n (q2e.st0 a0_0 a1 a2 (1:Int) (1:Int) (0:Int) [])):=by kernel_rfl
def q1y.st0 (x0 x1:List T) (x2:Int) (x3:List T) (x4:Int) (x5 x6 x7 x8:List T):St:=⟨[(0,(.one (.t (.rref [(.sl 1 x0),(.sl 1 x1)] 0)))),(1,oi x2),(2,ol 1 x3),(6,(.one (.ptr 384 0))),(8,(.one (.ptr 512 0))),(9,(.one (.ptr 576 0))),(10,oi x4)],[(384,(.box [.nil,.nil])),(1216,(.arr true true 1 x5)),(1344,(.arr true false 1 x6)),(512,(.box [(.obj 1216),(.obj 1344)])),(1728,(.arr true true 1 x7)),(576,(.box [(.obj 1728),(.obj 519217)])),(519217,(.arr true true 1 x8))]⟩
noncomputable def q1y.K0 (n:Nat):Ex→St→R:=kx F.q1y n [.block 0,.seq 0 (cx F.q1y [1,1,1,1,1])] (q3u prog A F.q1y)
noncomputable def q1y.at0 (n:Nat) (m:Nat) (s:St):R:=lx F.q1y n 0 [1,1,1,1,0,1,0,0] (q1y.K0 n) m s
noncomputable def q1y.rd0 (n:Nat) (L0:St→R) (s:St):R:=rx F.q1y n 0 [1,1,1,1,0,1,0,0] (q1y.K0 n) L0 s
theorem q1y.next0 (n:Nat) (m:Nat) (s:St):q1y.at0 n (m+1) s=q1y.rd0 n (q1y.at0 n m) s:=nx _ _ _ _ _ _ _
theorem q1y.round0 (n:Nat) (L0:St→R) (x0 x1:List T) (x2:Int) (x3:List T) (x4:Int) (x5 x6 x7 x8:List T):q1y.rd0 n L0 (q1y.st0 x0 x1 x2 x3 x4 x5 x6 x7 x8)=(bif (decide (x4 < ((((x1).length / 1):Nat):Int))) then (bif inB x4 ((x1).length / 1) then ((x1[((Int.toNat x4)*1)]?).bind fun e5=>((oSl 1 e5).bind fun c6=>((LIM F.q19 [(.rref [(.sl 1 x5),(.sl 1 x6)] 0),(.sl 1 c6)]).bind fun r7=>((oNil r7.2).bind fun _=>((oSl 1 r7.1).bind fun c8=>(bif (decide (((((c8).length / 1):Nat):Int) > (24:Int))) then some ((.tup [(.agg [(.sl 1 []),(.sl 1 [])]),(.int .i64 (2:Int))]),[]) else (bif Nat.ble (((x8).length+1)*24) (140737488355328*1) then (L0 (q1y.st0 x0 x1 x2 x3 (IntKind.wrap .i64 (x4+(1:Int))) x5 x6 x7 (x8++[(.sl 1 c8)]:List T))) else none))))))) else none) else ((LIM F.q1r [(.rref [(.sl 1 x7),(.sl 1 x8)] 0),(.int .i64 x2),(.sl 1 x3)]).bind fun r9=>((oNil r9.2).bind fun _=>((oAgg r9.1).bind fun c10=>((q0i c10).bind fun p11=>((oSl 1 p11.1).bind fun c12=>((q0i p11.2).bind fun p13=>((oSl 1 p13.1).bind fun c14=>((oNil p13.2).bind fun _=>some ((.tup [(.agg [(.sl 1 c12),(.sl 1 c14)]),(.int .i64 (0:Int))]),[])))))))))):=by kernel_rfl
theorem q1y.ev (n:Nat) (a0_0 a0_1:List T) (a1:Int) (a2:List T):q1m prog A H LIM n F.q1y [(.rref [(.sl 1 a0_0),(.sl 1 a0_1)] 0),(.int .i64 a1),(.sl 1 a2)]=((LIM F.q1k [(.sl 1 a2),(.int .i64 (IntKind.wrap .i64 ((-1:Int) - a1)))]).bind fun r1=>((oNil r1.2).bind fun _=>((oInt .i64 r1.1).bind fun n2=>(bif (decide (n2 > (0:Int))) then some ((.tup [(.agg [(.sl 1 []),(.sl 1 [])]),(.int .i64 (4:Int))]),[]) else ((LIM F.q2s [(.sl 1 a0_0)]).bind fun r3=>((oNil r3.2).bind fun _=>((oSl 1 r3.1).bind fun c4=>(q1y.at0 n n (q1y.st0 a0_0 a0_1 a1 a2 (0:Int) [(.int .i64 a1)] [(.sl 1 a2)] c4 []))))))))):=by kernel_rfl
def q1s.st0 (x0:List T) (x1 x2:Int) (x3:List T):St:=⟨[(0,ol 1 x0),(1,oi x1),(5,(.one (.obj 448))),(6,oi x2)],[(448,(.arr true true 1 x3))]⟩
noncomputable def q1s.K0 (n:Nat):Ex→St→R:=kx F.q1s n [.block 0,.seq 0 (cx F.q1s [1,1,1])] (q3u prog A F.q1s)
noncomputable def q1s.at0 (n:Nat) (m:Nat) (s:St):R:=lx F.q1s n 0 [1,1,0,1,0,0] (q1s.K0 n) m s
noncomputable def q1s.rd0 (n:Nat) (L0:St→R) (s:St):R:=rx F.q1s n 0 [1,1,0,1,0,0] (q1s.K0 n) L0 s
theorem q1s.next0 (n:Nat) (m:Nat) (s:St):q1s.at0 n (m+1) s=q1s.rd0 n (q1s.at0 n m) s:=nx _ _ _ _ _ _ _
theorem q1s.round0 (n:Nat) (L0:St→R) (x0:List T) (x1 x2:Int) (x3:List T):q1s.rd0 n L0 (q1s.st0 x0 x1 x2 x3)=(bif (decide (x2 < ((((x0).length / 1):Nat):Int))) then (bif inB x2 ((x0).length / 1) then ((x0[((Int.toNat x2)*1)]?).bind fun e1=>((oInt .i64 e1).bind fun n2=>(bif (decide (n2 < (0:Int))) then (bif inB x2 ((x0).length / 1) then ((x0[((Int.toNat x2)*1)]?).bind fun e3=>((oInt .i64 e3).bind fun n4=>(bif Nat.ble (((x3).length+1)*8) (140737488355328*1) then (L0 (q1s.st0 x0 x1 (IntKind.wrap .i64 (x2+(1:Int))) (x3++[(.int .i64 (IntKind.wrap .i64 (n4 - x1)))]:List T))) else none))) else none) else (bif inB x2 ((x0).length / 1) then ((x0[((Int.toNat x2)*1)]?).bind fun e5=>((oInt .i64 e5).bind fun n6=>(bif Nat.ble (((x3).length+1)*8) (140737488355328*1) then (L0 (q1s.st0 x0 x1 (IntKind.wrap .i64 (x2+(1:Int))) (x3++[(.int .i64 n6)]:List T))) else none))) else none)))) else none) else some ((.sl 1 x3),[])):=by kernel_rfl
theorem q1s.ev (n:Nat) (a0:List T) (a1:Int):q1m prog A H LIM n F.q1s [(.sl 1 a0),(.int .i64 a1)]=(q1s.at0 n n (q1s.st0 a0 a1 (0:Int) [])):=by kernel_rfl
def q2f.st0 (x0 x1:List T) (x2 x3:Int):St:=⟨[(0,(.one (.t (.rref [(.sl 1 x0),(.sl 1 x1)] 0)))),(1,oi x2),(5,oi x3)],[]⟩
noncomputable def q2f.K0 (n:Nat):Ex→St→R:=kx F.q2f n [.block 0,.seq 0 (cx F.q2f [1,1])] (q3u prog A F.q2f)
noncomputable def q2f.at0 (n:Nat) (m:Nat) (s:St):R:=lx F.q2f n 0 [1,0,1,0,0] (q2f.K0 n) m s
noncomputable def q2f.rd0 (n:Nat) (L0:St→R) (s:St):R:=rx F.q2f n 0 [1,0,1,0,0] (q2f.K0 n) L0 s
theorem q2f.next0 (n:Nat) (m:Nat) (s:St):q2f.at0 n (m+1) s=q2f.rd0 n (q2f.at0 n m) s:=nx _ _ _ _ _ _ _
theorem q2f.round0 (n:Nat) (L0:St→R) (x0 x1:List T) (x2 x3:Int):q2f.rd0 n L0 (q2f.st0 x0 x1 x2 x3)=(bif (decide (x3 < ((((x0).length / 1):Nat):Int))) then (bif inB x3 ((x0).length / 1) then ((x0[((Int.toNat x3)*1)]?).bind fun e1=>((oInt .i64 e1).bind fun n2=>(bif ((n2 == x2)) then (bif inB x3 ((x1).length / 1) then ((x1[((Int.toNat x3)*1)]?).bind fun e3=>((oSl 1 e3).bind fun c4=>some ((.sl 1 c4),[]))) else none) else (L0 (q2f.st0 x0 x1 x2 (IntKind.wrap .i64 (x3+(1:Int)))))))) else none) else some ((.sl 1 []),[])):=by kernel_rfl
theorem q2f.ev (n:Nat) (a0_0 a0_1:List T) (a1:Int):q1m prog A H LIM n F.q2f [(.rref [(.sl 1 a0_0),(.sl 1 a0_1)] 0),(.int .i64 a1)]=(q2f.at0 n n (q2f.st0 a0_0 a0_1 a1 (0:Int))):=by kernel_rfl
def q1d.st0 (x0 x1 x2 x3:List T):St:=⟨[(0,(.one (.t (.rref [(.sl 2 x0)] 0)))),(6,(.one (.ptr 384 0))),(8,(.one (.ptr 512 0))),(9,ol 2 x1)],[(384,(.box [.nil,.nil])),(512,(.box [(.obj 518192),(.obj 518193)])),(518192,(.arr true true 1 x2)),(518193,(.arr true true 1 x3))]⟩
noncomputable def q1d.K0 (n:Nat):Ex→St→R:=kx F.q1d n [.block 0,.seq 0 (cx F.q1d [1,1,1,1])] (q3u prog A F.q1d)
noncomputable def q1d.at0 (n:Nat) (m:Nat) (s:St):R:=lx F.q1d n 0 [1,1,1,0,0,0] (q1d.K0 n) m s
noncomputable def q1d.rd0 (n:Nat) (L0:St→R) (s:St):R:=rx F.q1d n 0 [1,1,1,0,0,0] (q1d.K0 n) L0 s
theorem q1d.next0 (n:Nat) (m:Nat) (s:St):q1d.at0 n (m+1) s=q1d.rd0 n (q1d.at0 n m) s:=nx _ _ _ _ _ _ _
theorem q1d.round0 (n:Nat) (L0:St→R) (x0 x1 x2 x3:List T):q1d.rd0 n L0 (q1d.st0 x0 x1 x2 x3)=(bif (decide (((((x1).length / 2):Nat):Int) > (0:Int))) then (bif inB (0:Int) ((x1).length / 2) then ((x1[0]?).bind fun e5=>((oSl 1 e5).bind fun c6=>((LIM F.q19 [(.rref [(.sl 1 x2),(.sl 1 x3)] 0),(.sl 1 c6)]).bind fun r7=>((oNil r7.2).bind fun _=>((oSl 1 r7.1).bind fun c8=>(bif inB (0:Int) ((x1).length / 2) then ((x1[1]?).bind fun e9=>((oSl 1 e9).bind fun c10=>((LIM F.q19 [(.rref [(.sl 1 x2),(.sl 1 x3)] 0),(.sl 1 c10)]).bind fun r11=>((oNil r11.2).bind fun _=>((oSl 1 r11.1).bind fun c12=>(bif decide (0≤(1:Int))&&decide ((1:Int)≤((((x1).length / 2):Nat):Int))&&decide (((((x1).length / 2):Nat):Int)≤((((x1).length / 2):Nat):Int)) then (bif (decide (((((c8).length / 1):Nat):Int) > (24:Int))) then some ((.tup [(.agg [(.sl 1 []),(.sl 1 [])]),(.int .i64 (2:Int))]),[]) else (bif (decide (((((c12).length / 1):Nat):Int) > (24:Int))) then some ((.tup [(.agg [(.sl 1 []),(.sl 1 [])]),(.int .i64 (2:Int))]),[]) else ((LIM F.q23 [(.sl 1 c8),(.sl 1 c12)]).bind fun r13=>((oNil r13.2).bind fun _=>((q3h r13.1).bind fun b14=>(bif b14 then (L0 (q1d.st0 x0 ((x1.take ((Int.toNat ((((x1).length / 2):Nat):Int))*2)).drop (1*2)) x2 x3)) else (bif inB (0:Int) ((c8).length / 1) then ((c8[0]?).bind fun e15=>((oInt .i64 e15).bind fun n16=>(bif (decide (n16 < (0:Int))) then (bif inB (0:Int) ((c8).length / 1) then ((c8[0]?).bind fun e17=>((oInt .i64 e17).bind fun n18=>((LIM F.q1y [(.rref [(.sl 1 x2),(.sl 1 x3)] 0),(.int .i64 (IntKind.wrap .i64 ((-1:Int) - n18))),(.sl 1 c12)]).bind fun r19=>((oNil r19.2).bind fun _=>((oTup r19.1).bind fun c20=>((q0i c20).bind fun p21=>((oAgg p21.1).bind fun c22=>((q0i c22).bind fun p23=>((oSl 1 p23.1).bind fun c24=>((q0i p23.2).bind fun p25=>((oSl 1 p25.1).bind fun c26=>((oNil p25.2).bind fun _=>((q0i p21.2).bind fun p27=>((oInt .i64 p27.1).bind fun n28=>((oNil p27.2).bind fun _=>(bif ((n28 != (0:Int))) then some ((.tup [(.agg [(.sl 1 []),(.sl 1 [])]),(.int .i64 n28)]),[]) else (L0 (q1d.st0 x0 ((x1.take ((Int.toNat ((((x1).length / 2):Nat):Int))*2)).drop (1*2)) c24 c26)))))))))))))))))) else none) else (bif inB (0:Int) ((c12).length / 1) then ((c12[0]?).bind fun e29=>((oInt .i64 e29).bind fun n30=>(bif (decide (n30 < (0:Int))) then (bif inB (0:Int) ((c12).length / 1) then ((c12[0]?).bind fun e31=>((oInt .i64 e31).bind fun n32=>((LIM F.q1y [(.rref [(.sl 1 x2),(.sl 1 x3)] 0),(.int .i64 (IntKind.wrap .i64 ((-1:Int) - n32))),(.sl 1 c8)]).bind fun r33=>((oNil r33.2).bind fun _=>((oTup r33.1).bind fun c34=>((q0i c34).bind fun p35=>((oAgg p35.1).bind fun c36=>((q0i c36).bind fun p37=>((oSl 1 p37.1).bind fun c38=>((q0i p37.2).bind fun p39=>((oSl 1 p39.1).bind fun c40=>((oNil p39.2).bind fun _=>((q0i p35.2).bind fun p41=>((oInt .i64 p41.1).bind fun n42=>((oNil p41.2).bind fun _=>(bif ((n42 != (0:Int))) then some ((.tup [(.agg [(.sl 1 []),(.sl 1 [])]),(.int .i64 n42)]),[]) else (L0 (q1d.st0 x0 ((x1.take ((Int.toNat ((((x1).length / 2):Nat):Int))*2)).drop (1*2)) c38 c40)))))))))))))))))) else none) else (bif inB (0:Int) ((c8).length / 1) then ((c8[0]?).bind fun e43=>((oInt .i64 e43).bind fun n44=>(bif inB (0:Int) ((c12).length / 1) then ((c12[0]?).bind fun e45=>((oInt .i64 e45).bind fun n46=>(bif ((n44 != n46)) then some ((.tup [(.agg [(.sl 1 []),(.sl 1 [])]),(.int .i64 (4:Int))]),[]) else ((LIM F.q2e [(.rref [(.sl 2 x0)] 0),(.sl 1 c8),(.sl 1 c12)]).bind fun r47=>((oNil r47.2).bind fun _=>((oSl 2 r47.1).bind fun c48=>(bif Nat.ble (((c48).length+(((x1.take ((Int.toNat ((((x1).length / 2):Nat):Int))*2)).drop (1*2))).length)*48) (140737488355328*2) then (L0 (q1d.st0 x0 (c48++((x1.take ((Int.toNat ((((x1).length / 2):Nat):Int))*2)).drop (1*2)):List T) x2 x3)) else none))))))) else none))) else none)))) else none)))) else none))))))) else none)))))) else none)))))) else none) else some ((.tup [(.agg [(.sl 1 x2),(.sl 1 x3)]),(.int .i64 (0:Int))]),[])):=by kernel_rfl
theorem q1d.ev (n:Nat) (a0_0 a1 a2:List T):q1m prog A H LIM n F.q1d [(.rref [(.sl 2 a0_0)] 0),(.sl 1 a1),(.sl 1 a2)]=((LIM F.q2s [(.sl 1 a1)]).bind fun r1=>((oNil r1.2).bind fun _=>((oSl 1 r1.1).bind fun c2=>((LIM F.q2s [(.sl 1 a2)]).bind fun r3=>((oNil r3.2).bind fun _=>((oSl 1 r3.1).bind fun c4=>(q1d.at0 n n (q1d.st0 a0_0 [(.sl 1 c2),(.sl 1 c4)] [] [])))))))):=by kernel_rfl
def q1r.st0 (x0 x1:List T) (x2:Int) (x3:List T) (x4:Bool) (x5:Int) (x6 x7:List T):St:=⟨[(0,(.one (.t (.rref [(.sl 1 x0),(.sl 1 x1)] 0)))),(1,oi x2),(2,ol 1 x3),(6,(.one (.ptr 384 0))),(7,(.one (.ptr 448 0))),(8,(.one (.t (.bool x4)))),(9,oi x5)],[(384,(.box [.nil,.nil])),(448,(.box [(.obj 517168),(.obj 517169)])),(517168,(.arr true true 1 x6)),(517169,(.arr true true 1 x7))]⟩
noncomputable def q1r.K0 (n:Nat):Ex→St→R:=kx F.q1r n [.block 0,.seq 0 (cx F.q1r [1,1,1,1])] (q3u prog A F.q1r)
noncomputable def q1r.at0 (n:Nat) (m:Nat) (s:St):R:=lx F.q1r n 0 [1,1,1,0,1,0,0] (q1r.K0 n) m s
noncomputable def q1r.rd0 (n:Nat) (L0:St→R) (s:St):R:=rx F.q1r n 0 [1,1,1,0,1,0,0] (q1r.K0 n) L0 s
theorem q1r.next0 (n:Nat) (m:Nat) (s:St):q1r.at0 n (m+1) s=q1r.rd0 n (q1r.at0 n m) s:=nx _ _ _ _ _ _ _
theorem q1r.round0 (n:Nat) (L0:St→R) (x0 x1:List T) (x2:Int) (x3:List T) (x4:Bool) (x5:Int) (x6 x7:List T):q1r.rd0 n L0 (q1r.st0 x0 x1 x2 x3 x4 x5 x6 x7)=(bif (decide (x5 < ((((x0).length / 1):Nat):Int))) then (bif (!x4) then (bif inB x5 ((x0).length / 1) then ((x0[((Int.toNat x5)*1)]?).bind fun e1=>((oInt .i64 e1).bind fun n2=>(bif (decide (n2 > x2)) then (bif Nat.ble (((x6).length+1)*8) (140737488355328*1) then ((LIM F.q2s [(.sl 1 x3)]).bind fun r3=>((oNil r3.2).bind fun _=>((oSl 1 r3.1).bind fun c4=>(bif Nat.ble (((x7).length+1)*24) (140737488355328*1) then (bif inB x5 ((x0).length / 1) then ((x0[((Int.toNat x5)*1)]?).bind fun e5=>((oInt .i64 e5).bind fun n6=>(bif Nat.ble ((((x6++[(.int .i64 x2)]:List T)).length+1)*8) (140737488355328*1) then (bif inB x5 ((x1).length / 1) then ((x1[((Int.toNat x5)*1)]?).bind fun e7=>((oSl 1 e7).bind fun c8=>((LIM F.q2s [(.sl 1 c8)]).bind fun r9=>((oNil r9.2).bind fun _=>((oSl 1 r9.1).bind fun c10=>(bif Nat.ble ((((x7++[(.sl 1 c4)]:List T)).length+1)*24) (140737488355328*1) then (L0 (q1r.st0 x0 x1 x2 x3 true (IntKind.wrap .i64 (x5+(1:Int))) ((x6++[(.int .i64 x2)]:List T)++[(.int .i64 n6)]:List T) ((x7++[(.sl 1 c4)]:List T)++[(.sl 1 c10)]:List T))) else none)))))) else none) else none))) else none) else none)))) else none) else (bif inB x5 ((x0).length / 1) then ((x0[((Int.toNat x5)*1)]?).bind fun e11=>((oInt .i64 e11).bind fun n12=>(bif Nat.ble (((x6).length+1)*8) (140737488355328*1) then (bif inB x5 ((x1).length / 1) then ((x1[((Int.toNat x5)*1)]?).bind fun e13=>((oSl 1 e13).bind fun c14=>((LIM F.q2s [(.sl 1 c14)]).bind fun r15=>((oNil r15.2).bind fun _=>((oSl 1 r15.1).bind fun c16=>(bif Nat.ble (((x7).length+1)*24) (140737488355328*1) then (L0 (q1r.st0 x0 x1 x2 x3 x4 (IntKind.wrap .i64 (x5+(1:Int))) (x6++[(.int .i64 n12)]:List T) (x7++[(.sl 1 c16)]:List T))) else none)))))) else none) else none))) else none)))) else none) else (bif inB x5 ((x0).length / 1) then ((x0[((Int.toNat x5)*1)]?).bind fun e17=>((oInt .i64 e17).bind fun n18=>(bif Nat.ble (((x6).length+1)*8) (140737488355328*1) then (bif inB x5 ((x1).length / 1) then ((x1[((Int.toNat x5)*1)]?).bind fun e19=>((oSl 1 e19).bind fun c20=>((LIM F.q2s [(.sl 1 c20)]).bind fun r21=>((oNil r21.2).bind fun _=>((oSl 1 r21.1).bind fun c22=>(bif Nat.ble (((x7).length+1)*24) (140737488355328*1) then (L0 (q1r.st0 x0 x1 x2 x3 x4 (IntKind.wrap .i64 (x5+(1:Int))) (x6++[(.int .i64 n18)]:List T) (x7++[(.sl 1 c22)]:List T))) else none)))))) else none) else none))) else none)) else (bif (!x4) then (bif Nat.ble (((x6).length+1)*8) (140737488355328*1) then ((LIM F.q2s [(.sl 1 x3)]).bind fun r23=>((oNil r23.2).bind fun _=>((oSl 1 r23.1).bind fun c24=>(bif Nat.ble (((x7).length+1)*24) (140737488355328*1) then some ((.agg [(.sl 1 (x6++[(.int .i64 x2)]:List T)),(.sl 1 (x7++[(.sl 1 c24)]:List T))]),[]) else none)))) else none) else some ((.agg [(.sl 1 x6),(.sl 1 x7)]),[]))):=by kernel_rfl
theorem q1r.ev (n:Nat) (a0_0 a0_1:List T) (a1:Int) (a2:List T):q1m prog A H LIM n F.q1r [(.rref [(.sl 1 a0_0),(.sl 1 a0_1)] 0),(.int .i64 a1),(.sl 1 a2)]=(q1r.at0 n n (q1r.st0 a0_0 a0_1 a1 a2 false (0:Int) [] [])):=by kernel_rfl
def q10.st0 (x0:Int) (x1:List T) (x2:Int) (x3:List T):St:=⟨[(0,(.one (.ptr 1000000 0))),(7,(.one (.obj 1152))),(8,oi x0)],[(1000000,(.box [(.kept 0 (.sl 1 x1)),(.t (.int .i64 x2))])),(1152,(.arr true true 2 x3))]⟩
noncomputable def q10.K0 (n:Nat):Ex→St→R:=kx F.q10 n [.block 0,.seq 0 (cx F.q10 [1,1,1,1,1])] (q3u prog A F.q10)
noncomputable def q10.at0 (n:Nat) (m:Nat) (s:St):R:=lx F.q10 n 0 [1,1,1,1,0,1,0,1,0,0] (q10.K0 n) m s
noncomputable def q10.rd0 (n:Nat) (L0:St→R) (s:St):R:=rx F.q10 n 0 [1,1,1,1,0,1,0,1,0,0] (q10.K0 n) L0 s
theorem q10.next0 (n:Nat) (m:Nat) (s:St):q10.at0 n (m+1) s=q10.rd0 n (q10.at0 n m) s:=nx _ _ _ _ _ _ _
theorem q10.round0 (n:Nat) (L0:St→R) (x0:Int) (x1:List T) (x2:Int) (x3:List T):q10.rd0 n L0 (q10.st0 x0 x1 x2 x3)=(bif (decide (((((x3).length / 2):Nat):Int) < x0)) then (bif inB (0:Int) ((x3).length / 2) then ((LIM F.q6j [(.rref ((x3.drop 0).take 2) 0)]).bind fun r47=>((oNil r47.2).bind fun _=>((oAgg r47.1).bind fun c48=>((q0i c48).bind fun p49=>((oSl 1 p49.1).bind fun c50=>((q0i p49.2).bind fun p51=>((oSl 1 p51.1).bind fun c52=>((oNil p51.2).bind fun _=>(bif Nat.ble (((x3).length+2)*48) (140737488355328*2) then (L0 (q10.st0 x0 x1 x2 (x3++[(.sl 1 c50),(.sl 1 c52)]:List T))) else none))))))))) else none) else some ((.sl 2 x3),[(.agg [(.sl 1 x1),(.int .i64 x2)])])):=by kernel_rfl
theorem q10.ev (n:Nat) (a0_0:List T) (a0_1:Int) (a1_0 a2:List T):q1m prog A H LIM n F.q10 [(.rref [(.sl 1 a0_0),(.int .i64 a0_1)] 0),(.rref [(.sl 2 a1_0)] 0),(.sl 1 a2)]=((LIM F.q4f [(.agg [(.sl 2 a1_0)]),(.sl 1 a2)]).bind fun r1=>((oNil r1.2).bind fun _=>((oInt .i64 r1.1).bind fun n2=>(bif ((n2 != (0:Int))) then some ((.sl 2 []),[(.agg [(.sl 1 a0_0),(.int .i64 a0_1)])]) else ((LIM F.q1g [(.rref [(.sl 1 a0_0),(.int .i64 a0_1)] 0),(.rref [(.sl 2 a1_0)] 0),(.sl 1 a2),(.int .i64 (5:Int))]).bind fun r3=>((q0i r3.2).bind fun p4=>((oNil p4.2).bind fun _=>((oAgg p4.1).bind fun c5=>((q0i c5).bind fun p6=>((oSl 1 p6.1).bind fun c7=>((q0i p6.2).bind fun p8=>((oInt .i64 p8.1).bind fun n9=>((oNil p8.2).bind fun _=>((oSl 2 r3.1).bind fun c10=>((LIM F.q34 [(.rref [(.sl 1 a0_0),(.int .i64 n9)] 0),(.int .i64 (8:Int))]).bind fun r11=>((q0i r11.2).bind fun p12=>((oNil p12.2).bind fun _=>((oAgg p12.1).bind fun c13=>((q0i c13).bind fun p14=>((oSl 1 p14.1).bind fun c15=>((q0i p14.2).bind fun p16=>((oInt .i64 p16.1).bind fun n17=>((oNil p16.2).bind fun _=>((q3h r11.1).bind fun b18=>(bif b18 then ((LIM F.q3g [(.rref [(.sl 1 a0_0),(.int .i64 n17)] 0),(.rref [(.sl 2 a1_0)] 0)]).bind fun r19=>((q0i r19.2).bind fun p20=>((oNil p20.2).bind fun _=>((oAgg p20.1).bind fun c21=>((q0i c21).bind fun p22=>((oSl 1 p22.1).bind fun c23=>((q0i p22.2).bind fun p24=>((oInt .i64 p24.1).bind fun n25=>((oNil p24.2).bind fun _=>((oAgg r19.1).bind fun c26=>((q0i c26).bind fun p27=>((oSl 1 p27.1).bind fun c28=>((q0i p27.2).bind fun p29=>((oSl 1 p29.1).bind fun c30=>((oNil p29.2).bind fun _=>(bif Nat.ble (((c10).length+2)*48) (140737488355328*2) then ((LIM F.q34 [(.rref [(.sl 1 a0_0),(.int .i64 n25)] 0),(.int .i64 (25:Int))]).bind fun r31=>((q0i r31.2).bind fun p32=>((oNil p32.2).bind fun _=>((oAgg p32.1).bind fun c33=>((q0i c33).bind fun p34=>((oSl 1 p34.1).bind fun c35=>((q0i p34.2).bind fun p36=>((oInt .i64 p36.1).bind fun n37=>((oNil p36.2).bind fun _=>((q3h r31.1).bind fun b38=>(bif b38 then (bif (decide ((((((c10++[(.sl 1 c28),(.sl 1 c30)]:List T)).length / 2):Nat):Int) > (0:Int))) then ((LIM F.q3s [(.rref [(.sl 1 a0_0),(.int .i64 n37)] 0),(.sl 1 [(.int .i64 (12:Int)),(.int .i64 (13:Int))])]).bind fun r39=>((q0i r39.2).bind fun p40=>((oNil p40.2).bind fun _=>((oAgg p40.1).bind fun c41=>((q0i c41).bind fun p42=>((oSl 1 p42.1).bind fun c43=>((q0i p42.2).bind fun p44=>((oInt .i64 p44.1).bind fun n45=>((oNil p44.2).bind fun _=>((oInt .i64 r39.1).bind fun n46=>(q10.at0 n n (q10.st0 n46 a0_0 n45 (c10++[(.sl 1 c28),(.sl 1 c30)]:List T))))))))))))) else some ((.sl 2 (c10++[(.sl 1 c28),(.sl 1 c30)]:List T)),[(.agg [(.sl 1 a0_0),(.int .i64 n37)])])) else some ((.sl 2 (c10++[(.sl 1 c28),(.sl 1 c30)]:List T)),[(.agg [(.sl 1 a0_0),(.int .i64 n37)])])))))))))))) else none)))))))))))))))) else ((LIM F.q34 [(.rref [(.sl 1 a0_0),(.int .i64 n17)] 0),(.int .i64 (25:Int))]).bind fun r53=>((q0i r53.2).bind fun p54=>((oNil p54.2).bind fun _=>((oAgg p54.1).bind fun c55=>((q0i c55).bind fun p56=>((oSl 1 p56.1).bind fun c57=>((q0i p56.2).bind fun p58=>((oInt .i64 p58.1).bind fun n59=>((oNil p58.2).bind fun _=>((q3h r53.1).bind fun b60=>(bif b60 then (bif (decide (((((c10).length / 2):Nat):Int) > (0:Int))) then ((LIM F.q3s [(.rref [(.sl 1 a0_0),(.int .i64 n59)] 0),(.sl 1 [(.int .i64 (12:Int)),(.int .i64 (13:Int))])]).bind fun r61=>((q0i r61.2).bind fun p62=>((oNil p62.2).bind fun _=>((oAgg p62.1).bind fun c63=>((q0i c63).bind fun p64=>((oSl 1 p64.1).bind fun c65=>((q0i p64.2).bind fun p66=>((oInt .i64 p66.1).bind fun n67=>((oNil p66.2).bind fun _=>((oInt .i64 r61.1).bind fun n68=>(q10.at0 n n (q10.st0 n68 a0_0 n67 c10)))))))))))) else some ((.sl 2 c10),[(.agg [(.sl 1 a0_0),(.int .i64 n59)])])) else some ((.sl 2 c10),[(.agg [(.sl 1 a0_0),(.int .i64 n59)])]))))))))))))))))))))))))))))))))))))):=by kernel_rfl
def q0j.st4 (x0 x1 x2 x3:List T) (x4 x5:Int) (x6 x7:List T):St:=⟨[(0,(.one (.t (.rref [(.sl 2 x0)] 0)))),(2,ol 1 x1),(3,ol 1 x2),(6,ol 1 x3),(15,oi x4),(16,(.one (.obj 3584))),(18,(.one (.obj 6464))),(20,oi x5)],[(3584,(.arr true true 1 x6)),(6464,(.arr true true 1 x7))]⟩
def q0j.st2 (x0 x1 x2:List T) (x3 x4:Int) (x5:List T) (x6 x7:Int) (x8 x9:List T):St:=⟨[(0,(.one (.t (.rref [(.sl 2 x0)] 0)))),(2,ol 1 x1),(3,ol 1 x2),(4,oi x3),(5,oi x4),(6,ol 1 x5),(15,oi x6),(16,(.one (.obj 3584))),(18,(.one (.obj 6464))),(19,oi x7)],[(3584,(.arr true true 1 x8)),(6464,(.arr true true 1 x9))]⟩
def q0j.st0 (x0 x1 x2 x3:List T) (x4 x5:Int) (x6:List T) (x7 x8:Int) (x9:List T):St:=⟨[(0,(.one (.t (.rref [(.sl 2 x0)] 0)))),(1,ol 1 x1),(2,ol 1 x2),(3,ol 1 x3),(4,oi x4),(5,oi x5),(6,ol 1 x6),(15,oi x7),(16,(.one (.obj 3584))),(17,oi x8)],[(3584,(.arr true true 1 x9))]⟩
noncomputable def q0j.K0 (n:Nat):Ex→St→R:=kx F.q0j n [.block 0,.seq 0 (cx F.q0j [1,1,1,1,1,1])] (q3u prog A F.q0j)
noncomputable def q0j.at0 (n:Nat) (m:Nat) (s:St):R:=lx F.q0j n 0 [1,1,1,1,1,0,1,0,0] (q0j.K0 n) m s
noncomputable def q0j.rd0 (n:Nat) (L0:St→R) (s:St):R:=rx F.q0j n 0 [1,1,1,1,1,0,1,0,0] (q0j.K0 n) L0 s
theorem q0j.next0 (n:Nat) (m:Nat) (s:St):q0j.at0 n (m+1) s=q0j.rd0 n (q0j.at0 n m) s:=nx _ _ _ _ _ _ _
noncomputable def q0j.K2 (n:Nat):Ex→St→R:=kx F.q0j n [.block 2,.seq 0 (cx F.q0j [1,1,1,1,1,1,1,1,1])] (q3u prog A F.q0j)
noncomputable def q0j.at2 (n:Nat) (m:Nat) (s:St):R:=lx F.q0j n 2 [1,1,1,1,1,1,1,1,0,1,0,0] (q0j.K2 n) m s
noncomputable def q0j.rd2 (n:Nat) (L2:St→R) (s:St):R:=rx F.q0j n 2 [1,1,1,1,1,1,1,1,0,1,0,0] (q0j.K2 n) L2 s
theorem q0j.next2 (n:Nat) (m:Nat) (s:St):q0j.at2 n (m+1) s=q0j.rd2 n (q0j.at2 n m) s:=nx _ _ _ _ _ _ _
noncomputable def q0j.K4 (n:Nat):Ex→St→R:=kx F.q0j n [.block 4,.seq 0 (cx F.q0j [1,1,1,1,1,1,1,1,1,1,1])] (q3u prog A F.q0j)
noncomputable def q0j.at4 (n:Nat) (m:Nat) (s:St):R:=lx F.q0j n 4 [1,1,1,1,1,1,1,1,1,1,0,1,0,0] (q0j.K4 n) m s
noncomputable def q0j.rd4 (n:Nat) (L4:St→R) (s:St):R:=rx F.q0j n 4 [1,1,1,1,1,1,1,1,1,1,0,1,0,0] (q0j.K4 n) L4 s
theorem q0j.next4 (n:Nat) (m:Nat) (s:St):q0j.at4 n (m+1) s=q0j.rd4 n (q0j.at4 n m) s:=nx _ _ _ _ _ _ _
theorem q0j.round0 (n:Nat) (L0:St→R) (x0 x1 x2 x3:List T) (x4 x5:Int) (x6:List T) (x7 x8:Int) (x9:List T):q0j.rd0 n L0 (q0j.st0 x0 x1 x2 x3 x4 x5 x6 x7 x8 x9)=(bif (decide (x8 < ((((x9).length / 1):Nat):Int))) then (bif inB x8 ((x9).length / 1) then ((x9[((Int.toNat x8)*1)]?).bind fun e15=>((oInt .i64 e15).bind fun n16=>(bif inB (IntKind.wrap .i64 ((IntKind.wrap .i64 (n16*x7))+x5)) ((x6).length / 1) then ((x6[((Int.toNat (IntKind.wrap .i64 ((IntKind.wrap .i64 (n16*x7))+x5)))*1)]?).bind fun e17=>((q3h e17).bind fun b18=>(bif b18 then some ((.bool true),[]) else (bif inB x8 ((x9).length / 1) then ((x9[((Int.toNat x8)*1)]?).bind fun e19=>((oInt .i64 e19).bind fun n20=>((LIM F.q5q [(.rref [(.sl 2 x0)] 0),(.sl 1 x2),(.int .i64 n20),(.sl 1 x3),(.int .i64 x5)]).bind fun r21=>((oNil r21.2).bind fun _=>((q3h r21.1).bind fun b22=>(bif b22 then some ((.bool true),[]) else (L0 (q0j.st0 x0 x1 x2 x3 x4 x5 x6 x7 (IntKind.wrap .i64 (x8+(1:Int))) x9)))))))) else none)))) else none))) else none) else (bif inB x4 ((x2).length / 1) then ((x2[((Int.toNat x4)*1)]?).bind fun e23=>((oInt .i64 e23).bind fun n24=>((LIM F.q22 [(.sl 1 x1),(.int .i64 n24)]).bind fun r25=>((oNil r25.2).bind fun _=>((oInt .i64 r25.1).bind fun n26=>(bif inB x5 ((x3).length / 1) then ((x3[((Int.toNat x5)*1)]?).bind fun e27=>((oInt .i64 e27).bind fun n28=>((LIM F.q22 [(.sl 1 x1),(.int .i64 n28)]).bind fun r29=>((oNil r29.2).bind fun _=>((oInt .i64 r29.1).bind fun n30=>(bif (decide (n26 < n30)) then some ((.bool false),[]) else ((LIM F.q1i [(.rref [(.sl 2 x0)] 0),(.sl 1 x3),(.int .i64 x5)]).bind fun r31=>((oNil r31.2).bind fun _=>((oSl 1 r31.1).bind fun c32=>(q0j.at2 n n (q0j.st2 x0 x2 x3 x4 x5 x6 x7 (0:Int) x9 c32))))))))))) else none)))))) else none)):=by kernel_rfl
theorem q0j.round2 (n:Nat) (L2:St→R) (x0 x1 x2:List T) (x3 x4:Int) (x5:List T) (x6 x7:Int) (x8 x9:List T):q0j.rd2 n L2 (q0j.st2 x0 x1 x2 x3 x4 x5 x6 x7 x8 x9)=(bif (decide (x7 < ((((x9).length / 1):Nat):Int))) then (bif inB x7 ((x9).length / 1) then ((x9[((Int.toNat x7)*1)]?).bind fun e33=>((oInt .i64 e33).bind fun n34=>(bif inB (IntKind.wrap .i64 ((IntKind.wrap .i64 (x3*x6))+n34)) ((x5).length / 1) then ((x5[((Int.toNat (IntKind.wrap .i64 ((IntKind.wrap .i64 (x3*x6))+n34)))*1)]?).bind fun e35=>((q3h e35).bind fun b36=>(bif (!b36) then some ((.bool false),[]) else (L2 (q0j.st2 x0 x1 x2 x3 x4 x5 x6 (IntKind.wrap .i64 (x7+(1:Int))) x8 x9))))) else none))) else none) else (bif inB x3 ((x1).length / 1) then ((x1[((Int.toNat x3)*1)]?).bind fun e37=>((oInt .i64 e37).bind fun n38=>(bif inB x4 ((x2).length / 1) then ((x2[((Int.toNat x4)*1)]?).bind fun e39=>((oInt .i64 e39).bind fun n40=>(bif ((n38 != n40)) then some ((.bool true),[]) else (q0j.at4 n n (q0j.st4 x0 x1 x2 x5 x6 (0:Int) x8 x9))))) else none))) else none)):=by kernel_rfl
theorem q0j.round4 (n:Nat) (L4:St→R) (x0 x1 x2 x3:List T) (x4 x5:Int) (x6 x7:List T):q0j.rd4 n L4 (q0j.st4 x0 x1 x2 x3 x4 x5 x6 x7)=(bif (decide (x5 < ((((x6).length / 1):Nat):Int))) then (bif (decide (x5 < ((((x7).length / 1):Nat):Int))) then (bif inB x5 ((x6).length / 1) then ((x6[((Int.toNat x5)*1)]?).bind fun e41=>((oInt .i64 e41).bind fun n42=>(bif inB x5 ((x7).length / 1) then ((x7[((Int.toNat x5)*1)]?).bind fun e43=>((oInt .i64 e43).bind fun n44=>((LIM F.q5q [(.rref [(.sl 2 x0)] 0),(.sl 1 x1),(.int .i64 n42),(.sl 1 x2),(.int .i64 n44)]).bind fun r45=>((oNil r45.2).bind fun _=>((q3h r45.1).bind fun b46=>(bif (!b46) then (bif inB x5 ((x6).length / 1) then ((x6[((Int.toNat x5)*1)]?).bind fun e47=>((oInt .i64 e47).bind fun n48=>(bif inB x5 ((x7).length / 1) then ((x7[((Int.toNat x5)*1)]?).bind fun e49=>((oInt .i64 e49).bind fun n50=>(bif inB (IntKind.wrap .i64 ((IntKind.wrap .i64 (n48*x4))+n50)) ((x3).length / 1) then ((x3[((Int.toNat (IntKind.wrap .i64 ((IntKind.wrap .i64 (n48*x4))+n50)))*1)]?).bind fun e51=>((q3h e51).bind fun b52=>some ((.bool b52),[]))) else none))) else none))) else none) else (L4 (q0j.st4 x0 x1 x2 x3 x4 (IntKind.wrap .i64 (x5+(1:Int))) x6 x7)))))))) else none))) else none) else some ((.bool false),[])) else some ((.bool false),[])):=by kernel_rfl
theorem q0j.ev (n:Nat) (a0_0 a1 a2 a3:List T) (a4 a5:Int) (a6:List T):q1m prog A H LIM n F.q0j [(.rref [(.sl 2 a0_0)] 0),(.sl 1 a1),(.sl 1 a2),(.sl 1 a3),(.int .i64 a4),(.int .i64 a5),(.sl 1 a6)]=(bif inB a5 ((a3).length / 1) then ((a3[((Int.toNat a5)*1)]?).bind fun e1=>((oInt .i64 e1).bind fun n2=>(bif (decide (n2 < (0:Int))) then (bif inB a4 ((a2).length / 1) then ((a2[((Int.toNat a4)*1)]?).bind fun e3=>((oInt .i64 e3).bind fun n4=>(bif (decide (n4 ≥ (0:Int))) then ((LIM F.q1v [(.rref [(.sl 2 a0_0)] 0),(.sl 1 a2),(.int .i64 a4)]).bind fun r5=>((oNil r5.2).bind fun _=>((oInt .i64 r5.1).bind fun n6=>(bif decide (0≤a4)&&decide (a4≤n6)&&decide (n6≤((((a2).length / 1):Nat):Int)) then (bif inB a5 ((a3).length / 1) then ((a3[((Int.toNat a5)*1)]?).bind fun e7=>((oInt .i64 e7).bind fun n8=>((LIM F.q1k [(.sl 1 ((a2.take ((Int.toNat n6)*1)).drop ((Int.toNat a4)*1))),(.int .i64 n8)]).bind fun r9=>((oNil r9.2).bind fun _=>((oInt .i64 r9.1).bind fun n10=>some ((.bool (decide (n10 > (0:Int)))),[])))))) else none) else none)))) else some ((.bool false),[])))) else none) else (bif inB a4 ((a2).length / 1) then ((a2[((Int.toNat a4)*1)]?).bind fun e11=>((oInt .i64 e11).bind fun n12=>(bif (decide (n12 < (0:Int))) then some ((.bool false),[]) else ((LIM F.q1i [(.rref [(.sl 2 a0_0)] 0),(.sl 1 a2),(.int .i64 a4)]).bind fun r13=>((oNil r13.2).bind fun _=>((oSl 1 r13.1).bind fun c14=>(q0j.at0 n n (q0j.st0 a0_0 a1 a2 a3 a4 a5 a6 ((((a3).length / 1):Nat):Int) (0:Int) c14)))))))) else none)))) else none):=by kernel_rfl
theorem q5y.ev (n:Nat) (a0_0 a1 a2 a3:List T):q1m prog A H LIM n F.q5y [(.rref [(.sl 2 a0_0)] 0),(.sl 1 a1),(.sl 1 a2),(.sl 1 a3)]=((LIM F.q23 [(.sl 1 a2),(.sl 1 a3)]).bind fun r1=>((oNil r1.2).bind fun _=>((q3h r1.1).bind fun b2=>(bif b2 then some ((.int .i64 (3:Int)),[]) else ((LIM F.q6a [(.rref [(.sl 2 a0_0)] 0),(.sl 1 a1),(.sl 1 a2),(.sl 1 a3)]).bind fun r3=>((oNil r3.2).bind fun _=>((q3h r3.1).bind fun b4=>(bif b4 then some ((.int .i64 (1:Int)),[]) else ((LIM F.q6a [(.rref [(.sl 2 a0_0)] 0),(.sl 1 a1),(.sl 1 a3),(.sl 1 a2)]).bind fun r5=>((oNil r5.2).bind fun _=>((q3h r5.1).bind fun b6=>(bif b6 then some ((.int .i64 (2:Int)),[]) else some ((.int .i64 (0:Int)),[]))))))))))))):=by kernel_rfl
theorem q5q.ev (n:Nat) (a0_0 a1:List T) (a2:Int) (a3:List T) (a4:Int):q1m prog A H LIM n F.q5q [(.rref [(.sl 2 a0_0)] 0),(.sl 1 a1),(.int .i64 a2),(.sl 1 a3),(.int .i64 a4)]=((LIM F.q1v [(.rref [(.sl 2 a0_0)] 0),(.sl 1 a1),(.int .i64 a2)]).bind fun r1=>((oNil r1.2).bind fun _=>((oInt .i64 r1.1).bind fun n2=>(bif decide (0≤a2)&&decide (a2≤n2)&&decide (n2≤((((a1).length / 1):Nat):Int)) then ((LIM F.q1v [(.rref [(.sl 2 a0_0)] 0),(.sl 1 a3),(.int .i64 a4)]).bind fun r3=>((oNil r3.2).bind fun _=>((oInt .i64 r3.1).bind fun n4=>(bif decide (0≤a4)&&decide (a4≤n4)&&decide (n4≤((((a3).length / 1):Nat):Int)) then ((LIM F.q23 [(.sl 1 ((a1.take ((Int.toNat n2)*1)).drop ((Int.toNat a2)*1))),(.sl 1 ((a3.take ((Int.toNat n4)*1)).drop ((Int.toNat a4)*1)))]).bind fun r5=>((oNil r5.2).bind fun _=>((q3h r5.1).bind fun b6=>some ((.bool b6),[])))) else none)))) else none)))):=by kernel_rfl
end Ev
end
section
open Go
set_option maxRecDepth 100000
namespace Ev
theorem q6a.ev (n:Nat) (a0_0 a1 a2 a3:List T):q1m prog A H LIM n F.q6a [(.rref [(.sl 2 a0_0)] 0),(.sl 1 a1),(.sl 1 a2),(.sl 1 a3)]=((LIM F.q0w [(.rref [(.sl 2 a0_0)] 0),(.sl 1 a1),(.sl 1 a2),(.sl 1 a3)]).bind fun r1=>((oNil r1.2).bind fun _=>((oSl 1 r1.1).bind fun c2=>(bif inB (0:Int) ((c2).length / 1) then ((c2[0]?).bind fun e3=>((q3h e3).bind fun b4=>some ((.bool b4),[]))) else none)))):=by kernel_rfl
def q1g.st0 (x0 x1:List T) (x2:Int) (x3:List T) (x4:Int) (x5:List T):St:=⟨[(0,(.one (.ptr 1000000 0))),(1,(.one (.t (.rref [(.sl 2 x0)] 0)))),(2,ol 1 x1),(9,(.one (.obj 960))),(10,oi x2)],[(1000000,(.box [(.kept 0 (.sl 1 x3)),(.t (.int .i64 x4))])),(960,(.arr true true 2 x5))]⟩
noncomputable def q1g.K0 (n:Nat):Ex→St→R:=kx F.q1g n [.block 0,.seq 0 (cx F.q1g [1,1,1])] (q3u prog A F.q1g)
noncomputable def q1g.at0 (n:Nat) (m:Nat) (s:St):R:=lx F.q1g n 0 [1,1,0,1,0,0] (q1g.K0 n) m s
noncomputable def q1g.rd0 (n:Nat) (L0:St→R) (s:St):R:=rx F.q1g n 0 [1,1,0,1,0,0] (q1g.K0 n) L0 s
theorem q1g.next0 (n:Nat) (m:Nat) (s:St):q1g.at0 n (m+1) s=q1g.rd0 n (q1g.at0 n m) s:=nx _ _ _ _ _ _ _
theorem q1g.round0 (n:Nat) (L0:St→R) (x0 x1:List T) (x2:Int) (x3:List T) (x4:Int) (x5:List T):q1g.rd0 n L0 (q1g.st0 x0 x1 x2 x3 x4 x5)=(bif (decide (x2 > (0:Int))) then ((LIM F.q5u [(.rref [(.sl 1 x3),(.int .i64 x4)] 0),(.rref [(.sl 2 x0)] 0)]).bind fun r9=>((q0i r9.2).bind fun p10=>((oNil p10.2).bind fun _=>((oAgg p10.1).bind fun c11=>((q0i c11).bind fun p12=>((oSl 1 p12.1).bind fun c13=>((q0i p12.2).bind fun p14=>((oInt .i64 p14.1).bind fun n15=>((oNil p14.2).bind fun _=>((oAgg r9.1).bind fun c16=>((q0i c16).bind fun p17=>((oSl 1 p17.1).bind fun c18=>((q0i p17.2).bind fun p19=>((oSl 1 p19.1).bind fun c20=>((oNil p19.2).bind fun _=>((LIM F.q4b [(.agg [(.sl 2 x0)]),(.sl 1 x1),(.agg [(.sl 1 c18),(.sl 1 c20)])]).bind fun r21=>((oNil r21.2).bind fun _=>((oAgg r21.1).bind fun c22=>((q0i c22).bind fun p23=>((oInt .i64 p23.1).bind fun n24=>((q0i p23.2).bind fun p25=>((oSl 1 p25.1).bind fun c26=>((q0i p25.2).bind fun p27=>((oSl 1 p27.1).bind fun c28=>((oNil p27.2).bind fun _=>(bif ((n24 == (0:Int))) then ((LIM F.q1f [(.rref [(.sl 1 c26),(.sl 1 c28)] 0)]).bind fun r29=>((oNil r29.2).bind fun _=>((oTup r29.1).bind fun c30=>((q0i c30).bind fun p31=>((oAgg p31.1).bind fun c32=>((q0i c32).bind fun p33=>((oSl 1 p33.1).bind fun c34=>((q0i p33.2).bind fun p35=>((oSl 1 p35.1).bind fun c36=>((oNil p35.2).bind fun _=>((q0i p31.2).bind fun p37=>((q3h p37.1).bind fun b38=>((oNil p37.2).bind fun _=>(bif b38 then (bif Nat.ble (((x5).length+2)*48) (140737488355328*2) then (L0 (q1g.st0 x0 x1 (IntKind.wrap .i64 (x2 - (1:Int))) x3 n15 (x5++[(.sl 1 c34),(.sl 1 c36)]:List T))) else none) else (L0 (q1g.st0 x0 x1 (IntKind.wrap .i64 (x2 - (1:Int))) x3 n15 x5)))))))))))))))) else (L0 (q1g.st0 x0 x1 (IntKind.wrap .i64 (x2 - (1:Int))) x3 n15 x5)))))))))))))))))))))))))))) else some ((.sl 2 x5),[(.agg [(.sl 1 x3),(.int .i64 x4)])])):=by kernel_rfl
theorem q1g.ev (n:Nat) (a0_0:List T) (a0_1:Int) (a1_0 a2:List T) (a3:Int):q1m prog A H LIM n F.q1g [(.rref [(.sl 1 a0_0),(.int .i64 a0_1)] 0),(.rref [(.sl 2 a1_0)] 0),(.sl 1 a2),(.int .i64 a3)]=((LIM F.q1p [(.rref [(.sl 1 a0_0),(.int .i64 a0_1)] 0),(.int .i64 (IntKind.wrap .i64 (a3+(1:Int))))]).bind fun r1=>((q0i r1.2).bind fun p2=>((oNil p2.2).bind fun _=>((oAgg p2.1).bind fun c3=>((q0i c3).bind fun p4=>((oSl 1 p4.1).bind fun c5=>((q0i p4.2).bind fun p6=>((oInt .i64 p6.1).bind fun n7=>((oNil p6.2).bind fun _=>((oInt .i64 r1.1).bind fun n8=>(q1g.at0 n n (q1g.st0 a1_0 a2 n8 a0_0 n7 [])))))))))))):=by kernel_rfl
def q1i.st0 (x0 x1:List T) (x2 x3 x4:Int) (x5:List T):St:=⟨[(0,(.one (.t (.rref [(.sl 2 x0)] 0)))),(1,ol 1 x1),(2,oi x2),(7,(.one (.obj 640))),(8,oi x3),(9,oi x4)],[(640,(.arr true true 1 x5))]⟩
noncomputable def q1i.K0 (n:Nat):Ex→St→R:=kx F.q1i n [.block 0,.seq 0 (cx F.q1i [1,1,1,1])] (q3u prog A F.q1i)
noncomputable def q1i.at0 (n:Nat) (m:Nat) (s:St):R:=lx F.q1i n 0 [1,1,1,0,1,0,0] (q1i.K0 n) m s
noncomputable def q1i.rd0 (n:Nat) (L0:St→R) (s:St):R:=rx F.q1i n 0 [1,1,1,0,1,0,0] (q1i.K0 n) L0 s
theorem q1i.next0 (n:Nat) (m:Nat) (s:St):q1i.at0 n (m+1) s=q1i.rd0 n (q1i.at0 n m) s:=nx _ _ _ _ _ _ _
theorem q1i.round0 (n:Nat) (L0:St→R) (x0 x1:List T) (x2 x3 x4:Int) (x5:List T):q1i.rd0 n L0 (q1i.st0 x0 x1 x2 x3 x4 x5)=(bif inB x2 ((x1).length / 1) then ((x1[((Int.toNat x2)*1)]?).bind fun e1=>((oInt .i64 e1).bind fun n2=>(bif inB n2 ((x0).length / 2) then ((x0[(((Int.toNat n2)*2)+1)]?).bind fun e3=>((oInt .i64 e3).bind fun n4=>(bif (decide (x4 < n4)) then (bif Nat.ble (((x5).length+1)*8) (140737488355328*1) then ((LIM F.q1v [(.rref [(.sl 2 x0)] 0),(.sl 1 x1),(.int .i64 x3)]).bind fun r5=>((oNil r5.2).bind fun _=>((oInt .i64 r5.1).bind fun n6=>(L0 (q1i.st0 x0 x1 x2 n6 (IntKind.wrap .i64 (x4+(1:Int))) (x5++[(.int .i64 x3)]:List T)))))) else none) else some ((.sl 1 x5),[])))) else none))) else none):=by kernel_rfl
theorem q1i.ev (n:Nat) (a0_0 a1:List T) (a2:Int):q1m prog A H LIM n F.q1i [(.rref [(.sl 2 a0_0)] 0),(.sl 1 a1),(.int .i64 a2)]=(q1i.at0 n n (q1i.st0 a0_0 a1 a2 (IntKind.wrap .i64 (a2+(1:Int))) (0:Int) [])):=by kernel_rfl
def q0w.st2 (x0 x1 x2 x3:List T) (x4 x5 x6:Int) (x7:List T):St:=⟨[(0,(.one (.t (.rref [(.sl 2 x0)] 0)))),(1,ol 1 x1),(2,ol 1 x2),(3,ol 1 x3),(9,oi x4),(10,(.one (.obj 1216))),(11,oi x5),(12,oi x6)],[(1216,(.arr true true 1 x7))]⟩
def q0w.st0 (x0 x1 x2 x3:List T) (x4 x5:Int) (x6:List T):St:=⟨[(0,(.one (.t (.rref [(.sl 2 x0)] 0)))),(1,ol 1 x1),(2,ol 1 x2),(3,ol 1 x3),(9,oi x4),(10,(.one (.obj 1216))),(11,oi x5)],[(1216,(.arr true true 1 x6))]⟩
noncomputable def q0w.K0 (n:Nat):Ex→St→R:=kx F.q0w n [.block 0,.seq 0 (cx F.q0w [1,1,1,1])] (q3u prog A F.q0w)
noncomputable def q0w.at0 (n:Nat) (m:Nat) (s:St):R:=lx F.q0w n 0 [1,1,1,0,1,0,0] (q0w.K0 n) m s
noncomputable def q0w.rd0 (n:Nat) (L0:St→R) (s:St):R:=rx F.q0w n 0 [1,1,1,0,1,0,0] (q0w.K0 n) L0 s
theorem q0w.next0 (n:Nat) (m:Nat) (s:St):q0w.at0 n (m+1) s=q0w.rd0 n (q0w.at0 n m) s:=nx _ _ _ _ _ _ _
noncomputable def q0w.K2 (n:Nat) (L0:St→R):Ex→St→R:=kx F.q0w n [.block 2,.block 1,.seq 0 (cx F.q0w [1,1,1,0,1,0,0,1,1])] (bx F.q0w 0 (q0w.K0 n) L0)
noncomputable def q0w.at2 (n:Nat) (L0:St→R) (m:Nat) (s:St):R:=lx F.q0w n 2 [1,1,1,0,1,0,0,1,0,0,1,0,0] (q0w.K2 n L0) m s
noncomputable def q0w.rd2 (n:Nat) (L0:St→R) (L2:St→R) (s:St):R:=rx F.q0w n 2 [1,1,1,0,1,0,0,1,0,0,1,0,0] (q0w.K2 n L0) L2 s
theorem q0w.next2 (n:Nat) (L0:St→R) (m:Nat) (s:St):q0w.at2 n L0 (m+1) s=q0w.rd2 n L0 (q0w.at2 n L0 m) s:=nx _ _ _ _ _ _ _
theorem q0w.round0 (n:Nat) (L0:St→R) (x0 x1 x2 x3:List T) (x4 x5:Int) (x6:List T):q0w.rd0 n L0 (q0w.st0 x0 x1 x2 x3 x4 x5 x6)=(bif (decide (x5 ≥ (0:Int))) then (q0w.at2 n L0 n (q0w.st2 x0 x1 x2 x3 x4 x5 (IntKind.wrap .i64 (x4 - (1:Int))) x6)) else some ((.sl 1 x6),[])):=by kernel_rfl
theorem q0w.round2 (n:Nat) (L0:St→R) (L2:St→R) (x0 x1 x2 x3:List T) (x4 x5 x6:Int) (x7:List T):q0w.rd2 n L0 L2 (q0w.st2 x0 x1 x2 x3 x4 x5 x6 x7)=(bif (decide (x6 ≥ (0:Int))) then ((LIM F.q0j [(.rref [(.sl 2 x0)] 0),(.sl 1 x1),(.sl 1 x2),(.sl 1 x3),(.int .i64 x5),(.int .i64 x6),(.sl 1 x7)]).bind fun r1=>((oNil r1.2).bind fun _=>((q3h r1.1).bind fun b2=>(bif inB (IntKind.wrap .i64 ((IntKind.wrap .i64 (x5*x4))+x6)) ((x7).length / 1) then (bif decide (((Int.toNat (IntKind.wrap .i64 ((IntKind.wrap .i64 (x5*x4))+x6)))*1)+1≤(x7).length) then (L2 (q0w.st2 x0 x1 x2 x3 x4 x5 (IntKind.wrap .i64 (x6 - (1:Int))) (setCells x7 ((Int.toNat (IntKind.wrap .i64 ((IntKind.wrap .i64 (x5*x4))+x6)))*1) [(.bool b2)]))) else none) else none)))) else (L0 (q0w.st0 x0 x1 x2 x3 x4 (IntKind.wrap .i64 (x5 - (1:Int))) x7))):=by kernel_rfl
theorem q0w.ev (n:Nat) (a0_0 a1 a2 a3:List T):q1m prog A H LIM n F.q0w [(.rref [(.sl 2 a0_0)] 0),(.sl 1 a1),(.sl 1 a2),(.sl 1 a3)]=(bif decide (0≤(IntKind.wrap .i64 (((((a2).length / 1):Nat):Int)*((((a3).length / 1):Nat):Int))))&&decide ((IntKind.wrap .i64 (((((a2).length / 1):Nat):Int)*((((a3).length / 1):Nat):Int)))=(IntKind.wrap .i64 (((((a2).length / 1):Nat):Int)*((((a3).length / 1):Nat):Int))))&&Nat.ble (((Int.toNat (IntKind.wrap .i64 (((((a2).length / 1):Nat):Int)*((((a3).length / 1):Nat):Int))))*1)*1) (140737488355328*1) then (q0w.at0 n n (q0w.st0 a0_0 a1 a2 a3 ((((a3).length / 1):Nat):Int) (IntKind.wrap .i64 (((((a2).length / 1):Nat):Int) - (1:Int))) (repT (Int.toNat (IntKind.wrap .i64 (((((a2).length / 1):Nat):Int)*((((a3).length / 1):Nat):Int)))) [(.bool false)]))) else none):=by kernel_rfl
def q0u.st2 (x0:List T) (x1 x2:Int):St:=⟨[(1,ol 2 x0),(6,oi x1),(7,oi x2)],[]⟩
def q0u.st0 (x0:List T) (x1:Int):St:=⟨[(1,ol 2 x0),(6,oi x1)],[]⟩
noncomputable def q0u.K0 (n:Nat):Ex→St→R:=kx F.q0u n [.block 0,.seq 0 (cx F.q0u [1,1,1])] (q3u prog A F.q0u)
noncomputable def q0u.at0 (n:Nat) (m:Nat) (s:St):R:=lx F.q0u n 0 [1,1,0,1,0,0] (q0u.K0 n) m s
noncomputable def q0u.rd0 (n:Nat) (L0:St→R) (s:St):R:=rx F.q0u n 0 [1,1,0,1,0,0] (q0u.K0 n) L0 s
theorem q0u.next0 (n:Nat) (m:Nat) (s:St):q0u.at0 n (m+1) s=q0u.rd0 n (q0u.at0 n m) s:=nx _ _ _ _ _ _ _
noncomputable def q0u.K2 (n:Nat) (L0:St→R):Ex→St→R:=kx F.q0u n [.block 2,.block 1,.seq 0 (cx F.q0u [1,1,0,1,0,0,1,1])] (bx F.q0u 0 (q0u.K0 n) L0)
noncomputable def q0u.at2 (n:Nat) (L0:St→R) (m:Nat) (s:St):R:=lx F.q0u n 2 [1,1,0,1,0,0,1,0,0,1,1,0,0] (q0u.K2 n L0) m s
noncomputable def q0u.rd2 (n:Nat) (L0:St→R) (L2:St→R) (s:St):R:=rx F.q0u n 2 [1,1,0,1,0,0,1,0,0,1,1,0,0] (q0u.K2 n L0) L2 s
theorem q0u.next2 (n:Nat) (L0:St→R) (m:Nat) (s:St):q0u.at2 n L0 (m+1) s=q0u.rd2 n L0 (q0u.at2 n L0 m) s:=nx _ _ _ _ _ _ _
theorem q0u.round0 (n:Nat) (L0:St→R) (x0:List T) (x1:Int):q0u.rd0 n L0 (q0u.st0 x0 x1)=(bif (decide (x1 < ((((x0).length / 2):Nat):Int))) then (bif inB x1 ((x0).length / 2) then ((x0[((Int.toNat x1)*2)]?).bind fun e3=>((oSl 1 e3).bind fun c4=>(bif inB (0:Int) ((c4).length / 1) then ((c4[0]?).bind fun e5=>((oInt .i64 e5).bind fun n6=>(bif (decide (n6 < (0:Int))) then some ((.int .i64 (1:Int)),[]) else (q0u.at2 n L0 n (q0u.st2 x0 x1 (0:Int)))))) else none))) else none) else some ((.int .i64 (0:Int)),[])):=by kernel_rfl
theorem q0u.round2 (n:Nat) (L0:St→R) (L2:St→R) (x0:List T) (x1 x2:Int):q0u.rd2 n L0 L2 (q0u.st2 x0 x1 x2)=(bif inB x1 ((x0).length / 2) then ((x0[(((Int.toNat x1)*2)+1)]?).bind fun e7=>((oSl 1 e7).bind fun c8=>(bif (decide (x2 < ((((c8).length / 1):Nat):Int))) then (bif inB x1 ((x0).length / 2) then ((x0[(((Int.toNat x1)*2)+1)]?).bind fun e9=>((oSl 1 e9).bind fun c10=>(bif inB x2 ((c10).length / 1) then ((c10[((Int.toNat x2)*1)]?).bind fun e11=>((oInt .i64 e11).bind fun n12=>(bif (decide (n12 < (0:Int))) then (bif inB x1 ((x0).length / 2) then ((x0[((Int.toNat x1)*2)]?).bind fun e13=>((oSl 1 e13).bind fun c14=>((LIM F.q1k [(.sl 1 c14),(.int .i64 n12)]).bind fun r15=>((oNil r15.2).bind fun _=>((oInt .i64 r15.1).bind fun n16=>(bif ((n16 == (0:Int))) then some ((.int .i64 (1:Int)),[]) else (L2 (q0u.st2 x0 x1 (IntKind.wrap .i64 (x2+(1:Int))))))))))) else none) else (L2 (q0u.st2 x0 x1 (IntKind.wrap .i64 (x2+(1:Int)))))))) else none))) else none) else (L0 (q0u.st0 x0 (IntKind.wrap .i64 (x1+(1:Int)))))))) else none):=by kernel_rfl
theorem q0u.ev (n:Nat) (a0_0 a1:List T):q1m prog A H LIM n F.q0u [(.rref [(.sl 2 a0_0)] 0),(.sl 2 a1)]=((LIM F.q1w [(.rref [(.sl 2 a0_0)] 0),(.sl 2 a1)]).bind fun r1=>((oNil r1.2).bind fun _=>((oInt .i64 r1.1).bind fun n2=>(bif ((n2 != (0:Int))) then some ((.int .i64 n2),[]) else (q0u.at0 n n (q0u.st0 a1 (0:Int))))))):=by kernel_rfl
theorem q73.ev (n:Nat) (a0:List T):q1m prog A H LIM n F.q73 [(.sl 1 a0)]=((LIM F.q5o [(.sl 1 a0)]).bind fun r1=>((oNil r1.2).bind fun _=>((oBx r1.1).bind fun c2=>((q0i c2).bind fun p3=>((oSl 1 p3.1).bind fun c4=>((q0i p3.2).bind fun p5=>((oInt .i64 p5.1).bind fun n6=>((oNil p5.2).bind fun _=>((LIM F.q12 [(.rref [(.sl 1 c4),(.int .i64 n6)] 0)]).bind fun r7=>((q0i r7.2).bind fun p8=>((oNil p8.2).bind fun _=>((oAgg p8.1).bind fun c9=>((q0i c9).bind fun p10=>((oSl 1 p10.1).bind fun c11=>((q0i p10.2).bind fun p12=>((oInt .i64 p12.1).bind fun n13=>((oNil p12.2).bind fun _=>((oAgg r7.1).bind fun c14=>((q0i c14).bind fun p15=>((oSl 2 p15.1).bind fun c16=>((oNil p15.2).bind fun _=>((LIM F.q13 [(.rref [(.sl 1 c4),(.int .i64 n13)] 0),(.agg [(.sl 2 c16)])]).bind fun r17=>((q0i r17.2).bind fun p18=>((oNil p18.2).bind fun _=>((oAgg p18.1).bind fun c19=>((q0i c19).bind fun p20=>((oSl 1 p20.1).bind fun c21=>((q0i p20.2).bind fun p22=>((oInt .i64 p22.1).bind fun n23=>((oNil p22.2).bind fun _=>((oSl 1 r17.1).bind fun c24=>((LIM F.q10 [(.rref [(.sl 1 c4),(.int .i64 n23)] 0),(.rref [(.sl 2 c16)] 0),(.sl 1 c24)]).bind fun r25=>((q0i r25.2).bind fun p26=>((oNil p26.2).bind fun _=>((oAgg p26.1).bind fun c27=>((q0i c27).bind fun p28=>((oSl 1 p28.1).bind fun c29=>((q0i p28.2).bind fun p30=>((oInt .i64 p30.1).bind fun n31=>((oNil p30.2).bind fun _=>((oSl 2 r25.1).bind fun c32=>some ((.tup [(.agg [(.sl 2 c16)]),(.sl 1 c24),(.sl 2 c32),(.bx [(.sl 1 c4),(.int .i64 n31)])]),[])))))))))))))))))))))))))))))))))))))))))):=by kernel_rfl
theorem q71.ev (n:Nat) (a0:List T):q1m prog A H LIM n F.q71 [(.sl 1 a0)]=((LIM F.q73 [(.sl 1 a0)]).bind fun r1=>((oNil r1.2).bind fun _=>((oTup r1.1).bind fun c2=>((q0i c2).bind fun p3=>((oAgg p3.1).bind fun c4=>((q0i c4).bind fun p5=>((oSl 2 p5.1).bind fun c6=>((oNil p5.2).bind fun _=>((q0i p3.2).bind fun p7=>((oSl 1 p7.1).bind fun c8=>((q0i p7.2).bind fun p9=>((oSl 2 p9.1).bind fun c10=>((q0i p9.2).bind fun p11=>((oBx p11.1).bind fun c12=>((q0i c12).bind fun p13=>((oSl 1 p13.1).bind fun c14=>((q0i p13.2).bind fun p15=>((oInt .i64 p15.1).bind fun n16=>((oNil p15.2).bind fun _=>((oNil p11.2).bind fun _=>(bif (decide (((((c10).length / 2):Nat):Int) < (1:Int))) then ((LIM F.q3g [(.rref [(.sl 1 c14),(.int .i64 n16)] 0),(.rref [(.sl 2 c6)] 0)]).bind fun r17=>((q0i r17.2).bind fun p18=>((oNil p18.2).bind fun _=>((oAgg p18.1).bind fun c19=>((q0i c19).bind fun p20=>((oSl 1 p20.1).bind fun c21=>((q0i p20.2).bind fun p22=>((oInt .i64 p22.1).bind fun n23=>((oNil p22.2).bind fun _=>((oAgg r17.1).bind fun c24=>((q0i c24).bind fun p25=>((oSl 1 p25.1).bind fun c26=>((q0i p25.2).bind fun p27=>((oSl 1 p27.1).bind fun c28=>((oNil p27.2).bind fun _=>((LIM F.q6j [(.rref [(.sl 1 c26),(.sl 1 c28)] 0)]).bind fun r29=>((oNil r29.2).bind fun _=>((oAgg r29.1).bind fun c30=>((q0i c30).bind fun p31=>((oSl 1 p31.1).bind fun c32=>((q0i p31.2).bind fun p33=>((oSl 1 p33.1).bind fun c34=>((oNil p33.2).bind fun _=>some ((.tup [(.agg [(.sl 2 c6)]),(.agg [(.sl 1 c26),(.sl 1 c28)]),(.agg [(.sl 1 c32),(.sl 1 c34)]),(.bx [(.sl 1 c14),(.int .i64 n23)])]),[])))))))))))))))))))))))) else ((LIM F.q1p [(.rref [(.sl 1 c14),(.int .i64 n16)] 0),(.int .i64 ((((c10).length / 2):Nat):Int))]).bind fun r35=>((q0i r35.2).bind fun p36=>((oNil p36.2).bind fun _=>((oAgg p36.1).bind fun c37=>((q0i c37).bind fun p38=>((oSl 1 p38.1).bind fun c39=>((q0i p38.2).bind fun p40=>((oInt .i64 p40.1).bind fun n41=>((oNil p40.2).bind fun _=>((oInt .i64 r35.1).bind fun n42=>(bif inB n42 ((c10).length / 2) then ((c10[((Int.toNat n42)*2)]?).bind fun e43=>((oSl 1 e43).bind fun c44=>((c10[(((Int.toNat n42)*2)+1)]?).bind fun e45=>((oSl 1 e45).bind fun c46=>((LIM F.q1p [(.rref [(.sl 1 c14),(.int .i64 n41)] 0),(.int .i64 ((((c10).length / 2):Nat):Int))]).bind fun r47=>((q0i r47.2).bind fun p48=>((oNil p48.2).bind fun _=>((oAgg p48.1).bind fun c49=>((q0i c49).bind fun p50=>((oSl 1 p50.1).bind fun c51=>((q0i p50.2).bind fun p52=>((oInt .i64 p52.1).bind fun n53=>((oNil p52.2).bind fun _=>((oInt .i64 r47.1).bind fun n54=>(bif inB n54 ((c10).length / 2) then ((c10[((Int.toNat n54)*2)]?).bind fun e55=>((oSl 1 e55).bind fun c56=>((c10[(((Int.toNat n54)*2)+1)]?).bind fun e57=>((oSl 1 e57).bind fun c58=>some ((.tup [(.agg [(.sl 2 c6)]),(.agg [(.sl 1 c44),(.sl 1 c46)]),(.agg [(.sl 1 c56),(.sl 1 c58)]),(.bx [(.sl 1 c14),(.int .i64 n53)])]),[]))))) else none))))))))))))))) else none)))))))))))))))))))))))))))))))):=by kernel_rfl
theorem q4x.ev (n:Nat) (a0_0 a1_0 a1_1 a2_0 a2_1:List T) (a3:Int):q1m prog A H LIM n F.q4x [(.rref [(.sl 2 a0_0)] 0),(.rref [(.sl 1 a1_0),(.sl 1 a1_1)] 0),(.rref [(.sl 1 a2_0),(.sl 1 a2_1)] 0),(.int .i64 a3)]=((LIM F.q1s [(.sl 1 a2_0),(.int .i64 (6:Int))]).bind fun r1=>((oNil r1.2).bind fun _=>((oSl 1 r1.1).bind fun c2=>((LIM F.q1s [(.sl 1 a2_1),(.int .i64 (6:Int))]).bind fun r3=>((oNil r3.2).bind fun _=>((oSl 1 r3.1).bind fun c4=>((LIM F.q64 [(.rref [(.sl 2 a0_0)] 0),(.sl 1 a1_0),(.int .i64 a3)]).bind fun r5=>((oNil r5.2).bind fun _=>((oSl 1 r5.1).bind fun c6=>((LIM F.q1d [(.rref [(.sl 2 a0_0)] 0),(.sl 1 c6),(.sl 1 c2)]).bind fun r7=>((oNil r7.2).bind fun _=>((oTup r7.1).bind fun c8=>((q0i c8).bind fun p9=>((oAgg p9.1).bind fun c10=>((q0i c10).bind fun p11=>((oSl 1 p11.1).bind fun c12=>((q0i p11.2).bind fun p13=>((oSl 1 p13.1).bind fun c14=>((oNil p13.2).bind fun _=>((q0i p9.2).bind fun p15=>((oInt .i64 p15.1).bind fun n16=>((oNil p15.2).bind fun _=>(bif ((n16 != (0:Int))) then some ((.tup [(.agg [(.sl 1 []),(.sl 1 [])]),(.int .i64 n16)]),[]) else ((LIM F.q19 [(.rref [(.sl 1 c12),(.sl 1 c14)] 0),(.sl 1 a1_1)]).bind fun r17=>((oNil r17.2).bind fun _=>((oSl 1 r17.1).bind fun c18=>((LIM F.q5x [(.rref [(.sl 2 a0_0)] 0),(.sl 1 a1_0),(.int .i64 a3),(.sl 1 c4)]).bind fun r19=>((oNil r19.2).bind fun _=>((oSl 1 r19.1).bind fun c20=>((LIM F.q19 [(.rref [(.sl 1 c12),(.sl 1 c14)] 0),(.sl 1 c20)]).bind fun r21=>((oNil r21.2).bind fun _=>((oSl 1 r21.1).bind fun c22=>(bif (decide (((((c18).length / 1):Nat):Int) > (24:Int))) then some ((.tup [(.agg [(.sl 1 []),(.sl 1 [])]),(.int .i64 (2:Int))]),[]) else (bif (decide (((((c22).length / 1):Nat):Int) > (24:Int))) then some ((.tup [(.agg [(.sl 1 []),(.sl 1 [])]),(.int .i64 (2:Int))]),[]) else ((LIM F.q1f [(.rref [(.sl 1 c18),(.sl 1 c22)] 0)]).bind fun r23=>((oNil r23.2).bind fun _=>((oTup r23.1).bind fun c24=>((q0i c24).bind fun p25=>((oAgg p25.1).bind fun c26=>((q0i c26).bind fun p27=>((oSl 1 p27.1).bind fun c28=>((q0i p27.2).bind fun p29=>((oSl 1 p29.1).bind fun c30=>((oNil p29.2).bind fun _=>((q0i p25.2).bind fun p31=>((q3h p31.1).bind fun b32=>((oNil p31.2).bind fun _=>(bif (!b32) then some ((.tup [(.agg [(.sl 1 []),(.sl 1 [])]),(.int .i64 (2:Int))]),[]) else some ((.tup [(.agg [(.sl 1 c28),(.sl 1 c30)]),(.int .i64 (0:Int))]),[]))))))))))))))))))))))))))))))))))))))))))))))))):=by kernel_rfl
def q1q.st0 (x0 x1 x2 x3 x4:List T) (x5 x6:Int) (x7 x8:List T):St:=⟨[(0,(.one (.t (.rref [(.sl 2 x0)] 0)))),(1,(.one (.t (.rref [(.sl 1 x1),(.sl 1 x2)] 0)))),(2,(.one (.t (.rref [(.sl 1 x3),(.sl 1 x4)] 0)))),(10,(.one (.obj 1344))),(11,oi x5),(12,(.one (.obj 1536))),(13,oi x6)],[(1344,(.arr true true 1 x7)),(1536,(.arr true true 2 x8))]⟩
noncomputable def q1q.K0 (n:Nat):Ex→St→R:=kx F.q1q n [.block 0,.seq 0 (cx F.q1q [1,1,1,1])] (q3u prog A F.q1q)
noncomputable def q1q.at0 (n:Nat) (m:Nat) (s:St):R:=lx F.q1q n 0 [1,1,1,0,1,0,0] (q1q.K0 n) m s
noncomputable def q1q.rd0 (n:Nat) (L0:St→R) (s:St):R:=rx F.q1q n 0 [1,1,1,0,1,0,0] (q1q.K0 n) L0 s
theorem q1q.next0 (n:Nat) (m:Nat) (s:St):q1q.at0 n (m+1) s=q1q.rd0 n (q1q.at0 n m) s:=nx _ _ _ _ _ _ _
theorem q1q.round0 (n:Nat) (L0:St→R) (x0 x1 x2 x3 x4:List T) (x5 x6:Int) (x7 x8:List T):q1q.rd0 n L0 (q1q.st0 x0 x1 x2 x3 x4 x5 x6 x7 x8)=(bif (decide (x6 < ((((x7).length / 1):Nat):Int))) then (bif inB x6 ((x7).length / 1) then ((x7[((Int.toNat x6)*1)]?).bind fun e7=>((oInt .i64 e7).bind fun n8=>((LIM F.q4x [(.rref [(.sl 2 x0)] 0),(.rref [(.sl 1 x1),(.sl 1 x2)] 0),(.rref [(.sl 1 x3),(.sl 1 x4)] 0),(.int .i64 n8)]).bind fun r9=>((oNil r9.2).bind fun _=>((oTup r9.1).bind fun c10=>((q0i c10).bind fun p11=>((oAgg p11.1).bind fun c12=>((q0i c12).bind fun p13=>((oSl 1 p13.1).bind fun c14=>((q0i p13.2).bind fun p15=>((oSl 1 p15.1).bind fun c16=>((oNil p15.2).bind fun _=>((q0i p11.2).bind fun p17=>((oInt .i64 p17.1).bind fun n18=>((oNil p17.2).bind fun _=>(bif Nat.ble (((x8).length+2)*48) (140737488355328*2) then (L0 (q1q.st0 x0 x1 x2 x3 x4 x5 (IntKind.wrap .i64 (x6+(1:Int))) x7 (x8++[(.sl 1 c14),(.sl 1 c16)]:List T))) else none)))))))))))))))) else none) else some ((.tup [(.sl 2 x8),(.int .i64 x5)]),[])):=by kernel_rfl
theorem q1q.ev (n:Nat) (a0_0 a1_0 a1_1 a2_0 a2_1:List T) (a3:Bool):q1m prog A H LIM n F.q1q [(.rref [(.sl 2 a0_0)] 0),(.rref [(.sl 1 a1_0),(.sl 1 a1_1)] 0),(.rref [(.sl 1 a2_0),(.sl 1 a2_1)] 0),(.bool a3)]=((LIM F.q18 [(.rref [(.sl 2 a0_0)] 0),(.rref [(.sl 1 a1_0),(.sl 1 a1_1)] 0),(.rref [(.sl 1 a2_0),(.sl 1 a2_1)] 0),(.bool a3)]).bind fun r1=>((oNil r1.2).bind fun _=>((oTup r1.1).bind fun c2=>((q0i c2).bind fun p3=>((oSl 1 p3.1).bind fun c4=>((q0i p3.2).bind fun p5=>((oInt .i64 p5.1).bind fun n6=>((oNil p5.2).bind fun _=>(q1q.at0 n n (q1q.st0 a0_0 a1_0 a1_1 a2_0 a2_1 n6 (0:Int) c4 [])))))))))):=by kernel_rfl
def q18.st0 (x0 x1 x2 x3 x4:List T) (x5:Bool) (x6:Int) (x7:List T):St:=⟨[(0,(.one (.t (.rref [(.sl 2 x0)] 0)))),(1,(.one (.t (.rref [(.sl 1 x1),(.sl 1 x2)] 0)))),(2,(.one (.t (.rref [(.sl 1 x3),(.sl 1 x4)] 0)))),(3,(.one (.t (.bool x5)))),(10,(.one (.obj 896))),(11,oi x6)],[(896,(.arr true true 1 x7))]⟩
noncomputable def q18.K0 (n:Nat):Ex→St→R:=kx F.q18 n [.block 0,.seq 0 (cx F.q18 [1,1,1])] (q3u prog A F.q18)
noncomputable def q18.at0 (n:Nat) (m:Nat) (s:St):R:=lx F.q18 n 0 [1,1,0,1,0,0] (q18.K0 n) m s
noncomputable def q18.rd0 (n:Nat) (L0:St→R) (s:St):R:=rx F.q18 n 0 [1,1,0,1,0,0] (q18.K0 n) L0 s
theorem q18.next0 (n:Nat) (m:Nat) (s:St):q18.at0 n (m+1) s=q18.rd0 n (q18.at0 n m) s:=nx _ _ _ _ _ _ _
theorem q18.round0 (n:Nat) (L0:St→R) (x0 x1 x2 x3 x4:List T) (x5:Bool) (x6:Int) (x7:List T):q18.rd0 n L0 (q18.st0 x0 x1 x2 x3 x4 x5 x6 x7)=(bif (decide (x6 < ((((x1).length / 1):Nat):Int))) then (bif inB x6 ((x1).length / 1) then ((x1[((Int.toNat x6)*1)]?).bind fun e1=>((oInt .i64 e1).bind fun n2=>(bif (decide (n2 < (0:Int))) then (L0 (q18.st0 x0 x1 x2 x3 x4 x5 (IntKind.wrap .i64 (x6+(1:Int))) x7)) else (bif x5 then (bif ((x6 == (0:Int))) then (L0 (q18.st0 x0 x1 x2 x3 x4 x5 (IntKind.wrap .i64 (x6+(1:Int))) x7)) else ((LIM F.q4x [(.rref [(.sl 2 x0)] 0),(.rref [(.sl 1 x1),(.sl 1 x2)] 0),(.rref [(.sl 1 x3),(.sl 1 x4)] 0),(.int .i64 x6)]).bind fun r3=>((oNil r3.2).bind fun _=>((oTup r3.1).bind fun c4=>((q0i c4).bind fun p5=>((oAgg p5.1).bind fun c6=>((q0i c6).bind fun p7=>((oSl 1 p7.1).bind fun c8=>((q0i p7.2).bind fun p9=>((oSl 1 p9.1).bind fun c10=>((oNil p9.2).bind fun _=>((q0i p5.2).bind fun p11=>((oInt .i64 p11.1).bind fun n12=>((oNil p11.2).bind fun _=>(bif ((n12 == (4:Int))) then (L0 (q18.st0 x0 x1 x2 x3 x4 x5 (IntKind.wrap .i64 (x6+(1:Int))) x7)) else (bif ((n12 != (0:Int))) then some ((.tup [(.sl 1 []),(.int .i64 n12)]),[]) else (bif Nat.ble (((x7).length+1)*8) (140737488355328*1) then (L0 (q18.st0 x0 x1 x2 x3 x4 x5 (IntKind.wrap .i64 (x6+(1:Int))) (x7++[(.int .i64 x6)]:List T))) else none))))))))))))))))) else ((LIM F.q4x [(.rref [(.sl 2 x0)] 0),(.rref [(.sl 1 x1),(.sl 1 x2)] 0),(.rref [(.sl 1 x3),(.sl 1 x4)] 0),(.int .i64 x6)]).bind fun r13=>((oNil r13.2).bind fun _=>((oTup r13.1).bind fun c14=>((q0i c14).bind fun p15=>((oAgg p15.1).bind fun c16=>((q0i c16).bind fun p17=>((oSl 1 p17.1).bind fun c18=>((q0i p17.2).bind fun p19=>((oSl 1 p19.1).bind fun c20=>((oNil p19.2).bind fun _=>((q0i p15.2).bind fun p21=>((oInt .i64 p21.1).bind fun n22=>((oNil p21.2).bind fun _=>(bif ((n22 == (4:Int))) then (L0 (q18.st0 x0 x1 x2 x3 x4 x5 (IntKind.wrap .i64 (x6+(1:Int))) x7)) else (bif ((n22 != (0:Int))) then some ((.tup [(.sl 1 []),(.int .i64 n22)]),[]) else (bif Nat.ble (((x7).length+1)*8) (140737488355328*1) then (L0 (q18.st0 x0 x1 x2 x3 x4 x5 (IntKind.wrap .i64 (x6+(1:Int))) (x7++[(.int .i64 x6)]:List T))) else none)))))))))))))))))))) else none) else some ((.tup [(.sl 1 x7),(.int .i64 (0:Int))]),[])):=by kernel_rfl
theorem q18.ev (n:Nat) (a0_0 a1_0 a1_1 a2_0 a2_1:List T) (a3:Bool):q1m prog A H LIM n F.q18 [(.rref [(.sl 2 a0_0)] 0),(.rref [(.sl 1 a1_0),(.sl 1 a1_1)] 0),(.rref [(.sl 1 a2_0),(.sl 1 a2_1)] 0),(.bool a3)]=(q18.at0 n n (q18.st0 a0_0 a1_0 a1_1 a2_0 a2_1 a3 (0:Int) [])):=by kernel_rfl
theorem q7y.ev (n:Nat) (a0_0 a1_0 a1_1 a2_0 a2_1:List T):q1m prog A H LIM n F.q7y [(.rref [(.sl 2 a0_0)] 0),(.rref [(.sl 1 a1_0),(.sl 1 a1_1)] 0),(.rref [(.sl 1 a2_0),(.sl 1 a2_1)] 0)]=((LIM F.q45 [(.agg [(.sl 2 a0_0)]),(.sl 2 [(.sl 1 a1_0),(.sl 1 a1_1),(.sl 1 a2_0),(.sl 1 a2_1)])]).bind fun r1=>((oNil r1.2).bind fun _=>((oInt .i64 r1.1).bind fun n2=>some ((.int .i64 n2),[])))):=by kernel_rfl
end Ev
end
section
end
section
namespace Ev.Ty
open Go Ev
open Enc (enc)
open Sm (sm)
theorem q8v {g:FuncId} {args:List T} {r:T × List T} (hx:X g=none) (n:Nat) (h:q1m prog A H LIM n g args=some r):LIM g args=some r:=qeq hx n h
theorem qbx {α:Type} [Enc α] {l:List α} {a:Nat}:(a≤(cells l).length)=(a≤l.length*Enc.sz α):=by rw [q0n]
theorem qf5 {α:Type} {o:List α} {i:Nat} {x:α} (h:o[i]?=some x):o.set i x=o:=by
 refine List.ext_getElem? fun j => ?_
 rw [List.getElem?_set]
 split
 · rename_i e; subst e
   have:=(List.getElem?_eq_some_iff.1 h).1
   rw [if_pos this,h]
 · rfl
theorem qnj {α:Type} [Enc α] {o:List α} {i n j:Nat} {x x':α} {c:T} (hn:Enc.sz α=n) (hi:i < o.length) (hj:j < n)
 (he:(enc x).set j c=enc x'):setCells (cells (o.set i x)) (i*n+j) [c]=cells (o.set i x'):=by
 subst hn
 rw [← qbn o _ i rfl x hi,← qbn o _ i rfl x' hi,← he]
 have hle:i*Enc.sz α+Enc.sz α≤o.length*Enc.sz α:=by
  rw [← Nat.succ_mul]; exact Nat.mul_le_mul_right _ hi
 have hl:=q0n o
 refine List.ext_getElem? fun q => ?_
 have hlen:(setCells (cells o) (i*Enc.sz α) (enc x)).length=(cells o).length:=q31 _ _ _
 have l1:(enc x).length=Enc.sz α:=Enc.len x
 have l2:((enc x).set j c).length=Enc.sz α:=by rw [List.length_set]; exact l1
 rw [q32 [c] _ _ _ (by rw [hlen,List.length_singleton]; omega),q32 (enc x) _ _ _ (by omega),q32 ((enc x).set j c) _ _ _ (by omega),l1,l2,List.length_singleton]
 by_cases hq:i*Enc.sz α+j=q
 · subst hq
   rw [if_pos ⟨by omega,by omega⟩,if_pos ⟨by omega,by omega⟩,List.getElem?_set,if_pos (by omega),if_pos (by omega)]
   simp
 · rw [if_neg (by omega)]
   split
   · rw [List.getElem?_set,if_neg (by omega)]
   · rfl
end Ev.Ty
end
section
namespace Ev.Ty
open Go Ev
end Ev.Ty
end
section
namespace Ev.Ty
open Go Ev
open Enc (enc)
open Sm (sm)
def inR (n a b:Int):Bool:=decide (a≤n∧n≤b)
theorem q3x (n a b:Int):Call F.q3x [.int .i64 n,.int .i64 a,.int .i64 b] (.bool (inR n a b)):=by
 refine q0v rfl 0 ((q3x.ev _ _ _ _).trans ?_)
 simp only [evz,Nat.reduceLT,inR,ge_iff_le]
 by_cases h:a≤n <;> simp [h]
theorem q47 (n a b:Int):Call F.q47 [.int .i64 n,.int .i64 a,.int .i64 b] (.bool (inR n a b)):=by
 refine q0v rfl 0 ((q47.ev _ _ _ _).trans ?_)
 simp only [evz,Nat.reduceLT,inR,ge_iff_le]
 by_cases h:a≤n <;> simp [h]
def qd4 {β:Type} [DecidableEq β] (l:List β):Bool := !decide l.Nodup
theorem qk6 {β:Type} [DecidableEq β] (l:List β):qd4 l=true↔∃ i j,j < i∧∃ (h:i < l.length) (h':j < l.length),l[i]=l[j]:=by
 unfold qd4
 rw [Bool.not_eq_true',decide_eq_false_iff_not,List.Nodup,List.pairwise_iff_getElem]
 constructor
 · intro h
   simp only [Classical.not_forall] at h
   obtain ⟨i,j,h1,h2,h3,h4⟩:=h
   simp only [ne_eq,Classical.not_not] at h4
   exact ⟨j,i,h3,h2,h1,h4.symm⟩
 · rintro ⟨i,j,h1,h2,h3,h4⟩ h
   exact h j i h3 h2 h1 h4.symm
theorem qmv {α β:Type} [DecidableEq β] (f:α→β) (l:List α):((List.range l.length).any fun k=>l[k]?.any fun x=>decide (idx (fun y=>decide (f y=f x)) l≠(k:Nat)))=qd4 (l.map f):=by
 rw [Bool.eq_iff_iff,qk6]
 simp only [List.any_eq_true,List.mem_range,List.length_map,List.getElem_map]
 constructor
 · rintro ⟨k,hk,h⟩
   rw [List.getElem?_eq_getElem hk,Option.any_some] at h
   simp only [decide_eq_true_eq] at h
   rcases q7m (fun y=>decide (f y=f l[k])) l with ⟨_,h1⟩ | ⟨i,hi,h1,h2,h3⟩
   · have:=h1 l[k] (List.getElem_mem hk)
     simp at this
   · rw [h1] at h
     simp only [decide_eq_true_eq] at h2
     rcases Nat.lt_trichotomy i k with hlt | heq | hgt
     · exact ⟨k,i,hlt,hk,hi,h2.symm⟩
     · subst heq; simp at h
     · have:=h3 k hgt
       simp at this
 · rintro ⟨i,j,hji,hi,hj,he⟩
   refine ⟨i,hi,?_⟩
   rw [List.getElem?_eq_getElem hi,Option.any_some]
   simp only [decide_eq_true_eq]
   rcases q7m (fun y=>decide (f y=f l[i])) l with ⟨h0,_⟩ | ⟨k,hk,h1,h2,h3⟩
   · rw [h0]; omega
   · rw [h1]
     intro hk'
     have:k=i:=by omega
     subst this
     have:=h3 j hji
     simp [he] at this
theorem qg7 {α β:Type} [DecidableEq β] (f:α→β) (l:List α):((List.range l.length).any fun i=>(List.range i).any fun j=>l[i]?.any fun x=>l[j]?.any fun y=>decide (f x=f y))=qd4 (l.map f):=by
 rw [Bool.eq_iff_iff,qk6]
 simp only [List.any_eq_true,List.mem_range,List.length_map,List.getElem_map]
 constructor
 · rintro ⟨i,hi,j,hj,h⟩
   rw [List.getElem?_eq_getElem hi,List.getElem?_eq_getElem (show j < l.length by omega)] at h
   exact ⟨i,j,hj,hi,by omega,by simpa using h⟩
 · rintro ⟨i,j,hji,hi,hj,he⟩
   refine ⟨i,hi,j,hji,?_⟩
   rw [List.getElem?_eq_getElem hi,List.getElem?_eq_getElem hj]
   simpa using he
def q9h (b:UInt8):Bool:=decide (97≤b.toNat∧b.toNat≤122)
def qbq (s:ByteArray):Bool:=decide (1≤s.size∧s.size≤3)&&s.data.toList.all q9h
def q9c:ByteArray:=ByteArray.mk #[97,98,99,100,101,102,103,104,105,106,107,108,109,110,111,112,113,114,115,116,117,118,119,120,121,122]
theorem qlq (b:UInt8):q9c.data.toList.contains b=q9h b:=by
 have h:∀ n:Fin 256,q9c.data.toList.contains (UInt8.ofNat n.val)=q9h (UInt8.ofNat n.val):=by decide +kernel
 have:=h ⟨b.toNat,b.toNat_lt⟩
 simpa using this
theorem qcu {α:Type} (p:α→Bool):∀ l:List α,(l.dropWhile p).isEmpty=l.all p
 | []=>rfl
 | x::l=>by
   rw [List.dropWhile_cons,List.all_cons]
   cases hp:p x with
   | true=>simpa using qcu p l
   | false=>simp
theorem qml (l:List UInt8):(Lib.trimS l q9c.data.toList).isEmpty=l.all q9h:=by
 have e:(q9c.data.toList.contains ·)=q9h:=funext qlq
 unfold Lib.trimS Lib.trimLeftS
 rw [e,qcu]
 unfold Lib.trimRightS
 rw [e,List.all_reverse]
 have:∀ l:List UInt8,(l.dropWhile q9h).all q9h=l.all q9h:=by
  intro l
  induction l with
  | nil=>rfl
  | cons x l ih =>
    rw [List.dropWhile_cons]
    cases hp:q9h x with
    | true=>simp [hp,ih]
    | false=>simp [hp]
 rw [this,List.all_reverse]
theorem q9i (s:ByteArray) (h:s.size≤3):Call F.q9i [.str s,.str q9c] (.str ⟨(Lib.trimS s.data.toList q9c.data.toList).toArray⟩):=by
 refine qdl (e:=trimE) rfl (Ev.of fun m => ?_)
 show (bif decide (s.size≤9223372036854775807)&&decide (q9c.size < 4294967281)&&q9c.data.toList.all (fun b=>decide (b.toNat < 128)) then _ else _)=_
 rw [decide_eq_true (by omega),show decide (q9c.size < 4294967281)=true by decide +kernel,show q9c.data.toList.all (fun b=>decide (b.toNat < 128))=true by decide +kernel]
 rfl
theorem q7s (s:ByteArray):Call F.q7s [.str s] (.bool (qbq s)):=by
 refine q0v rfl 0 ((q7s.ev _ _).trans ?_)
 simp only [evz,Nat.reduceLT,ge_iff_le,qbq]
 by_cases h1:1≤s.size
 · by_cases h2:s.size≤3
   · have h1':(1:Int)≤s.size:=by omega
     have h2':(s.size:Int)≤3:=by omega
     rw [show (ByteArray.mk #[97,98,99,100,101,102,103,104,105,106,107,108,109,110,111,112,113,114,115,116,117,118,119,120,121,122])=q9c from rfl]
     simp only [h1,h2,h1',h2',(q9i s h2).eq,evz,Nat.reduceLT,and_self,Bool.true_and]
     rw [← qml]
     congr 3
     rw [Bool.eq_iff_iff,decide_eq_true_eq,List.isEmpty_iff]
     simp
   · have h1':(1:Int)≤s.size:=by omega
     have h2':¬ (s.size:Int)≤3:=by omega
     simp only [h1,h2,h1',h2',evz,Nat.reduceLT,and_false,Bool.false_and]
 · have h1':¬ (1:Int)≤s.size:=by omega
   simp only [h1,h1',evz,Nat.reduceLT,false_and,Bool.false_and]
theorem qw0 {s:ByteArray} {k:Nat} (h:k < s.data.toList.length):s.data.getD k 0=s.data.toList[k]:=by
 simp at h
 simp [Array.getD,h]
theorem q2d (s:ByteArray):Call F.q2d [.str s] (.bool (qbq s)):=by
 refine q0v rfl (s.size+1) ((q2d.ev _ _).trans ?_)
 simp only [evz,Nat.reduceLT,gt_iff_lt,qbq]
 by_cases h1:1≤s.size
 · by_cases h2:s.size≤3
   · have h1':¬ (s.size:Int) < 1:=by omega
     have h2':¬ (3:Int) < s.size:=by omega
     simp only [h1,h2,h1',h2',if_false,and_self,decide_true,Bool.true_and]
     have hsz:s.data.toList.length=s.size:=by rw [Array.length_toList]; rfl
     refine (q83 (l:=s.data.toList) (p:=fun b => !q9h b) (S:=fun m k=>q2d.at0 (s.size+1) m (q2d.st0 s (k:Nat))) (r:=some (.bool false,[])) (z:=some (.bool true,[])) (fun m k h => ?_) (fun m => ?_) (by omega)).trans ?_
     · have h':k < s.size:=by omega
       simp only [q2d.next0,q2d.round0,evz,Nat.reduceLT,h',qw0 h]
       rw [q0o (by omega)]
       unfold q9h
       by_cases c1:s.data.toList[k].toNat < 97
       · have c1':(s.data.toList[k].toNat:Int) < 97:=by omega
         rw [if_pos c1',if_pos (by simp only [Bool.not_eq_true',decide_eq_false_iff_not]; omega)]
       · have c1':¬ (s.data.toList[k].toNat:Int) < 97:=by omega
         rw [if_neg c1']
         by_cases c2:122 < s.data.toList[k].toNat
         · have c2':(s.data.toList[k].toNat:Int) > 122:=by omega
           rw [if_pos c2',if_pos (by simp only [Bool.not_eq_true',decide_eq_false_iff_not]; omega)]
         · have c2':¬ (s.data.toList[k].toNat:Int) > 122:=by omega
           rw [if_neg c2',if_neg (by simp only [Bool.not_eq_true',decide_eq_false_iff_not]; omega)]
     · rw [hsz]; simp only [q2d.next0,q2d.round0,evz,Nat.reduceLT,Nat.lt_irrefl]
     · have:s.data.toList.any (fun b => !q9h b) = !s.data.toList.all q9h:=by rw [List.not_all_eq_any_not]
       rw [this]
       cases s.data.toList.all q9h <;> rfl
   · have h1':¬ (s.size:Int) < 1:=by omega
     have h2':(3:Int) < s.size:=by omega
     simp only [h1,h2,h1',h2',evz,Nat.reduceLT,and_false,Bool.false_and]
 · have h1':(s.size:Int) < 1:=by omega
   simp only [h1,h1',evz,Nat.reduceLT,false_and,Bool.false_and]
def q7b (x:Symbol):Option Int:=if qbq x.name=false then some 5 else if inR x.arity 0 2=false then some 3 else none
def q2z (s:Signature):Int :=
 if s.symbols.length < 1∨6 < s.symbols.length then 2
 else match s.symbols.findSome? q7b with
  | some c=>c
  | none=>if qd4 (s.symbols.map (·.name)) then 6 else if s.symbols.any (fun x=>decide (x.arity=0)) then 0 else 4
theorem q04 (l:List Symbol) (hs:l.length≤4294967296) (n:ByteArray):Call F.q1l [slc l,.clo F.q3z [.rref [.str n] 0]] (.int .i64 (idx (fun x=>decide (x.name=n)) l)):=by
 refine q0v rfl (l.length+1) ((q04.ev _ _ _).trans ?_)
 refine q8h (S:=fun m k=>q04.at0 (l.length+1) m (q04.st0 (cells l) n _ (k:Nat))) (fun m k h => ?_) (fun m => ?_) (Nat.lt_succ_self _)
 · have hlk:l[k]?=some l[k]:=List.getElem?_eq_getElem h
   have hc:Call F.q3z [.agg [.str l[k].name,.int .i64 l[k].arity],.rref [.str n] 0] (.bool (decide (l[k].name=n))):=by
    refine q0v rfl 0 ((q3z.ev _ _ _ _).trans ?_)
    simp only [evz,Nat.reduceLT]
   simp only [q04.next0,q04.round0,evz,Nat.reduceLT,h,hlk,q2a,hc.eq]
   rw [q0o (by omega)]
   simp only [decide_eq_true_eq]
 · simp only [q04.next0,q04.round0,evz,Nat.reduceLT,Nat.lt_irrefl]
theorem q4v (l:List Symbol) (hs:l.length≤4294967296) (n:ByteArray):Call F.q4v [.agg [slc l],.str n] (.int .i64 (idx (fun x=>decide (x.name=n)) l)):=by
 refine q0v rfl 0 ((q4v.ev _ _ _).trans ?_)
 simp only [evz,Nat.reduceLT,(q04 l hs n).eq]
theorem q01 (l:List Symbol) (hs:l.length≤4294967296):Call F.q1l [slc l,.clo F.q2r []] (.int .i64 (idx (fun x=>decide (x.arity=0)) l)):=by
 refine q0v rfl (l.length+1) ((q01.ev _ _).trans ?_)
 refine q8h (S:=fun m k=>q01.at0 (l.length+1) m (q01.st0 (cells l) _ (k:Nat))) (fun m k h => ?_) (fun m => ?_) (Nat.lt_succ_self _)
 · have hlk:l[k]?=some l[k]:=List.getElem?_eq_getElem h
   have hc:Call F.q2r [.agg [.str l[k].name,.int .i64 l[k].arity]] (.bool (decide (l[k].arity=0))):=by
    refine q0v rfl 0 ((q2r.ev _ _ _).trans ?_)
    simp only [evz,Nat.reduceLT]
   simp only [q01.next0,q01.round0,evz,Nat.reduceLT,h,hlk,q2a,hc.eq]
   rw [q0o (by omega)]
   simp only [decide_eq_true_eq]
 · simp only [q01.next0,q01.round0,evz,Nat.reduceLT,Nat.lt_irrefl]
theorem q30 (l:List Symbol) (hs:l.length≤4294967296):Call F.q57 [slc l,.clo F.q2r []] (.bool (l.any fun x=>decide (x.arity=0))):=by
 refine q0v rfl 0 ((q30.ev _ _).trans ?_)
 simp only [evz,Nat.reduceLT,(q01 l hs).eq,q8a]
theorem q06 (l:List Symbol) (hs:l.length≤4294967296):Call F.q06 [.agg [slc l]] (.int .i64 (q2z ⟨l⟩)):=by
 refine q0v rfl (l.length+1) ((q06.ev _ _).trans ?_)
 simp only [evz,Nat.reduceLT,q2z,gt_iff_lt]
 by_cases h1:l.length < 1
 · have h1':(l.length:Int) < 1:=by omega
   simp only [h1,h1',evz,Nat.reduceLT,true_or]
 by_cases h2:6 < l.length
 · have h1':¬ (l.length:Int) < 1:=by omega
   have h2':(6:Int) < l.length:=by omega
   simp only [h1,h1',h2,h2',evz,Nat.reduceLT,or_true]
 have h1':¬ (l.length:Int) < 1:=by omega
 have h2':¬ (6:Int) < l.length:=by omega
 simp only [h1,h1',h2,h2',if_false,or_self]
 have two:=qai (n:=l.length) (bad:=fun k=>l[k]?.any fun x=>decide (idx (fun y=>decide (y.name=x.name)) l≠(k:Nat)))
  (S:=fun m k=>q06.at2 (l.length+1) m (q06.st2 (cells l) l.length (k:Nat) (cells l))) (r:=some (.int .i64 6,[])) (z:=if l.any (fun x=>decide (x.arity=0)) then some (.int .i64 0,[]) else some (.int .i64 4,[]))
  (fun m k h=>by
   have hlk:l[k]?=some l[k]:=List.getElem?_eq_getElem h
   simp only [q06.next2,q06.round2,evz,Nat.reduceLT,h,hlk,q2a,(q4v l hs _).eq]
   rw [q0o (by omega)]
   by_cases e:idx (fun y=>decide (y.name=l[k].name)) l=(k:Int) <;> simp [e])
  (fun m=>by
   simp only [q06.next2,q06.round2,evz,Nat.reduceLT,Nat.lt_irrefl,(q30 l hs).eq]
   cases l.any (fun x=>decide (x.arity=0)) <;> rfl) (Nat.lt_succ_self _)
 have one:=q8m (l:=l) (g:=fun x=>(q7b x).map fun c=>some (.int .i64 c,[]))
  (S:=fun m k=>q06.at0 (l.length+1) m (q06.st0 (cells l) l.length (k:Nat) (cells l)))
  (fun m k h=>by
   have hlk:l[k]?=some l[k]:=List.getElem?_eq_getElem h
   simp only [q06.next0,q06.round0,evz,Nat.reduceLT,h,hlk,q2a,(q7s _).eq,(q3x _ _ _).eq]
   rw [q0o (by omega)]
   cases h5:qbq l[k].name with
   | false=>simp [q7b,h5]
   | true=>cases h6:inR l[k].arity 0 2 <;> simp [q7b,h5,h6])
  (fun m=>by simp only [q06.next0,q06.round0,evz,Nat.reduceLT,Nat.lt_irrefl]; rfl) (Nat.lt_succ_self _)
 refine one.trans ?_
 rw [show q06.at2 (l.length+1) (l.length+1) (q06.st2 (cells l) l.length 0 (cells l))=_ from two,qmv (fun y:Symbol=>y.name),q76]
 cases l.findSome? q7b with
 | some c=>rfl
 | none=>cases qd4 (l.map fun x=>x.name) <;> cases l.any (fun x=>decide (x.arity=0)) <;> rfl
theorem q00 (l:List Symbol) (hs:l.length≤4294967296):Call F.q00 [.agg [slc l]] (.int .i64 (q2z ⟨l⟩)):=by
 obtain ⟨n,hn⟩:∃ n,n=l.length+1:=⟨_,rfl⟩
 refine q0v rfl n ((q00.ev _ _).trans ?_)
 simp only [evz,Nat.reduceLT,q2z,gt_iff_lt]
 by_cases h1:l.length < 1
 · have h1':(l.length:Int) < 1:=by omega
   simp only [h1,h1',evz,Nat.reduceLT,true_or]
 by_cases h2:6 < l.length
 · have h1':¬ (l.length:Int) < 1:=by omega
   have h2':(6:Int) < l.length:=by omega
   simp only [h1,h1',h2,h2',evz,Nat.reduceLT,or_true]
 have h1':¬ (l.length:Int) < 1:=by omega
 have h2':¬ (6:Int) < l.length:=by omega
 simp only [h1,h1',h2,h2',if_false,or_self]
 have six:=q83 (l:=l) (p:=fun x=>decide (x.arity=0)) (S:=fun m k=>q00.at6 n m (q00.st6 l.length (k:Nat) (cells l))) (r:=some (.int .i64 0,[])) (z:=some (.int .i64 4,[]))
  (fun m k h=>by
   have hlk:l[k]?=some l[k]:=List.getElem?_eq_getElem h
   simp only [q00.next6,q00.round6,evz,Nat.reduceLT,h,hlk,q2a]
   rw [q0o (by omega)]
   simp only [decide_eq_true_eq])
  (fun m=>by simp only [q00.next6,q00.round6,evz,Nat.reduceLT,Nat.lt_irrefl]) (show l.length < n by omega)
 have two:=qai (n:=l.length) (bad:=fun i=>(List.range i).any fun j=>l[i]?.any fun x=>l[j]?.any fun y=>decide (x.name=y.name))
  (S:=fun m i=>q00.at2 n m (q00.st2 l.length (i:Nat) (cells l))) (r:=some (.int .i64 6,[]))
  (fun m i h=>by
   have hlk:l[i]?=some l[i]:=List.getElem?_eq_getElem h
   simp only [q00.next2,q00.round2,evz,Nat.reduceLT,h]
   refine qai (n:=i) (f:=n) (bad:=fun j=>l[i]?.any fun x=>l[j]?.any fun y=>decide (x.name=y.name))
    (S:=fun m' j=>q00.at4 n (q00.at2 n m) m' (q00.st4 l.length (i:Nat) (j:Nat) (cells l))) (fun m' j hj => ?_) (fun m' => ?_) (by omega)
   · have hj':j < l.length:=by omega
     have hjk:l[j]?=some l[j]:=List.getElem?_eq_getElem hj'
     simp only [q00.next4,q00.round4,evz,Nat.reduceLT,h,hj,hj',hlk,hjk,q2a]
     rw [q0o (by omega)]
     by_cases e:l[i].name=l[j].name <;> simp [e]
   · simp only [q00.next4,q00.round4,evz,Nat.reduceLT,Nat.lt_irrefl]
     rw [q0o (by omega)])
  (fun m=>by simp only [q00.next2,q00.round2,evz,Nat.reduceLT,Nat.lt_irrefl]; exact six) (show l.length < n by omega)
 have one:=q8m (l:=l) (g:=fun x=>(q7b x).map fun c=>some (.int .i64 c,[]))
  (S:=fun m k=>q00.at0 n m (q00.st0 l.length (k:Nat) (cells l)))
  (fun m k h=>by
   have hlk:l[k]?=some l[k]:=List.getElem?_eq_getElem h
   simp only [q00.next0,q00.round0,evz,Nat.reduceLT,h,hlk,q2a,(q2d _).eq,(q47 _ _ _).eq]
   rw [q0o (by omega)]
   cases h5:qbq l[k].name with
   | false=>simp [q7b,h5]
   | true=>cases h6:inR l[k].arity 0 2 <;> simp [q7b,h5,h6])
  (fun m=>by simp only [q00.next0,q00.round0,evz,Nat.reduceLT,Nat.lt_irrefl]; rfl) (show l.length < n by omega)
 refine one.trans ?_
 rw [show q00.at2 n n (q00.st2 l.length 0 (cells l))=_ from two,qg7 (fun y:Symbol=>y.name),q76]
 cases l.findSome? q7b with
 | some c=>rfl
 | none=>cases qd4 (l.map fun x=>x.name) <;> cases l.any (fun x=>decide (x.arity=0)) <;> rfl
theorem q6y {n a b:Int}:inR n a b=true↔a≤n∧n≤b:=by unfold inR; simp
structure SigOk (s:Signature):Prop where
 pos:1≤s.symbols.length
 le:s.symbols.length≤6
 name:∀ x∈s.symbols,qbq x.name=true
 arity:∀ x∈s.symbols,0≤x.arity∧x.arity≤2
 nodup:(s.symbols.map (·.name)).Nodup
 const:∃ x∈s.symbols,x.arity=0
theorem q84 {α β:Type} {f:α→Option β}:∀ {l:List α},l.findSome? f=none↔∀ x∈l,f x=none
 | []=>by simp
 | x::l=>by
   rw [List.findSome?_cons]
   cases h:f x with
   | some b=>simp [h]
   | none=>simp [h,q84 (l:=l)]
theorem q7j (s:Signature):q2z s=0↔SigOk s:=by
 unfold q2z
 constructor
 · intro h
   split at h
   · cases h
   · rename_i h1
     split at h
     · rename_i c hc
       obtain ⟨x,hx,hf⟩:=List.exists_of_findSome?_eq_some hc
       unfold q7b at hf
       split at hf
       · cases hf; cases h
       · split at hf
         · cases hf; cases h
         · cases hf
     · rename_i hn
       rw [q84] at hn
       split at h
       · cases h
       · rename_i ht
         split at h
         · rename_i ha
           have hx:∀ x∈s.symbols,qbq x.name=true∧inR x.arity 0 2=true:=fun x hx=>by
            have:=hn x hx
            unfold q7b at this
            split at this
            · cases this
            · split at this
              · cases this
              · rename_i h1 h2; exact ⟨by simpa using h1,by simpa using h2⟩
           refine ⟨by omega,by omega,fun x h=>(hx x h).1,fun x h=>q6y.1 (hx x h).2,?_,?_⟩
           · unfold qd4 at ht; simpa using ht
           · rw [List.any_eq_true] at ha
             obtain ⟨x,h1,h2⟩:=ha
             exact ⟨x,h1,by simpa using h2⟩
         · cases h
 · intro h
   rw [if_neg (by have:=h.pos; have:=h.le; omega)]
   have:s.symbols.findSome? q7b=none:=q84.2 fun x hx=>by
    unfold q7b
    rw [if_neg (by simp [h.name x hx]),if_neg (by have:=q6y.2 (h.arity x hx); simp [this])]
   rw [this]
   simp only
   rw [if_neg (by unfold qd4; simpa using h.nodup),if_pos]
   rw [List.any_eq_true]
   obtain ⟨x,h1,h2⟩:=h.const
   exact ⟨x,h1,by simpa using h2⟩
theorem qjn {z k:Nat} (hz:z≤3) (hk:k≤12):z ^ k≤531441 :=
 Nat.le_trans (Nat.pow_le_pow_left hz k) (Nat.le_trans (Nat.pow_le_pow_right (by omega) hk) (by decide))
theorem q2p (z r:Nat) (hz:z≤3) (hr:r≤12):Call F.q2p [.int .i64 z,.int .i64 r] (.int .i64 (z ^ r:Nat)):=by
 refine q0v rfl (r+1) ((q2p.ev _ _ _).trans ?_)
 have:∀ m k,k≤r→r < m+k→q2p.at0 (r+1) m (q2p.st0 z (z ^ k:Nat) r (k:Nat))=some (.int .i64 (z ^ r:Nat),[]):=by
  intro m
  induction m with
  | zero=>intros; omega
  | succ m ih =>
    intro k hk hm
    simp only [q2p.next0,q2p.round0,evz,Nat.reduceLT]
    by_cases h:k < r
    · have hb:=qjn (k:=k.succ) hz (by omega)
      rw [if_pos h,q0o (by omega),← Int.natCast_mul,← Nat.pow_succ,q1z (by omega)]
      exact ih (k+1) (by omega) (by omega)
    · obtain rfl:k=r:=by omega
      rw [if_neg h]
 exact this (r+1) 0 (by omega) (by omega)
theorem q4a (z r:Nat) (hz:z≤3) (hr:r≤12):Call F.q4a [.int .i64 z,.int .i64 r] (.int .i64 (z ^ r:Nat)):=by
 induction r with
 | zero=>exact q0v rfl 0 ((q4a.ev _ _ _).trans rfl)
 | succ r ih =>
   refine q0v rfl 0 ((q4a.ev _ _ _).trans ?_)
   have hb:=qjn (k:=r.succ) hz hr
   have h1:¬ (((r+1:Nat):Int)=0):=by omega
   have h2:IntKind.wrap .i64 (((r+1:Nat):Int) - 1)=(r:Nat):=by rw [q1z (by omega)]; omega
   simp only [evz,Nat.reduceLT,h1,h2,(ih (by omega)).eq]
   rw [← Int.natCast_mul,Nat.mul_comm,← Nat.pow_succ,q1z (by omega)]
def q65 (z:Int) (x:Symbol × List Int):Option Int :=
 if x.2.length≠z.toNat ^ x.1.arity.toNat then some 2 else if x.2.any (fun n => !inR n 0 (z - 1)) then some 3 else none
def q6f (s:Signature) (a:Algebra):Int :=
 if q2z s≠0 then q2z s
 else if inR a.size 1 3=false then 3
 else if a.tables.length≠s.symbols.length then 2
 else match (s.symbols.zip a.tables).findSome? (q65 a.size) with
  | some c=>c
  | none=>0
theorem q05 (l:List Int) (hs:l.length≤4294967296) (z:Int) (t:List (List Int)) (hz:1≤z∧z≤3) :
 Call F.q0q [slc l,.clo F.q2w [.rref [.int .i64 z,slc t] 0]] (.int .i64 (idx (fun n => !inR n 0 (z - 1)) l)):=by
 refine q0v rfl (l.length+1) ((q05.ev _ _ _ _).trans ?_)
 refine q8h (S:=fun m k=>q05.at0 (l.length+1) m (q05.st0 (cells l) z _ _ (k:Nat))) (fun m k h => ?_) (fun m => ?_) (Nat.lt_succ_self _)
 · have hlk:l[k]?=some l[k]:=List.getElem?_eq_getElem h
   have hc:Call F.q2w [.int .i64 l[k],.rref [.int .i64 z,slc t] 0] (.bool (!inR l[k] 0 (z - 1))):=by
    refine q0v rfl 0 ((q2w.ev _ _ _ _).trans ?_)
    simp only [evz,Nat.reduceLT,q1z (x:=z - 1) (by omega),(q3x _ _ _).eq]
   simp only [q05.next0,q05.round0,evz,Nat.reduceLT,h,hlk,q1j,hc.eq]
   rw [q0o (by omega)]
   cases inR l[k] 0 (z - 1) <;> rfl
 · simp only [q05.next0,q05.round0,evz,Nat.reduceLT,Nat.lt_irrefl]
theorem q37 (l:List Int) (hs:l.length≤4294967296) (z:Int) (t:List (List Int)) (hz:1≤z∧z≤3) :
 Call F.q28 [slc l,.clo F.q2w [.rref [.int .i64 z,slc t] 0]] (.bool (l.any fun n => !inR n 0 (z - 1))):=by
 refine q0v rfl 0 ((q37.ev _ _ _ _).trans ?_)
 simp only [evz,Nat.reduceLT,(q05 l hs z t hz).eq,q8a]
theorem qj8 {a b:Nat}:((a:Int)=(b:Int))=(a=b):=by rw [eq_iff_iff]; omega
theorem q14 (l:List Symbol) (z:Int) (t:List (List Int)) (hs:l.length≤4294967296) (ht:sm 4294967296 t) :
 Call F.q14 [.agg [slc l],.agg [.int .i64 z,slc t]] (.int .i64 (q6f ⟨l⟩ ⟨z,t⟩)):=by
 have htl:=ht.1
 refine q0v rfl (t.length+1) ((q14.ev _ _ _ _).trans ?_)
 simp only [evz,Nat.reduceLT,(q06 l hs).eq,(q3x _ _ _).eq,q6f]
 by_cases h1:q2z ⟨l⟩=0
 case neg=>simp only [h1,evz,Nat.reduceLT,ne_eq,not_false_eq_true]
 have ok:=(q7j _).1 h1
 simp only [h1,evz,Nat.reduceLT,ne_eq,not_true_eq_false]
 cases h2:inR z 1 3 with
 | false=>simp only [evz,Nat.reduceLT]
 | true =>
   have hz:=q6y.1 h2
   simp only [evz,Nat.reduceLT,qj8,Bool.true_eq_false]
   by_cases h3:t.length=l.length
   case neg=>simp only [h3,evz,Nat.reduceLT,ne_eq,not_false_eq_true]
   simp only [h3,evz,Nat.reduceLT,ne_eq,not_true_eq_false]
   have hzip:(l.zip t).length=t.length:=by rw [List.length_zip]; omega
   have one:=q8m (l:=l.zip t) (g:=fun x=>(q65 z x).map fun c=>some (.int .i64 c,[])) (z:=some (.int .i64 0,[]))
    (S:=fun m k=>q14.at0 (t.length+1) m (q14.st0 (cells t) l.length (k:Nat) (cells l) z (cells t)))
    (fun m k h=>by
     have hk:k < t.length:=by omega
     have hkl:k < l.length:=by omega
     have htk:t[k]?=some t[k]:=List.getElem?_eq_getElem hk
     have hlk:l[k]?=some l[k]:=List.getElem?_eq_getElem hkl
     have har:=ok.arity l[k] (List.getElem_mem hkl)
     obtain ⟨r,hr⟩:∃ r:Nat,l[k].arity=r:=⟨l[k].arity.toNat,by omega⟩
     obtain ⟨y,hy⟩:∃ y:Nat,z=y:=⟨z.toNat,by omega⟩
     have hp:=q2p y r (by omega) (by omega)
     rw [← hy,← hr] at hp
     simp only [q14.next0,q14.round0,evz,Nat.reduceLT,hk,hkl,htk,hlk,q2a,q5m,hp.eq,qj8,(q37 t[k] (ht.2 _ (List.getElem_mem hk)).1 z t hz).eq]
     rw [q0o (by omega)]
     simp only [q65,List.getElem_zip,hr,hy,Int.toNat_natCast]
     by_cases h6:t[k].length=y ^ r
     · simp only [h6,if_true,ne_eq,not_true_eq_false,if_false]
       cases t[k].any fun n => !inR n 0 ((y:Int) - 1) <;> rfl
     · simp only [h6,if_false,ne_eq,not_false_eq_true,if_true]; rfl)
    (fun m=>by rw [hzip]; simp only [q14.next0,q14.round0,evz,Nat.reduceLT,h3,Nat.lt_irrefl]) (show (l.zip t).length < t.length+1 by omega)
   refine Eq.trans ?_ (one.trans ?_)
   · rw [h3]; rfl
   · rw [q76]
     cases (l.zip t).findSome? (q65 z) <;> rfl
theorem q0b (l:List Symbol) (z:Int) (t:List (List Int)) (hs:l.length≤4294967296) (ht:sm 4294967296 t) :
 Call F.q0b [.agg [slc l],.agg [.int .i64 z,slc t]] (.int .i64 (q6f ⟨l⟩ ⟨z,t⟩)):=by
 have htl:=ht.1
 obtain ⟨n,hn,hn2⟩:∃ n,t.length < n∧∀ x∈t,x.length < n:=⟨4294967297,by omega,fun x hx=>by have:=(ht.2 x hx).1; omega⟩
 refine q0v rfl n ((q0b.ev _ _ _ _).trans ?_)
 simp only [evz,Nat.reduceLT,(q00 l hs).eq,(q47 _ _ _).eq,q6f]
 by_cases h1:q2z ⟨l⟩=0
 case neg=>simp only [h1,evz,Nat.reduceLT,ne_eq,not_false_eq_true]
 have ok:=(q7j _).1 h1
 simp only [h1,evz,Nat.reduceLT,ne_eq,not_true_eq_false]
 cases h2:inR z 1 3 with
 | false=>simp only [evz,Nat.reduceLT]
 | true =>
   have hz:=q6y.1 h2
   simp only [evz,Nat.reduceLT,qj8,Bool.true_eq_false]
   by_cases h3:t.length=l.length
   case neg=>simp only [h3,evz,Nat.reduceLT,ne_eq,not_false_eq_true]
   simp only [h3,evz,Nat.reduceLT,ne_eq,not_true_eq_false]
   have hzip:(l.zip t).length=t.length:=by rw [List.length_zip]; omega
   have one:=q8m (l:=l.zip t) (g:=fun x=>(q65 z x).map fun c=>some (.int .i64 c,[])) (z:=some (.int .i64 0,[]))
    (S:=fun m k=>q0b.at0 n m (q0b.st0 (k:Nat) (cells l) z (cells t)))
    (fun m k h=>by
     have hk:k < t.length:=by omega
     have hkl:k < l.length:=by omega
     have htk:t[k]?=some t[k]:=List.getElem?_eq_getElem hk
     have hlk:l[k]?=some l[k]:=List.getElem?_eq_getElem hkl
     have har:=ok.arity l[k] (List.getElem_mem hkl)
     obtain ⟨r,hr⟩:∃ r:Nat,l[k].arity=r:=⟨l[k].arity.toNat,by omega⟩
     obtain ⟨y,hy⟩:∃ y:Nat,z=y:=⟨z.toNat,by omega⟩
     have hp:=q4a y r (by omega) (by omega)
     rw [← hy,← hr] at hp
     have two:=q83 (l:=t[k]) (p:=fun n => !inR n 0 (z - 1)) (S:=fun m' j=>q0b.at2 n (q0b.at0 n m) m' (q0b.st2 (k:Nat) (j:Nat) (cells l) z (cells t)))
      (r:=some (.int .i64 3,[])) (z:=q0b.at0 n m (q0b.st0 ((k+1:Nat):Int) (cells l) z (cells t))) (f:=n)
      (fun m' j hj=>by
       have hjk:t[k][j]?=some t[k][j]:=List.getElem?_eq_getElem hj
       have hjl:=(ht.2 t[k] (List.getElem_mem hk)).1
       simp only [q0b.next2,q0b.round2,evz,Nat.reduceLT,hk,htk,hj,hjk,q5m,q1j,q1z (x:=z - 1) (by omega),(q47 _ _ _).eq]
       rw [q0o (by omega)]
       cases inR t[k][j] 0 (z - 1) <;> rfl)
      (fun m'=>by
       simp only [q0b.next2,q0b.round2,evz,Nat.reduceLT,hk,htk,q5m,Nat.lt_irrefl]
       rw [q0o (by omega)])
      (hn2 _ (List.getElem_mem hk))
     simp only [q0b.next0,q0b.round0,evz,Nat.reduceLT,hk,hkl,htk,hlk,q2a,q5m,hp.eq,qj8]
     rw [show q0b.at2 n (q0b.at0 n m) n (q0b.st2 (k:Nat) 0 (cells l) z (cells t))=_ from two]
     simp only [q65,List.getElem_zip,hr,hy,Int.toNat_natCast]
     by_cases h6:t[k].length=y ^ r
     · simp only [h6,if_true,ne_eq,not_true_eq_false,if_false]
       cases t[k].any fun n => !inR n 0 ((y:Int) - 1) <;> rfl
     · simp only [h6,if_false,ne_eq,not_false_eq_true,if_true]; rfl)
    (fun m=>by rw [hzip]; simp only [q0b.next0,q0b.round0,evz,Nat.reduceLT,Nat.lt_irrefl]) (show (l.zip t).length < n by omega)
   refine one.trans ?_
   rw [q76]
   cases (l.zip t).findSome? (q65 z) <;> rfl
def ar (l:List Symbol) (n:Int):Nat:=if n < 0 then 0 else ((l[n.toNat]?).map fun x=>x.arity.toNat).getD 0
def q5n (l:List Symbol) (n:Int):Bool:=inR n 0 (l.length - 1)||inR n (-12) (-1)
def skip (a:Int→Nat):Nat→List Int→Option (List Int)
 | 0,l=>some l
 | _+1,[]=>none
 | k+1,n::l=>skip a (k+a n) l
def q3k (l:List Symbol) (t:List Int):Int :=
 if t.length < 1∨24 < t.length then 2 else if t.any (fun n => !q5n l n) then 3 else if skip (ar l) 1 t=some [] then 0 else 1
def q8p (s:Signature) (t:List Int):Int:=if q2z s≠0 then q2z s else q3k s.symbols t
section
variable {a:Int→Nat}
@[simp] theorem q3l (l:List Int):skip a 0 l=some l:=by cases l <;> rfl
theorem qal:∀ {l r:List Int} {k:Nat},skip a k l=some r→∃ p,l=p++r∧(0 < k→0 < p.length)
 | l,r,0,h=>by rw [q3l] at h; cases h; exact ⟨[],rfl,by omega⟩
 | [],r,k+1,h=>by cases h
 | n::l,r,k+1,h=>by
   obtain ⟨p,hp,_⟩:=qal (l:=l) (k:=k+a n) h
   exact ⟨n::p,by rw [hp]; rfl,by simp⟩
theorem q9o:∀ (l:List Int) (j k:Nat),skip a (j+k) l=(skip a j l).bind (skip a k)
 | l,0,k=>by simp
 | [],j+1,k=>by rw [Nat.add_right_comm]; rfl
 | n::l,j+1,k=>by
   rw [Nat.add_right_comm]
   show skip a (j+k+a n) l=(skip a (j+a n) l).bind (skip a k)
   rw [Nat.add_right_comm,q9o l (j+a n) k]
theorem qin {t r:List Int} {e k:Nat} (h:skip a k (t.drop e)=some r):r=t.drop (t.length - r.length)∧r.length≤t.length - e∧(0 < k→r.length < t.length - e):=by
 obtain ⟨p,hp,hk⟩:=qal h
 have hl:(t.drop e).length=p.length+r.length:=by rw [hp,List.length_append]
 rw [List.length_drop] at hl
 refine ⟨?_,by omega,fun h0=>by have:=hk h0; omega⟩
 have h1:t.length - r.length=e+p.length∨t.length≤e:=by omega
 rcases h1 with h1 | h1
 · rw [h1,← List.drop_drop,hp,List.drop_left]
 · have:r.length=0:=by omega
   rw [List.eq_nil_of_length_eq_zero this]
   simp
end
theorem q4e {l:List Symbol} {n:Int}:q5n l n=true↔(0≤n∧n < l.length)∨(-12≤n∧n ≤ -1):=by
 unfold q5n
 rw [Bool.or_eq_true,q6y,q6y]
 omega
section
variable {l:List Symbol} (ok:SigOk ⟨l⟩)
include ok
theorem qmi (n:Int):ar l n≤2:=by
 unfold ar
 split
 · omega
 · cases h:l[n.toNat]? with
   | none=>simp
   | some x =>
     have:=ok.arity x (List.mem_of_getElem? h)
     simp; omega
theorem q7q (n:Int):Call F.q7q [.agg [slc l],.int .i64 n] (.bool (q5n l n)):=by
 have hle:=ok.le
 have h1:Call F.q5j [.agg [slc l],.int .i64 n] (.bool (inR n 0 (l.length - 1))):=by
  refine q0v rfl 0 ((q5j.ev _ _ _).trans ?_)
  simp only [evz,Nat.reduceLT,q1z (x:=(l.length:Int) - 1) (by simp at hle; omega),(q3x _ _ _).eq]
 refine q0v rfl 0 ((q7q.ev _ _ _).trans ?_)
 simp only [evz,Nat.reduceLT,h1.eq,(q3x _ _ _).eq,q5n]
 cases inR n 0 (l.length - 1) <;> simp [evz,Nat.reduceLT]
theorem q7o (n:Int):Call F.q7o [.rref [slc l] 0,.int .i64 n] (.bool (q5n l n)):=by
 have hle:=ok.le
 have h1:Call F.q4m [.rref [slc l] 0,.int .i64 n] (.bool (inR n 0 (l.length - 1))):=by
  refine q0v rfl 0 ((q4m.ev _ _ _).trans ?_)
  simp only [evz,Nat.reduceLT,q1z (x:=(l.length:Int) - 1) (by simp at hle; omega),(q47 _ _ _).eq]
 refine q0v rfl 0 ((q7o.ev _ _ _).trans ?_)
 simp only [evz,Nat.reduceLT,h1.eq,(q47 _ _ _).eq,q5n]
 cases inR n 0 (l.length - 1) <;> simp [evz,Nat.reduceLT]
theorem qos {n:Int} (hn:0≤n) (h:n.toNat < l.length):(l[n.toNat]).arity=(ar l n:Nat):=by
 have:=ok.arity l[n.toNat] (List.getElem_mem h)
 unfold ar
 rw [if_neg (by omega),List.getElem?_eq_getElem h]
 simp; omega
theorem q5s (n:Int) (h:q5n l n=true):Call F.q5s [.agg [slc l],.int .i64 n] (.int .i64 (ar l n:Nat)):=by
 refine q0v rfl 0 ((q5s.ev _ _ _).trans ?_)
 rw [q4e] at h
 by_cases hn:n < 0
 · simp [hn,ar]
 · obtain ⟨m,rfl⟩:∃ m:Nat,n=m:=⟨n.toNat,by omega⟩
   have hm:m < l.length:=by omega
   have e:=qos ok (n:=m) (by omega) (by simpa using hm)
   have hl:l[m]?=some l[m]:=List.getElem?_eq_getElem hm
   have hn':¬ ((m:Int) < 0):=by omega
   simp only [evz,Nat.reduceLT,hn',hm,hl,q2a]
   simp at e
   rw [e]
def q87 (none':Int) (t:List Int) (r:Option (List Int)):Int:=match r with
 | some r=>((t.length - r.length:Nat):Int)
 | none=>none'
theorem q2k (t:List Int) (ht:∀ n∈t,q5n l n=true) (hl:t.length≤4294967296) (e:Nat) (he:e≤t.length) :
 Call F.q2k [.agg [slc l],slc t,.int .i64 e] (.int .i64 (q87 (t.length+1) t (skip (ar l) 1 (t.drop e)))):=by
 have loop:∀ m k o,k≤t.length→t.length+1 < m+k→o≤2*k+1 →
  q2k.at0 (t.length+2) m (q2k.st0 (cells t) (k:Nat) (o:Nat) (cells l))=some (.int .i64 (q87 (t.length+1) t (skip (ar l) o (t.drop k))),[]):=by
  intro m
  induction m with
  | zero=>intros; omega
  | succ m ih =>
    intro k o hk hm ho
    simp only [q2k.next0,q2k.round0,evz,Nat.reduceLT,gt_iff_lt,ge_iff_le]
    cases o with
    | zero =>
      rw [if_neg (by omega),q3l]
      simp only [q87,List.length_drop]
      congr 3; omega
    | succ o =>
      rw [if_pos (by omega)]
      by_cases h:k < t.length
      · have hk':t[k]?=some t[k]:=List.getElem?_eq_getElem h
        have hn:=ht t[k] (List.getElem_mem h)
        have h2:=qmi ok t[k]
        rw [if_neg (by omega)]
        simp only [h,hk',evz,Nat.reduceLT,q1j,(q5s ok t[k] hn).eq]
        rw [q0o (by omega),q1z (x:=((ar l t[k]:Nat):Int) - 1) (by omega),q1z (by omega)]
        rw [show ((o+1:Nat):Int)+(((ar l t[k]:Nat):Int) - 1)=((o+ar l t[k]:Nat):Int) by omega]
        rw [ih (k+1) (o+ar l t[k]) (by omega) (by omega) (by omega),List.drop_eq_getElem_cons h]
        rfl
      · obtain rfl:k=t.length:=by omega
        rw [if_pos (by omega),q1z (by omega),List.drop_of_length_le (Nat.le_refl _)]
        rfl
 refine q0v rfl (t.length+2) ((q2k.ev _ _ _ _).trans ?_)
 have:=loop (t.length+2) e 1 he (by omega) (by omega)
 exact this
theorem q1v (t:List Int) (ht:∀ n∈t,q5n l n=true) (hl:t.length≤4294967296) (e:Nat) (he:e≤t.length) :
 Call F.q1v [.rref [slc l] 0,slc t,.int .i64 e] (.int .i64 (q87 (-1) t (skip (ar l) 1 (t.drop e)))):=by
 obtain ⟨d,hd⟩:∃ d,d=t.length - e:=⟨_,rfl⟩
 induction d using Nat.strongRecOn generalizing e with
 | ind d ih =>
 refine q0v rfl 4 ((q1v.ev _ _ _ _).trans ?_)
 simp only [evz,Nat.reduceLT,ge_iff_le]
 by_cases h:e < t.length
 case neg =>
  obtain rfl:e=t.length:=by omega
  rw [if_pos (by omega),List.drop_of_length_le (Nat.le_refl _)]
  rfl
 have hk':t[e]?=some t[e]:=List.getElem?_eq_getElem h
 have hn:=ht t[e] (List.getElem_mem h)
 have h2:=qmi ok t[e]
 rw [if_neg (by omega)]
 simp only [h,hk',evz,Nat.reduceLT,q1j]
 rw [List.drop_eq_getElem_cons h]
 show _=some (T.int .i64 (q87 (-1) t (skip (ar l) (0+ar l t[e]) (t.drop (e+1)))),[])
 rw [Nat.zero_add,q0o (by omega)]
 by_cases hneg:t[e] < 0
 · rw [if_pos hneg]
   have:ar l t[e]=0:=by unfold ar; rw [if_pos hneg]
   rw [this,q3l]
   simp only [q87,List.length_drop]
   congr 3; omega
 rw [if_neg hneg]
 rw [q4e] at hn
 obtain ⟨y,hy⟩:∃ y:Nat,t[e]=y:=⟨t[e].toNat,by omega⟩
 have hym:y < l.length:=by omega
 have hyl:l[y]?=some l[y]:=List.getElem?_eq_getElem hym
 have hya:l[y].arity=(ar l t[e]:Nat):=by
  have:=qos ok (n:=t[e]) (by omega) (by omega)
  simpa [hy] using this
 have loop:∀ m i k,e < k→k≤t.length→i≤ar l t[e]→ar l t[e] < m+i →
  q1v.at0 4 m (q1v.st0 (cells l) (cells t) e (k:Nat) (i:Nat))=some (.int .i64 (q87 (-1) t (skip (ar l) (ar l t[e] - i) (t.drop k))),[]):=by
  intro m
  induction m with
  | zero=>intros; omega
  | succ m ihm =>
    intro i k hk1 hk2 hi hm
    simp only [q1v.next0,q1v.round0,evz,Nat.reduceLT,h,hk',q1j]
    simp only [hy,evz,Nat.reduceLT,hym,hyl,q2a,hya]
    by_cases hia:i < ar l t[e]
    · rw [hy] at hia
      rw [if_pos hia,(ih (t.length - k) (by omega) k hk2 rfl).eq]
      simp only [evz,Nat.reduceLT]
      rw [← hy] at hia
      rw [show ar l ((y:Nat):Int) - i=1+(ar l t[e] - (i+1)) by rw [hy]; rw [hy] at hia; omega,q9o]
      cases hs:skip (ar l) 1 (t.drop k) with
      | none=>rfl
      | some r =>
        obtain ⟨hr1,hr2,hr3⟩:=qin hs
        have hr4:=hr3 (by omega)
        have hnn:¬ q87 (-1) t (some r) < 0:=by show ¬ ((t.length - r.length:Nat):Int) < 0; omega
        rw [if_neg hnn,q0o (by omega),show q87 (-1) t (some r)=((t.length - r.length:Nat):Int) from rfl,ihm (i+1) (t.length - r.length) (by omega) (by omega) (by omega) (by omega),← hr1]
        rfl
    · have:i=ar l t[e]:=by omega
      rw [if_neg (by rw [← hy]; exact hia),show ar l ((y:Nat):Int) - i=0 by rw [← hy]; omega,q3l]
      simp only [q87,List.length_drop]
      congr 3; omega
 have:=loop 4 0 (e+1) (by omega) (by omega) (by omega) (by omega)
 exact this
end
theorem qd2 {l:List Symbol} {t:List Int}:(t.any fun n => !q5n l n)=false↔∀ n∈t,q5n l n=true:=by
 rw [List.any_eq_false]; simp
theorem qc1 {a:Int→Nat} {t:List Int}:(q87 (t.length+1) t (skip a 1 t)=t.length↔skip a 1 t=some [])∧(q87 (-1) t (skip a 1 t)=t.length↔skip a 1 t=some []):=by
 cases h:skip a 1 t with
 | none=>simp [q87]; omega
 | some r =>
   obtain ⟨p,hp,_⟩:=qal h
   have:r.length≤t.length:=by rw [hp]; simp
   cases r with
   | nil=>simp [q87]
   | cons x r =>
     simp only [List.length_cons] at this
     refine ⟨⟨fun h => ?_,fun h=>by cases h⟩,⟨fun h => ?_,fun h=>by cases h⟩⟩ <;> (simp only [q87,List.length_cons] at h; omega)
theorem q3f (l:List Symbol) (ok:SigOk ⟨l⟩) (t:List Int) (hs:t.length≤4294967296) :
 Call F.q28 [slc t,.clo F.q3j [.rref [slc l] 0]] (.bool (t.any fun n => !q5n l n)):=by
 have hi:Call F.q0q [slc t,.clo F.q3j [.rref [slc l] 0]] (.int .i64 (idx (fun n => !q5n l n) t)):=by
  refine q0v rfl (t.length+1) ((q0a.ev _ _ _).trans ?_)
  refine q8h (S:=fun m k=>q0a.at0 (t.length+1) m (q0a.st0 (cells t) _ _ (k:Nat))) (fun m k h => ?_) (fun m => ?_) (Nat.lt_succ_self _)
  · have hlk:t[k]?=some t[k]:=List.getElem?_eq_getElem h
    have hc:Call F.q3j [.int .i64 t[k],.rref [slc l] 0] (.bool (!q5n l t[k])):=by
     refine q0v rfl 0 ((q3j.ev _ _ _).trans ?_)
     simp only [evz,Nat.reduceLT,(q7q ok _).eq]
    simp only [q0a.next0,q0a.round0,evz,Nat.reduceLT,h,hlk,q1j,hc.eq]
    rw [q0o (by omega)]
    cases q5n l t[k] <;> rfl
  · simp only [q0a.next0,q0a.round0,evz,Nat.reduceLT,Nat.lt_irrefl]
 refine q0v rfl 0 ((q3f.ev _ _ _).trans ?_)
 simp only [evz,Nat.reduceLT,hi.eq,q8a]
theorem q4j (l:List Symbol) (hs:l.length≤4294967296) (t:List Int) (ht:t.length≤4294967296):Call F.q4j [.agg [slc l],slc t] (.int .i64 (q8p ⟨l⟩ t)):=by
 refine q0v rfl 0 ((q4j.ev _ _ _).trans ?_)
 simp only [evz,Nat.reduceLT,(q06 l hs).eq,q8p,q3k,gt_iff_lt]
 by_cases h1:q2z ⟨l⟩=0
 case neg=>simp only [h1,evz,Nat.reduceLT,ne_eq,not_false_eq_true]
 have ok:=(q7j _).1 h1
 simp only [h1,evz,Nat.reduceLT,ne_eq,not_true_eq_false]
 by_cases h2:t.length < 1
 · have h2':(t.length:Int) < 1:=by omega
   simp only [h2,h2',evz,Nat.reduceLT,true_or]
 by_cases h3:24 < t.length
 · have h2':¬ (t.length:Int) < 1:=by omega
   have h3':(24:Int) < t.length:=by omega
   simp only [h2,h2',h3,h3',evz,Nat.reduceLT,or_true]
 have h2':¬ (t.length:Int) < 1:=by omega
 have h3':¬ (24:Int) < t.length:=by omega
 simp only [h2,h2',h3,h3',evz,Nat.reduceLT,or_self,(q3f l ok t ht).eq]
 cases h4:t.any fun n => !q5n l n with
 | true=>simp only [evz,Nat.reduceLT]
 | false =>
   have hn:=qd2.1 h4
   have he:=q2k ok t hn ht 0 (by omega)
   simp only [evz,Nat.reduceLT,Bool.false_eq_true,show LIM F.q2k [.agg [slc l],slc t,.int .i64 0]=_ from he,List.drop_zero]
   by_cases h5:skip (ar l) 1 t=some []
   · rw [if_pos (qc1.1.2 h5),if_pos h5]
   · rw [if_neg fun h=>h5 (qc1.1.1 h),if_neg h5]
theorem q17 (l:List Symbol) (ok:SigOk ⟨l⟩) (t:List Int) (ht:t.length≤4294967296):Call F.q17 [.rref [slc l] 0,slc t] (.int .i64 (q3k l t)):=by
 refine q0v rfl (t.length+1) ((q17.ev _ _ _).trans ?_)
 simp only [evz,Nat.reduceLT,q3k,gt_iff_lt]
 by_cases h2:t.length < 1
 · have h2':(t.length:Int) < 1:=by omega
   simp only [h2,h2',evz,Nat.reduceLT,true_or]
 by_cases h3:24 < t.length
 · have h2':¬ (t.length:Int) < 1:=by omega
   have h3':(24:Int) < t.length:=by omega
   simp only [h2,h2',h3,h3',evz,Nat.reduceLT,or_true]
 have h2':¬ (t.length:Int) < 1:=by omega
 have h3':¬ (24:Int) < t.length:=by omega
 simp only [h2,h2',h3,h3',evz,Nat.reduceLT,or_self]
 have step:∀ m k (h:k < t.length),q17.at0 (t.length+1) (m+1) (q17.st0 (cells l) (cells t) (k:Nat)) =
  if (fun n => !q5n l n) t[k]=true then some (.int .i64 3,[]) else q17.at0 (t.length+1) m (q17.st0 (cells l) (cells t) ((k+1:Nat):Int)):=fun m k h=>by
  have hlk:t[k]?=some t[k]:=List.getElem?_eq_getElem h
  simp only [q17.next0,q17.round0,evz,Nat.reduceLT,h,hlk,q1j,(q7o ok _).eq]
  rw [q0o (by omega)]
  by_cases hb:q5n l t[k]=true <;> simp [hb]
 cases h4:t.any fun n => !q5n l n with
 | true =>
   refine (qtf (p:=fun n => !q5n l n) (r:=some (.int .i64 3,[])) (S:=fun m k=>q17.at0 (t.length+1) m (q17.st0 (cells l) (cells t) (k:Nat))) step h4 (Nat.lt_succ_self _)).trans ?_
   simp only [evz,Nat.reduceLT]
 | false =>
   have hn:=qd2.1 h4
   have he:=q1v ok t hn ht 0 (by omega)
   refine (q83 (p:=fun n => !q5n l n) (r:=some (.int .i64 3,[])) (S:=fun m k=>q17.at0 (t.length+1) m (q17.st0 (cells l) (cells t) (k:Nat))) (z:=if skip (ar l) 1 t=some [] then some (.int .i64 0,[]) else some (.int .i64 1,[])) step (fun m => ?_) (Nat.lt_succ_self _)).trans ?_
   · simp only [q17.next0,q17.round0,evz,Nat.reduceLT,Nat.lt_irrefl,show LIM F.q1v [.rref [slc l] 0,slc t,.int .i64 0]=_ from he,List.drop_zero]
     by_cases h5:skip (ar l) 1 t=some []
     · rw [if_pos (qc1.2.2 h5),if_pos h5]
     · rw [if_neg fun h=>h5 (qc1.2.1 h),if_neg h5]
   · rw [h4]
     simp only [evz,Nat.reduceLT,Bool.false_eq_true]
     by_cases h5:skip (ar l) 1 t=some [] <;> simp only [h5,if_true,if_false]
end Ev.Ty
end
section
namespace Ev.Ty
open Go Ev
inductive Tm where
 | v (n:Int)
 | k (n:Int)
 | u (n:Int) (x:Tm)
 | b (n:Int) (x y:Tm)
 deriving DecidableEq
namespace Tm
def flat:Tm→List Int
 | v n=>[n]
 | k n=>[n]
 | u n x=>n::x.flat
 | b n x y=>n::(x.flat++y.flat)
def head:Tm→Int
 | v n=>n
 | k n=>n
 | u n _=>n
 | b n _ _=>n
def ok (a:Int→Nat):Tm→Prop
 | v n=>n < 0
 | k n=>0≤n∧a n=0
 | u n x=>0≤n∧a n=1∧x.ok a
 | b n x y=>0≤n∧a n=2∧x.ok a∧y.ok a
theorem flat_pos (x:Tm):0 < x.flat.length:=by cases x <;> simp [flat]
theorem flat_head (x:Tm):∃ r,x.flat=x.head::r:=by cases x <;> exact ⟨_,rfl⟩
variable {a:Int→Nat}
theorem skip_flat (ha:∀ n,n < 0→a n=0):∀ (x:Tm) (r:List Int) (j:Nat),x.ok a→skip a (j+1) (x.flat++r)=skip a j r
 | v n,r,j,h=>by
   show skip a (j+a n) r=_
   rw [ha n h,Nat.add_zero]
 | k n,r,j,h=>by
   show skip a (j+a n) r=_
   rw [h.2,Nat.add_zero]
 | u n x,r,j,h=>by
   show skip a (j+a n) (x.flat++r)=_
   rw [h.2.1]; exact skip_flat ha x r j h.2.2
 | b n x y,r,j,h=>by
   show skip a (j+a n) ((x.flat++y.flat)++r)=_
   rw [h.2.1,List.append_assoc,skip_flat ha x _ (j+1) h.2.2.1,skip_flat ha y _ j h.2.2.2]
theorem parse (ha:∀ n,n < 0→a n=0) (h2:∀ n,a n≤2):∀ (m:Nat) (l r:List Int),l.length≤m→skip a 1 l=some r→∃ x:Tm,x.ok a∧l=x.flat++r
 | _,[],r,_,h=>by cases h
 | 0,n::l,r,hm,h=>by simp at hm
 | m+1,n::l,r,hm,h=>by
   have hm:l.length≤m:=by simpa using hm
   have h:skip a (0+a n) l=some r:=h
   rw [Nat.zero_add] at h
   by_cases hn:n < 0
   · rw [ha n hn,q3l] at h; cases h
     exact ⟨.v n,hn,rfl⟩
   · have:=h2 n
     have h3:a n=0∨a n=1∨a n=2:=by omega
     rcases h3 with h0 | h1 | h2'
     · rw [h0,q3l] at h; cases h
       exact ⟨.k n,⟨by omega,h0⟩,rfl⟩
     · rw [h1] at h
       obtain ⟨x,hx,rfl⟩:=parse ha h2 m l r hm h
       exact ⟨.u n x,⟨by omega,h1,hx⟩,rfl⟩
     · rw [h2',show 2=1+1 from rfl,q9o] at h
       cases hs:skip a 1 l with
       | none=>rw [hs] at h; cases h
       | some r1 =>
         rw [hs] at h
         have h9:skip a 1 r1=some r:=h
         obtain ⟨x,hx,rfl⟩:=parse ha h2 m l r1 hm hs
         obtain ⟨y,hy,rfl⟩:=parse ha h2 m r1 r (by simp at hm; omega) h9
         exact ⟨.b n x y,⟨by omega,h2',hx,hy⟩,by simp [flat]⟩
end Tm
theorem q9k (l:List Symbol) {n:Int} (h:n < 0):ar l n=0:=by unfold ar; rw [if_pos h]
structure TermOk (l:List Symbol) (t:List Int):Prop where
 pos:1≤t.length
 le:t.length≤24
 node:∀ n∈t,q5n l n=true
 skip:skip (ar l) 1 t=some []
theorem q79 (l:List Symbol) (t:List Int):q3k l t=0↔TermOk l t:=by
 unfold q3k
 constructor
 · intro h
   split at h
   · cases h
   · split at h
     · cases h
     · rename_i h1 h2
       split at h
       · rename_i h3
         exact ⟨by omega,by omega,qd2.1 (by simpa using h2),h3⟩
       · cases h
 · intro h
   have:=h.pos; have:=h.le
   rw [if_neg (by omega),if_neg (by rw [qd2.2 h.node]; simp),if_pos h.skip]
theorem TermOk.tree {l:List Symbol} {t:List Int} (ok:SigOk ⟨l⟩) (h:TermOk l t):∃ x:Tm,x.ok (ar l)∧t=x.flat:=by
 obtain ⟨x,hx,e⟩:=Tm.parse (fun n hn=>q9k l hn) (qmi ok) t.length t [] (Nat.le_refl _) h.skip
 exact ⟨x,hx,by simpa using e⟩
theorem q9s {t r:List Int} {e:Nat} {x:Tm} (h:t.drop e=x.flat++r):e < t.length∧t[e]?=some x.head∧e+x.flat.length≤t.length:=by
 have hl:(t.drop e).length=x.flat.length+r.length:=by rw [h,List.length_append]
 have hp:=x.flat_pos
 rw [List.length_drop] at hl
 refine ⟨by omega,?_,by omega⟩
 have:(t.drop e)[0]?=some x.head:=by
  rw [h]; obtain ⟨r',e'⟩:=x.flat_head; rw [e']; rfl
 rwa [List.getElem?_drop,Nat.add_zero] at this
theorem qdz {t r q:List Int} {e:Nat} (h:t.drop e=q++r):t.drop (e+q.length)=r:=by
 rw [← List.drop_drop,h,List.drop_left]
end Ev.Ty
end
section
namespace Ev.Ty
open Go Ev
open Enc (enc)
open Sm (sm)
structure AlgOk (l:List Symbol) (z:Int) (tb:List (List Int)):Prop where
 sig:SigOk ⟨l⟩
 size:1≤z∧z≤3
 len:tb.length=l.length
 rows:∀ (k:Nat) (h:k < l.length) (h':k < tb.length),tb[k].length=z.toNat ^ (l[k]).arity.toNat∧∀ n∈tb[k],0≤n∧n≤z - 1
theorem qvs {l:List Symbol} {z:Int} {tb:List (List Int)} (h:q6f ⟨l⟩ ⟨z,tb⟩=0):AlgOk l z tb:=by
 unfold q6f at h
 by_cases h1:q2z ⟨l⟩=0
 case neg=>rw [if_pos h1] at h; exact absurd h h1
 rw [if_neg (by simpa using h1)] at h
 split at h
 · cases h
 rename_i h2
 split at h
 · cases h
 rename_i h3
 have h3:tb.length=l.length:=by simpa using h3
 have hn:(l.zip tb).findSome? (q65 z)=none:=by
  cases hx:(l.zip tb).findSome? (q65 z) with
  | none=>rfl
  | some c =>
    simp only [hx] at h
    obtain ⟨x,hx,hf⟩:=List.exists_of_findSome?_eq_some hx
    unfold q65 at hf
    split at hf
    · cases hf; cases h
    · split at hf
      · cases hf; cases h
      · cases hf
 rw [q84] at hn
 refine ⟨(q7j _).1 h1,q6y.1 (by simpa using h2),h3,fun k hk hk' => ?_⟩
 have hz:(l.zip tb)[k]?=some (l[k],tb[k]):=by
  rw [List.getElem?_zip_eq_some]; exact ⟨List.getElem?_eq_getElem hk,List.getElem?_eq_getElem hk'⟩
 have:=hn _ (List.mem_of_getElem? hz)
 unfold q65 at this
 split at this
 · cases this
 · rename_i h4
   split at this
   · cases this
   · rename_i h5
     refine ⟨by simpa using h4,fun n hn => ?_⟩
     rw [List.any_eq_true] at h5
     have:inR n 0 (z - 1)=true:=by
      apply Classical.byContradiction
      intro hc
      exact h5 ⟨n,hn,by simpa using hc⟩
     exact q6y.1 this
def Tm.eval (z:Int) (tb:List (List Int)) (vs:List Int):Tm→Int
 | v n=>vs.getD (-1 - n).toNat 0
 | k n=>(tb.getD n.toNat []).getD 0 0
 | u n x=>(tb.getD n.toNat []).getD (x.eval z tb vs).toNat 0
 | b n x y=>(tb.getD n.toNat []).getD (x.eval z tb vs*z+y.eval z tb vs).toNat 0
def Tm.low (m:Int):Tm→Prop
 | v n => -m≤n
 | k _=>True
 | u _ x=>x.low m
 | b _ x y=>x.low m∧y.low m
def Tm.syms (c:Nat):Tm→Prop
 | v _=>True
 | k n=>n < c
 | u n x=>n < c∧x.syms c
 | b n x y=>n < c∧x.syms c∧y.syms c
theorem Tm.low_of {m:Int}:∀ {x:Tm},(∀ n∈x.flat,-m≤n)→x.low m
 | v n,h=>h n (by simp [Tm.flat])
 | k n,_=>trivial
 | u n x,h=>Tm.low_of (x:=x) fun j hj=>h j (by simp [Tm.flat,hj])
 | b n x y,h=>⟨Tm.low_of (x:=x) fun j hj=>h j (by simp [Tm.flat,hj]),Tm.low_of (x:=y) fun j hj=>h j (by simp [Tm.flat,hj])⟩
theorem Tm.syms_of {l:List Symbol} {a:Int→Nat}:∀ {x:Tm},x.ok a→(∀ n∈x.flat,q5n l n=true)→x.syms l.length
 | v n,_,h=>trivial
 | k n,ok,h=>by
   have:=q4e.1 (h n (by simp [Tm.flat])); have:=ok.1
   show n < (l.length:Int)
   omega
 | u n x,ok,h=>by
   have:=q4e.1 (h n (by simp [Tm.flat])); have:=ok.1
   exact ⟨by show n < (l.length:Int); omega,Tm.syms_of (x:=x) ok.2.2 fun j hj=>h j (by simp [Tm.flat,hj])⟩
 | b n x y,ok,h=>by
   have:=q4e.1 (h n (by simp [Tm.flat])); have:=ok.1
   exact ⟨by show n < (l.length:Int); omega,Tm.syms_of (x:=x) ok.2.2.1 fun j hj=>h j (by simp [Tm.flat,hj]),Tm.syms_of (x:=y) ok.2.2.2 fun j hj=>h j (by simp [Tm.flat,hj])⟩
section
variable {l:List Symbol} {z:Int} {tb:List (List Int)} (al:AlgOk l z tb) {vs:List Int} (hv:vs.length=6) (hr:∀ n∈vs,0≤n∧n≤z - 1)
include al
theorem qb1 {n:Int} (h0:0≤n) (h1:n < l.length):∃ y:Nat,n=y∧∃ (h:y < l.length) (h':y < tb.length),tb[y].length=z.toNat ^ ar l n∧(∀ j∈tb[y],0≤j∧j≤z - 1)∧tb.getD n.toNat []=tb[y]∧(l[y]).arity=(ar l n:Nat):=by
 obtain ⟨y,rfl⟩:∃ y:Nat,n=y:=⟨n.toNat,by omega⟩
 have h:y < l.length:=by omega
 have h':y < tb.length:=by rw [al.len]; exact h
 obtain ⟨r1,r2⟩:=al.rows y h h'
 have ha:(l[y]).arity=(ar l y:Nat):=by simpa using qos al.sig (n:=y) (by omega) (by simpa using h)
 refine ⟨y,rfl,h,h',?_,r2,by simp [h'],ha⟩
 rw [r1,ha]; simp
include hv hr
theorem Tm.eval_range:∀ {x:Tm},x.ok (ar l)→x.syms l.length→x.low 6→0≤x.eval z tb vs∧x.eval z tb vs≤z - 1
 | v n,ok,hs,hl=>by
   have ok:n < 0:=ok
   have hl : -6≤n:=hl
   have h:(-1 - n).toNat < vs.length:=by omega
   have e:vs.getD (-1 - n).toNat 0=vs[(-1 - n).toNat]:=by simp [h]
   show 0≤vs.getD (-1 - n).toNat 0∧vs.getD (-1 - n).toNat 0≤z - 1
   rw [e]; exact hr _ (List.getElem_mem h)
 | k n,ok,hs,hl=>by
   obtain ⟨y,rfl,h,h',r1,r2,r3,r4⟩:=qb1 al ok.1 hs
   rw [ok.2,Nat.pow_zero] at r1
   have h0:0 < tb[y].length:=by omega
   show 0≤(tb.getD (y:Int).toNat []).getD 0 0∧(tb.getD (y:Int).toNat []).getD 0 0≤z - 1
   rw [r3,show tb[y].getD 0 0=tb[y][0] by simp [h0]]
   exact r2 _ (List.getElem_mem h0)
 | u n x,ok,hs,hl=>by
   obtain ⟨y,rfl,h,h',r1,r2,r3,r4⟩:=qb1 al ok.1 hs.1
   obtain ⟨i1,i2⟩:=Tm.eval_range (x:=x) ok.2.2 hs.2 hl
   rw [ok.2.1,Nat.pow_one] at r1
   have h0:(x.eval z tb vs).toNat < tb[y].length:=by omega
   show 0≤(tb.getD (y:Int).toNat []).getD (x.eval z tb vs).toNat 0∧(tb.getD (y:Int).toNat []).getD (x.eval z tb vs).toNat 0≤z - 1
   rw [r3,show tb[y].getD (x.eval z tb vs).toNat 0=tb[y][(x.eval z tb vs).toNat] by simp [h0]]
   exact r2 _ (List.getElem_mem h0)
 | b n x w,ok,hs,hl=>by
   obtain ⟨y,rfl,h,h',r1,r2,r3,r4⟩:=qb1 al ok.1 hs.1
   obtain ⟨i1,i2⟩:=Tm.eval_range (x:=x) ok.2.2.1 hs.2.1 hl.1
   obtain ⟨j1,j2⟩:=Tm.eval_range (x:=w) ok.2.2.2 hs.2.2 hl.2
   rw [ok.2.1] at r1
   have hz:=al.size
   have h0:(x.eval z tb vs*z+w.eval z tb vs).toNat < tb[y].length:=by
    rw [r1]
    have:z=1∨z=2∨z=3:=by omega
    rcases this with rfl | rfl | rfl <;> simp <;> omega
   show 0≤(tb.getD (y:Int).toNat []).getD (x.eval z tb vs*z+w.eval z tb vs).toNat 0∧(tb.getD (y:Int).toNat []).getD (x.eval z tb vs*z+w.eval z tb vs).toNat 0≤z - 1
   rw [r3,show tb[y].getD (x.eval z tb vs*z+w.eval z tb vs).toNat 0=tb[y][(x.eval z tb vs*z+w.eval z tb vs).toNat] by simp [h0]]
   exact r2 _ (List.getElem_mem h0)
end
theorem q7g {α:Type} {v:List α} {i:Nat} {d:α} (h:i < v.length):v.getD i d=v[i]:=by simp [h]
section
variable {l:List Symbol} {z:Int} {tb:List (List Int)} (al:AlgOk l z tb) {vs:List Int} (hv:vs.length=6) (hr:∀ n∈vs,0≤n∧n≤z - 1)
include al hv hr
theorem q0m {t:List Int} (ht:t.length≤4294967296):∀ (x:Tm) (r:List Int) (e:Nat),t.drop e=x.flat++r→x.ok (ar l)→x.syms l.length→x.low 6 →
 Call F.q0m [.agg [.int .i64 z,slc tb],.agg [slc l],slc vs,slc t,.int .i64 e] (.tup [.int .i64 (x.eval z tb vs),.int .i64 (e+x.flat.length:Nat)]):=by
 intro x
 induction x with
 | v n =>
   intro r e he ok hs hl
   obtain ⟨h1,h2,h3⟩:=q9s he
   have ok:n < 0:=ok
   have hl : -6≤n:=hl
   refine q0v rfl 4 ((q0m.ev _ _ _ _ _ _ _).trans ?_)
   obtain ⟨y,hy⟩:∃ y:Nat,-1 - n=y:=⟨(-1 - n).toNat,by omega⟩
   have hyv:y < vs.length:=by omega
   have hyl:vs[y]?=some vs[y]:=List.getElem?_eq_getElem hyv
   have hw:IntKind.wrap .i64 (-1 - n)=y:=by rw [q1z (by omega),hy]
   simp only [evz,Nat.reduceLT,h1,h2,q1j,Tm.head,ok,hw,hyv,hyl]
   rw [q0o (by omega)]
   simp only [Tm.eval,hy,Int.toNat_natCast,q7g hyv,Tm.flat,List.length_singleton]
 | k n =>
   intro r e he ok hs hl
   obtain ⟨h1,h2,h3⟩:=q9s he
   obtain ⟨y,rfl,hy,hy',r1,r2,r3,r4⟩:=qb1 al ok.1 hs
   have hyl:l[y]?=some l[y]:=List.getElem?_eq_getElem hy
   have hyt:tb[y]?=some tb[y]:=List.getElem?_eq_getElem hy'
   rw [ok.2,Nat.pow_zero] at r1
   have hn:¬ ((y:Int) < 0):=by omega
   have h0:(0:Nat) < tb[y].length:=by omega
   have h0l:tb[y][0]?=some tb[y][0]:=List.getElem?_eq_getElem h0
   refine q0v rfl 4 ((q0m.ev _ _ _ _ _ _ _).trans ?_)
   simp only [evz,Nat.reduceLT,h1,h2,q1j,Tm.head,hn,hy,hyl,q2a,r4,ok.2]
   refine (q0m.next0 4 3 _).trans ((q0m.round0 _ _ _ _ _ _ _ _ _ _ _ _).trans ?_)
   rw [q0o (by omega)]
   have hz0:inB 0 tb[y].length=true:=by rw [show (0:Int)=((0:Nat):Int) from rfl,q5f]; simpa using h0
   simp only [evz,Nat.reduceLT,hy',hyt,q5m,hz0,Int.toNat_zero,h0l,q1j,Int.lt_irrefl,Int.ofNat_zero,Int.natCast_zero]
   simp only [Tm.eval,Int.toNat_natCast,q7g hy',q7g h0,Tm.flat,List.length_singleton]
 | u n x ihx =>
   intro r e he ok hs hl
   obtain ⟨h1,h2,h3⟩:=q9s he
   obtain ⟨y,rfl,hy,hy',r1,r2,r3,r4⟩:=qb1 al ok.1 hs.1
   have hyl:l[y]?=some l[y]:=List.getElem?_eq_getElem hy
   have hyt:tb[y]?=some tb[y]:=List.getElem?_eq_getElem hy'
   rw [ok.2.1,Nat.pow_one] at r1
   have hn:¬ ((y:Int) < 0):=by omega
   obtain ⟨i1,i2⟩:=Tm.eval_range al hv hr ok.2.2 hs.2 hl
   obtain ⟨q,hq⟩:∃ q:Nat,x.eval z tb vs=q:=⟨(x.eval z tb vs).toNat,by omega⟩
   have hz:=al.size
   have h0:q < tb[y].length:=by omega
   have h0l:tb[y][q]?=some tb[y][q]:=List.getElem?_eq_getElem h0
   have he1:t.drop (e+1)=x.flat++r:=qdz (q:=[(y:Int)]) (by simpa [Tm.flat] using he)
   have c1:=ihx r (e+1) he1 ok.2.2 hs.2 hl
   refine q0v rfl 4 ((q0m.ev _ _ _ _ _ _ _).trans ?_)
   simp only [evz,Nat.reduceLT,h1,h2,q1j,Tm.head,hn,hy,hyl,q2a,r4,ok.2.1]
   rw [q0o (by omega)]
   refine (q0m.next0 4 3 _).trans ((q0m.round0 _ _ _ _ _ _ _ _ _ _ _ _).trans ?_)
   simp only [evz,Nat.reduceLT,c1.eq,hq,show ((1:Nat):Int)=1 from rfl,show ((2:Nat):Int)=2 from rfl,Int.reduceLT,Int.reduceAdd,q1z (x:=0*z) (by omega),q1z (x:=0*z+(q:Int)) (by omega),q1z (x:=(1:Int)) (by omega)]
   refine (q0m.next0 4 2 _).trans ((q0m.round0 _ _ _ _ _ _ _ _ _ _ _ _).trans ?_)
   simp only [evz,Nat.reduceLT,show ((1:Nat):Int)=1 from rfl,show ((2:Nat):Int)=2 from rfl,Int.reduceLT,Int.reduceAdd,Int.zero_mul,Int.zero_add,hy',hyt,q5m,h0,h0l,q1j]
   simp only [Tm.eval,hq,Int.toNat_natCast,q7g hy',q7g h0,Tm.flat,List.length_cons]
   rw [show e+1+x.flat.length=e+(x.flat.length+1) by omega]
 | b n x w ihx ihw =>
   intro r e he ok hs hl
   obtain ⟨h1,h2,h3⟩:=q9s he
   obtain ⟨y,rfl,hy,hy',r1,r2,r3,r4⟩:=qb1 al ok.1 hs.1
   have hyl:l[y]?=some l[y]:=List.getElem?_eq_getElem hy
   have hyt:tb[y]?=some tb[y]:=List.getElem?_eq_getElem hy'
   rw [ok.2.1] at r1
   have hn:¬ ((y:Int) < 0):=by omega
   obtain ⟨i1,i2⟩:=Tm.eval_range al hv hr ok.2.2.1 hs.2.1 hl.1
   obtain ⟨j1,j2⟩:=Tm.eval_range al hv hr ok.2.2.2 hs.2.2 hl.2
   obtain ⟨q,hq⟩:∃ q:Nat,x.eval z tb vs=q:=⟨(x.eval z tb vs).toNat,by omega⟩
   obtain ⟨p,hp⟩:∃ p:Nat,w.eval z tb vs=p:=⟨(w.eval z tb vs).toNat,by omega⟩
   obtain ⟨zn,hzn⟩:∃ zn:Nat,z=zn:=⟨z.toNat,by have:=al.size; omega⟩
   have hz:=al.size
   have h0:q*zn+p < tb[y].length:=by
    rw [r1]
    have:zn=1∨zn=2∨zn=3:=by omega
    rcases this with h | h | h <;> subst h <;> subst hzn <;> simp <;> omega
   have hb:q*zn≤6:=by
    have h4:q≤2:=by omega
    have h5:zn≤3:=by omega
    exact Nat.mul_le_mul h4 h5
   have h0l:tb[y][q*zn+p]?=some tb[y][q*zn+p]:=List.getElem?_eq_getElem h0
   have he1:t.drop (e+1)=x.flat++(w.flat++r):=qdz (q:=[(y:Int)]) (by simpa [Tm.flat] using he)
   have he2:t.drop (e+1+x.flat.length)=w.flat++r:=qdz he1
   have c1:=ihx _ (e+1) he1 ok.2.2.1 hs.2.1 hl.1
   have c2:=ihw _ _ he2 ok.2.2.2 hs.2.2 hl.2
   refine q0v rfl 4 ((q0m.ev _ _ _ _ _ _ _).trans ?_)
   simp only [evz,Nat.reduceLT,h1,h2,q1j,Tm.head,hn,hy,hyl,q2a,r4,ok.2.1]
   rw [q0o (by omega)]
   refine (q0m.next0 4 3 _).trans ((q0m.round0 _ _ _ _ _ _ _ _ _ _ _ _).trans ?_)
   simp only [evz,Nat.reduceLT,c1.eq,hq,show ((1:Nat):Int)=1 from rfl,show ((2:Nat):Int)=2 from rfl,Int.reduceLT,Int.reduceAdd,q1z (x:=0*z) (by omega),q1z (x:=0*z+(q:Int)) (by omega),q1z (x:=(1:Int)) (by omega)]
   refine (q0m.next0 4 2 _).trans ((q0m.round0 _ _ _ _ _ _ _ _ _ _ _ _).trans ?_)
   have hm:((q:Int)*z)=((q*zn:Nat):Int):=by rw [hzn]; simp
   simp only [evz,Nat.reduceLT,c2.eq,hp,show ((1:Nat):Int)=1 from rfl,show ((2:Nat):Int)=2 from rfl,Int.reduceLT,Int.reduceAdd,Int.zero_mul,Int.zero_add,hm,q1z (x:=((q*zn:Nat):Int)) (by omega),q1z (x:=((q*zn:Nat):Int)+(p:Int)) (by omega),q1z (x:=(2:Int)) (by omega)]
   refine (q0m.next0 4 1 _).trans ((q0m.round0 _ _ _ _ _ _ _ _ _ _ _ _).trans ?_)
   have hc:((q*zn:Nat):Int)+(p:Int)=((q*zn+p:Nat):Int):=by omega
   simp only [evz,Nat.reduceLT,show ((1:Nat):Int)=1 from rfl,show ((2:Nat):Int)=2 from rfl,Int.reduceLT,Int.reduceAdd,hc,hy',hyt,q5m,h0,h0l,q1j]
   simp only [Tm.eval,hq,hp,hm,hc,Int.toNat_natCast,q7g hy',q7g h0,Tm.flat,List.length_cons,List.length_append]
   rw [show e+1+x.flat.length+w.flat.length=e+(x.flat.length+w.flat.length+1) by omega]
theorem q1a {t:List Int} (hn:∀ n∈t,q5n l n=true) (ht:t.length≤4294967296):∀ (x:Tm) (r:List Int) (e:Nat),t.drop e=x.flat++r→x.ok (ar l)→x.syms l.length→x.low 6 →
 Call F.q1a [.rref [slc l] 0,.rref [.int .i64 z,slc tb] 0,slc vs,slc t,.int .i64 e] (.int .i64 (x.eval z tb vs)):=by
 have ends:∀ (x:Tm) (r:List Int) (e:Nat),t.drop e=x.flat++r→x.ok (ar l)→Call F.q1v [.rref [slc l] 0,slc t,.int .i64 e] (.int .i64 (e+x.flat.length:Nat)):=fun x r e he ok=>by
  have h3:=(q9s he).2.2
  have:=q1v al.sig t hn ht e (by omega)
  rw [he,Tm.skip_flat (fun n hn=>q9k l hn) x r 0 ok,q3l] at this
  have hl:(t.drop e).length=x.flat.length+r.length:=by rw [he,List.length_append]
  rw [List.length_drop] at hl
  rwa [show q87 (-1) t (some r)=((e+x.flat.length:Nat):Int) by simp only [q87]; omega] at this
 intro x
 induction x with
 | v n =>
   intro r e he ok hs hl
   obtain ⟨h1,h2,h3⟩:=q9s he
   have ok:n < 0:=ok
   have hl : -6≤n:=hl
   refine q0v rfl 4 ((q1a.ev _ _ _ _ _ _ _).trans ?_)
   obtain ⟨y,hy⟩:∃ y:Nat,-1 - n=y:=⟨(-1 - n).toNat,by omega⟩
   have hyv:y < vs.length:=by omega
   have hyl:vs[y]?=some vs[y]:=List.getElem?_eq_getElem hyv
   have hw:IntKind.wrap .i64 (-1 - n)=y:=by rw [q1z (by omega),hy]
   simp only [evz,Nat.reduceLT,h1,h2,q1j,Tm.head,ok,hw,hyv,hyl]
   simp only [Tm.eval,hy,Int.toNat_natCast,q7g hyv]
 | k n =>
   intro r e he ok hs hl
   obtain ⟨h1,h2,h3⟩:=q9s he
   obtain ⟨y,rfl,hy,hy',r1,r2,r3,r4⟩:=qb1 al ok.1 hs
   have hyl:l[y]?=some l[y]:=List.getElem?_eq_getElem hy
   have hyt:tb[y]?=some tb[y]:=List.getElem?_eq_getElem hy'
   rw [ok.2,Nat.pow_zero] at r1
   have hn:¬ ((y:Int) < 0):=by omega
   have h0:(0:Nat) < tb[y].length:=by omega
   have h0l:tb[y][0]?=some tb[y][0]:=List.getElem?_eq_getElem h0
   refine q0v rfl 4 ((q1a.ev _ _ _ _ _ _ _).trans ?_)
   simp only [evz,Nat.reduceLT,h1,h2,q1j,Tm.head,hn]
   refine (q1a.next0 4 3 _).trans ((q1a.round0 _ _ _ _ _ _ _ _ _ _ _).trans ?_)
   have hz0:inB 0 tb[y].length=true:=by rw [show (0:Int)=((0:Nat):Int) from rfl,q5f]; simpa using h0
   simp only [evz,Nat.reduceLT,h1,h2,q1j,Tm.head,hy,hyl,q2a,r4,ok.2,hy',hyt,q5m,hz0,Int.toNat_zero,h0l,Int.lt_irrefl,Int.ofNat_zero,Int.natCast_zero]
   simp only [Tm.eval,Int.toNat_natCast,q7g hy',q7g h0]
 | u n x ihx =>
   intro r e he ok hs hl
   obtain ⟨h1,h2,h3⟩:=q9s he
   obtain ⟨y,rfl,hy,hy',r1,r2,r3,r4⟩:=qb1 al ok.1 hs.1
   have hyl:l[y]?=some l[y]:=List.getElem?_eq_getElem hy
   have hyt:tb[y]?=some tb[y]:=List.getElem?_eq_getElem hy'
   rw [ok.2.1,Nat.pow_one] at r1
   have hn:¬ ((y:Int) < 0):=by omega
   obtain ⟨i1,i2⟩:=Tm.eval_range al hv hr ok.2.2 hs.2 hl
   obtain ⟨q,hq⟩:∃ q:Nat,x.eval z tb vs=q:=⟨(x.eval z tb vs).toNat,by omega⟩
   have hz:=al.size
   have h0:q < tb[y].length:=by omega
   have h0l:tb[y][q]?=some tb[y][q]:=List.getElem?_eq_getElem h0
   have he1:t.drop (e+1)=x.flat++r:=qdz (q:=[(y:Int)]) (by simpa [Tm.flat] using he)
   have c1:=ihx r (e+1) he1 ok.2.2 hs.2 hl
   have d1:=ends x r (e+1) he1 ok.2.2
   refine q0v rfl 4 ((q1a.ev _ _ _ _ _ _ _).trans ?_)
   simp only [evz,Nat.reduceLT,h1,h2,q1j,Tm.head,hn]
   rw [q0o (by omega)]
   refine (q1a.next0 4 3 _).trans ((q1a.round0 _ _ _ _ _ _ _ _ _ _ _).trans ?_)
   simp only [evz,Nat.reduceLT,h1,h2,q1j,Tm.head,hy,hyl,q2a,r4,ok.2.1,c1.eq,d1.eq,hq,show ((1:Nat):Int)=1 from rfl,show ((2:Nat):Int)=2 from rfl,Int.reduceLT,Int.reduceAdd,q1z (x:=0*z) (by omega),q1z (x:=0*z+(q:Int)) (by omega),q1z (x:=(1:Int)) (by omega)]
   refine (q1a.next0 4 2 _).trans ((q1a.round0 _ _ _ _ _ _ _ _ _ _ _).trans ?_)
   simp only [evz,Nat.reduceLT,h1,h2,q1j,Tm.head,hy,hyl,q2a,r4,ok.2.1,show ((1:Nat):Int)=1 from rfl,show ((2:Nat):Int)=2 from rfl,Int.reduceLT,Int.reduceAdd,Int.zero_mul,Int.zero_add,hy',hyt,q5m,h0,h0l]
   simp only [Tm.eval,hq,Int.toNat_natCast,q7g hy',q7g h0]
 | b n x w ihx ihw =>
   intro r e he ok hs hl
   obtain ⟨h1,h2,h3⟩:=q9s he
   obtain ⟨y,rfl,hy,hy',r1,r2,r3,r4⟩:=qb1 al ok.1 hs.1
   have hyl:l[y]?=some l[y]:=List.getElem?_eq_getElem hy
   have hyt:tb[y]?=some tb[y]:=List.getElem?_eq_getElem hy'
   rw [ok.2.1] at r1
   have hn:¬ ((y:Int) < 0):=by omega
   obtain ⟨i1,i2⟩:=Tm.eval_range al hv hr ok.2.2.1 hs.2.1 hl.1
   obtain ⟨j1,j2⟩:=Tm.eval_range al hv hr ok.2.2.2 hs.2.2 hl.2
   obtain ⟨q,hq⟩:∃ q:Nat,x.eval z tb vs=q:=⟨(x.eval z tb vs).toNat,by omega⟩
   obtain ⟨p,hp⟩:∃ p:Nat,w.eval z tb vs=p:=⟨(w.eval z tb vs).toNat,by omega⟩
   obtain ⟨zn,hzn⟩:∃ zn:Nat,z=zn:=⟨z.toNat,by have:=al.size; omega⟩
   have hz:=al.size
   have h0:q*zn+p < tb[y].length:=by
    rw [r1]
    have:zn=1∨zn=2∨zn=3:=by omega
    rcases this with h | h | h <;> subst h <;> subst hzn <;> simp <;> omega
   have hb:q*zn≤6:=by
    have h4:q≤2:=by omega
    have h5:zn≤3:=by omega
    exact Nat.mul_le_mul h4 h5
   have h0l:tb[y][q*zn+p]?=some tb[y][q*zn+p]:=List.getElem?_eq_getElem h0
   have he1:t.drop (e+1)=x.flat++(w.flat++r):=qdz (q:=[(y:Int)]) (by simpa [Tm.flat] using he)
   have he2:t.drop (e+1+x.flat.length)=w.flat++r:=qdz he1
   have c1:=ihx _ (e+1) he1 ok.2.2.1 hs.2.1 hl.1
   have d1:=ends x _ (e+1) he1 ok.2.2.1
   have c2:=ihw _ _ he2 ok.2.2.2 hs.2.2 hl.2
   have d2:=ends w _ _ he2 ok.2.2.2
   refine q0v rfl 4 ((q1a.ev _ _ _ _ _ _ _).trans ?_)
   simp only [evz,Nat.reduceLT,h1,h2,q1j,Tm.head,hn]
   rw [q0o (by omega)]
   refine (q1a.next0 4 3 _).trans ((q1a.round0 _ _ _ _ _ _ _ _ _ _ _).trans ?_)
   simp only [evz,Nat.reduceLT,h1,h2,q1j,Tm.head,hy,hyl,q2a,r4,ok.2.1,c1.eq,d1.eq,hq,show ((1:Nat):Int)=1 from rfl,show ((2:Nat):Int)=2 from rfl,Int.reduceLT,Int.reduceAdd,q1z (x:=0*z) (by omega),q1z (x:=0*z+(q:Int)) (by omega),q1z (x:=(1:Int)) (by omega)]
   refine (q1a.next0 4 2 _).trans ((q1a.round0 _ _ _ _ _ _ _ _ _ _ _).trans ?_)
   have hm:((q:Int)*z)=((q*zn:Nat):Int):=by rw [hzn]; simp
   simp only [evz,Nat.reduceLT,h1,h2,q1j,Tm.head,hy,hyl,q2a,r4,ok.2.1,c2.eq,d2.eq,hp,show ((1:Nat):Int)=1 from rfl,show ((2:Nat):Int)=2 from rfl,Int.reduceLT,Int.reduceAdd,Int.zero_mul,Int.zero_add,hm,q1z (x:=((q*zn:Nat):Int)) (by omega),q1z (x:=((q*zn:Nat):Int)+(p:Int)) (by omega),q1z (x:=(2:Int)) (by omega)]
   refine (q1a.next0 4 1 _).trans ((q1a.round0 _ _ _ _ _ _ _ _ _ _ _).trans ?_)
   have hc:((q*zn:Nat):Int)+(p:Int)=((q*zn+p:Nat):Int):=by omega
   simp only [evz,Nat.reduceLT,h1,h2,q1j,Tm.head,hy,hyl,q2a,r4,ok.2.1,show ((1:Nat):Int)=1 from rfl,show ((2:Nat):Int)=2 from rfl,Int.reduceLT,Int.reduceAdd,hc,hy',hyt,q5m,h0,h0l]
   simp only [Tm.eval,hq,hp,hm,hc,Int.toNat_natCast,q7g hy',q7g h0]
end
theorem q20 (l:List Int) (hl:l.length≤4294967296):Call F.q20 [slc l] (.int .i64 ((l.find? fun n=>decide (n≠0)).getD 0)):=by
 refine q0v rfl (l.length+1) ((q20.ev _ _).trans ?_)
 have:=q8m (l:=l) (g:=fun n=>if n≠0 then some (some (.int .i64 n,[])) else none) (z:=some (.int .i64 0,[])) (S:=fun m k=>q20.at0 (l.length+1) m (q20.st0 0 (cells l) l.length (k:Nat)))
  (fun m k h=>by
   have hlk:l[k]?=some l[k]:=List.getElem?_eq_getElem h
   simp only [q20.next0,q20.round0,evz,Nat.reduceLT,h,hlk,q1j]
   rw [q0o (by omega)]
   by_cases e:l[k]=0 <;> simp [e])
  (fun m=>by simp only [q20.next0,q20.round0,evz,Nat.reduceLT,Nat.lt_irrefl]) (Nat.lt_succ_self _)
 simp only [q4r,q3c]
 refine this.trans ?_
 clear this
 induction l with
 | nil=>rfl
 | cons x l ih =>
   rw [List.findSome?_cons,List.find?_cons]
   by_cases e:x=0
   · simpa [e] using ih (by simp at hl; omega)
   · simp [e]
theorem qbr (a b:Int):Call F.q6n [.sl 1 [.int .i64 a,.int .i64 b]] (.int .i64 (if a=0 then b else a)):=by
 refine q0v rfl 0 ((q6n.ev _ _).trans ?_)
 have:=q20 [a,b] (by simp)
 simp only [evz,Nat.reduceLT,show LIM F.q20 [.sl 1 [.int .i64 a,.int .i64 b]]=_ from this]
 by_cases h:a=0
 · by_cases h':b=0 <;> simp [h,h']
 · simp [h]
theorem q2l (t:List Int) (hl:t.length≤4294967296):Call F.q2l [slc t] (.bool (!t.any fun n=>decide (n < -6))):=by
 refine q0v rfl (t.length+1) ((q2l.ev _ _).trans ?_)
 refine (q83 (l:=t) (p:=fun n=>decide (n < -6)) (r:=some (.bool false,[])) (z:=some (.bool true,[])) (S:=fun m k=>q2l.at0 (t.length+1) m (q2l.st0 (cells t) (k:Nat))) (fun m k h => ?_) (fun m => ?_) (Nat.lt_succ_self _)).trans ?_
 · have hlk:t[k]?=some t[k]:=List.getElem?_eq_getElem h
   simp only [q2l.next0,q2l.round0,evz,Nat.reduceLT,h,hlk,q1j]
   rw [q0o (by omega)]
   simp only [decide_eq_true_eq]
 · simp only [q2l.next0,q2l.round0,evz,Nat.reduceLT,Nat.lt_irrefl]
 · cases t.any fun n=>decide (n < -6) <;> rfl
open Classical in
noncomputable def q3v (l:List Symbol) (t:List Int):Tm:=if h:∃ x:Tm,x.ok (ar l)∧t=x.flat then h.choose else .k 0
theorem q43 {l:List Symbol} {t:List Int} (ok:SigOk ⟨l⟩) (h:TermOk l t):(q3v l t).ok (ar l)∧t=(q3v l t).flat:=by
 have:=h.tree ok
 unfold q3v
 rw [dif_pos this]
 exact this.choose_spec
theorem qkl {s:Signature} {a:Algebra} (h:q6f s a=0):q2z s=0:=by
 unfold q6f at h
 by_cases h1:q2z s=0
 · exact h1
 · rw [if_pos h1] at h; exact absurd h h1
section
variable (l:List Symbol) (z:Int) (tb:List (List Int)) (vs t:List Int) (hs:l.length≤4294967296) (ht:sm 4294967296 tb) (hl:t.length≤4294967296)
include hs ht hl
end
end Ev.Ty
end
