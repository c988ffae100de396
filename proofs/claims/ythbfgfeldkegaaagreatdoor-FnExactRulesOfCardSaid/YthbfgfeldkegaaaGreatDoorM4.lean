/- Steps on the way to RowRulesOf: X1, XALL, TyMarks, TyFields, TyPlumb, TyNum, TySig, TyAlg, TyTerm, TyTree, TyEval, TyEvalF, TyEvalT, TyVars, TyEqs, TySame, TyBind, TyWalk. -/
import Derived.Test.YthbfgfeldkegaaaGreatDoorM3
import Derived.Lib.SlTrimSet
set_option linter.unusedSectionVars false
set_option linter.unusedVariables false
set_option linter.unusedSimpArgs false
section
open Go
set_option linter.unusedVariables false
set_option maxRecDepth 100000
namespace Ev
def q07.st2 (x0 x1:Int) (x2 x3 x4 x5 x6 x7:List T) (x8:Int):St:=⟨[(2,(.one (.ptr 128 0))),(3,(.one (.ptr 192 0))),(7,oi x0),(9,oi x1)],[(128,(.box [(.t (.sl 2 x2))])),(192,(.box [(.t (.sl 1 x3)),(.t (.sl 2 x4)),(.t (.sl 7 x5)),(.t (.sl 1 x6)),(.t (.sl 1 x7)),(.t (.int .i64 x8))]))]⟩
def q07.st0 (x0 x1:Int) (x2 x3 x4 x5 x6 x7:List T) (x8:Int):St:=⟨[(2,(.one (.ptr 128 0))),(3,(.one (.ptr 192 0))),(7,oi x0),(8,oi x1)],[(128,(.box [(.t (.sl 2 x2))])),(192,(.box [(.t (.sl 1 x3)),(.t (.sl 2 x4)),(.t (.sl 7 x5)),(.t (.sl 1 x6)),(.t (.sl 1 x7)),(.t (.int .i64 x8))]))]⟩
noncomputable def q07.K0 (n:Nat):Ex→St→R:=kx F.q07 n [.block 0,.seq 0 (cx F.q07 [1,1,1,1,1,1])] (endOf prog A F.q07)
noncomputable def q07.at0 (n:Nat) (m:Nat) (s:St):R:=lx F.q07 n 0 [1,1,1,1,1,0,1,0,0] (q07.K0 n) m s
noncomputable def q07.rd0 (n:Nat) (L0:St→R) (s:St):R:=rx F.q07 n 0 [1,1,1,1,1,0,1,0,0] (q07.K0 n) L0 s
theorem q07.next0 (n:Nat) (m:Nat) (s:St):q07.at0 n (m+1) s=q07.rd0 n (q07.at0 n m) s:=nx _ _ _ _ _ _ _
noncomputable def q07.K2 (n:Nat):Ex→St→R:=kx F.q07 n [.block 2,.seq 0 (cx F.q07 [1,1,1,1,1,1,1])] (endOf prog A F.q07)
noncomputable def q07.at2 (n:Nat) (m:Nat) (s:St):R:=lx F.q07 n 2 [1,1,1,1,1,1,0,1,0,0] (q07.K2 n) m s
noncomputable def q07.rd2 (n:Nat) (L2:St→R) (s:St):R:=rx F.q07 n 2 [1,1,1,1,1,1,0,1,0,0] (q07.K2 n) L2 s
theorem q07.next2 (n:Nat) (m:Nat) (s:St):q07.at2 n (m+1) s=q07.rd2 n (q07.at2 n m) s:=nx _ _ _ _ _ _ _
theorem q07.round0 (n:Nat) (L0:St→R) (x0 x1:Int) (x2 x3 x4 x5 x6 x7:List T) (x8:Int):q07.rd0 n L0 (q07.st0 x0 x1 x2 x3 x4 x5 x6 x7 x8)=(bif (decide (x1 < ((((x6).length / 1):Nat):Int))) then (bif inB x1 ((x6).length / 1) then ((x6[((Int.toNat x1)*1)]?).bind fun e5=>((oInt .i64 e5).bind fun n6=>((LIM F.q1j [(.int .i64 n6),(.int .i64 (0:Int)),(.int .i64 x0)]).bind fun r7=>((oNil r7.2).bind fun _=>((oBool r7.1).bind fun b8=>(bif (!b8) then some ((.int .i64 (3:Int)),[]) else (L0 (q07.st0 x0 (IntKind.wrap .i64 (x1+(1:Int))) x2 x3 x4 x5 x6 x7 x8)))))))) else none) else (q07.at2 n n (q07.st2 x0 (0:Int) x2 x3 x4 x5 x6 x7 x8))):=by kernel_rfl
theorem q07.round2 (n:Nat) (L2:St→R) (x0 x1:Int) (x2 x3 x4 x5 x6 x7:List T) (x8:Int):q07.rd2 n L2 (q07.st2 x0 x1 x2 x3 x4 x5 x6 x7 x8)=(bif (decide (x1 < ((((x7).length / 1):Nat):Int))) then (bif inB x1 ((x7).length / 1) then ((x7[((Int.toNat x1)*1)]?).bind fun e9=>((oInt .i64 e9).bind fun n10=>((LIM F.q1j [(.int .i64 n10),(.int .i64 (0:Int)),(.int .i64 x0)]).bind fun r11=>((oNil r11.2).bind fun _=>((oBool r11.1).bind fun b12=>(bif (!b12) then some ((.int .i64 (3:Int)),[]) else (L2 (q07.st2 x0 (IntKind.wrap .i64 (x1+(1:Int))) x2 x3 x4 x5 x6 x7 x8)))))))) else none) else ((LIM F.q1j [(.int .i64 x8),(.int .i64 (0:Int)),(.int .i64 (150:Int))]).bind fun r13=>((oNil r13.2).bind fun _=>((oBool r13.1).bind fun b14=>(bif (!b14) then some ((.int .i64 (3:Int)),[]) else ((LIM F.q1v [(.rref [(.sl 1 x3),(.sl 2 x4),(.sl 7 x5),(.sl 1 x6),(.sl 1 x7),(.int .i64 x8)] 0)]).bind fun r15=>((oNil r15.2).bind fun _=>((oSl 2 r15.1).bind fun c16=>((LIM F.q2m [(.rref [(.sl 2 x2)] 0),(.sl 1 x3),(.sl 2 c16)]).bind fun r17=>((oNil r17.2).bind fun _=>((oBool r17.1).bind fun b18=>(bif (!b18) then some ((.int .i64 (10:Int)),[]) else some ((.int .i64 (0:Int)),[]))))))))))))):=by kernel_rfl
theorem q07.ev (n:Nat) (a0_0 a1_0 a1_1 a1_2 a1_3 a1_4:List T) (a1_5:Int):callK prog A H LIM n F.q07 [(.agg [(.sl 2 a0_0)]),(.agg [(.sl 1 a1_0),(.sl 2 a1_1),(.sl 7 a1_2),(.sl 1 a1_3),(.sl 1 a1_4),(.int .i64 a1_5)])]=((LIM F.q6h [(.agg [(.sl 2 a0_0)]),(.sl 1 a1_0)]).bind fun r1=>((oNil r1.2).bind fun _=>((oInt .i64 r1.1).bind fun n2=>(bif ((n2 != (0:Int))) then some ((.int .i64 n2),[]) else ((LIM F.q4o [(.agg [(.sl 2 a0_0)]),(.sl 2 a1_1),(.sl 7 a1_2)]).bind fun r3=>((oNil r3.2).bind fun _=>((oInt .i64 r3.1).bind fun n4=>(bif ((n4 != (0:Int))) then some ((.int .i64 n4),[]) else (bif (decide (((((a1_3).length / 1):Nat):Int) > (12:Int))) then some ((.int .i64 (2:Int)),[]) else (bif (decide (((((a1_4).length / 1):Nat):Int) > (100:Int))) then some ((.int .i64 (2:Int)),[]) else (q07.at0 n n (q07.st0 (IntKind.wrap .i64 (((((a1_2).length / 7):Nat):Int) - (1:Int))) (0:Int) a0_0 a1_0 a1_1 a1_2 a1_3 a1_4 a1_5)))))))))))):=by kernel_rfl
theorem q50.ev (n:Nat) (a0_0 a1:List T):callK prog A H LIM n F.q50 [(.agg [(.sl 2 a0_0)]),(.sl 2 a1)]=((LIM F.q02 [(.agg [(.sl 2 a0_0)])]).bind fun r1=>((oNil r1.2).bind fun _=>((oInt .i64 r1.1).bind fun n2=>(bif ((n2 != (0:Int))) then some ((.int .i64 n2),[]) else ((LIM F.q2d [(.rref [(.sl 2 a0_0)] 0),(.sl 2 a1)]).bind fun r3=>((oNil r3.2).bind fun _=>((oInt .i64 r3.1).bind fun n4=>some ((.int .i64 n4),[])))))))):=by kernel_rfl
theorem q6h.ev (n:Nat) (a0_0 a1:List T):callK prog A H LIM n F.q6h [(.agg [(.sl 2 a0_0)]),(.sl 1 a1)]=((LIM F.q02 [(.agg [(.sl 2 a0_0)])]).bind fun r1=>((oNil r1.2).bind fun _=>((oInt .i64 r1.1).bind fun n2=>(bif ((n2 != (0:Int))) then some ((.int .i64 n2),[]) else ((LIM F.q0k [(.rref [(.sl 2 a0_0)] 0),(.sl 1 a1)]).bind fun r3=>((oNil r3.2).bind fun _=>((oInt .i64 r3.1).bind fun n4=>some ((.int .i64 n4),[])))))))):=by kernel_rfl
theorem q7e.ev (n:Nat) (a0_0 a1_0 a1_1 a2_0 a2_1:List T) (a3:Int):callK prog A H LIM n F.q7e [(.agg [(.sl 2 a0_0)]),(.agg [(.sl 1 a1_0),(.sl 1 a1_1)]),(.agg [(.sl 1 a2_0),(.sl 1 a2_1)]),(.int .i64 a3)]=((LIM F.qa7 [(.rref [(.sl 2 a0_0)] 0),(.rref [(.sl 1 a1_0),(.sl 1 a1_1)] 0),(.rref [(.sl 1 a2_0),(.sl 1 a2_1)] 0)]).bind fun r1=>((oNil r1.2).bind fun _=>((oInt .i64 r1.1).bind fun n2=>(bif ((n2 != (0:Int))) then some ((.agg [(.int .i64 n2),(.sl 1 []),(.sl 1 [])]),[]) else ((LIM F.q6v [(.sl 1 a1_0),(.int .i64 a3)]).bind fun r3=>((oNil r3.2).bind fun _=>((oBool r3.1).bind fun b4=>(bif (!b4) then some ((.agg [(.int .i64 (3:Int)),(.sl 1 []),(.sl 1 [])]),[]) else (bif inB a3 ((a1_0).length / 1) then ((a1_0[((Int.toNat a3)*1)]?).bind fun e5=>((oInt .i64 e5).bind fun n6=>(bif (decide (n6 < (0:Int))) then some ((.agg [(.int .i64 (1:Int)),(.sl 1 []),(.sl 1 [])]),[]) else ((LIM F.q8g [(.rref [(.sl 2 a0_0)] 0),(.rref [(.sl 1 a1_0),(.sl 1 a1_1)] 0),(.rref [(.sl 1 a2_0),(.sl 1 a2_1)] 0),(.int .i64 a3)]).bind fun r7=>((oNil r7.2).bind fun _=>((oTup r7.1).bind fun c8=>((oCons c8).bind fun p9=>((oAgg p9.1).bind fun c10=>((oCons c10).bind fun p11=>((oSl 1 p11.1).bind fun c12=>((oCons p11.2).bind fun p13=>((oSl 1 p13.1).bind fun c14=>((oNil p13.2).bind fun _=>((oCons p9.2).bind fun p15=>((oInt .i64 p15.1).bind fun n16=>((oNil p15.2).bind fun _=>some ((.agg [(.int .i64 n16),(.sl 1 c12),(.sl 1 c14)]),[]))))))))))))))))) else none))))))))):=by kernel_rfl
theorem q4l.ev (n:Nat) (a0_0 a1:List T) (a2 a3:Int) (a4:List T):callK prog A H LIM n F.q4l [(.agg [(.sl 2 a0_0)]),(.sl 2 a1),(.int .i64 a2),(.int .i64 a3),(.sl 1 a4)]=((LIM F.q8f [(.rref [(.sl 2 a0_0)] 0),(.sl 2 a1),(.sl 1 a4)]).bind fun r1=>((oNil r1.2).bind fun _=>((oInt .i64 r1.1).bind fun n2=>(bif ((n2 != (0:Int))) then some ((.agg [(.int .i64 n2),(.sl 1 [])]),[]) else ((LIM F.q1j [(.int .i64 a2),(.int .i64 (0:Int)),(.int .i64 (IntKind.wrap .i64 (((((a1).length / 2):Nat):Int) - (1:Int))))]).bind fun r3=>((oNil r3.2).bind fun _=>((oBool r3.1).bind fun b4=>(bif (!b4) then some ((.agg [(.int .i64 (3:Int)),(.sl 1 [])]),[]) else ((LIM F.q6v [(.sl 1 a4),(.int .i64 a3)]).bind fun r5=>((oNil r5.2).bind fun _=>((oBool r5.1).bind fun b6=>(bif (!b6) then some ((.agg [(.int .i64 (3:Int)),(.sl 1 [])]),[]) else (bif inB a2 ((a1).length / 2) then ((LIM F.q6y [(.rref [(.sl 2 a0_0)] 0),(.rref ((a1.drop ((Int.toNat a2)*2)).take 2) 0),(.int .i64 a3),(.sl 1 a4)]).bind fun r7=>((oNil r7.2).bind fun _=>((oTup r7.1).bind fun c8=>((oCons c8).bind fun p9=>((oSl 1 p9.1).bind fun c10=>((oCons p9.2).bind fun p11=>((oInt .i64 p11.1).bind fun n12=>((oNil p11.2).bind fun _=>some ((.agg [(.int .i64 n12),(.sl 1 c10)]),[]))))))))) else none))))))))))))):=by kernel_rfl
theorem q4x.ev (n:Nat) (a0_0 a1:List T):callK prog A H LIM n F.q4x [(.agg [(.sl 2 a0_0)]),(.sl 2 a1)]=((LIM F.q02 [(.agg [(.sl 2 a0_0)])]).bind fun r1=>((oNil r1.2).bind fun _=>((oInt .i64 r1.1).bind fun n2=>(bif ((n2 != (0:Int))) then some ((.int .i64 n2),[]) else ((LIM F.q0u [(.rref [(.sl 2 a0_0)] 0),(.sl 2 a1)]).bind fun r3=>((oNil r3.2).bind fun _=>((oInt .i64 r3.1).bind fun n4=>some ((.int .i64 n4),[])))))))):=by kernel_rfl
theorem q6t.ev (n:Nat) (a0_0 a1_0 a1_1 a1_2 a1_3 a1_4:List T) (a1_5:Int):callK prog A H LIM n F.q6t [(.agg [(.sl 2 a0_0)]),(.agg [(.sl 1 a1_0),(.sl 2 a1_1),(.sl 7 a1_2),(.sl 1 a1_3),(.sl 1 a1_4),(.int .i64 a1_5)])]=((LIM F.q07 [(.agg [(.sl 2 a0_0)]),(.agg [(.sl 1 a1_0),(.sl 2 a1_1),(.sl 7 a1_2),(.sl 1 a1_3),(.sl 1 a1_4),(.int .i64 a1_5)])]).bind fun r1=>((oNil r1.2).bind fun _=>((oInt .i64 r1.1).bind fun n2=>(bif ((n2 != (0:Int))) then some ((.agg [(.int .i64 n2),(.sl 2 [])]),[]) else ((LIM F.q1v [(.rref [(.sl 1 a1_0),(.sl 2 a1_1),(.sl 7 a1_2),(.sl 1 a1_3),(.sl 1 a1_4),(.int .i64 a1_5)] 0)]).bind fun r3=>((oNil r3.2).bind fun _=>((oSl 2 r3.1).bind fun c4=>((LIM F.q0p [(.sl 2 c4)]).bind fun r5=>((oNil r5.2).bind fun _=>((oSl 2 r5.1).bind fun c6=>some ((.agg [(.int .i64 (0:Int)),(.sl 2 c6)]),[]))))))))))):=by kernel_rfl
def q02.st4 (x0 x1 x2:Int) (x3:List T):St:=⟨[(1,(.one (.ptr 64 0))),(3,oi x0),(5,oi x1),(6,oi x2)],[(64,(.box [(.t (.sl 2 x3))]))]⟩
def q02.st6 (x0 x1:Int) (x2:List T):St:=⟨[(1,(.one (.ptr 64 0))),(3,oi x0),(7,oi x1)],[(64,(.box [(.t (.sl 2 x2))]))]⟩
def q02.st2 (x0 x1:Int) (x2:List T):St:=⟨[(1,(.one (.ptr 64 0))),(3,oi x0),(5,oi x1)],[(64,(.box [(.t (.sl 2 x2))]))]⟩
def q02.st0 (x0 x1:Int) (x2:List T):St:=⟨[(1,(.one (.ptr 64 0))),(3,oi x0),(4,oi x1)],[(64,(.box [(.t (.sl 2 x2))]))]⟩
noncomputable def q02.K0 (n:Nat):Ex→St→R:=kx F.q02 n [.block 0,.seq 0 (cx F.q02 [1,1,1,1])] (endOf prog A F.q02)
noncomputable def q02.at0 (n:Nat) (m:Nat) (s:St):R:=lx F.q02 n 0 [1,1,1,0,1,0,0] (q02.K0 n) m s
noncomputable def q02.rd0 (n:Nat) (L0:St→R) (s:St):R:=rx F.q02 n 0 [1,1,1,0,1,0,0] (q02.K0 n) L0 s
theorem q02.next0 (n:Nat) (m:Nat) (s:St):q02.at0 n (m+1) s=q02.rd0 n (q02.at0 n m) s:=nx _ _ _ _ _ _ _
noncomputable def q02.K2 (n:Nat):Ex→St→R:=kx F.q02 n [.block 2,.seq 0 (cx F.q02 [1,1,1,1,1])] (endOf prog A F.q02)
noncomputable def q02.at2 (n:Nat) (m:Nat) (s:St):R:=lx F.q02 n 2 [1,1,1,1,0,1,0,0] (q02.K2 n) m s
noncomputable def q02.rd2 (n:Nat) (L2:St→R) (s:St):R:=rx F.q02 n 2 [1,1,1,1,0,1,0,0] (q02.K2 n) L2 s
theorem q02.next2 (n:Nat) (m:Nat) (s:St):q02.at2 n (m+1) s=q02.rd2 n (q02.at2 n m) s:=nx _ _ _ _ _ _ _
noncomputable def q02.K6 (n:Nat):Ex→St→R:=kx F.q02 n [.block 6,.seq 0 (cx F.q02 [1,1,1,1,1,1])] (endOf prog A F.q02)
noncomputable def q02.at6 (n:Nat) (m:Nat) (s:St):R:=lx F.q02 n 6 [1,1,1,1,1,0,1,0,0] (q02.K6 n) m s
noncomputable def q02.rd6 (n:Nat) (L6:St→R) (s:St):R:=rx F.q02 n 6 [1,1,1,1,1,0,1,0,0] (q02.K6 n) L6 s
theorem q02.next6 (n:Nat) (m:Nat) (s:St):q02.at6 n (m+1) s=q02.rd6 n (q02.at6 n m) s:=nx _ _ _ _ _ _ _
noncomputable def q02.K4 (n:Nat) (L2:St→R):Ex→St→R:=kx F.q02 n [.block 4,.block 3,.seq 2 (cx F.q02 [1,1,1,1,0,1,0,0,1,1])] (bx F.q02 2 (q02.K2 n) L2)
noncomputable def q02.at4 (n:Nat) (L2:St→R) (m:Nat) (s:St):R:=lx F.q02 n 4 [1,1,1,1,0,1,0,0,1,0,0,1,0,0] (q02.K4 n L2) m s
noncomputable def q02.rd4 (n:Nat) (L2:St→R) (L4:St→R) (s:St):R:=rx F.q02 n 4 [1,1,1,1,0,1,0,0,1,0,0,1,0,0] (q02.K4 n L2) L4 s
theorem q02.next4 (n:Nat) (L2:St→R) (m:Nat) (s:St):q02.at4 n L2 (m+1) s=q02.rd4 n L2 (q02.at4 n L2 m) s:=nx _ _ _ _ _ _ _
theorem q02.round0 (n:Nat) (L0:St→R) (x0 x1:Int) (x2:List T):q02.rd0 n L0 (q02.st0 x0 x1 x2)=(bif (decide (x1 < x0)) then (bif inB x1 ((x2).length / 2) then ((x2[((Int.toNat x1)*2)]?).bind fun e1=>((oStr e1).bind fun s2=>((LIM F.q2x [(.str s2)]).bind fun r3=>((oNil r3.2).bind fun _=>((oBool r3.1).bind fun b4=>(bif (!b4) then some ((.int .i64 (5:Int)),[]) else (bif inB x1 ((x2).length / 2) then ((x2[(((Int.toNat x1)*2)+1)]?).bind fun e5=>((oInt .i64 e5).bind fun n6=>((LIM F.q1j [(.int .i64 n6),(.int .i64 (0:Int)),(.int .i64 (2:Int))]).bind fun r7=>((oNil r7.2).bind fun _=>((oBool r7.1).bind fun b8=>(bif (!b8) then some ((.int .i64 (3:Int)),[]) else (L0 (q02.st0 x0 (IntKind.wrap .i64 (x1+(1:Int))) x2)))))))) else none))))))) else none) else (q02.at2 n n (q02.st2 x0 (0:Int) x2))):=by kernel_rfl
theorem q02.round2 (n:Nat) (L2:St→R) (x0 x1:Int) (x2:List T):q02.rd2 n L2 (q02.st2 x0 x1 x2)=(bif (decide (x1 < x0)) then (q02.at4 n L2 n (q02.st4 x0 x1 (0:Int) x2)) else (q02.at6 n n (q02.st6 x0 (0:Int) x2))):=by kernel_rfl
theorem q02.round6 (n:Nat) (L6:St→R) (x0 x1:Int) (x2:List T):q02.rd6 n L6 (q02.st6 x0 x1 x2)=(bif (decide (x1 < x0)) then (bif inB x1 ((x2).length / 2) then ((x2[(((Int.toNat x1)*2)+1)]?).bind fun e13=>((oInt .i64 e13).bind fun n14=>(bif ((n14 == (0:Int))) then some ((.int .i64 (0:Int)),[]) else (L6 (q02.st6 x0 (IntKind.wrap .i64 (x1+(1:Int))) x2))))) else none) else some ((.int .i64 (4:Int)),[])):=by kernel_rfl
theorem q02.round4 (n:Nat) (L2:St→R) (L4:St→R) (x0 x1 x2:Int) (x3:List T):q02.rd4 n L2 L4 (q02.st4 x0 x1 x2 x3)=(bif (decide (x2 < x1)) then (bif inB x1 ((x3).length / 2) then ((x3[((Int.toNat x1)*2)]?).bind fun e9=>((oStr e9).bind fun s10=>(bif inB x2 ((x3).length / 2) then ((x3[((Int.toNat x2)*2)]?).bind fun e11=>((oStr e11).bind fun s12=>(bif (s10.toList == s12.toList) then some ((.int .i64 (6:Int)),[]) else (L4 (q02.st4 x0 x1 (IntKind.wrap .i64 (x2+(1:Int))) x3))))) else none))) else none) else (L2 (q02.st2 x0 (IntKind.wrap .i64 (x1+(1:Int))) x3))):=by kernel_rfl
theorem q02.ev (n:Nat) (a0_0:List T):callK prog A H LIM n F.q02 [(.agg [(.sl 2 a0_0)])]=(bif (decide (((((a0_0).length / 2):Nat):Int) < (1:Int))) then some ((.int .i64 (2:Int)),[]) else (bif (decide (((((a0_0).length / 2):Nat):Int) > (6:Int))) then some ((.int .i64 (2:Int)),[]) else (q02.at0 n n (q02.st0 ((((a0_0).length / 2):Nat):Int) (0:Int) a0_0)))):=by kernel_rfl
def q2f.st0 (x0 x1 x2:List T) (x3:Int):St:=⟨[(0,(.one (.t (.rref [(.sl 2 x0)] 0)))),(1,ol 2 x1),(2,ol 7 x2),(7,oi x3)],[]⟩
noncomputable def q2f.K0 (n:Nat):Ex→St→R:=kx F.q2f n [.block 0,.seq 0 (cx F.q2f [1,1,1])] (endOf prog A F.q2f)
noncomputable def q2f.at0 (n:Nat) (m:Nat) (s:St):R:=lx F.q2f n 0 [1,1,0,1,0,0] (q2f.K0 n) m s
noncomputable def q2f.rd0 (n:Nat) (L0:St→R) (s:St):R:=rx F.q2f n 0 [1,1,0,1,0,0] (q2f.K0 n) L0 s
theorem q2f.next0 (n:Nat) (m:Nat) (s:St):q2f.at0 n (m+1) s=q2f.rd0 n (q2f.at0 n m) s:=nx _ _ _ _ _ _ _
theorem q2f.round0 (n:Nat) (L0:St→R) (x0 x1 x2:List T) (x3:Int):q2f.rd0 n L0 (q2f.st0 x0 x1 x2 x3)=(bif (decide (x3 < ((((x2).length / 7):Nat):Int))) then (bif decide (0≤(0:Int))&&decide ((0:Int)≤x3)&&decide (x3≤((((x2).length / 7):Nat):Int)) then (bif inB x3 ((x2).length / 7) then ((LIM F.q6x [(.rref [(.sl 2 x0)] 0),(.sl 2 x1),(.sl 7 ((x2.take ((Int.toNat x3)*7)).drop (0*7))),(.rref ((x2.drop ((Int.toNat x3)*7)).take 7) 0)]).bind fun r1=>((oNil r1.2).bind fun _=>((oTup r1.1).bind fun c2=>((oCons c2).bind fun p3=>((oAgg p3.1).bind fun c4=>((oCons c4).bind fun p5=>((oSl 1 p5.1).bind fun c6=>((oCons p5.2).bind fun p7=>((oSl 1 p7.1).bind fun c8=>((oNil p7.2).bind fun _=>((oCons p3.2).bind fun p9=>((oInt .i64 p9.1).bind fun n10=>((oNil p9.2).bind fun _=>(bif ((n10 != (0:Int))) then some ((.int .i64 n10),[]) else (bif inB x3 ((x2).length / 7) then ((x2[(((Int.toNat x3)*7)+5)]?).bind fun e11=>((oSl 1 e11).bind fun c12=>((LIM F.q26 [(.sl 1 c6),(.sl 1 c12)]).bind fun r13=>((oNil r13.2).bind fun _=>((oBool r13.1).bind fun b14=>(bif (!b14) then some ((.int .i64 (8:Int)),[]) else (bif inB x3 ((x2).length / 7) then ((x2[(((Int.toNat x3)*7)+6)]?).bind fun e15=>((oSl 1 e15).bind fun c16=>((LIM F.q26 [(.sl 1 c8),(.sl 1 c16)]).bind fun r17=>((oNil r17.2).bind fun _=>((oBool r17.1).bind fun b18=>(bif (!b18) then some ((.int .i64 (8:Int)),[]) else (L0 (q2f.st0 x0 x1 x2 (IntKind.wrap .i64 (x3+(1:Int))))))))))) else none))))))) else none))))))))))))))) else none) else none) else some ((.int .i64 (0:Int)),[])):=by kernel_rfl
theorem q2f.ev (n:Nat) (a0_0 a1 a2:List T):callK prog A H LIM n F.q2f [(.rref [(.sl 2 a0_0)] 0),(.sl 2 a1),(.sl 7 a2)]=(bif (decide (((((a2).length / 7):Nat):Int) > (500:Int))) then some ((.int .i64 (2:Int)),[]) else (q2f.at0 n n (q2f.st0 a0_0 a1 a2 (0:Int)))):=by kernel_rfl
theorem q6x.ev (n:Nat) (a0_0 a1 a2:List T) (a3_0 a3_1 a3_2 a3_3 a3_4:Int) (a3_5 a3_6:List T):callK prog A H LIM n F.q6x [(.rref [(.sl 2 a0_0)] 0),(.sl 2 a1),(.sl 7 a2),(.rref [(.int .i64 a3_0),(.int .i64 a3_1),(.int .i64 a3_2),(.int .i64 a3_3),(.int .i64 a3_4),(.sl 1 a3_5),(.sl 1 a3_6)] 0)]=((LIM F.q6a [(.int .i64 ((((a1).length / 2):Nat):Int)),(.int .i64 ((((a2).length / 7):Nat):Int)),(.rref [(.int .i64 a3_0),(.int .i64 a3_1),(.int .i64 a3_2),(.int .i64 a3_3),(.int .i64 a3_4),(.sl 1 a3_5),(.sl 1 a3_6)] 0)]).bind fun r1=>((oNil r1.2).bind fun _=>((oInt .i64 r1.1).bind fun n2=>(bif ((n2 != (0:Int))) then some ((.tup [(.agg [(.sl 1 []),(.sl 1 [])]),(.int .i64 n2)]),[]) else (bif ((a3_0 == (1:Int))) then (bif inB a3_1 ((a1).length / 2) then ((LIM F.q9p [(.rref ((a1.drop ((Int.toNat a3_1)*2)).take 2) 0)]).bind fun r3=>((oNil r3.2).bind fun _=>((oAgg r3.1).bind fun c4=>((oCons c4).bind fun p5=>((oSl 1 p5.1).bind fun c6=>((oCons p5.2).bind fun p7=>((oSl 1 p7.1).bind fun c8=>((oNil p7.2).bind fun _=>some ((.tup [(.agg [(.sl 1 c6),(.sl 1 c8)]),(.int .i64 (0:Int))]),[]))))))))) else none) else (bif inB a3_1 ((a2).length / 7) then ((LIM F.q44 [(.rref ((a2.drop ((Int.toNat a3_1)*7)).take 7) 0)]).bind fun r9=>((oNil r9.2).bind fun _=>((oAgg r9.1).bind fun c10=>((oCons c10).bind fun p11=>((oSl 1 p11.1).bind fun c12=>((oCons p11.2).bind fun p13=>((oSl 1 p13.1).bind fun c14=>((oNil p13.2).bind fun _=>(bif ((a3_0 == (2:Int))) then some ((.tup [(.agg [(.sl 1 c14),(.sl 1 c12)]),(.int .i64 (0:Int))]),[]) else (bif ((a3_0 == (3:Int))) then ((LIM F.q1p [(.rref [(.sl 1 c12),(.sl 1 c14)] 0)]).bind fun r15=>((oNil r15.2).bind fun _=>((oTup r15.1).bind fun c16=>((oCons c16).bind fun p17=>((oAgg p17.1).bind fun c18=>((oCons c18).bind fun p19=>((oSl 1 p19.1).bind fun c20=>((oCons p19.2).bind fun p21=>((oSl 1 p21.1).bind fun c22=>((oNil p21.2).bind fun _=>((oCons p17.2).bind fun p23=>((oBool p23.1).bind fun b24=>((oNil p23.2).bind fun _=>some ((.tup [(.agg [(.sl 1 c20),(.sl 1 c22)]),(.int .i64 (0:Int))]),[])))))))))))))) else (bif ((a3_0 == (5:Int))) then (bif inB a3_2 ((a2).length / 7) then ((LIM F.q44 [(.rref ((a2.drop ((Int.toNat a3_2)*7)).take 7) 0)]).bind fun r25=>((oNil r25.2).bind fun _=>((oAgg r25.1).bind fun c26=>((oCons c26).bind fun p27=>((oSl 1 p27.1).bind fun c28=>((oCons p27.2).bind fun p29=>((oSl 1 p29.1).bind fun c30=>((oNil p29.2).bind fun _=>((LIM F.q7e [(.agg [(.sl 2 a0_0)]),(.agg [(.sl 1 c12),(.sl 1 c14)]),(.agg [(.sl 1 c28),(.sl 1 c30)]),(.int .i64 a3_3)]).bind fun r31=>((oNil r31.2).bind fun _=>((oAgg r31.1).bind fun c32=>((oCons c32).bind fun p33=>((oInt .i64 p33.1).bind fun n34=>((oCons p33.2).bind fun p35=>((oSl 1 p35.1).bind fun c36=>((oCons p35.2).bind fun p37=>((oSl 1 p37.1).bind fun c38=>((oNil p37.2).bind fun _=>some ((.tup [(.agg [(.sl 1 c36),(.sl 1 c38)]),(.int .i64 n34)]),[]))))))))))))))))))) else none) else (bif inB a3_2 ((a2).length / 7) then ((LIM F.q44 [(.rref ((a2.drop ((Int.toNat a3_2)*7)).take 7) 0)]).bind fun r39=>((oNil r39.2).bind fun _=>((oAgg r39.1).bind fun c40=>((oCons c40).bind fun p41=>((oSl 1 p41.1).bind fun c42=>((oCons p41.2).bind fun p43=>((oSl 1 p43.1).bind fun c44=>((oNil p43.2).bind fun _=>(bif ((a3_4 == (0:Int))) then ((LIM F.q4l [(.agg [(.sl 2 a0_0)]),(.sl 2 [(.sl 1 c42),(.sl 1 c44)]),(.int .i64 (0:Int)),(.int .i64 a3_3),(.sl 1 c12)]).bind fun r45=>((oNil r45.2).bind fun _=>((oAgg r45.1).bind fun c46=>((oCons c46).bind fun p47=>((oInt .i64 p47.1).bind fun n48=>((oCons p47.2).bind fun p49=>((oSl 1 p49.1).bind fun c50=>((oNil p49.2).bind fun _=>some ((.tup [(.agg [(.sl 1 c50),(.sl 1 c14)]),(.int .i64 n48)]),[]))))))))) else ((LIM F.q4l [(.agg [(.sl 2 a0_0)]),(.sl 2 [(.sl 1 c42),(.sl 1 c44)]),(.int .i64 (0:Int)),(.int .i64 a3_3),(.sl 1 c14)]).bind fun r51=>((oNil r51.2).bind fun _=>((oAgg r51.1).bind fun c52=>((oCons c52).bind fun p53=>((oInt .i64 p53.1).bind fun n54=>((oCons p53.2).bind fun p55=>((oSl 1 p55.1).bind fun c56=>((oNil p55.2).bind fun _=>some ((.tup [(.agg [(.sl 1 c12),(.sl 1 c56)]),(.int .i64 n54)]),[])))))))))))))))))) else none)))))))))))) else none)))))):=by kernel_rfl
theorem q44.ev (n:Nat) (a0_0 a0_1 a0_2 a0_3 a0_4:Int) (a0_5 a0_6:List T):callK prog A H LIM n F.q44 [(.rref [(.int .i64 a0_0),(.int .i64 a0_1),(.int .i64 a0_2),(.int .i64 a0_3),(.int .i64 a0_4),(.sl 1 a0_5),(.sl 1 a0_6)] 0)]=((LIM F.q38 [(.sl 1 a0_5)]).bind fun r1=>((oNil r1.2).bind fun _=>((oSl 1 r1.1).bind fun c2=>((LIM F.q38 [(.sl 1 a0_6)]).bind fun r3=>((oNil r3.2).bind fun _=>((oSl 1 r3.1).bind fun c4=>some ((.agg [(.sl 1 c2),(.sl 1 c4)]),[]))))))):=by kernel_rfl
theorem q6a.ev (n:Nat) (a0 a1 a2_0 a2_1 a2_2 a2_3 a2_4:Int) (a2_5 a2_6:List T):callK prog A H LIM n F.q6a [(.int .i64 a0),(.int .i64 a1),(.rref [(.int .i64 a2_0),(.int .i64 a2_1),(.int .i64 a2_2),(.int .i64 a2_3),(.int .i64 a2_4),(.sl 1 a2_5),(.sl 1 a2_6)] 0)]=((LIM F.q1j [(.int .i64 a2_0),(.int .i64 (1:Int)),(.int .i64 (5:Int))]).bind fun r1=>((oNil r1.2).bind fun _=>((oBool r1.1).bind fun b2=>(bif (!b2) then some ((.int .i64 (1:Int)),[]) else (bif ((a2_0 == (4:Int))) then (bif ((a2_0 != (4:Int))) then (bif ((a2_4 != (0:Int))) then some ((.int .i64 (1:Int)),[]) else (bif ((a2_0 == (1:Int))) then ((LIM F.q1j [(.int .i64 a2_1),(.int .i64 (0:Int)),(.int .i64 (IntKind.wrap .i64 (a0 - (1:Int))))]).bind fun r3=>((oNil r3.2).bind fun _=>((oBool r3.1).bind fun b4=>(bif (!b4) then some ((.int .i64 (3:Int)),[]) else ((LIM F.q1j [(.int .i64 a2_2),(.int .i64 (0:Int)),(.int .i64 (IntKind.wrap .i64 (a1 - (1:Int))))]).bind fun r5=>((oNil r5.2).bind fun _=>((oBool r5.1).bind fun b6=>(bif (!b6) then some ((.int .i64 (3:Int)),[]) else ((LIM F.q1j [(.int .i64 a2_4),(.int .i64 (0:Int)),(.int .i64 (1:Int))]).bind fun r7=>((oNil r7.2).bind fun _=>((oBool r7.1).bind fun b8=>(bif (!b8) then some ((.int .i64 (3:Int)),[]) else some ((.int .i64 (0:Int)),[]))))))))))))) else ((LIM F.q1j [(.int .i64 a2_1),(.int .i64 (0:Int)),(.int .i64 (IntKind.wrap .i64 (a1 - (1:Int))))]).bind fun r9=>((oNil r9.2).bind fun _=>((oBool r9.1).bind fun b10=>(bif (!b10) then some ((.int .i64 (3:Int)),[]) else ((LIM F.q1j [(.int .i64 a2_2),(.int .i64 (0:Int)),(.int .i64 (IntKind.wrap .i64 (a1 - (1:Int))))]).bind fun r11=>((oNil r11.2).bind fun _=>((oBool r11.1).bind fun b12=>(bif (!b12) then some ((.int .i64 (3:Int)),[]) else ((LIM F.q1j [(.int .i64 a2_4),(.int .i64 (0:Int)),(.int .i64 (1:Int))]).bind fun r13=>((oNil r13.2).bind fun _=>((oBool r13.1).bind fun b14=>(bif (!b14) then some ((.int .i64 (3:Int)),[]) else some ((.int .i64 (0:Int)),[]))))))))))))))) else (bif ((a2_0 == (1:Int))) then ((LIM F.q1j [(.int .i64 a2_1),(.int .i64 (0:Int)),(.int .i64 (IntKind.wrap .i64 (a0 - (1:Int))))]).bind fun r15=>((oNil r15.2).bind fun _=>((oBool r15.1).bind fun b16=>(bif (!b16) then some ((.int .i64 (3:Int)),[]) else ((LIM F.q1j [(.int .i64 a2_2),(.int .i64 (0:Int)),(.int .i64 (IntKind.wrap .i64 (a1 - (1:Int))))]).bind fun r17=>((oNil r17.2).bind fun _=>((oBool r17.1).bind fun b18=>(bif (!b18) then some ((.int .i64 (3:Int)),[]) else ((LIM F.q1j [(.int .i64 a2_4),(.int .i64 (0:Int)),(.int .i64 (1:Int))]).bind fun r19=>((oNil r19.2).bind fun _=>((oBool r19.1).bind fun b20=>(bif (!b20) then some ((.int .i64 (3:Int)),[]) else some ((.int .i64 (0:Int)),[]))))))))))))) else ((LIM F.q1j [(.int .i64 a2_1),(.int .i64 (0:Int)),(.int .i64 (IntKind.wrap .i64 (a1 - (1:Int))))]).bind fun r21=>((oNil r21.2).bind fun _=>((oBool r21.1).bind fun b22=>(bif (!b22) then some ((.int .i64 (3:Int)),[]) else ((LIM F.q1j [(.int .i64 a2_2),(.int .i64 (0:Int)),(.int .i64 (IntKind.wrap .i64 (a1 - (1:Int))))]).bind fun r23=>((oNil r23.2).bind fun _=>((oBool r23.1).bind fun b24=>(bif (!b24) then some ((.int .i64 (3:Int)),[]) else ((LIM F.q1j [(.int .i64 a2_4),(.int .i64 (0:Int)),(.int .i64 (1:Int))]).bind fun r25=>((oNil r25.2).bind fun _=>((oBool r25.1).bind fun b26=>(bif (!b26) then some ((.int .i64 (3:Int)),[]) else some ((.int .i64 (0:Int)),[]))))))))))))))) else (bif (!((a2_0 == (5:Int)))) then (bif ((a2_2 != (0:Int))) then some ((.int .i64 (1:Int)),[]) else (bif ((a2_3 != (0:Int))) then some ((.int .i64 (1:Int)),[]) else (bif ((a2_0 != (4:Int))) then (bif ((a2_4 != (0:Int))) then some ((.int .i64 (1:Int)),[]) else (bif ((a2_0 == (1:Int))) then ((LIM F.q1j [(.int .i64 a2_1),(.int .i64 (0:Int)),(.int .i64 (IntKind.wrap .i64 (a0 - (1:Int))))]).bind fun r27=>((oNil r27.2).bind fun _=>((oBool r27.1).bind fun b28=>(bif (!b28) then some ((.int .i64 (3:Int)),[]) else (bif ((a2_0 == (5:Int))) then ((LIM F.q1j [(.int .i64 a2_2),(.int .i64 (0:Int)),(.int .i64 (IntKind.wrap .i64 (a1 - (1:Int))))]).bind fun r29=>((oNil r29.2).bind fun _=>((oBool r29.1).bind fun b30=>(bif (!b30) then some ((.int .i64 (3:Int)),[]) else ((LIM F.q1j [(.int .i64 a2_4),(.int .i64 (0:Int)),(.int .i64 (1:Int))]).bind fun r31=>((oNil r31.2).bind fun _=>((oBool r31.1).bind fun b32=>(bif (!b32) then some ((.int .i64 (3:Int)),[]) else some ((.int .i64 (0:Int)),[]))))))))) else ((LIM F.q1j [(.int .i64 a2_4),(.int .i64 (0:Int)),(.int .i64 (1:Int))]).bind fun r33=>((oNil r33.2).bind fun _=>((oBool r33.1).bind fun b34=>(bif (!b34) then some ((.int .i64 (3:Int)),[]) else some ((.int .i64 (0:Int)),[])))))))))) else ((LIM F.q1j [(.int .i64 a2_1),(.int .i64 (0:Int)),(.int .i64 (IntKind.wrap .i64 (a1 - (1:Int))))]).bind fun r35=>((oNil r35.2).bind fun _=>((oBool r35.1).bind fun b36=>(bif (!b36) then some ((.int .i64 (3:Int)),[]) else (bif ((a2_0 == (5:Int))) then ((LIM F.q1j [(.int .i64 a2_2),(.int .i64 (0:Int)),(.int .i64 (IntKind.wrap .i64 (a1 - (1:Int))))]).bind fun r37=>((oNil r37.2).bind fun _=>((oBool r37.1).bind fun b38=>(bif (!b38) then some ((.int .i64 (3:Int)),[]) else ((LIM F.q1j [(.int .i64 a2_4),(.int .i64 (0:Int)),(.int .i64 (1:Int))]).bind fun r39=>((oNil r39.2).bind fun _=>((oBool r39.1).bind fun b40=>(bif (!b40) then some ((.int .i64 (3:Int)),[]) else some ((.int .i64 (0:Int)),[]))))))))) else ((LIM F.q1j [(.int .i64 a2_4),(.int .i64 (0:Int)),(.int .i64 (1:Int))]).bind fun r41=>((oNil r41.2).bind fun _=>((oBool r41.1).bind fun b42=>(bif (!b42) then some ((.int .i64 (3:Int)),[]) else some ((.int .i64 (0:Int)),[])))))))))))) else (bif ((a2_0 == (1:Int))) then ((LIM F.q1j [(.int .i64 a2_1),(.int .i64 (0:Int)),(.int .i64 (IntKind.wrap .i64 (a0 - (1:Int))))]).bind fun r43=>((oNil r43.2).bind fun _=>((oBool r43.1).bind fun b44=>(bif (!b44) then some ((.int .i64 (3:Int)),[]) else (bif ((a2_0 == (5:Int))) then ((LIM F.q1j [(.int .i64 a2_2),(.int .i64 (0:Int)),(.int .i64 (IntKind.wrap .i64 (a1 - (1:Int))))]).bind fun r45=>((oNil r45.2).bind fun _=>((oBool r45.1).bind fun b46=>(bif (!b46) then some ((.int .i64 (3:Int)),[]) else ((LIM F.q1j [(.int .i64 a2_4),(.int .i64 (0:Int)),(.int .i64 (1:Int))]).bind fun r47=>((oNil r47.2).bind fun _=>((oBool r47.1).bind fun b48=>(bif (!b48) then some ((.int .i64 (3:Int)),[]) else some ((.int .i64 (0:Int)),[]))))))))) else ((LIM F.q1j [(.int .i64 a2_4),(.int .i64 (0:Int)),(.int .i64 (1:Int))]).bind fun r49=>((oNil r49.2).bind fun _=>((oBool r49.1).bind fun b50=>(bif (!b50) then some ((.int .i64 (3:Int)),[]) else some ((.int .i64 (0:Int)),[])))))))))) else ((LIM F.q1j [(.int .i64 a2_1),(.int .i64 (0:Int)),(.int .i64 (IntKind.wrap .i64 (a1 - (1:Int))))]).bind fun r51=>((oNil r51.2).bind fun _=>((oBool r51.1).bind fun b52=>(bif (!b52) then some ((.int .i64 (3:Int)),[]) else (bif ((a2_0 == (5:Int))) then ((LIM F.q1j [(.int .i64 a2_2),(.int .i64 (0:Int)),(.int .i64 (IntKind.wrap .i64 (a1 - (1:Int))))]).bind fun r53=>((oNil r53.2).bind fun _=>((oBool r53.1).bind fun b54=>(bif (!b54) then some ((.int .i64 (3:Int)),[]) else ((LIM F.q1j [(.int .i64 a2_4),(.int .i64 (0:Int)),(.int .i64 (1:Int))]).bind fun r55=>((oNil r55.2).bind fun _=>((oBool r55.1).bind fun b56=>(bif (!b56) then some ((.int .i64 (3:Int)),[]) else some ((.int .i64 (0:Int)),[]))))))))) else ((LIM F.q1j [(.int .i64 a2_4),(.int .i64 (0:Int)),(.int .i64 (1:Int))]).bind fun r57=>((oNil r57.2).bind fun _=>((oBool r57.1).bind fun b58=>(bif (!b58) then some ((.int .i64 (3:Int)),[]) else some ((.int .i64 (0:Int)),[])))))))))))))) else (bif ((a2_0 != (4:Int))) then (bif ((a2_4 != (0:Int))) then some ((.int .i64 (1:Int)),[]) else (bif ((a2_0 == (1:Int))) then ((LIM F.q1j [(.int .i64 a2_1),(.int .i64 (0:Int)),(.int .i64 (IntKind.wrap .i64 (a0 - (1:Int))))]).bind fun r59=>((oNil r59.2).bind fun _=>((oBool r59.1).bind fun b60=>(bif (!b60) then some ((.int .i64 (3:Int)),[]) else (bif ((a2_0 == (5:Int))) then ((LIM F.q1j [(.int .i64 a2_2),(.int .i64 (0:Int)),(.int .i64 (IntKind.wrap .i64 (a1 - (1:Int))))]).bind fun r61=>((oNil r61.2).bind fun _=>((oBool r61.1).bind fun b62=>(bif (!b62) then some ((.int .i64 (3:Int)),[]) else ((LIM F.q1j [(.int .i64 a2_4),(.int .i64 (0:Int)),(.int .i64 (1:Int))]).bind fun r63=>((oNil r63.2).bind fun _=>((oBool r63.1).bind fun b64=>(bif (!b64) then some ((.int .i64 (3:Int)),[]) else some ((.int .i64 (0:Int)),[]))))))))) else ((LIM F.q1j [(.int .i64 a2_4),(.int .i64 (0:Int)),(.int .i64 (1:Int))]).bind fun r65=>((oNil r65.2).bind fun _=>((oBool r65.1).bind fun b66=>(bif (!b66) then some ((.int .i64 (3:Int)),[]) else some ((.int .i64 (0:Int)),[])))))))))) else ((LIM F.q1j [(.int .i64 a2_1),(.int .i64 (0:Int)),(.int .i64 (IntKind.wrap .i64 (a1 - (1:Int))))]).bind fun r67=>((oNil r67.2).bind fun _=>((oBool r67.1).bind fun b68=>(bif (!b68) then some ((.int .i64 (3:Int)),[]) else (bif ((a2_0 == (5:Int))) then ((LIM F.q1j [(.int .i64 a2_2),(.int .i64 (0:Int)),(.int .i64 (IntKind.wrap .i64 (a1 - (1:Int))))]).bind fun r69=>((oNil r69.2).bind fun _=>((oBool r69.1).bind fun b70=>(bif (!b70) then some ((.int .i64 (3:Int)),[]) else ((LIM F.q1j [(.int .i64 a2_4),(.int .i64 (0:Int)),(.int .i64 (1:Int))]).bind fun r71=>((oNil r71.2).bind fun _=>((oBool r71.1).bind fun b72=>(bif (!b72) then some ((.int .i64 (3:Int)),[]) else some ((.int .i64 (0:Int)),[]))))))))) else ((LIM F.q1j [(.int .i64 a2_4),(.int .i64 (0:Int)),(.int .i64 (1:Int))]).bind fun r73=>((oNil r73.2).bind fun _=>((oBool r73.1).bind fun b74=>(bif (!b74) then some ((.int .i64 (3:Int)),[]) else some ((.int .i64 (0:Int)),[])))))))))))) else (bif ((a2_0 == (1:Int))) then ((LIM F.q1j [(.int .i64 a2_1),(.int .i64 (0:Int)),(.int .i64 (IntKind.wrap .i64 (a0 - (1:Int))))]).bind fun r75=>((oNil r75.2).bind fun _=>((oBool r75.1).bind fun b76=>(bif (!b76) then some ((.int .i64 (3:Int)),[]) else (bif ((a2_0 == (5:Int))) then ((LIM F.q1j [(.int .i64 a2_2),(.int .i64 (0:Int)),(.int .i64 (IntKind.wrap .i64 (a1 - (1:Int))))]).bind fun r77=>((oNil r77.2).bind fun _=>((oBool r77.1).bind fun b78=>(bif (!b78) then some ((.int .i64 (3:Int)),[]) else ((LIM F.q1j [(.int .i64 a2_4),(.int .i64 (0:Int)),(.int .i64 (1:Int))]).bind fun r79=>((oNil r79.2).bind fun _=>((oBool r79.1).bind fun b80=>(bif (!b80) then some ((.int .i64 (3:Int)),[]) else some ((.int .i64 (0:Int)),[]))))))))) else ((LIM F.q1j [(.int .i64 a2_4),(.int .i64 (0:Int)),(.int .i64 (1:Int))]).bind fun r81=>((oNil r81.2).bind fun _=>((oBool r81.1).bind fun b82=>(bif (!b82) then some ((.int .i64 (3:Int)),[]) else some ((.int .i64 (0:Int)),[])))))))))) else ((LIM F.q1j [(.int .i64 a2_1),(.int .i64 (0:Int)),(.int .i64 (IntKind.wrap .i64 (a1 - (1:Int))))]).bind fun r83=>((oNil r83.2).bind fun _=>((oBool r83.1).bind fun b84=>(bif (!b84) then some ((.int .i64 (3:Int)),[]) else (bif ((a2_0 == (5:Int))) then ((LIM F.q1j [(.int .i64 a2_2),(.int .i64 (0:Int)),(.int .i64 (IntKind.wrap .i64 (a1 - (1:Int))))]).bind fun r85=>((oNil r85.2).bind fun _=>((oBool r85.1).bind fun b86=>(bif (!b86) then some ((.int .i64 (3:Int)),[]) else ((LIM F.q1j [(.int .i64 a2_4),(.int .i64 (0:Int)),(.int .i64 (1:Int))]).bind fun r87=>((oNil r87.2).bind fun _=>((oBool r87.1).bind fun b88=>(bif (!b88) then some ((.int .i64 (3:Int)),[]) else some ((.int .i64 (0:Int)),[]))))))))) else ((LIM F.q1j [(.int .i64 a2_4),(.int .i64 (0:Int)),(.int .i64 (1:Int))]).bind fun r89=>((oNil r89.2).bind fun _=>((oBool r89.1).bind fun b90=>(bif (!b90) then some ((.int .i64 (3:Int)),[]) else some ((.int .i64 (0:Int)),[])))))))))))))))))):=by kernel_rfl
theorem q7f.ev (n:Nat) (a0_0 a0_1 a1_0 a1_1:List T):callK prog A H LIM n F.q7f [(.rref [(.sl 1 a0_0),(.sl 1 a0_1)] 0),(.rref [(.sl 1 a1_0),(.sl 1 a1_1)] 0)]=((LIM F.q2b [(.sl 1 a0_0)]).bind fun r1=>((oNil r1.2).bind fun _=>((oSl 1 r1.1).bind fun c2=>((LIM F.q2b [(.sl 1 a1_0)]).bind fun r3=>((oNil r3.2).bind fun _=>((oSl 1 r3.1).bind fun c4=>((LIM F.q2c [(.sl 1 c2),(.sl 1 c4)]).bind fun r5=>((oNil r5.2).bind fun _=>((oInt .i64 r5.1).bind fun n6=>(bif ((n6 == (0:Int))) then ((LIM F.q2b [(.sl 1 a0_1)]).bind fun r7=>((oNil r7.2).bind fun _=>((oSl 1 r7.1).bind fun c8=>((LIM F.q2b [(.sl 1 a1_1)]).bind fun r9=>((oNil r9.2).bind fun _=>((oSl 1 r9.1).bind fun c10=>((LIM F.q2c [(.sl 1 c8),(.sl 1 c10)]).bind fun r11=>((oNil r11.2).bind fun _=>((oInt .i64 r11.1).bind fun n12=>some ((.bool (decide (n12 < (0:Int)))),[])))))))))) else some ((.bool (decide (n6 < (0:Int)))),[]))))))))))):=by kernel_rfl
theorem q92.ev (n:Nat) (a0_0 a0_1 a0_2 a0_3 a0_4:List T) (a0_5 a1:Int):callK prog A H LIM n F.q92 [(.rref [(.sl 1 a0_0),(.sl 2 a0_1),(.sl 7 a0_2),(.sl 1 a0_3),(.sl 1 a0_4),(.int .i64 a0_5)] 0),(.int .i64 a1)]=(bif inB a1 ((a0_3).length / 1) then ((a0_3[((Int.toNat a1)*1)]?).bind fun e1=>((oInt .i64 e1).bind fun n2=>(bif inB n2 ((a0_2).length / 7) then ((LIM F.q44 [(.rref ((a0_2.drop ((Int.toNat n2)*7)).take 7) 0)]).bind fun r3=>((oNil r3.2).bind fun _=>((oAgg r3.1).bind fun c4=>((oCons c4).bind fun p5=>((oSl 1 p5.1).bind fun c6=>((oCons p5.2).bind fun p7=>((oSl 1 p7.1).bind fun c8=>((oNil p7.2).bind fun _=>some ((.agg [(.sl 1 c6),(.sl 1 c8)]),[]))))))))) else none))) else none):=by kernel_rfl
def q1v.st0 (x0 x1 x2 x3 x4:List T) (x5 x6:Int) (x7:List T):St:=⟨[(0,(.one (.t (.rref [(.sl 1 x0),(.sl 2 x1),(.sl 7 x2),(.sl 1 x3),(.sl 1 x4),(.int .i64 x5)] 0)))),(3,(.one (.obj 320))),(4,oi x6)],[(320,(.arr true true 2 x7))]⟩
noncomputable def q1v.K0 (n:Nat):Ex→St→R:=kx F.q1v n [.block 0,.seq 0 (cx F.q1v [1,1,1])] (endOf prog A F.q1v)
noncomputable def q1v.at0 (n:Nat) (m:Nat) (s:St):R:=lx F.q1v n 0 [1,1,0,1,0,0] (q1v.K0 n) m s
noncomputable def q1v.rd0 (n:Nat) (L0:St→R) (s:St):R:=rx F.q1v n 0 [1,1,0,1,0,0] (q1v.K0 n) L0 s
theorem q1v.next0 (n:Nat) (m:Nat) (s:St):q1v.at0 n (m+1) s=q1v.rd0 n (q1v.at0 n m) s:=nx _ _ _ _ _ _ _
theorem q1v.round0 (n:Nat) (L0:St→R) (x0 x1 x2 x3 x4:List T) (x5 x6:Int) (x7:List T):q1v.rd0 n L0 (q1v.st0 x0 x1 x2 x3 x4 x5 x6 x7)=(bif (decide (x6 < ((((x3).length / 1):Nat):Int))) then ((LIM F.q92 [(.rref [(.sl 1 x0),(.sl 2 x1),(.sl 7 x2),(.sl 1 x3),(.sl 1 x4),(.int .i64 x5)] 0),(.int .i64 x6)]).bind fun r1=>((oNil r1.2).bind fun _=>((oAgg r1.1).bind fun c2=>((oCons c2).bind fun p3=>((oSl 1 p3.1).bind fun c4=>((oCons p3.2).bind fun p5=>((oSl 1 p5.1).bind fun c6=>((oNil p5.2).bind fun _=>(bif Nat.ble (((x7).length+2)*48) (140737488355328*2) then (L0 (q1v.st0 x0 x1 x2 x3 x4 x5 (IntKind.wrap .i64 (x6+(1:Int))) (x7++[(.sl 1 c4),(.sl 1 c6)]:List T))) else none))))))))) else some ((.sl 2 x7),[])):=by kernel_rfl
theorem q1v.ev (n:Nat) (a0_0 a0_1 a0_2 a0_3 a0_4:List T) (a0_5:Int):callK prog A H LIM n F.q1v [(.rref [(.sl 1 a0_0),(.sl 2 a0_1),(.sl 7 a0_2),(.sl 1 a0_3),(.sl 1 a0_4),(.int .i64 a0_5)] 0)]=(q1v.at0 n n (q1v.st0 a0_0 a0_1 a0_2 a0_3 a0_4 a0_5 (0:Int) [])):=by kernel_rfl
def q0p.st2 (x0 x1:List T) (x2 x3:Int):St:=⟨[(0,ol 2 x0),(3,ol 2 x1),(4,oi x2),(5,oi x3)],[]⟩
def q0p.st0 (x0 x1:List T) (x2:Int):St:=⟨[(0,ol 2 x0),(3,ol 2 x1),(4,oi x2)],[]⟩
noncomputable def q0p.K0 (n:Nat):Ex→St→R:=kx F.q0p n [.block 0,.seq 0 (cx F.q0p [1,1,1])] (endOf prog A F.q0p)
noncomputable def q0p.at0 (n:Nat) (m:Nat) (s:St):R:=lx F.q0p n 0 [1,1,0,1,0,0] (q0p.K0 n) m s
noncomputable def q0p.rd0 (n:Nat) (L0:St→R) (s:St):R:=rx F.q0p n 0 [1,1,0,1,0,0] (q0p.K0 n) L0 s
theorem q0p.next0 (n:Nat) (m:Nat) (s:St):q0p.at0 n (m+1) s=q0p.rd0 n (q0p.at0 n m) s:=nx _ _ _ _ _ _ _
noncomputable def q0p.K2 (n:Nat) (L0:St→R):Ex→St→R:=kx F.q0p n [.block 2,.seq 1 (cx F.q0p [1,1,0,1,0,0,1,0,0,1,1]),.block 1,.seq 0 (cx F.q0p [1,1,0,1,0,0,1,1])] (bx F.q0p 0 (q0p.K0 n) L0)
noncomputable def q0p.at2 (n:Nat) (L0:St→R) (m:Nat) (s:St):R:=lx F.q0p n 2 [1,1,0,1,0,0,1,0,0,1,0,0,0] (q0p.K2 n L0) m s
noncomputable def q0p.rd2 (n:Nat) (L0:St→R) (L2:St→R) (s:St):R:=rx F.q0p n 2 [1,1,0,1,0,0,1,0,0,1,0,0,0] (q0p.K2 n L0) L2 s
theorem q0p.next2 (n:Nat) (L0:St→R) (m:Nat) (s:St):q0p.at2 n L0 (m+1) s=q0p.rd2 n L0 (q0p.at2 n L0 m) s:=nx _ _ _ _ _ _ _
theorem q0p.round0 (n:Nat) (L0:St→R) (x0 x1:List T) (x2:Int):q0p.rd0 n L0 (q0p.st0 x0 x1 x2)=(bif (decide (x2 < ((((x0).length / 2):Nat):Int))) then (q0p.at2 n L0 n (q0p.st2 x0 x1 x2 (0:Int))) else some ((.sl 2 x1),[])):=by kernel_rfl
theorem q0p.round2 (n:Nat) (L0:St→R) (L2:St→R) (x0 x1:List T) (x2 x3:Int):q0p.rd2 n L0 L2 (q0p.st2 x0 x1 x2 x3)=(bif (decide (x3 < ((((x1).length / 2):Nat):Int))) then (bif inB x2 ((x0).length / 2) then (bif inB x3 ((x1).length / 2) then ((LIM F.q7f [(.rref ((x0.drop ((Int.toNat x2)*2)).take 2) 0),(.rref ((x1.drop ((Int.toNat x3)*2)).take 2) 0)]).bind fun r1=>((oNil r1.2).bind fun _=>((oBool r1.1).bind fun b2=>(bif (!b2) then (L2 (q0p.st2 x0 x1 x2 (IntKind.wrap .i64 (x3+(1:Int))))) else (bif decide (0≤(0:Int))&&decide ((0:Int)≤x3)&&decide (x3≤((((x1).length / 2):Nat):Int)) then (bif Nat.ble ((0+(((x1.take ((Int.toNat x3)*2)).drop (0*2))).length)*48) (140737488355328*2) then (bif inB x2 ((x0).length / 2) then ((x0[((Int.toNat x2)*2)]?).bind fun e3=>((oSl 1 e3).bind fun c4=>((x0[(((Int.toNat x2)*2)+1)]?).bind fun e5=>((oSl 1 e5).bind fun c6=>(bif Nat.ble (((((x1.take ((Int.toNat x3)*2)).drop (0*2))).length+2)*48) (140737488355328*2) then (bif decide (0≤x3)&&decide (x3≤((((x1).length / 2):Nat):Int))&&decide (((((x1).length / 2):Nat):Int)≤((((x1).length / 2):Nat):Int)) then (bif Nat.ble ((((((x1.take ((Int.toNat x3)*2)).drop (0*2))++[(.sl 1 c4),(.sl 1 c6)]:List T)).length+(((x1.take ((Int.toNat ((((x1).length / 2):Nat):Int))*2)).drop ((Int.toNat x3)*2))).length)*48) (140737488355328*2) then (L0 (q0p.st0 x0 ((((x1.take ((Int.toNat x3)*2)).drop (0*2))++[(.sl 1 c4),(.sl 1 c6)]:List T)++((x1.take ((Int.toNat ((((x1).length / 2):Nat):Int))*2)).drop ((Int.toNat x3)*2)):List T) (IntKind.wrap .i64 (x2+(1:Int))))) else none) else none) else none))))) else none) else none) else none))))) else none) else none) else (bif decide (0≤(0:Int))&&decide ((0:Int)≤x3)&&decide (x3≤((((x1).length / 2):Nat):Int)) then (bif Nat.ble ((0+(((x1.take ((Int.toNat x3)*2)).drop (0*2))).length)*48) (140737488355328*2) then (bif inB x2 ((x0).length / 2) then ((x0[((Int.toNat x2)*2)]?).bind fun e7=>((oSl 1 e7).bind fun c8=>((x0[(((Int.toNat x2)*2)+1)]?).bind fun e9=>((oSl 1 e9).bind fun c10=>(bif Nat.ble (((((x1.take ((Int.toNat x3)*2)).drop (0*2))).length+2)*48) (140737488355328*2) then (bif decide (0≤x3)&&decide (x3≤((((x1).length / 2):Nat):Int))&&decide (((((x1).length / 2):Nat):Int)≤((((x1).length / 2):Nat):Int)) then (bif Nat.ble ((((((x1.take ((Int.toNat x3)*2)).drop (0*2))++[(.sl 1 c8),(.sl 1 c10)]:List T)).length+(((x1.take ((Int.toNat ((((x1).length / 2):Nat):Int))*2)).drop ((Int.toNat x3)*2))).length)*48) (140737488355328*2) then (L0 (q0p.st0 x0 ((((x1.take ((Int.toNat x3)*2)).drop (0*2))++[(.sl 1 c8),(.sl 1 c10)]:List T)++((x1.take ((Int.toNat ((((x1).length / 2):Nat):Int))*2)).drop ((Int.toNat x3)*2)):List T) (IntKind.wrap .i64 (x2+(1:Int))))) else none) else none) else none))))) else none) else none) else none)):=by kernel_rfl
theorem q0p.ev (n:Nat) (a0:List T):callK prog A H LIM n F.q0p [(.sl 2 a0)]=(q0p.at0 n n (q0p.st0 a0 [] (0:Int))):=by kernel_rfl
theorem q1j.ev (n:Nat) (a0 a1 a2:Int):callK prog A H LIM n F.q1j [(.int .i64 a0),(.int .i64 a1),(.int .i64 a2)]=(bif (decide (a0 ≥ a1)) then some ((.bool (decide (a0≤a2))),[]) else some ((.bool false),[])):=by kernel_rfl
theorem q38.ev (n:Nat) (a0:List T):callK prog A H LIM n F.q38 [(.sl 1 a0)]=(bif (a0).all T.scalar then (bif Nat.ble ((0+(a0).length)*8) (140737488355328*1) then some ((.sl 1 a0),[]) else none) else none):=by kernel_rfl
def q2c.st0 (x0 x1:List T) (x2:Int):St:=⟨[(0,ol 1 x0),(1,ol 1 x1),(5,oi x2)],[]⟩
noncomputable def q2c.K0 (n:Nat):Ex→St→R:=kx F.q2c n [.block 0,.seq 0 (cx F.q2c [1,1])] (endOf prog A F.q2c)
noncomputable def q2c.at0 (n:Nat) (m:Nat) (s:St):R:=lx F.q2c n 0 [1,0,1,0,0] (q2c.K0 n) m s
noncomputable def q2c.rd0 (n:Nat) (L0:St→R) (s:St):R:=rx F.q2c n 0 [1,0,1,0,0] (q2c.K0 n) L0 s
theorem q2c.next0 (n:Nat) (m:Nat) (s:St):q2c.at0 n (m+1) s=q2c.rd0 n (q2c.at0 n m) s:=nx _ _ _ _ _ _ _
theorem q2c.round0 (n:Nat) (L0:St→R) (x0 x1:List T) (x2:Int):q2c.rd0 n L0 (q2c.st0 x0 x1 x2)=(bif (decide (x2 < ((((x0).length / 1):Nat):Int))) then (bif (decide (x2 < ((((x1).length / 1):Nat):Int))) then (bif inB x2 ((x0).length / 1) then ((x0[((Int.toNat x2)*1)]?).bind fun e1=>((oInt .u8 e1).bind fun n2=>(bif inB x2 ((x1).length / 1) then ((x1[((Int.toNat x2)*1)]?).bind fun e3=>((oInt .u8 e3).bind fun n4=>(bif (decide (n2 < n4)) then some ((.int .i64 (-1:Int)),[]) else (bif inB x2 ((x0).length / 1) then ((x0[((Int.toNat x2)*1)]?).bind fun e5=>((oInt .u8 e5).bind fun n6=>(bif inB x2 ((x1).length / 1) then ((x1[((Int.toNat x2)*1)]?).bind fun e7=>((oInt .u8 e7).bind fun n8=>(bif (decide (n6 > n8)) then some ((.int .i64 (1:Int)),[]) else (L0 (q2c.st0 x0 x1 (IntKind.wrap .i64 (x2+(1:Int)))))))) else none))) else none)))) else none))) else none) else (bif (decide (((((x0).length / 1):Nat):Int) < ((((x1).length / 1):Nat):Int))) then some ((.int .i64 (-1:Int)),[]) else (bif (decide (((((x0).length / 1):Nat):Int) > ((((x1).length / 1):Nat):Int))) then some ((.int .i64 (1:Int)),[]) else some ((.int .i64 (0:Int)),[])))) else (bif (decide (((((x0).length / 1):Nat):Int) < ((((x1).length / 1):Nat):Int))) then some ((.int .i64 (-1:Int)),[]) else (bif (decide (((((x0).length / 1):Nat):Int) > ((((x1).length / 1):Nat):Int))) then some ((.int .i64 (1:Int)),[]) else some ((.int .i64 (0:Int)),[])))):=by kernel_rfl
theorem q2c.ev (n:Nat) (a0 a1:List T):callK prog A H LIM n F.q2c [(.sl 1 a0),(.sl 1 a1)]=(q2c.at0 n n (q2c.st0 a0 a1 (0:Int))):=by kernel_rfl
def q26.st0 (x0 x1:List T) (x2:Int):St:=⟨[(0,ol 1 x0),(1,ol 1 x1),(5,oi x2)],[]⟩
noncomputable def q26.K0 (n:Nat):Ex→St→R:=kx F.q26 n [.block 0,.seq 0 (cx F.q26 [1,1,1])] (endOf prog A F.q26)
noncomputable def q26.at0 (n:Nat) (m:Nat) (s:St):R:=lx F.q26 n 0 [1,1,0,1,0,0] (q26.K0 n) m s
noncomputable def q26.rd0 (n:Nat) (L0:St→R) (s:St):R:=rx F.q26 n 0 [1,1,0,1,0,0] (q26.K0 n) L0 s
theorem q26.next0 (n:Nat) (m:Nat) (s:St):q26.at0 n (m+1) s=q26.rd0 n (q26.at0 n m) s:=nx _ _ _ _ _ _ _
theorem q26.round0 (n:Nat) (L0:St→R) (x0 x1:List T) (x2:Int):q26.rd0 n L0 (q26.st0 x0 x1 x2)=(bif (decide (x2 < ((((x0).length / 1):Nat):Int))) then (bif inB x2 ((x0).length / 1) then ((x0[((Int.toNat x2)*1)]?).bind fun e1=>((oInt .i64 e1).bind fun n2=>(bif inB x2 ((x1).length / 1) then ((x1[((Int.toNat x2)*1)]?).bind fun e3=>((oInt .i64 e3).bind fun n4=>(bif ((n2 != n4)) then some ((.bool false),[]) else (L0 (q26.st0 x0 x1 (IntKind.wrap .i64 (x2+(1:Int)))))))) else none))) else none) else some ((.bool true),[])):=by kernel_rfl
theorem q26.ev (n:Nat) (a0 a1:List T):callK prog A H LIM n F.q26 [(.sl 1 a0),(.sl 1 a1)]=(bif ((((((a0).length / 1):Nat):Int) != ((((a1).length / 1):Nat):Int))) then some ((.bool false),[]) else (q26.at0 n n (q26.st0 a0 a1 (0:Int)))):=by kernel_rfl
def q2x.st0 (x0:ByteArray) (x1:Int):St:=⟨[(0,(.one (.t (.str x0)))),(3,oi x1)],[]⟩
noncomputable def q2x.K0 (n:Nat):Ex→St→R:=kx F.q2x n [.block 0,.seq 0 (cx F.q2x [1,1,1])] (endOf prog A F.q2x)
noncomputable def q2x.at0 (n:Nat) (m:Nat) (s:St):R:=lx F.q2x n 0 [1,1,0,1,0,0] (q2x.K0 n) m s
noncomputable def q2x.rd0 (n:Nat) (L0:St→R) (s:St):R:=rx F.q2x n 0 [1,1,0,1,0,0] (q2x.K0 n) L0 s
theorem q2x.next0 (n:Nat) (m:Nat) (s:St):q2x.at0 n (m+1) s=q2x.rd0 n (q2x.at0 n m) s:=nx _ _ _ _ _ _ _
theorem q2x.round0 (n:Nat) (L0:St→R) (x0:ByteArray) (x1:Int):q2x.rd0 n L0 (q2x.st0 x0 x1)=(bif (decide (x1 < (x0.size:Int))) then (bif inB x1 x0.size then (bif (decide (((x0.data.getD (Int.toNat x1) 0).toNat:Int) < (97:Int))) then some ((.bool false),[]) else (bif inB x1 x0.size then (bif (decide (((x0.data.getD (Int.toNat x1) 0).toNat:Int) > (122:Int))) then some ((.bool false),[]) else (L0 (q2x.st0 x0 (IntKind.wrap .i64 (x1+(1:Int)))))) else none)) else none) else some ((.bool true),[])):=by kernel_rfl
theorem q2x.ev (n:Nat) (a0:ByteArray):callK prog A H LIM n F.q2x [(.str a0)]=(bif (decide ((a0.size:Int) < (1:Int))) then some ((.bool false),[]) else (bif (decide ((a0.size:Int) > (3:Int))) then some ((.bool false),[]) else (q2x.at0 n n (q2x.st0 a0 (0:Int))))):=by kernel_rfl
def q0k.st4 (x0:List T) (x1 x2:Int):St:=⟨[(1,ol 1 x0),(6,oi x1),(7,oi x2)],[]⟩
def q0k.st2 (x0:List T) (x1:Int):St:=⟨[(1,ol 1 x0),(6,oi x1)],[]⟩
def q0k.st0 (x0 x1:List T) (x2:Int):St:=⟨[(0,(.one (.t (.rref [(.sl 2 x0)] 0)))),(1,ol 1 x1),(5,oi x2)],[]⟩
noncomputable def q0k.K0 (n:Nat):Ex→St→R:=kx F.q0k n [.block 0,.seq 0 (cx F.q0k [1,1,1])] (endOf prog A F.q0k)
noncomputable def q0k.at0 (n:Nat) (m:Nat) (s:St):R:=lx F.q0k n 0 [1,1,0,1,0,0] (q0k.K0 n) m s
noncomputable def q0k.rd0 (n:Nat) (L0:St→R) (s:St):R:=rx F.q0k n 0 [1,1,0,1,0,0] (q0k.K0 n) L0 s
theorem q0k.next0 (n:Nat) (m:Nat) (s:St):q0k.at0 n (m+1) s=q0k.rd0 n (q0k.at0 n m) s:=nx _ _ _ _ _ _ _
noncomputable def q0k.K2 (n:Nat):Ex→St→R:=kx F.q0k n [.block 2,.seq 0 (cx F.q0k [1,1,1,1])] (endOf prog A F.q0k)
noncomputable def q0k.at2 (n:Nat) (m:Nat) (s:St):R:=lx F.q0k n 2 [1,1,1,0,1,0,0] (q0k.K2 n) m s
noncomputable def q0k.rd2 (n:Nat) (L2:St→R) (s:St):R:=rx F.q0k n 2 [1,1,1,0,1,0,0] (q0k.K2 n) L2 s
theorem q0k.next2 (n:Nat) (m:Nat) (s:St):q0k.at2 n (m+1) s=q0k.rd2 n (q0k.at2 n m) s:=nx _ _ _ _ _ _ _
noncomputable def q0k.K4 (n:Nat) (L2:St→R):Ex→St→R:=kx F.q0k n [.block 4,.block 3,.seq 2 (cx F.q0k [1,1,1,0,1,0,0,1,1])] (bx F.q0k 2 (q0k.K2 n) L2)
noncomputable def q0k.at4 (n:Nat) (L2:St→R) (m:Nat) (s:St):R:=lx F.q0k n 4 [1,1,1,0,1,0,0,1,0,0,1,0,0] (q0k.K4 n L2) m s
noncomputable def q0k.rd4 (n:Nat) (L2:St→R) (L4:St→R) (s:St):R:=rx F.q0k n 4 [1,1,1,0,1,0,0,1,0,0,1,0,0] (q0k.K4 n L2) L4 s
theorem q0k.next4 (n:Nat) (L2:St→R) (m:Nat) (s:St):q0k.at4 n L2 (m+1) s=q0k.rd4 n L2 (q0k.at4 n L2 m) s:=nx _ _ _ _ _ _ _
theorem q0k.round0 (n:Nat) (L0:St→R) (x0 x1:List T) (x2:Int):q0k.rd0 n L0 (q0k.st0 x0 x1 x2)=(bif (decide (x2 < ((((x1).length / 1):Nat):Int))) then (bif inB x2 ((x1).length / 1) then ((x1[((Int.toNat x2)*1)]?).bind fun e1=>((oInt .i64 e1).bind fun n2=>((LIM F.q5m [(.rref [(.sl 2 x0)] 0),(.int .i64 n2)]).bind fun r3=>((oNil r3.2).bind fun _=>((oBool r3.1).bind fun b4=>(bif (!b4) then some ((.int .i64 (3:Int)),[]) else (L0 (q0k.st0 x0 x1 (IntKind.wrap .i64 (x2+(1:Int))))))))))) else none) else (q0k.at2 n n (q0k.st2 x1 (0:Int)))):=by kernel_rfl
theorem q0k.round2 (n:Nat) (L2:St→R) (x0:List T) (x1:Int):q0k.rd2 n L2 (q0k.st2 x0 x1)=(bif (decide (x1 < ((((x0).length / 1):Nat):Int))) then (q0k.at4 n L2 n (q0k.st4 x0 x1 (0:Int))) else some ((.int .i64 (0:Int)),[])):=by kernel_rfl
theorem q0k.round4 (n:Nat) (L2:St→R) (L4:St→R) (x0:List T) (x1 x2:Int):q0k.rd4 n L2 L4 (q0k.st4 x0 x1 x2)=(bif (decide (x2 < x1)) then (bif inB x1 ((x0).length / 1) then ((x0[((Int.toNat x1)*1)]?).bind fun e5=>((oInt .i64 e5).bind fun n6=>(bif inB x2 ((x0).length / 1) then ((x0[((Int.toNat x2)*1)]?).bind fun e7=>((oInt .i64 e7).bind fun n8=>(bif ((n6 == n8)) then some ((.int .i64 (6:Int)),[]) else (L4 (q0k.st4 x0 x1 (IntKind.wrap .i64 (x2+(1:Int)))))))) else none))) else none) else (L2 (q0k.st2 x0 (IntKind.wrap .i64 (x1+(1:Int)))))):=by kernel_rfl
theorem q0k.ev (n:Nat) (a0_0 a1:List T):callK prog A H LIM n F.q0k [(.rref [(.sl 2 a0_0)] 0),(.sl 1 a1)]=(bif ((((((a1).length / 1):Nat):Int) != ((((a0_0).length / 2):Nat):Int))) then some ((.int .i64 (2:Int)),[]) else (q0k.at0 n n (q0k.st0 a0_0 a1 (0:Int)))):=by kernel_rfl
def q2p.st0 (x0:List T) (x1 x2:Int):St:=⟨[(0,ol 1 x0),(1,oi x1),(5,oi x2)],[]⟩
noncomputable def q2p.K0 (n:Nat):Ex→St→R:=kx F.q2p n [.block 0,.seq 0 (cx F.q2p [1,1])] (endOf prog A F.q2p)
noncomputable def q2p.at0 (n:Nat) (m:Nat) (s:St):R:=lx F.q2p n 0 [1,0,1,0,0] (q2p.K0 n) m s
noncomputable def q2p.rd0 (n:Nat) (L0:St→R) (s:St):R:=rx F.q2p n 0 [1,0,1,0,0] (q2p.K0 n) L0 s
theorem q2p.next0 (n:Nat) (m:Nat) (s:St):q2p.at0 n (m+1) s=q2p.rd0 n (q2p.at0 n m) s:=nx _ _ _ _ _ _ _
theorem q2p.round0 (n:Nat) (L0:St→R) (x0:List T) (x1 x2:Int):q2p.rd0 n L0 (q2p.st0 x0 x1 x2)=(bif (decide (x2 < ((((x0).length / 1):Nat):Int))) then (bif inB x2 ((x0).length / 1) then ((x0[((Int.toNat x2)*1)]?).bind fun e1=>((oInt .i64 e1).bind fun n2=>(bif ((n2 == x1)) then some ((.int .i64 x2),[]) else (L0 (q2p.st0 x0 x1 (IntKind.wrap .i64 (x2+(1:Int)))))))) else none) else some ((.int .i64 (-1:Int)),[])):=by kernel_rfl
theorem q2p.ev (n:Nat) (a0:List T) (a1:Int):callK prog A H LIM n F.q2p [(.sl 1 a0),(.int .i64 a1)]=(q2p.at0 n n (q2p.st0 a0 a1 (0:Int))):=by kernel_rfl
theorem q5m.ev (n:Nat) (a0_0:List T) (a1:Int):callK prog A H LIM n F.q5m [(.rref [(.sl 2 a0_0)] 0),(.int .i64 a1)]=((LIM F.q1j [(.int .i64 a1),(.int .i64 (0:Int)),(.int .i64 (IntKind.wrap .i64 (((((a0_0).length / 2):Nat):Int) - (1:Int))))]).bind fun r1=>((oNil r1.2).bind fun _=>((oBool r1.1).bind fun b2=>some ((.bool b2),[])))):=by kernel_rfl
def q21.st0 (x0:List T) (x1 x2 x3:Int):St:=⟨[(0,ol 1 x0),(1,oi x1),(5,oi x2),(6,oi x3)],[]⟩
noncomputable def q21.K0 (n:Nat):Ex→St→R:=kx F.q21 n [.block 0,.seq 0 (cx F.q21 [1,1,1])] (endOf prog A F.q21)
noncomputable def q21.at0 (n:Nat) (m:Nat) (s:St):R:=lx F.q21 n 0 [1,1,0,1,0,0] (q21.K0 n) m s
noncomputable def q21.rd0 (n:Nat) (L0:St→R) (s:St):R:=rx F.q21 n 0 [1,1,0,1,0,0] (q21.K0 n) L0 s
theorem q21.next0 (n:Nat) (m:Nat) (s:St):q21.at0 n (m+1) s=q21.rd0 n (q21.at0 n m) s:=nx _ _ _ _ _ _ _
theorem q21.round0 (n:Nat) (L0:St→R) (x0:List T) (x1 x2 x3:Int):q21.rd0 n L0 (q21.st0 x0 x1 x2 x3)=(bif (decide (x3 < ((((x0).length / 1):Nat):Int))) then (bif inB x3 ((x0).length / 1) then ((x0[((Int.toNat x3)*1)]?).bind fun e1=>((oInt .i64 e1).bind fun n2=>(bif ((n2 == x1)) then (L0 (q21.st0 x0 x1 (IntKind.wrap .i64 (x2+(1:Int))) (IntKind.wrap .i64 (x3+(1:Int))))) else (L0 (q21.st0 x0 x1 x2 (IntKind.wrap .i64 (x3+(1:Int)))))))) else none) else some ((.int .i64 x2),[])):=by kernel_rfl
theorem q21.ev (n:Nat) (a0:List T) (a1:Int):callK prog A H LIM n F.q21 [(.sl 1 a0),(.int .i64 a1)]=(q21.at0 n n (q21.st0 a0 a1 (0:Int) (0:Int))):=by kernel_rfl
def q2r.st0 (x0 x1:List T) (x2 x3 x4:Int):St:=⟨[(0,(.one (.t (.rref [(.sl 2 x0)] 0)))),(1,ol 1 x1),(2,oi x2),(7,oi x3),(8,oi x4)],[]⟩
noncomputable def q2r.K0 (n:Nat):Ex→St→R:=kx F.q2r n [.block 0,.seq 0 (cx F.q2r [1,1,1,1,1])] (endOf prog A F.q2r)
noncomputable def q2r.at0 (n:Nat) (m:Nat) (s:St):R:=lx F.q2r n 0 [1,1,1,1,0,1,0,0] (q2r.K0 n) m s
noncomputable def q2r.rd0 (n:Nat) (L0:St→R) (s:St):R:=rx F.q2r n 0 [1,1,1,1,0,1,0,0] (q2r.K0 n) L0 s
theorem q2r.next0 (n:Nat) (m:Nat) (s:St):q2r.at0 n (m+1) s=q2r.rd0 n (q2r.at0 n m) s:=nx _ _ _ _ _ _ _
theorem q2r.round0 (n:Nat) (L0:St→R) (x0 x1:List T) (x2 x3 x4:Int):q2r.rd0 n L0 (q2r.st0 x0 x1 x2 x3 x4)=(bif inB x2 ((x1).length / 1) then ((x1[((Int.toNat x2)*1)]?).bind fun e3=>((oInt .i64 e3).bind fun n4=>(bif inB n4 ((x0).length / 2) then ((x0[(((Int.toNat n4)*2)+1)]?).bind fun e5=>((oInt .i64 e5).bind fun n6=>(bif (decide (x4 < n6)) then ((LIM F.q2r [(.rref [(.sl 2 x0)] 0),(.sl 1 x1),(.int .i64 x3)]).bind fun r7=>((oNil r7.2).bind fun _=>((oInt .i64 r7.1).bind fun n8=>(bif (decide (n8 < (0:Int))) then some ((.int .i64 (-1:Int)),[]) else (L0 (q2r.st0 x0 x1 x2 n8 (IntKind.wrap .i64 (x4+(1:Int))))))))) else some ((.int .i64 x3),[])))) else none))) else none):=by kernel_rfl
theorem q2r.ev (n:Nat) (a0_0 a1:List T) (a2:Int):callK prog A H LIM n F.q2r [(.rref [(.sl 2 a0_0)] 0),(.sl 1 a1),(.int .i64 a2)]=(bif (decide (a2 ≥ ((((a1).length / 1):Nat):Int))) then some ((.int .i64 (-1:Int)),[]) else (bif inB a2 ((a1).length / 1) then ((a1[((Int.toNat a2)*1)]?).bind fun e1=>((oInt .i64 e1).bind fun n2=>(bif (decide (n2 < (0:Int))) then some ((.int .i64 (IntKind.wrap .i64 (a2+(1:Int)))),[]) else (q2r.at0 n n (q2r.st0 a0_0 a1 a2 (IntKind.wrap .i64 (a2+(1:Int))) (0:Int)))))) else none)):=by kernel_rfl
def q1l.st0 (x0 x1:List T) (x2:Int):St:=⟨[(0,(.one (.t (.rref [(.sl 2 x0)] 0)))),(1,ol 1 x1),(5,oi x2)],[]⟩
noncomputable def q1l.K0 (n:Nat):Ex→St→R:=kx F.q1l n [.block 0,.seq 0 (cx F.q1l [1,1,1])] (endOf prog A F.q1l)
noncomputable def q1l.at0 (n:Nat) (m:Nat) (s:St):R:=lx F.q1l n 0 [1,1,0,1,0,0] (q1l.K0 n) m s
noncomputable def q1l.rd0 (n:Nat) (L0:St→R) (s:St):R:=rx F.q1l n 0 [1,1,0,1,0,0] (q1l.K0 n) L0 s
theorem q1l.next0 (n:Nat) (m:Nat) (s:St):q1l.at0 n (m+1) s=q1l.rd0 n (q1l.at0 n m) s:=nx _ _ _ _ _ _ _
theorem q1l.round0 (n:Nat) (L0:St→R) (x0 x1:List T) (x2:Int):q1l.rd0 n L0 (q1l.st0 x0 x1 x2)=(bif (decide (x2 < ((((x1).length / 1):Nat):Int))) then (bif inB x2 ((x1).length / 1) then ((x1[((Int.toNat x2)*1)]?).bind fun e1=>((oInt .i64 e1).bind fun n2=>((LIM F.q8e [(.rref [(.sl 2 x0)] 0),(.int .i64 n2)]).bind fun r3=>((oNil r3.2).bind fun _=>((oBool r3.1).bind fun b4=>(bif (!b4) then some ((.int .i64 (3:Int)),[]) else (L0 (q1l.st0 x0 x1 (IntKind.wrap .i64 (x2+(1:Int))))))))))) else none) else ((LIM F.q2r [(.rref [(.sl 2 x0)] 0),(.sl 1 x1),(.int .i64 (0:Int))]).bind fun r5=>((oNil r5.2).bind fun _=>((oInt .i64 r5.1).bind fun n6=>(bif ((n6 != ((((x1).length / 1):Nat):Int))) then some ((.int .i64 (1:Int)),[]) else some ((.int .i64 (0:Int)),[])))))):=by kernel_rfl
theorem q1l.ev (n:Nat) (a0_0 a1:List T):callK prog A H LIM n F.q1l [(.rref [(.sl 2 a0_0)] 0),(.sl 1 a1)]=(bif (decide (((((a1).length / 1):Nat):Int) < (1:Int))) then some ((.int .i64 (2:Int)),[]) else (bif (decide (((((a1).length / 1):Nat):Int) > (24:Int))) then some ((.int .i64 (2:Int)),[]) else (q1l.at0 n n (q1l.st0 a0_0 a1 (0:Int))))):=by kernel_rfl
theorem q8e.ev (n:Nat) (a0_0:List T) (a1:Int):callK prog A H LIM n F.q8e [(.rref [(.sl 2 a0_0)] 0),(.int .i64 a1)]=((LIM F.q5m [(.rref [(.sl 2 a0_0)] 0),(.int .i64 a1)]).bind fun r1=>((oNil r1.2).bind fun _=>((oBool r1.1).bind fun b2=>(bif b2 then some ((.bool true),[]) else ((LIM F.q1j [(.int .i64 a1),(.int .i64 (-12:Int)),(.int .i64 (-1:Int))]).bind fun r3=>((oNil r3.2).bind fun _=>((oBool r3.1).bind fun b4=>some ((.bool b4),[])))))))):=by kernel_rfl
theorem q6v.ev (n:Nat) (a0:List T) (a1:Int):callK prog A H LIM n F.q6v [(.sl 1 a0),(.int .i64 a1)]=((LIM F.q1j [(.int .i64 a1),(.int .i64 (0:Int)),(.int .i64 (IntKind.wrap .i64 (((((a0).length / 1):Nat):Int) - (1:Int))))]).bind fun r1=>((oNil r1.2).bind fun _=>((oBool r1.1).bind fun b2=>some ((.bool b2),[])))):=by kernel_rfl
theorem q5n.ev (n:Nat) (a0_0 a1:List T) (a2:Int) (a3:List T):callK prog A H LIM n F.q5n [(.rref [(.sl 2 a0_0)] 0),(.sl 1 a1),(.int .i64 a2),(.sl 1 a3)]=(bif decide (0≤(0:Int))&&decide ((0:Int)≤a2)&&decide (a2≤((((a1).length / 1):Nat):Int)) then ((LIM F.q38 [(.sl 1 ((a1.take ((Int.toNat a2)*1)).drop (0*1)))]).bind fun r1=>((oNil r1.2).bind fun _=>((oSl 1 r1.1).bind fun c2=>(bif (a3).all T.scalar then (bif Nat.ble (((c2).length+(a3).length)*8) (140737488355328*1) then ((LIM F.q2r [(.rref [(.sl 2 a0_0)] 0),(.sl 1 a1),(.int .i64 a2)]).bind fun r3=>((oNil r3.2).bind fun _=>((oInt .i64 r3.1).bind fun n4=>(bif decide (0≤n4)&&decide (n4≤((((a1).length / 1):Nat):Int))&&decide (((((a1).length / 1):Nat):Int)≤((((a1).length / 1):Nat):Int)) then (bif (((a1.take ((Int.toNat ((((a1).length / 1):Nat):Int))*1)).drop ((Int.toNat n4)*1))).all T.scalar then (bif Nat.ble ((((c2++a3:List T)).length+(((a1.take ((Int.toNat ((((a1).length / 1):Nat):Int))*1)).drop ((Int.toNat n4)*1))).length)*8) (140737488355328*1) then some ((.sl 1 ((c2++a3:List T)++((a1.take ((Int.toNat ((((a1).length / 1):Nat):Int))*1)).drop ((Int.toNat n4)*1)):List T)),[]) else none) else none) else none)))) else none) else none)))) else none):=by kernel_rfl
theorem q68.ev (n:Nat) (a0_0 a1:List T) (a2:Int):callK prog A H LIM n F.q68 [(.rref [(.sl 2 a0_0)] 0),(.sl 1 a1),(.int .i64 a2)]=((LIM F.q2r [(.rref [(.sl 2 a0_0)] 0),(.sl 1 a1),(.int .i64 a2)]).bind fun r1=>((oNil r1.2).bind fun _=>((oInt .i64 r1.1).bind fun n2=>(bif decide (0≤a2)&&decide (a2≤n2)&&decide (n2≤((((a1).length / 1):Nat):Int)) then ((LIM F.q38 [(.sl 1 ((a1.take ((Int.toNat n2)*1)).drop ((Int.toNat a2)*1)))]).bind fun r3=>((oNil r3.2).bind fun _=>((oSl 1 r3.1).bind fun c4=>some ((.sl 1 c4),[])))) else none)))):=by kernel_rfl
theorem q9p.ev (n:Nat) (a0_0 a0_1:List T):callK prog A H LIM n F.q9p [(.rref [(.sl 1 a0_0),(.sl 1 a0_1)] 0)]=((LIM F.q38 [(.sl 1 a0_0)]).bind fun r1=>((oNil r1.2).bind fun _=>((oSl 1 r1.1).bind fun c2=>((LIM F.q38 [(.sl 1 a0_1)]).bind fun r3=>((oNil r3.2).bind fun _=>((oSl 1 r3.1).bind fun c4=>some ((.agg [(.sl 1 c2),(.sl 1 c4)]),[]))))))):=by kernel_rfl
theorem q7u.ev (n:Nat) (a0_0 a1_0 a1_1:List T):callK prog A H LIM n F.q7u [(.rref [(.sl 2 a0_0)] 0),(.rref [(.sl 1 a1_0),(.sl 1 a1_1)] 0)]=((LIM F.q1l [(.rref [(.sl 2 a0_0)] 0),(.sl 1 a1_0)]).bind fun r1=>((oNil r1.2).bind fun _=>((oInt .i64 r1.1).bind fun n2=>(bif ((n2 != (0:Int))) then some ((.int .i64 n2),[]) else ((LIM F.q1l [(.rref [(.sl 2 a0_0)] 0),(.sl 1 a1_1)]).bind fun r3=>((oNil r3.2).bind fun _=>((oInt .i64 r3.1).bind fun n4=>(bif ((n4 != (0:Int))) then some ((.int .i64 n4),[]) else ((LIM F.q30 [(.sl 1 a1_0)]).bind fun r5=>((oNil r5.2).bind fun _=>((oBool r5.1).bind fun b6=>(bif (!b6) then some ((.int .i64 (3:Int)),[]) else ((LIM F.q30 [(.sl 1 a1_1)]).bind fun r7=>((oNil r7.2).bind fun _=>((oBool r7.1).bind fun b8=>(bif (!b8) then some ((.int .i64 (3:Int)),[]) else some ((.int .i64 (0:Int)),[]))))))))))))))))):=by kernel_rfl
def q30.st0 (x0:List T) (x1:Int):St:=⟨[(0,ol 1 x0),(3,oi x1)],[]⟩
noncomputable def q30.K0 (n:Nat):Ex→St→R:=kx F.q30 n [.block 0,.seq 0 (cx F.q30 [1,1])] (endOf prog A F.q30)
noncomputable def q30.at0 (n:Nat) (m:Nat) (s:St):R:=lx F.q30 n 0 [1,0,1,0,0] (q30.K0 n) m s
noncomputable def q30.rd0 (n:Nat) (L0:St→R) (s:St):R:=rx F.q30 n 0 [1,0,1,0,0] (q30.K0 n) L0 s
theorem q30.next0 (n:Nat) (m:Nat) (s:St):q30.at0 n (m+1) s=q30.rd0 n (q30.at0 n m) s:=nx _ _ _ _ _ _ _
theorem q30.round0 (n:Nat) (L0:St→R) (x0:List T) (x1:Int):q30.rd0 n L0 (q30.st0 x0 x1)=(bif (decide (x1 < ((((x0).length / 1):Nat):Int))) then (bif inB x1 ((x0).length / 1) then ((x0[((Int.toNat x1)*1)]?).bind fun e1=>((oInt .i64 e1).bind fun n2=>(bif (decide (n2 < (-6:Int))) then some ((.bool false),[]) else (L0 (q30.st0 x0 (IntKind.wrap .i64 (x1+(1:Int)))))))) else none) else some ((.bool true),[])):=by kernel_rfl
theorem q30.ev (n:Nat) (a0:List T):callK prog A H LIM n F.q30 [(.sl 1 a0)]=(q30.at0 n n (q30.st0 a0 (0:Int))):=by kernel_rfl
def q1p.st0 (x0 x1:List T) (x2:Int) (x3 x4:List T):St:=⟨[(0,(.one (.t (.rref [(.sl 1 x0),(.sl 1 x1)] 0)))),(2,(.one (.ptr 128 0))),(4,(.one (.obj 832))),(5,(.one (.obj 1216))),(6,oi x2)],[(128,(.box [.nil,.nil])),(832,(.arr true true 1 x3)),(1216,(.arr true true 1 x4))]⟩
noncomputable def q1p.K0 (n:Nat):Ex→St→R:=kx F.q1p n [.block 0,.seq 0 (cx F.q1p [1,1,1,1])] (endOf prog A F.q1p)
noncomputable def q1p.at0 (n:Nat) (m:Nat) (s:St):R:=lx F.q1p n 0 [1,1,1,0,1,0,0] (q1p.K0 n) m s
noncomputable def q1p.rd0 (n:Nat) (L0:St→R) (s:St):R:=rx F.q1p n 0 [1,1,1,0,1,0,0] (q1p.K0 n) L0 s
theorem q1p.next0 (n:Nat) (m:Nat) (s:St):q1p.at0 n (m+1) s=q1p.rd0 n (q1p.at0 n m) s:=nx _ _ _ _ _ _ _
theorem q1p.round0 (n:Nat) (L0:St→R) (x0 x1:List T) (x2:Int) (x3 x4:List T):q1p.rd0 n L0 (q1p.st0 x0 x1 x2 x3 x4)=(bif (decide (x2 < ((((x3).length / 1):Nat):Int))) then (bif inB x2 ((x3).length / 1) then ((x3[((Int.toNat x2)*1)]?).bind fun e3=>((oInt .i64 e3).bind fun n4=>(bif (decide (n4 ≥ (0:Int))) then (L0 (q1p.st0 x0 x1 (IntKind.wrap .i64 (x2+(1:Int))) x3 x4)) else (bif inB x2 ((x3).length / 1) then ((x3[((Int.toNat x2)*1)]?).bind fun e5=>((oInt .i64 e5).bind fun n6=>((LIM F.q2p [(.sl 1 x4),(.int .i64 n6)]).bind fun r7=>((oNil r7.2).bind fun _=>((oInt .i64 r7.1).bind fun n8=>(bif (decide (n8 < (0:Int))) then (bif inB x2 ((x3).length / 1) then ((x3[((Int.toNat x2)*1)]?).bind fun e9=>((oInt .i64 e9).bind fun n10=>(bif Nat.ble (((x4).length+1)*8) (140737488355328*1) then (bif inB x2 ((x3).length / 1) then (bif decide (((Int.toNat x2)*1)+1≤(x3).length) then (L0 (q1p.st0 x0 x1 (IntKind.wrap .i64 (x2+(1:Int))) (setCells x3 ((Int.toNat x2)*1) [(.int .i64 (IntKind.wrap .i64 ((-1:Int) - ((((x4).length / 1):Nat):Int))))]) (x4++[(.int .i64 n10)]:List T))) else none) else none) else none))) else none) else (bif inB x2 ((x3).length / 1) then (bif decide (((Int.toNat x2)*1)+1≤(x3).length) then (L0 (q1p.st0 x0 x1 (IntKind.wrap .i64 (x2+(1:Int))) (setCells x3 ((Int.toNat x2)*1) [(.int .i64 (IntKind.wrap .i64 ((-1:Int) - n8)))]) x4)) else none) else none))))))) else none)))) else none) else (bif (decide (((((x4).length / 1):Nat):Int) > (6:Int))) then some ((.tup [(.agg [(.sl 1 []),(.sl 1 [])]),(.bool false)]),[]) else (bif decide (0≤(0:Int))&&decide ((0:Int)≤((((x0).length / 1):Nat):Int))&&decide (((((x0).length / 1):Nat):Int)≤((((x3).length / 1):Nat):Int)) then ((LIM F.q38 [(.sl 1 ((x3.take ((Int.toNat ((((x0).length / 1):Nat):Int))*1)).drop (0*1)))]).bind fun r11=>((oNil r11.2).bind fun _=>((oSl 1 r11.1).bind fun c12=>(bif decide (0≤((((x0).length / 1):Nat):Int))&&decide (((((x0).length / 1):Nat):Int)≤((((x3).length / 1):Nat):Int))&&decide (((((x3).length / 1):Nat):Int)≤((((x3).length / 1):Nat):Int)) then ((LIM F.q38 [(.sl 1 ((x3.take ((Int.toNat ((((x3).length / 1):Nat):Int))*1)).drop ((Int.toNat ((((x0).length / 1):Nat):Int))*1)))]).bind fun r13=>((oNil r13.2).bind fun _=>((oSl 1 r13.1).bind fun c14=>some ((.tup [(.agg [(.sl 1 c12),(.sl 1 c14)]),(.bool true)]),[])))) else none)))) else none))):=by kernel_rfl
theorem q1p.ev (n:Nat) (a0_0 a0_1:List T):callK prog A H LIM n F.q1p [(.rref [(.sl 1 a0_0),(.sl 1 a0_1)] 0)]=((LIM F.q38 [(.sl 1 a0_0)]).bind fun r1=>((oNil r1.2).bind fun _=>((oSl 1 r1.1).bind fun c2=>(bif (a0_1).all T.scalar then (bif Nat.ble (((c2).length+(a0_1).length)*8) (140737488355328*1) then (q1p.at0 n n (q1p.st0 a0_0 a0_1 (0:Int) (c2++a0_1:List T) [])) else none) else none)))):=by kernel_rfl
def q2d.st0 (x0 x1:List T) (x2:Int):St:=⟨[(0,(.one (.t (.rref [(.sl 2 x0)] 0)))),(1,ol 2 x1),(5,oi x2)],[]⟩
noncomputable def q2d.K0 (n:Nat):Ex→St→R:=kx F.q2d n [.block 0,.seq 0 (cx F.q2d [1,1,1])] (endOf prog A F.q2d)
noncomputable def q2d.at0 (n:Nat) (m:Nat) (s:St):R:=lx F.q2d n 0 [1,1,0,1,0,0] (q2d.K0 n) m s
noncomputable def q2d.rd0 (n:Nat) (L0:St→R) (s:St):R:=rx F.q2d n 0 [1,1,0,1,0,0] (q2d.K0 n) L0 s
theorem q2d.next0 (n:Nat) (m:Nat) (s:St):q2d.at0 n (m+1) s=q2d.rd0 n (q2d.at0 n m) s:=nx _ _ _ _ _ _ _
theorem q2d.round0 (n:Nat) (L0:St→R) (x0 x1:List T) (x2:Int):q2d.rd0 n L0 (q2d.st0 x0 x1 x2)=(bif (decide (x2 < ((((x1).length / 2):Nat):Int))) then (bif inB x2 ((x1).length / 2) then ((LIM F.q7u [(.rref [(.sl 2 x0)] 0),(.rref ((x1.drop ((Int.toNat x2)*2)).take 2) 0)]).bind fun r1=>((oNil r1.2).bind fun _=>((oInt .i64 r1.1).bind fun n2=>(bif ((n2 != (0:Int))) then some ((.int .i64 n2),[]) else (L0 (q2d.st0 x0 x1 (IntKind.wrap .i64 (x2+(1:Int))))))))) else none) else some ((.int .i64 (0:Int)),[])):=by kernel_rfl
theorem q2d.ev (n:Nat) (a0_0 a1:List T):callK prog A H LIM n F.q2d [(.rref [(.sl 2 a0_0)] 0),(.sl 2 a1)]=(bif (decide (((((a1).length / 2):Nat):Int) > (12:Int))) then some ((.int .i64 (2:Int)),[]) else (q2d.at0 n n (q2d.st0 a0_0 a1 (0:Int)))):=by kernel_rfl
def q2b.st0 (x0:List T) (x1:Int) (x2:List T):St:=⟨[(0,ol 1 x0),(3,(.one (.obj 320))),(4,oi x1)],[(320,(.arr true true 1 x2))]⟩
noncomputable def q2b.K0 (n:Nat):Ex→St→R:=kx F.q2b n [.block 0,.seq 0 (cx F.q2b [1,1,1])] (endOf prog A F.q2b)
noncomputable def q2b.at0 (n:Nat) (m:Nat) (s:St):R:=lx F.q2b n 0 [1,1,0,1,0,0] (q2b.K0 n) m s
noncomputable def q2b.rd0 (n:Nat) (L0:St→R) (s:St):R:=rx F.q2b n 0 [1,1,0,1,0,0] (q2b.K0 n) L0 s
theorem q2b.next0 (n:Nat) (m:Nat) (s:St):q2b.at0 n (m+1) s=q2b.rd0 n (q2b.at0 n m) s:=nx _ _ _ _ _ _ _
theorem q2b.round0 (n:Nat) (L0:St→R) (x0:List T) (x1:Int) (x2:List T):q2b.rd0 n L0 (q2b.st0 x0 x1 x2)=(bif (decide (x1 < ((((x0).length / 1):Nat):Int))) then (bif inB x1 ((x0).length / 1) then ((x0[((Int.toNat x1)*1)]?).bind fun e1=>((oInt .i64 e1).bind fun n2=>(bif (decide (n2 < (0:Int))) then (bif inB x1 ((x0).length / 1) then ((x0[((Int.toNat x1)*1)]?).bind fun e3=>((oInt .i64 e3).bind fun n4=>(bif Nat.ble (((x2).length+1)*1) (140737488355328*1) then (L0 (q2b.st0 x0 (IntKind.wrap .i64 (x1+(1:Int))) (x2++[(.int .u8 (IntKind.wrap .u8 (IntKind.wrap .i64 ((31:Int) - n4))))]:List T))) else none))) else none) else (bif inB x1 ((x0).length / 1) then ((x0[((Int.toNat x1)*1)]?).bind fun e5=>((oInt .i64 e5).bind fun n6=>(bif Nat.ble (((x2).length+1)*1) (140737488355328*1) then (L0 (q2b.st0 x0 (IntKind.wrap .i64 (x1+(1:Int))) (x2++[(.int .u8 (IntKind.wrap .u8 (IntKind.wrap .i64 (n6+(1:Int)))))]:List T))) else none))) else none)))) else none) else some ((.sl 1 x2),[])):=by kernel_rfl
theorem q2b.ev (n:Nat) (a0:List T):callK prog A H LIM n F.q2b [(.sl 1 a0)]=(q2b.at0 n n (q2b.st0 a0 (0:Int) [])):=by kernel_rfl
def q1c.st0 (x0 x1 x2:List T) (x3:Int) (x4:List T):St:=⟨[(0,(.one (.t (.rref [(.sl 1 x0),(.sl 1 x1)] 0)))),(1,ol 1 x2),(5,(.one (.obj 512))),(6,oi x3)],[(512,(.arr true true 1 x4))]⟩
noncomputable def q1c.K0 (n:Nat):Ex→St→R:=kx F.q1c n [.block 0,.seq 0 (cx F.q1c [1,1,1])] (endOf prog A F.q1c)
noncomputable def q1c.at0 (n:Nat) (m:Nat) (s:St):R:=lx F.q1c n 0 [1,1,0,1,0,0] (q1c.K0 n) m s
noncomputable def q1c.rd0 (n:Nat) (L0:St→R) (s:St):R:=rx F.q1c n 0 [1,1,0,1,0,0] (q1c.K0 n) L0 s
theorem q1c.next0 (n:Nat) (m:Nat) (s:St):q1c.at0 n (m+1) s=q1c.rd0 n (q1c.at0 n m) s:=nx _ _ _ _ _ _ _
theorem q1c.round0 (n:Nat) (L0:St→R) (x0 x1 x2:List T) (x3:Int) (x4:List T):q1c.rd0 n L0 (q1c.st0 x0 x1 x2 x3 x4)=(bif (decide (x3 < ((((x2).length / 1):Nat):Int))) then (bif inB x3 ((x2).length / 1) then ((x2[((Int.toNat x3)*1)]?).bind fun e1=>((oInt .i64 e1).bind fun n2=>(bif (decide (n2 < (0:Int))) then (bif inB x3 ((x2).length / 1) then ((x2[((Int.toNat x3)*1)]?).bind fun e3=>((oInt .i64 e3).bind fun n4=>((LIM F.q2t [(.rref [(.sl 1 x0),(.sl 1 x1)] 0),(.int .i64 (IntKind.wrap .i64 ((-1:Int) - n4)))]).bind fun r5=>((oNil r5.2).bind fun _=>((oSl 1 r5.1).bind fun c6=>(bif (c6).all T.scalar then (bif ((((((c6).length / 1):Nat):Int) == (0:Int))) then (bif inB x3 ((x2).length / 1) then ((x2[((Int.toNat x3)*1)]?).bind fun e7=>((oInt .i64 e7).bind fun n8=>(bif Nat.ble (((x4).length+1)*8) (140737488355328*1) then (L0 (q1c.st0 x0 x1 x2 (IntKind.wrap .i64 (x3+(1:Int))) (x4++[(.int .i64 n8)]:List T))) else none))) else none) else (bif (c6).all T.scalar then (bif Nat.ble (((x4).length+(c6).length)*8) (140737488355328*1) then (L0 (q1c.st0 x0 x1 x2 (IntKind.wrap .i64 (x3+(1:Int))) (x4++c6:List T))) else none) else none)) else none)))))) else none) else (bif inB x3 ((x2).length / 1) then ((x2[((Int.toNat x3)*1)]?).bind fun e9=>((oInt .i64 e9).bind fun n10=>(bif Nat.ble (((x4).length+1)*8) (140737488355328*1) then (L0 (q1c.st0 x0 x1 x2 (IntKind.wrap .i64 (x3+(1:Int))) (x4++[(.int .i64 n10)]:List T))) else none))) else none)))) else none) else some ((.sl 1 x4),[])):=by kernel_rfl
theorem q1c.ev (n:Nat) (a0_0 a0_1 a1:List T):callK prog A H LIM n F.q1c [(.rref [(.sl 1 a0_0),(.sl 1 a0_1)] 0),(.sl 1 a1)]=(q1c.at0 n n (q1c.st0 a0_0 a0_1 a1 (0:Int) [])):=by kernel_rfl
def q2w.st0 (x0 x1 x2:List T) (x3 x4 x5:Int) (x6:List T):St:=⟨[(0,(.one (.t (.rref [(.sl 2 x0)] 0)))),(1,ol 1 x1),(2,ol 1 x2),(7,(.one (.obj 832))),(8,oi x3),(9,oi x4),(10,oi x5)],[(832,(.arr true true 2 x6))]⟩
noncomputable def q2w.K0 (n:Nat):Ex→St→R:=kx F.q2w n [.block 0,.seq 0 (cx F.q2w [1,1,1,1,1])] (endOf prog A F.q2w)
noncomputable def q2w.at0 (n:Nat) (m:Nat) (s:St):R:=lx F.q2w n 0 [1,1,1,1,0,1,0,0] (q2w.K0 n) m s
noncomputable def q2w.rd0 (n:Nat) (L0:St→R) (s:St):R:=rx F.q2w n 0 [1,1,1,1,0,1,0,0] (q2w.K0 n) L0 s
theorem q2w.next0 (n:Nat) (m:Nat) (s:St):q2w.at0 n (m+1) s=q2w.rd0 n (q2w.at0 n m) s:=nx _ _ _ _ _ _ _
theorem q2w.round0 (n:Nat) (L0:St→R) (x0 x1 x2:List T) (x3 x4 x5:Int) (x6:List T):q2w.rd0 n L0 (q2w.st0 x0 x1 x2 x3 x4 x5 x6)=(bif inB (0:Int) ((x1).length / 1) then ((x1[0]?).bind fun e1=>((oInt .i64 e1).bind fun n2=>(bif inB n2 ((x0).length / 2) then ((x0[(((Int.toNat n2)*2)+1)]?).bind fun e3=>((oInt .i64 e3).bind fun n4=>(bif (decide (x5 < n4)) then ((LIM F.q68 [(.rref [(.sl 2 x0)] 0),(.sl 1 x1),(.int .i64 x3)]).bind fun r5=>((oNil r5.2).bind fun _=>((oSl 1 r5.1).bind fun c6=>((LIM F.q68 [(.rref [(.sl 2 x0)] 0),(.sl 1 x2),(.int .i64 x4)]).bind fun r7=>((oNil r7.2).bind fun _=>((oSl 1 r7.1).bind fun c8=>(bif Nat.ble (((x6).length+2)*48) (140737488355328*2) then (L0 (q2w.st0 x0 x1 x2 (IntKind.wrap .i64 (x3+((((c6).length / 1):Nat):Int))) (IntKind.wrap .i64 (x4+((((c8).length / 1):Nat):Int))) (IntKind.wrap .i64 (x5+(1:Int))) (x6++[(.sl 1 c6),(.sl 1 c8)]:List T))) else none))))))) else some ((.sl 2 x6),[])))) else none))) else none):=by kernel_rfl
theorem q2w.ev (n:Nat) (a0_0 a1 a2:List T):callK prog A H LIM n F.q2w [(.rref [(.sl 2 a0_0)] 0),(.sl 1 a1),(.sl 1 a2)]=(q2w.at0 n n (q2w.st0 a0_0 a1 a2 (1:Int) (1:Int) (0:Int) [])):=by kernel_rfl
def q2h.st0 (x0 x1:List T) (x2:Int) (x3:List T) (x4:Int) (x5 x6 x7 x8:List T):St:=⟨[(0,(.one (.t (.rref [(.sl 1 x0),(.sl 1 x1)] 0)))),(1,oi x2),(2,ol 1 x3),(6,(.one (.ptr 384 0))),(8,(.one (.ptr 512 0))),(9,(.one (.ptr 576 0))),(10,oi x4)],[(384,(.box [.nil,.nil])),(1216,(.arr true true 1 x5)),(1344,(.arr true false 1 x6)),(512,(.box [(.obj 1216),(.obj 1344)])),(1728,(.arr true true 1 x7)),(576,(.box [(.obj 1728),(.obj 519217)])),(519217,(.arr true true 1 x8))]⟩
noncomputable def q2h.K0 (n:Nat):Ex→St→R:=kx F.q2h n [.block 0,.seq 0 (cx F.q2h [1,1,1,1,1])] (endOf prog A F.q2h)
noncomputable def q2h.at0 (n:Nat) (m:Nat) (s:St):R:=lx F.q2h n 0 [1,1,1,1,0,1,0,0] (q2h.K0 n) m s
noncomputable def q2h.rd0 (n:Nat) (L0:St→R) (s:St):R:=rx F.q2h n 0 [1,1,1,1,0,1,0,0] (q2h.K0 n) L0 s
theorem q2h.next0 (n:Nat) (m:Nat) (s:St):q2h.at0 n (m+1) s=q2h.rd0 n (q2h.at0 n m) s:=nx _ _ _ _ _ _ _
theorem q2h.round0 (n:Nat) (L0:St→R) (x0 x1:List T) (x2:Int) (x3:List T) (x4:Int) (x5 x6 x7 x8:List T):q2h.rd0 n L0 (q2h.st0 x0 x1 x2 x3 x4 x5 x6 x7 x8)=(bif (decide (x4 < ((((x1).length / 1):Nat):Int))) then (bif inB x4 ((x1).length / 1) then ((x1[((Int.toNat x4)*1)]?).bind fun e5=>((oSl 1 e5).bind fun c6=>((LIM F.q1c [(.rref [(.sl 1 x5),(.sl 1 x6)] 0),(.sl 1 c6)]).bind fun r7=>((oNil r7.2).bind fun _=>((oSl 1 r7.1).bind fun c8=>(bif (decide (((((c8).length / 1):Nat):Int) > (24:Int))) then some ((.tup [(.agg [(.sl 1 []),(.sl 1 [])]),(.int .i64 (2:Int))]),[]) else (bif Nat.ble (((x8).length+1)*24) (140737488355328*1) then (L0 (q2h.st0 x0 x1 x2 x3 (IntKind.wrap .i64 (x4+(1:Int))) x5 x6 x7 (x8++[(.sl 1 c8)]:List T))) else none))))))) else none) else ((LIM F.q20 [(.rref [(.sl 1 x7),(.sl 1 x8)] 0),(.int .i64 x2),(.sl 1 x3)]).bind fun r9=>((oNil r9.2).bind fun _=>((oAgg r9.1).bind fun c10=>((oCons c10).bind fun p11=>((oSl 1 p11.1).bind fun c12=>((oCons p11.2).bind fun p13=>((oSl 1 p13.1).bind fun c14=>((oNil p13.2).bind fun _=>some ((.tup [(.agg [(.sl 1 c12),(.sl 1 c14)]),(.int .i64 (0:Int))]),[])))))))))):=by kernel_rfl
theorem q2h.ev (n:Nat) (a0_0 a0_1:List T) (a1:Int) (a2:List T):callK prog A H LIM n F.q2h [(.rref [(.sl 1 a0_0),(.sl 1 a0_1)] 0),(.int .i64 a1),(.sl 1 a2)]=((LIM F.q21 [(.sl 1 a2),(.int .i64 (IntKind.wrap .i64 ((-1:Int) - a1)))]).bind fun r1=>((oNil r1.2).bind fun _=>((oInt .i64 r1.1).bind fun n2=>(bif (decide (n2 > (0:Int))) then some ((.tup [(.agg [(.sl 1 []),(.sl 1 [])]),(.int .i64 (4:Int))]),[]) else ((LIM F.q38 [(.sl 1 a0_0)]).bind fun r3=>((oNil r3.2).bind fun _=>((oSl 1 r3.1).bind fun c4=>(q2h.at0 n n (q2h.st0 a0_0 a0_1 a1 a2 (0:Int) [(.int .i64 a1)] [(.sl 1 a2)] c4 []))))))))):=by kernel_rfl
def q1k.st0 (x0 x1 x2:List T) (x3 x4:Int) (x5 x6:List T):St:=⟨[(0,(.one (.t (.rref [(.sl 2 x0)] 0)))),(1,ol 1 x1),(2,ol 1 x2),(3,oi x3),(8,(.one (.ptr 512 0))),(10,(.one (.ptr 640 0))),(11,oi x4)],[(512,(.box [.nil,.nil])),(640,(.box [(.obj 520240),(.obj 520241)])),(520240,(.arr true true 1 x5)),(520241,(.arr true true 1 x6))]⟩
noncomputable def q1k.K0 (n:Nat):Ex→St→R:=kx F.q1k n [.block 0,.seq 0 (cx F.q1k [1,1,1])] (endOf prog A F.q1k)
noncomputable def q1k.at0 (n:Nat) (m:Nat) (s:St):R:=lx F.q1k n 0 [1,1,0,1,0,0] (q1k.K0 n) m s
noncomputable def q1k.rd0 (n:Nat) (L0:St→R) (s:St):R:=rx F.q1k n 0 [1,1,0,1,0,0] (q1k.K0 n) L0 s
theorem q1k.next0 (n:Nat) (m:Nat) (s:St):q1k.at0 n (m+1) s=q1k.rd0 n (q1k.at0 n m) s:=nx _ _ _ _ _ _ _
theorem q1k.round0 (n:Nat) (L0:St→R) (x0 x1 x2:List T) (x3 x4:Int) (x5 x6:List T):q1k.rd0 n L0 (q1k.st0 x0 x1 x2 x3 x4 x5 x6)=(bif (decide (x4 < ((((x1).length / 1):Nat):Int))) then (bif (decide (x3 ≥ ((((x2).length / 1):Nat):Int))) then some ((.tup [(.agg [(.sl 1 []),(.sl 1 [])]),(.bool false)]),[]) else (bif inB x4 ((x1).length / 1) then ((x1[((Int.toNat x4)*1)]?).bind fun e1=>((oInt .i64 e1).bind fun n2=>(bif (decide (n2 ≥ (0:Int))) then (bif inB x3 ((x2).length / 1) then ((x2[((Int.toNat x3)*1)]?).bind fun e3=>((oInt .i64 e3).bind fun n4=>(bif inB x4 ((x1).length / 1) then ((x1[((Int.toNat x4)*1)]?).bind fun e5=>((oInt .i64 e5).bind fun n6=>(bif ((n4 != n6)) then some ((.tup [(.agg [(.sl 1 []),(.sl 1 [])]),(.bool false)]),[]) else (L0 (q1k.st0 x0 x1 x2 (IntKind.wrap .i64 (x3+(1:Int))) (IntKind.wrap .i64 (x4+(1:Int))) x5 x6))))) else none))) else none) else ((LIM F.q68 [(.rref [(.sl 2 x0)] 0),(.sl 1 x2),(.int .i64 x3)]).bind fun r7=>((oNil r7.2).bind fun _=>((oSl 1 r7.1).bind fun c8=>(bif inB x4 ((x1).length / 1) then ((x1[((Int.toNat x4)*1)]?).bind fun e9=>((oInt .i64 e9).bind fun n10=>((LIM F.q2t [(.rref [(.sl 1 x5),(.sl 1 x6)] 0),(.int .i64 (IntKind.wrap .i64 ((-1:Int) - n10)))]).bind fun r11=>((oNil r11.2).bind fun _=>((oSl 1 r11.1).bind fun c12=>(bif (c12).all T.scalar then (bif ((((((c12).length / 1):Nat):Int) == (0:Int))) then (bif inB x4 ((x1).length / 1) then ((x1[((Int.toNat x4)*1)]?).bind fun e13=>((oInt .i64 e13).bind fun n14=>((LIM F.q20 [(.rref [(.sl 1 x5),(.sl 1 x6)] 0),(.int .i64 (IntKind.wrap .i64 ((-1:Int) - n14))),(.sl 1 c8)]).bind fun r15=>((oNil r15.2).bind fun _=>((oAgg r15.1).bind fun c16=>((oCons c16).bind fun p17=>((oSl 1 p17.1).bind fun c18=>((oCons p17.2).bind fun p19=>((oSl 1 p19.1).bind fun c20=>((oNil p19.2).bind fun _=>(L0 (q1k.st0 x0 x1 x2 (IntKind.wrap .i64 (x3+((((c8).length / 1):Nat):Int))) (IntKind.wrap .i64 (x4+(1:Int))) c18 c20)))))))))))) else none) else ((LIM F.q26 [(.sl 1 c12),(.sl 1 c8)]).bind fun r21=>((oNil r21.2).bind fun _=>((oBool r21.1).bind fun b22=>(bif (!b22) then some ((.tup [(.agg [(.sl 1 []),(.sl 1 [])]),(.bool false)]),[]) else (L0 (q1k.st0 x0 x1 x2 (IntKind.wrap .i64 (x3+((((c8).length / 1):Nat):Int))) (IntKind.wrap .i64 (x4+(1:Int))) x5 x6))))))) else none)))))) else none))))))) else none)) else some ((.tup [(.agg [(.sl 1 x5),(.sl 1 x6)]),(.bool true)]),[])):=by kernel_rfl
theorem q1k.ev (n:Nat) (a0_0 a1 a2:List T) (a3:Int):callK prog A H LIM n F.q1k [(.rref [(.sl 2 a0_0)] 0),(.sl 1 a1),(.sl 1 a2),(.int .i64 a3)]=(q1k.at0 n n (q1k.st0 a0_0 a1 a2 a3 (0:Int) [] [])):=by kernel_rfl
def q27.st0 (x0:List T) (x1 x2:Int) (x3:List T):St:=⟨[(0,ol 1 x0),(1,oi x1),(5,(.one (.obj 448))),(6,oi x2)],[(448,(.arr true true 1 x3))]⟩
noncomputable def q27.K0 (n:Nat):Ex→St→R:=kx F.q27 n [.block 0,.seq 0 (cx F.q27 [1,1,1])] (endOf prog A F.q27)
noncomputable def q27.at0 (n:Nat) (m:Nat) (s:St):R:=lx F.q27 n 0 [1,1,0,1,0,0] (q27.K0 n) m s
noncomputable def q27.rd0 (n:Nat) (L0:St→R) (s:St):R:=rx F.q27 n 0 [1,1,0,1,0,0] (q27.K0 n) L0 s
theorem q27.next0 (n:Nat) (m:Nat) (s:St):q27.at0 n (m+1) s=q27.rd0 n (q27.at0 n m) s:=nx _ _ _ _ _ _ _
theorem q27.round0 (n:Nat) (L0:St→R) (x0:List T) (x1 x2:Int) (x3:List T):q27.rd0 n L0 (q27.st0 x0 x1 x2 x3)=(bif (decide (x2 < ((((x0).length / 1):Nat):Int))) then (bif inB x2 ((x0).length / 1) then ((x0[((Int.toNat x2)*1)]?).bind fun e1=>((oInt .i64 e1).bind fun n2=>(bif (decide (n2 < (0:Int))) then (bif inB x2 ((x0).length / 1) then ((x0[((Int.toNat x2)*1)]?).bind fun e3=>((oInt .i64 e3).bind fun n4=>(bif Nat.ble (((x3).length+1)*8) (140737488355328*1) then (L0 (q27.st0 x0 x1 (IntKind.wrap .i64 (x2+(1:Int))) (x3++[(.int .i64 (IntKind.wrap .i64 (n4 - x1)))]:List T))) else none))) else none) else (bif inB x2 ((x0).length / 1) then ((x0[((Int.toNat x2)*1)]?).bind fun e5=>((oInt .i64 e5).bind fun n6=>(bif Nat.ble (((x3).length+1)*8) (140737488355328*1) then (L0 (q27.st0 x0 x1 (IntKind.wrap .i64 (x2+(1:Int))) (x3++[(.int .i64 n6)]:List T))) else none))) else none)))) else none) else some ((.sl 1 x3),[])):=by kernel_rfl
theorem q27.ev (n:Nat) (a0:List T) (a1:Int):callK prog A H LIM n F.q27 [(.sl 1 a0),(.int .i64 a1)]=(q27.at0 n n (q27.st0 a0 a1 (0:Int) [])):=by kernel_rfl
def q2t.st0 (x0 x1:List T) (x2 x3:Int):St:=⟨[(0,(.one (.t (.rref [(.sl 1 x0),(.sl 1 x1)] 0)))),(1,oi x2),(5,oi x3)],[]⟩
noncomputable def q2t.K0 (n:Nat):Ex→St→R:=kx F.q2t n [.block 0,.seq 0 (cx F.q2t [1,1])] (endOf prog A F.q2t)
noncomputable def q2t.at0 (n:Nat) (m:Nat) (s:St):R:=lx F.q2t n 0 [1,0,1,0,0] (q2t.K0 n) m s
noncomputable def q2t.rd0 (n:Nat) (L0:St→R) (s:St):R:=rx F.q2t n 0 [1,0,1,0,0] (q2t.K0 n) L0 s
theorem q2t.next0 (n:Nat) (m:Nat) (s:St):q2t.at0 n (m+1) s=q2t.rd0 n (q2t.at0 n m) s:=nx _ _ _ _ _ _ _
theorem q2t.round0 (n:Nat) (L0:St→R) (x0 x1:List T) (x2 x3:Int):q2t.rd0 n L0 (q2t.st0 x0 x1 x2 x3)=(bif (decide (x3 < ((((x0).length / 1):Nat):Int))) then (bif inB x3 ((x0).length / 1) then ((x0[((Int.toNat x3)*1)]?).bind fun e1=>((oInt .i64 e1).bind fun n2=>(bif ((n2 == x2)) then (bif inB x3 ((x1).length / 1) then ((x1[((Int.toNat x3)*1)]?).bind fun e3=>((oSl 1 e3).bind fun c4=>some ((.sl 1 c4),[]))) else none) else (L0 (q2t.st0 x0 x1 x2 (IntKind.wrap .i64 (x3+(1:Int)))))))) else none) else some ((.sl 1 []),[])):=by kernel_rfl
theorem q2t.ev (n:Nat) (a0_0 a0_1:List T) (a1:Int):callK prog A H LIM n F.q2t [(.rref [(.sl 1 a0_0),(.sl 1 a0_1)] 0),(.int .i64 a1)]=(q2t.at0 n n (q2t.st0 a0_0 a0_1 a1 (0:Int))):=by kernel_rfl
def q1n.st0 (x0 x1 x2 x3:List T):St:=⟨[(0,(.one (.t (.rref [(.sl 2 x0)] 0)))),(6,(.one (.ptr 384 0))),(8,(.one (.ptr 512 0))),(9,ol 2 x1)],[(384,(.box [.nil,.nil])),(512,(.box [(.obj 518192),(.obj 518193)])),(518192,(.arr true true 1 x2)),(518193,(.arr true true 1 x3))]⟩
noncomputable def q1n.K0 (n:Nat):Ex→St→R:=kx F.q1n n [.block 0,.seq 0 (cx F.q1n [1,1,1,1])] (endOf prog A F.q1n)
noncomputable def q1n.at0 (n:Nat) (m:Nat) (s:St):R:=lx F.q1n n 0 [1,1,1,0,0,0] (q1n.K0 n) m s
noncomputable def q1n.rd0 (n:Nat) (L0:St→R) (s:St):R:=rx F.q1n n 0 [1,1,1,0,0,0] (q1n.K0 n) L0 s
theorem q1n.next0 (n:Nat) (m:Nat) (s:St):q1n.at0 n (m+1) s=q1n.rd0 n (q1n.at0 n m) s:=nx _ _ _ _ _ _ _
theorem q1n.round0 (n:Nat) (L0:St→R) (x0 x1 x2 x3:List T):q1n.rd0 n L0 (q1n.st0 x0 x1 x2 x3)=(bif (decide (((((x1).length / 2):Nat):Int) > (0:Int))) then (bif inB (0:Int) ((x1).length / 2) then ((x1[0]?).bind fun e5=>((oSl 1 e5).bind fun c6=>((LIM F.q1c [(.rref [(.sl 1 x2),(.sl 1 x3)] 0),(.sl 1 c6)]).bind fun r7=>((oNil r7.2).bind fun _=>((oSl 1 r7.1).bind fun c8=>(bif inB (0:Int) ((x1).length / 2) then ((x1[1]?).bind fun e9=>((oSl 1 e9).bind fun c10=>((LIM F.q1c [(.rref [(.sl 1 x2),(.sl 1 x3)] 0),(.sl 1 c10)]).bind fun r11=>((oNil r11.2).bind fun _=>((oSl 1 r11.1).bind fun c12=>(bif decide (0≤(1:Int))&&decide ((1:Int)≤((((x1).length / 2):Nat):Int))&&decide (((((x1).length / 2):Nat):Int)≤((((x1).length / 2):Nat):Int)) then (bif (decide (((((c8).length / 1):Nat):Int) > (24:Int))) then some ((.tup [(.agg [(.sl 1 []),(.sl 1 [])]),(.int .i64 (2:Int))]),[]) else (bif (decide (((((c12).length / 1):Nat):Int) > (24:Int))) then some ((.tup [(.agg [(.sl 1 []),(.sl 1 [])]),(.int .i64 (2:Int))]),[]) else ((LIM F.q26 [(.sl 1 c8),(.sl 1 c12)]).bind fun r13=>((oNil r13.2).bind fun _=>((oBool r13.1).bind fun b14=>(bif b14 then (L0 (q1n.st0 x0 ((x1.take ((Int.toNat ((((x1).length / 2):Nat):Int))*2)).drop (1*2)) x2 x3)) else (bif inB (0:Int) ((c8).length / 1) then ((c8[0]?).bind fun e15=>((oInt .i64 e15).bind fun n16=>(bif (decide (n16 < (0:Int))) then (bif inB (0:Int) ((c8).length / 1) then ((c8[0]?).bind fun e17=>((oInt .i64 e17).bind fun n18=>((LIM F.q2h [(.rref [(.sl 1 x2),(.sl 1 x3)] 0),(.int .i64 (IntKind.wrap .i64 ((-1:Int) - n18))),(.sl 1 c12)]).bind fun r19=>((oNil r19.2).bind fun _=>((oTup r19.1).bind fun c20=>((oCons c20).bind fun p21=>((oAgg p21.1).bind fun c22=>((oCons c22).bind fun p23=>((oSl 1 p23.1).bind fun c24=>((oCons p23.2).bind fun p25=>((oSl 1 p25.1).bind fun c26=>((oNil p25.2).bind fun _=>((oCons p21.2).bind fun p27=>((oInt .i64 p27.1).bind fun n28=>((oNil p27.2).bind fun _=>(bif ((n28 != (0:Int))) then some ((.tup [(.agg [(.sl 1 []),(.sl 1 [])]),(.int .i64 n28)]),[]) else (L0 (q1n.st0 x0 ((x1.take ((Int.toNat ((((x1).length / 2):Nat):Int))*2)).drop (1*2)) c24 c26)))))))))))))))))) else none) else (bif inB (0:Int) ((c12).length / 1) then ((c12[0]?).bind fun e29=>((oInt .i64 e29).bind fun n30=>(bif (decide (n30 < (0:Int))) then (bif inB (0:Int) ((c12).length / 1) then ((c12[0]?).bind fun e31=>((oInt .i64 e31).bind fun n32=>((LIM F.q2h [(.rref [(.sl 1 x2),(.sl 1 x3)] 0),(.int .i64 (IntKind.wrap .i64 ((-1:Int) - n32))),(.sl 1 c8)]).bind fun r33=>((oNil r33.2).bind fun _=>((oTup r33.1).bind fun c34=>((oCons c34).bind fun p35=>((oAgg p35.1).bind fun c36=>((oCons c36).bind fun p37=>((oSl 1 p37.1).bind fun c38=>((oCons p37.2).bind fun p39=>((oSl 1 p39.1).bind fun c40=>((oNil p39.2).bind fun _=>((oCons p35.2).bind fun p41=>((oInt .i64 p41.1).bind fun n42=>((oNil p41.2).bind fun _=>(bif ((n42 != (0:Int))) then some ((.tup [(.agg [(.sl 1 []),(.sl 1 [])]),(.int .i64 n42)]),[]) else (L0 (q1n.st0 x0 ((x1.take ((Int.toNat ((((x1).length / 2):Nat):Int))*2)).drop (1*2)) c38 c40)))))))))))))))))) else none) else (bif inB (0:Int) ((c8).length / 1) then ((c8[0]?).bind fun e43=>((oInt .i64 e43).bind fun n44=>(bif inB (0:Int) ((c12).length / 1) then ((c12[0]?).bind fun e45=>((oInt .i64 e45).bind fun n46=>(bif ((n44 != n46)) then some ((.tup [(.agg [(.sl 1 []),(.sl 1 [])]),(.int .i64 (4:Int))]),[]) else ((LIM F.q2w [(.rref [(.sl 2 x0)] 0),(.sl 1 c8),(.sl 1 c12)]).bind fun r47=>((oNil r47.2).bind fun _=>((oSl 2 r47.1).bind fun c48=>(bif Nat.ble (((c48).length+(((x1.take ((Int.toNat ((((x1).length / 2):Nat):Int))*2)).drop (1*2))).length)*48) (140737488355328*2) then (L0 (q1n.st0 x0 (c48++((x1.take ((Int.toNat ((((x1).length / 2):Nat):Int))*2)).drop (1*2)):List T) x2 x3)) else none))))))) else none))) else none)))) else none)))) else none))))))) else none)))))) else none)))))) else none) else some ((.tup [(.agg [(.sl 1 x2),(.sl 1 x3)]),(.int .i64 (0:Int))]),[])):=by kernel_rfl
theorem q1n.ev (n:Nat) (a0_0 a1 a2:List T):callK prog A H LIM n F.q1n [(.rref [(.sl 2 a0_0)] 0),(.sl 1 a1),(.sl 1 a2)]=((LIM F.q38 [(.sl 1 a1)]).bind fun r1=>((oNil r1.2).bind fun _=>((oSl 1 r1.1).bind fun c2=>((LIM F.q38 [(.sl 1 a2)]).bind fun r3=>((oNil r3.2).bind fun _=>((oSl 1 r3.1).bind fun c4=>(q1n.at0 n n (q1n.st0 a0_0 [(.sl 1 c2),(.sl 1 c4)] [] [])))))))):=by kernel_rfl
def q20.st0 (x0 x1:List T) (x2:Int) (x3:List T) (x4:Bool) (x5:Int) (x6 x7:List T):St:=⟨[(0,(.one (.t (.rref [(.sl 1 x0),(.sl 1 x1)] 0)))),(1,oi x2),(2,ol 1 x3),(6,(.one (.ptr 384 0))),(7,(.one (.ptr 448 0))),(8,(.one (.t (.bool x4)))),(9,oi x5)],[(384,(.box [.nil,.nil])),(448,(.box [(.obj 517168),(.obj 517169)])),(517168,(.arr true true 1 x6)),(517169,(.arr true true 1 x7))]⟩
noncomputable def q20.K0 (n:Nat):Ex→St→R:=kx F.q20 n [.block 0,.seq 0 (cx F.q20 [1,1,1,1])] (endOf prog A F.q20)
noncomputable def q20.at0 (n:Nat) (m:Nat) (s:St):R:=lx F.q20 n 0 [1,1,1,0,1,0,0] (q20.K0 n) m s
noncomputable def q20.rd0 (n:Nat) (L0:St→R) (s:St):R:=rx F.q20 n 0 [1,1,1,0,1,0,0] (q20.K0 n) L0 s
theorem q20.next0 (n:Nat) (m:Nat) (s:St):q20.at0 n (m+1) s=q20.rd0 n (q20.at0 n m) s:=nx _ _ _ _ _ _ _
theorem q20.round0 (n:Nat) (L0:St→R) (x0 x1:List T) (x2:Int) (x3:List T) (x4:Bool) (x5:Int) (x6 x7:List T):q20.rd0 n L0 (q20.st0 x0 x1 x2 x3 x4 x5 x6 x7)=(bif (decide (x5 < ((((x0).length / 1):Nat):Int))) then (bif (!x4) then (bif inB x5 ((x0).length / 1) then ((x0[((Int.toNat x5)*1)]?).bind fun e1=>((oInt .i64 e1).bind fun n2=>(bif (decide (n2 > x2)) then (bif Nat.ble (((x6).length+1)*8) (140737488355328*1) then ((LIM F.q38 [(.sl 1 x3)]).bind fun r3=>((oNil r3.2).bind fun _=>((oSl 1 r3.1).bind fun c4=>(bif Nat.ble (((x7).length+1)*24) (140737488355328*1) then (bif inB x5 ((x0).length / 1) then ((x0[((Int.toNat x5)*1)]?).bind fun e5=>((oInt .i64 e5).bind fun n6=>(bif Nat.ble ((((x6++[(.int .i64 x2)]:List T)).length+1)*8) (140737488355328*1) then (bif inB x5 ((x1).length / 1) then ((x1[((Int.toNat x5)*1)]?).bind fun e7=>((oSl 1 e7).bind fun c8=>((LIM F.q38 [(.sl 1 c8)]).bind fun r9=>((oNil r9.2).bind fun _=>((oSl 1 r9.1).bind fun c10=>(bif Nat.ble ((((x7++[(.sl 1 c4)]:List T)).length+1)*24) (140737488355328*1) then (L0 (q20.st0 x0 x1 x2 x3 true (IntKind.wrap .i64 (x5+(1:Int))) ((x6++[(.int .i64 x2)]:List T)++[(.int .i64 n6)]:List T) ((x7++[(.sl 1 c4)]:List T)++[(.sl 1 c10)]:List T))) else none)))))) else none) else none))) else none) else none)))) else none) else (bif inB x5 ((x0).length / 1) then ((x0[((Int.toNat x5)*1)]?).bind fun e11=>((oInt .i64 e11).bind fun n12=>(bif Nat.ble (((x6).length+1)*8) (140737488355328*1) then (bif inB x5 ((x1).length / 1) then ((x1[((Int.toNat x5)*1)]?).bind fun e13=>((oSl 1 e13).bind fun c14=>((LIM F.q38 [(.sl 1 c14)]).bind fun r15=>((oNil r15.2).bind fun _=>((oSl 1 r15.1).bind fun c16=>(bif Nat.ble (((x7).length+1)*24) (140737488355328*1) then (L0 (q20.st0 x0 x1 x2 x3 x4 (IntKind.wrap .i64 (x5+(1:Int))) (x6++[(.int .i64 n12)]:List T) (x7++[(.sl 1 c16)]:List T))) else none)))))) else none) else none))) else none)))) else none) else (bif inB x5 ((x0).length / 1) then ((x0[((Int.toNat x5)*1)]?).bind fun e17=>((oInt .i64 e17).bind fun n18=>(bif Nat.ble (((x6).length+1)*8) (140737488355328*1) then (bif inB x5 ((x1).length / 1) then ((x1[((Int.toNat x5)*1)]?).bind fun e19=>((oSl 1 e19).bind fun c20=>((LIM F.q38 [(.sl 1 c20)]).bind fun r21=>((oNil r21.2).bind fun _=>((oSl 1 r21.1).bind fun c22=>(bif Nat.ble (((x7).length+1)*24) (140737488355328*1) then (L0 (q20.st0 x0 x1 x2 x3 x4 (IntKind.wrap .i64 (x5+(1:Int))) (x6++[(.int .i64 n18)]:List T) (x7++[(.sl 1 c22)]:List T))) else none)))))) else none) else none))) else none)) else (bif (!x4) then (bif Nat.ble (((x6).length+1)*8) (140737488355328*1) then ((LIM F.q38 [(.sl 1 x3)]).bind fun r23=>((oNil r23.2).bind fun _=>((oSl 1 r23.1).bind fun c24=>(bif Nat.ble (((x7).length+1)*24) (140737488355328*1) then some ((.agg [(.sl 1 (x6++[(.int .i64 x2)]:List T)),(.sl 1 (x7++[(.sl 1 c24)]:List T))]),[]) else none)))) else none) else some ((.agg [(.sl 1 x6),(.sl 1 x7)]),[]))):=by kernel_rfl
theorem q20.ev (n:Nat) (a0_0 a0_1:List T) (a1:Int) (a2:List T):callK prog A H LIM n F.q20 [(.rref [(.sl 1 a0_0),(.sl 1 a0_1)] 0),(.int .i64 a1),(.sl 1 a2)]=(q20.at0 n n (q20.st0 a0_0 a0_1 a1 a2 false (0:Int) [] [])):=by kernel_rfl
def q0n.st4 (x0 x1 x2 x3:List T) (x4 x5:Int) (x6 x7:List T):St:=⟨[(0,(.one (.t (.rref [(.sl 2 x0)] 0)))),(2,ol 1 x1),(3,ol 1 x2),(6,ol 1 x3),(15,oi x4),(16,(.one (.obj 3584))),(18,(.one (.obj 6464))),(20,oi x5)],[(3584,(.arr true true 1 x6)),(6464,(.arr true true 1 x7))]⟩
def q0n.st2 (x0 x1 x2:List T) (x3 x4:Int) (x5:List T) (x6 x7:Int) (x8 x9:List T):St:=⟨[(0,(.one (.t (.rref [(.sl 2 x0)] 0)))),(2,ol 1 x1),(3,ol 1 x2),(4,oi x3),(5,oi x4),(6,ol 1 x5),(15,oi x6),(16,(.one (.obj 3584))),(18,(.one (.obj 6464))),(19,oi x7)],[(3584,(.arr true true 1 x8)),(6464,(.arr true true 1 x9))]⟩
def q0n.st0 (x0 x1 x2 x3:List T) (x4 x5:Int) (x6:List T) (x7 x8:Int) (x9:List T):St:=⟨[(0,(.one (.t (.rref [(.sl 2 x0)] 0)))),(1,ol 1 x1),(2,ol 1 x2),(3,ol 1 x3),(4,oi x4),(5,oi x5),(6,ol 1 x6),(15,oi x7),(16,(.one (.obj 3584))),(17,oi x8)],[(3584,(.arr true true 1 x9))]⟩
noncomputable def q0n.K0 (n:Nat):Ex→St→R:=kx F.q0n n [.block 0,.seq 0 (cx F.q0n [1,1,1,1,1,1])] (endOf prog A F.q0n)
noncomputable def q0n.at0 (n:Nat) (m:Nat) (s:St):R:=lx F.q0n n 0 [1,1,1,1,1,0,1,0,0] (q0n.K0 n) m s
noncomputable def q0n.rd0 (n:Nat) (L0:St→R) (s:St):R:=rx F.q0n n 0 [1,1,1,1,1,0,1,0,0] (q0n.K0 n) L0 s
theorem q0n.next0 (n:Nat) (m:Nat) (s:St):q0n.at0 n (m+1) s=q0n.rd0 n (q0n.at0 n m) s:=nx _ _ _ _ _ _ _
noncomputable def q0n.K2 (n:Nat):Ex→St→R:=kx F.q0n n [.block 2,.seq 0 (cx F.q0n [1,1,1,1,1,1,1,1,1])] (endOf prog A F.q0n)
noncomputable def q0n.at2 (n:Nat) (m:Nat) (s:St):R:=lx F.q0n n 2 [1,1,1,1,1,1,1,1,0,1,0,0] (q0n.K2 n) m s
noncomputable def q0n.rd2 (n:Nat) (L2:St→R) (s:St):R:=rx F.q0n n 2 [1,1,1,1,1,1,1,1,0,1,0,0] (q0n.K2 n) L2 s
theorem q0n.next2 (n:Nat) (m:Nat) (s:St):q0n.at2 n (m+1) s=q0n.rd2 n (q0n.at2 n m) s:=nx _ _ _ _ _ _ _
noncomputable def q0n.K4 (n:Nat):Ex→St→R:=kx F.q0n n [.block 4,.seq 0 (cx F.q0n [1,1,1,1,1,1,1,1,1,1,1])] (endOf prog A F.q0n)
noncomputable def q0n.at4 (n:Nat) (m:Nat) (s:St):R:=lx F.q0n n 4 [1,1,1,1,1,1,1,1,1,1,0,1,0,0] (q0n.K4 n) m s
noncomputable def q0n.rd4 (n:Nat) (L4:St→R) (s:St):R:=rx F.q0n n 4 [1,1,1,1,1,1,1,1,1,1,0,1,0,0] (q0n.K4 n) L4 s
theorem q0n.next4 (n:Nat) (m:Nat) (s:St):q0n.at4 n (m+1) s=q0n.rd4 n (q0n.at4 n m) s:=nx _ _ _ _ _ _ _
theorem q0n.round0 (n:Nat) (L0:St→R) (x0 x1 x2 x3:List T) (x4 x5:Int) (x6:List T) (x7 x8:Int) (x9:List T):q0n.rd0 n L0 (q0n.st0 x0 x1 x2 x3 x4 x5 x6 x7 x8 x9)=(bif (decide (x8 < ((((x9).length / 1):Nat):Int))) then (bif inB x8 ((x9).length / 1) then ((x9[((Int.toNat x8)*1)]?).bind fun e15=>((oInt .i64 e15).bind fun n16=>(bif inB (IntKind.wrap .i64 ((IntKind.wrap .i64 (n16*x7))+x5)) ((x6).length / 1) then ((x6[((Int.toNat (IntKind.wrap .i64 ((IntKind.wrap .i64 (n16*x7))+x5)))*1)]?).bind fun e17=>((oBool e17).bind fun b18=>(bif b18 then some ((.bool true),[]) else (bif inB x8 ((x9).length / 1) then ((x9[((Int.toNat x8)*1)]?).bind fun e19=>((oInt .i64 e19).bind fun n20=>((LIM F.q6r [(.rref [(.sl 2 x0)] 0),(.sl 1 x2),(.int .i64 n20),(.sl 1 x3),(.int .i64 x5)]).bind fun r21=>((oNil r21.2).bind fun _=>((oBool r21.1).bind fun b22=>(bif b22 then some ((.bool true),[]) else (L0 (q0n.st0 x0 x1 x2 x3 x4 x5 x6 x7 (IntKind.wrap .i64 (x8+(1:Int))) x9)))))))) else none)))) else none))) else none) else (bif inB x4 ((x2).length / 1) then ((x2[((Int.toNat x4)*1)]?).bind fun e23=>((oInt .i64 e23).bind fun n24=>((LIM F.q2p [(.sl 1 x1),(.int .i64 n24)]).bind fun r25=>((oNil r25.2).bind fun _=>((oInt .i64 r25.1).bind fun n26=>(bif inB x5 ((x3).length / 1) then ((x3[((Int.toNat x5)*1)]?).bind fun e27=>((oInt .i64 e27).bind fun n28=>((LIM F.q2p [(.sl 1 x1),(.int .i64 n28)]).bind fun r29=>((oNil r29.2).bind fun _=>((oInt .i64 r29.1).bind fun n30=>(bif (decide (n26 < n30)) then some ((.bool false),[]) else ((LIM F.q1w [(.rref [(.sl 2 x0)] 0),(.sl 1 x3),(.int .i64 x5)]).bind fun r31=>((oNil r31.2).bind fun _=>((oSl 1 r31.1).bind fun c32=>(q0n.at2 n n (q0n.st2 x0 x2 x3 x4 x5 x6 x7 (0:Int) x9 c32))))))))))) else none)))))) else none)):=by kernel_rfl
theorem q0n.round2 (n:Nat) (L2:St→R) (x0 x1 x2:List T) (x3 x4:Int) (x5:List T) (x6 x7:Int) (x8 x9:List T):q0n.rd2 n L2 (q0n.st2 x0 x1 x2 x3 x4 x5 x6 x7 x8 x9)=(bif (decide (x7 < ((((x9).length / 1):Nat):Int))) then (bif inB x7 ((x9).length / 1) then ((x9[((Int.toNat x7)*1)]?).bind fun e33=>((oInt .i64 e33).bind fun n34=>(bif inB (IntKind.wrap .i64 ((IntKind.wrap .i64 (x3*x6))+n34)) ((x5).length / 1) then ((x5[((Int.toNat (IntKind.wrap .i64 ((IntKind.wrap .i64 (x3*x6))+n34)))*1)]?).bind fun e35=>((oBool e35).bind fun b36=>(bif (!b36) then some ((.bool false),[]) else (L2 (q0n.st2 x0 x1 x2 x3 x4 x5 x6 (IntKind.wrap .i64 (x7+(1:Int))) x8 x9))))) else none))) else none) else (bif inB x3 ((x1).length / 1) then ((x1[((Int.toNat x3)*1)]?).bind fun e37=>((oInt .i64 e37).bind fun n38=>(bif inB x4 ((x2).length / 1) then ((x2[((Int.toNat x4)*1)]?).bind fun e39=>((oInt .i64 e39).bind fun n40=>(bif ((n38 != n40)) then some ((.bool true),[]) else (q0n.at4 n n (q0n.st4 x0 x1 x2 x5 x6 (0:Int) x8 x9))))) else none))) else none)):=by kernel_rfl
theorem q0n.round4 (n:Nat) (L4:St→R) (x0 x1 x2 x3:List T) (x4 x5:Int) (x6 x7:List T):q0n.rd4 n L4 (q0n.st4 x0 x1 x2 x3 x4 x5 x6 x7)=(bif (decide (x5 < ((((x6).length / 1):Nat):Int))) then (bif (decide (x5 < ((((x7).length / 1):Nat):Int))) then (bif inB x5 ((x6).length / 1) then ((x6[((Int.toNat x5)*1)]?).bind fun e41=>((oInt .i64 e41).bind fun n42=>(bif inB x5 ((x7).length / 1) then ((x7[((Int.toNat x5)*1)]?).bind fun e43=>((oInt .i64 e43).bind fun n44=>((LIM F.q6r [(.rref [(.sl 2 x0)] 0),(.sl 1 x1),(.int .i64 n42),(.sl 1 x2),(.int .i64 n44)]).bind fun r45=>((oNil r45.2).bind fun _=>((oBool r45.1).bind fun b46=>(bif (!b46) then (bif inB x5 ((x6).length / 1) then ((x6[((Int.toNat x5)*1)]?).bind fun e47=>((oInt .i64 e47).bind fun n48=>(bif inB x5 ((x7).length / 1) then ((x7[((Int.toNat x5)*1)]?).bind fun e49=>((oInt .i64 e49).bind fun n50=>(bif inB (IntKind.wrap .i64 ((IntKind.wrap .i64 (n48*x4))+n50)) ((x3).length / 1) then ((x3[((Int.toNat (IntKind.wrap .i64 ((IntKind.wrap .i64 (n48*x4))+n50)))*1)]?).bind fun e51=>((oBool e51).bind fun b52=>some ((.bool b52),[]))) else none))) else none))) else none) else (L4 (q0n.st4 x0 x1 x2 x3 x4 (IntKind.wrap .i64 (x5+(1:Int))) x6 x7)))))))) else none))) else none) else some ((.bool false),[])) else some ((.bool false),[])):=by kernel_rfl
theorem q0n.ev (n:Nat) (a0_0 a1 a2 a3:List T) (a4 a5:Int) (a6:List T):callK prog A H LIM n F.q0n [(.rref [(.sl 2 a0_0)] 0),(.sl 1 a1),(.sl 1 a2),(.sl 1 a3),(.int .i64 a4),(.int .i64 a5),(.sl 1 a6)]=(bif inB a5 ((a3).length / 1) then ((a3[((Int.toNat a5)*1)]?).bind fun e1=>((oInt .i64 e1).bind fun n2=>(bif (decide (n2 < (0:Int))) then (bif inB a4 ((a2).length / 1) then ((a2[((Int.toNat a4)*1)]?).bind fun e3=>((oInt .i64 e3).bind fun n4=>(bif (decide (n4 ≥ (0:Int))) then ((LIM F.q2r [(.rref [(.sl 2 a0_0)] 0),(.sl 1 a2),(.int .i64 a4)]).bind fun r5=>((oNil r5.2).bind fun _=>((oInt .i64 r5.1).bind fun n6=>(bif decide (0≤a4)&&decide (a4≤n6)&&decide (n6≤((((a2).length / 1):Nat):Int)) then (bif inB a5 ((a3).length / 1) then ((a3[((Int.toNat a5)*1)]?).bind fun e7=>((oInt .i64 e7).bind fun n8=>((LIM F.q21 [(.sl 1 ((a2.take ((Int.toNat n6)*1)).drop ((Int.toNat a4)*1))),(.int .i64 n8)]).bind fun r9=>((oNil r9.2).bind fun _=>((oInt .i64 r9.1).bind fun n10=>some ((.bool (decide (n10 > (0:Int)))),[])))))) else none) else none)))) else some ((.bool false),[])))) else none) else (bif inB a4 ((a2).length / 1) then ((a2[((Int.toNat a4)*1)]?).bind fun e11=>((oInt .i64 e11).bind fun n12=>(bif (decide (n12 < (0:Int))) then some ((.bool false),[]) else ((LIM F.q1w [(.rref [(.sl 2 a0_0)] 0),(.sl 1 a2),(.int .i64 a4)]).bind fun r13=>((oNil r13.2).bind fun _=>((oSl 1 r13.1).bind fun c14=>(q0n.at0 n n (q0n.st0 a0_0 a1 a2 a3 a4 a5 a6 ((((a3).length / 1):Nat):Int) (0:Int) c14)))))))) else none)))) else none):=by kernel_rfl
theorem q6r.ev (n:Nat) (a0_0 a1:List T) (a2:Int) (a3:List T) (a4:Int):callK prog A H LIM n F.q6r [(.rref [(.sl 2 a0_0)] 0),(.sl 1 a1),(.int .i64 a2),(.sl 1 a3),(.int .i64 a4)]=((LIM F.q2r [(.rref [(.sl 2 a0_0)] 0),(.sl 1 a1),(.int .i64 a2)]).bind fun r1=>((oNil r1.2).bind fun _=>((oInt .i64 r1.1).bind fun n2=>(bif decide (0≤a2)&&decide (a2≤n2)&&decide (n2≤((((a1).length / 1):Nat):Int)) then ((LIM F.q2r [(.rref [(.sl 2 a0_0)] 0),(.sl 1 a3),(.int .i64 a4)]).bind fun r3=>((oNil r3.2).bind fun _=>((oInt .i64 r3.1).bind fun n4=>(bif decide (0≤a4)&&decide (a4≤n4)&&decide (n4≤((((a3).length / 1):Nat):Int)) then ((LIM F.q26 [(.sl 1 ((a1.take ((Int.toNat n2)*1)).drop ((Int.toNat a2)*1))),(.sl 1 ((a3.take ((Int.toNat n4)*1)).drop ((Int.toNat a4)*1)))]).bind fun r5=>((oNil r5.2).bind fun _=>((oBool r5.1).bind fun b6=>some ((.bool b6),[])))) else none)))) else none)))):=by kernel_rfl
def q2m.st0 (x0 x1 x2:List T) (x3:Int):St:=⟨[(0,(.one (.t (.rref [(.sl 2 x0)] 0)))),(1,ol 1 x1),(2,ol 2 x2),(7,oi x3)],[]⟩
noncomputable def q2m.K0 (n:Nat):Ex→St→R:=kx F.q2m n [.block 0,.seq 0 (cx F.q2m [1,1])] (endOf prog A F.q2m)
noncomputable def q2m.at0 (n:Nat) (m:Nat) (s:St):R:=lx F.q2m n 0 [1,0,1,0,0] (q2m.K0 n) m s
noncomputable def q2m.rd0 (n:Nat) (L0:St→R) (s:St):R:=rx F.q2m n 0 [1,0,1,0,0] (q2m.K0 n) L0 s
theorem q2m.next0 (n:Nat) (m:Nat) (s:St):q2m.at0 n (m+1) s=q2m.rd0 n (q2m.at0 n m) s:=nx _ _ _ _ _ _ _
theorem q2m.round0 (n:Nat) (L0:St→R) (x0 x1 x2:List T) (x3:Int):q2m.rd0 n L0 (q2m.st0 x0 x1 x2 x3)=(bif (decide (x3 < ((((x2).length / 2):Nat):Int))) then (bif inB x3 ((x2).length / 2) then ((x2[((Int.toNat x3)*2)]?).bind fun e1=>((oSl 1 e1).bind fun c2=>(bif inB x3 ((x2).length / 2) then ((x2[(((Int.toNat x3)*2)+1)]?).bind fun e3=>((oSl 1 e3).bind fun c4=>((LIM F.q8i [(.rref [(.sl 2 x0)] 0),(.sl 1 x1),(.sl 1 c2),(.sl 1 c4)]).bind fun r5=>((oNil r5.2).bind fun _=>((oBool r5.1).bind fun b6=>(bif (!b6) then some ((.bool false),[]) else (L0 (q2m.st0 x0 x1 x2 (IntKind.wrap .i64 (x3+(1:Int))))))))))) else none))) else none) else some ((.bool true),[])):=by kernel_rfl
theorem q2m.ev (n:Nat) (a0_0 a1 a2:List T):callK prog A H LIM n F.q2m [(.rref [(.sl 2 a0_0)] 0),(.sl 1 a1),(.sl 2 a2)]=(q2m.at0 n n (q2m.st0 a0_0 a1 a2 (0:Int))):=by kernel_rfl
theorem q8i.ev (n:Nat) (a0_0 a1 a2 a3:List T):callK prog A H LIM n F.q8i [(.rref [(.sl 2 a0_0)] 0),(.sl 1 a1),(.sl 1 a2),(.sl 1 a3)]=((LIM F.q0x [(.rref [(.sl 2 a0_0)] 0),(.sl 1 a1),(.sl 1 a2),(.sl 1 a3)]).bind fun r1=>((oNil r1.2).bind fun _=>((oSl 1 r1.1).bind fun c2=>(bif inB (0:Int) ((c2).length / 1) then ((c2[0]?).bind fun e3=>((oBool e3).bind fun b4=>some ((.bool b4),[]))) else none)))):=by kernel_rfl
def q1w.st0 (x0 x1:List T) (x2 x3 x4:Int) (x5:List T):St:=⟨[(0,(.one (.t (.rref [(.sl 2 x0)] 0)))),(1,ol 1 x1),(2,oi x2),(7,(.one (.obj 640))),(8,oi x3),(9,oi x4)],[(640,(.arr true true 1 x5))]⟩
noncomputable def q1w.K0 (n:Nat):Ex→St→R:=kx F.q1w n [.block 0,.seq 0 (cx F.q1w [1,1,1,1])] (endOf prog A F.q1w)
noncomputable def q1w.at0 (n:Nat) (m:Nat) (s:St):R:=lx F.q1w n 0 [1,1,1,0,1,0,0] (q1w.K0 n) m s
noncomputable def q1w.rd0 (n:Nat) (L0:St→R) (s:St):R:=rx F.q1w n 0 [1,1,1,0,1,0,0] (q1w.K0 n) L0 s
theorem q1w.next0 (n:Nat) (m:Nat) (s:St):q1w.at0 n (m+1) s=q1w.rd0 n (q1w.at0 n m) s:=nx _ _ _ _ _ _ _
theorem q1w.round0 (n:Nat) (L0:St→R) (x0 x1:List T) (x2 x3 x4:Int) (x5:List T):q1w.rd0 n L0 (q1w.st0 x0 x1 x2 x3 x4 x5)=(bif inB x2 ((x1).length / 1) then ((x1[((Int.toNat x2)*1)]?).bind fun e1=>((oInt .i64 e1).bind fun n2=>(bif inB n2 ((x0).length / 2) then ((x0[(((Int.toNat n2)*2)+1)]?).bind fun e3=>((oInt .i64 e3).bind fun n4=>(bif (decide (x4 < n4)) then (bif Nat.ble (((x5).length+1)*8) (140737488355328*1) then ((LIM F.q2r [(.rref [(.sl 2 x0)] 0),(.sl 1 x1),(.int .i64 x3)]).bind fun r5=>((oNil r5.2).bind fun _=>((oInt .i64 r5.1).bind fun n6=>(L0 (q1w.st0 x0 x1 x2 n6 (IntKind.wrap .i64 (x4+(1:Int))) (x5++[(.int .i64 x3)]:List T)))))) else none) else some ((.sl 1 x5),[])))) else none))) else none):=by kernel_rfl
theorem q1w.ev (n:Nat) (a0_0 a1:List T) (a2:Int):callK prog A H LIM n F.q1w [(.rref [(.sl 2 a0_0)] 0),(.sl 1 a1),(.int .i64 a2)]=(q1w.at0 n n (q1w.st0 a0_0 a1 a2 (IntKind.wrap .i64 (a2+(1:Int))) (0:Int) [])):=by kernel_rfl
def q0x.st2 (x0 x1 x2 x3:List T) (x4 x5 x6:Int) (x7:List T):St:=⟨[(0,(.one (.t (.rref [(.sl 2 x0)] 0)))),(1,ol 1 x1),(2,ol 1 x2),(3,ol 1 x3),(9,oi x4),(10,(.one (.obj 1216))),(11,oi x5),(12,oi x6)],[(1216,(.arr true true 1 x7))]⟩
def q0x.st0 (x0 x1 x2 x3:List T) (x4 x5:Int) (x6:List T):St:=⟨[(0,(.one (.t (.rref [(.sl 2 x0)] 0)))),(1,ol 1 x1),(2,ol 1 x2),(3,ol 1 x3),(9,oi x4),(10,(.one (.obj 1216))),(11,oi x5)],[(1216,(.arr true true 1 x6))]⟩
noncomputable def q0x.K0 (n:Nat):Ex→St→R:=kx F.q0x n [.block 0,.seq 0 (cx F.q0x [1,1,1,1])] (endOf prog A F.q0x)
noncomputable def q0x.at0 (n:Nat) (m:Nat) (s:St):R:=lx F.q0x n 0 [1,1,1,0,1,0,0] (q0x.K0 n) m s
noncomputable def q0x.rd0 (n:Nat) (L0:St→R) (s:St):R:=rx F.q0x n 0 [1,1,1,0,1,0,0] (q0x.K0 n) L0 s
theorem q0x.next0 (n:Nat) (m:Nat) (s:St):q0x.at0 n (m+1) s=q0x.rd0 n (q0x.at0 n m) s:=nx _ _ _ _ _ _ _
noncomputable def q0x.K2 (n:Nat) (L0:St→R):Ex→St→R:=kx F.q0x n [.block 2,.block 1,.seq 0 (cx F.q0x [1,1,1,0,1,0,0,1,1])] (bx F.q0x 0 (q0x.K0 n) L0)
noncomputable def q0x.at2 (n:Nat) (L0:St→R) (m:Nat) (s:St):R:=lx F.q0x n 2 [1,1,1,0,1,0,0,1,0,0,1,0,0] (q0x.K2 n L0) m s
noncomputable def q0x.rd2 (n:Nat) (L0:St→R) (L2:St→R) (s:St):R:=rx F.q0x n 2 [1,1,1,0,1,0,0,1,0,0,1,0,0] (q0x.K2 n L0) L2 s
theorem q0x.next2 (n:Nat) (L0:St→R) (m:Nat) (s:St):q0x.at2 n L0 (m+1) s=q0x.rd2 n L0 (q0x.at2 n L0 m) s:=nx _ _ _ _ _ _ _
theorem q0x.round0 (n:Nat) (L0:St→R) (x0 x1 x2 x3:List T) (x4 x5:Int) (x6:List T):q0x.rd0 n L0 (q0x.st0 x0 x1 x2 x3 x4 x5 x6)=(bif (decide (x5 ≥ (0:Int))) then (q0x.at2 n L0 n (q0x.st2 x0 x1 x2 x3 x4 x5 (IntKind.wrap .i64 (x4 - (1:Int))) x6)) else some ((.sl 1 x6),[])):=by kernel_rfl
theorem q0x.round2 (n:Nat) (L0:St→R) (L2:St→R) (x0 x1 x2 x3:List T) (x4 x5 x6:Int) (x7:List T):q0x.rd2 n L0 L2 (q0x.st2 x0 x1 x2 x3 x4 x5 x6 x7)=(bif (decide (x6 ≥ (0:Int))) then ((LIM F.q0n [(.rref [(.sl 2 x0)] 0),(.sl 1 x1),(.sl 1 x2),(.sl 1 x3),(.int .i64 x5),(.int .i64 x6),(.sl 1 x7)]).bind fun r1=>((oNil r1.2).bind fun _=>((oBool r1.1).bind fun b2=>(bif inB (IntKind.wrap .i64 ((IntKind.wrap .i64 (x5*x4))+x6)) ((x7).length / 1) then (bif decide (((Int.toNat (IntKind.wrap .i64 ((IntKind.wrap .i64 (x5*x4))+x6)))*1)+1≤(x7).length) then (L2 (q0x.st2 x0 x1 x2 x3 x4 x5 (IntKind.wrap .i64 (x6 - (1:Int))) (setCells x7 ((Int.toNat (IntKind.wrap .i64 ((IntKind.wrap .i64 (x5*x4))+x6)))*1) [(.bool b2)]))) else none) else none)))) else (L0 (q0x.st0 x0 x1 x2 x3 x4 (IntKind.wrap .i64 (x5 - (1:Int))) x7))):=by kernel_rfl
theorem q0x.ev (n:Nat) (a0_0 a1 a2 a3:List T):callK prog A H LIM n F.q0x [(.rref [(.sl 2 a0_0)] 0),(.sl 1 a1),(.sl 1 a2),(.sl 1 a3)]=(bif decide (0≤(IntKind.wrap .i64 (((((a2).length / 1):Nat):Int)*((((a3).length / 1):Nat):Int))))&&decide ((IntKind.wrap .i64 (((((a2).length / 1):Nat):Int)*((((a3).length / 1):Nat):Int)))=(IntKind.wrap .i64 (((((a2).length / 1):Nat):Int)*((((a3).length / 1):Nat):Int))))&&Nat.ble (((Int.toNat (IntKind.wrap .i64 (((((a2).length / 1):Nat):Int)*((((a3).length / 1):Nat):Int))))*1)*1) (140737488355328*1) then (q0x.at0 n n (q0x.st0 a0_0 a1 a2 a3 ((((a3).length / 1):Nat):Int) (IntKind.wrap .i64 (((((a2).length / 1):Nat):Int) - (1:Int))) (repT (Int.toNat (IntKind.wrap .i64 (((((a2).length / 1):Nat):Int)*((((a3).length / 1):Nat):Int)))) [(.bool false)]))) else none):=by kernel_rfl
theorem q8f.ev (n:Nat) (a0_0 a1 a2:List T):callK prog A H LIM n F.q8f [(.rref [(.sl 2 a0_0)] 0),(.sl 2 a1),(.sl 1 a2)]=((LIM F.q4x [(.agg [(.sl 2 a0_0)]),(.sl 2 a1)]).bind fun r1=>((oNil r1.2).bind fun _=>((oInt .i64 r1.1).bind fun n2=>(bif ((n2 != (0:Int))) then some ((.int .i64 n2),[]) else ((LIM F.q1l [(.rref [(.sl 2 a0_0)] 0),(.sl 1 a2)]).bind fun r3=>((oNil r3.2).bind fun _=>((oInt .i64 r3.1).bind fun n4=>some ((.int .i64 n4),[])))))))):=by kernel_rfl
def q0u.st2 (x0:List T) (x1 x2:Int):St:=⟨[(1,ol 2 x0),(6,oi x1),(7,oi x2)],[]⟩
def q0u.st0 (x0:List T) (x1:Int):St:=⟨[(1,ol 2 x0),(6,oi x1)],[]⟩
noncomputable def q0u.K0 (n:Nat):Ex→St→R:=kx F.q0u n [.block 0,.seq 0 (cx F.q0u [1,1,1])] (endOf prog A F.q0u)
noncomputable def q0u.at0 (n:Nat) (m:Nat) (s:St):R:=lx F.q0u n 0 [1,1,0,1,0,0] (q0u.K0 n) m s
noncomputable def q0u.rd0 (n:Nat) (L0:St→R) (s:St):R:=rx F.q0u n 0 [1,1,0,1,0,0] (q0u.K0 n) L0 s
theorem q0u.next0 (n:Nat) (m:Nat) (s:St):q0u.at0 n (m+1) s=q0u.rd0 n (q0u.at0 n m) s:=nx _ _ _ _ _ _ _
noncomputable def q0u.K2 (n:Nat) (L0:St→R):Ex→St→R:=kx F.q0u n [.block 2,.block 1,.seq 0 (cx F.q0u [1,1,0,1,0,0,1,1])] (bx F.q0u 0 (q0u.K0 n) L0)
noncomputable def q0u.at2 (n:Nat) (L0:St→R) (m:Nat) (s:St):R:=lx F.q0u n 2 [1,1,0,1,0,0,1,0,0,1,1,0,0] (q0u.K2 n L0) m s
noncomputable def q0u.rd2 (n:Nat) (L0:St→R) (L2:St→R) (s:St):R:=rx F.q0u n 2 [1,1,0,1,0,0,1,0,0,1,1,0,0] (q0u.K2 n L0) L2 s
theorem q0u.next2 (n:Nat) (L0:St→R) (m:Nat) (s:St):q0u.at2 n L0 (m+1) s=q0u.rd2 n L0 (q0u.at2 n L0 m) s:=nx _ _ _ _ _ _ _
theorem q0u.round0 (n:Nat) (L0:St→R) (x0:List T) (x1:Int):q0u.rd0 n L0 (q0u.st0 x0 x1)=(bif (decide (x1 < ((((x0).length / 2):Nat):Int))) then (bif inB x1 ((x0).length / 2) then ((x0[((Int.toNat x1)*2)]?).bind fun e3=>((oSl 1 e3).bind fun c4=>(bif inB (0:Int) ((c4).length / 1) then ((c4[0]?).bind fun e5=>((oInt .i64 e5).bind fun n6=>(bif (decide (n6 < (0:Int))) then some ((.int .i64 (1:Int)),[]) else (q0u.at2 n L0 n (q0u.st2 x0 x1 (0:Int)))))) else none))) else none) else some ((.int .i64 (0:Int)),[])):=by kernel_rfl
theorem q0u.round2 (n:Nat) (L0:St→R) (L2:St→R) (x0:List T) (x1 x2:Int):q0u.rd2 n L0 L2 (q0u.st2 x0 x1 x2)=(bif inB x1 ((x0).length / 2) then ((x0[(((Int.toNat x1)*2)+1)]?).bind fun e7=>((oSl 1 e7).bind fun c8=>(bif (decide (x2 < ((((c8).length / 1):Nat):Int))) then (bif inB x1 ((x0).length / 2) then ((x0[(((Int.toNat x1)*2)+1)]?).bind fun e9=>((oSl 1 e9).bind fun c10=>(bif inB x2 ((c10).length / 1) then ((c10[((Int.toNat x2)*1)]?).bind fun e11=>((oInt .i64 e11).bind fun n12=>(bif (decide (n12 < (0:Int))) then (bif inB x1 ((x0).length / 2) then ((x0[((Int.toNat x1)*2)]?).bind fun e13=>((oSl 1 e13).bind fun c14=>((LIM F.q21 [(.sl 1 c14),(.int .i64 n12)]).bind fun r15=>((oNil r15.2).bind fun _=>((oInt .i64 r15.1).bind fun n16=>(bif ((n16 == (0:Int))) then some ((.int .i64 (1:Int)),[]) else (L2 (q0u.st2 x0 x1 (IntKind.wrap .i64 (x2+(1:Int))))))))))) else none) else (L2 (q0u.st2 x0 x1 (IntKind.wrap .i64 (x2+(1:Int)))))))) else none))) else none) else (L0 (q0u.st0 x0 (IntKind.wrap .i64 (x1+(1:Int)))))))) else none):=by kernel_rfl
theorem q0u.ev (n:Nat) (a0_0 a1:List T):callK prog A H LIM n F.q0u [(.rref [(.sl 2 a0_0)] 0),(.sl 2 a1)]=((LIM F.q2d [(.rref [(.sl 2 a0_0)] 0),(.sl 2 a1)]).bind fun r1=>((oNil r1.2).bind fun _=>((oInt .i64 r1.1).bind fun n2=>(bif ((n2 != (0:Int))) then some ((.int .i64 n2),[]) else (q0u.at0 n n (q0u.st0 a1 (0:Int))))))):=by kernel_rfl
theorem q6y.ev (n:Nat) (a0_0 a1_0 a1_1:List T) (a2:Int) (a3:List T):callK prog A H LIM n F.q6y [(.rref [(.sl 2 a0_0)] 0),(.rref [(.sl 1 a1_0),(.sl 1 a1_1)] 0),(.int .i64 a2),(.sl 1 a3)]=((LIM F.q1k [(.rref [(.sl 2 a0_0)] 0),(.sl 1 a1_0),(.sl 1 a3),(.int .i64 a2)]).bind fun r1=>((oNil r1.2).bind fun _=>((oTup r1.1).bind fun c2=>((oCons c2).bind fun p3=>((oAgg p3.1).bind fun c4=>((oCons c4).bind fun p5=>((oSl 1 p5.1).bind fun c6=>((oCons p5.2).bind fun p7=>((oSl 1 p7.1).bind fun c8=>((oNil p7.2).bind fun _=>((oCons p3.2).bind fun p9=>((oBool p9.1).bind fun b10=>((oNil p9.2).bind fun _=>(bif (!b10) then some ((.tup [(.sl 1 []),(.int .i64 (4:Int))]),[]) else ((LIM F.q1c [(.rref [(.sl 1 c6),(.sl 1 c8)] 0),(.sl 1 a1_1)]).bind fun r11=>((oNil r11.2).bind fun _=>((oSl 1 r11.1).bind fun c12=>((LIM F.q5n [(.rref [(.sl 2 a0_0)] 0),(.sl 1 a3),(.int .i64 a2),(.sl 1 c12)]).bind fun r13=>((oNil r13.2).bind fun _=>((oSl 1 r13.1).bind fun c14=>(bif (decide (((((c14).length / 1):Nat):Int) > (24:Int))) then some ((.tup [(.sl 1 []),(.int .i64 (2:Int))]),[]) else some ((.tup [(.sl 1 c14),(.int .i64 (0:Int))]),[])))))))))))))))))))))):=by kernel_rfl
theorem q8g.ev (n:Nat) (a0_0 a1_0 a1_1 a2_0 a2_1:List T) (a3:Int):callK prog A H LIM n F.q8g [(.rref [(.sl 2 a0_0)] 0),(.rref [(.sl 1 a1_0),(.sl 1 a1_1)] 0),(.rref [(.sl 1 a2_0),(.sl 1 a2_1)] 0),(.int .i64 a3)]=((LIM F.q27 [(.sl 1 a2_0),(.int .i64 (6:Int))]).bind fun r1=>((oNil r1.2).bind fun _=>((oSl 1 r1.1).bind fun c2=>((LIM F.q27 [(.sl 1 a2_1),(.int .i64 (6:Int))]).bind fun r3=>((oNil r3.2).bind fun _=>((oSl 1 r3.1).bind fun c4=>((LIM F.q68 [(.rref [(.sl 2 a0_0)] 0),(.sl 1 a1_0),(.int .i64 a3)]).bind fun r5=>((oNil r5.2).bind fun _=>((oSl 1 r5.1).bind fun c6=>((LIM F.q1n [(.rref [(.sl 2 a0_0)] 0),(.sl 1 c6),(.sl 1 c2)]).bind fun r7=>((oNil r7.2).bind fun _=>((oTup r7.1).bind fun c8=>((oCons c8).bind fun p9=>((oAgg p9.1).bind fun c10=>((oCons c10).bind fun p11=>((oSl 1 p11.1).bind fun c12=>((oCons p11.2).bind fun p13=>((oSl 1 p13.1).bind fun c14=>((oNil p13.2).bind fun _=>((oCons p9.2).bind fun p15=>((oInt .i64 p15.1).bind fun n16=>((oNil p15.2).bind fun _=>(bif ((n16 != (0:Int))) then some ((.tup [(.agg [(.sl 1 []),(.sl 1 [])]),(.int .i64 n16)]),[]) else ((LIM F.q1c [(.rref [(.sl 1 c12),(.sl 1 c14)] 0),(.sl 1 a1_1)]).bind fun r17=>((oNil r17.2).bind fun _=>((oSl 1 r17.1).bind fun c18=>((LIM F.q5n [(.rref [(.sl 2 a0_0)] 0),(.sl 1 a1_0),(.int .i64 a3),(.sl 1 c4)]).bind fun r19=>((oNil r19.2).bind fun _=>((oSl 1 r19.1).bind fun c20=>((LIM F.q1c [(.rref [(.sl 1 c12),(.sl 1 c14)] 0),(.sl 1 c20)]).bind fun r21=>((oNil r21.2).bind fun _=>((oSl 1 r21.1).bind fun c22=>(bif (decide (((((c18).length / 1):Nat):Int) > (24:Int))) then some ((.tup [(.agg [(.sl 1 []),(.sl 1 [])]),(.int .i64 (2:Int))]),[]) else (bif (decide (((((c22).length / 1):Nat):Int) > (24:Int))) then some ((.tup [(.agg [(.sl 1 []),(.sl 1 [])]),(.int .i64 (2:Int))]),[]) else ((LIM F.q1p [(.rref [(.sl 1 c18),(.sl 1 c22)] 0)]).bind fun r23=>((oNil r23.2).bind fun _=>((oTup r23.1).bind fun c24=>((oCons c24).bind fun p25=>((oAgg p25.1).bind fun c26=>((oCons c26).bind fun p27=>((oSl 1 p27.1).bind fun c28=>((oCons p27.2).bind fun p29=>((oSl 1 p29.1).bind fun c30=>((oNil p29.2).bind fun _=>((oCons p25.2).bind fun p31=>((oBool p31.1).bind fun b32=>((oNil p31.2).bind fun _=>(bif (!b32) then some ((.tup [(.agg [(.sl 1 []),(.sl 1 [])]),(.int .i64 (2:Int))]),[]) else some ((.tup [(.agg [(.sl 1 c28),(.sl 1 c30)]),(.int .i64 (0:Int))]),[]))))))))))))))))))))))))))))))))))))))))))))))))):=by kernel_rfl
theorem qa7.ev (n:Nat) (a0_0 a1_0 a1_1 a2_0 a2_1:List T):callK prog A H LIM n F.qa7 [(.rref [(.sl 2 a0_0)] 0),(.rref [(.sl 1 a1_0),(.sl 1 a1_1)] 0),(.rref [(.sl 1 a2_0),(.sl 1 a2_1)] 0)]=((LIM F.q4x [(.agg [(.sl 2 a0_0)]),(.sl 2 [(.sl 1 a1_0),(.sl 1 a1_1),(.sl 1 a2_0),(.sl 1 a2_1)])]).bind fun r1=>((oNil r1.2).bind fun _=>((oInt .i64 r1.1).bind fun n2=>some ((.int .i64 n2),[])))):=by kernel_rfl
end Ev
end
section
end
section
namespace Ev.Ty
open Go Ev
open Enc (enc)
open Sm (sm)
set_option linter.unusedVariables false
theorem q5r {g:FuncId} {args:List T} {r:T × List T} (hx:X g=none) (n:Nat) (h:callK prog A H LIM n g args=some r):LIM g args=some r:=lim_of hx n h
theorem cells_le {α:Type} [Enc α] {l:List α} {a:Nat}:(a≤(cells l).length)=(a≤l.length*Enc.sz α):=by rw [q0s]
def chain {α:Type} (h:Int→α→Int→Prop):Int→List α→Int→Prop
 | k,[],k'=>k=k'
 | k,x::l,k'=>∃ c,h k x c∧chain h c l k'
theorem set_same {α:Type} {o:List α} {i:Nat} {x:α} (h:o[i]?=some x):o.set i x=o:=by
 refine List.ext_getElem? fun j => ?_
 rw [List.getElem?_set]
 split
 · rename_i e; subst e
   have:=(List.getElem?_eq_some_iff.1 h).1
   rw [if_pos this,h]
 · rfl
theorem mark_loop {α:Type} {l:List α} {k b:Int} {h:Int→α→Int→Prop} {S:Nat→Int→Nat→List α→R} {z:Int→List α→R}
 (step:∀ m c i (o:List α) (x:α),i < o.length→o.length=l.length→x∈l→k≤c→c≤k+(i:Int)*b →
  ∃ y c',S (m+1) c i (o.set i x)=S m c' (i+1) (o.set i y)∧h c y c'∧c≤c'∧c'≤c+b)
 (stop:∀ m c (o:List α),o.length=l.length→S (m+1) c l.length o=z c o) (h0:0≤k) (f:Nat) (hf:l.length < f) :
 ∃ l' k',S f k 0 l=z k' l'∧l'.length=l.length∧chain h k l' k'∧k≤k'∧k'≤k+(l.length:Int)*b:=by
 have:∀ m c i o,i≤l.length→l.length < m+i→o.length=l.length→o.drop i=l.drop i→k≤c→c≤k+(i:Int)*b →
  ∃ l' k',S m c i o=z k' l'∧l'.length=l.length∧l'.take i=o.take i∧chain h c (l'.drop i) k'∧k≤k'∧k'≤k+(l.length:Int)*b:=by
  intro m
  induction m with
  | zero=>intros; omega
  | succ m ih =>
    intro c i o hi hm ho hd hc1 hc2
    by_cases hlt:i < l.length
    · have hx:o[i]?=some l[i]:=by
       have:=congrArg (fun l=>l[0]?) hd
       simpa [List.getElem?_drop,List.getElem?_eq_getElem hlt] using this
      obtain ⟨y,c',e,hh,g1,g2⟩:=step m c i o l[i] (by omega) ho (List.getElem_mem hlt) hc1 hc2
      rw [set_same hx] at e
      have hmul:((i+1:Nat):Int)*b=(i:Int)*b+b:=by rw [Int.natCast_add,Int.add_mul]; simp
      obtain ⟨l',k',e',hl',ht,hc,g3,g4⟩:=ih c' (i+1) (o.set i y) (by omega) (by omega) (by simpa using ho) (by
       rw [List.drop_set_of_lt (by omega)]
       have:=congrArg (List.drop 1) hd
       simpa [List.drop_drop,Nat.add_comm] using this) (by omega) (by omega)
      refine ⟨l',k',e.trans e',hl',?_,?_,g3,g4⟩
      · have:=congrArg (List.take i) ht
        rw [List.take_take,List.take_take,Nat.min_eq_left (by omega),List.take_set_of_le (Nat.le_refl i)] at this
        exact this
      · have hy:l'[i]?=some y:=by
         have:=congrArg (fun l=>l[i]?) ht
         simpa [List.getElem?_take,List.getElem?_set_self (show i < o.length by omega)] using this
        obtain ⟨hi',hy'⟩:=List.getElem?_eq_some_iff.1 hy
        rw [List.drop_eq_getElem_cons hi',hy']
        exact ⟨c',hh,hc⟩
    · obtain rfl:i=l.length:=by omega
      refine ⟨o,c,stop m c o ho,ho,rfl,?_,hc1,hc2⟩
      rw [List.drop_of_length_le (by omega)]; rfl
 obtain ⟨l',k',e,hl,_,hc,g1,g2⟩:=this f k 0 l (by omega) (by omega) rfl rfl (Int.le_refl _) (by simp)
 exact ⟨l',k',e,hl,by simpa using hc,g1,g2⟩
theorem held_loop {α:Type} {l:List α} {h:Int→α→Int→Prop} {S:Nat→Int→Nat→R} {z:Int→R}
 (step:∀ m c i c' (hi:i < l.length),h c l[i] c'→S (m+1) c i=S m c' (i+1))
 (stop:∀ m c,S (m+1) c l.length=z c) {k k':Int} (hc:chain h k l k') {f:Nat} (hf:l.length < f):S f k 0=z k':=by
 have:∀ m c i,i≤l.length→l.length < m+i→chain h c (l.drop i) k'→S m c i=z k':=by
  intro m
  induction m with
  | zero=>intros; omega
  | succ m ih =>
    intro c i hi hm hc
    by_cases hlt:i < l.length
    · rw [List.drop_eq_getElem_cons hlt] at hc
      obtain ⟨c',hh,hc⟩:=hc
      rw [step m c i c' hlt hh]
      exact ih c' (i+1) (by omega) (by omega) hc
    · obtain rfl:i=l.length:=by omega
      rw [List.drop_of_length_le (Nat.le_refl _)] at hc
      obtain rfl:c=k':=hc
      exact stop m c
 exact this f k 0 (by omega) (by omega) (by simpa using hc)
theorem q7z {α:Type} [Enc α] {o:List α} {i n j:Nat} {x x':α} {c:T} (hn:Enc.sz α=n) (hi:i < o.length) (hj:j < n)
 (he:(enc x).set j c=enc x'):setCells (cells (o.set i x)) (i*n+j) [c]=cells (o.set i x'):=by
 subst hn
 rw [← q91 o _ i rfl x hi,← q91 o _ i rfl x' hi,← he]
 have hle:i*Enc.sz α+Enc.sz α≤o.length*Enc.sz α:=by
  rw [← Nat.succ_mul]; exact Nat.mul_le_mul_right _ hi
 have hl:=q0s o
 refine List.ext_getElem? fun q => ?_
 have hlen:(setCells (cells o) (i*Enc.sz α) (enc x)).length=(cells o).length:=q3l _ _ _
 have l1:(enc x).length=Enc.sz α:=Enc.len x
 have l2:((enc x).set j c).length=Enc.sz α:=by rw [List.length_set]; exact l1
 rw [q3g [c] _ _ _ (by rw [hlen,List.length_singleton]; omega),q3g (enc x) _ _ _ (by omega),q3g ((enc x).set j c) _ _ _ (by omega),l1,l2,List.length_singleton]
 by_cases hq:i*Enc.sz α+j=q
 · subst hq
   rw [if_pos ⟨by omega,by omega⟩,if_pos ⟨by omega,by omega⟩,List.getElem?_set,if_pos (by omega),if_pos (by omega)]
   simp
 · rw [if_neg (by omega)]
   split
   · rw [List.getElem?_set,if_neg (by omega)]
   · rfl
theorem fsets_gen {α:Type} [Enc α] {o:List α} {i n j:Nat} {x x':α} {c:T} (hn:Enc.sz α=n) (hi:i < o.length) (hj:j < n)
 (he:(enc x).set j c=enc x'):List.set (cells (o.set i x)) (i*n+j) c=cells (o.set i x'):=by
 rw [← q7z hn hi hj he]
 have hle:i*n+n≤o.length*n:=by
  rw [← Nat.succ_mul]; exact Nat.mul_le_mul_right _ hi
 refine List.ext_getElem? fun q => ?_
 have hl:(cells (o.set i x)).length=o.length*n:=by rw [q0s,List.length_set,hn]
 rw [q3g _ _ _ _ (by simp; omega),List.getElem?_set,List.length_singleton]
 by_cases hq:i*n+j=q
 · subst hq
   rw [if_pos rfl,if_pos (by omega),if_pos ⟨by omega,by omega⟩]; simp
 · rw [if_neg hq,if_neg (by omega)]
theorem fset_Int {o:List Int} {i:Nat} (hi:i < o.length) {x w:Int}:setCells (cells (o.set i x)) (i*1) [.int .i64 w]=cells (o.set i w):=q7z (n:=1) (j:=0) rfl hi (by decide) rfl
theorem q1s (k:Int) (h:0≤k∧k≤4611686018427387904):∃ t:ByteArray,LIM F.q1s [.int .i64 k]=some (.str t,[]):=by
 have loop:∀ f (k:Int) (t:ByteArray),0≤k→k < 2 ^ f→k≤4611686018427387904→t.size+f≤1000→∃ r:ByteArray,q1s.at0 64 (f+1) (q1s.st0 k t)=some (.str r,[]):=by
  intro f
  induction f with
  | zero =>
    intro k t h0 hk hk2 ht
    obtain rfl:k=0:=by omega
    refine ⟨ByteArray.mk #[109]++t,?_⟩
    simp only [q1s.next0,q1s.round0]
    rw [q7n (by decide),q16 (by rw [decide_eq_true_iff]; show 1+t.size≤_; omega)]
  | succ f ih =>
    intro k t h0 hk hk2 ht
    by_cases hz:k=0
    · subst hz
      refine ⟨ByteArray.mk #[109]++t,?_⟩
      simp only [q1s.next0,q1s.round0]
      rw [q7n (by decide),q16 (by rw [decide_eq_true_iff]; show 1+t.size≤_; omega)]
    · simp only [q1s.next0 64 (f+1),q1s.round0]
      rw [q16 (by rw [decide_eq_true_iff]; omega)]
      have he:∀ x:Int,(List.foldl (fun r n=>ByteArray.push r (UInt8.ofNat (Int.toNat n))) ByteArray.empty [x]).size=1:=fun x=>rfl
      have hd:Int.tdiv k 10=k / 10:=Int.tdiv_eq_ediv_of_nonneg h0
      rw [q16 (by rw [decide_eq_true_iff,he]; omega),hd,q3e (by omega)]
      exact ih _ _ (by omega) (by rw [Int.pow_succ] at hk; omega) (by omega) (by rw [ByteArray.size_append,he]; omega)
 by_cases hz:k≤0
 · exact ⟨_,q5r rfl 0 ((q1s.ev _ _).trans (q16 (by rw [decide_eq_true_iff]; exact hz)))⟩
 · obtain ⟨t,e⟩:=loop 63 k (ByteArray.mk #[]) (by omega) (by omega) (by omega) (by decide)
   exact ⟨t,q5r rfl 64 ((q1s.ev _ _).trans ((q7n (by rw [decide_eq_false_iff_not]; exact hz)).trans e))⟩
end Ev.Ty
end
section
namespace Ev.Ty
open Go Ev
theorem fset_Symbol_0 {o:List Symbol} {i:Nat} (hi:i < o.length) {v_name:ByteArray} {v_arity:Int} {w:ByteArray}:setCells (cells (o.set i ⟨v_name,v_arity⟩)) (i*2) [.str w]=cells (o.set i ⟨w,v_arity⟩):=q7z (n:=2) (j:=0) rfl hi (by decide) rfl
theorem fset_Symbol_1 {o:List Symbol} {i:Nat} (hi:i < o.length) {v_name:ByteArray} {v_arity:Int} {w:Int}:setCells (cells (o.set i ⟨v_name,v_arity⟩)) (i*2+1) [.int .i64 w]=cells (o.set i ⟨v_name,w⟩):=q7z (n:=2) (j:=1) rfl hi (by decide) rfl
theorem fset_Equation_0 {o:List Equation} {i:Nat} (hi:i < o.length) {v_left:List Int} {v_right:List Int} {w:List Int}:setCells (cells (o.set i ⟨v_left,v_right⟩)) (i*2) [slc w]=cells (o.set i ⟨w,v_right⟩):=q7z (n:=2) (j:=0) rfl hi (by decide) rfl
theorem fsets_Equation_0 {o:List Equation} {i:Nat} (hi:i < o.length) {v_left:List Int} {v_right:List Int} {w:List Int}:List.set (cells (o.set i ⟨v_left,v_right⟩)) (i*2) (slc w)=cells (o.set i ⟨w,v_right⟩):=fsets_gen (n:=2) (j:=0) rfl hi (by decide) rfl
theorem fset_Equation_1 {o:List Equation} {i:Nat} (hi:i < o.length) {v_left:List Int} {v_right:List Int} {w:List Int}:setCells (cells (o.set i ⟨v_left,v_right⟩)) (i*2+1) [slc w]=cells (o.set i ⟨v_left,w⟩):=q7z (n:=2) (j:=1) rfl hi (by decide) rfl
theorem fsets_Equation_1 {o:List Equation} {i:Nat} (hi:i < o.length) {v_left:List Int} {v_right:List Int} {w:List Int}:List.set (cells (o.set i ⟨v_left,v_right⟩)) (i*2+1) (slc w)=cells (o.set i ⟨v_left,w⟩):=fsets_gen (n:=2) (j:=1) rfl hi (by decide) rfl
theorem fset_Entry_0 {o:List Entry} {i:Nat} (hi:i < o.length) {v_kind:Int} {v_a:Int} {v_b:Int} {v_place:Int} {v_side:Int} {v_left:List Int} {v_right:List Int} {w:Int}:setCells (cells (o.set i ⟨v_kind,v_a,v_b,v_place,v_side,v_left,v_right⟩)) (i*7) [.int .i64 w]=cells (o.set i ⟨w,v_a,v_b,v_place,v_side,v_left,v_right⟩):=q7z (n:=7) (j:=0) rfl hi (by decide) rfl
theorem fset_Entry_1 {o:List Entry} {i:Nat} (hi:i < o.length) {v_kind:Int} {v_a:Int} {v_b:Int} {v_place:Int} {v_side:Int} {v_left:List Int} {v_right:List Int} {w:Int}:setCells (cells (o.set i ⟨v_kind,v_a,v_b,v_place,v_side,v_left,v_right⟩)) (i*7+1) [.int .i64 w]=cells (o.set i ⟨v_kind,w,v_b,v_place,v_side,v_left,v_right⟩):=q7z (n:=7) (j:=1) rfl hi (by decide) rfl
theorem fset_Entry_2 {o:List Entry} {i:Nat} (hi:i < o.length) {v_kind:Int} {v_a:Int} {v_b:Int} {v_place:Int} {v_side:Int} {v_left:List Int} {v_right:List Int} {w:Int}:setCells (cells (o.set i ⟨v_kind,v_a,v_b,v_place,v_side,v_left,v_right⟩)) (i*7+1+1) [.int .i64 w]=cells (o.set i ⟨v_kind,v_a,w,v_place,v_side,v_left,v_right⟩):=q7z (n:=7) (j:=2) rfl hi (by decide) rfl
theorem fset_Entry_3 {o:List Entry} {i:Nat} (hi:i < o.length) {v_kind:Int} {v_a:Int} {v_b:Int} {v_place:Int} {v_side:Int} {v_left:List Int} {v_right:List Int} {w:Int}:setCells (cells (o.set i ⟨v_kind,v_a,v_b,v_place,v_side,v_left,v_right⟩)) (i*7+1+1+1) [.int .i64 w]=cells (o.set i ⟨v_kind,v_a,v_b,w,v_side,v_left,v_right⟩):=q7z (n:=7) (j:=3) rfl hi (by decide) rfl
theorem fset_Entry_4 {o:List Entry} {i:Nat} (hi:i < o.length) {v_kind:Int} {v_a:Int} {v_b:Int} {v_place:Int} {v_side:Int} {v_left:List Int} {v_right:List Int} {w:Int}:setCells (cells (o.set i ⟨v_kind,v_a,v_b,v_place,v_side,v_left,v_right⟩)) (i*7+1+1+1+1) [.int .i64 w]=cells (o.set i ⟨v_kind,v_a,v_b,v_place,w,v_left,v_right⟩):=q7z (n:=7) (j:=4) rfl hi (by decide) rfl
theorem fset_Entry_5 {o:List Entry} {i:Nat} (hi:i < o.length) {v_kind:Int} {v_a:Int} {v_b:Int} {v_place:Int} {v_side:Int} {v_left:List Int} {v_right:List Int} {w:List Int}:setCells (cells (o.set i ⟨v_kind,v_a,v_b,v_place,v_side,v_left,v_right⟩)) (i*7+1+1+1+1+1) [slc w]=cells (o.set i ⟨v_kind,v_a,v_b,v_place,v_side,w,v_right⟩):=q7z (n:=7) (j:=5) rfl hi (by decide) rfl
theorem fsets_Entry_5 {o:List Entry} {i:Nat} (hi:i < o.length) {v_kind:Int} {v_a:Int} {v_b:Int} {v_place:Int} {v_side:Int} {v_left:List Int} {v_right:List Int} {w:List Int}:List.set (cells (o.set i ⟨v_kind,v_a,v_b,v_place,v_side,v_left,v_right⟩)) (i*7+1+1+1+1+1) (slc w)=cells (o.set i ⟨v_kind,v_a,v_b,v_place,v_side,w,v_right⟩):=fsets_gen (n:=7) (j:=5) rfl hi (by decide) rfl
theorem fset_Entry_6 {o:List Entry} {i:Nat} (hi:i < o.length) {v_kind:Int} {v_a:Int} {v_b:Int} {v_place:Int} {v_side:Int} {v_left:List Int} {v_right:List Int} {w:List Int}:setCells (cells (o.set i ⟨v_kind,v_a,v_b,v_place,v_side,v_left,v_right⟩)) (i*7+1+1+1+1+1+1) [slc w]=cells (o.set i ⟨v_kind,v_a,v_b,v_place,v_side,v_left,w⟩):=q7z (n:=7) (j:=6) rfl hi (by decide) rfl
theorem fsets_Entry_6 {o:List Entry} {i:Nat} (hi:i < o.length) {v_kind:Int} {v_a:Int} {v_b:Int} {v_place:Int} {v_side:Int} {v_left:List Int} {v_right:List Int} {w:List Int}:List.set (cells (o.set i ⟨v_kind,v_a,v_b,v_place,v_side,v_left,v_right⟩)) (i*7+1+1+1+1+1+1) (slc w)=cells (o.set i ⟨v_kind,v_a,v_b,v_place,v_side,v_left,w⟩):=fsets_gen (n:=7) (j:=6) rfl hi (by decide) rfl
end Ev.Ty
end
section
namespace Ev.Ty
open Go Ev
open Enc (enc)
open Sm (sm)
set_option linter.unusedVariables false
set_option linter.unusedSimpArgs false
theorem q7b (v_name:ByteArray) (v_arity:Int) (hs:sm 4294967296 (Symbol.mk v_name v_arity)):Call F.q7b [.agg [.str v_name,.int .i64 v_arity]] (.agg [.str v_name,.int .i64 v_arity]):=by
 refine q0m rfl 0 ((q7b.ev _ _ _ ).trans ?_)
 simp only [evz,Nat.reduceLT]
theorem q7c (v_name:ByteArray) (v_arity:Int) (w_name:ByteArray) (w_arity:Int) (hs:sm 4294967296 (Symbol.mk v_name v_arity)):Call F.q7c [.agg [.str v_name,.int .i64 v_arity],.agg [.str w_name,.int .i64 w_arity]] (.bool (decide ((Symbol.mk v_name v_arity)=(Symbol.mk w_name w_arity)))):=by
 refine q0m rfl 0 ((q7c.ev _ _ _ _ _ ).trans ?_)
 simp only [evz,Nat.reduceLT,Symbol.mk.injEq]
 by_cases h0:v_name=w_name
 case neg=>simp only [h0,  if_true,if_false,decide_false,cond_false,false_and,and_false]
 by_cases h1:v_arity=w_arity
 case neg=>simp only [h1,h0,  if_true,if_false,decide_false,cond_false,false_and,and_false]
 simp only [h0,h1,if_true,decide_true,cond_true,and_true,and_self]
theorem q6o (v_name:ByteArray) (v_arity:Int) (left:Int) (h0:0≤left) (h1:left≤1048576) (hs:sm maxLen (Symbol.mk v_name v_arity)):∃ r,Call F.q6o [.agg [.str v_name,.int .i64 v_arity],.int .i64 left] (.int .i64 r)∧r≤left∧(0≤r→sm 1048576 (Symbol.mk v_name v_arity)):=by
 have hl0:=hs
 have hl0:v_name.size≤maxLen:=hl0
 obtain ⟨r0,e0,hr0,hp0⟩:∃ r,r=left - (v_name.size:Int)∧r≤left∧(0≤r→v_name.size≤1048576):=⟨_,rfl,by omega,fun _=>by omega⟩
 have hw0:IntKind.wrap .i64 (left - ((v_name.size:Nat):Int))=r0:=by rw [q3e (by unfold maxLen at hl0; omega)]; exact e0.symm
 by_cases n0:r0 < 0
 · exact ⟨-1,q0m rfl 0 ((q6o.ev _ _ _ _ ).trans (by simp only [evz,Nat.reduceLT,hw0,n0])),by omega,by omega⟩
 exact ⟨r0,q0m rfl 0 ((q6o.ev _ _ _ _ ).trans (by simp only [evz,Nat.reduceLT,hw0,n0])),by omega,fun _=>hp0 (by omega)⟩
theorem q1q (l:List Symbol) (hs:sm 4294967296 l):Call F.q1q [slc l] (slc l):=by
 have loop:=to_loop (l:=l) (S:=fun m k o=>q1q.at0 (l.length+1) m (q1q.st0 (cells l) (k:Nat) (cells o))) (z:=slc l)
  (fun m k o h ho=>by
   simp only [q1q.next0,q1q.round0,evz,Nat.reduceLT,List.length_replicate,h,ho,(q7b l[k].name l[k].arity (hs.2 _ (List.getElem_mem h))).eq,List.getElem?_eq_getElem,q53]
   rw [set_Symbol (by omega),q0o (by have:=hs.1; omega)]
   simp only [q0s,sz_Symbol,q3r,sz_u8,q7t,ho]
   rw [if_pos (by omega)])
  (fun m o ho=>by
   simp only [q1q.next0,q1q.round0,evz,Nat.reduceLT,Nat.lt_irrefl,ho])
 refine q0m rfl (l.length+1) ((q1q.ev _ _).trans ?_)
 simp only [q3y,sz_Symbol,q3r,sz_u8,q7t,Int.toNat_natCast,rep_Symbol]
 rw [q16 (by have:=hs.1; simp; omega)]
 exact loop _ (by simp)
theorem q1r (l r:List Symbol) (hs:sm 4294967296 l):Call F.q1r [slc l,slc r] (.bool (decide (l=r))):=by
 refine q0m rfl (l.length+1) ((q1r.ev _ _ _).trans ?_)
 simp only [q3y,sz_Symbol,q3r,sz_u8,q7t]
 by_cases hl:l.length=r.length
 · have loop:=eq_loop hl (S:=fun m k=>q1r.at0 (l.length+1) m (q1r.st0 (cells l) (cells r) (k:Nat)))
    (fun m k h h'=>by
     simp only [q1r.next0,q1r.round0,evz,Nat.reduceLT,h,h',(q7c l[k].name l[k].arity r[k].name r[k].arity (hs.2 _ (List.getElem_mem h))).eq,List.getElem?_eq_getElem,q53]
     rw [q0o (by have:=hs.1; omega)])
    (fun m=>by
     simp only [q1r.next0,q1r.round0,evz,Nat.reduceLT,Nat.lt_irrefl])
   rw [q7n (by rw [hl]; exact bne_self_eq_false _)]
   exact loop
 · rw [q16 (by simp; omega)]
   simp only [show (l=r)=False from eq_false fun e=>hl (e ▸ rfl),decide_false]
theorem q1m (l:List Symbol) (left:Int) (h0:0≤left) (h1:left≤1048576) (hs:sm maxLen l):∃ r,Call F.q1m [slc l,.int .i64 left] (.int .i64 r)∧r≤left∧(0≤r→sm 1048576 l):=by
 have hl:=hs.1
 have hw:IntKind.wrap .i64 (left - ((l.length:Nat):Int))=left - l.length:=q3e (by unfold maxLen at hl; omega)
 by_cases h:left - (l.length:Int) < 0
 · exact ⟨-1,q0m rfl 0 ((q1m.ev _ _ _).trans (by simp only [evz,Nat.reduceLT,hw,h])),by omega,by omega⟩
 · obtain ⟨r,e,hr,hp⟩:=sz_loop (l:=l) (P:=sm 1048576) (S:=fun m k left=>q1m.at0 (l.length+1) m (q1m.st0 (cells l) left (k:Nat)))
    (fun m k left hk h0 h1=>by
     obtain ⟨r,c,hr,hp⟩:=q6o l[k].name l[k].arity left h0 h1 (hs.2 _ (List.getElem_mem hk))
     refine ⟨r,hr,hp,?_⟩
     simp only [q1m.next0,q1m.round0,evz,Nat.reduceLT,hk,List.getElem?_eq_getElem,q53,c.eq]
     rw [q0o (by unfold maxLen at hl; omega)])
    (fun m left=>by simp only [q1m.next0,q1m.round0,evz,Nat.reduceLT,Nat.lt_irrefl])
    (left - l.length) (by omega) (by omega)
   refine ⟨r,q0m rfl (l.length+1) ((q1m.ev _ _ _).trans ?_),by omega,fun h=>⟨by omega,hp h⟩⟩
   simp only [q3y,sz_Symbol,q7t,hw,h,decide_false,cond_false]
   exact e
theorem q1b (l:List Symbol) (k:Int) (h0:0≤k) (hk:k≤4611686018293170176) (hs:sm 67108864 l):∃ (l':List Symbol) (k':Int),LIM F.q1b [slc l,.int .i64 k]=some (.int .i64 k',[slc l'])∧k≤k'∧k'≤k+134217728:=by
 obtain ⟨l',k',e,hl,hc,g,b⟩:=mark_loop (l:=l) (k:=k) (b:=2) (h:=fun _ (_:Symbol) _=>True) (S:=fun m c i o=>q1b.at0 (l.length+1) m (q1b.st0 c (i:Nat) (cells o))) (z:=fun c o=>some (.int .i64 c,[slc o]))
  (fun m c i o x hi ho hm hc1 hc2=>by
   have hx:=hs.2 x hm
   have hl:=hs.1
   have hio:i < l.length:=by omega
   obtain ⟨x_name,x_arity⟩:=x
   obtain ⟨t0,e0⟩:=q1s c (by omega)
   have w0:IntKind.wrap .i64 (c+1)=c+1:=q3e (by omega)
   have w1:IntKind.wrap .i64 (c+1+1)=c+1+1:=q3e (by omega)
   have hb0:i*2+1≤o.length*2:=by omega
   have hb1:i*2+1+1≤o.length*2:=by omega
   refine ⟨⟨t0,c+1⟩,c+1+1,?_,trivial,by omega,by omega⟩
   simp only [q1b.next0,q1b.round0,evz,Nat.reduceLT,List.length_set,List.getElem?_set_self hi,cells_le,hi,Nat.lt_irrefl,q53,hb0,hb1,fset_Symbol_0 hi,fset_Symbol_1 hi,e0,w0,w1,List.set_set]
   rw [q0o (by omega)])
  (fun m c o ho=>by simp only [q1b.next0,q1b.round0,evz,Nat.reduceLT,ho,Nat.lt_irrefl]) h0
  (l.length+1) (by omega)
 have hl1:=hs.1
 refine ⟨l',k',?_,by omega,by omega⟩
 · refine q5r rfl (l.length+1) ((q1b.ev _ _ _).trans ?_)
   exact e
theorem q4n (v_symbols:List Symbol) (hs:sm 4294967296 (Signature.mk v_symbols)):Call F.q4n [.agg [slc v_symbols]] (.agg [slc v_symbols]):=by
 refine q0m rfl 0 ((q4n.ev _ _ ).trans ?_)
 simp only [evz,Nat.reduceLT,(q1q _ hs).eq]
theorem q5v (v_symbols:List Symbol) (w_symbols:List Symbol) (hs:sm 4294967296 (Signature.mk v_symbols)):Call F.q5v [.agg [slc v_symbols],.agg [slc w_symbols]] (.bool (decide ((Signature.mk v_symbols)=(Signature.mk w_symbols)))):=by
 refine q0m rfl 0 ((q5v.ev _ _ _ ).trans ?_)
 simp only [evz,Nat.reduceLT,(q1r _ _ hs).eq,Signature.mk.injEq]
 by_cases h0:v_symbols=w_symbols
 case neg=>simp only [h0,  if_true,if_false,decide_false,cond_false,false_and,and_false]
 simp only [h0,if_true,decide_true,cond_true,and_true,and_self]
theorem q5d (v_symbols:List Symbol) (left:Int) (h0:0≤left) (h1:left≤1048576) (hs:sm maxLen (Signature.mk v_symbols)):∃ r,Call F.q5d [.agg [slc v_symbols],.int .i64 left] (.int .i64 r)∧r≤left∧(0≤r→sm 1048576 (Signature.mk v_symbols)):=by
 obtain ⟨r0,c0,hr0,hp0⟩:=q1m v_symbols left h0 h1 (hs)
 by_cases n0:r0 < 0
 · exact ⟨-1,q0m rfl 0 ((q5d.ev _ _ _ ).trans (by simp only [evz,Nat.reduceLT,c0.eq,n0])),by omega,by omega⟩
 exact ⟨r0,q0m rfl 0 ((q5d.ev _ _ _ ).trans (by simp only [evz,Nat.reduceLT,c0.eq,n0])),by omega,fun _=>hp0 (by omega)⟩
theorem q59 (v_symbols:List Symbol) (k:Int) (h0:0≤k) (hk:k≤4611686018293170176) (hs:sm 67108864 (Signature.mk v_symbols)):∃ (u_symbols:List Symbol) (k':Int),LIM F.q59 [.agg [slc v_symbols],.int .i64 k]=some (.int .i64 k',[.agg [slc u_symbols]])∧k≤k'∧k'≤k+134217728:=by
 obtain ⟨u_symbols,c_symbols,e_symbols,g_symbols,b_symbols⟩:=q1b v_symbols k (by omega) (by omega) (hs)
 have n_symbols:¬ c_symbols < 0:=by omega
 refine ⟨u_symbols,c_symbols,q5r rfl 0 ((q59.ev _ _ _ ).trans ?_),by omega,by omega⟩
 · simp only [evz,Nat.reduceLT,e_symbols]
theorem q17 (l:List Int) (hs:sm 4294967296 l):Call F.q17 [slc l] (slc l):=by
 have loop:=to_loop (l:=l) (S:=fun m k o=>q17.at0 (l.length+1) m (q17.st0 (cells l) (k:Nat) (cells o))) (z:=slc l)
  (fun m k o h ho=>by
   simp only [q17.next0,q17.round0,evz,Nat.reduceLT,List.length_replicate,h,ho,List.getElem?_eq_getElem,q1x,enc_u8,q8l]
   rw [set_Int (by omega),q0o (by have:=hs.1; omega)]
   simp only [q0s,q3r,sz_u8,q7t,ho]
   rw [if_pos (by omega)])
  (fun m o ho=>by
   simp only [q17.next0,q17.round0,evz,Nat.reduceLT,Nat.lt_irrefl,ho])
 refine q0m rfl (l.length+1) ((q17.ev _ _).trans ?_)
 simp only [q3y,q3r,sz_u8,q7t,Int.toNat_natCast,rep_Int]
 rw [q16 (by have:=hs.1; simp; omega)]
 exact loop _ (by simp)
theorem q15 (l r:List Int) (hs:sm 4294967296 l):Call F.q15 [slc l,slc r] (.bool (decide (l=r))):=by
 refine q0m rfl (l.length+1) ((q15.ev _ _ _).trans ?_)
 simp only [q3y,q3r,sz_u8,q7t]
 by_cases hl:l.length=r.length
 · have loop:=eq_loop hl (S:=fun m k=>q15.at0 (l.length+1) m (q15.st0 (cells l) (cells r) (k:Nat)))
    (fun m k h h'=>by
     simp only [q15.next0,q15.round0,evz,Nat.reduceLT,h,h',List.getElem?_eq_getElem,q1x,enc_u8,q8l]
     rw [q0o (by have:=hs.1; omega)])
    (fun m=>by
     simp only [q15.next0,q15.round0,evz,Nat.reduceLT,Nat.lt_irrefl])
   rw [q7n (by rw [hl]; exact bne_self_eq_false _)]
   exact loop
 · rw [q16 (by simp; omega)]
   simp only [show (l=r)=False from eq_false fun e=>hl (e ▸ rfl),decide_false]
theorem q3f (l:List Int) (left:Int) (h0:0≤left) (h1:left≤1048576) (hs:sm maxLen l):∃ r,Call F.q3f [slc l,.int .i64 left] (.int .i64 r)∧r≤left∧(0≤r→sm 1048576 l):=by
 have hl:=hs.1
 have hw:IntKind.wrap .i64 (left - ((l.length:Nat):Int))=left - l.length:=q3e (by unfold maxLen at hl; omega)
 by_cases h:left - (l.length:Int) < 0
 · exact ⟨-1,q0m rfl 0 ((q3f.ev _ _ _).trans (by simp only [evz,Nat.reduceLT,hw,h])),by omega,by omega⟩
 · refine ⟨left - l.length,q0m rfl 0 ((q3f.ev _ _ _).trans (by simp only [evz,Nat.reduceLT,hw,h])),by omega,fun _=>⟨by omega,fun x hx=>trivial⟩⟩
theorem q0z (l:List Int) (k:Int) (h0:0≤k) (hk:k≤4611686018360279040) (hs:sm 67108864 l):∃ (l':List Int) (k':Int),LIM F.q0z [slc l,.int .i64 k]=some (.int .i64 k',[slc l'])∧k≤k'∧k'≤k+67108864∧LIM F.q1d [slc l',.int .i64 k]=some (.int .i64 k',[]):=by
 obtain ⟨l',k',e,hl,hc,g,b⟩:=mark_loop (l:=l) (k:=k) (b:=1) (h:=fun (c:Int) (y:Int) (c':Int)=>y=c∧c'=c+1∧0≤c∧c≤4611686018427387904) (S:=fun m c i o=>q0z.at0 (l.length+1) m (q0z.st0 c (i:Nat) (cells o))) (z:=fun c o=>some (.int .i64 c,[slc o]))
  (fun m c i o x hi ho hm hc1 hc2=>by
   have hx:=hs.2 x hm
   have hl:=hs.1
   have hio:i < l.length:=by omega
   skip
   have w0:IntKind.wrap .i64 (c+1)=c+1:=q3e (by omega)
   have hb0:i*1+1≤o.length*1:=by omega
   refine ⟨c,c+1,?_,⟨rfl,rfl,by omega,by omega⟩,by omega,by omega⟩
   simp only [q0z.next0,q0z.round0,evz,Nat.reduceLT,List.length_set,List.getElem?_set_self hi,cells_le,hi,Nat.lt_irrefl,q1x,enc_u8,q8l,hb0,fset_Int hi,w0,List.set_set]
   rw [q0o (by omega)])
  (fun m c o ho=>by simp only [q0z.next0,q0z.round0,evz,Nat.reduceLT,ho,Nat.lt_irrefl]) h0
  (l.length+1) (by omega)
 have hl1:=hs.1
 refine ⟨l',k',?_,by omega,by omega,?_⟩
 · refine q5r rfl (l.length+1) ((q0z.ev _ _ _).trans ?_)
   exact e
 · refine q0m rfl (l'.length+1) ((q1d.ev _ _ _).trans ?_)
   refine held_loop (l:=l') (S:=fun m c i=>q1d.at0 (l'.length+1) m (q1d.st0 (cells l') c (i:Nat))) (z:=fun c=>some (.int .i64 c,[]))
    (fun m c i c' hi => ?_)
    (fun m c=>by simp only [q1d.next0,q1d.round0,evz,Nat.reduceLT,Nat.lt_irrefl]) hc (by omega)
   rintro ⟨q0,qe,qa,qb⟩
   rw [qe]
   have w0:IntKind.wrap .i64 (c+1)=c+1:=q3e (by omega)
   simp only [q1d.next0,q1d.round0,evz,Nat.reduceLT,hi,List.getElem?_eq_getElem,q1x,enc_u8,q8l,q0,w0]
   rw [q0o (by omega)]
theorem q6d (v_left:List Int) (v_right:List Int) (hs:sm 4294967296 (Equation.mk v_left v_right)):Call F.q6d [.agg [slc v_left,slc v_right]] (.agg [slc v_left,slc v_right]):=by
 refine q0m rfl 0 ((q6d.ev _ _ _ ).trans ?_)
 simp only [evz,Nat.reduceLT,(q17 _ hs.1).eq,(q17 _ hs.2).eq]
theorem q6j (v_left:List Int) (v_right:List Int) (w_left:List Int) (w_right:List Int) (hs:sm 4294967296 (Equation.mk v_left v_right)):Call F.q6j [.agg [slc v_left,slc v_right],.agg [slc w_left,slc w_right]] (.bool (decide ((Equation.mk v_left v_right)=(Equation.mk w_left w_right)))):=by
 refine q0m rfl 0 ((q6j.ev _ _ _ _ _ ).trans ?_)
 simp only [evz,Nat.reduceLT,(q15 _ _ hs.1).eq,(q15 _ _ hs.2).eq,Equation.mk.injEq]
 by_cases h0:v_left=w_left
 case neg=>simp only [h0,  if_true,if_false,decide_false,cond_false,false_and,and_false]
 by_cases h1:v_right=w_right
 case neg=>simp only [h1,h0,  if_true,if_false,decide_false,cond_false,false_and,and_false]
 simp only [h0,h1,if_true,decide_true,cond_true,and_true,and_self]
theorem q58 (v_left:List Int) (v_right:List Int) (left:Int) (h0:0≤left) (h1:left≤1048576) (hs:sm maxLen (Equation.mk v_left v_right)):∃ r,Call F.q58 [.agg [slc v_left,slc v_right],.int .i64 left] (.int .i64 r)∧r≤left∧(0≤r→sm 1048576 (Equation.mk v_left v_right)):=by
 obtain ⟨r0,c0,hr0,hp0⟩:=q3f v_left left h0 h1 (hs.1)
 by_cases n0:r0 < 0
 · exact ⟨-1,q0m rfl 0 ((q58.ev _ _ _ _ ).trans (by simp only [evz,Nat.reduceLT,c0.eq,n0])),by omega,by omega⟩
 obtain ⟨r1,c1,hr1,hp1⟩:=q3f v_right r0 (by omega) (by omega) (hs.2)
 by_cases n1:r1 < 0
 · exact ⟨-1,q0m rfl 0 ((q58.ev _ _ _ _ ).trans (by simp only [evz,Nat.reduceLT,c0.eq,c1.eq,n0,n1])),by omega,by omega⟩
 exact ⟨r1,q0m rfl 0 ((q58.ev _ _ _ _ ).trans (by simp only [evz,Nat.reduceLT,c0.eq,c1.eq,n0,n1])),by omega,fun _=>⟨hp0 (by omega),hp1 (by omega)⟩⟩
theorem q7s (v_kind:Int) (v_a:Int) (v_b:Int) (v_place:Int) (v_side:Int) (v_left:List Int) (v_right:List Int) (hs:sm 4294967296 (Entry.mk v_kind v_a v_b v_place v_side v_left v_right)):Call F.q7s [.agg [.int .i64 v_kind,.int .i64 v_a,.int .i64 v_b,.int .i64 v_place,.int .i64 v_side,slc v_left,slc v_right]] (.agg [.int .i64 v_kind,.int .i64 v_a,.int .i64 v_b,.int .i64 v_place,.int .i64 v_side,slc v_left,slc v_right]):=by
 refine q0m rfl 0 ((q7s.ev _ _ _ _ _ _ _ _ ).trans ?_)
 simp only [evz,Nat.reduceLT,(q17 _ hs.1).eq,(q17 _ hs.2).eq]
theorem q7r (v_kind:Int) (v_a:Int) (v_b:Int) (v_place:Int) (v_side:Int) (v_left:List Int) (v_right:List Int) (w_kind:Int) (w_a:Int) (w_b:Int) (w_place:Int) (w_side:Int) (w_left:List Int) (w_right:List Int) (hs:sm 4294967296 (Entry.mk v_kind v_a v_b v_place v_side v_left v_right)):Call F.q7r [.agg [.int .i64 v_kind,.int .i64 v_a,.int .i64 v_b,.int .i64 v_place,.int .i64 v_side,slc v_left,slc v_right],.agg [.int .i64 w_kind,.int .i64 w_a,.int .i64 w_b,.int .i64 w_place,.int .i64 w_side,slc w_left,slc w_right]] (.bool (decide ((Entry.mk v_kind v_a v_b v_place v_side v_left v_right)=(Entry.mk w_kind w_a w_b w_place w_side w_left w_right)))):=by
 refine q0m rfl 0 ((q7r.ev _ _ _ _ _ _ _ _ _ _ _ _ _ _ _ ).trans ?_)
 simp only [evz,Nat.reduceLT,(q15 _ _ hs.1).eq,(q15 _ _ hs.2).eq,Entry.mk.injEq]
 by_cases h0:v_kind=w_kind
 case neg=>simp only [h0,  if_true,if_false,decide_false,cond_false,false_and,and_false]
 by_cases h1:v_a=w_a
 case neg=>simp only [h1,h0,  if_true,if_false,decide_false,cond_false,false_and,and_false]
 by_cases h2:v_b=w_b
 case neg=>simp only [h2,h0,h1,  if_true,if_false,decide_false,cond_false,false_and,and_false]
 by_cases h3:v_place=w_place
 case neg=>simp only [h3,h0,h1,h2,  if_true,if_false,decide_false,cond_false,false_and,and_false]
 by_cases h4:v_side=w_side
 case neg=>simp only [h4,h0,h1,h2,h3,  if_true,if_false,decide_false,cond_false,false_and,and_false]
 by_cases h5:v_left=w_left
 case neg=>simp only [h5,h0,h1,h2,h3,h4,  if_true,if_false,decide_false,cond_false,false_and,and_false]
 by_cases h6:v_right=w_right
 case neg=>simp only [h6,h0,h1,h2,h3,h4,h5,  if_true,if_false,decide_false,cond_false,false_and,and_false]
 simp only [h0,h1,h2,h3,h4,h5,h6,if_true,decide_true,cond_true,and_true,and_self]
theorem q6n (v_kind:Int) (v_a:Int) (v_b:Int) (v_place:Int) (v_side:Int) (v_left:List Int) (v_right:List Int) (left:Int) (h0:0≤left) (h1:left≤1048576) (hs:sm maxLen (Entry.mk v_kind v_a v_b v_place v_side v_left v_right)):∃ r,Call F.q6n [.agg [.int .i64 v_kind,.int .i64 v_a,.int .i64 v_b,.int .i64 v_place,.int .i64 v_side,slc v_left,slc v_right],.int .i64 left] (.int .i64 r)∧r≤left∧(0≤r→sm 1048576 (Entry.mk v_kind v_a v_b v_place v_side v_left v_right)):=by
 obtain ⟨r0,c0,hr0,hp0⟩:=q3f v_left left h0 h1 (hs.1)
 by_cases n0:r0 < 0
 · exact ⟨-1,q0m rfl 0 ((q6n.ev _ _ _ _ _ _ _ _ _ ).trans (by simp only [evz,Nat.reduceLT,c0.eq,n0])),by omega,by omega⟩
 obtain ⟨r1,c1,hr1,hp1⟩:=q3f v_right r0 (by omega) (by omega) (hs.2)
 by_cases n1:r1 < 0
 · exact ⟨-1,q0m rfl 0 ((q6n.ev _ _ _ _ _ _ _ _ _ ).trans (by simp only [evz,Nat.reduceLT,c0.eq,c1.eq,n0,n1])),by omega,by omega⟩
 exact ⟨r1,q0m rfl 0 ((q6n.ev _ _ _ _ _ _ _ _ _ ).trans (by simp only [evz,Nat.reduceLT,c0.eq,c1.eq,n0,n1])),by omega,fun _=>⟨hp0 (by omega),hp1 (by omega)⟩⟩
theorem q1a (l:List Equation) (hs:sm 4294967296 l):Call F.q1a [slc l] (slc l):=by
 have loop:=to_loop (l:=l) (S:=fun m k o=>q1a.at0 (l.length+1) m (q1a.st0 (cells l) (k:Nat) (cells o))) (z:=slc l)
  (fun m k o h ho=>by
   simp only [q1a.next0,q1a.round0,evz,Nat.reduceLT,List.length_replicate,h,ho,(q6d l[k].left l[k].right (hs.2 _ (List.getElem_mem h))).eq,List.getElem?_eq_getElem,q3d]
   rw [set_Equation (by omega),q0o (by have:=hs.1; omega)]
   simp only [q0s,q39,q3r,sz_u8,q7t,ho]
   rw [if_pos (by omega)])
  (fun m o ho=>by
   simp only [q1a.next0,q1a.round0,evz,Nat.reduceLT,Nat.lt_irrefl,ho])
 refine q0m rfl (l.length+1) ((q1a.ev _ _).trans ?_)
 simp only [q3y,q39,q3r,sz_u8,q7t,Int.toNat_natCast,rep_Equation]
 rw [q16 (by have:=hs.1; simp; omega)]
 exact loop _ (by simp)
theorem q14 (l r:List Equation) (hs:sm 4294967296 l):Call F.q14 [slc l,slc r] (.bool (decide (l=r))):=by
 refine q0m rfl (l.length+1) ((q14.ev _ _ _).trans ?_)
 simp only [q3y,q39,q3r,sz_u8,q7t]
 by_cases hl:l.length=r.length
 · have loop:=eq_loop hl (S:=fun m k=>q14.at0 (l.length+1) m (q14.st0 (cells l) (cells r) (k:Nat)))
    (fun m k h h'=>by
     simp only [q14.next0,q14.round0,evz,Nat.reduceLT,h,h',(q6j l[k].left l[k].right r[k].left r[k].right (hs.2 _ (List.getElem_mem h))).eq,List.getElem?_eq_getElem,q3d]
     rw [q0o (by have:=hs.1; omega)])
    (fun m=>by
     simp only [q14.next0,q14.round0,evz,Nat.reduceLT,Nat.lt_irrefl])
   rw [q7n (by rw [hl]; exact bne_self_eq_false _)]
   exact loop
 · rw [q16 (by simp; omega)]
   simp only [show (l=r)=False from eq_false fun e=>hl (e ▸ rfl),decide_false]
theorem q18 (l:List Equation) (left:Int) (h0:0≤left) (h1:left≤1048576) (hs:sm maxLen l):∃ r,Call F.q18 [slc l,.int .i64 left] (.int .i64 r)∧r≤left∧(0≤r→sm 1048576 l):=by
 have hl:=hs.1
 have hw:IntKind.wrap .i64 (left - ((l.length:Nat):Int))=left - l.length:=q3e (by unfold maxLen at hl; omega)
 by_cases h:left - (l.length:Int) < 0
 · exact ⟨-1,q0m rfl 0 ((q18.ev _ _ _).trans (by simp only [evz,Nat.reduceLT,hw,h])),by omega,by omega⟩
 · obtain ⟨r,e,hr,hp⟩:=sz_loop (l:=l) (P:=sm 1048576) (S:=fun m k left=>q18.at0 (l.length+1) m (q18.st0 (cells l) left (k:Nat)))
    (fun m k left hk h0 h1=>by
     obtain ⟨r,c,hr,hp⟩:=q58 l[k].left l[k].right left h0 h1 (hs.2 _ (List.getElem_mem hk))
     refine ⟨r,hr,hp,?_⟩
     simp only [q18.next0,q18.round0,evz,Nat.reduceLT,hk,List.getElem?_eq_getElem,q3d,c.eq]
     rw [q0o (by unfold maxLen at hl; omega)])
    (fun m left=>by simp only [q18.next0,q18.round0,evz,Nat.reduceLT,Nat.lt_irrefl])
    (left - l.length) (by omega) (by omega)
   refine ⟨r,q0m rfl (l.length+1) ((q18.ev _ _ _).trans ?_),by omega,fun h=>⟨by omega,hp h⟩⟩
   simp only [q3y,q39,q7t,hw,h,decide_false,cond_false]
   exact e
theorem q10 (l:List Equation) (k:Int) (h0:0≤k) (hk:k≤4602678819172646912) (hs:sm 67108864 l):∃ (l':List Equation) (k':Int),LIM F.q10 [slc l,.int .i64 k]=some (.int .i64 k',[slc l'])∧k≤k'∧k'≤k+9007199254740992∧LIM F.q13 [slc l',.int .i64 k]=some (.int .i64 k',[]):=by
 obtain ⟨l',k',e,hl,hc,g,b⟩:=mark_loop (l:=l) (k:=k) (b:=134217728) (h:=fun (c:Int) (y:Equation) (c':Int)=>∃ d0 d1:Int,LIM F.q1d [slc y.left,.int .i64 c]=some (.int .i64 d0,[])∧0≤d0∧LIM F.q1d [slc y.right,.int .i64 d0]=some (.int .i64 d1,[])∧0≤d1∧c'=d1∧0≤c∧c≤4611686018427387904) (S:=fun m c i o=>q10.at0 (l.length+1) m (q10.st0 c (i:Nat) (cells o))) (z:=fun c o=>some (.int .i64 c,[slc o]))
  (fun m c i o x hi ho hm hc1 hc2=>by
   have hx:=hs.2 x hm
   have hl:=hs.1
   have hio:i < l.length:=by omega
   obtain ⟨x_left,x_right⟩:=x
   obtain ⟨y0,k0,e0,g0,b0,z0⟩:=q0z x_left c (by omega) (by omega) hx.1
   obtain ⟨y1,k1,e1,g1,b1,z1⟩:=q0z x_right k0 (by omega) (by omega) hx.2
   have hb0:i*2+1≤o.length*2:=by omega
   have hb1:i*2+1+1≤o.length*2:=by omega
   refine ⟨⟨y0,y1⟩,k1,?_,⟨k0,k1,z0,by omega,z1,by omega,rfl,by omega,by omega⟩,by omega,by omega⟩
   simp only [q10.next0,q10.round0,evz,Nat.reduceLT,List.length_set,List.getElem?_set_self hi,cells_le,hi,Nat.lt_irrefl,q3d,hb0,hb1,fset_Equation_0 hi,fset_Equation_1 hi,fsets_Equation_0 hi,fsets_Equation_1 hi,e0,e1,List.set_set]
   rw [q0o (by omega)])
  (fun m c o ho=>by simp only [q10.next0,q10.round0,evz,Nat.reduceLT,ho,Nat.lt_irrefl]) h0
  (l.length+1) (by omega)
 have hl1:=hs.1
 refine ⟨l',k',?_,by omega,by omega,?_⟩
 · refine q5r rfl (l.length+1) ((q10.ev _ _ _).trans ?_)
   exact e
 · refine q0m rfl (l'.length+1) ((q13.ev _ _ _).trans ?_)
   refine held_loop (l:=l') (S:=fun m c i=>q13.at0 (l'.length+1) m (q13.st0 (cells l') c (i:Nat))) (z:=fun c=>some (.int .i64 c,[]))
    (fun m c i c' hi => ?_)
    (fun m c=>by simp only [q13.next0,q13.round0,evz,Nat.reduceLT,Nat.lt_irrefl]) hc (by omega)
   rintro ⟨d0,d1,q0,q1,q2,q3,qe,qa,qb⟩
   rw [qe]
   have n0:¬ d0 < 0:=by omega
   have n1:¬ d1 < 0:=by omega
   simp only [q13.next0,q13.round0,evz,Nat.reduceLT,hi,List.getElem?_eq_getElem,q3d,q0,q2,n0,n1]
   rw [q0o (by omega)]
theorem q24 (l:List Entry) (hs:sm 4294967296 l):Call F.q24 [slc l] (slc l):=by
 have loop:=to_loop (l:=l) (S:=fun m k o=>q24.at0 (l.length+1) m (q24.st0 (cells l) (k:Nat) (cells o))) (z:=slc l)
  (fun m k o h ho=>by
   simp only [q24.next0,q24.round0,evz,Nat.reduceLT,List.length_replicate,h,ho,(q7s l[k].kind l[k].a l[k].b l[k].place l[k].side l[k].left l[k].right (hs.2 _ (List.getElem_mem h))).eq,List.getElem?_eq_getElem,q57]
   rw [set_Entry (by omega),q0o (by have:=hs.1; omega)]
   simp only [q0s,sz_Entry,q3r,sz_u8,q7t,ho]
   rw [if_pos (by omega)])
  (fun m o ho=>by
   simp only [q24.next0,q24.round0,evz,Nat.reduceLT,Nat.lt_irrefl,ho])
 refine q0m rfl (l.length+1) ((q24.ev _ _).trans ?_)
 simp only [q3y,sz_Entry,q3r,sz_u8,q7t,Int.toNat_natCast,rep_Entry]
 rw [q16 (by have:=hs.1; simp; omega)]
 exact loop _ (by simp)
theorem q25 (l r:List Entry) (hs:sm 4294967296 l):Call F.q25 [slc l,slc r] (.bool (decide (l=r))):=by
 refine q0m rfl (l.length+1) ((q25.ev _ _ _).trans ?_)
 simp only [q3y,sz_Entry,q3r,sz_u8,q7t]
 by_cases hl:l.length=r.length
 · have loop:=eq_loop hl (S:=fun m k=>q25.at0 (l.length+1) m (q25.st0 (cells l) (cells r) (k:Nat)))
    (fun m k h h'=>by
     simp only [q25.next0,q25.round0,evz,Nat.reduceLT,h,h',(q7r l[k].kind l[k].a l[k].b l[k].place l[k].side l[k].left l[k].right r[k].kind r[k].a r[k].b r[k].place r[k].side r[k].left r[k].right (hs.2 _ (List.getElem_mem h))).eq,List.getElem?_eq_getElem,q57]
     rw [q0o (by have:=hs.1; omega)])
    (fun m=>by
     simp only [q25.next0,q25.round0,evz,Nat.reduceLT,Nat.lt_irrefl])
   rw [q7n (by rw [hl]; exact bne_self_eq_false _)]
   exact loop
 · rw [q16 (by simp; omega)]
   simp only [show (l=r)=False from eq_false fun e=>hl (e ▸ rfl),decide_false]
theorem q22 (l:List Entry) (left:Int) (h0:0≤left) (h1:left≤1048576) (hs:sm maxLen l):∃ r,Call F.q22 [slc l,.int .i64 left] (.int .i64 r)∧r≤left∧(0≤r→sm 1048576 l):=by
 have hl:=hs.1
 have hw:IntKind.wrap .i64 (left - ((l.length:Nat):Int))=left - l.length:=q3e (by unfold maxLen at hl; omega)
 by_cases h:left - (l.length:Int) < 0
 · exact ⟨-1,q0m rfl 0 ((q22.ev _ _ _).trans (by simp only [evz,Nat.reduceLT,hw,h])),by omega,by omega⟩
 · obtain ⟨r,e,hr,hp⟩:=sz_loop (l:=l) (P:=sm 1048576) (S:=fun m k left=>q22.at0 (l.length+1) m (q22.st0 (cells l) left (k:Nat)))
    (fun m k left hk h0 h1=>by
     obtain ⟨r,c,hr,hp⟩:=q6n l[k].kind l[k].a l[k].b l[k].place l[k].side l[k].left l[k].right left h0 h1 (hs.2 _ (List.getElem_mem hk))
     refine ⟨r,hr,hp,?_⟩
     simp only [q22.next0,q22.round0,evz,Nat.reduceLT,hk,List.getElem?_eq_getElem,q57,c.eq]
     rw [q0o (by unfold maxLen at hl; omega)])
    (fun m left=>by simp only [q22.next0,q22.round0,evz,Nat.reduceLT,Nat.lt_irrefl])
    (left - l.length) (by omega) (by omega)
   refine ⟨r,q0m rfl (l.length+1) ((q22.ev _ _ _).trans ?_),by omega,fun h=>⟨by omega,hp h⟩⟩
   simp only [q3y,sz_Entry,q7t,hw,h,decide_false,cond_false]
   exact e
theorem q1g (l:List Entry) (k:Int) (h0:0≤k) (hk:k≤4602678818837102592) (hs:sm 67108864 l):∃ (l':List Entry) (k':Int),LIM F.q1g [slc l,.int .i64 k]=some (.int .i64 k',[slc l'])∧k≤k'∧k'≤k+9007199590285312:=by
 obtain ⟨l',k',e,hl,hc,g,b⟩:=mark_loop (l:=l) (k:=k) (b:=134217733) (h:=fun _ (_:Entry) _=>True) (S:=fun m c i o=>q1g.at0 (l.length+1) m (q1g.st0 c (i:Nat) (cells o))) (z:=fun c o=>some (.int .i64 c,[slc o]))
  (fun m c i o x hi ho hm hc1 hc2=>by
   have hx:=hs.2 x hm
   have hl:=hs.1
   have hio:i < l.length:=by omega
   obtain ⟨x_kind,x_a,x_b,x_place,x_side,x_left,x_right⟩:=x
   have w0:IntKind.wrap .i64 (c+1)=c+1:=q3e (by omega)
   have w1:IntKind.wrap .i64 (c+1+1)=c+1+1:=q3e (by omega)
   have w2:IntKind.wrap .i64 (c+1+1+1)=c+1+1+1:=q3e (by omega)
   have w3:IntKind.wrap .i64 (c+1+1+1+1)=c+1+1+1+1:=q3e (by omega)
   have w4:IntKind.wrap .i64 (c+1+1+1+1+1)=c+1+1+1+1+1:=q3e (by omega)
   obtain ⟨y5,k5,e5,g5,b5⟩:=q0z x_left (c+1+1+1+1+1) (by omega) (by omega) hx.1
   obtain ⟨y6,k6,e6,g6,b6⟩:=q0z x_right k5 (by omega) (by omega) hx.2
   have hb0:i*7+1≤o.length*7:=by omega
   have hb1:i*7+1+1≤o.length*7:=by omega
   have hb2:i*7+1+1+1≤o.length*7:=by omega
   have hb3:i*7+1+1+1+1≤o.length*7:=by omega
   have hb4:i*7+1+1+1+1+1≤o.length*7:=by omega
   have hb5:i*7+1+1+1+1+1+1≤o.length*7:=by omega
   have hb6:i*7+1+1+1+1+1+1+1≤o.length*7:=by omega
   refine ⟨⟨c,c+1,c+1+1,c+1+1+1,c+1+1+1+1,y5,y6⟩,k6,?_,trivial,by omega,by omega⟩
   simp only [q1g.next0,q1g.round0,evz,Nat.reduceLT,List.length_set,List.getElem?_set_self hi,cells_le,hi,Nat.lt_irrefl,q57,hb0,hb1,hb2,hb3,hb4,hb5,hb6,fset_Entry_0 hi,fset_Entry_1 hi,fset_Entry_2 hi,fset_Entry_3 hi,fset_Entry_4 hi,fset_Entry_5 hi,fset_Entry_6 hi,fsets_Entry_5 hi,fsets_Entry_6 hi,w0,w1,w2,w3,w4,e5,e6,List.set_set]
   rw [q0o (by omega)])
  (fun m c o ho=>by simp only [q1g.next0,q1g.round0,evz,Nat.reduceLT,ho,Nat.lt_irrefl]) h0
  (l.length+1) (by omega)
 have hl1:=hs.1
 refine ⟨l',k',?_,by omega,by omega⟩
 · refine q5r rfl (l.length+1) ((q1g.ev _ _ _).trans ?_)
   exact e
theorem q4e (v_order:List Int) (v_equations:List Equation) (v_entries:List Entry) (v_rules:List Int) (v_waiting:List Int) (v_rounds:Int) (hs:sm 4294967296 (Completion.mk v_order v_equations v_entries v_rules v_waiting v_rounds)):Call F.q4e [.agg [slc v_order,slc v_equations,slc v_entries,slc v_rules,slc v_waiting,.int .i64 v_rounds]] (.agg [slc v_order,slc v_equations,slc v_entries,slc v_rules,slc v_waiting,.int .i64 v_rounds]):=by
 refine q0m rfl 0 ((q4e.ev _ _ _ _ _ _ _ ).trans ?_)
 simp only [evz,Nat.reduceLT,(q17 _ hs.1).eq,(q1a _ hs.2.1).eq,(q24 _ hs.2.2.1).eq,(q17 _ hs.2.2.2.1).eq,(q17 _ hs.2.2.2.2).eq]
theorem q5f (v_order:List Int) (v_equations:List Equation) (v_entries:List Entry) (v_rules:List Int) (v_waiting:List Int) (v_rounds:Int) (w_order:List Int) (w_equations:List Equation) (w_entries:List Entry) (w_rules:List Int) (w_waiting:List Int) (w_rounds:Int) (hs:sm 4294967296 (Completion.mk v_order v_equations v_entries v_rules v_waiting v_rounds)):Call F.q5f [.agg [slc v_order,slc v_equations,slc v_entries,slc v_rules,slc v_waiting,.int .i64 v_rounds],.agg [slc w_order,slc w_equations,slc w_entries,slc w_rules,slc w_waiting,.int .i64 w_rounds]] (.bool (decide ((Completion.mk v_order v_equations v_entries v_rules v_waiting v_rounds)=(Completion.mk w_order w_equations w_entries w_rules w_waiting w_rounds)))):=by
 refine q0m rfl 0 ((q5f.ev _ _ _ _ _ _ _ _ _ _ _ _ _ ).trans ?_)
 simp only [evz,Nat.reduceLT,(q15 _ _ hs.1).eq,(q14 _ _ hs.2.1).eq,(q25 _ _ hs.2.2.1).eq,(q15 _ _ hs.2.2.2.1).eq,(q15 _ _ hs.2.2.2.2).eq,Completion.mk.injEq]
 by_cases h0:v_order=w_order
 case neg=>simp only [h0,  if_true,if_false,decide_false,cond_false,false_and,and_false]
 by_cases h1:v_equations=w_equations
 case neg=>simp only [h1,h0,  if_true,if_false,decide_false,cond_false,false_and,and_false]
 by_cases h2:v_entries=w_entries
 case neg=>simp only [h2,h0,h1,  if_true,if_false,decide_false,cond_false,false_and,and_false]
 by_cases h3:v_rules=w_rules
 case neg=>simp only [h3,h0,h1,h2,  if_true,if_false,decide_false,cond_false,false_and,and_false]
 by_cases h4:v_waiting=w_waiting
 case neg=>simp only [h4,h0,h1,h2,h3,  if_true,if_false,decide_false,cond_false,false_and,and_false]
 by_cases h5:v_rounds=w_rounds
 case neg=>simp only [h5,h0,h1,h2,h3,h4,  if_true,if_false,decide_false,cond_false,false_and,and_false]
 simp only [h0,h1,h2,h3,h4,h5,if_true,decide_true,cond_true,and_true,and_self]
theorem q3u (v_order:List Int) (v_equations:List Equation) (v_entries:List Entry) (v_rules:List Int) (v_waiting:List Int) (v_rounds:Int) (left:Int) (h0:0≤left) (h1:left≤1048576) (hs:sm maxLen (Completion.mk v_order v_equations v_entries v_rules v_waiting v_rounds)):∃ r,Call F.q3u [.agg [slc v_order,slc v_equations,slc v_entries,slc v_rules,slc v_waiting,.int .i64 v_rounds],.int .i64 left] (.int .i64 r)∧r≤left∧(0≤r→sm 1048576 (Completion.mk v_order v_equations v_entries v_rules v_waiting v_rounds)):=by
 obtain ⟨r0,c0,hr0,hp0⟩:=q3f v_order left h0 h1 (hs.1)
 by_cases n0:r0 < 0
 · exact ⟨-1,q0m rfl 0 ((q3u.ev _ _ _ _ _ _ _ _ ).trans (by simp only [evz,Nat.reduceLT,c0.eq,n0])),by omega,by omega⟩
 obtain ⟨r1,c1,hr1,hp1⟩:=q18 v_equations r0 (by omega) (by omega) (hs.2.1)
 by_cases n1:r1 < 0
 · exact ⟨-1,q0m rfl 0 ((q3u.ev _ _ _ _ _ _ _ _ ).trans (by simp only [evz,Nat.reduceLT,c0.eq,c1.eq,n0,n1])),by omega,by omega⟩
 obtain ⟨r2,c2,hr2,hp2⟩:=q22 v_entries r1 (by omega) (by omega) (hs.2.2.1)
 by_cases n2:r2 < 0
 · exact ⟨-1,q0m rfl 0 ((q3u.ev _ _ _ _ _ _ _ _ ).trans (by simp only [evz,Nat.reduceLT,c0.eq,c1.eq,c2.eq,n0,n1,n2])),by omega,by omega⟩
 obtain ⟨r3,c3,hr3,hp3⟩:=q3f v_rules r2 (by omega) (by omega) (hs.2.2.2.1)
 by_cases n3:r3 < 0
 · exact ⟨-1,q0m rfl 0 ((q3u.ev _ _ _ _ _ _ _ _ ).trans (by simp only [evz,Nat.reduceLT,c0.eq,c1.eq,c2.eq,c3.eq,n0,n1,n2,n3])),by omega,by omega⟩
 obtain ⟨r4,c4,hr4,hp4⟩:=q3f v_waiting r3 (by omega) (by omega) (hs.2.2.2.2)
 by_cases n4:r4 < 0
 · exact ⟨-1,q0m rfl 0 ((q3u.ev _ _ _ _ _ _ _ _ ).trans (by simp only [evz,Nat.reduceLT,c0.eq,c1.eq,c2.eq,c3.eq,c4.eq,n0,n1,n2,n3,n4])),by omega,by omega⟩
 exact ⟨r4,q0m rfl 0 ((q3u.ev _ _ _ _ _ _ _ _ ).trans (by simp only [evz,Nat.reduceLT,c0.eq,c1.eq,c2.eq,c3.eq,c4.eq,n0,n1,n2,n3,n4])),by omega,fun _=>⟨hp0 (by omega),hp1 (by omega),hp2 (by omega),hp3 (by omega),hp4 (by omega)⟩⟩
theorem q51 (v_order:List Int) (v_equations:List Equation) (v_entries:List Entry) (v_rules:List Int) (v_waiting:List Int) (v_rounds:Int) (k:Int) (h0:0≤k) (hk:k≤4593671619381035008) (hs:sm 67108864 (Completion.mk v_order v_equations v_entries v_rules v_waiting v_rounds)):∃ (u_order:List Int) (u_equations:List Equation) (u_entries:List Entry) (u_rules:List Int) (u_waiting:List Int) (k':Int),LIM F.q51 [.agg [slc v_order,slc v_equations,slc v_entries,slc v_rules,slc v_waiting,.int .i64 v_rounds],.int .i64 k]=some (.int .i64 k',[.agg [slc u_order,slc u_equations,slc u_entries,slc u_rules,slc u_waiting,.int .i64 v_rounds]])∧k≤k'∧k'≤k+18014399046352896:=by
 obtain ⟨u_order,c_order,e_order,g_order,b_order⟩:=q0z v_order k (by omega) (by omega) (hs.1)
 have n_order:¬ c_order < 0:=by omega
 obtain ⟨u_equations,c_equations,e_equations,g_equations,b_equations⟩:=q10 v_equations c_order (by omega) (by omega) (hs.2.1)
 have n_equations:¬ c_equations < 0:=by omega
 obtain ⟨u_entries,c_entries,e_entries,g_entries,b_entries⟩:=q1g v_entries c_equations (by omega) (by omega) (hs.2.2.1)
 have n_entries:¬ c_entries < 0:=by omega
 obtain ⟨u_rules,c_rules,e_rules,g_rules,b_rules⟩:=q0z v_rules c_entries (by omega) (by omega) (hs.2.2.2.1)
 have n_rules:¬ c_rules < 0:=by omega
 obtain ⟨u_waiting,c_waiting,e_waiting,g_waiting,b_waiting⟩:=q0z v_waiting c_rules (by omega) (by omega) (hs.2.2.2.2)
 have n_waiting:¬ c_waiting < 0:=by omega
 refine ⟨u_order,u_equations,u_entries,u_rules,u_waiting,c_waiting,q5r rfl 0 ((q51.ev _ _ _ _ _ _ _ _ ).trans ?_),by omega,by omega⟩
 · simp only [evz,Nat.reduceLT,e_order,e_equations,e_entries,e_rules,e_waiting]
theorem q3p (v_code:Int) (v_list:List Equation) (w_code:Int) (w_list:List Equation) (hs:sm 4294967296 (EquationsResult.mk v_code v_list)):Call F.q3p [.agg [.int .i64 v_code,slc v_list],.agg [.int .i64 w_code,slc w_list]] (.bool (decide ((EquationsResult.mk v_code v_list)=(EquationsResult.mk w_code w_list)))):=by
 refine q0m rfl 0 ((q3p.ev _ _ _ _ _ ).trans ?_)
 simp only [evz,Nat.reduceLT,(q14 _ _ hs).eq,EquationsResult.mk.injEq]
 by_cases h0:v_code=w_code
 case neg=>simp only [h0,  if_true,if_false,decide_false,cond_false,false_and,and_false]
 by_cases h1:v_list=w_list
 case neg=>simp only [h1,h0,  if_true,if_false,decide_false,cond_false,false_and,and_false]
 simp only [h0,h1,if_true,decide_true,cond_true,and_true,and_self]
theorem q47 (v_code:Int) (v_list:List Equation) (k:Int) (h0:0≤k) (hk:k≤4602678819172646912) (hs:sm 67108864 (EquationsResult.mk v_code v_list)):∃ (u_list:List Equation) (k':Int),LIM F.q47 [.agg [.int .i64 v_code,slc v_list],.int .i64 k]=some (.int .i64 k',[.agg [.int .i64 v_code,slc u_list]])∧k≤k'∧k'≤k+9007199254740992∧LIM F.q4i [.agg [.int .i64 v_code,slc u_list],.int .i64 k]=some (.int .i64 k',[]):=by
 obtain ⟨u_list,c_list,e_list,g_list,b_list,z_list⟩:=q10 v_list k (by omega) (by omega) (hs)
 have n_list:¬ c_list < 0:=by omega
 refine ⟨u_list,c_list,q5r rfl 0 ((q47.ev _ _ _ _ ).trans ?_),by omega,by omega,q0m rfl 0 ((q4i.ev _ _ _ _ ).trans ?_)⟩
 · simp only [evz,Nat.reduceLT,e_list]
 · simp only [evz,Nat.reduceLT,z_list,n_list]
end Ev.Ty
end
section
namespace Ev.Ty
open Go Ev
open Enc (enc)
open Sm (sm)
set_option linter.unusedSimpArgs false
def inR (n a b:Int):Bool:=decide (a≤n∧n≤b)
theorem q36 (n a b:Int):Call F.q36 [.int .i64 n,.int .i64 a,.int .i64 b] (.bool (inR n a b)):=by
 refine q0m rfl 0 ((q36.ev _ _ _ _).trans ?_)
 simp only [evz,Nat.reduceLT,inR,ge_iff_le]
 by_cases h:a≤n <;> simp [h]
theorem q1j (n a b:Int):Call F.q1j [.int .i64 n,.int .i64 a,.int .i64 b] (.bool (inR n a b)):=by
 refine q0m rfl 0 ((q1j.ev _ _ _ _).trans ?_)
 simp only [evz,Nat.reduceLT,inR,ge_iff_le]
 by_cases h:a≤n <;> simp [h]
def twice {β:Type} [DecidableEq β] (l:List β):Bool := !decide l.Nodup
theorem twice_iff {β:Type} [DecidableEq β] (l:List β):twice l=true↔∃ i j,j < i∧∃ (h:i < l.length) (h':j < l.length),l[i]=l[j]:=by
 unfold twice
 rw [Bool.not_eq_true',decide_eq_false_iff_not,List.Nodup,List.pairwise_iff_getElem]
 constructor
 · intro h
   simp only [Classical.not_forall] at h
   obtain ⟨i,j,h1,h2,h3,h4⟩:=h
   simp only [ne_eq,Classical.not_not] at h4
   exact ⟨j,i,h3,h2,h1,h4.symm⟩
 · rintro ⟨i,j,h1,h2,h3,h4⟩ h
   exact h j i h3 h2 h1 h4.symm
theorem twice_first {α β:Type} [DecidableEq β] (f:α→β) (l:List α):((List.range l.length).any fun k=>l[k]?.any fun x=>decide (idx (fun y=>decide (f y=f x)) l≠(k:Nat)))=twice (l.map f):=by
 rw [Bool.eq_iff_iff,twice_iff]
 simp only [List.any_eq_true,List.mem_range,List.length_map,List.getElem_map]
 constructor
 · rintro ⟨k,hk,h⟩
   rw [List.getElem?_eq_getElem hk,Option.any_some] at h
   simp only [decide_eq_true_eq] at h
   rcases q7w (fun y=>decide (f y=f l[k])) l with ⟨_,h1⟩ | ⟨i,hi,h1,h2,h3⟩
   · have:=h1 l[k] (List.getElem_mem hk)
     simp at this
   · rw [h1] at h
     simp only [decide_eq_true_eq] at h2
     rcases Nat.lt_trichotomy i k with hlt | heq | hgt
     · exact ⟨k,i,hlt,hk,hi,h2.symm⟩
     · subst heq; simp at h
     · have:=h3 k hgt
       simp at this
 · rintro ⟨i,j,hji,hi,hj,he⟩
   refine ⟨i,hi,?_⟩
   rw [List.getElem?_eq_getElem hi,Option.any_some]
   simp only [decide_eq_true_eq]
   rcases q7w (fun y=>decide (f y=f l[i])) l with ⟨h0,_⟩ | ⟨k,hk,h1,h2,h3⟩
   · rw [h0]; omega
   · rw [h1]
     intro hk'
     have:k=i:=by omega
     subst this
     have:=h3 j hji
     simp [he] at this
theorem twice_pairs {α β:Type} [DecidableEq β] (f:α→β) (l:List α):((List.range l.length).any fun i=>(List.range i).any fun j=>l[i]?.any fun x=>l[j]?.any fun y=>decide (f x=f y))=twice (l.map f):=by
 rw [Bool.eq_iff_iff,twice_iff]
 simp only [List.any_eq_true,List.mem_range,List.length_map,List.getElem_map]
 constructor
 · rintro ⟨i,hi,j,hj,h⟩
   rw [List.getElem?_eq_getElem hi,List.getElem?_eq_getElem (show j < l.length by omega)] at h
   exact ⟨i,j,hj,hi,by omega,by simpa using h⟩
 · rintro ⟨i,j,hji,hi,hj,he⟩
   refine ⟨i,hi,j,hji,?_⟩
   rw [List.getElem?_eq_getElem hi,List.getElem?_eq_getElem hj]
   simpa using he
end Ev.Ty
end
section
namespace Ev.Ty
open Go Ev
open Enc (enc)
open Sm (sm)
set_option linter.unusedSimpArgs false
set_option linter.unusedVariables false
def q9y (b:UInt8):Bool:=decide (97≤b.toNat∧b.toNat≤122)
def nameOk (s:ByteArray):Bool:=decide (1≤s.size∧s.size≤3)&&s.data.toList.all q9y
def q9t:ByteArray:=ByteArray.mk #[97,98,99,100,101,102,103,104,105,106,107,108,109,110,111,112,113,114,115,116,117,118,119,120,121,122]
theorem letters_has (b:UInt8):q9t.data.toList.contains b=q9y b:=by
 have h:∀ n:Fin 256,q9t.data.toList.contains (UInt8.ofNat n.val)=q9y (UInt8.ofNat n.val):=by decide +kernel
 have:=h ⟨b.toNat,b.toNat_lt⟩
 simpa using this
theorem dropWhile_nil {α:Type} (p:α→Bool):∀ l:List α,(l.dropWhile p).isEmpty=l.all p
 | []=>rfl
 | x::l=>by
   rw [List.dropWhile_cons,List.all_cons]
   cases hp:p x with
   | true=>simpa using dropWhile_nil p l
   | false=>simp
theorem trimS_empty (l:List UInt8):(Lib.trimS l q9t.data.toList).isEmpty=l.all q9y:=by
 have e:(q9t.data.toList.contains ·)=q9y:=funext letters_has
 unfold Lib.trimS Lib.trimLeftS
 rw [e,dropWhile_nil]
 unfold Lib.trimRightS
 rw [e,List.all_reverse]
 have:∀ l:List UInt8,(l.dropWhile q9y).all q9y=l.all q9y:=by
  intro l
  induction l with
  | nil=>rfl
  | cons x l ih =>
    rw [List.dropWhile_cons]
    cases hp:q9y x with
    | true=>simp [hp,ih]
    | false=>simp [hp]
 rw [this,List.all_reverse]
theorem q9v (s:ByteArray) (h:s.size≤3):Call F.q9v [.str s,.str q9t] (.str ⟨(Lib.trimS s.data.toList q9t.data.toList).toArray⟩):=by
 refine lim_ext (e:=trimE) rfl (Ev.of fun m => ?_)
 show (bif decide (s.size≤9223372036854775807)&&decide (q9t.size < 4294967281)&&q9t.data.toList.all (fun b=>decide (b.toNat < 128)) then _ else _)=_
 rw [decide_eq_true (by omega),show decide (q9t.size < 4294967281)=true by decide +kernel,show q9t.data.toList.all (fun b=>decide (b.toNat < 128))=true by decide +kernel]
 rfl
theorem q89 (s:ByteArray):Call F.q89 [.str s] (.bool (nameOk s)):=by
 refine q0m rfl 0 ((q89.ev _ _).trans ?_)
 simp only [evz,Nat.reduceLT,ge_iff_le,nameOk]
 by_cases h1:1≤s.size
 · by_cases h2:s.size≤3
   · have h1':(1:Int)≤s.size:=by omega
     have h2':(s.size:Int)≤3:=by omega
     rw [show (ByteArray.mk #[97,98,99,100,101,102,103,104,105,106,107,108,109,110,111,112,113,114,115,116,117,118,119,120,121,122])=q9t from rfl]
     simp only [h1,h2,h1',h2',(q9v s h2).eq,evz,Nat.reduceLT,and_self,Bool.true_and]
     rw [← trimS_empty]
     congr 3
     rw [Bool.eq_iff_iff,decide_eq_true_eq,List.isEmpty_iff]
     simp
   · have h1':(1:Int)≤s.size:=by omega
     have h2':¬ (s.size:Int)≤3:=by omega
     simp only [h1,h2,h1',h2',evz,Nat.reduceLT,and_false,Bool.false_and]
 · have h1':¬ (1:Int)≤s.size:=by omega
   simp only [h1,h1',evz,Nat.reduceLT,false_and,Bool.false_and]
theorem byte_at {s:ByteArray} {k:Nat} (h:k < s.data.toList.length):s.data.getD k 0=s.data.toList[k]:=by
 simp at h
 simp [Array.getD,h]
theorem q2x (s:ByteArray):Call F.q2x [.str s] (.bool (nameOk s)):=by
 refine q0m rfl (s.size+1) ((q2x.ev _ _).trans ?_)
 simp only [evz,Nat.reduceLT,gt_iff_lt,nameOk]
 by_cases h1:1≤s.size
 · by_cases h2:s.size≤3
   · have h1':¬ (s.size:Int) < 1:=by omega
     have h2':¬ (3:Int) < s.size:=by omega
     simp only [h1,h2,h1',h2',if_false,and_self,decide_true,Bool.true_and]
     have hsz:s.data.toList.length=s.size:=by rw [Array.length_toList]; rfl
     refine (q82 (l:=s.data.toList) (p:=fun b => !q9y b) (S:=fun m k=>q2x.at0 (s.size+1) m (q2x.st0 s (k:Nat))) (r:=some (.bool false,[])) (z:=some (.bool true,[])) (fun m k h => ?_) (fun m => ?_) (by omega)).trans ?_
     · have h':k < s.size:=by omega
       simp only [q2x.next0,q2x.round0,evz,Nat.reduceLT,h',byte_at h]
       rw [q0o (by omega)]
       unfold q9y
       by_cases c1:s.data.toList[k].toNat < 97
       · have c1':(s.data.toList[k].toNat:Int) < 97:=by omega
         rw [if_pos c1',if_pos (by simp only [Bool.not_eq_true',decide_eq_false_iff_not]; omega)]
       · have c1':¬ (s.data.toList[k].toNat:Int) < 97:=by omega
         rw [if_neg c1']
         by_cases c2:122 < s.data.toList[k].toNat
         · have c2':(s.data.toList[k].toNat:Int) > 122:=by omega
           rw [if_pos c2',if_pos (by simp only [Bool.not_eq_true',decide_eq_false_iff_not]; omega)]
         · have c2':¬ (s.data.toList[k].toNat:Int) > 122:=by omega
           rw [if_neg c2',if_neg (by simp only [Bool.not_eq_true',decide_eq_false_iff_not]; omega)]
     · rw [hsz]; simp only [q2x.next0,q2x.round0,evz,Nat.reduceLT,Nat.lt_irrefl]
     · have:s.data.toList.any (fun b => !q9y b) = !s.data.toList.all q9y:=by rw [List.not_all_eq_any_not]
       rw [this]
       cases s.data.toList.all q9y <;> rfl
   · have h1':¬ (s.size:Int) < 1:=by omega
     have h2':(3:Int) < s.size:=by omega
     simp only [h1,h2,h1',h2',evz,Nat.reduceLT,and_false,Bool.false_and]
 · have h1':(s.size:Int) < 1:=by omega
   simp only [h1,h1',evz,Nat.reduceLT,false_and,Bool.false_and]
def q7x (x:Symbol):Option Int:=if nameOk x.name=false then some 5 else if inR x.arity 0 2=false then some 3 else none
def q41 (s:Signature):Int :=
 if s.symbols.length < 1∨6 < s.symbols.length then 2
 else match s.symbols.findSome? q7x with
  | some c=>c
  | none=>if twice (s.symbols.map (·.name)) then 6 else if s.symbols.any (fun x=>decide (x.arity=0)) then 0 else 4
theorem q06 (l:List Symbol) (hs:l.length≤4294967296) (n:ByteArray):Call F.q23 [slc l,.clo F.q4g [.rref [.str n] 0]] (.int .i64 (idx (fun x=>decide (x.name=n)) l)):=by
 refine q0m rfl (l.length+1) ((q06.ev _ _ _).trans ?_)
 refine q85 (S:=fun m k=>q06.at0 (l.length+1) m (q06.st0 (cells l) n _ (k:Nat))) (fun m k h => ?_) (fun m => ?_) (Nat.lt_succ_self _)
 · have hlk:l[k]?=some l[k]:=List.getElem?_eq_getElem h
   have hc:Call F.q4g [.agg [.str l[k].name,.int .i64 l[k].arity],.rref [.str n] 0] (.bool (decide (l[k].name=n))):=by
    refine q0m rfl 0 ((q4g.ev _ _ _ _).trans ?_)
    simp only [evz,Nat.reduceLT]
   simp only [q06.next0,q06.round0,evz,Nat.reduceLT,h,hlk,q53,hc.eq]
   rw [q0o (by omega)]
   simp only [decide_eq_true_eq]
 · simp only [q06.next0,q06.round0,evz,Nat.reduceLT,Nat.lt_irrefl]
theorem q5u (l:List Symbol) (hs:l.length≤4294967296) (n:ByteArray):Call F.q5u [.agg [slc l],.str n] (.int .i64 (idx (fun x=>decide (x.name=n)) l)):=by
 refine q0m rfl 0 ((q5u.ev _ _ _).trans ?_)
 simp only [evz,Nat.reduceLT,(q06 l hs n).eq]
theorem q04 (l:List Symbol) (hs:l.length≤4294967296):Call F.q23 [slc l,.clo F.q37 []] (.int .i64 (idx (fun x=>decide (x.arity=0)) l)):=by
 refine q0m rfl (l.length+1) ((q04.ev _ _).trans ?_)
 refine q85 (S:=fun m k=>q04.at0 (l.length+1) m (q04.st0 (cells l) _ (k:Nat))) (fun m k h => ?_) (fun m => ?_) (Nat.lt_succ_self _)
 · have hlk:l[k]?=some l[k]:=List.getElem?_eq_getElem h
   have hc:Call F.q37 [.agg [.str l[k].name,.int .i64 l[k].arity]] (.bool (decide (l[k].arity=0))):=by
    refine q0m rfl 0 ((q37.ev _ _ _).trans ?_)
    simp only [evz,Nat.reduceLT]
   simp only [q04.next0,q04.round0,evz,Nat.reduceLT,h,hlk,q53,hc.eq]
   rw [q0o (by omega)]
   simp only [decide_eq_true_eq]
 · simp only [q04.next0,q04.round0,evz,Nat.reduceLT,Nat.lt_irrefl]
theorem q3i (l:List Symbol) (hs:l.length≤4294967296):Call F.q6i [slc l,.clo F.q37 []] (.bool (l.any fun x=>decide (x.arity=0))):=by
 refine q0m rfl 0 ((q3i.ev _ _).trans ?_)
 simp only [evz,Nat.reduceLT,(q04 l hs).eq,q7y]
theorem q08 (l:List Symbol) (hs:l.length≤4294967296):Call F.q08 [.agg [slc l]] (.int .i64 (q41 ⟨l⟩)):=by
 refine q0m rfl (l.length+1) ((q08.ev _ _).trans ?_)
 simp only [evz,Nat.reduceLT,q41,gt_iff_lt]
 by_cases h1:l.length < 1
 · have h1':(l.length:Int) < 1:=by omega
   simp only [h1,h1',evz,Nat.reduceLT,true_or]
 by_cases h2:6 < l.length
 · have h1':¬ (l.length:Int) < 1:=by omega
   have h2':(6:Int) < l.length:=by omega
   simp only [h1,h1',h2,h2',evz,Nat.reduceLT,or_true]
 have h1':¬ (l.length:Int) < 1:=by omega
 have h2':¬ (6:Int) < l.length:=by omega
 simp only [h1,h1',h2,h2',if_false,or_self]
 have two:=any_loop (n:=l.length) (bad:=fun k=>l[k]?.any fun x=>decide (idx (fun y=>decide (y.name=x.name)) l≠(k:Nat)))
  (S:=fun m k=>q08.at2 (l.length+1) m (q08.st2 (cells l) l.length (k:Nat) (cells l))) (r:=some (.int .i64 6,[])) (z:=if l.any (fun x=>decide (x.arity=0)) then some (.int .i64 0,[]) else some (.int .i64 4,[]))
  (fun m k h=>by
   have hlk:l[k]?=some l[k]:=List.getElem?_eq_getElem h
   simp only [q08.next2,q08.round2,evz,Nat.reduceLT,h,hlk,q53,(q5u l hs _).eq]
   rw [q0o (by omega)]
   by_cases e:idx (fun y=>decide (y.name=l[k].name)) l=(k:Int) <;> simp [e])
  (fun m=>by
   simp only [q08.next2,q08.round2,evz,Nat.reduceLT,Nat.lt_irrefl,(q3i l hs).eq]
   cases l.any (fun x=>decide (x.arity=0)) <;> rfl) (Nat.lt_succ_self _)
 have one:=q9m (l:=l) (g:=fun x=>(q7x x).map fun c=>some (.int .i64 c,[]))
  (S:=fun m k=>q08.at0 (l.length+1) m (q08.st0 (cells l) l.length (k:Nat) (cells l)))
  (fun m k h=>by
   have hlk:l[k]?=some l[k]:=List.getElem?_eq_getElem h
   simp only [q08.next0,q08.round0,evz,Nat.reduceLT,h,hlk,q53,(q89 _).eq,(q36 _ _ _).eq]
   rw [q0o (by omega)]
   cases h5:nameOk l[k].name with
   | false=>simp [q7x,h5]
   | true=>cases h6:inR l[k].arity 0 2 <;> simp [q7x,h5,h6])
  (fun m=>by simp only [q08.next0,q08.round0,evz,Nat.reduceLT,Nat.lt_irrefl]; rfl) (Nat.lt_succ_self _)
 refine one.trans ?_
 rw [show q08.at2 (l.length+1) (l.length+1) (q08.st2 (cells l) l.length 0 (cells l))=_ from two,twice_first (fun y:Symbol=>y.name),q8j]
 cases l.findSome? q7x with
 | some c=>rfl
 | none=>cases twice (l.map fun x=>x.name) <;> cases l.any (fun x=>decide (x.arity=0)) <;> rfl
theorem q02 (l:List Symbol) (hs:l.length≤4294967296):Call F.q02 [.agg [slc l]] (.int .i64 (q41 ⟨l⟩)):=by
 obtain ⟨n,hn⟩:∃ n,n=l.length+1:=⟨_,rfl⟩
 refine q0m rfl n ((q02.ev _ _).trans ?_)
 simp only [evz,Nat.reduceLT,q41,gt_iff_lt]
 by_cases h1:l.length < 1
 · have h1':(l.length:Int) < 1:=by omega
   simp only [h1,h1',evz,Nat.reduceLT,true_or]
 by_cases h2:6 < l.length
 · have h1':¬ (l.length:Int) < 1:=by omega
   have h2':(6:Int) < l.length:=by omega
   simp only [h1,h1',h2,h2',evz,Nat.reduceLT,or_true]
 have h1':¬ (l.length:Int) < 1:=by omega
 have h2':¬ (6:Int) < l.length:=by omega
 simp only [h1,h1',h2,h2',if_false,or_self]
 have six:=q82 (l:=l) (p:=fun x=>decide (x.arity=0)) (S:=fun m k=>q02.at6 n m (q02.st6 l.length (k:Nat) (cells l))) (r:=some (.int .i64 0,[])) (z:=some (.int .i64 4,[]))
  (fun m k h=>by
   have hlk:l[k]?=some l[k]:=List.getElem?_eq_getElem h
   simp only [q02.next6,q02.round6,evz,Nat.reduceLT,h,hlk,q53]
   rw [q0o (by omega)]
   simp only [decide_eq_true_eq])
  (fun m=>by simp only [q02.next6,q02.round6,evz,Nat.reduceLT,Nat.lt_irrefl]) (show l.length < n by omega)
 have two:=any_loop (n:=l.length) (bad:=fun i=>(List.range i).any fun j=>l[i]?.any fun x=>l[j]?.any fun y=>decide (x.name=y.name))
  (S:=fun m i=>q02.at2 n m (q02.st2 l.length (i:Nat) (cells l))) (r:=some (.int .i64 6,[]))
  (fun m i h=>by
   have hlk:l[i]?=some l[i]:=List.getElem?_eq_getElem h
   simp only [q02.next2,q02.round2,evz,Nat.reduceLT,h]
   refine any_loop (n:=i) (f:=n) (bad:=fun j=>l[i]?.any fun x=>l[j]?.any fun y=>decide (x.name=y.name))
    (S:=fun m' j=>q02.at4 n (q02.at2 n m) m' (q02.st4 l.length (i:Nat) (j:Nat) (cells l))) (fun m' j hj => ?_) (fun m' => ?_) (by omega)
   · have hj':j < l.length:=by omega
     have hjk:l[j]?=some l[j]:=List.getElem?_eq_getElem hj'
     simp only [q02.next4,q02.round4,evz,Nat.reduceLT,h,hj,hj',hlk,hjk,q53]
     rw [q0o (by omega)]
     by_cases e:l[i].name=l[j].name <;> simp [e]
   · simp only [q02.next4,q02.round4,evz,Nat.reduceLT,Nat.lt_irrefl]
     rw [q0o (by omega)])
  (fun m=>by simp only [q02.next2,q02.round2,evz,Nat.reduceLT,Nat.lt_irrefl]; exact six) (show l.length < n by omega)
 have one:=q9m (l:=l) (g:=fun x=>(q7x x).map fun c=>some (.int .i64 c,[]))
  (S:=fun m k=>q02.at0 n m (q02.st0 l.length (k:Nat) (cells l)))
  (fun m k h=>by
   have hlk:l[k]?=some l[k]:=List.getElem?_eq_getElem h
   simp only [q02.next0,q02.round0,evz,Nat.reduceLT,h,hlk,q53,(q2x _).eq,(q1j _ _ _).eq]
   rw [q0o (by omega)]
   cases h5:nameOk l[k].name with
   | false=>simp [q7x,h5]
   | true=>cases h6:inR l[k].arity 0 2 <;> simp [q7x,h5,h6])
  (fun m=>by simp only [q02.next0,q02.round0,evz,Nat.reduceLT,Nat.lt_irrefl]; rfl) (show l.length < n by omega)
 refine one.trans ?_
 rw [show q02.at2 n n (q02.st2 l.length 0 (cells l))=_ from two,twice_pairs (fun y:Symbol=>y.name),q8j]
 cases l.findSome? q7x with
 | some c=>rfl
 | none=>cases twice (l.map fun x=>x.name) <;> cases l.any (fun x=>decide (x.arity=0)) <;> rfl
end Ev.Ty
end
section
namespace Ev.Ty
open Go Ev
open Enc (enc)
open Sm (sm)
set_option linter.unusedSimpArgs false
set_option linter.unusedVariables false
theorem q7k {n a b:Int}:inR n a b=true↔a≤n∧n≤b:=by unfold inR; simp
structure SigOk (s:Signature):Prop where
 pos:1≤s.symbols.length
 le:s.symbols.length≤6
 name:∀ x∈s.symbols,nameOk x.name=true
 arity:∀ x∈s.symbols,0≤x.arity∧x.arity≤2
 nodup:(s.symbols.map (·.name)).Nodup
 const:∃ x∈s.symbols,x.arity=0
theorem q9b {α β:Type} {f:α→Option β}:∀ {l:List α},l.findSome? f=none↔∀ x∈l,f x=none
 | []=>by simp
 | x::l=>by
   rw [List.findSome?_cons]
   cases h:f x with
   | some b=>simp [h]
   | none=>simp [h,q9b (l:=l)]
theorem q9j (s:Signature):q41 s=0↔SigOk s:=by
 unfold q41
 constructor
 · intro h
   split at h
   · cases h
   · rename_i h1
     split at h
     · rename_i c hc
       obtain ⟨x,hx,hf⟩:=List.exists_of_findSome?_eq_some hc
       unfold q7x at hf
       split at hf
       · cases hf; cases h
       · split at hf
         · cases hf; cases h
         · cases hf
     · rename_i hn
       rw [q9b] at hn
       split at h
       · cases h
       · rename_i ht
         split at h
         · rename_i ha
           have hx:∀ x∈s.symbols,nameOk x.name=true∧inR x.arity 0 2=true:=fun x hx=>by
            have:=hn x hx
            unfold q7x at this
            split at this
            · cases this
            · split at this
              · cases this
              · rename_i h1 h2; exact ⟨by simpa using h1,by simpa using h2⟩
           refine ⟨by omega,by omega,fun x h=>(hx x h).1,fun x h=>q7k.1 (hx x h).2,?_,?_⟩
           · unfold twice at ht; simpa using ht
           · rw [List.any_eq_true] at ha
             obtain ⟨x,h1,h2⟩:=ha
             exact ⟨x,h1,by simpa using h2⟩
         · cases h
 · intro h
   rw [if_neg (by have:=h.pos; have:=h.le; omega)]
   have:s.symbols.findSome? q7x=none:=q9b.2 fun x hx=>by
    unfold q7x
    rw [if_neg (by simp [h.name x hx]),if_neg (by have:=q7k.2 (h.arity x hx); simp [this])]
   rw [this]
   simp only
   rw [if_neg (by unfold twice; simpa using h.nodup),if_pos]
   rw [List.any_eq_true]
   obtain ⟨x,h1,h2⟩:=h.const
   exact ⟨x,h1,by simpa using h2⟩
end Ev.Ty
end
section
namespace Ev.Ty
open Go Ev
open Enc (enc)
open Sm (sm)
set_option linter.unusedSimpArgs false
set_option linter.unusedVariables false
def ar (l:List Symbol) (n:Int):Nat:=if n < 0 then 0 else ((l[n.toNat]?).map fun x=>x.arity.toNat).getD 0
def q75 (l:List Symbol) (n:Int):Bool:=inR n 0 (l.length - 1)||inR n (-12) (-1)
def skip (a:Int→Nat):Nat→List Int→Option (List Int)
 | 0,l=>some l
 | _+1,[]=>none
 | k+1,n::l=>skip a (k+a n) l
def q54 (l:List Symbol) (t:List Int):Int :=
 if t.length < 1∨24 < t.length then 2 else if t.any (fun n => !q75 l n) then 3 else if skip (ar l) 1 t=some [] then 0 else 1
def termFault (s:Signature) (t:List Int):Int:=if q41 s≠0 then q41 s else q54 s.symbols t
section
variable {a:Int→Nat}
@[simp] theorem q4k (l:List Int):skip a 0 l=some l:=by cases l <;> rfl
theorem qap:∀ {l r:List Int} {k:Nat},skip a k l=some r→∃ p,l=p++r∧(0 < k→0 < p.length)
 | l,r,0,h=>by rw [q4k] at h; cases h; exact ⟨[],rfl,by omega⟩
 | [],r,k+1,h=>by cases h
 | n::l,r,k+1,h=>by
   obtain ⟨p,hp,_⟩:=qap (l:=l) (k:=k+a n) h
   exact ⟨n::p,by rw [hp]; rfl,by simp⟩
theorem qao:∀ (l:List Int) (j k:Nat),skip a (j+k) l=(skip a j l).bind (skip a k)
 | l,0,k=>by simp
 | [],j+1,k=>by rw [Nat.add_right_comm]; rfl
 | n::l,j+1,k=>by
   rw [Nat.add_right_comm]
   show skip a (j+k+a n) l=(skip a (j+a n) l).bind (skip a k)
   rw [Nat.add_right_comm,qao l (j+a n) k]
theorem skip_at {t r:List Int} {e k:Nat} (h:skip a k (t.drop e)=some r):r=t.drop (t.length - r.length)∧r.length≤t.length - e∧(0 < k→r.length < t.length - e):=by
 obtain ⟨p,hp,hk⟩:=qap h
 have hl:(t.drop e).length=p.length+r.length:=by rw [hp,List.length_append]
 rw [List.length_drop] at hl
 refine ⟨?_,by omega,fun h0=>by have:=hk h0; omega⟩
 have h1:t.length - r.length=e+p.length∨t.length≤e:=by omega
 rcases h1 with h1 | h1
 · rw [h1,← List.drop_drop,hp,List.drop_left]
 · have:r.length=0:=by omega
   rw [List.eq_nil_of_length_eq_zero this]
   simp
end
theorem q5b {l:List Symbol} {n:Int}:q75 l n=true↔(0≤n∧n < l.length)∨(-12≤n∧n ≤ -1):=by
 unfold q75
 rw [Bool.or_eq_true,q7k,q7k]
 omega
section
variable {l:List Symbol} (ok:SigOk ⟨l⟩)
include ok
theorem ar_le (n:Int):ar l n≤2:=by
 unfold ar
 split
 · omega
 · cases h:l[n.toNat]? with
   | none=>simp
   | some x =>
     have:=ok.arity x (List.mem_of_getElem? h)
     simp; omega
theorem q8b (n:Int):Call F.q8b [.agg [slc l],.int .i64 n] (.bool (q75 l n)):=by
 have hle:=ok.le
 have h1:Call F.q5l [.agg [slc l],.int .i64 n] (.bool (inR n 0 (l.length - 1))):=by
  refine q0m rfl 0 ((q5l.ev _ _ _).trans ?_)
  simp only [evz,Nat.reduceLT,q3e (x:=(l.length:Int) - 1) (by simp at hle; omega),(q36 _ _ _).eq]
 refine q0m rfl 0 ((q8b.ev _ _ _).trans ?_)
 simp only [evz,Nat.reduceLT,h1.eq,(q36 _ _ _).eq,q75]
 cases inR n 0 (l.length - 1) <;> simp [evz,Nat.reduceLT]
theorem q8e (n:Int):Call F.q8e [.rref [slc l] 0,.int .i64 n] (.bool (q75 l n)):=by
 have hle:=ok.le
 have h1:Call F.q5m [.rref [slc l] 0,.int .i64 n] (.bool (inR n 0 (l.length - 1))):=by
  refine q0m rfl 0 ((q5m.ev _ _ _).trans ?_)
  simp only [evz,Nat.reduceLT,q3e (x:=(l.length:Int) - 1) (by simp at hle; omega),(q1j _ _ _).eq]
 refine q0m rfl 0 ((q8e.ev _ _ _).trans ?_)
 simp only [evz,Nat.reduceLT,h1.eq,(q1j _ _ _).eq,q75]
 cases inR n 0 (l.length - 1) <;> simp [evz,Nat.reduceLT]
theorem ar_eq {n:Int} (hn:0≤n) (h:n.toNat < l.length):(l[n.toNat]).arity=(ar l n:Nat):=by
 have:=ok.arity l[n.toNat] (List.getElem_mem h)
 unfold ar
 rw [if_neg (by omega),List.getElem?_eq_getElem h]
 simp; omega
theorem q6s (n:Int) (h:q75 l n=true):Call F.q6s [.agg [slc l],.int .i64 n] (.int .i64 (ar l n:Nat)):=by
 refine q0m rfl 0 ((q6s.ev _ _ _).trans ?_)
 rw [q5b] at h
 by_cases hn:n < 0
 · simp [hn,ar]
 · obtain ⟨m,rfl⟩:∃ m:Nat,n=m:=⟨n.toNat,by omega⟩
   have hm:m < l.length:=by omega
   have e:=ar_eq ok (n:=m) (by omega) (by simpa using hm)
   have hl:l[m]?=some l[m]:=List.getElem?_eq_getElem hm
   have hn':¬ ((m:Int) < 0):=by omega
   simp only [evz,Nat.reduceLT,hn',hm,hl,q53]
   simp at e
   rw [e]
def q96 (none':Int) (t:List Int) (r:Option (List Int)):Int:=match r with
 | some r=>((t.length - r.length:Nat):Int)
 | none=>none'
theorem q2z (t:List Int) (ht:∀ n∈t,q75 l n=true) (hl:t.length≤4294967296) (e:Nat) (he:e≤t.length) :
 Call F.q2z [.agg [slc l],slc t,.int .i64 e] (.int .i64 (q96 (t.length+1) t (skip (ar l) 1 (t.drop e)))):=by
 have loop:∀ m k o,k≤t.length→t.length+1 < m+k→o≤2*k+1 →
  q2z.at0 (t.length+2) m (q2z.st0 (cells t) (k:Nat) (o:Nat) (cells l))=some (.int .i64 (q96 (t.length+1) t (skip (ar l) o (t.drop k))),[]):=by
  intro m
  induction m with
  | zero=>intros; omega
  | succ m ih =>
    intro k o hk hm ho
    simp only [q2z.next0,q2z.round0,evz,Nat.reduceLT,gt_iff_lt,ge_iff_le]
    cases o with
    | zero =>
      rw [if_neg (by omega),q4k]
      simp only [q96,List.length_drop]
      congr 3; omega
    | succ o =>
      rw [if_pos (by omega)]
      by_cases h:k < t.length
      · have hk':t[k]?=some t[k]:=List.getElem?_eq_getElem h
        have hn:=ht t[k] (List.getElem_mem h)
        have h2:=ar_le ok t[k]
        rw [if_neg (by omega)]
        simp only [h,hk',evz,Nat.reduceLT,q1x,(q6s ok t[k] hn).eq]
        rw [q0o (by omega),q3e (x:=((ar l t[k]:Nat):Int) - 1) (by omega),q3e (by omega)]
        rw [show ((o+1:Nat):Int)+(((ar l t[k]:Nat):Int) - 1)=((o+ar l t[k]:Nat):Int) by omega]
        rw [ih (k+1) (o+ar l t[k]) (by omega) (by omega) (by omega),List.drop_eq_getElem_cons h]
        rfl
      · obtain rfl:k=t.length:=by omega
        rw [if_pos (by omega),q3e (by omega),List.drop_of_length_le (Nat.le_refl _)]
        rfl
 refine q0m rfl (t.length+2) ((q2z.ev _ _ _ _).trans ?_)
 have:=loop (t.length+2) e 1 he (by omega) (by omega)
 exact this
theorem q2r (t:List Int) (ht:∀ n∈t,q75 l n=true) (hl:t.length≤4294967296) (e:Nat) (he:e≤t.length) :
 Call F.q2r [.rref [slc l] 0,slc t,.int .i64 e] (.int .i64 (q96 (-1) t (skip (ar l) 1 (t.drop e)))):=by
 obtain ⟨d,hd⟩:∃ d,d=t.length - e:=⟨_,rfl⟩
 induction d using Nat.strongRecOn generalizing e with
 | ind d ih =>
 refine q0m rfl 4 ((q2r.ev _ _ _ _).trans ?_)
 simp only [evz,Nat.reduceLT,ge_iff_le]
 by_cases h:e < t.length
 case neg =>
  obtain rfl:e=t.length:=by omega
  rw [if_pos (by omega),List.drop_of_length_le (Nat.le_refl _)]
  rfl
 have hk':t[e]?=some t[e]:=List.getElem?_eq_getElem h
 have hn:=ht t[e] (List.getElem_mem h)
 have h2:=ar_le ok t[e]
 rw [if_neg (by omega)]
 simp only [h,hk',evz,Nat.reduceLT,q1x]
 rw [List.drop_eq_getElem_cons h]
 show _=some (T.int .i64 (q96 (-1) t (skip (ar l) (0+ar l t[e]) (t.drop (e+1)))),[])
 rw [Nat.zero_add,q0o (by omega)]
 by_cases hneg:t[e] < 0
 · rw [if_pos hneg]
   have:ar l t[e]=0:=by unfold ar; rw [if_pos hneg]
   rw [this,q4k]
   simp only [q96,List.length_drop]
   congr 3; omega
 rw [if_neg hneg]
 rw [q5b] at hn
 obtain ⟨y,hy⟩:∃ y:Nat,t[e]=y:=⟨t[e].toNat,by omega⟩
 have hym:y < l.length:=by omega
 have hyl:l[y]?=some l[y]:=List.getElem?_eq_getElem hym
 have hya:l[y].arity=(ar l t[e]:Nat):=by
  have:=ar_eq ok (n:=t[e]) (by omega) (by omega)
  simpa [hy] using this
 have loop:∀ m i k,e < k→k≤t.length→i≤ar l t[e]→ar l t[e] < m+i →
  q2r.at0 4 m (q2r.st0 (cells l) (cells t) e (k:Nat) (i:Nat))=some (.int .i64 (q96 (-1) t (skip (ar l) (ar l t[e] - i) (t.drop k))),[]):=by
  intro m
  induction m with
  | zero=>intros; omega
  | succ m ihm =>
    intro i k hk1 hk2 hi hm
    simp only [q2r.next0,q2r.round0,evz,Nat.reduceLT,h,hk',q1x]
    simp only [hy,evz,Nat.reduceLT,hym,hyl,q53,hya]
    by_cases hia:i < ar l t[e]
    · rw [hy] at hia
      rw [if_pos hia,(ih (t.length - k) (by omega) k hk2 rfl).eq]
      simp only [evz,Nat.reduceLT]
      rw [← hy] at hia
      rw [show ar l ((y:Nat):Int) - i=1+(ar l t[e] - (i+1)) by rw [hy]; rw [hy] at hia; omega,qao]
      cases hs:skip (ar l) 1 (t.drop k) with
      | none=>rfl
      | some r =>
        obtain ⟨hr1,hr2,hr3⟩:=skip_at hs
        have hr4:=hr3 (by omega)
        have hnn:¬ q96 (-1) t (some r) < 0:=by show ¬ ((t.length - r.length:Nat):Int) < 0; omega
        rw [if_neg hnn,q0o (by omega),show q96 (-1) t (some r)=((t.length - r.length:Nat):Int) from rfl,ihm (i+1) (t.length - r.length) (by omega) (by omega) (by omega) (by omega),← hr1]
        rfl
    · have:i=ar l t[e]:=by omega
      rw [if_neg (by rw [← hy]; exact hia),show ar l ((y:Nat):Int) - i=0 by rw [← hy]; omega,q4k]
      simp only [q96,List.length_drop]
      congr 3; omega
 have:=loop 4 0 (e+1) (by omega) (by omega) (by omega) (by omega)
 exact this
end
theorem any_nodes {l:List Symbol} {t:List Int}:(t.any fun n => !q75 l n)=false↔∀ n∈t,q75 l n=true:=by
 rw [List.any_eq_false]; simp
theorem skip_whole {a:Int→Nat} {t:List Int}:(q96 (t.length+1) t (skip a 1 t)=t.length↔skip a 1 t=some [])∧(q96 (-1) t (skip a 1 t)=t.length↔skip a 1 t=some []):=by
 cases h:skip a 1 t with
 | none=>simp [q96]; omega
 | some r =>
   obtain ⟨p,hp,_⟩:=qap h
   have:r.length≤t.length:=by rw [hp]; simp
   cases r with
   | nil=>simp [q96]
   | cons x r =>
     simp only [List.length_cons] at this
     refine ⟨⟨fun h => ?_,fun h=>by cases h⟩,⟨fun h => ?_,fun h=>by cases h⟩⟩ <;> (simp only [q96,List.length_cons] at h; omega)
theorem q3z (l:List Symbol) (ok:SigOk ⟨l⟩) (t:List Int) (hs:t.length≤4294967296) :
 Call F.q1y [slc t,.clo F.q45 [.rref [slc l] 0]] (.bool (t.any fun n => !q75 l n)):=by
 have hi:Call F.q0j [slc t,.clo F.q45 [.rref [slc l] 0]] (.int .i64 (idx (fun n => !q75 l n) t)):=by
  refine q0m rfl (t.length+1) ((q0d.ev _ _ _).trans ?_)
  refine q85 (S:=fun m k=>q0d.at0 (t.length+1) m (q0d.st0 (cells t) _ _ (k:Nat))) (fun m k h => ?_) (fun m => ?_) (Nat.lt_succ_self _)
  · have hlk:t[k]?=some t[k]:=List.getElem?_eq_getElem h
    have hc:Call F.q45 [.int .i64 t[k],.rref [slc l] 0] (.bool (!q75 l t[k])):=by
     refine q0m rfl 0 ((q45.ev _ _ _).trans ?_)
     simp only [evz,Nat.reduceLT,(q8b ok _).eq]
    simp only [q0d.next0,q0d.round0,evz,Nat.reduceLT,h,hlk,q1x,hc.eq]
    rw [q0o (by omega)]
    cases q75 l t[k] <;> rfl
  · simp only [q0d.next0,q0d.round0,evz,Nat.reduceLT,Nat.lt_irrefl]
 refine q0m rfl 0 ((q3z.ev _ _ _).trans ?_)
 simp only [evz,Nat.reduceLT,hi.eq,q7y]
theorem q4v (l:List Symbol) (hs:l.length≤4294967296) (t:List Int) (ht:t.length≤4294967296):Call F.q4v [.agg [slc l],slc t] (.int .i64 (termFault ⟨l⟩ t)):=by
 refine q0m rfl 0 ((q4v.ev _ _ _).trans ?_)
 simp only [evz,Nat.reduceLT,(q08 l hs).eq,termFault,q54,gt_iff_lt]
 by_cases h1:q41 ⟨l⟩=0
 case neg=>simp only [h1,evz,Nat.reduceLT,ne_eq,not_false_eq_true]
 have ok:=(q9j _).1 h1
 simp only [h1,evz,Nat.reduceLT,ne_eq,not_true_eq_false]
 by_cases h2:t.length < 1
 · have h2':(t.length:Int) < 1:=by omega
   simp only [h2,h2',evz,Nat.reduceLT,true_or]
 by_cases h3:24 < t.length
 · have h2':¬ (t.length:Int) < 1:=by omega
   have h3':(24:Int) < t.length:=by omega
   simp only [h2,h2',h3,h3',evz,Nat.reduceLT,or_true]
 have h2':¬ (t.length:Int) < 1:=by omega
 have h3':¬ (24:Int) < t.length:=by omega
 simp only [h2,h2',h3,h3',evz,Nat.reduceLT,or_self,(q3z l ok t ht).eq]
 cases h4:t.any fun n => !q75 l n with
 | true=>simp only [evz,Nat.reduceLT]
 | false =>
   have hn:=any_nodes.1 h4
   have he:=q2z ok t hn ht 0 (by omega)
   simp only [evz,Nat.reduceLT,Bool.false_eq_true,show LIM F.q2z [.agg [slc l],slc t,.int .i64 0]=_ from he,List.drop_zero]
   by_cases h5:skip (ar l) 1 t=some []
   · rw [if_pos (skip_whole.1.2 h5),if_pos h5]
   · rw [if_neg fun h=>h5 (skip_whole.1.1 h),if_neg h5]
theorem q1l (l:List Symbol) (ok:SigOk ⟨l⟩) (t:List Int) (ht:t.length≤4294967296):Call F.q1l [.rref [slc l] 0,slc t] (.int .i64 (q54 l t)):=by
 refine q0m rfl (t.length+1) ((q1l.ev _ _ _).trans ?_)
 simp only [evz,Nat.reduceLT,q54,gt_iff_lt]
 by_cases h2:t.length < 1
 · have h2':(t.length:Int) < 1:=by omega
   simp only [h2,h2',evz,Nat.reduceLT,true_or]
 by_cases h3:24 < t.length
 · have h2':¬ (t.length:Int) < 1:=by omega
   have h3':(24:Int) < t.length:=by omega
   simp only [h2,h2',h3,h3',evz,Nat.reduceLT,or_true]
 have h2':¬ (t.length:Int) < 1:=by omega
 have h3':¬ (24:Int) < t.length:=by omega
 simp only [h2,h2',h3,h3',evz,Nat.reduceLT,or_self]
 have step:∀ m k (h:k < t.length),q1l.at0 (t.length+1) (m+1) (q1l.st0 (cells l) (cells t) (k:Nat)) =
  if (fun n => !q75 l n) t[k]=true then some (.int .i64 3,[]) else q1l.at0 (t.length+1) m (q1l.st0 (cells l) (cells t) ((k+1:Nat):Int)):=fun m k h=>by
  have hlk:t[k]?=some t[k]:=List.getElem?_eq_getElem h
  simp only [q1l.next0,q1l.round0,evz,Nat.reduceLT,h,hlk,q1x,(q8e ok _).eq]
  rw [q0o (by omega)]
  by_cases hb:q75 l t[k]=true <;> simp [hb]
 cases h4:t.any fun n => !q75 l n with
 | true =>
   refine (hit_loop (p:=fun n => !q75 l n) (r:=some (.int .i64 3,[])) (S:=fun m k=>q1l.at0 (t.length+1) m (q1l.st0 (cells l) (cells t) (k:Nat))) step h4 (Nat.lt_succ_self _)).trans ?_
   simp only [evz,Nat.reduceLT]
 | false =>
   have hn:=any_nodes.1 h4
   have he:=q2r ok t hn ht 0 (by omega)
   refine (q82 (p:=fun n => !q75 l n) (r:=some (.int .i64 3,[])) (S:=fun m k=>q1l.at0 (t.length+1) m (q1l.st0 (cells l) (cells t) (k:Nat))) (z:=if skip (ar l) 1 t=some [] then some (.int .i64 0,[]) else some (.int .i64 1,[])) step (fun m => ?_) (Nat.lt_succ_self _)).trans ?_
   · simp only [q1l.next0,q1l.round0,evz,Nat.reduceLT,Nat.lt_irrefl,show LIM F.q2r [.rref [slc l] 0,slc t,.int .i64 0]=_ from he,List.drop_zero]
     by_cases h5:skip (ar l) 1 t=some []
     · rw [if_pos (skip_whole.2.2 h5),if_pos h5]
     · rw [if_neg fun h=>h5 (skip_whole.2.1 h),if_neg h5]
   · rw [h4]
     simp only [evz,Nat.reduceLT,Bool.false_eq_true]
     by_cases h5:skip (ar l) 1 t=some [] <;> simp only [h5,if_true,if_false]
end Ev.Ty
end
section
namespace Ev.Ty
open Go Ev
set_option linter.unusedSimpArgs false
set_option linter.unusedVariables false
inductive Tm where
 | v (n:Int)
 | k (n:Int)
 | u (n:Int) (x:Tm)
 | b (n:Int) (x y:Tm)
 deriving DecidableEq
namespace Tm
def flat:Tm→List Int
 | v n=>[n]
 | k n=>[n]
 | u n x=>n::x.flat
 | b n x y=>n::(x.flat++y.flat)
def ok (a:Int→Nat):Tm→Prop
 | v n=>n < 0
 | k n=>0≤n∧a n=0
 | u n x=>0≤n∧a n=1∧x.ok a
 | b n x y=>0≤n∧a n=2∧x.ok a∧y.ok a
variable {a:Int→Nat}
end Tm
theorem ar_neg (l:List Symbol) {n:Int} (h:n < 0):ar l n=0:=by unfold ar; rw [if_pos h]
structure TermOk (l:List Symbol) (t:List Int):Prop where
 pos:1≤t.length
 le:t.length≤24
 node:∀ n∈t,q75 l n=true
 skip:skip (ar l) 1 t=some []
theorem q8t (l:List Symbol) (t:List Int):q54 l t=0↔TermOk l t:=by
 unfold q54
 constructor
 · intro h
   split at h
   · cases h
   · split at h
     · cases h
     · rename_i h1 h2
       split at h
       · rename_i h3
         exact ⟨by omega,by omega,any_nodes.1 (by simpa using h2),h3⟩
       · cases h
 · intro h
   have:=h.pos; have:=h.le
   rw [if_neg (by omega),if_neg (by rw [any_nodes.2 h.node]; simp),if_pos h.skip]
end Ev.Ty
end
section
namespace Ev.Ty
open Go Ev
open Enc (enc)
open Sm (sm)
set_option linter.unusedSimpArgs false
set_option linter.unusedVariables false
structure AlgOk (l:List Symbol) (z:Int) (tb:List (List Int)):Prop where
 sig:SigOk ⟨l⟩
 size:1≤z∧z≤3
 len:tb.length=l.length
 rows:∀ (k:Nat) (h:k < l.length) (h':k < tb.length),tb[k].length=z.toNat ^ (l[k]).arity.toNat∧∀ n∈tb[k],0≤n∧n≤z - 1
def Tm.eval (z:Int) (tb:List (List Int)) (vs:List Int):Tm→Int
 | v n=>vs.getD (-1 - n).toNat 0
 | k n=>(tb.getD n.toNat []).getD 0 0
 | u n x=>(tb.getD n.toNat []).getD (x.eval z tb vs).toNat 0
 | b n x y=>(tb.getD n.toNat []).getD (x.eval z tb vs*z+y.eval z tb vs).toNat 0
section
variable {l:List Symbol} {z:Int} {tb:List (List Int)} (al:AlgOk l z tb) {vs:List Int} (hv:vs.length=6) (hr:∀ n∈vs,0≤n∧n≤z - 1)
include al
include hv hr
end
end Ev.Ty
end
section
namespace Ev.Ty
open Go Ev
open Enc (enc)
open Sm (sm)
set_option linter.unusedSimpArgs false
set_option linter.unusedVariables false
theorem getD_of {α:Type} {v:List α} {i:Nat} {d:α} (h:i < v.length):v.getD i d=v[i]:=by simp [h]
section
variable {l:List Symbol} {z:Int} {tb:List (List Int)} (al:AlgOk l z tb) {vs:List Int} (hv:vs.length=6) (hr:∀ n∈vs,0≤n∧n≤z - 1)
include al hv hr
end
end Ev.Ty
end
section
namespace Ev.Ty
open Go Ev
open Enc (enc)
open Sm (sm)
set_option linter.unusedSimpArgs false
set_option linter.unusedVariables false
theorem q2k (l:List Int) (hl:l.length≤4294967296):Call F.q2k [slc l] (.int .i64 ((l.find? fun n=>decide (n≠0)).getD 0)):=by
 refine q0m rfl (l.length+1) ((q2k.ev _ _).trans ?_)
 have:=q9m (l:=l) (g:=fun n=>if n≠0 then some (some (.int .i64 n,[])) else none) (z:=some (.int .i64 0,[])) (S:=fun m k=>q2k.at0 (l.length+1) m (q2k.st0 0 (cells l) l.length (k:Nat)))
  (fun m k h=>by
   have hlk:l[k]?=some l[k]:=List.getElem?_eq_getElem h
   simp only [q2k.next0,q2k.round0,evz,Nat.reduceLT,h,hlk,q1x]
   rw [q0o (by omega)]
   by_cases e:l[k]=0 <;> simp [e])
  (fun m=>by simp only [q2k.next0,q2k.round0,evz,Nat.reduceLT,Nat.lt_irrefl]) (Nat.lt_succ_self _)
 simp only [q3y,q3r]
 refine this.trans ?_
 clear this
 induction l with
 | nil=>rfl
 | cons x l ih =>
   rw [List.findSome?_cons,List.find?_cons]
   by_cases e:x=0
   · simpa [e] using ih (by simp at hl; omega)
   · simp [e]
theorem impl_firstCode2 (a b:Int):Call F.q63 [.sl 1 [.int .i64 a,.int .i64 b]] (.int .i64 (if a=0 then b else a)):=by
 refine q0m rfl 0 ((q63.ev _ _).trans ?_)
 have:=q2k [a,b] (by simp)
 simp only [evz,Nat.reduceLT,show LIM F.q2k [.sl 1 [.int .i64 a,.int .i64 b]]=_ from this]
 by_cases h:a=0
 · by_cases h':b=0 <;> simp [h,h']
 · simp [h]
theorem q30 (t:List Int) (hl:t.length≤4294967296):Call F.q30 [slc t] (.bool (!t.any fun n=>decide (n < -6))):=by
 refine q0m rfl (t.length+1) ((q30.ev _ _).trans ?_)
 refine (q82 (l:=t) (p:=fun n=>decide (n < -6)) (r:=some (.bool false,[])) (z:=some (.bool true,[])) (S:=fun m k=>q30.at0 (t.length+1) m (q30.st0 (cells t) (k:Nat))) (fun m k h => ?_) (fun m => ?_) (Nat.lt_succ_self _)).trans ?_
 · have hlk:t[k]?=some t[k]:=List.getElem?_eq_getElem h
   simp only [q30.next0,q30.round0,evz,Nat.reduceLT,h,hlk,q1x]
   rw [q0o (by omega)]
   simp only [decide_eq_true_eq]
 · simp only [q30.next0,q30.round0,evz,Nat.reduceLT,Nat.lt_irrefl]
 · cases t.any fun n=>decide (n < -6) <;> rfl
open Classical in
section
variable (l:List Symbol) (z:Int) (tb:List (List Int)) (vs t:List Int) (hs:l.length≤4294967296) (ht:sm 4294967296 tb) (hl:t.length≤4294967296)
include hs ht hl
end
end Ev.Ty
end
section
namespace Ev.Ty
open Go Ev
open Enc (enc)
open Sm (sm)
set_option linter.unusedSimpArgs false
set_option linter.unusedVariables false
theorem q7v:∀ l:List Int,intsT l=cells l
 | []=>rfl
 | x::l=>by rw [q5t,← q7v l]; rfl
def sorted (l:List Int):List Int:=l.mergeSort fun x y=>decide (x≤y)
theorem q7m (l:List Int) (h:l.length≤4294967296):LIM F.q7m [slc l]=some (.tup [],[slc (sorted l)]):=by
 refine lim_ext (e:=sortE) rfl (Ev.of fun m => ?_)
 show ((intsOf (cells l)).bind fun zs=>bif decide (zs.length < 4611686018427387904) then some (T.tup [],[T.sl 1 (intsT (zs.mergeSort fun x y=>decide (x≤y)))]) else none)=_
 rw [← q7v,qa1,Option.bind_some,decide_eq_true (by omega),cond_true,q7v]
 rfl
theorem q6q (l:List Int) (h:l.length≤4294967296):Call F.q6q [slc l] (slc (Lib.compact l)):=by
 refine lim_ext (e:=compactE) rfl (Ev.of fun m => ?_)
 show ((intsOf (cells l)).bind fun zs=>bif decide (zs.length < 4611686018427387904) then some (T.sl 1 (intsT (Lib.compact zs)),[]) else none)=_
 rw [← q7v,qa1,Option.bind_some,decide_eq_true (by omega),cond_true,q7v]
 rfl
theorem mem_compact {l:List Int} {x:Int}:x∈Lib.compact l↔x∈l:=by
 unfold Lib.compact Lib.compactUpTo
 simp only [List.mem_map,List.mem_filter,List.mem_range]
 constructor
 · rintro ⟨j,⟨hj,_⟩,rfl⟩
   rw [getElem!_pos _ j (by simpa using hj)]
   simp
 · intro h
   obtain ⟨i,hi,rfl⟩:=List.mem_iff_getElem.1 h
   have:∀ j,(hj:j < l.length)→∃ k,(k < l.length∧Lib.keeps l.toArray k=true)∧l.toArray[k]! = l[j]:=by
    intro j
    induction j with
    | zero=>intro hj; exact ⟨0,⟨hj,by simp [Lib.keeps]⟩,by simp [hj]⟩
    | succ j ih =>
      intro hj
      by_cases e:l[j+1]=l[j]
      · obtain ⟨k,hk,he⟩:=ih (by omega)
        exact ⟨k,hk,by rw [he,e]⟩
      · refine ⟨j+1,⟨hj,?_⟩,by simp [hj]⟩
        have hj':j < l.length:=by omega
        simp [Lib.keeps,hj,hj',e]
   exact this i hi
theorem compact_length (l:List Int):(Lib.compact l).length≤l.length:=compact_len l
def vars (t:List Int):List Int:=(t.filter fun n=>decide (n < 0)).map fun n => -1 - n
theorem mem_vars {t:List Int} {v:Int}:v∈vars t↔0≤v∧(-1 - v)∈t:=by
 unfold vars
 simp only [List.mem_map,List.mem_filter,decide_eq_true_eq]
 constructor
 · rintro ⟨n,⟨hn,h0⟩,rfl⟩
   exact ⟨by omega,by rw [show -1 - (-1 - n)=n by omega]; exact hn⟩
 · rintro ⟨h0,h⟩
   exact ⟨-1 - v,⟨h,by omega⟩,by omega⟩
theorem vars_length (t:List Int):(vars t).length≤t.length:=by
 unfold vars
 rw [List.length_map]; exact List.length_filter_le _ _
def qab (l:List (List Int)):List Int:=Lib.compact (sorted (l.flatMap vars))
theorem q8w {l:List (List Int)} {v:Int}:v∈qab l↔0≤v∧∃ t∈l,(-1 - v)∈t:=by
 unfold qab sorted
 rw [mem_compact,List.mem_mergeSort,List.mem_flatMap]
 constructor
 · rintro ⟨t,ht,h⟩
   obtain ⟨h0,h1⟩:=mem_vars.1 h
   exact ⟨h0,t,ht,h1⟩
 · rintro ⟨h0,t,ht,h1⟩
   exact ⟨t,ht,mem_vars.2 ⟨h0,h1⟩⟩
theorem flat_vars_length:∀ l:List (List Int),(l.flatMap vars).length≤(l.map List.length).sum
 | []=>by simp
 | t::l=>by
   rw [List.flatMap_cons,List.length_append,List.map_cons,List.sum_cons]
   have:=vars_length t
   have:=flat_vars_length l
   omega
theorem varsOf_length (l:List (List Int)):(qab l).length≤(l.map List.length).sum:=by
 unfold qab
 refine Nat.le_trans (compact_length _) ?_
 unfold sorted
 rw [List.length_mergeSort]
 exact flat_vars_length l
theorem q0y (l:List (List Int)) (hl:l.length≤24) (ht:∀ t∈l,t.length≤4294967296∧∀ n∈t,-12≤n) (hsum:(l.map List.length).sum≤4294967296):Call F.q0y [slc l] (slc (qab l)):=by
 obtain ⟨N,hN⟩:∃ N,N=4294967297:=⟨_,rfl⟩
 have inner:∀ (L0:St→R) (x0:List T) (x1 x2:Int) (t:List Int),(∀ n∈t,-12≤n)→∀ m k (acc:List Int),k≤t.length→t.length < m+k→acc.length+t.length≤k+4294967296→t.length≤4294967296 →
  q0y.at2 N L0 m (q0y.st2 x0 x1 x2 (cells t) t.length (k:Nat) (cells acc))=L0 (q0y.st0 x0 x1 (IntKind.wrap .i64 (x2+1)) (cells (acc++vars (t.drop k)))):=by
  intro L0 x0 x1 x2 t hn m
  induction m with
  | zero=>intros; omega
  | succ m ih =>
    intro k acc hk hm hacc htl
    by_cases h:k < t.length
    · have hlk:t[k]?=some t[k]:=List.getElem?_eq_getElem h
      simp only [q0y.next2,q0y.round2,evz,Nat.reduceLT,h,hlk,q1x]
      rw [q0o (by omega),List.drop_eq_getElem_cons h]
      have hge:=hn t[k] (List.getElem_mem h)
      by_cases h0:t[k] < 0
      · have hble:Nat.ble (((cells acc).length+1)*8) (140737488355328*1)=true:=by
         rw [Nat.ble_eq,q0s,q3r]; omega
        rw [q3e (by omega),q40,hble,ih (k+1) (acc++[-1 - t[k]]) (by omega) (by omega) (by rw [List.length_append]; simp; omega) htl]
        simp only [h0,evz,Nat.reduceLT,vars,List.filter_cons,List.map_cons,List.append_assoc,List.singleton_append]
      · rw [ih (k+1) acc (by omega) (by omega) (by omega) htl]
        simp only [h0,evz,Nat.reduceLT,vars,List.filter_cons,Bool.false_eq_true]
    · obtain rfl:k=t.length:=by omega
      simp only [q0y.next2,q0y.round2,evz,Nat.reduceLT,Nat.lt_irrefl,List.drop_length,vars,List.filter_nil,List.map_nil,List.append_nil]
 have outer:∀ m k (acc:List Int),k≤l.length→l.length < m+k→acc.length+((l.drop k).map List.length).sum≤4294967296 →
  q0y.at0 N m (q0y.st0 (cells l) l.length (k:Nat) (cells acc))=some (slc (Lib.compact (sorted (acc++(l.drop k).flatMap vars))),[]):=by
  intro m
  induction m with
  | zero=>intros; omega
  | succ m ih =>
    intro k acc hk hm hacc
    by_cases h:k < l.length
    · have hlk:l[k]?=some l[k]:=List.getElem?_eq_getElem h
      obtain ⟨q1,q2⟩:=ht l[k] (List.getElem_mem h)
      rw [List.drop_eq_getElem_cons h,List.map_cons,List.sum_cons] at hacc
      simp only [q0y.next0,q0y.round0,evz,Nat.reduceLT,h,hlk,q8l]
      have hin:=inner (q0y.at0 N m) (cells l) l.length (k:Nat) l[k] q2 N 0 acc (by omega) (by omega) (by omega) q1
      rw [List.drop_zero,q0o (by omega)] at hin
      refine Eq.trans hin ?_
      have:=vars_length l[k]
      rw [ih (k+1) (acc++vars l[k]) (by omega) (by omega) (by rw [List.length_append]; omega),List.drop_eq_getElem_cons h,List.flatMap_cons,List.append_assoc]
    · obtain rfl:k=l.length:=by omega
      rw [List.drop_length] at hacc ⊢
      have hs:=q7m acc (by simpa using hacc)
      have hc:=q6q (sorted acc) (by unfold sorted; rw [List.length_mergeSort]; simpa using hacc)
      simp only [q0y.next0,q0y.round0,evz,Nat.reduceLT,Nat.lt_irrefl,List.flatMap_nil,List.append_nil]
      simp only [hs,hc.eq,evz,Nat.reduceLT]
 refine q0m rfl N ((q0y.ev _ _).trans ?_)
 have:=outer N 0 [] (by omega) (by omega) (by simpa using hsum)
 rw [List.drop_zero,List.nil_append] at this
 simp only [q3y,q7t]
 exact this
end Ev.Ty
end
section
namespace Ev.Ty
open Go Ev
open Enc (enc)
open Sm (sm)
set_option linter.unusedSimpArgs false
set_option linter.unusedVariables false
def low6 (t:List Int):Bool := !t.any fun n=>decide (n < -6)
theorem low6_iff {t:List Int}:low6 t=true↔∀ n∈t,-6≤n:=by
 unfold low6
 rw [Bool.not_eq_true',List.any_eq_false]
 constructor
 · intro h n hn; have:=h n hn; simpa using this
 · intro h n hn; simpa using h n hn
def q4c (l:List Symbol) (e:Equation):Int :=
 if q54 l e.left≠0 then q54 l e.left else if q54 l e.right≠0 then q54 l e.right else if low6 e.left=true then (if low6 e.right=true then 0 else 3) else 3
def q6m (l:List Symbol) (es:List Equation):Int :=
 if 12 < es.length then 2 else (es.findSome? fun e=>if q4c l e≠0 then some (q4c l e) else none).getD 0
def ruleOk (e:Equation):Bool:=decide (0≤e.left.headD 0) && !e.right.any fun n=>decide (n < 0∧n∉e.left)
def q9o (l:List Symbol) (es:List Equation):Int:=if q6m l es≠0 then q6m l es else if (es.any fun e => !ruleOk e)=true then 1 else 0
def q4t (s:Signature) (es:List Equation):Int:=if q41 s≠0 then q41 s else q9o s.symbols es
structure EqOk (l:List Symbol) (e:Equation):Prop where
 left:TermOk l e.left
 right:TermOk l e.right
 lowL:∀ n∈e.left,-6≤n
 lowR:∀ n∈e.right,-6≤n
theorem eqOk_iff {l:List Symbol} {e:Equation}:q4c l e=0↔EqOk l e:=by
 unfold q4c
 constructor
 · intro h
   by_cases h1:q54 l e.left=0
   · by_cases h2:q54 l e.right=0
     · by_cases h3:low6 e.left=true
       · by_cases h4:low6 e.right=true
         · exact ⟨(q8t _ _).1 h1,(q8t _ _).1 h2,low6_iff.1 h3,low6_iff.1 h4⟩
         · simp [h1,h2,h3,h4] at h
       · simp [h1,h2,h3] at h
     · simp [h1,h2] at h
   · simp [h1] at h
 · intro h
   simp [(q8t _ _).2 h.left,(q8t _ _).2 h.right,low6_iff.2 h.lowL,low6_iff.2 h.lowR]
theorem qah {l:List Symbol} {es:List Equation}:q6m l es=0↔es.length≤12∧∀ e∈es,EqOk l e:=by
 unfold q6m
 by_cases h:12 < es.length
 · rw [if_pos h]
   constructor
   · intro h; cases h
   · intro h'; omega
 · rw [if_neg h]
   have:(es.findSome? fun e=>if q4c l e≠0 then some (q4c l e) else none).getD 0=0↔∀ e∈es,q4c l e=0:=by
    cases hf:es.findSome? fun e=>if q4c l e≠0 then some (q4c l e) else none with
    | none =>
      rw [q9b] at hf
      refine ⟨fun _ e he => ?_,fun _=>rfl⟩
      have:=hf e he
      by_cases h:q4c l e=0
      · exact h
      · simp [h] at this
    | some c =>
      obtain ⟨e,he,h1⟩:=List.exists_of_findSome?_eq_some hf
      by_cases h:q4c l e=0
      · simp [h] at h1
      · simp [h] at h1
        subst h1
        exact ⟨fun h'=>absurd h' h,fun h'=>absurd (h' e he) h⟩
   rw [this]
   constructor
   · intro h'; exact ⟨by omega,fun e he=>eqOk_iff.1 (h' e he)⟩
   · intro h' e he; exact eqOk_iff.2 (h'.2 e he)
theorem TermOk.ge {l:List Symbol} {t:List Int} (h:TermOk l t):∀ n∈t,-12≤n:=fun n hn=>by
 rcases q5b.1 (h.node n hn) with h | h <;> omega
theorem q1i (l:List Int) (x:Int) (hl:l.length≤4294967296):Call F.q1i [slc l,.int .i64 x] (.bool (decide (x∈l))):=by
 have hi:Call F.q0f [slc l,.int .i64 x] (.int .i64 (idx (fun y=>decide (x=y)) l)):=by
  refine q0m rfl (l.length+1) ((q0f.ev _ _ _).trans ?_)
  simp only [evz,Nat.reduceLT]
  refine q85 (S:=fun m k=>q0f.at0 (l.length+1) m (q0f.st0 (cells l) x l.length (k:Nat))) (fun m k h => ?_) (fun m => ?_) (Nat.lt_succ_self _)
  · have hlk:l[k]?=some l[k]:=List.getElem?_eq_getElem h
    simp only [q0f.next0,q0f.round0,evz,Nat.reduceLT,h,hlk,q1x]
    rw [q0o (by omega)]
    by_cases e:x=l[k] <;> simp [e]
  · simp only [q0f.next0,q0f.round0,evz,Nat.reduceLT,Nat.lt_irrefl]
 refine q0m rfl 0 ((q1i.ev _ _ _).trans ?_)
 simp only [evz,Nat.reduceLT,hi.eq,q7y]
 have:(l.any fun y=>decide (x=y))=decide (x∈l):=by
  rw [Bool.eq_iff_iff,List.any_eq_true,decide_eq_true_eq]
  constructor
  · rintro ⟨y,hy,h⟩; rw [decide_eq_true_eq] at h; rw [h]; exact hy
  · intro h; exact ⟨x,h,by simp⟩
 rw [this]
theorem q3o (t:List Int) (hs:t.length≤4294967296) :
 Call F.q1y [slc t,.clo F.q3c []] (.bool (t.any fun n=>decide (n ≥ 6))):=by
 have hi:Call F.q0j [slc t,.clo F.q3c []] (.int .i64 (idx (fun n=>decide (n ≥ 6)) t)):=by
  refine q0m rfl (t.length+1) ((q09.ev _ _).trans ?_)
  refine q85 (S:=fun m k=>q09.at0 (t.length+1) m (q09.st0 (cells t) _ (k:Nat))) (fun m k h => ?_) (fun m => ?_) (Nat.lt_succ_self _)
  · have hlk:t[k]?=some t[k]:=List.getElem?_eq_getElem h
    have hc:Call F.q3c [.int .i64 t[k]] (.bool (decide (t[k] ≥ 6))):=q0m rfl 0 (q3c.ev _ _)
    simp only [q09.next0,q09.round0,evz,Nat.reduceLT,h,hlk,q1x,hc.eq]
    rw [q0o (by omega)]
    by_cases e:t[k] ≥ 6 <;> simp [e]
  · simp only [q09.next0,q09.round0,evz,Nat.reduceLT,Nat.lt_irrefl]
 refine q0m rfl 0 ((q3o.ev _ _).trans ?_)
 simp only [evz,Nat.reduceLT,hi.eq,q7y]
theorem q56 (l:List Symbol) (hs:l.length≤4294967296) (a b:List Int) (ha:a.length≤4294967296) (hb:b.length≤4294967296) :
 Call F.q56 [.agg [slc l],.agg [slc a,slc b]] (.int .i64 (if q41 ⟨l⟩≠0 then q41 ⟨l⟩ else q4c l ⟨a,b⟩)):=by
 refine q0m rfl 0 ((q56.ev _ _ _ _).trans ?_)
 simp only [evz,Nat.reduceLT,(q4v l hs a ha).eq,(q4v l hs b hb).eq,(impl_firstCode2 _ _).eq,termFault,q4c]
 by_cases h1:q41 ⟨l⟩=0
 case neg=>simp only [h1,evz,Nat.reduceLT,ne_eq,not_false_eq_true]
 simp only [h1,evz,Nat.reduceLT,ne_eq,not_true_eq_false]
 by_cases h2:q54 l a=0
 case neg=>simp only [h2,evz,Nat.reduceLT,not_false_eq_true]
 by_cases h3:q54 l b=0
 case neg=>simp only [h2,h3,evz,Nat.reduceLT,not_true_eq_false,not_false_eq_true]
 have ta:=(q8t l a).1 h2
 have tb:=(q8t l b).1 h3
 have hal:=ta.le
 have hbl:=tb.le
 have hv:=q0y [a,b] (by simp) (fun t ht=>by
  simp only [List.mem_cons,List.not_mem_nil,or_false] at ht
  rcases ht with rfl | rfl
  · exact ⟨ha,ta.ge⟩
  · exact ⟨hb,tb.ge⟩) (by simp; omega)
 have hvl:=varsOf_length [a,b]
 have hc:=q3o (qab [a,b]) (by simp at hvl; omega)
 simp only [h2,h3,evz,Nat.reduceLT,not_true_eq_false,show LIM F.q0y [.sl 1 [slc a,slc b]]=_ from hv,hc.eq]
 have e1:((qab [a,b]).any fun n=>decide (n ≥ 6)) = !(low6 a&&low6 b):=by
  rw [Bool.eq_iff_iff,List.any_eq_true,Bool.not_eq_true',Bool.eq_false_iff,ne_eq,Bool.and_eq_true,low6_iff,low6_iff]
  constructor
  · rintro ⟨v,hv,h6⟩ ⟨q1,q2⟩
    rw [decide_eq_true_eq] at h6
    obtain ⟨_,t,ht,hm⟩:=q8w.1 hv
    simp only [List.mem_cons,List.not_mem_nil,or_false] at ht
    rcases ht with rfl | rfl
    · have:=q1 _ hm; omega
    · have:=q2 _ hm; omega
  · intro h
    by_cases q1:∀ n∈a,-6≤n
    · have q2:¬ ∀ n∈b,-6≤n:=fun q2=>h ⟨q1,q2⟩
      simp only [Classical.not_forall] at q2
      obtain ⟨n,hn,hlt⟩:=q2
      exact ⟨-1 - n,q8w.2 ⟨by omega,b,by simp,by rw [show -1 - (-1 - n)=n by omega]; exact hn⟩,by simp; omega⟩
    · simp only [Classical.not_forall] at q1
      obtain ⟨n,hn,hlt⟩:=q1
      exact ⟨-1 - n,q8w.2 ⟨by omega,a,by simp,by rw [show -1 - (-1 - n)=n by omega]; exact hn⟩,by simp; omega⟩
 rw [e1]
 cases low6 a <;> cases low6 b <;> rfl
theorem q7u (l:List Symbol) (ok:SigOk ⟨l⟩) (a b:List Int) (ha:a.length≤4294967296) (hb:b.length≤4294967296) :
 Call F.q7u [.rref [slc l] 0,.rref [slc a,slc b] 0] (.int .i64 (q4c l ⟨a,b⟩)):=by
 have la:Call F.q30 [slc a] (.bool (low6 a)):=q30 a ha
 have lb:Call F.q30 [slc b] (.bool (low6 b)):=q30 b hb
 refine q0m rfl 0 ((q7u.ev _ _ _ _).trans ?_)
 simp only [evz,Nat.reduceLT,(q1l l ok a ha).eq,(q1l l ok b hb).eq,la.eq,lb.eq,q4c]
 by_cases h2:q54 l a=0
 case neg=>simp only [h2,evz,Nat.reduceLT,ne_eq,not_false_eq_true]
 by_cases h3:q54 l b=0
 case neg=>simp only [h2,h3,evz,Nat.reduceLT,ne_eq,not_true_eq_false,not_false_eq_true]
 simp only [h2,h3,evz,Nat.reduceLT,ne_eq,not_true_eq_false]
 cases low6 a <;> cases low6 b <;> rfl
theorem eqs_sm {es:List Equation} {k:Nat} (he:sm 4294967296 es) (h:k < es.length):es[k].left.length≤4294967296∧es[k].right.length≤4294967296:=by
 have:=he.2 es[k] (List.getElem_mem h)
 exact ⟨this.1.1,this.2.1⟩
theorem q0v (l:List Symbol) (hs:l.length≤4294967296) (es:List Equation) (he:sm 4294967296 es) :
 Call F.q0v [.agg [slc l],slc es] (.int .i64 (if q41 ⟨l⟩≠0 then q41 ⟨l⟩ else q6m l es)):=by
 refine q0m rfl (es.length+1) ((q0v.ev _ _ _).trans ?_)
 simp only [evz,Nat.reduceLT,(q08 l hs).eq,q6m,gt_iff_lt]
 by_cases h1:q41 ⟨l⟩=0
 case neg=>simp only [h1,evz,Nat.reduceLT,ne_eq,not_false_eq_true]
 by_cases h2:12 < es.length
 · have h2':(12:Int) < es.length:=by omega
   simp only [h1,h2,h2',evz,Nat.reduceLT,ne_eq,not_true_eq_false]
 have h2':¬ (12:Int) < es.length:=by omega
 simp only [h1,h2,h2',evz,Nat.reduceLT,ne_eq,not_true_eq_false]
 refine (q9m (l:=es) (g:=fun e=>if q4c l e≠0 then some (some (.int .i64 (q4c l e),[])) else none) (z:=some (.int .i64 0,[])) (S:=fun m k=>q0v.at0 (es.length+1) m (q0v.st0 (cells es) es.length (k:Nat) (cells l)))
  (fun m k h => ?_) (fun m => ?_) (Nat.lt_succ_self _)).trans ?_
 · have hlk:es[k]?=some es[k]:=List.getElem?_eq_getElem h
   obtain ⟨q1,q2⟩:=eqs_sm he h
   have hc:=q56 l hs es[k].left es[k].right q1 q2
   rw [if_neg (by simpa using h1)] at hc
   simp only [q0v.next0,q0v.round0,evz,Nat.reduceLT,h,hlk,q3d,hc.eq]
   rw [q0o (by omega)]
   by_cases e:q4c l es[k]=0
   · simp [e]
   · simp [e]
 · simp only [q0v.next0,q0v.round0,evz,Nat.reduceLT,Nat.lt_irrefl]
 · have:=q8j (fun e=>if q4c l e≠0 then some (q4c l e) else none) (fun n=>(some (T.int .i64 n,[]):R)) es
   rw [show (fun e=>(if q4c l e≠0 then some (q4c l e) else none).map fun n=>(some (T.int .i64 n,[]):R))=fun e=>if q4c l e≠0 then some (some (T.int .i64 (q4c l e),[])) else none from funext fun e=>by by_cases h:q4c l e=0 <;> simp [h]] at this
   rw [this]
   cases es.findSome? fun e=>if q4c l e≠0 then some (q4c l e) else none <;> rfl
theorem q2d (l:List Symbol) (ok:SigOk ⟨l⟩) (es:List Equation) (he:sm 4294967296 es):Call F.q2d [.rref [slc l] 0,slc es] (.int .i64 (q6m l es)):=by
 refine q0m rfl (es.length+1) ((q2d.ev _ _ _).trans ?_)
 simp only [evz,Nat.reduceLT,q6m,gt_iff_lt]
 by_cases h2:12 < es.length
 · have h2':(12:Int) < es.length:=by omega
   simp only [h2,h2',evz,Nat.reduceLT]
 have h2':¬ (12:Int) < es.length:=by omega
 simp only [h2,h2',evz,Nat.reduceLT]
 refine (q9m (l:=es) (g:=fun e=>if q4c l e≠0 then some (some (.int .i64 (q4c l e),[])) else none) (z:=some (.int .i64 0,[])) (S:=fun m k=>q2d.at0 (es.length+1) m (q2d.st0 (cells l) (cells es) (k:Nat)))
  (fun m k h => ?_) (fun m => ?_) (Nat.lt_succ_self _)).trans ?_
 · have hlk:es[k]?=some es[k]:=List.getElem?_eq_getElem h
   obtain ⟨q1,q2⟩:=eqs_sm he h
   have hc:=q7u l ok es[k].left es[k].right q1 q2
   simp only [q2d.next0,q2d.round0,evz,Nat.reduceLT,h,hlk,q52 q39 hlk,q3d,hc.eq]
   rw [q0o (by omega)]
   by_cases e:q4c l es[k]=0
   · simp [e]
   · simp [e]
 · simp only [q2d.next0,q2d.round0,evz,Nat.reduceLT,Nat.lt_irrefl]
 · have:=q8j (fun e=>if q4c l e≠0 then some (q4c l e) else none) (fun n=>(some (T.int .i64 n,[]):R)) es
   rw [show (fun e=>(if q4c l e≠0 then some (q4c l e) else none).map fun n=>(some (T.int .i64 n,[]):R))=fun e=>if q4c l e≠0 then some (some (T.int .i64 (q4c l e),[])) else none from funext fun e=>by by_cases h:q4c l e=0 <;> simp [h]] at this
   rw [this]
   cases es.findSome? fun e=>if q4c l e≠0 then some (q4c l e) else none <;> rfl
end Ev.Ty
end
section
namespace Ev.Ty
open Go Ev
open Enc (enc)
open Sm (sm)
set_option linter.unusedVariables false
set_option linter.unusedSimpArgs false
theorem q26 (l r:List Int) (hs:sm 4294967296 l):Call F.q26 [slc l,slc r] (.bool (decide (l=r))):=by
 refine q0m rfl (l.length+1) ((q26.ev _ _ _).trans ?_)
 simp only [q3y,q3r]
 by_cases hl:l.length=r.length
 · have loop:=eq_loop hl (S:=fun m k=>q26.at0 (l.length+1) m (q26.st0 (cells l) (cells r) (k:Nat)))
    (fun m k h h'=>by
     have hlk:l[k]?=some l[k]:=List.getElem?_eq_getElem h
     have hrk:r[k]?=some r[k]:=List.getElem?_eq_getElem h'
     simp only [q26.next0,q26.round0,evz,Nat.reduceLT,h,h',hlk,hrk,q52 (l:=l) q3r hlk,q52 (l:=r) q3r hrk,q1x,enc_u8]
     rw [q0o (by have:=hs.1; omega)])
    (fun m=>by
     simp only [q26.next0,q26.round0,evz,Nat.reduceLT,Nat.lt_irrefl])
   rw [q7n (by rw [hl]; exact bne_self_eq_false _)]
   exact loop
 · rw [q16 (by simp; omega)]
   simp only [show (l=r)=False from eq_false fun e=>hl (e ▸ rfl),decide_false]
theorem q0q (l r:List Int) (hs:sm 4294967296 l):Call F.q0q [slc l,slc r] (.bool (decide (l=r))):=by
 refine q0m rfl (l.length+1) ((q0q.ev _ _ _).trans ?_)
 simp only [q3y,q3r]
 by_cases hl:l.length=r.length
 · have loop:=eq_loop hl (S:=fun m k=>q0q.at0 (l.length+1) m (q0q.st0 (cells l) (cells r) l.length (k:Nat)))
    (fun m k h h'=>by
     have hlk:l[k]?=some l[k]:=List.getElem?_eq_getElem h
     have hrk:r[k]?=some r[k]:=List.getElem?_eq_getElem h'
     simp only [q0q.next0,q0q.round0,evz,Nat.reduceLT,h,h',hlk,hrk,q52 (l:=l) q3r hlk,q52 (l:=r) q3r hrk,q1x,enc_u8]
     rw [q0o (by have:=hs.1; omega)])
    (fun m=>by
     simp only [q0q.next0,q0q.round0,evz,Nat.reduceLT,Nat.lt_irrefl])
   rw [q7n (by rw [hl]; exact bne_self_eq_false _)]
   exact loop
 · rw [q16 (by simp; omega)]
   simp only [show (l=r)=False from eq_false fun e=>hl (e ▸ rfl),decide_false]
theorem q5i (v_left:List Int) (v_right:List Int) (w_left:List Int) (w_right:List Int) (hs:sm 4294967296 (Equation.mk v_left v_right)):Call F.q5i [.agg [slc v_left,slc v_right],.agg [slc w_left,slc w_right]] (.bool (decide ((Equation.mk v_left v_right)=(Equation.mk w_left w_right)))):=by
 refine q0m rfl 0 ((q5i.ev _ _ _ _ _ ).trans ?_)
 simp only [evz,Nat.reduceLT,(q0q _ _ hs.1).eq,(q0q _ _ hs.2).eq,Equation.mk.injEq]
 by_cases h0:v_left=w_left
 case neg=>simp only [h0,  beq_self_eq_true,decide_eq_false,not_false_eq_true,if_true,if_false,decide_false,decide_true,cond_false,cond_true,false_and,and_false,↓reduceIte]
 by_cases h1:v_right=w_right
 case neg=>simp only [h1,h0,  beq_self_eq_true,decide_eq_false,not_false_eq_true,if_true,if_false,decide_false,decide_true,cond_false,cond_true,false_and,and_false,↓reduceIte]
 simp only [h0,h1,if_true,decide_true,cond_true,and_true,and_self,beq_self_eq_true]
theorem q31 (a b c d e:Int) (l r:List Int):Call F.q31 [.agg [.int .i64 a,.int .i64 b,.int .i64 c,.int .i64 d,.int .i64 e,slc l,slc r]] (.agg [slc l,slc r]) :=
 q0m rfl 0 ((q31.ev _ _ _ _ _ _ _ _).trans rfl)
end Ev.Ty
end
section
namespace Ev.Ty
open Go Ev
open Enc (enc)
open Sm (sm)
set_option linter.unusedSimpArgs false
set_option linter.unusedVariables false
theorem firstCode2 (a b:Int):Call F.q63 [.sl 1 [.int .i64 a,.int .i64 b]] (.int .i64 (if a=0 then b else a)):=impl_firstCode2 a b
theorem skip_inner {a:Int→Nat}:∀ {t r:List Int} {k p:Nat},skip a k t=some r→p+r.length < t.length→∃ q,skip a 1 (t.drop p)=some q
 | [],r,k,p,h,hp=>by simp at hp
 | n::t,r,0,p,h,hp=>by
   rw [q4k] at h; cases h; omega
 | n::t,r,k+1,0,h,hp=>by
   rw [show k+1=1+k by omega,qao] at h
   cases h1:skip a 1 (n::t) with
   | none=>rw [h1] at h; cases h
   | some q=>exact ⟨q,by simpa using h1⟩
 | n::t,r,k+1,p+1,h,hp=>by
   rw [skip] at h
   obtain ⟨q,hq⟩:=skip_inner (p:=p) h (by simp at hp; omega)
   exact ⟨q,by simpa using hq⟩
def endAt (l:List Symbol) (t:List Int) (p:Nat):Nat:=match skip (ar l) 1 (t.drop p) with
 | some r=>t.length - r.length
 | none=>t.length
theorem q4s {l:List Symbol} {t:List Int} (ok:TermOk l t) {p:Nat} (hp:p < t.length) :
 p < endAt l t p∧endAt l t p≤t.length∧∀ z,q96 z t (skip (ar l) 1 (t.drop p))=(endAt l t p:Nat):=by
 obtain ⟨q,hq⟩:=skip_inner (p:=p) ok.skip (by simpa using hp)
 have h:=skip_at hq
 unfold endAt
 rw [hq]
 refine ⟨?_,by simp only; omega,fun z=>rfl⟩
 have:=h.2.2 (by omega)
 simp only
 omega
section
variable {l:List Symbol} (ok:SigOk ⟨l⟩)
include ok
theorem endOf_at {t:List Int} (ht:TermOk l t) {p:Nat} (hp:p < t.length):Call F.q2z [.agg [slc l],slc t,.int .i64 p] (.int .i64 (endAt l t p:Nat)):=by
 have h:=q2z ok t ht.node (by have:=ht.le; omega) p (Nat.le_of_lt hp)
 rwa [(q4s ht hp).2.2] at h
theorem l3End_at {t:List Int} (ht:TermOk l t) {p:Nat} (hp:p < t.length):Call F.q2r [.rref [slc l] 0,slc t,.int .i64 p] (.int .i64 (endAt l t p:Nat)):=by
 have h:=q2r ok t ht.node (by have:=ht.le; omega) p (Nat.le_of_lt hp)
 rwa [(q4s ht hp).2.2] at h
end
theorem cells_cut (t:List Int) (i j:Nat):((cells t).take (j*1)).drop (i*1)=cells ((t.take j).drop i):=by
 rw [q7i t 1 j rfl,q9e _ 1 i rfl]
def subAt (l:List Symbol) (t:List Int) (p:Nat):List Int:=(t.take (endAt l t p)).drop p
theorem qan (t:List Int) (i j:Nat):T.sl 1 (((cells t).take (j*1)).drop (i*1))=slc ((t.take j).drop i):=by rw [cells_cut]; rfl
theorem q5o (l:List Int) (h:l.length≤4294967296):Call F.q38 [slc l] (slc l):=by
 refine q0m rfl 0 ((q38.ev _ _).trans ?_)
 rw [q5h,q16 rfl,q16 (q4p (by rw [q0s,q3r]; omega))]
 rfl
theorem q2q (l:List Int) (h:l.length≤4294967296):Call F.q2q [slc l] (slc l):=by
 refine lim_ext (e:=cloneE) rfl (Ev.of fun m => ?_)
 show (intsOf (cells l)).bind _=_
 rw [← q7v,qa1]
 show (bif _ then _ else _)=_
 rw [q16 (by rw [decide_eq_true_iff]; omega),q7v]
 rfl
section
variable {l:List Symbol} (ok:SigOk ⟨l⟩)
include ok
theorem q3h {t:List Int} (ht:TermOk l t) {p:Nat} (hp:p < t.length):Call F.q3h [.agg [slc l],slc t,.int .i64 p] (slc (subAt l t p)):=by
 refine q0m rfl 0 ((q3h.ev _ _ _ _).trans ?_)
 obtain ⟨h1,h2,_⟩:=q4s ht hp
 simp only [evz,Nat.reduceLT,(endOf_at ok ht hp).eq]
 rw [q16 (by simp; omega),qan]
 rfl
theorem q68 {t:List Int} (ht:TermOk l t) {p:Nat} (hp:p < t.length):Call F.q68 [.rref [slc l] 0,slc t,.int .i64 p] (slc (subAt l t p)):=by
 refine q0m rfl 0 ((q68.ev _ _ _ _).trans ?_)
 obtain ⟨h1,h2,_⟩:=q4s ht hp
 have hle:=ht.le
 simp only [evz,Nat.reduceLT,(l3End_at ok ht hp).eq]
 rw [q16 (by simp; omega),qan,(q5o _ (by simp; omega)).eq]
 simp only [evz,Nat.reduceLT]
 rfl
def q5c (l:List Symbol) (t:List Int) (p:Nat) (by_:List Int):List Int:=(t.take p++by_)++t.drop (endAt l t p)
theorem q5y {t:List Int} (ht:TermOk l t) {p:Nat} (hp:p < t.length) (by_:List Int) (hb:by_.length≤1048576):Call F.q5y [.agg [slc l],slc t,.int .i64 p,slc by_] (slc (q5c l t p by_)):=by
 refine q0m rfl 0 ((q5y.ev _ _ _ _ _).trans ?_)
 obtain ⟨h1,h2,_⟩:=q4s ht hp
 have hle:=ht.le
 simp only [q3y,q3r,Int.toNat_natCast]
 rw [q16 (by simp; omega),qan,(q2q _ (by simp; omega)).eq]
 simp only [evz,Nat.reduceLT,q5h,(endOf_at ok ht hp).eq,cells_cut,← q35,q3y,q3r,Int.toNat_natCast]
 rw [q16 (q4p (by rw [q0s,q0s,q3r]; simp; omega)),q16 (by simp; omega),q16 (q4p (by rw [q0s,q0s,q3r]; simp; omega))]
 simp [q5c,slc]
theorem q5n {t:List Int} (ht:TermOk l t) {p:Nat} (hp:p < t.length) (by_:List Int) (hb:by_.length≤1048576):Call F.q5n [.rref [slc l] 0,slc t,.int .i64 p,slc by_] (slc (q5c l t p by_)):=by
 refine q0m rfl 0 ((q5n.ev _ _ _ _ _).trans ?_)
 obtain ⟨h1,h2,_⟩:=q4s ht hp
 have hle:=ht.le
 simp only [q3y,q3r,Int.toNat_natCast]
 rw [q16 (by simp; omega),qan,(q5o _ (by simp; omega)).eq]
 simp only [evz,Nat.reduceLT,q5h,(l3End_at ok ht hp).eq,cells_cut,← q35,q3y,q3r,Int.toNat_natCast]
 rw [q16 (q4p (by rw [q0s,q0s,q3r]; simp; omega)),q16 (by simp; omega),q16 (q4p (by rw [q0s,q0s,q3r]; simp; omega))]
 simp [q5c,slc]
end
theorem replAt_length {l:List Symbol} {t:List Int} {p:Nat} {by_:List Int}:(q5c l t p by_).length≤t.length+by_.length+t.length:=by simp [q5c]; omega
def q65 (vs:List Int) (ts:List (List Int)) (v:Int):Option (List Int):=if idx (fun x=>decide (x=v)) vs < 0 then none else ts[(idx (fun x=>decide (x=v)) vs).toNat]?
theorem q0f (l:List Int) (x:Int) (hl:l.length≤4294967296):Call F.q0f [slc l,.int .i64 x] (.int .i64 (idx (fun y=>decide (y=x)) l)):=by
 refine q0m rfl (l.length+1) ((q0f.ev _ _ _).trans ?_)
 simp only [evz,Nat.reduceLT]
 refine q85 (S:=fun m k=>q0f.at0 (l.length+1) m (q0f.st0 (cells l) x l.length (k:Nat))) (fun m k h => ?_) (fun m => ?_) (Nat.lt_succ_self _)
 · have hlk:l[k]?=some l[k]:=List.getElem?_eq_getElem h
   simp only [q0f.next0,q0f.round0,evz,Nat.reduceLT,h,hlk,q1x]
   rw [q0o (by omega)]
   by_cases e:x=l[k]
   · simp [e]
   · have e':¬ l[k]=x:=fun h=>e h.symm
     simp [e,e']
 · simp only [q0f.next0,q0f.round0,evz,Nat.reduceLT,Nat.lt_irrefl]
def ofT:Option (List Int)→T
 | some t => .tup [slc t,.bool true]
 | none => .tup [slc ([]:List Int),.bool false]
theorem q5a (vs:List Int) (ts:List (List Int)) (v:Int) (hl:vs.length=ts.length) (hs:vs.length≤4294967296):Call F.q5a [.agg [slc vs,slc ts],.int .i64 v] (ofT (q65 vs ts v)):=by
 refine q0m rfl 0 ((q5a.ev _ _ _ _).trans ?_)
 simp only [evz,Nat.reduceLT,(q0f vs v hs).eq,q65]
 rcases q7w (fun x:Int=>decide (x=v)) vs with ⟨h,_⟩ | ⟨i,hi,h,_,_⟩
 · simp only [h,evz,Nat.reduceLT,ofT,q4q,show ((-1:Int) < 0)=True from by simp]
 · have hn:¬ ((i:Nat):Int) < 0:=by omega
   have hit:i < ts.length:=by omega
   simp only [h,hn,evz,Nat.reduceLT,hit,List.getElem?_eq_getElem,q8l,ofT]
theorem q2t (vs:List Int) (ts:List (List Int)) (v:Int) (hl:vs.length=ts.length) (hs:vs.length≤4294967296):Call F.q2t [.rref [slc vs,slc ts] 0,.int .i64 v] (slc ((q65 vs ts v).getD [])):=by
 refine q0m rfl (vs.length+1) ((q2t.ev _ _ _ _).trans ?_)
 have loop:=q9m (l:=List.range vs.length) (g:=fun k=>if vs[k]?=some v then some (some (slc (ts[k]?.getD []),[])) else none) (z:=some (slc ([]:List Int),[]))
  (S:=fun m k=>q2t.at0 (vs.length+1) m (q2t.st0 (cells vs) (cells ts) v (k:Nat))) (fun m k h => ?_) (fun m => ?_) (f:=vs.length+1) (by simp)
 · refine loop.trans ?_
   unfold q65
   rcases q7w (fun x:Int=>decide (x=v)) vs with ⟨h,hno⟩ | ⟨i,hi,h,hyes,hno⟩
   · rw [h,if_pos (by omega)]
     have:(List.range vs.length).findSome? (fun k=>if vs[k]?=some v then some ((some (slc (ts[k]?.getD []),[]):R)) else none)=none:=by
      rw [List.findSome?_eq_none_iff]
      intro k hk
      rw [List.mem_range] at hk
      rw [if_neg]
      rw [List.getElem?_eq_getElem hk]
      intro e
      have:=hno _ (List.getElem_mem hk)
      simp at this e
      exact this e
     rw [this]; rfl
   · rw [h,if_neg (by omega)]
     have hit:i < ts.length:=by omega
     have:(List.range vs.length).findSome? (fun k=>if vs[k]?=some v then some ((some (slc (ts[k]?.getD []),[]):R)) else none)=some (some (slc ts[i],[])):=by
      rw [List.findSome?_eq_some_iff]
      refine ⟨List.range i,i,(List.range' (i+1) (vs.length - i - 1)),?_,?_,?_⟩
      · rw [List.range_eq_range',List.range_eq_range',← List.range'_succ,show vs.length - i - 1+1=vs.length - i by omega]
        have:=List.range'_append (s:=0) (m:=i) (n:=vs.length - i) (step:=1)
        simp only [Nat.one_mul,Nat.zero_add] at this
        rw [this,Nat.add_sub_cancel' (Nat.le_of_lt hi)]
      · have e1:vs[i]?=some v:=(List.getElem?_eq_getElem hi).trans (congrArg some (of_decide_eq_true hyes))
        have e2:ts[i]?=some ts[i]:=List.getElem?_eq_getElem hit
        simp only [e1,e2,if_true,Option.getD_some]
      · intro k hk
        rw [List.mem_range] at hk
        rw [if_neg]
        rw [List.getElem?_eq_getElem (by omega)]
        intro e
        have:=hno k hk
        simp at this e
        exact this e
     rw [this,Int.toNat_natCast,List.getElem?_eq_getElem hit]; rfl
 · rw [List.length_range] at h
   have hlk:vs[k]?=some vs[k]:=List.getElem?_eq_getElem h
   have hkt:k < ts.length:=by omega
   simp only [q2t.next0,q2t.round0,evz,Nat.reduceLT,h,hkt,hlk,List.getElem?_eq_getElem,q1x,q8l,List.getElem_range,Option.getD_some,Option.some.injEq]
   rw [q0o (by omega)]
   by_cases e:vs[k]=v <;> simp [e]
 · rw [List.length_range]
   simp only [q2t.next0,q2t.round0,evz,Nat.reduceLT,Nat.lt_irrefl,q4q]
def q0i (vs:List Int) (ts:List (List Int)) (t:List Int):List Int:=t.flatMap fun n=>(q65 vs ts (-1 - n)).getD [n]
structure BindOk (vs:List Int) (ts:List (List Int)):Prop where
 len:vs.length=ts.length
 le:vs.length≤1000
 nn:∀ v∈vs,0≤v
 tm:∀ t∈ts,1≤t.length∧t.length≤4096
theorem bindOf_neg {vs:List Int} {ts:List (List Int)} (ok:BindOk vs ts) {v:Int} (hv:v < 0):q65 vs ts v=none:=by
 unfold q65
 rcases q7w (fun x:Int=>decide (x=v)) vs with ⟨h,_⟩ | ⟨i,hi,h,hy,_⟩
 · rw [if_pos (by omega)]
 · have:=ok.nn _ (List.getElem_mem hi)
   simp at hy; omega
theorem q7j {vs:List Int} {ts:List (List Int)} {v:Int} {t:List Int} (h:q65 vs ts v=some t):t∈ts:=by
 unfold q65 at h
 split at h
 · cases h
 · exact List.mem_of_getElem? h
def qa4 (vs:List Int) (ts:List (List Int)) (o:List Int) (n:Int):List Int:=o++(q65 vs ts (-1 - n)).getD [n]
theorem app_fold (vs:List Int) (ts:List (List Int)):∀ (t o:List Int),t.foldl (qa4 vs ts) o=o++q0i vs ts t
 | [],o=>by simp [q0i]
 | n::t,o=>by
   rw [List.foldl_cons,app_fold vs ts t]
   simp [qa4,q0i]
def appI (k:Nat) (o:List Int):Prop:=o.length≤k*4096
theorem appI_step {vs:List Int} {ts:List (List Int)} (ok:BindOk vs ts) {k:Nat} {o:List Int} {n:Int} (h:appI k o):appI (k+1) (qa4 vs ts o n):=by
 unfold appI qa4 at *
 rw [List.length_append]
 cases hb:q65 vs ts (-1 - n) with
 | none=>simp; omega
 | some t=>have:=(ok.tm t (q7j hb)).2; simp; omega
theorem q7h {vs:List Int} {ts:List (List Int)} (ok:BindOk vs ts) (t:List Int):(q0i vs ts t).length≤t.length*4096:=by
 have:=fold_inv (l:=t) (g:=qa4 vs ts) appI (fun k o _ h=>appI_step ok h) [] (by simp [appI])
 rw [app_fold] at this
 simpa [appI] using this
theorem q0l (vs:List Int) (ts:List (List Int)) (ok:BindOk vs ts) (t:List Int) (ht:t.length≤4096) (hr:∀ n∈t,-4611686018427387904≤n∧n≤4611686018427387904):Call F.q0l [.agg [slc vs,slc ts],slc t] (slc (q0i vs ts t)):=by
 have hle:=ok.le
 refine q0m rfl (t.length+1) ((q0l.ev _ _ _ _).trans ?_)
 simp only [q3y,q3r]
 have key:=fold_loop (l:=t) (f:=t.length+1) (S:=fun m k (o:List Int)=>q0l.at0 (t.length+1) m (q0l.st0 (cells t) t.length (k:Nat) (cells vs) (cells ts) (cells o))) (g:=qa4 vs ts) (z:=fun (o:List Int)=>some (slc o,[])) appI
  (fun m k o h ho => ?_) (fun k o h ho=>appI_step ok ho) (fun m o ho => ?_) [] (by simp [appI]) (by omega)
 · rw [app_fold] at key; exact key
 · have hn:=hr _ (List.getElem_mem h)
   have ho:o.length≤k*4096:=ho
   simp only [q0l.next0,q0l.round0,evz,Nat.reduceLT,h,List.getElem?_eq_getElem,q1x,q3e (x := -1 - t[k]) (by omega),(q5a vs ts (-1 - t[k]) ok.len (by omega)).eq,qa4]
   cases hb:q65 vs ts (-1 - t[k]) with
   | none =>
     simp only [ofT,evz,Nat.reduceLT,q5h,Option.getD_none,← q35]
     rw [q16 (q4p (by rw [q0s,q3r]; omega)),q40,q0o (by omega)]
   | some x =>
     have hx:=(ok.tm x (q7j hb)).2
     simp only [ofT,evz,Nat.reduceLT,q5h,Option.getD_some,← q35]
     rw [q16 (q4p (by rw [q0s,q0s,q3r]; omega)),q0o (by omega)]
 · simp only [q0l.next0,q0l.round0,evz,Nat.reduceLT,Nat.lt_irrefl]
theorem q1c (vs:List Int) (ts:List (List Int)) (ok:BindOk vs ts) (t:List Int) (ht:t.length≤4096) (hr:∀ n∈t,-4611686018427387904≤n∧n≤4611686018427387904):Call F.q1c [.rref [slc vs,slc ts] 0,slc t] (slc (q0i vs ts t)):=by
 have hle:=ok.le
 refine q0m rfl (t.length+1) ((q1c.ev _ _ _ _).trans ?_)
 have key:=fold_loop (l:=t) (f:=t.length+1) (S:=fun m k (o:List Int)=>q1c.at0 (t.length+1) m (q1c.st0 (cells vs) (cells ts) (cells t) (k:Nat) (cells o))) (g:=qa4 vs ts) (z:=fun (o:List Int)=>some (slc o,[])) appI
  (fun m k o h ho => ?_) (fun k o h ho=>appI_step ok ho) (fun m o ho => ?_) [] (by simp [appI]) (by omega)
 · rw [app_fold] at key; exact key
 · have hn:=hr _ (List.getElem_mem h)
   have ho:o.length≤k*4096:=ho
   by_cases hneg:t[k] < 0
   · simp only [q1c.next0,q1c.round0,evz,Nat.reduceLT,h,List.getElem?_eq_getElem,q1x,hneg,q3e (x := -1 - t[k]) (by omega),(q2t vs ts (-1 - t[k]) ok.len (by omega)).eq,qa4]
     cases hb:q65 vs ts (-1 - t[k]) with
     | none =>
       simp only [q4q,evz,Nat.reduceLT,List.all_nil,Option.getD_none,cells_nil,List.length_nil,← q35,Int.natCast_zero,Nat.zero_div,Int.ofNat_zero]
       rw [q16 (q4p (by rw [q0s,q3r]; omega)),q40,q0o (by omega)]
     | some x =>
       have hx:=ok.tm x (q7j hb)
       have hx0:¬ ((x.length:Int)=0):=by omega
       simp only [evz,Nat.reduceLT,q5h,Option.getD_some,hx0,← q35]
       rw [q16 (q4p (by rw [q0s,q0s,q3r]; omega)),q0o (by omega)]
   · simp only [q1c.next0,q1c.round0,evz,Nat.reduceLT,h,List.getElem?_eq_getElem,q1x,hneg,qa4,bindOf_neg ok (v := -1 - t[k]) (by omega),Option.getD_none]
     rw [q16 (q4p (by rw [q0s,q3r]; omega)),q40,q0o (by omega)]
 · simp only [q1c.next0,q1c.round0,evz,Nat.reduceLT,Nat.lt_irrefl]
theorem q79 {vs:List Int} {k:Nat} (h:k < vs.length):vs.getD k 0=vs[k]:=by rw [List.getD_eq_getElem?_getD,List.getElem?_eq_getElem h]; rfl
end Ev.Ty
end
section
namespace Ev.Ty
open Go Ev
open Enc (enc)
open Sm (sm)
set_option linter.unusedSimpArgs false
set_option linter.unusedVariables false
theorem TermOk.range {l:List Symbol} (ok:SigOk ⟨l⟩) {t:List Int} (h:TermOk l t):∀ n∈t,-4611686018427387904≤n∧n≤4611686018427387904:=fun n hn=>by
 have:=q5b.1 (h.node n hn)
 have hle:l.length≤6:=ok.le
 omega
theorem q50 (l:List Symbol) (hs:l.length≤4294967296) (es:List Equation) (he:sm 4294967296 es) :
 Call F.q50 [.agg [slc l],slc es] (.int .i64 (if q41 ⟨l⟩≠0 then q41 ⟨l⟩ else q6m l es)):=by
 refine q0m rfl 0 ((q50.ev _ _ _).trans ?_)
 simp only [evz,Nat.reduceLT,(q02 l hs).eq]
 by_cases h1:q41 ⟨l⟩=0
 case neg=>simp only [h1,evz,Nat.reduceLT,ne_eq,not_false_eq_true]
 simp only [h1,evz,Nat.reduceLT,ne_eq,not_true_eq_false,(q2d l ((q9j _).1 h1) es he).eq]
theorem q7p (t:List Int):Call F.q7p [slc t] (.agg (enc (if 24 < t.length then (⟨2,[]⟩:TermResult) else ⟨0,t⟩))):=by
 refine q0m rfl 0 ((q7p.ev _ _).trans ?_)
 simp only [evz,Nat.reduceLT,gt_iff_lt]
 by_cases h:24 < t.length
 · have h':(24:Int) < t.length:=by omega
   simp only [h,h',evz,Nat.reduceLT,q3m,q4q]
 · have h':¬ (24:Int) < t.length:=by omega
   simp only [h,h',evz,Nat.reduceLT,q3m]
theorem q6v (t:List Int) (n:Int) (hl:t.length≤4294967296):Call F.q6v [slc t,.int .i64 n] (.bool (inR n 0 (t.length - 1))):=by
 refine q0m rfl 0 ((q6v.ev _ _ _).trans ?_)
 simp only [evz,Nat.reduceLT,q3e (x:=(t.length:Int) - 1) (by omega),(q1j _ _ _).eq]
theorem getE {es:List Equation} {k:Nat} (h:k < es.length):es.getD k ⟨[],[]⟩=es[k]:=by rw [List.getD_eq_getElem?_getD,List.getElem?_eq_getElem h]; rfl
end Ev.Ty
end
