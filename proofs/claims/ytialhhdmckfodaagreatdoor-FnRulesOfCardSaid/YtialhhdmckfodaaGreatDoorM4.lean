/- Steps on the way to RowRulesOf: X2, X3, X4, XALL, TyMarks, TyFields, TyPlumb, TyNum, TySig, TyAlg, TyTerm, TyTree, TyEval, TyEvalF, TyEvalT, TyVars. -/
import Derived.Test.YtialhhdmckfodaaGreatDoorM3
import Derived.Lib.SlTrimSet
set_option linter.unusedSectionVars false
set_option linter.unusedVariables false
set_option linter.unusedSimpArgs false
section
open Go
set_option maxRecDepth 100000
namespace Ev
noncomputable section
variable (n:Nat)(L0 L1 L2 L3 L4 L5:St->R)(m:Nat)(s:St)
def q00.st2(x0 x1 x2 x3:Int)(x4:List T):St:=⟨[(0,(.one (.obj 1000000))),(1,oi x0),(2,oi x1),(3,(.one (.t (.clo F.q33 [])))),(8,oi x2),(9,oi x3)],[(1000000,(.arr true true 2 x4))]⟩
def q00.st0(x0 x1 x2:Int)(x3:List T):St:=⟨[(0,(.one (.obj 1000000))),(1,oi x0),(2,oi x1),(3,(.one (.t (.clo F.q33 [])))),(8,oi x2)],[(1000000,(.arr true true 2 x3))]⟩
def q00.K0:=kx F.q1j n [.block 0] (q3v prog A F.q1j)
def q00.at0:=lx F.q1j n 0 [1,0,0] (q00.K0 n) m s
def q00.rd0:=rx F.q1j n 0 [1,0,0] (q00.K0 n) L0 s
theorem q00.next0:q00.at0 n (m+1) s=q00.rd0 n (q00.at0 n m) s:=nx ..
def q00.K2:=kx F.q1j n [.block 2,.block 1,.seq 0 (cx F.q1j [1,0,0,1,1])] (bx F.q1j 0 (q00.K0 n) L0)
def q00.at2:=lx F.q1j n 2 [1,0,0,1,0,0,1,0,0] (q00.K2 n L0) m s
def q00.rd2:=rx F.q1j n 2 [1,0,0,1,0,0,1,0,0] (q00.K2 n L0) L2 s
theorem q00.next2:q00.at2 n L0 (m+1) s=q00.rd2 n L0 (q00.at2 n L0 m) s:=nx ..
theorem q00.round0(x0 x1 x2:Int)(x3:List T):q00.rd0 n L0 (q00.st0 x0 x1 x2 x3)=bif (decide (x2<x1))then q00.at2 n L0 n (q00.st2 x0 x1 x2 x2 x3)else some (.tup [],[.sl 2 x3]):=by kernel_rfl
theorem q00.round2(x0 x1 x2 x3:Int)(x4:List T):q00.rd2 n L0 L2 (q00.st2 x0 x1 x2 x3 x4)=bif (decide (x3>x0))then bif inB x3 (x4.length/2)then(x4[x3.toNat*2]?).bind fun e1=>(oSl 1 e1).bind fun c2=>(x4[(x3.toNat*2)+1]?).bind fun e3=>(oSl 1 e3).bind fun c4=>bif inB (IntKind.wrap .i64 (x3-1)) (x4.length/2)then(x4[(Int.toNat (IntKind.wrap .i64 (x3-1)))*2]?).bind fun e5=>(oSl 1 e5).bind fun c6=>(x4[((Int.toNat (IntKind.wrap .i64 (x3-1)))*2)+1]?).bind fun e7=>(oSl 1 e7).bind fun c8=>(LIM F.q33 [.agg [.sl 1 c2,.sl 1 c4],.agg [.sl 1 c6,.sl 1 c8]]).bind fun r9=>bI r9 fun n10=>bif (decide (n10<0))then(x4[x3.toNat*2]?).bind fun e11=>(x4[x3.toNat*2]?).bind fun e12=>(oSl 1 e12).bind fun c13=>bif ((!(Nat.beq (x3.toNat*2) ((x3.toNat*2)+1)))&&true)then(x4[(x3.toNat*2)+1]?).bind fun e14=>(oSl 1 e14).bind fun c15=>bif (!(Nat.beq ((x3.toNat*2)+1) ((Int.toNat (IntKind.wrap .i64 (x3-1)))*2))&&((!(Nat.beq (x3.toNat*2) ((Int.toNat (IntKind.wrap .i64 (x3-1)))*2)))&&true))then(x4[(Int.toNat (IntKind.wrap .i64 (x3-1)))*2]?).bind fun e16=>(oSl 1 e16).bind fun c17=>bif (!(Nat.beq ((Int.toNat (IntKind.wrap .i64 (x3-1)))*2) (((Int.toNat (IntKind.wrap .i64 (x3-1)))*2)+1))&&(!(Nat.beq ((x3.toNat*2)+1) (((Int.toNat (IntKind.wrap .i64 (x3-1)))*2)+1))&&((!(Nat.beq (x3.toNat*2) (((Int.toNat (IntKind.wrap .i64 (x3-1)))*2)+1)))&&true)))then(x4[((Int.toNat (IntKind.wrap .i64 (x3-1)))*2)+1]?).bind fun e18=>(oSl 1 e18).bind fun c19=>bif inB (IntKind.wrap .i64 (x3-1)) (x4.length/2)then bif ((!(Nat.beq (((Int.toNat (IntKind.wrap .i64 (x3-1)))*2)+1) ((Int.toNat (IntKind.wrap .i64 (x3-1)))*2))&&true)&&(Nat.beq ((Int.toNat (IntKind.wrap .i64 (x3-1)))*2) ((Int.toNat (IntKind.wrap .i64 (x3-1)))*2)))then bif (Nat.beq (((Int.toNat (IntKind.wrap .i64 (x3-1)))*2)+1) (((Int.toNat (IntKind.wrap .i64 (x3-1)))*2)+1))then bif inB x3 (x4.length/2)then bif ((!(Nat.beq ((x3.toNat*2)+1) (x3.toNat*2))&&(!(Nat.beq ((Int.toNat (IntKind.wrap .i64 (x3-1)))*2) (x3.toNat*2))&&(!(Nat.beq (((Int.toNat (IntKind.wrap .i64 (x3-1)))*2)+1) (x3.toNat*2))&&true)))&&(Nat.beq (x3.toNat*2) (x3.toNat*2)))then bif ((!(Nat.beq ((Int.toNat (IntKind.wrap .i64 (x3-1)))*2) ((x3.toNat*2)+1))&&(!(Nat.beq (((Int.toNat (IntKind.wrap .i64 (x3-1)))*2)+1) ((x3.toNat*2)+1))&&true))&&(Nat.beq ((x3.toNat*2)+1) ((x3.toNat*2)+1)))then bif inB x3 (x4.length/2)then bif decide (((x3.toNat*2)+1)<x4.length)then bif inB (IntKind.wrap .i64 (x3-1)) (x4.length/2)then bif decide ((((Int.toNat (IntKind.wrap .i64 (x3-1)))*2)+1)<x4.length)then L2 (q00.st2 x0 x1 x2 (IntKind.wrap .i64 (x3-1)) (List.set (List.set (List.set (List.set (List.set (List.set (List.set (List.set x4 (x3.toNat*2) .hole) ((x3.toNat*2)+1) .hole) ((Int.toNat (IntKind.wrap .i64 (x3-1)))*2) .hole) (((Int.toNat (IntKind.wrap .i64 (x3-1)))*2)+1) .hole) ((x3.toNat*2)+1) (.sl 1 c19)) (x3.toNat*2) (.sl 1 c17)) (((Int.toNat (IntKind.wrap .i64 (x3-1)))*2)+1) (.sl 1 c15)) ((Int.toNat (IntKind.wrap .i64 (x3-1)))*2) (.sl 1 c13)))else none else none else none else none else none else none else none else none else none else none else none else none else none else L0 (q00.st0 x0 x1 (IntKind.wrap .i64 (x2+1)) x4)else none else none else L0 (q00.st0 x0 x1 (IntKind.wrap .i64 (x2+1)) x4):=by kernel_rfl
theorem q00.ev(a0:List T)(a1 a2:Int):q1b prog A H LIM n F.q1j [.sl 2 a0,.int .i64 a1,.int .i64 a2,.clo F.q33 []]=q00.at0 n n (q00.st0 a1 a2 (IntKind.wrap .i64 (a1+1)) a0):=by kernel_rfl
def q0b.st0(x0 x1 x2:Int)(x3 x4:Bool)(x5:List T):St:=⟨[(0,(.one (.obj 1000000))),(1,oi x0),(2,oi x1),(3,oi x2),(4,(.one (.t (.clo F.q33 [])))),(10,(.one (.t (.bool x3)))),(11,(.one (.t (.bool x4))))],[(1000000,(.arr true true 2 x5))]⟩
def q0b.K0:=kx F.q1y n [.block 0] (q3v prog A F.q1y)
def q0b.at0:=lx F.q1y n 0 [1,1,0,0] (q0b.K0 n) m s
def q0b.rd0:=rx F.q1y n 0 [1,1,0,0] (q0b.K0 n) L0 s
theorem q0b.next0:q0b.at0 n (m+1) s=q0b.rd0 n (q0b.at0 n m) s:=nx ..
def q0b.j0(n:Nat)(L0:St->R)(x0 x1 x2:Int)(x3 x4:Bool)(x5 x6 x7 x8 x9:Int)(x10:Bool)(x11:List T):R:=qad prog A (H F.q1y) LIM n 1 (q7n [1,1,0,0,0,1,1,0,0] (qau prog F.q1y)) ⟨[(0,.one (.obj 1000000)),(1,.one (.t (.int .i64 x0))),(2,.one (.t (.int .i64 x1))),(3,.one (.t (.int .i64 x2))),(4,.one (.t (.clo F.q33 []))),(10,.one (.t (.bool x3))),(11,.one (.t (.bool x4))),(21,.one (.t (.int .i64 x5))),(22,.one (.t (.int .i64 x6))),(23,.one (.t (.int .i64 x7))),(12,.one (.t (.int .i64 x8))),(24,.one (.t (.int .i64 x9))),(25,.one (.t (.bool x10)))],[(1000000,.arr true true 2 x11)]⟩ (ctxK prog A (H F.q1y) LIM n [.seq 1 (q7n [1,1,0,0,0,1,1,0,1] (qau prog F.q1y)),.seq 1 (q7n [1,1,0,0,0,1,1,1] (qau prog F.q1y)),.block 1] (qwx (H F.q1y) 0 (q0b.K0 n) L0))
theorem q0b.round0(x0 x1 x2:Int)(x3 x4:Bool)(x5:List T):q0b.rd0 n L0 (q0b.st0 x0 x1 x2 x3 x4 x5)=bif (decide ((IntKind.wrap .i64 (x1-x0))<=12))then(LIM F.q1j [.sl 2 x5,.int .i64 x0,.int .i64 x1,.clo F.q33 []]).bind fun r1=>(q0s r1.2).bind fun p2=>(oNil p2.2).bind fun _=>(oSl 2 p2.1).bind fun c3=>(oTup r1.1).bind fun c4=>(oNil c4).bind fun _=>some (.tup [],[.sl 2 c3])else q0b.j0 n L0 x0 x1 x2 x3 x4 x1 x0 (IntKind.wrap .i64 (x1-x0)) (IntKind.wrap .i64 (x1-x0)) (IntKind.wrap .i64 (x1-x0)) (decide ((IntKind.wrap .i64 (x1-x0))<=12)) x5:=by kernel_rfl
theorem q0b.ev(a0:List T)(a1 a2 a3:Int):q1b prog A H LIM n F.q1y [.sl 2 a0,.int .i64 a1,.int .i64 a2,.int .i64 a3,.clo F.q33 []]=q0b.at0 n n (q0b.st0 a1 a2 a3 true true a0):=by kernel_rfl
theorem q59.ev(a0_0 a1 a2:List T):q1b prog A H LIM n F.q59 [.agg [.sl 2 a0_0],.sl 2 a1,.sl 7 a2]=(LIM F.q5j [.agg [.sl 2 a0_0],.sl 2 a1]).bind fun r1=>bI r1 fun n2=>bif (n2 != 0)then some (.int .i64 n2,[])else(LIM F.q2g [.rref [.sl 2 a0_0] 0,.sl 2 a1,.sl 7 a2]).bind fun r3=>bI r3 fun n4=>some (.int .i64 n4,[]):=by kernel_rfl
def q07.st2(x0 x1:Int)(x2 x3 x4 x5 x6 x7:List T)(x8:Int):St:=⟨[(2,(.one (.ptr 128 0))),(3,(.one (.ptr 192 0))),(7,oi x0),(9,oi x1)],[(128,(.box [(.t (.sl 2 x2))])),(192,(.box [(.t (.sl 1 x3)),(.t (.sl 2 x4)),(.t (.sl 7 x5)),(.t (.sl 1 x6)),(.t (.sl 1 x7)),(.t (.int .i64 x8))]))]⟩
def q07.st0(x0 x1:Int)(x2 x3 x4 x5 x6 x7:List T)(x8:Int):St:=⟨[(2,(.one (.ptr 128 0))),(3,(.one (.ptr 192 0))),(7,oi x0),(8,oi x1)],[(128,(.box [(.t (.sl 2 x2))])),(192,(.box [(.t (.sl 1 x3)),(.t (.sl 2 x4)),(.t (.sl 7 x5)),(.t (.sl 1 x6)),(.t (.sl 1 x7)),(.t (.int .i64 x8))]))]⟩
def q07.K0:=kx F.q07 n [.block 0,.seq 0 (cx F.q07 [1,1,1,1,1,1])] (q3v prog A F.q07)
def q07.at0:=lx F.q07 n 0 [1,1,1,1,1,0,1,0,0] (q07.K0 n) m s
def q07.rd0:=rx F.q07 n 0 [1,1,1,1,1,0,1,0,0] (q07.K0 n) L0 s
theorem q07.next0:q07.at0 n (m+1) s=q07.rd0 n (q07.at0 n m) s:=nx ..
def q07.K2:=kx F.q07 n [.block 2,.seq 0 (cx F.q07 [1,1,1,1,1,1,1])] (q3v prog A F.q07)
def q07.at2:=lx F.q07 n 2 [1,1,1,1,1,1,0,1,0,0] (q07.K2 n) m s
def q07.rd2:=rx F.q07 n 2 [1,1,1,1,1,1,0,1,0,0] (q07.K2 n) L2 s
theorem q07.next2:q07.at2 n (m+1) s=q07.rd2 n (q07.at2 n m) s:=nx ..
theorem q07.round0(x0 x1:Int)(x2 x3 x4 x5 x6 x7:List T)(x8:Int):q07.rd0 n L0 (q07.st0 x0 x1 x2 x3 x4 x5 x6 x7 x8)=bif (decide (x1<(((x6.length/1):Nat):Int)))then bif inB x1 (x6.length/1)then(x6[x1.toNat*1]?).bind fun e5=>(oInt .i64 e5).bind fun n6=>(LIM F.q1q [.int .i64 n6,.int .i64 0,.int .i64 x0]).bind fun r7=>bB r7 fun b8=>bif (!b8)then some (.int .i64 3,[])else L0 (q07.st0 x0 (IntKind.wrap .i64 (x1+1)) x2 x3 x4 x5 x6 x7 x8)else none else q07.at2 n n (q07.st2 x0 (0:Int) x2 x3 x4 x5 x6 x7 x8):=by kernel_rfl
theorem q07.round2(x0 x1:Int)(x2 x3 x4 x5 x6 x7:List T)(x8:Int):q07.rd2 n L2 (q07.st2 x0 x1 x2 x3 x4 x5 x6 x7 x8)=bif (decide (x1<(((x7.length/1):Nat):Int)))then bif inB x1 (x7.length/1)then(x7[x1.toNat*1]?).bind fun e9=>(oInt .i64 e9).bind fun n10=>(LIM F.q1q [.int .i64 n10,.int .i64 0,.int .i64 x0]).bind fun r11=>bB r11 fun b12=>bif (!b12)then some (.int .i64 3,[])else L2 (q07.st2 x0 (IntKind.wrap .i64 (x1+1)) x2 x3 x4 x5 x6 x7 x8)else none else(LIM F.q1q [.int .i64 x8,.int .i64 0,.int .i64 150]).bind fun r13=>bB r13 fun b14=>bif (!b14)then some (.int .i64 3,[])else(LIM F.q1x [.rref [.sl 1 x3,.sl 2 x4,.sl 7 x5,.sl 1 x6,.sl 1 x7,.int .i64 x8] 0]).bind fun r15=>bM r15 fun c16=>(LIM F.q2r [.rref [.sl 2 x2] 0,.sl 1 x3,.sl 2 c16]).bind fun r17=>bB r17 fun b18=>bif (!b18)then some (.int .i64 10,[])else some (.int .i64 0,[]):=by kernel_rfl
theorem q07.ev(a0_0 a1_0 a1_1 a1_2 a1_3 a1_4:List T)(a1_5:Int):q1b prog A H LIM n F.q07 [.agg [.sl 2 a0_0],.agg [.sl 1 a1_0,.sl 2 a1_1,.sl 7 a1_2,.sl 1 a1_3,.sl 1 a1_4,.int .i64 a1_5]]=(LIM F.q76 [.agg [.sl 2 a0_0],.sl 1 a1_0]).bind fun r1=>bI r1 fun n2=>bif (n2 != 0)then some (.int .i64 n2,[])else(LIM F.q59 [.agg [.sl 2 a0_0],.sl 2 a1_1,.sl 7 a1_2]).bind fun r3=>bI r3 fun n4=>bif (n4 != 0)then some (.int .i64 n4,[])else bif (decide ((((a1_3.length/1):Nat):Int)>12))then some (.int .i64 2,[])else bif (decide ((((a1_4.length/1):Nat):Int)>100))then some (.int .i64 2,[])else q07.at0 n n (q07.st0 (IntKind.wrap .i64 ((((a1_2.length/7):Nat):Int)-1)) (0:Int) a0_0 a1_0 a1_1 a1_2 a1_3 a1_4 a1_5):=by kernel_rfl
theorem q4k.ev(a0:List T):q1b prog A H LIM n F.q4k [.sl 1 a0]=(LIM F.q28 [.sl 1 a0]).bind fun r1=>(oNil r1.2).bind fun _=>(oTup r1.1).bind fun c2=>(q0s c2).bind fun p3=>(oAgg p3.1).bind fun c4=>(q0s c4).bind fun p5=>(oSl 2 p5.1).bind fun c6=>(oNil p5.2).bind fun _=>(q0s p3.2).bind fun p7=>(oAgg p7.1).bind fun c8=>(q0s c8).bind fun p9=>(oSl 1 p9.1).bind fun c10=>(q0s p9.2).bind fun p11=>(oSl 2 p11.1).bind fun c12=>(q0s p11.2).bind fun p13=>(oSl 7 p13.1).bind fun c14=>(q0s p13.2).bind fun p15=>(oSl 1 p15.1).bind fun c16=>(q0s p15.2).bind fun p17=>(oSl 1 p17.1).bind fun c18=>(q0s p17.2).bind fun p19=>(oInt .i64 p19.1).bind fun n20=>(oNil p19.2).bind fun _=>(q0s p7.2).bind fun p21=>(oBx p21.1).bind fun c22=>(q0s c22).bind fun p23=>(oSl 1 p23.1).bind fun c24=>(q0s p23.2).bind fun p25=>(oInt .i64 p25.1).bind fun n26=>(oNil p25.2).bind fun _=>(oNil p21.2).bind fun _=>some (.tup [.agg [.sl 2 c6],.agg [.sl 1 c10,.sl 2 c12,.sl 7 c14,.sl 1 c16,.sl 1 c18,.int .i64 n20]],[]):=by kernel_rfl
theorem q5u.ev(a0:List T):q1b prog A H LIM n F.q5u [.sl 1 a0]=(LIM F.q4k [.sl 1 a0]).bind fun r1=>(oNil r1.2).bind fun _=>(oTup r1.1).bind fun c2=>(q0s c2).bind fun p3=>(oAgg p3.1).bind fun c4=>(q0s c4).bind fun p5=>(oSl 2 p5.1).bind fun c6=>(oNil p5.2).bind fun _=>(q0s p3.2).bind fun p7=>(oAgg p7.1).bind fun c8=>(q0s c8).bind fun p9=>(oSl 1 p9.1).bind fun c10=>(q0s p9.2).bind fun p11=>(oSl 2 p11.1).bind fun c12=>(q0s p11.2).bind fun p13=>(oSl 7 p13.1).bind fun c14=>(q0s p13.2).bind fun p15=>(oSl 1 p15.1).bind fun c16=>(q0s p15.2).bind fun p17=>(oSl 1 p17.1).bind fun c18=>(q0s p17.2).bind fun p19=>(oInt .i64 p19.1).bind fun n20=>(oNil p19.2).bind fun _=>(oNil p7.2).bind fun _=>some (.tup [.agg [.sl 2 c6],.agg [.sl 1 c10,.sl 2 c12,.sl 7 c14,.sl 1 c16,.sl 1 c18,.int .i64 n20]],[]):=by kernel_rfl
theorem q5j.ev(a0_0 a1:List T):q1b prog A H LIM n F.q5j [.agg [.sl 2 a0_0],.sl 2 a1]=(LIM F.q02 [.agg [.sl 2 a0_0]]).bind fun r1=>bI r1 fun n2=>bif (n2 != 0)then some (.int .i64 n2,[])else(LIM F.q2e [.rref [.sl 2 a0_0] 0,.sl 2 a1]).bind fun r3=>bI r3 fun n4=>some (.int .i64 n4,[]):=by kernel_rfl
theorem q76.ev(a0_0 a1:List T):q1b prog A H LIM n F.q76 [.agg [.sl 2 a0_0],.sl 1 a1]=(LIM F.q02 [.agg [.sl 2 a0_0]]).bind fun r1=>bI r1 fun n2=>bif (n2 != 0)then some (.int .i64 n2,[])else(LIM F.q0m [.rref [.sl 2 a0_0] 0,.sl 1 a1]).bind fun r3=>bI r3 fun n4=>some (.int .i64 n4,[]):=by kernel_rfl
theorem q8f.ev(a0_0 a1_0 a1_1 a2_0 a2_1:List T)(a3:Int):q1b prog A H LIM n F.q8f [.agg [.sl 2 a0_0],.agg [.sl 1 a1_0,.sl 1 a1_1],.agg [.sl 1 a2_0,.sl 1 a2_1],.int .i64 a3]=(LIM F.qbz [.rref [.sl 2 a0_0] 0,.rref [.sl 1 a1_0,.sl 1 a1_1] 0,.rref [.sl 1 a2_0,.sl 1 a2_1] 0]).bind fun r1=>bI r1 fun n2=>bif (n2 != 0)then some (.agg [.int .i64 n2,.sl 1 [],.sl 1 []],[])else(LIM F.q7i [.sl 1 a1_0,.int .i64 a3]).bind fun r3=>bB r3 fun b4=>bif (!b4)then some (.agg [.int .i64 3,.sl 1 [],.sl 1 []],[])else bif inB a3 (a1_0.length/1)then(a1_0[a3.toNat*1]?).bind fun e5=>(oInt .i64 e5).bind fun n6=>bif (decide (n6<0))then some (.agg [.int .i64 1,.sl 1 [],.sl 1 []],[])else(LIM F.q7u [.rref [.sl 2 a0_0] 0,.rref [.sl 1 a1_0,.sl 1 a1_1] 0,.rref [.sl 1 a2_0,.sl 1 a2_1] 0,.int .i64 a3]).bind fun r7=>(oNil r7.2).bind fun _=>(oTup r7.1).bind fun c8=>(q0s c8).bind fun p9=>(oAgg p9.1).bind fun c10=>(q0s c10).bind fun p11=>(oSl 1 p11.1).bind fun c12=>(q0s p11.2).bind fun p13=>(oSl 1 p13.1).bind fun c14=>(oNil p13.2).bind fun _=>(q0s p9.2).bind fun p15=>(oInt .i64 p15.1).bind fun n16=>(oNil p15.2).bind fun _=>some (.agg [.int .i64 n16,.sl 1 c12,.sl 1 c14],[])else none:=by kernel_rfl
theorem q5o.ev(a0_0:List T)(a1:ByteArray):q1b prog A H LIM n F.q5o [.agg [.sl 2 a0_0],.str a1]=(LIM F.q02 [.agg [.sl 2 a0_0]]).bind fun r1=>bI r1 fun n2=>bif (n2 != 0)then some (.agg [.int .i64 n2,.sl 1 [],.sl 1 []],[])else bif (decide ((a1.size:Int)>337))then some (.agg [.int .i64 5,.sl 1 [],.sl 1 []],[])else(LIM F.q34 [.str a1,.int .u8 (61:Int)]).bind fun r3=>bL r3 fun c4=>bif (((((c4.length/1):Nat):Int) != 2))then some (.agg [.int .i64 5,.sl 1 [],.sl 1 []],[])else bif inB (0:Int) (c4.length/1)then(c4[0]?).bind fun e5=>(oStr e5).bind fun s6=>(LIM F.q7p [.rref [.sl 2 a0_0] 0,.str s6]).bind fun r7=>bL r7 fun c8=>bif inB (1:Int) (c4.length/1)then(c4[1]?).bind fun e9=>(oStr e9).bind fun s10=>(LIM F.q7p [.rref [.sl 2 a0_0] 0,.str s10]).bind fun r11=>bL r11 fun c12=>(LIM F.q6s [.rref [.sl 2 a0_0] 0,.rref [.sl 1 c8,.sl 1 c12] 0]).bind fun r13=>bI r13 fun n14=>bif (n14 != 0)then some (.agg [.int .i64 5,.sl 1 [],.sl 1 []],[])else some (.agg [.int .i64 0,.sl 1 c8,.sl 1 c12],[])else none else none:=by kernel_rfl
theorem q56.ev(a0_0 a1:List T)(a2 a3:Int)(a4:List T):q1b prog A H LIM n F.q56 [.agg [.sl 2 a0_0],.sl 2 a1,.int .i64 a2,.int .i64 a3,.sl 1 a4]=(LIM F.q9m [.rref [.sl 2 a0_0] 0,.sl 2 a1,.sl 1 a4]).bind fun r1=>bI r1 fun n2=>bif (n2 != 0)then some (.agg [.int .i64 n2,.sl 1 []],[])else(LIM F.q1q [.int .i64 a2,.int .i64 0,(.int .i64 (IntKind.wrap .i64 ((((a1.length/2):Nat):Int)-1)))]).bind fun r3=>bB r3 fun b4=>bif (!b4)then some (.agg [.int .i64 3,.sl 1 []],[])else(LIM F.q7i [.sl 1 a4,.int .i64 a3]).bind fun r5=>bB r5 fun b6=>bif (!b6)then some (.agg [.int .i64 3,.sl 1 []],[])else bif inB a2 (a1.length/2)then(LIM F.q7s [.rref [.sl 2 a0_0] 0,.rref ((a1.drop (a2.toNat*2)).take 2) 0,.int .i64 a3,.sl 1 a4]).bind fun r7=>(oNil r7.2).bind fun _=>(oTup r7.1).bind fun c8=>(q0s c8).bind fun p9=>(oSl 1 p9.1).bind fun c10=>(q0s p9.2).bind fun p11=>(oInt .i64 p11.1).bind fun n12=>(oNil p11.2).bind fun _=>some (.agg [.int .i64 n12,.sl 1 c10],[])else none:=by kernel_rfl
theorem q5f.ev(a0_0 a1:List T):q1b prog A H LIM n F.q5f [.agg [.sl 2 a0_0],.sl 2 a1]=(LIM F.q02 [.agg [.sl 2 a0_0]]).bind fun r1=>bI r1 fun n2=>bif (n2 != 0)then some (.int .i64 n2,[])else(LIM F.q0y [.rref [.sl 2 a0_0] 0,.sl 2 a1]).bind fun r3=>bI r3 fun n4=>some (.int .i64 n4,[]):=by kernel_rfl
def q02.st4(x0 x1 x2:Int)(x3:List T):St:=⟨[(1,(.one (.ptr 64 0))),(3,oi x0),(5,oi x1),(6,oi x2)],[(64,(.box [(.t (.sl 2 x3))]))]⟩
def q02.st6(x0 x1:Int)(x2:List T):St:=⟨[(1,(.one (.ptr 64 0))),(3,oi x0),(7,oi x1)],[(64,(.box [(.t (.sl 2 x2))]))]⟩
def q02.st2(x0 x1:Int)(x2:List T):St:=⟨[(1,(.one (.ptr 64 0))),(3,oi x0),(5,oi x1)],[(64,(.box [(.t (.sl 2 x2))]))]⟩
def q02.st0(x0 x1:Int)(x2:List T):St:=⟨[(1,(.one (.ptr 64 0))),(3,oi x0),(4,oi x1)],[(64,(.box [(.t (.sl 2 x2))]))]⟩
def q02.K0:=kx F.q02 n [.block 0,.seq 0 (cx F.q02 [1,1,1,1])] (q3v prog A F.q02)
def q02.at0:=lx F.q02 n 0 [1,1,1,0,1,0,0] (q02.K0 n) m s
def q02.rd0:=rx F.q02 n 0 [1,1,1,0,1,0,0] (q02.K0 n) L0 s
theorem q02.next0:q02.at0 n (m+1) s=q02.rd0 n (q02.at0 n m) s:=nx ..
def q02.K2:=kx F.q02 n [.block 2,.seq 0 (cx F.q02 [1,1,1,1,1])] (q3v prog A F.q02)
def q02.at2:=lx F.q02 n 2 [1,1,1,1,0,1,0,0] (q02.K2 n) m s
def q02.rd2:=rx F.q02 n 2 [1,1,1,1,0,1,0,0] (q02.K2 n) L2 s
theorem q02.next2:q02.at2 n (m+1) s=q02.rd2 n (q02.at2 n m) s:=nx ..
def q02.K6(n:Nat):=kx F.q02 n [.block 6,.seq 0 (cx F.q02 [1,1,1,1,1,1])] (q3v prog A F.q02)
def q02.at6(n:Nat)(m:Nat)(s:St):=lx F.q02 n 6 [1,1,1,1,1,0,1,0,0] (q02.K6 n) m s
def q02.rd6(n:Nat)(L6:St->R)(s:St):=rx F.q02 n 6 [1,1,1,1,1,0,1,0,0] (q02.K6 n) L6 s
theorem q02.next6(n:Nat)(m:Nat)(s:St):q02.at6 n (m+1) s=q02.rd6 n (q02.at6 n m) s:=nx ..
def q02.K4:=kx F.q02 n [.block 4,.block 3,.seq 2 (cx F.q02 [1,1,1,1,0,1,0,0,1,1])] (bx F.q02 2 (q02.K2 n) L2)
def q02.at4:=lx F.q02 n 4 [1,1,1,1,0,1,0,0,1,0,0,1,0,0] (q02.K4 n L2) m s
def q02.rd4:=rx F.q02 n 4 [1,1,1,1,0,1,0,0,1,0,0,1,0,0] (q02.K4 n L2) L4 s
theorem q02.next4:q02.at4 n L2 (m+1) s=q02.rd4 n L2 (q02.at4 n L2 m) s:=nx ..
theorem q02.round0(x0 x1:Int)(x2:List T):q02.rd0 n L0 (q02.st0 x0 x1 x2)=bif (decide (x1<x0))then bif inB x1 (x2.length/2)then(x2[x1.toNat*2]?).bind fun e1=>(oStr e1).bind fun s2=>(LIM F.q3a [.str s2]).bind fun r3=>bB r3 fun b4=>bif (!b4)then some (.int .i64 5,[])else bif inB x1 (x2.length/2)then(x2[(x1.toNat*2)+1]?).bind fun e5=>(oInt .i64 e5).bind fun n6=>(LIM F.q1q [.int .i64 n6,.int .i64 0,.int .i64 2]).bind fun r7=>bB r7 fun b8=>bif (!b8)then some (.int .i64 3,[])else L0 (q02.st0 x0 (IntKind.wrap .i64 (x1+1)) x2)else none else none else q02.at2 n n (q02.st2 x0 (0:Int) x2):=by kernel_rfl
theorem q02.round2(x0 x1:Int)(x2:List T):q02.rd2 n L2 (q02.st2 x0 x1 x2)=bif (decide (x1<x0))then q02.at4 n L2 n (q02.st4 x0 x1 (0:Int) x2)else q02.at6 n n (q02.st6 x0 (0:Int) x2):=by kernel_rfl
theorem q02.round6(n:Nat)(L6:St->R)(x0 x1:Int)(x2:List T):q02.rd6 n L6 (q02.st6 x0 x1 x2)=bif (decide (x1<x0))then bif inB x1 (x2.length/2)then(x2[(x1.toNat*2)+1]?).bind fun e13=>(oInt .i64 e13).bind fun n14=>bif (n14==0)then some (.int .i64 0,[])else L6 (q02.st6 x0 (IntKind.wrap .i64 (x1+1)) x2)else none else some (.int .i64 4,[]):=by kernel_rfl
theorem q02.round4(x0 x1 x2:Int)(x3:List T):q02.rd4 n L2 L4 (q02.st4 x0 x1 x2 x3)=bif (decide (x2<x1))then bif inB x1 (x3.length/2)then(x3[x1.toNat*2]?).bind fun e9=>(oStr e9).bind fun s10=>bif inB x2 (x3.length/2)then(x3[x2.toNat*2]?).bind fun e11=>(oStr e11).bind fun s12=>bif (s10.toList==s12.toList)then some (.int .i64 6,[])else L4 (q02.st4 x0 x1 (IntKind.wrap .i64 (x2+1)) x3)else none else none else L2 (q02.st2 x0 (IntKind.wrap .i64 (x1+1)) x3):=by kernel_rfl
theorem q02.ev(a0_0:List T):q1b prog A H LIM n F.q02 [.agg [.sl 2 a0_0]]=bif (decide ((((a0_0.length/2):Nat):Int)<1))then some (.int .i64 2,[])else bif (decide ((((a0_0.length/2):Nat):Int)>6))then some (.int .i64 2,[])else q02.at0 n n (q02.st0 (((a0_0.length/2):Nat):Int) (0:Int) a0_0):=by kernel_rfl
theorem q83.ev(a0_0:List T)(a0_1:Int)(a1_0 a2:List T):q1b prog A H LIM n F.q83 [.rref [.sl 1 a0_0,.int .i64 a0_1] 0,.rref [.sl 2 a1_0] 0,.sl 7 a2]=bif (decide ((((a2.length/7):Nat):Int)<1))then some (.sl 7 a2,[.agg [.sl 1 a0_0,.int .i64 a0_1]])else(LIM F.q3u [.rref [.sl 1 a0_0,.int .i64 a0_1] 0,.int .i64 4]).bind fun r1=>bS r1 fun c5 n7=>(q82 r1.1).bind fun b8=>bif (!b8)then some (.sl 7 a2,[.agg [.sl 1 a0_0,.int .i64 n7]])else(LIM F.q30 [.rref [.sl 1 a0_0,.int .i64 n7] 0,(.int .i64 (((a2.length/7):Nat):Int))]).bind fun r9=>bS r9 fun c13 n15=>(oInt .i64 r9.1).bind fun n16=>(LIM F.q30 [.rref [.sl 1 a0_0,.int .i64 n15] 0,.int .i64 5]).bind fun r17=>bS r17 fun c21 n23=>(oInt .i64 r17.1).bind fun n24=>bif (n24==0)then(LIM F.q45 [.rref [.sl 1 a0_0,.int .i64 n23] 0,(.sl 1 [.int .i64 n16,(.int .i64 (((a2.length/7):Nat):Int)),.int .i64 (-1),.int .i64 0])]).bind fun r25=>bS r25 fun c29 n31=>(oInt .i64 r25.1).bind fun n32=>bif inB n16 (a2.length/7)then bif decide (((n16.toNat*7)+1)+1<=a2.length)then some (.sl 7 (setCells a2 ((n16.toNat*7)+1) [.int .i64 n32]),[.agg [.sl 1 a0_0,.int .i64 n31]])else none else none else bif (n24==1)then(LIM F.q19 [.rref [.sl 1 a0_0,.int .i64 n23] 0,.rref [.sl 2 a1_0] 0,.int .i64 5,.int .i64 3]).bind fun r33=>bS r33 fun c37 n39=>(oSl 1 r33.1).bind fun c40=>bif inB n16 (a2.length/7)then bif decide (((n16.toNat*7)+5)+1<=a2.length)then some (.sl 7 (setCells a2 ((n16.toNat*7)+5) [.sl 1 c40]),[.agg [.sl 1 a0_0,.int .i64 n39]])else none else none else bif (n24==2)then(LIM F.q45 [.rref [.sl 1 a0_0,.int .i64 n23] 0,.sl 1 [.int .i64 0,.int .i64 1,.int .i64 2,.int .i64 3,.int .i64 4,.int .i64 5,.int .i64 6]]).bind fun r41=>bS r41 fun c45 n47=>(oInt .i64 r41.1).bind fun n48=>bif inB n16 (a2.length/7)then bif decide ((n16.toNat*7)+1<=a2.length)then some (.sl 7 (setCells a2 (n16.toNat*7) [.int .i64 n48]),[.agg [.sl 1 a0_0,.int .i64 n47]])else none else none else bif (n24==3)then(LIM F.q19 [.rref [.sl 1 a0_0,.int .i64 n23] 0,.rref [.sl 2 a1_0] 0,.int .i64 3,.int .i64 3]).bind fun r49=>bS r49 fun c53 n55=>(oSl 1 r49.1).bind fun c56=>bif inB n16 (a2.length/7)then bif decide (((n16.toNat*7)+6)+1<=a2.length)then some (.sl 7 (setCells a2 ((n16.toNat*7)+6) [.sl 1 c56]),[.agg [.sl 1 a0_0,.int .i64 n55]])else none else none else bif decide (0<=n16)&&decide (n16<=(((a2.length/7):Nat):Int))&&decide ((((a2.length/7):Nat):Int)<=(((a2.length/7):Nat):Int))then some ((.sl 7 ((a2.take ((Int.toNat (((a2.length/7):Nat):Int))*7)).drop (n16.toNat*7))),[.agg [.sl 1 a0_0,.int .i64 n23]])else none:=by kernel_rfl
def q2g.st0(x0 x1 x2:List T)(x3:Int):St:=⟨[(0,(.one (.t (.rref [(.sl 2 x0)] 0)))),(1,ol 2 x1),(2,ol 7 x2),(7,oi x3)],[]⟩
def q2g.K0:=kx F.q2g n [.block 0,.seq 0 (cx F.q2g [1,1,1])] (q3v prog A F.q2g)
def q2g.at0:=lx F.q2g n 0 [1,1,0,1,0,0] (q2g.K0 n) m s
def q2g.rd0:=rx F.q2g n 0 [1,1,0,1,0,0] (q2g.K0 n) L0 s
theorem q2g.next0:q2g.at0 n (m+1) s=q2g.rd0 n (q2g.at0 n m) s:=nx ..
theorem q2g.round0(x0 x1 x2:List T)(x3:Int):q2g.rd0 n L0 (q2g.st0 x0 x1 x2 x3)=bif (decide (x3<(((x2.length/7):Nat):Int)))then bif decide (0<=(0:Int))&&decide ((0:Int)<=x3)&&decide (x3<=(((x2.length/7):Nat):Int))then bif inB x3 (x2.length/7)then(LIM F.q66 [.rref [.sl 2 x0] 0,.sl 2 x1,.sl 7 ((x2.take (x3.toNat*7)).drop (0*7)),.rref ((x2.drop (x3.toNat*7)).take 7) 0]).bind fun r1=>(oNil r1.2).bind fun _=>(oTup r1.1).bind fun c2=>(q0s c2).bind fun p3=>(oAgg p3.1).bind fun c4=>(q0s c4).bind fun p5=>(oSl 1 p5.1).bind fun c6=>(q0s p5.2).bind fun p7=>(oSl 1 p7.1).bind fun c8=>(oNil p7.2).bind fun _=>(q0s p3.2).bind fun p9=>(oInt .i64 p9.1).bind fun n10=>(oNil p9.2).bind fun _=>bif (n10 != 0)then some (.int .i64 n10,[])else bif inB x3 (x2.length/7)then(x2[(x3.toNat*7)+5]?).bind fun e11=>(oSl 1 e11).bind fun c12=>(LIM F.q1r [.sl 1 c6,.sl 1 c12]).bind fun r13=>bB r13 fun b14=>bif (!b14)then some (.int .i64 8,[])else bif inB x3 (x2.length/7)then(x2[(x3.toNat*7)+6]?).bind fun e15=>(oSl 1 e15).bind fun c16=>(LIM F.q1r [.sl 1 c8,.sl 1 c16]).bind fun r17=>bB r17 fun b18=>bif (!b18)then some (.int .i64 8,[])else L0 (q2g.st0 x0 x1 x2 (IntKind.wrap .i64 (x3+1)))else none else none else none else none else some (.int .i64 0,[]):=by kernel_rfl
theorem q2g.ev(a0_0 a1 a2:List T):q1b prog A H LIM n F.q2g [.rref [.sl 2 a0_0] 0,.sl 2 a1,.sl 7 a2]=bif (decide ((((a2.length/7):Nat):Int)>500))then some (.int .i64 2,[])else q2g.at0 n n (q2g.st0 a0_0 a1 a2 (0:Int)):=by kernel_rfl
def q1v.st0(x0:List T)(x1:Int)(x2:List T):St:=⟨[(0,ol 7 x0),(3,(.one (.obj 384))),(4,oi x1)],[(384,(.arr true true 7 x2))]⟩
def q1v.K0:=kx F.q1v n [.block 0,.seq 0 (cx F.q1v [1,1,1])] (q3v prog A F.q1v)
def q1v.at0:=lx F.q1v n 0 [1,1,0,1,0,0] (q1v.K0 n) m s
def q1v.rd0:=rx F.q1v n 0 [1,1,0,1,0,0] (q1v.K0 n) L0 s
theorem q1v.next0:q1v.at0 n (m+1) s=q1v.rd0 n (q1v.at0 n m) s:=nx ..
theorem q1v.round0(x0:List T)(x1:Int)(x2:List T):q1v.rd0 n L0 (q1v.st0 x0 x1 x2)=bif (decide (x1<(((x0.length/7):Nat):Int)))then bif inB x1 (x0.length/7)then(x0[x1.toNat*7]?).bind fun e1=>(oInt .i64 e1).bind fun n2=>(x0[(x1.toNat*7)+1]?).bind fun e3=>(oInt .i64 e3).bind fun n4=>(x0[((x1.toNat*7)+1)+1]?).bind fun e5=>(oInt .i64 e5).bind fun n6=>(x0[(((x1.toNat*7)+1)+1)+1]?).bind fun e7=>(oInt .i64 e7).bind fun n8=>(x0[((((x1.toNat*7)+1)+1)+1)+1]?).bind fun e9=>(oInt .i64 e9).bind fun n10=>(x0[(((((x1.toNat*7)+1)+1)+1)+1)+1]?).bind fun e11=>(oSl 1 e11).bind fun c12=>(x0[((((((x1.toNat*7)+1)+1)+1)+1)+1)+1]?).bind fun e13=>(oSl 1 e13).bind fun c14=>(LIM F.q2u [.sl 1 c12]).bind fun r15=>bL r15 fun c16=>(LIM F.q2u [.sl 1 c14]).bind fun r17=>bL r17 fun c18=>bif Nat.ble ((x2.length+7)*88) (140737488355328*7)then L0 (q1v.st0 x0 (IntKind.wrap .i64 (x1+1)) (x2++[.int .i64 n2,.int .i64 n4,.int .i64 n6,.int .i64 n8,.int .i64 n10,.sl 1 c16,.sl 1 c18]:List T))else none else none else some (.sl 7 x2,[]):=by kernel_rfl
theorem q1v.ev(a0:List T):q1b prog A H LIM n F.q1v [.sl 7 a0]=q1v.at0 n n (q1v.st0 a0 (0:Int) []):=by kernel_rfl
theorem q66.ev(a0_0 a1 a2:List T)(a3_0 a3_1 a3_2 a3_3 a3_4:Int)(a3_5 a3_6:List T):q1b prog A H LIM n F.q66 [.rref [.sl 2 a0_0] 0,.sl 2 a1,.sl 7 a2,.rref [.int .i64 a3_0,.int .i64 a3_1,.int .i64 a3_2,.int .i64 a3_3,.int .i64 a3_4,.sl 1 a3_5,.sl 1 a3_6] 0]=(LIM F.q70 [(.int .i64 (((a1.length/2):Nat):Int)),(.int .i64 (((a2.length/7):Nat):Int)),.rref [.int .i64 a3_0,.int .i64 a3_1,.int .i64 a3_2,.int .i64 a3_3,.int .i64 a3_4,.sl 1 a3_5,.sl 1 a3_6] 0]).bind fun r1=>bI r1 fun n2=>bif (n2 != 0)then some (.tup [.agg [.sl 1 [],.sl 1 []],.int .i64 n2],[])else bif (a3_0==1)then bif inB a3_1 (a1.length/2)then(LIM F.q8w [.rref ((a1.drop (a3_1.toNat*2)).take 2) 0]).bind fun r3=>bQ r3 fun c6 c8=>some (.tup [.agg [.sl 1 c6,.sl 1 c8],.int .i64 0],[])else none else bif inB a3_1 (a2.length/7)then(LIM F.q2m [.rref ((a2.drop (a3_1.toNat*7)).take 7) 0]).bind fun r9=>bQ r9 fun c12 c14=>bif (a3_0==2)then some (.tup [.agg [.sl 1 c14,.sl 1 c12],.int .i64 0],[])else bif (a3_0==3)then(LIM F.q1m [.rref [.sl 1 c12,.sl 1 c14] 0]).bind fun r15=>(oNil r15.2).bind fun _=>(oTup r15.1).bind fun c16=>(q0s c16).bind fun p17=>(oAgg p17.1).bind fun c18=>(q0s c18).bind fun p19=>(oSl 1 p19.1).bind fun c20=>(q0s p19.2).bind fun p21=>(oSl 1 p21.1).bind fun c22=>(oNil p21.2).bind fun _=>(q0s p17.2).bind fun p23=>(q82 p23.1).bind fun b24=>(oNil p23.2).bind fun _=>some (.tup [.agg [.sl 1 c20,.sl 1 c22],.int .i64 0],[])else bif (a3_0==5)then bif inB a3_2 (a2.length/7)then(LIM F.q2m [.rref ((a2.drop (a3_2.toNat*7)).take 7) 0]).bind fun r25=>bQ r25 fun c28 c30=>(LIM F.q8f [.agg [.sl 2 a0_0],.agg [.sl 1 c12,.sl 1 c14],.agg [.sl 1 c28,.sl 1 c30],.int .i64 a3_3]).bind fun r31=>(oNil r31.2).bind fun _=>(oAgg r31.1).bind fun c32=>(q0s c32).bind fun p33=>(oInt .i64 p33.1).bind fun n34=>(q0s p33.2).bind fun p35=>(oSl 1 p35.1).bind fun c36=>(q0s p35.2).bind fun p37=>(oSl 1 p37.1).bind fun c38=>(oNil p37.2).bind fun _=>some (.tup [.agg [.sl 1 c36,.sl 1 c38],.int .i64 n34],[])else none else bif inB a3_2 (a2.length/7)then(LIM F.q2m [.rref ((a2.drop (a3_2.toNat*7)).take 7) 0]).bind fun r39=>bQ r39 fun c42 c44=>bif (a3_4==0)then(LIM F.q56 [.agg [.sl 2 a0_0],.sl 2 [.sl 1 c42,.sl 1 c44],.int .i64 0,.int .i64 a3_3,.sl 1 c12]).bind fun r45=>(oNil r45.2).bind fun _=>(oAgg r45.1).bind fun c46=>(q0s c46).bind fun p47=>(oInt .i64 p47.1).bind fun n48=>(q0s p47.2).bind fun p49=>(oSl 1 p49.1).bind fun c50=>(oNil p49.2).bind fun _=>some (.tup [.agg [.sl 1 c50,.sl 1 c14],.int .i64 n48],[])else(LIM F.q56 [.agg [.sl 2 a0_0],.sl 2 [.sl 1 c42,.sl 1 c44],.int .i64 0,.int .i64 a3_3,.sl 1 c14]).bind fun r51=>(oNil r51.2).bind fun _=>(oAgg r51.1).bind fun c52=>(q0s c52).bind fun p53=>(oInt .i64 p53.1).bind fun n54=>(q0s p53.2).bind fun p55=>(oSl 1 p55.1).bind fun c56=>(oNil p55.2).bind fun _=>some (.tup [.agg [.sl 1 c12,.sl 1 c56],.int .i64 n54],[])else none else none:=by kernel_rfl
theorem q2m.ev(a0_0 a0_1 a0_2 a0_3 a0_4:Int)(a0_5 a0_6:List T):q1b prog A H LIM n F.q2m [.rref [.int .i64 a0_0,.int .i64 a0_1,.int .i64 a0_2,.int .i64 a0_3,.int .i64 a0_4,.sl 1 a0_5,.sl 1 a0_6] 0]=(LIM F.q2u [.sl 1 a0_5]).bind fun r1=>bL r1 fun c2=>(LIM F.q2u [.sl 1 a0_6]).bind fun r3=>bL r3 fun c4=>some (.agg [.sl 1 c2,.sl 1 c4],[]):=by kernel_rfl
theorem q6r.ev(a0_0 a1 a2:List T)(a3_0 a3_1 a3_2 a3_3 a3_4:Int)(a3_5 a3_6:List T):q1b prog A H LIM n F.q6r [.rref [.sl 2 a0_0] 0,.sl 2 a1,.sl 7 a2,.agg [.int .i64 a3_0,.int .i64 a3_1,.int .i64 a3_2,.int .i64 a3_3,.int .i64 a3_4,.sl 1 a3_5,.sl 1 a3_6]]=(LIM F.q66 [.rref [.sl 2 a0_0] 0,.sl 2 a1,.sl 7 a2,.rref [.int .i64 a3_0,.int .i64 a3_1,.int .i64 a3_2,.int .i64 a3_3,.int .i64 a3_4,.sl 1 a3_5,.sl 1 a3_6] 0]).bind fun r1=>(oNil r1.2).bind fun _=>(oTup r1.1).bind fun c2=>(q0s c2).bind fun p3=>(oAgg p3.1).bind fun c4=>(q0s c4).bind fun p5=>(oSl 1 p5.1).bind fun c6=>(q0s p5.2).bind fun p7=>(oSl 1 p7.1).bind fun c8=>(oNil p7.2).bind fun _=>(q0s p3.2).bind fun p9=>(oInt .i64 p9.1).bind fun n10=>(oNil p9.2).bind fun _=>bif (n10 != 0)then some (.tup [.agg [.int .i64 0,.int .i64 0,.int .i64 0,.int .i64 0,.int .i64 0,.sl 1 [],.sl 1 []],.int .i64 n10],[])else some (.tup [.agg [.int .i64 a3_0,.int .i64 a3_1,.int .i64 a3_2,.int .i64 a3_3,.int .i64 a3_4,.sl 1 c6,.sl 1 c8],.int .i64 0],[]):=by kernel_rfl
theorem q70.ev(a0 a1 a2_0 a2_1 a2_2 a2_3 a2_4:Int)(a2_5 a2_6:List T):q1b prog A H LIM n F.q70 [.int .i64 a0,.int .i64 a1,.rref [.int .i64 a2_0,.int .i64 a2_1,.int .i64 a2_2,.int .i64 a2_3,.int .i64 a2_4,.sl 1 a2_5,.sl 1 a2_6] 0]=(LIM F.q1q [.int .i64 a2_0,.int .i64 1,.int .i64 5]).bind fun r1=>bB r1 fun b2=>bif (!b2)then some (.int .i64 1,[])else bif (a2_0==4)then bif (a2_0 != 4)then bif (a2_4 != 0)then some (.int .i64 1,[])else bif (a2_0==1)then(LIM F.q1q [.int .i64 a2_1,.int .i64 0,.int .i64 (IntKind.wrap .i64 (a0-1))]).bind fun r3=>bB r3 fun b4=>bif (!b4)then some (.int .i64 3,[])else(LIM F.q1q [.int .i64 a2_2,.int .i64 0,.int .i64 (IntKind.wrap .i64 (a1-1))]).bind fun r5=>bB r5 fun b6=>bif (!b6)then some (.int .i64 3,[])else(LIM F.q1q [.int .i64 a2_4,.int .i64 0,.int .i64 1]).bind fun r7=>bB r7 fun b8=>bif (!b8)then some (.int .i64 3,[])else some (.int .i64 0,[])else(LIM F.q1q [.int .i64 a2_1,.int .i64 0,.int .i64 (IntKind.wrap .i64 (a1-1))]).bind fun r9=>bB r9 fun b10=>bif (!b10)then some (.int .i64 3,[])else(LIM F.q1q [.int .i64 a2_2,.int .i64 0,.int .i64 (IntKind.wrap .i64 (a1-1))]).bind fun r11=>bB r11 fun b12=>bif (!b12)then some (.int .i64 3,[])else(LIM F.q1q [.int .i64 a2_4,.int .i64 0,.int .i64 1]).bind fun r13=>bB r13 fun b14=>bif (!b14)then some (.int .i64 3,[])else some (.int .i64 0,[])else bif (a2_0==1)then(LIM F.q1q [.int .i64 a2_1,.int .i64 0,.int .i64 (IntKind.wrap .i64 (a0-1))]).bind fun r15=>bB r15 fun b16=>bif (!b16)then some (.int .i64 3,[])else(LIM F.q1q [.int .i64 a2_2,.int .i64 0,.int .i64 (IntKind.wrap .i64 (a1-1))]).bind fun r17=>bB r17 fun b18=>bif (!b18)then some (.int .i64 3,[])else(LIM F.q1q [.int .i64 a2_4,.int .i64 0,.int .i64 1]).bind fun r19=>bB r19 fun b20=>bif (!b20)then some (.int .i64 3,[])else some (.int .i64 0,[])else(LIM F.q1q [.int .i64 a2_1,.int .i64 0,.int .i64 (IntKind.wrap .i64 (a1-1))]).bind fun r21=>bB r21 fun b22=>bif (!b22)then some (.int .i64 3,[])else(LIM F.q1q [.int .i64 a2_2,.int .i64 0,.int .i64 (IntKind.wrap .i64 (a1-1))]).bind fun r23=>bB r23 fun b24=>bif (!b24)then some (.int .i64 3,[])else(LIM F.q1q [.int .i64 a2_4,.int .i64 0,.int .i64 1]).bind fun r25=>bB r25 fun b26=>bif (!b26)then some (.int .i64 3,[])else some (.int .i64 0,[])else bif (!(a2_0==5))then bif (a2_2 != 0)then some (.int .i64 1,[])else bif (a2_3 != 0)then some (.int .i64 1,[])else bif (a2_0 != 4)then bif (a2_4 != 0)then some (.int .i64 1,[])else bif (a2_0==1)then(LIM F.q1q [.int .i64 a2_1,.int .i64 0,.int .i64 (IntKind.wrap .i64 (a0-1))]).bind fun r27=>bB r27 fun b28=>bif (!b28)then some (.int .i64 3,[])else bif (a2_0==5)then(LIM F.q1q [.int .i64 a2_2,.int .i64 0,.int .i64 (IntKind.wrap .i64 (a1-1))]).bind fun r29=>bB r29 fun b30=>bif (!b30)then some (.int .i64 3,[])else(LIM F.q1q [.int .i64 a2_4,.int .i64 0,.int .i64 1]).bind fun r31=>bB r31 fun b32=>bif (!b32)then some (.int .i64 3,[])else some (.int .i64 0,[])else(LIM F.q1q [.int .i64 a2_4,.int .i64 0,.int .i64 1]).bind fun r33=>bB r33 fun b34=>bif (!b34)then some (.int .i64 3,[])else some (.int .i64 0,[])else(LIM F.q1q [.int .i64 a2_1,.int .i64 0,.int .i64 (IntKind.wrap .i64 (a1-1))]).bind fun r35=>bB r35 fun b36=>bif (!b36)then some (.int .i64 3,[])else bif (a2_0==5)then(LIM F.q1q [.int .i64 a2_2,.int .i64 0,.int .i64 (IntKind.wrap .i64 (a1-1))]).bind fun r37=>bB r37 fun b38=>bif (!b38)then some (.int .i64 3,[])else(LIM F.q1q [.int .i64 a2_4,.int .i64 0,.int .i64 1]).bind fun r39=>bB r39 fun b40=>bif (!b40)then some (.int .i64 3,[])else some (.int .i64 0,[])else(LIM F.q1q [.int .i64 a2_4,.int .i64 0,.int .i64 1]).bind fun r41=>bB r41 fun b42=>bif (!b42)then some (.int .i64 3,[])else some (.int .i64 0,[])else bif (a2_0==1)then(LIM F.q1q [.int .i64 a2_1,.int .i64 0,.int .i64 (IntKind.wrap .i64 (a0-1))]).bind fun r43=>bB r43 fun b44=>bif (!b44)then some (.int .i64 3,[])else bif (a2_0==5)then(LIM F.q1q [.int .i64 a2_2,.int .i64 0,.int .i64 (IntKind.wrap .i64 (a1-1))]).bind fun r45=>bB r45 fun b46=>bif (!b46)then some (.int .i64 3,[])else(LIM F.q1q [.int .i64 a2_4,.int .i64 0,.int .i64 1]).bind fun r47=>bB r47 fun b48=>bif (!b48)then some (.int .i64 3,[])else some (.int .i64 0,[])else(LIM F.q1q [.int .i64 a2_4,.int .i64 0,.int .i64 1]).bind fun r49=>bB r49 fun b50=>bif (!b50)then some (.int .i64 3,[])else some (.int .i64 0,[])else(LIM F.q1q [.int .i64 a2_1,.int .i64 0,.int .i64 (IntKind.wrap .i64 (a1-1))]).bind fun r51=>bB r51 fun b52=>bif (!b52)then some (.int .i64 3,[])else bif (a2_0==5)then(LIM F.q1q [.int .i64 a2_2,.int .i64 0,.int .i64 (IntKind.wrap .i64 (a1-1))]).bind fun r53=>bB r53 fun b54=>bif (!b54)then some (.int .i64 3,[])else(LIM F.q1q [.int .i64 a2_4,.int .i64 0,.int .i64 1]).bind fun r55=>bB r55 fun b56=>bif (!b56)then some (.int .i64 3,[])else some (.int .i64 0,[])else(LIM F.q1q [.int .i64 a2_4,.int .i64 0,.int .i64 1]).bind fun r57=>bB r57 fun b58=>bif (!b58)then some (.int .i64 3,[])else some (.int .i64 0,[])else bif (a2_0 != 4)then bif (a2_4 != 0)then some (.int .i64 1,[])else bif (a2_0==1)then(LIM F.q1q [.int .i64 a2_1,.int .i64 0,.int .i64 (IntKind.wrap .i64 (a0-1))]).bind fun r59=>bB r59 fun b60=>bif (!b60)then some (.int .i64 3,[])else bif (a2_0==5)then(LIM F.q1q [.int .i64 a2_2,.int .i64 0,.int .i64 (IntKind.wrap .i64 (a1-1))]).bind fun r61=>bB r61 fun b62=>bif (!b62)then some (.int .i64 3,[])else(LIM F.q1q [.int .i64 a2_4,.int .i64 0,.int .i64 1]).bind fun r63=>bB r63 fun b64=>bif (!b64)then some (.int .i64 3,[])else some (.int .i64 0,[])else(LIM F.q1q [.int .i64 a2_4,.int .i64 0,.int .i64 1]).bind fun r65=>bB r65 fun b66=>bif (!b66)then some (.int .i64 3,[])else some (.int .i64 0,[])else(LIM F.q1q [.int .i64 a2_1,.int .i64 0,.int .i64 (IntKind.wrap .i64 (a1-1))]).bind fun r67=>bB r67 fun b68=>bif (!b68)then some (.int .i64 3,[])else bif (a2_0==5)then(LIM F.q1q [.int .i64 a2_2,.int .i64 0,.int .i64 (IntKind.wrap .i64 (a1-1))]).bind fun r69=>bB r69 fun b70=>bif (!b70)then some (.int .i64 3,[])else(LIM F.q1q [.int .i64 a2_4,.int .i64 0,.int .i64 1]).bind fun r71=>bB r71 fun b72=>bif (!b72)then some (.int .i64 3,[])else some (.int .i64 0,[])else(LIM F.q1q [.int .i64 a2_4,.int .i64 0,.int .i64 1]).bind fun r73=>bB r73 fun b74=>bif (!b74)then some (.int .i64 3,[])else some (.int .i64 0,[])else bif (a2_0==1)then(LIM F.q1q [.int .i64 a2_1,.int .i64 0,.int .i64 (IntKind.wrap .i64 (a0-1))]).bind fun r75=>bB r75 fun b76=>bif (!b76)then some (.int .i64 3,[])else bif (a2_0==5)then(LIM F.q1q [.int .i64 a2_2,.int .i64 0,.int .i64 (IntKind.wrap .i64 (a1-1))]).bind fun r77=>bB r77 fun b78=>bif (!b78)then some (.int .i64 3,[])else(LIM F.q1q [.int .i64 a2_4,.int .i64 0,.int .i64 1]).bind fun r79=>bB r79 fun b80=>bif (!b80)then some (.int .i64 3,[])else some (.int .i64 0,[])else(LIM F.q1q [.int .i64 a2_4,.int .i64 0,.int .i64 1]).bind fun r81=>bB r81 fun b82=>bif (!b82)then some (.int .i64 3,[])else some (.int .i64 0,[])else(LIM F.q1q [.int .i64 a2_1,.int .i64 0,.int .i64 (IntKind.wrap .i64 (a1-1))]).bind fun r83=>bB r83 fun b84=>bif (!b84)then some (.int .i64 3,[])else bif (a2_0==5)then(LIM F.q1q [.int .i64 a2_2,.int .i64 0,.int .i64 (IntKind.wrap .i64 (a1-1))]).bind fun r85=>bB r85 fun b86=>bif (!b86)then some (.int .i64 3,[])else(LIM F.q1q [.int .i64 a2_4,.int .i64 0,.int .i64 1]).bind fun r87=>bB r87 fun b88=>bif (!b88)then some (.int .i64 3,[])else some (.int .i64 0,[])else(LIM F.q1q [.int .i64 a2_4,.int .i64 0,.int .i64 1]).bind fun r89=>bB r89 fun b90=>bif (!b90)then some (.int .i64 3,[])else some (.int .i64 0,[]):=by kernel_rfl
theorem q4w.ev(a0_0 a1_0 a1_1 a1_2 a1_3 a1_4:List T)(a1_5 a2_0 a2_1 a2_2 a2_3 a2_4:Int)(a2_5 a2_6:List T):q1b prog A H LIM n F.q4w [.rref [.sl 2 a0_0] 0,.rref [.sl 1 a1_0,.sl 2 a1_1,.sl 7 a1_2,.sl 1 a1_3,.sl 1 a1_4,.int .i64 a1_5] 0,.agg [.int .i64 a2_0,.int .i64 a2_1,.int .i64 a2_2,.int .i64 a2_3,.int .i64 a2_4,.sl 1 a2_5,.sl 1 a2_6]]=bif (decide ((((a1_2.length/7):Nat):Int)>=500))then some (.tup [.int .i64 0,.int .i64 7],[.agg [.sl 1 a1_0,.sl 2 a1_1,.sl 7 a1_2,.sl 1 a1_3,.sl 1 a1_4,.int .i64 a1_5]])else(LIM F.q6r [.rref [.sl 2 a0_0] 0,.sl 2 a1_1,.sl 7 a1_2,.agg [.int .i64 a2_0,.int .i64 a2_1,.int .i64 a2_2,.int .i64 a2_3,.int .i64 a2_4,.sl 1 a2_5,.sl 1 a2_6]]).bind fun r1=>(oNil r1.2).bind fun _=>(oTup r1.1).bind fun c2=>(q0s c2).bind fun p3=>(oAgg p3.1).bind fun c4=>(q0s c4).bind fun p5=>(oInt .i64 p5.1).bind fun n6=>(q0s p5.2).bind fun p7=>(oInt .i64 p7.1).bind fun n8=>(q0s p7.2).bind fun p9=>(oInt .i64 p9.1).bind fun n10=>(q0s p9.2).bind fun p11=>(oInt .i64 p11.1).bind fun n12=>(q0s p11.2).bind fun p13=>(oInt .i64 p13.1).bind fun n14=>(q0s p13.2).bind fun p15=>(oSl 1 p15.1).bind fun c16=>(q0s p15.2).bind fun p17=>(oSl 1 p17.1).bind fun c18=>(oNil p17.2).bind fun _=>(q0s p3.2).bind fun p19=>(oInt .i64 p19.1).bind fun n20=>(oNil p19.2).bind fun _=>bif (n20 != 0)then some (.tup [.int .i64 0,.int .i64 n20],[.agg [.sl 1 a1_0,.sl 2 a1_1,.sl 7 a1_2,.sl 1 a1_3,.sl 1 a1_4,.int .i64 a1_5]])else bif Nat.ble ((a1_2.length+7)*88) (140737488355328*7)then some ((.tup [(.int .i64 (IntKind.wrap .i64 ((((((a1_2++[.int .i64 n6,.int .i64 n8,.int .i64 n10,.int .i64 n12,.int .i64 n14,.sl 1 c16,.sl 1 c18]:List T)).length/7):Nat):Int)-1))),.int .i64 0]),[.agg [.sl 1 a1_0,.sl 2 a1_1,.sl 7 (a1_2++[.int .i64 n6,.int .i64 n8,.int .i64 n10,.int .i64 n12,.int .i64 n14,.sl 1 c16,.sl 1 c18]:List T),.sl 1 a1_3,.sl 1 a1_4,.int .i64 a1_5]])else none:=by kernel_rfl
def q28.st1(x0 x1:Int)(x2:List T)(x3:Int)(x4 x5 x6 x7 x8 x9:List T)(x10:Int):St:=⟨[(2,(.one (.ptr 128 0))),(3,(.one (.ptr 192 0))),(5,(.one (.ptr 640 0))),(6,(.one (.ptr 384 0))),(7,(.one (.ptr 448 0))),(8,oi x0)],[(128,(.box [.nil])),(192,(.box [.nil,.nil,.nil,.nil,.nil,(.t (.int .i64 x1))])),(640,(.box [(.t (.sl 1 x2)),(.t (.int .i64 x3))])),(832,(.arr true true 2 x4)),(833,(.arr true true 1 x5)),(834,(.arr true true 2 x6)),(835,(.arr true true 7 x7)),(836,(.arr true true 1 x8)),(837,(.arr true true 1 x9)),(384,(.box [(.obj 832)])),(448,(.box [(.obj 833),(.obj 834),(.obj 835),(.obj 836),(.obj 837),(.t (.int .i64 x10))]))]⟩
def q28.K1:=kx F.q28 n [.block 1,.block 0,.seq 0 (cx F.q28 [1,1,1,1,1])] (q3v prog A F.q28)
def q28.at1:=lx F.q28 n 1 [1,1,1,1,0,1,0,1,1,1,1,1,1,1,1,1,1,1,0,1,0,1,0,0] (q28.K1 n) m s
def q28.rd1:=rx F.q28 n 1 [1,1,1,1,0,1,0,1,1,1,1,1,1,1,1,1,1,1,0,1,0,1,0,0] (q28.K1 n) L1 s
theorem q28.next1:q28.at1 n (m+1) s=q28.rd1 n (q28.at1 n m) s:=nx ..
theorem q28.round1(x0 x1:Int)(x2:List T)(x3:Int)(x4 x5 x6 x7 x8 x9:List T)(x10:Int):q28.rd1 n L1 (q28.st1 x0 x1 x2 x3 x4 x5 x6 x7 x8 x9 x10)=bif (decide ((((x9.length/1):Nat):Int)<x0))then bif Nat.ble ((x9.length+1)*8) (140737488355328*1)then L1 (q28.st1 x0 x1 x2 x3 x4 x5 x6 x7 x8 (x9++[.int .i64 0]:List T) x10)else none else some (.tup [.agg [.sl 2 x4],.agg [.sl 1 x5,.sl 2 x6,.sl 7 x7,.sl 1 x8,.sl 1 x9,.int .i64 x10],.bx [.sl 1 x2,.int .i64 x3]],[]):=by kernel_rfl
theorem q28.ev(a0:List T):q1b prog A H LIM n F.q28 [.sl 1 a0]=(LIM F.q7j [.sl 1 a0]).bind fun r1=>(oNil r1.2).bind fun _=>(oBx r1.1).bind fun c2=>(q0s c2).bind fun p3=>(oSl 1 p3.1).bind fun c4=>(q0s p3.2).bind fun p5=>(oInt .i64 p5.1).bind fun n6=>(oNil p5.2).bind fun _=>(LIM F.q2p [.rref [.sl 1 c4,.int .i64 n6] 0]).bind fun r7=>bS r7 fun c11 n13=>(oTup r7.1).bind fun c14=>(q0s c14).bind fun p15=>(oAgg p15.1).bind fun c16=>(q0s c16).bind fun p17=>(oSl 2 p17.1).bind fun c18=>(oNil p17.2).bind fun _=>(q0s p15.2).bind fun p19=>(oAgg p19.1).bind fun c20=>(q0s c20).bind fun p21=>(oSl 1 p21.1).bind fun c22=>(q0s p21.2).bind fun p23=>(oSl 2 p23.1).bind fun c24=>(q0s p23.2).bind fun p25=>(oSl 7 p25.1).bind fun c26=>(q0s p25.2).bind fun p27=>(oSl 1 p27.1).bind fun c28=>(q0s p27.2).bind fun p29=>(oSl 1 p29.1).bind fun c30=>(q0s p29.2).bind fun p31=>(oInt .i64 p31.1).bind fun n32=>(oNil p31.2).bind fun _=>(oNil p19.2).bind fun _=>(LIM F.q3u [.rref [.sl 1 c4,.int .i64 n13] 0,.int .i64 8]).bind fun r33=>bS r33 fun c37 n39=>(q82 r33.1).bind fun b40=>bif (!b40)then some (.tup [.agg [.sl 2 c18],.agg [.sl 1 c22,.sl 2 c24,.sl 7 c26,.sl 1 c28,.sl 1 c30,.int .i64 n32],.bx [.sl 1 c4,.int .i64 n39]],[])else(LIM F.q30 [.rref [.sl 1 c4,.int .i64 n39] 0,.int .i64 7]).bind fun r41=>bS r41 fun c45 n47=>(oInt .i64 r41.1).bind fun n48=>bif (n48==0)then(LIM F.q5t [.rref [.sl 1 c4,.int .i64 n47] 0,.agg [.sl 2 c18]]).bind fun r49=>bS r49 fun c53 n55=>(oSl 1 r49.1).bind fun c56=>some (.tup [.agg [.sl 2 c18],.agg [.sl 1 c56,.sl 2 c24,.sl 7 c26,.sl 1 c28,.sl 1 c30,.int .i64 n32],.bx [.sl 1 c4,.int .i64 n55]],[])else bif (n48==1)then(LIM F.q83 [.rref [.sl 1 c4,.int .i64 n47] 0,.rref [.sl 2 c18] 0,.sl 7 c26]).bind fun r57=>bS r57 fun c61 n63=>(oSl 7 r57.1).bind fun c64=>some (.tup [.agg [.sl 2 c18],.agg [.sl 1 c22,.sl 2 c24,.sl 7 c64,.sl 1 c28,.sl 1 c30,.int .i64 n32],.bx [.sl 1 c4,.int .i64 n63]],[])else bif (n48==2)then(LIM F.q45 [.rref [.sl 1 c4,.int .i64 n47] 0,(.sl 1 [.int .i64 0,.int .i64 (-1),(.int .i64 (((c26.length/7):Nat):Int))])]).bind fun r65=>bS r65 fun c69 n71=>(oInt .i64 r65.1).bind fun n72=>bif Nat.ble ((c28.length+1)*8) (140737488355328*1)then some (.tup [.agg [.sl 2 c18],.agg [.sl 1 c22,.sl 2 c24,.sl 7 c26,.sl 1 (c28++[.int .i64 n72]:List T),.sl 1 c30,.int .i64 n32],.bx [.sl 1 c4,.int .i64 n71]],[])else none else bif (n48==3)then(LIM F.q45 [.rref [.sl 1 c4,.int .i64 n47] 0,(.sl 1 [.int .i64 0,.int .i64 (-1),(.int .i64 (((c26.length/7):Nat):Int))])]).bind fun r73=>bS r73 fun c77 n79=>(oInt .i64 r73.1).bind fun n80=>bif Nat.ble ((c30.length+1)*8) (140737488355328*1)then some (.tup [.agg [.sl 2 c18],.agg [.sl 1 c22,.sl 2 c24,.sl 7 c26,.sl 1 c28,.sl 1 (c30++[.int .i64 n80]:List T),.int .i64 n32],.bx [.sl 1 c4,.int .i64 n79]],[])else none else bif (n48==4)then(LIM F.q45 [.rref [.sl 1 c4,.int .i64 n47] 0,.sl 1 [.int .i64 150,.int .i64 151,.int .i64 (-1)]]).bind fun r81=>bS r81 fun c85 n87=>(oInt .i64 r81.1).bind fun n88=>some (.tup [.agg [.sl 2 c18],.agg [.sl 1 c22,.sl 2 c24,.sl 7 c26,.sl 1 c28,.sl 1 c30,.int .i64 n88],.bx [.sl 1 c4,.int .i64 n87]],[])else bif (n48==5)then bif (decide ((((c26.length/7):Nat):Int)>0))then(LIM F.q45 [.rref [.sl 1 c4,.int .i64 n47] 0,.sl 1 [.int .i64 99,.int .i64 100,.int .i64 101]]).bind fun r89=>bS r89 fun c93 n95=>(oInt .i64 r89.1).bind fun n96=>q28.at1 n n (q28.st1 n96 (0:Int) c4 n95 c18 c22 c24 c26 c28 c30 n32)else some (.tup [.agg [.sl 2 c18],.agg [.sl 1 c22,.sl 2 c24,.sl 7 c26,.sl 1 c28,.sl 1 c30,.int .i64 n32],.bx [.sl 1 c4,.int .i64 n47]],[])else(LIM F.q1h [.rref [.sl 1 c4,.int .i64 n47] 0,.rref [.sl 2 c18] 0]).bind fun r97=>bS r97 fun c101 n103=>(oSl 2 r97.1).bind fun c104=>some (.tup [.agg [.sl 2 c18],.agg [.sl 1 c22,.sl 2 c104,.sl 7 c26,.sl 1 c28,.sl 1 c30,.int .i64 n32],.bx [.sl 1 c4,.int .i64 n103]],[]):=by kernel_rfl
theorem q8x.ev(a0_0 a0_1 a0_2 a0_3 a0_4:List T)(a0_5:Int):q1b prog A H LIM n F.q8x [.rref [.sl 1 a0_0,.sl 2 a0_1,.sl 7 a0_2,.sl 1 a0_3,.sl 1 a0_4,.int .i64 a0_5] 0]=(LIM F.q2u [.sl 1 a0_0]).bind fun r1=>bL r1 fun c2=>(LIM F.q2b [.sl 2 a0_1]).bind fun r3=>bM r3 fun c4=>(LIM F.q1v [.sl 7 a0_2]).bind fun r5=>(oNil r5.2).bind fun _=>(oSl 7 r5.1).bind fun c6=>(LIM F.q2u [.sl 1 a0_3]).bind fun r7=>bL r7 fun c8=>(LIM F.q2u [.sl 1 a0_4]).bind fun r9=>bL r9 fun c10=>some (.agg [.sl 1 c2,.sl 2 c4,.sl 7 c6,.sl 1 c8,.sl 1 c10,.int .i64 a0_5],[]):=by kernel_rfl
def q2p.st0(x0:Int)(x1:List T)(x2 x3:Int)(x4 x5 x6 x7 x8 x9:List T)(x10:Int):St:=⟨[(0,(.one (.ptr 1000000 0))),(2,(.one (.ptr 128 0))),(3,(.one (.ptr 192 0))),(4,(.one (.ptr 256 0))),(6,(.one (.ptr 384 0))),(7,oi x0)],[(1000000,(.box [(.kept 0 (.sl 1 x1)),(.t (.int .i64 x2))])),(128,(.box [.nil])),(192,(.box [.nil,.nil,.nil,.nil,.nil,(.t (.int .i64 x3))])),(640,(.arr true true 2 x4)),(256,(.box [(.obj 640)])),(1088,(.arr true true 1 x5)),(1089,(.arr true true 2 x6)),(1090,(.arr true true 7 x7)),(1091,(.arr true true 1 x8)),(1092,(.arr true true 1 x9)),(384,(.box [(.obj 1088),(.obj 1089),(.obj 1090),(.obj 1091),(.obj 1092),(.t (.int .i64 x10))]))]⟩
def q2p.K0:=kx F.q2p n [.block 0,.seq 0 (cx F.q2p [1,1,1,1,1])] (q3v prog A F.q2p)
def q2p.at0:=lx F.q2p n 0 [1,1,1,1,0,1,0,0] (q2p.K0 n) m s
def q2p.rd0:=rx F.q2p n 0 [1,1,1,1,0,1,0,0] (q2p.K0 n) L0 s
theorem q2p.next0:q2p.at0 n (m+1) s=q2p.rd0 n (q2p.at0 n m) s:=nx ..
theorem q2p.round0(x0:Int)(x1:List T)(x2 x3:Int)(x4 x5 x6 x7 x8 x9:List T)(x10:Int):q2p.rd0 n L0 (q2p.st0 x0 x1 x2 x3 x4 x5 x6 x7 x8 x9 x10)=bif (decide (x0>0))then(LIM F.q8x [.rref [.sl 1 x5,.sl 2 x6,.sl 7 x7,.sl 1 x8,.sl 1 x9,.int .i64 x10] 0]).bind fun r49=>(oNil r49.2).bind fun _=>(oAgg r49.1).bind fun c50=>(q0s c50).bind fun p51=>(oSl 1 p51.1).bind fun c52=>(q0s p51.2).bind fun p53=>(oSl 2 p53.1).bind fun c54=>(q0s p53.2).bind fun p55=>(oSl 7 p55.1).bind fun c56=>(q0s p55.2).bind fun p57=>(oSl 1 p57.1).bind fun c58=>(q0s p57.2).bind fun p59=>(oSl 1 p59.1).bind fun c60=>(q0s p59.2).bind fun p61=>(oInt .i64 p61.1).bind fun n62=>(oNil p61.2).bind fun _=>(LIM F.q84 [.rref [.sl 2 x4] 0,.rref [.sl 1 c52,.sl 2 c54,.sl 7 c56,.sl 1 c58,.sl 1 c60,.int .i64 n62] 0]).bind fun r63=>bC r63 fun c67 c69 c71 c73 c75 n77=>(oInt .i64 r63.1).bind fun n78=>bif (n78 != 0)then some (.tup [.agg [.sl 2 x4],.agg [.sl 1 x5,.sl 2 x6,.sl 7 x7,.sl 1 x8,.sl 1 x9,.int .i64 x10]],[.agg [.sl 1 x1,.int .i64 x2]])else L0 (q2p.st0 (IntKind.wrap .i64 (x0-1)) x1 x2 x3 x4 c67 c69 c71 c73 c75 n77)else some (.tup [.agg [.sl 2 x4],.agg [.sl 1 x5,.sl 2 x6,.sl 7 x7,.sl 1 x8,.sl 1 x9,.int .i64 x10]],[.agg [.sl 1 x1,.int .i64 x2]]):=by kernel_rfl
theorem q2p.ev(a0_0:List T)(a0_1:Int):q1b prog A H LIM n F.q2p [.rref [.sl 1 a0_0,.int .i64 a0_1] 0]=(LIM F.q9o [.rref [.sl 1 a0_0,.int .i64 a0_1] 0]).bind fun r1=>bS r1 fun c5 n7=>(oAgg r1.1).bind fun c8=>(q0s c8).bind fun p9=>(oSl 2 p9.1).bind fun c10=>(oNil p9.2).bind fun _=>(LIM F.q16 [.rref [.sl 1 a0_0,.int .i64 n7] 0,.agg [.sl 2 c10]]).bind fun r11=>bS r11 fun c15 n17=>(oSl 1 r11.1).bind fun c18=>(LIM F.q1d [.rref [.sl 1 a0_0,.int .i64 n17] 0,.rref [.sl 2 c10] 0,.int .i64 3]).bind fun r19=>bS r19 fun c23 n25=>(oSl 2 r19.1).bind fun c26=>(LIM F.q35 [.rref [.sl 2 c10] 0,.sl 1 c18,.sl 2 c26]).bind fun r27=>(oNil r27.2).bind fun _=>(oAgg r27.1).bind fun c28=>(q0s c28).bind fun p29=>(oSl 1 p29.1).bind fun c30=>(q0s p29.2).bind fun p31=>(oSl 2 p31.1).bind fun c32=>(q0s p31.2).bind fun p33=>(oSl 7 p33.1).bind fun c34=>(q0s p33.2).bind fun p35=>(oSl 1 p35.1).bind fun c36=>(q0s p35.2).bind fun p37=>(oSl 1 p37.1).bind fun c38=>(q0s p37.2).bind fun p39=>(oInt .i64 p39.1).bind fun n40=>(oNil p39.2).bind fun _=>(LIM F.q45 [.rref [.sl 1 a0_0,.int .i64 n25] 0,.sl 1 [.int .i64 0,.int .i64 1,.int .i64 2,.int .i64 4,.int .i64 7,.int .i64 12,.int .i64 25]]).bind fun r41=>bS r41 fun c45 n47=>(oInt .i64 r41.1).bind fun n48=>q2p.at0 n n (q2p.st0 n48 a0_0 n47 (0:Int) c10 c30 c32 c34 c36 c38 n40):=by kernel_rfl
def q2d.st0(x0:List T)(x1 x2 x3:Int)(x4 x5 x6 x7 x8 x9 x10:List T):St:=⟨[(0,(.one (.t (.rref [(.sl 2 x0)] 0)))),(1,(.one (.ptr 1000000 0))),(2,oi x1),(7,(.one (.obj 1280))),(8,(.one (.obj 1344))),(9,oi x2)],[(1000000,(.box [(.obj 1000001),(.obj 1000002),(.obj 1000003),(.obj 1000004),(.obj 1000005),(.t (.int .i64 x3))])),(1000001,(.arr true true 1 x4)),(1000002,(.arr true true 2 x5)),(1000003,(.arr true true 7 x6)),(1000004,(.arr true true 1 x7)),(1000005,(.arr true true 1 x8)),(1280,(.arr true true 2 x9)),(1344,(.arr true true 1 x10))]⟩
def q2d.K0:=kx F.q2d n [.block 0,.seq 0 (cx F.q2d [1,1,1,1])] (q3v prog A F.q2d)
def q2d.at0:=lx F.q2d n 0 [1,1,1,0,1,0,0] (q2d.K0 n) m s
def q2d.rd0:=rx F.q2d n 0 [1,1,1,0,1,0,0] (q2d.K0 n) L0 s
theorem q2d.next0:q2d.at0 n (m+1) s=q2d.rd0 n (q2d.at0 n m) s:=nx ..
theorem q2d.round0(x0:List T)(x1 x2 x3:Int)(x4 x5 x6 x7 x8 x9 x10:List T):q2d.rd0 n L0 (q2d.st0 x0 x1 x2 x3 x4 x5 x6 x7 x8 x9 x10)=bif (decide (x2<(((x7.length/1):Nat):Int)))then bif inB x2 (x7.length/1)then(x7[x2.toNat*1]?).bind fun e7=>(oInt .i64 e7).bind fun n8=>bif inB n8 (x6.length/7)then(x6[(n8.toNat*7)+5]?).bind fun e9=>(oSl 1 e9).bind fun c10=>(LIM F.q1w [.rref [.sl 2 x0] 0,.sl 2 x9,.sl 1 c10]).bind fun r11=>(oNil r11.2).bind fun _=>bT r11 fun n14 n16=>bif (decide (n14<0))then bif inB x2 (x7.length/1)then(x7[x2.toNat*1]?).bind fun e17=>(oInt .i64 e17).bind fun n18=>bif Nat.ble ((x10.length+1)*8) (140737488355328*1)then L0 (q2d.st0 x0 x1 (IntKind.wrap .i64 (x2+1)) x3 x4 x5 (List.set x6 ((n8.toNat*7)+5) (.sl 1 c10)) x7 x8 x9 (x10++[.int .i64 n18]:List T))else none else none else bif inB x2 (x7.length/1)then(x7[x2.toNat*1]?).bind fun e19=>(oInt .i64 e19).bind fun n20=>(LIM F.q6n [.rref [.sl 1 x4,.sl 2 x5,.sl 7 (List.set x6 ((n8.toNat*7)+5) (.sl 1 c10)),.sl 1 x7,.sl 1 x8,.int .i64 x3] 0,.int .i64 n20]).bind fun r21=>bC r21 fun c25 c27 c29 c31 c33 n35=>(oInt .i64 r21.1).bind fun n36=>bif (n36 != 0)then some (.int .i64 n36,[.agg [.sl 1 c25,.sl 2 c27,.sl 7 c29,.sl 1 c31,.sl 1 c33,.int .i64 n35]])else L0 (q2d.st0 x0 x1 (IntKind.wrap .i64 (x2+1)) n35 c25 c27 c29 c31 c33 x9 x10)else none else none else none else bif (decide ((((x10.length/1):Nat):Int)>=12))then some (.int .i64 7,[.agg [.sl 1 x4,.sl 2 x5,.sl 7 x6,.sl 1 x7,.sl 1 x8,.int .i64 x3]])else bif Nat.ble ((x10.length+1)*8) (140737488355328*1)then some (.int .i64 0,[.agg [.sl 1 x4,.sl 2 x5,.sl 7 x6,.sl 1 (x10++[.int .i64 x1]:List T),.sl 1 x8,.int .i64 x3]])else none:=by kernel_rfl
theorem q2d.ev(a0_0 a1_0 a1_1 a1_2 a1_3 a1_4:List T)(a1_5 a2:Int):q1b prog A H LIM n F.q2d [.rref [.sl 2 a0_0] 0,.rref [.sl 1 a1_0,.sl 2 a1_1,.sl 7 a1_2,.sl 1 a1_3,.sl 1 a1_4,.int .i64 a1_5] 0,.int .i64 a2]=bif inB a2 (a1_2.length/7)then(LIM F.q2m [.rref ((a1_2.drop (a2.toNat*7)).take 7) 0]).bind fun r1=>bQ r1 fun c4 c6=>q2d.at0 n n (q2d.st0 a0_0 a2 (0:Int) a1_5 a1_0 a1_1 a1_2 a1_3 a1_4 [.sl 1 c4,.sl 1 c6] [])else none:=by kernel_rfl
def q12.st2(x0:List T)(x1 x2 x3:Int)(x4 x5 x6 x7 x8:List T):St:=⟨[(0,(.one (.t (.rref [(.sl 2 x0)] 0)))),(1,(.one (.ptr 1000000 0))),(8,oi x1),(9,oi x2)],[(1000000,(.box [(.obj 1000001),(.obj 1000002),(.obj 1000003),(.obj 1000004),(.obj 1000005),(.t (.int .i64 x3))])),(1000001,(.arr true true 1 x4)),(1000002,(.arr true true 2 x5)),(1000003,(.arr true true 7 x6)),(1000004,(.arr true true 1 x7)),(1000005,(.arr true true 1 x8))]⟩
def q12.st0(x0:List T)(x1 x2:Int)(x3 x4 x5 x6 x7:List T):St:=⟨[(0,(.one (.t (.rref [(.sl 2 x0)] 0)))),(1,(.one (.ptr 1000000 0))),(5,oi x1)],[(1000000,(.box [(.obj 1000001),(.obj 1000002),(.obj 1000003),(.obj 1000004),(.obj 1000005),(.t (.int .i64 x2))])),(1000001,(.arr true true 1 x3)),(1000002,(.arr true true 2 x4)),(1000003,(.arr true true 7 x5)),(1000004,(.arr true true 1 x6)),(1000005,(.arr true true 1 x7))]⟩
def q12.K0:=kx F.q12 n [.block 0,.seq 0 (cx F.q12 [1,1])] (q3v prog A F.q12)
def q12.at0:=lx F.q12 n 0 [1,0,1,0,0] (q12.K0 n) m s
def q12.rd0:=rx F.q12 n 0 [1,0,1,0,0] (q12.K0 n) L0 s
theorem q12.next0:q12.at0 n (m+1) s=q12.rd0 n (q12.at0 n m) s:=nx ..
def q12.K2:=kx F.q12 n [.block 2,.seq 0 (cx F.q12 [1,1,1,1])] (q3v prog A F.q12)
def q12.at2:=lx F.q12 n 2 [1,1,1,0,1,0,0] (q12.K2 n) m s
def q12.rd2:=rx F.q12 n 2 [1,1,1,0,1,0,0] (q12.K2 n) L2 s
theorem q12.next2:q12.at2 n (m+1) s=q12.rd2 n (q12.at2 n m) s:=nx ..
theorem q12.round0(x0:List T)(x1 x2:Int)(x3 x4 x5 x6 x7:List T):q12.rd0 n L0 (q12.st0 x0 x1 x2 x3 x4 x5 x6 x7)=bif (decide (x1<(((x6.length/1):Nat):Int)))then bif inB x1 (x6.length/1)then(x6[x1.toNat*1]?).bind fun e1=>(oInt .i64 e1).bind fun n2=>(LIM F.q18 [.rref [.sl 2 x0] 0,.rref [.sl 1 x3,.sl 2 x4,.sl 7 x5,.sl 1 x6,.sl 1 x7,.int .i64 x2] 0,.int .i64 n2,.int .i64 1]).bind fun r3=>bC r3 fun c7 c9 c11 c13 c15 n17=>bT r3 fun n20 n22=>bif (n22 != 0)then some (.int .i64 n22,[.agg [.sl 1 c7,.sl 2 c9,.sl 7 c11,.sl 1 c13,.sl 1 c15,.int .i64 n17]])else bif inB x1 (c13.length/1)then bif decide ((x1.toNat*1)+1<=c13.length)then L0 (q12.st0 x0 (IntKind.wrap .i64 (x1+1)) n17 c7 c9 c11 (setCells c13 (x1.toNat*1) [.int .i64 n20]) c15)else none else none else none else bif inB (IntKind.wrap .i64 ((((x6.length/1):Nat):Int)-1)) (x6.length/1)then(x6[((Int.toNat (IntKind.wrap .i64 ((((x6.length/1):Nat):Int)-1)))*1)]?).bind fun e23=>(oInt .i64 e23).bind fun n24=>q12.at2 n n (q12.st2 x0 n24 (0:Int) x2 x3 x4 x5 x6 x7)else none:=by kernel_rfl
theorem q12.round2(x0:List T)(x1 x2 x3:Int)(x4 x5 x6 x7 x8:List T):q12.rd2 n L2 (q12.st2 x0 x1 x2 x3 x4 x5 x6 x7 x8)=bif (decide (x2<(((x7.length/1):Nat):Int)))then bif ((x2==(IntKind.wrap .i64 ((((x7.length/1):Nat):Int)-1))))then(LIM F.q1i [.rref [.sl 2 x0] 0,.rref [.sl 1 x4,.sl 2 x5,.sl 7 x6,.sl 1 x7,.sl 1 x8,.int .i64 x3] 0,.int .i64 x1,.int .i64 x1,.bool true]).bind fun r25=>bC r25 fun c29 c31 c33 c35 c37 n39=>(oInt .i64 r25.1).bind fun n40=>some (.int .i64 n40,[.agg [.sl 1 c29,.sl 2 c31,.sl 7 c33,.sl 1 c35,.sl 1 c37,.int .i64 n39]])else bif inB x2 (x7.length/1)then(x7[x2.toNat*1]?).bind fun e41=>(oInt .i64 e41).bind fun n42=>(LIM F.q1i [.rref [.sl 2 x0] 0,.rref [.sl 1 x4,.sl 2 x5,.sl 7 x6,.sl 1 x7,.sl 1 x8,.int .i64 x3] 0,.int .i64 x1,.int .i64 n42,.bool false]).bind fun r43=>bC r43 fun c47 c49 c51 c53 c55 n57=>(oInt .i64 r43.1).bind fun n58=>bif (n58 != 0)then some (.int .i64 n58,[.agg [.sl 1 c47,.sl 2 c49,.sl 7 c51,.sl 1 c53,.sl 1 c55,.int .i64 n57]])else bif inB x2 (c53.length/1)then(c53[x2.toNat*1]?).bind fun e59=>(oInt .i64 e59).bind fun n60=>(LIM F.q1i [.rref [.sl 2 x0] 0,.rref [.sl 1 c47,.sl 2 c49,.sl 7 c51,.sl 1 c53,.sl 1 c55,.int .i64 n57] 0,.int .i64 n60,.int .i64 x1,.bool false]).bind fun r61=>bC r61 fun c65 c67 c69 c71 c73 n75=>(oInt .i64 r61.1).bind fun n76=>bif (n76 != 0)then some (.int .i64 n76,[.agg [.sl 1 c65,.sl 2 c67,.sl 7 c69,.sl 1 c71,.sl 1 c73,.int .i64 n75]])else L2 (q12.st2 x0 x1 (IntKind.wrap .i64 (x2+1)) n75 c65 c67 c69 c71 c73)else none else none else some (.int .i64 0,[.agg [.sl 1 x4,.sl 2 x5,.sl 7 x6,.sl 1 x7,.sl 1 x8,.int .i64 x3]]):=by kernel_rfl
theorem q12.ev(a0_0 a1_0 a1_1 a1_2 a1_3 a1_4:List T)(a1_5:Int):q1b prog A H LIM n F.q12 [.rref [.sl 2 a0_0] 0,.rref [.sl 1 a1_0,.sl 2 a1_1,.sl 7 a1_2,.sl 1 a1_3,.sl 1 a1_4,.int .i64 a1_5] 0]=q12.at0 n n (q12.st0 a0_0 (0:Int) a1_5 a1_0 a1_1 a1_2 a1_3 a1_4):=by kernel_rfl
def q35.st0(x0 x1:List T)(x2 x3:Int)(x4 x5:List T)(x6:Int)(x7 x8:List T):St:=⟨[(0,(.one (.t (.rref [(.sl 2 x0)] 0)))),(2,ol 2 x1),(6,(.one (.ptr 384 0))),(7,(.one (.ptr 448 0))),(8,oi x2)],[(384,(.box [.nil,.nil,.nil,.nil,.nil,(.t (.int .i64 x3))])),(768,(.arr true true 1 x4)),(896,(.arr true true 2 x5)),(448,(.box [(.obj 768),(.obj 896),(.obj 517170),.nil,(.obj 517172),(.t (.int .i64 x6))])),(517170,(.arr true true 7 x7)),(517172,(.arr true true 1 x8))]⟩
def q35.K0:=kx F.q35 n [.block 0,.seq 0 (cx F.q35 [1,1,1])] (q3v prog A F.q35)
def q35.at0:=lx F.q35 n 0 [1,1,0,1,0,0] (q35.K0 n) m s
def q35.rd0:=rx F.q35 n 0 [1,1,0,1,0,0] (q35.K0 n) L0 s
theorem q35.next0:q35.at0 n (m+1) s=q35.rd0 n (q35.at0 n m) s:=nx ..
theorem q35.round0(x0 x1:List T)(x2 x3:Int)(x4 x5:List T)(x6:Int)(x7 x8:List T):q35.rd0 n L0 (q35.st0 x0 x1 x2 x3 x4 x5 x6 x7 x8)=bif (decide (x2<(((x1.length/2):Nat):Int)))then(LIM F.q6r [.rref [.sl 2 x0] 0,.sl 2 x1,.sl 7 [],.agg [.int .i64 1,.int .i64 x2,.int .i64 0,.int .i64 0,.int .i64 0,.sl 1 [],.sl 1 []]]).bind fun r5=>(oNil r5.2).bind fun _=>(oTup r5.1).bind fun c6=>(q0s c6).bind fun p7=>(oAgg p7.1).bind fun c8=>(q0s c8).bind fun p9=>(oInt .i64 p9.1).bind fun n10=>(q0s p9.2).bind fun p11=>(oInt .i64 p11.1).bind fun n12=>(q0s p11.2).bind fun p13=>(oInt .i64 p13.1).bind fun n14=>(q0s p13.2).bind fun p15=>(oInt .i64 p15.1).bind fun n16=>(q0s p15.2).bind fun p17=>(oInt .i64 p17.1).bind fun n18=>(q0s p17.2).bind fun p19=>(oSl 1 p19.1).bind fun c20=>(q0s p19.2).bind fun p21=>(oSl 1 p21.1).bind fun c22=>(oNil p21.2).bind fun _=>(q0s p7.2).bind fun p23=>(oInt .i64 p23.1).bind fun n24=>(oNil p23.2).bind fun _=>bif Nat.ble ((x7.length+7)*88) (140737488355328*7)then bif Nat.ble ((x8.length+1)*8) (140737488355328*1)then L0 (q35.st0 x0 x1 (IntKind.wrap .i64 (x2+1)) x3 x4 x5 x6 (x7++[.int .i64 n10,.int .i64 n12,.int .i64 n14,.int .i64 n16,.int .i64 n18,.sl 1 c20,.sl 1 c22]:List T) (x8++[.int .i64 x2]:List T))else none else none else some (.agg [.sl 1 x4,.sl 2 x5,.sl 7 x7,.sl 1 [],.sl 1 x8,.int .i64 x6],[]):=by kernel_rfl
theorem q35.ev(a0_0 a1 a2:List T):q1b prog A H LIM n F.q35 [.rref [.sl 2 a0_0] 0,.sl 1 a1,.sl 2 a2]=(LIM F.q2u [.sl 1 a1]).bind fun r1=>bL r1 fun c2=>(LIM F.q2b [.sl 2 a2]).bind fun r3=>bM r3 fun c4=>q35.at0 n n (q35.st0 a0_0 a2 (0:Int) (0:Int) c2 c4 (0:Int) [] []):=by kernel_rfl
def q1i.st0(x0:List T)(x1 x2 x3 x4 x5:Int)(x6 x7 x8 x9 x10 x11:List T):St:=⟨[(0,(.one (.t (.rref [(.sl 2 x0)] 0)))),(1,(.one (.ptr 1000000 0))),(2,oi x1),(3,oi x2),(13,(.one (.obj 2240))),(14,oi x3),(15,oi x4)],[(1000000,(.box [(.obj 1000001),(.obj 1000002),(.obj 1000003),(.obj 1000004),(.obj 1000005),(.t (.int .i64 x5))])),(1000001,(.arr true true 1 x6)),(1000002,(.arr true true 2 x7)),(1000003,(.arr true true 7 x8)),(1000004,(.arr true true 1 x9)),(1000005,(.arr true true 1 x10)),(2240,(.arr true true 1 x11))]⟩
def q1i.K0:=kx F.q1i n [.block 0,.seq 0 (cx F.q1i [1,1,1,1,1])] (q3v prog A F.q1i)
def q1i.at0:=lx F.q1i n 0 [1,1,1,1,0,1,0,0] (q1i.K0 n) m s
def q1i.rd0:=rx F.q1i n 0 [1,1,1,1,0,1,0,0] (q1i.K0 n) L0 s
theorem q1i.next0:q1i.at0 n (m+1) s=q1i.rd0 n (q1i.at0 n m) s:=nx ..
theorem q1i.round0(x0:List T)(x1 x2 x3 x4 x5:Int)(x6 x7 x8 x9 x10 x11:List T):q1i.rd0 n L0 (q1i.st0 x0 x1 x2 x3 x4 x5 x6 x7 x8 x9 x10 x11)=bif (decide (x4<(((x11.length/1):Nat):Int)))then bif (x3==0)then bif inB x4 (x11.length/1)then(x11[x4.toNat*1]?).bind fun e19=>(oInt .i64 e19).bind fun n20=>(LIM F.q4w [.rref [.sl 2 x0] 0,.rref [.sl 1 x6,.sl 2 x7,.sl 7 x8,.sl 1 x9,.sl 1 x10,.int .i64 x5] 0,.agg [.int .i64 5,.int .i64 x1,.int .i64 x2,.int .i64 n20,.int .i64 0,.sl 1 [],.sl 1 []]]).bind fun r21=>bC r21 fun c25 c27 c29 c31 c33 n35=>bT r21 fun n38 n40=>bif (n40==0)then(LIM F.q6n [.rref [.sl 1 c25,.sl 2 c27,.sl 7 c29,.sl 1 c31,.sl 1 c33,.int .i64 n35] 0,.int .i64 n38]).bind fun r41=>bC r41 fun c45 c47 c49 c51 c53 n55=>(oInt .i64 r41.1).bind fun n56=>L0 (q1i.st0 x0 x1 x2 n56 (IntKind.wrap .i64 (x4+1)) n55 c45 c47 c49 c51 c53 x11)else L0 (q1i.st0 x0 x1 x2 n40 (IntKind.wrap .i64 (x4+1)) n35 c25 c27 c29 c31 c33 x11)else none else some (.int .i64 x3,[.agg [.sl 1 x6,.sl 2 x7,.sl 7 x8,.sl 1 x9,.sl 1 x10,.int .i64 x5]])else some (.int .i64 x3,[.agg [.sl 1 x6,.sl 2 x7,.sl 7 x8,.sl 1 x9,.sl 1 x10,.int .i64 x5]]):=by kernel_rfl
theorem q1i.ev(a0_0 a1_0 a1_1 a1_2 a1_3 a1_4:List T)(a1_5 a2 a3:Int)(a4:Bool):q1b prog A H LIM n F.q1i [.rref [.sl 2 a0_0] 0,.rref [.sl 1 a1_0,.sl 2 a1_1,.sl 7 a1_2,.sl 1 a1_3,.sl 1 a1_4,.int .i64 a1_5] 0,.int .i64 a2,.int .i64 a3,.bool a4]=bif inB a2 (a1_2.length/7)then(LIM F.q2m [.rref ((a1_2.drop (a2.toNat*7)).take 7) 0]).bind fun r1=>bQ r1 fun c4 c6=>bif inB a3 (a1_2.length/7)then(LIM F.q2m [.rref ((a1_2.drop (a3.toNat*7)).take 7) 0]).bind fun r7=>bQ r7 fun c10 c12=>(LIM F.q1e [.rref [.sl 2 a0_0] 0,.rref [.sl 1 c4,.sl 1 c6] 0,.rref [.sl 1 c10,.sl 1 c12] 0,.bool a4]).bind fun r13=>(oNil r13.2).bind fun _=>(oTup r13.1).bind fun c14=>(q0s c14).bind fun p15=>(oSl 1 p15.1).bind fun c16=>(q0s p15.2).bind fun p17=>(oInt .i64 p17.1).bind fun n18=>(oNil p17.2).bind fun _=>q1i.at0 n n (q1i.st0 a0_0 a2 a3 n18 (0:Int) a1_5 a1_0 a1_1 a1_2 a1_3 a1_4 c16)else none else none:=by kernel_rfl
end
end Ev
end
section
open Go
set_option maxRecDepth 100000
namespace Ev
noncomputable section
variable (n:Nat)(L0 L1 L2 L3 L4 L5:St->R)(m:Nat)(s:St)
def q18.st0(x0:List T)(x1 x2 x3:Int)(x4 x5 x6 x7 x8:List T):St:=⟨[(0,(.one (.t (.rref [(.sl 2 x0)] 0)))),(1,(.one (.ptr 1000000 0))),(2,oi x1),(3,oi x2)],[(1000000,(.box [(.obj 1000001),(.obj 1000002),(.obj 1000003),(.obj 1000004),(.obj 1000005),(.t (.int .i64 x3))])),(1000001,(.arr true true 1 x4)),(1000002,(.arr true true 2 x5)),(1000003,(.arr true true 7 x6)),(1000004,(.arr true true 1 x7)),(1000005,(.arr true true 1 x8))]⟩
def q18.K0:=kx F.q18 n [.block 0] (q3v prog A F.q18)
def q18.at0:=lx F.q18 n 0 [1,0,0] (q18.K0 n) m s
def q18.rd0:=rx F.q18 n 0 [1,0,0] (q18.K0 n) L0 s
theorem q18.next0:q18.at0 n (m+1) s=q18.rd0 n (q18.at0 n m) s:=nx ..
theorem q18.round0(x0:List T)(x1 x2 x3:Int)(x4 x5 x6 x7 x8:List T):q18.rd0 n L0 (q18.st0 x0 x1 x2 x3 x4 x5 x6 x7 x8)=bif inB x1 (x6.length/7)then(x6[(x1.toNat*7)+5]?).bind fun e1=>(oSl 1 e1).bind fun c2=>bif (x2==1)then bif inB x1 ((List.set x6 ((x1.toNat*7)+5) (.sl 1 c2)).length/7)then((List.set x6 ((x1.toNat*7)+5) (.sl 1 c2))[(x1.toNat*7)+6]?).bind fun e3=>(oSl 1 e3).bind fun c4=>(LIM F.q1x [.rref [.sl 1 x4,.sl 2 x5,.sl 7 (List.set (List.set x6 ((x1.toNat*7)+5) (.sl 1 c2)) ((x1.toNat*7)+6) (.sl 1 c4)),.sl 1 x7,.sl 1 x8,.int .i64 x3] 0]).bind fun r5=>bM r5 fun c6=>(LIM F.q1w [.rref [.sl 2 x0] 0,.sl 2 c6,.sl 1 c4]).bind fun r7=>(oNil r7.2).bind fun _=>bT r7 fun n10 n12=>bif (decide (n10<0))then some (.tup [.int .i64 x1,.int .i64 0],[.agg [.sl 1 x4,.sl 2 x5,.sl 7 (List.set (List.set x6 ((x1.toNat*7)+5) (.sl 1 c2)) ((x1.toNat*7)+6) (.sl 1 c4)),.sl 1 x7,.sl 1 x8,.int .i64 x3]])else bif inB n12 (x7.length/1)then(x7[n12.toNat*1]?).bind fun e13=>(oInt .i64 e13).bind fun n14=>(LIM F.q4w [.rref [.sl 2 x0] 0,.rref [.sl 1 x4,.sl 2 x5,.sl 7 (List.set (List.set x6 ((x1.toNat*7)+5) (.sl 1 c2)) ((x1.toNat*7)+6) (.sl 1 c4)),.sl 1 x7,.sl 1 x8,.int .i64 x3] 0,.agg [.int .i64 4,.int .i64 x1,.int .i64 n14,.int .i64 n10,.int .i64 x2,.sl 1 [],.sl 1 []]]).bind fun r15=>bC r15 fun c19 c21 c23 c25 c27 n29=>bT r15 fun n32 n34=>bif (n34 != 0)then some (.tup [.int .i64 0,.int .i64 n34],[.agg [.sl 1 c19,.sl 2 c21,.sl 7 c23,.sl 1 c25,.sl 1 c27,.int .i64 n29]])else L0 (q18.st0 x0 n32 x2 n29 c19 c21 c23 c25 c27)else none else none else(LIM F.q1x [.rref [.sl 1 x4,.sl 2 x5,.sl 7 (List.set x6 ((x1.toNat*7)+5) (.sl 1 c2)),.sl 1 x7,.sl 1 x8,.int .i64 x3] 0]).bind fun r35=>bM r35 fun c36=>(LIM F.q1w [.rref [.sl 2 x0] 0,.sl 2 c36,.sl 1 c2]).bind fun r37=>(oNil r37.2).bind fun _=>bT r37 fun n40 n42=>bif (decide (n40<0))then some (.tup [.int .i64 x1,.int .i64 0],[.agg [.sl 1 x4,.sl 2 x5,.sl 7 (List.set x6 ((x1.toNat*7)+5) (.sl 1 c2)),.sl 1 x7,.sl 1 x8,.int .i64 x3]])else bif inB n42 (x7.length/1)then(x7[n42.toNat*1]?).bind fun e43=>(oInt .i64 e43).bind fun n44=>(LIM F.q4w [.rref [.sl 2 x0] 0,.rref [.sl 1 x4,.sl 2 x5,.sl 7 (List.set x6 ((x1.toNat*7)+5) (.sl 1 c2)),.sl 1 x7,.sl 1 x8,.int .i64 x3] 0,.agg [.int .i64 4,.int .i64 x1,.int .i64 n44,.int .i64 n40,.int .i64 x2,.sl 1 [],.sl 1 []]]).bind fun r45=>bC r45 fun c49 c51 c53 c55 c57 n59=>bT r45 fun n62 n64=>bif (n64 != 0)then some (.tup [.int .i64 0,.int .i64 n64],[.agg [.sl 1 c49,.sl 2 c51,.sl 7 c53,.sl 1 c55,.sl 1 c57,.int .i64 n59]])else L0 (q18.st0 x0 n62 x2 n59 c49 c51 c53 c55 c57)else none else none:=by kernel_rfl
theorem q18.ev(a0_0 a1_0 a1_1 a1_2 a1_3 a1_4:List T)(a1_5 a2 a3:Int):q1b prog A H LIM n F.q18 [.rref [.sl 2 a0_0] 0,.rref [.sl 1 a1_0,.sl 2 a1_1,.sl 7 a1_2,.sl 1 a1_3,.sl 1 a1_4,.int .i64 a1_5] 0,.int .i64 a2,.int .i64 a3]=q18.at0 n n (q18.st0 a0_0 a2 a3 a1_5 a1_0 a1_1 a1_2 a1_3 a1_4):=by kernel_rfl
theorem qa6.ev(a0_0 a0_1 a0_2 a0_3 a0_4:List T)(a0_5 a1:Int):q1b prog A H LIM n F.qa6 [.rref [.sl 1 a0_0,.sl 2 a0_1,.sl 7 a0_2,.sl 1 a0_3,.sl 1 a0_4,.int .i64 a0_5] 0,.int .i64 a1]=bif inB a1 (a0_3.length/1)then(a0_3[a1.toNat*1]?).bind fun e1=>(oInt .i64 e1).bind fun n2=>bif inB n2 (a0_2.length/7)then(LIM F.q2m [.rref ((a0_2.drop (n2.toNat*7)).take 7) 0]).bind fun r3=>bQ r3 fun c6 c8=>some (.agg [.sl 1 c6,.sl 1 c8],[])else none else none:=by kernel_rfl
def q1x.st0(x0 x1 x2 x3 x4:List T)(x5 x6:Int)(x7:List T):St:=⟨[(0,(.one (.t (.rref [(.sl 1 x0),(.sl 2 x1),(.sl 7 x2),(.sl 1 x3),(.sl 1 x4),(.int .i64 x5)] 0)))),(3,(.one (.obj 320))),(4,oi x6)],[(320,(.arr true true 2 x7))]⟩
def q1x.K0:=kx F.q1x n [.block 0,.seq 0 (cx F.q1x [1,1,1])] (q3v prog A F.q1x)
def q1x.at0:=lx F.q1x n 0 [1,1,0,1,0,0] (q1x.K0 n) m s
def q1x.rd0:=rx F.q1x n 0 [1,1,0,1,0,0] (q1x.K0 n) L0 s
theorem q1x.next0:q1x.at0 n (m+1) s=q1x.rd0 n (q1x.at0 n m) s:=nx ..
theorem q1x.round0(x0 x1 x2 x3 x4:List T)(x5 x6:Int)(x7:List T):q1x.rd0 n L0 (q1x.st0 x0 x1 x2 x3 x4 x5 x6 x7)=bif (decide (x6<(((x3.length/1):Nat):Int)))then(LIM F.qa6 [.rref [.sl 1 x0,.sl 2 x1,.sl 7 x2,.sl 1 x3,.sl 1 x4,.int .i64 x5] 0,.int .i64 x6]).bind fun r1=>bQ r1 fun c4 c6=>bif Nat.ble ((x7.length+2)*48) (140737488355328*2)then L0 (q1x.st0 x0 x1 x2 x3 x4 x5 (IntKind.wrap .i64 (x6+1)) (x7++[.sl 1 c4,.sl 1 c6]:List T))else none else some (.sl 2 x7,[]):=by kernel_rfl
theorem q1x.ev(a0_0 a0_1 a0_2 a0_3 a0_4:List T)(a0_5:Int):q1b prog A H LIM n F.q1x [.rref [.sl 1 a0_0,.sl 2 a0_1,.sl 7 a0_2,.sl 1 a0_3,.sl 1 a0_4,.int .i64 a0_5] 0]=q1x.at0 n n (q1x.st0 a0_0 a0_1 a0_2 a0_3 a0_4 a0_5 (0:Int) []):=by kernel_rfl
theorem q84.ev(a0_0 a1_0 a1_1 a1_2 a1_3 a1_4:List T)(a1_5:Int):q1b prog A H LIM n F.q84 [.rref [.sl 2 a0_0] 0,.rref [.sl 1 a1_0,.sl 2 a1_1,.sl 7 a1_2,.sl 1 a1_3,.sl 1 a1_4,.int .i64 a1_5] 0]=bif (((((a1_4.length/1):Nat):Int)==0))then some (.int .i64 4,[.agg [.sl 1 a1_0,.sl 2 a1_1,.sl 7 a1_2,.sl 1 a1_3,.sl 1 a1_4,.int .i64 a1_5]])else bif (decide (a1_5>=150))then some (.int .i64 9,[.agg [.sl 1 a1_0,.sl 2 a1_1,.sl 7 a1_2,.sl 1 a1_3,.sl 1 a1_4,.int .i64 a1_5]])else bif inB (0:Int) (a1_4.length/1)then(a1_4[0]?).bind fun e1=>(oInt .i64 e1).bind fun n2=>bif decide (0<=(1:Int))&&decide ((1:Int)<=(((a1_4.length/1):Nat):Int))&&decide ((((a1_4.length/1):Nat):Int)<=(((a1_4.length/1):Nat):Int))then(LIM F.q2u [(.sl 1 ((a1_4.take ((Int.toNat (((a1_4.length/1):Nat):Int))*1)).drop (1*1)))]).bind fun r3=>bL r3 fun c4=>(LIM F.q18 [.rref [.sl 2 a0_0] 0,.rref [.sl 1 a1_0,.sl 2 a1_1,.sl 7 a1_2,.sl 1 a1_3,.sl 1 c4,.int .i64 (IntKind.wrap .i64 (a1_5+1))] 0,.int .i64 n2,.int .i64 0]).bind fun r5=>bC r5 fun c9 c11 c13 c15 c17 n19=>bT r5 fun n22 n24=>bif (n24 != 0)then some (.int .i64 n24,[.agg [.sl 1 c9,.sl 2 c11,.sl 7 c13,.sl 1 c15,.sl 1 c17,.int .i64 n19]])else(LIM F.q18 [.rref [.sl 2 a0_0] 0,.rref [.sl 1 c9,.sl 2 c11,.sl 7 c13,.sl 1 c15,.sl 1 c17,.int .i64 n19] 0,.int .i64 n22,.int .i64 1]).bind fun r25=>bC r25 fun c29 c31 c33 c35 c37 n39=>bT r25 fun n42 n44=>bif (n44 != 0)then some (.int .i64 n44,[.agg [.sl 1 c29,.sl 2 c31,.sl 7 c33,.sl 1 c35,.sl 1 c37,.int .i64 n39]])else bif inB n42 (c33.length/7)then(c33[(n42.toNat*7)+5]?).bind fun e45=>(oSl 1 e45).bind fun c46=>bif inB n42 (c33.length/7)then(c33[(n42.toNat*7)+6]?).bind fun e47=>(oSl 1 e47).bind fun c48=>(LIM F.q1r [.sl 1 c46,.sl 1 c48]).bind fun r49=>bB r49 fun b50=>bif b50 then some (.int .i64 0,[.agg [.sl 1 c29,.sl 2 c31,.sl 7 c33,.sl 1 c35,.sl 1 c37,.int .i64 n39]])else(LIM F.q85 [.rref [.sl 2 a0_0] 0,.rref [.sl 1 c29,.sl 2 c31,.sl 7 c33,.sl 1 c35,.sl 1 c37,.int .i64 n39] 0,.int .i64 n42]).bind fun r51=>bC r51 fun c55 c57 c59 c61 c63 n65=>bT r51 fun n68 n70=>bif (n70 != 0)then some (.int .i64 n70,[.agg [.sl 1 c55,.sl 2 c57,.sl 7 c59,.sl 1 c61,.sl 1 c63,.int .i64 n65]])else(LIM F.q2d [.rref [.sl 2 a0_0] 0,.rref [.sl 1 c55,.sl 2 c57,.sl 7 c59,.sl 1 c61,.sl 1 c63,.int .i64 n65] 0,.int .i64 n68]).bind fun r71=>bC r71 fun c75 c77 c79 c81 c83 n85=>(oInt .i64 r71.1).bind fun n86=>bif (n86 != 0)then some (.int .i64 n86,[.agg [.sl 1 c75,.sl 2 c77,.sl 7 c79,.sl 1 c81,.sl 1 c83,.int .i64 n85]])else(LIM F.q12 [.rref [.sl 2 a0_0] 0,.rref [.sl 1 c75,.sl 2 c77,.sl 7 c79,.sl 1 c81,.sl 1 c83,.int .i64 n85] 0]).bind fun r87=>bC r87 fun c91 c93 c95 c97 c99 n101=>(oInt .i64 r87.1).bind fun n102=>some (.int .i64 n102,[.agg [.sl 1 c91,.sl 2 c93,.sl 7 c95,.sl 1 c97,.sl 1 c99,.int .i64 n101]])else none else none else none else none:=by kernel_rfl
theorem q85.ev(a0_0 a1_0 a1_1 a1_2 a1_3 a1_4:List T)(a1_5 a2:Int):q1b prog A H LIM n F.q85 [.rref [.sl 2 a0_0] 0,.rref [.sl 1 a1_0,.sl 2 a1_1,.sl 7 a1_2,.sl 1 a1_3,.sl 1 a1_4,.int .i64 a1_5] 0,.int .i64 a2]=bif inB a2 (a1_2.length/7)then(LIM F.q2m [.rref ((a1_2.drop (a2.toNat*7)).take 7) 0]).bind fun r1=>bQ r1 fun c4 c6=>(LIM F.q6o [.rref [.sl 2 a0_0] 0,.sl 1 a1_0,.sl 1 c4,.sl 1 c6]).bind fun r7=>bI r7 fun n8=>bif (n8==2)then(LIM F.q4w [.rref [.sl 2 a0_0] 0,.rref [.sl 1 a1_0,.sl 2 a1_1,.sl 7 a1_2,.sl 1 a1_3,.sl 1 a1_4,.int .i64 a1_5] 0,.agg [.int .i64 2,.int .i64 a2,.int .i64 0,.int .i64 0,.int .i64 0,.sl 1 [],.sl 1 []]]).bind fun r9=>bC r9 fun c13 c15 c17 c19 c21 n23=>bT r9 fun n26 n28=>bif (n28 != 0)then some (.tup [.int .i64 0,.int .i64 n28],[.agg [.sl 1 c13,.sl 2 c15,.sl 7 c17,.sl 1 c19,.sl 1 c21,.int .i64 n23]])else bif inB n26 (c17.length/7)then(LIM F.q2m [.rref ((c17.drop (n26.toNat*7)).take 7) 0]).bind fun r29=>bQ r29 fun c32 c34=>(LIM F.q1m [.rref [.sl 1 c32,.sl 1 c34] 0]).bind fun r35=>(oNil r35.2).bind fun _=>(oTup r35.1).bind fun c36=>(q0s c36).bind fun p37=>(oAgg p37.1).bind fun c38=>(q0s c38).bind fun p39=>(oSl 1 p39.1).bind fun c40=>(q0s p39.2).bind fun p41=>(oSl 1 p41.1).bind fun c42=>(oNil p41.2).bind fun _=>(q0s p37.2).bind fun p43=>(q82 p43.1).bind fun b44=>(oNil p43.2).bind fun _=>(LIM F.q88 [.rref [.sl 1 c40,.sl 1 c42] 0,.rref [.sl 1 c32,.sl 1 c34] 0]).bind fun r45=>bB r45 fun b46=>bif b46 then some (.tup [.int .i64 n26,.int .i64 0],[.agg [.sl 1 c13,.sl 2 c15,.sl 7 c17,.sl 1 c19,.sl 1 c21,.int .i64 n23]])else(LIM F.q4w [.rref [.sl 2 a0_0] 0,.rref [.sl 1 c13,.sl 2 c15,.sl 7 c17,.sl 1 c19,.sl 1 c21,.int .i64 n23] 0,.agg [.int .i64 3,.int .i64 n26,.int .i64 0,.int .i64 0,.int .i64 0,.sl 1 [],.sl 1 []]]).bind fun r47=>bC r47 fun c51 c53 c55 c57 c59 n61=>bT r47 fun n64 n66=>some (.tup [.int .i64 n64,.int .i64 n66],[.agg [.sl 1 c51,.sl 2 c53,.sl 7 c55,.sl 1 c57,.sl 1 c59,.int .i64 n61]])else none else bif (n8==0)then some (.tup [.int .i64 0,.int .i64 10],[.agg [.sl 1 a1_0,.sl 2 a1_1,.sl 7 a1_2,.sl 1 a1_3,.sl 1 a1_4,.int .i64 a1_5]])else bif inB a2 (a1_2.length/7)then(LIM F.q2m [.rref ((a1_2.drop (a2.toNat*7)).take 7) 0]).bind fun r67=>bQ r67 fun c70 c72=>(LIM F.q1m [.rref [.sl 1 c70,.sl 1 c72] 0]).bind fun r73=>(oNil r73.2).bind fun _=>(oTup r73.1).bind fun c74=>(q0s c74).bind fun p75=>(oAgg p75.1).bind fun c76=>(q0s c76).bind fun p77=>(oSl 1 p77.1).bind fun c78=>(q0s p77.2).bind fun p79=>(oSl 1 p79.1).bind fun c80=>(oNil p79.2).bind fun _=>(q0s p75.2).bind fun p81=>(q82 p81.1).bind fun b82=>(oNil p81.2).bind fun _=>(LIM F.q88 [.rref [.sl 1 c78,.sl 1 c80] 0,.rref [.sl 1 c70,.sl 1 c72] 0]).bind fun r83=>bB r83 fun b84=>bif b84 then some (.tup [.int .i64 a2,.int .i64 0],[.agg [.sl 1 a1_0,.sl 2 a1_1,.sl 7 a1_2,.sl 1 a1_3,.sl 1 a1_4,.int .i64 a1_5]])else(LIM F.q4w [.rref [.sl 2 a0_0] 0,.rref [.sl 1 a1_0,.sl 2 a1_1,.sl 7 a1_2,.sl 1 a1_3,.sl 1 a1_4,.int .i64 a1_5] 0,.agg [.int .i64 3,.int .i64 a2,.int .i64 0,.int .i64 0,.int .i64 0,.sl 1 [],.sl 1 []]]).bind fun r85=>bC r85 fun c89 c91 c93 c95 c97 n99=>bT r85 fun n102 n104=>some (.tup [.int .i64 n102,.int .i64 n104],[.agg [.sl 1 c89,.sl 2 c91,.sl 7 c93,.sl 1 c95,.sl 1 c97,.int .i64 n99]])else none else none:=by kernel_rfl
theorem q6n.ev(a0_0 a0_1 a0_2 a0_3 a0_4:List T)(a0_5 a1:Int):q1b prog A H LIM n F.q6n [.rref [.sl 1 a0_0,.sl 2 a0_1,.sl 7 a0_2,.sl 1 a0_3,.sl 1 a0_4,.int .i64 a0_5] 0,.int .i64 a1]=bif (decide ((((a0_4.length/1):Nat):Int)>=100))then some (.int .i64 7,[.agg [.sl 1 a0_0,.sl 2 a0_1,.sl 7 a0_2,.sl 1 a0_3,.sl 1 a0_4,.int .i64 a0_5]])else bif Nat.ble ((a0_4.length+1)*8) (140737488355328*1)then some (.int .i64 0,[.agg [.sl 1 a0_0,.sl 2 a0_1,.sl 7 a0_2,.sl 1 a0_3,.sl 1 (a0_4++[.int .i64 a1]:List T),.int .i64 a0_5]])else none:=by kernel_rfl
theorem q3u.ev(a0_0:List T)(a0_1 a1:Int):q1b prog A H LIM n F.q3u [.rref [.sl 1 a0_0,.int .i64 a0_1] 0,.int .i64 a1]=(LIM F.q30 [.rref [.sl 1 a0_0,.int .i64 a0_1] 0,.int .i64 a1]).bind fun r1=>bS r1 fun c5 n7=>(oInt .i64 r1.1).bind fun n8=>some (.bool (n8==0),[.agg [.sl 1 a0_0,.int .i64 n7]]):=by kernel_rfl
def q34.st0(x0:ByteArray)(x1 x2 x3:Int)(x4:List T):St:=⟨[(0,(.one (.t (.str x0)))),(1,(.one (.t (.int .u8 x1)))),(5,(.one (.obj 512))),(6,oi x2),(7,oi x3)],[(512,(.arr true true 1 x4))]⟩
def q34.K0:=kx F.q34 n [.block 0,.seq 0 (cx F.q34 [1,1,1,1])] (q3v prog A F.q34)
def q34.at0:=lx F.q34 n 0 [1,1,1,0,1,0,0] (q34.K0 n) m s
def q34.rd0:=rx F.q34 n 0 [1,1,1,0,1,0,0] (q34.K0 n) L0 s
theorem q34.next0:q34.at0 n (m+1) s=q34.rd0 n (q34.at0 n m) s:=nx ..
theorem q34.round0(x0:ByteArray)(x1 x2 x3:Int)(x4:List T):q34.rd0 n L0 (q34.st0 x0 x1 x2 x3 x4)=bif (decide (x3<=(x0.size:Int)))then bif (x3==(x0.size:Int))then bif decide (0<=x2)&&decide (x2<=x3)&&decide (x3<=(x0.size:Int))then bif Nat.ble ((x4.length+1)*16) (140737488355328*1)then L0 (q34.st0 x0 x1 (IntKind.wrap .i64 (x3+1)) (IntKind.wrap .i64 (x3+1)) (x4++[.str (x0.extract x2.toNat x3.toNat)]:List T))else none else none else bif inB x3 x0.size then bif ((((x0.data.getD x3.toNat 0).toNat:Int)==x1))then bif decide (0<=x2)&&decide (x2<=x3)&&decide (x3<=(x0.size:Int))then bif Nat.ble ((x4.length+1)*16) (140737488355328*1)then L0 (q34.st0 x0 x1 (IntKind.wrap .i64 (x3+1)) (IntKind.wrap .i64 (x3+1)) (x4++[.str (x0.extract x2.toNat x3.toNat)]:List T))else none else none else L0 (q34.st0 x0 x1 x2 (IntKind.wrap .i64 (x3+1)) x4)else none else some (.sl 1 x4,[]):=by kernel_rfl
theorem q34.ev(a0:ByteArray)(a1:Int):q1b prog A H LIM n F.q34 [.str a0,.int .u8 a1]=q34.at0 n n (q34.st0 a0 a1 (0:Int) (0:Int) []):=by kernel_rfl
theorem q1q.ev(a0 a1 a2:Int):q1b prog A H LIM n F.q1q [.int .i64 a0,.int .i64 a1,.int .i64 a2]=bif (decide (a0>=a1))then some (.bool (decide (a0<=a2)),[])else some (.bool false,[]):=by kernel_rfl
theorem q2u.ev(a0:List T):q1b prog A H LIM n F.q2u [.sl 1 a0]=bif a0.all T.scalar then bif Nat.ble ((0+a0.length)*8) (140737488355328*1)then some (.sl 1 a0,[])else none else none:=by kernel_rfl
theorem q30.ev(a0_0:List T)(a0_1 a1:Int):q1b prog A H LIM n F.q30 [.rref [.sl 1 a0_0,.int .i64 a0_1] 0,.int .i64 a1]=bif (decide (a1<1))then some (.int .i64 0,[.agg [.sl 1 a0_0,.int .i64 (IntKind.wrap .i64 (a0_1+1))]])else bif (((((a0_0.length/1):Nat):Int)==0))then bif decide (a1=0)then none else some (.int .i64 (Int.tmod (IntKind.wrap .i64 ((IntKind.wrap .i64 ((IntKind.wrap .i64 (a0_1+1))-1))*7)) a1),[.agg [.sl 1 a0_0,.int .i64 (IntKind.wrap .i64 (a0_1+1))]])else bif decide ((((a0_0.length/1):Nat):Int)=0)then none else bif inB (Int.tmod (IntKind.wrap .i64 ((IntKind.wrap .i64 (a0_1+1))-1)) (((a0_0.length/1):Nat):Int)) (a0_0.length/1)then(a0_0[((Int.toNat (Int.tmod (IntKind.wrap .i64 ((IntKind.wrap .i64 (a0_1+1))-1)) (((a0_0.length/1):Nat):Int)))*1)]?).bind fun e1=>(oInt .u8 e1).bind fun n2=>bif decide ((((a0_0.length/1):Nat):Int)=0)then none else bif (decide (a1>200))then bif decide ((((a0_0.length/1):Nat):Int)=0)then none else bif inB (Int.tmod (IntKind.wrap .i64 ((IntKind.wrap .i64 ((IntKind.wrap .i64 (a0_1+1))-1))+1)) (((a0_0.length/1):Nat):Int)) (a0_0.length/1)then(a0_0[((Int.toNat (Int.tmod (IntKind.wrap .i64 ((IntKind.wrap .i64 ((IntKind.wrap .i64 (a0_1+1))-1))+1)) (((a0_0.length/1):Nat):Int)))*1)]?).bind fun e3=>(oInt .u8 e3).bind fun n4=>bif decide (a1=0)then none else some ((.int .i64 (Int.tmod (IntKind.wrap .i64 ((IntKind.wrap .i64 ((IntKind.wrap .i64 ((IntKind.wrap .i64 ((IntKind.wrap .i64 n2)+(IntKind.wrap .i64 ((IntKind.wrap .i64 (Int.tdiv (IntKind.wrap .i64 ((IntKind.wrap .i64 (a0_1+1))-1)) (((a0_0.length/1):Nat):Int)))*37))))*251))+(IntKind.wrap .i64 ((IntKind.wrap .i64 n4)*13))))+(IntKind.wrap .i64 ((IntKind.wrap .i64 (a0_1+1))-1)))) a1)),[.agg [.sl 1 a0_0,.int .i64 (IntKind.wrap .i64 (a0_1+1))]])else none else bif decide (a1=0)then none else some ((.int .i64 (Int.tmod (IntKind.wrap .i64 ((IntKind.wrap .i64 n2)+(IntKind.wrap .i64 ((IntKind.wrap .i64 (Int.tdiv (IntKind.wrap .i64 ((IntKind.wrap .i64 (a0_1+1))-1)) (((a0_0.length/1):Nat):Int)))*37)))) a1)),[.agg [.sl 1 a0_0,.int .i64 (IntKind.wrap .i64 (a0_1+1))]])else none:=by kernel_rfl
theorem q45.ev(a0_0:List T)(a0_1:Int)(a1:List T):q1b prog A H LIM n F.q45 [.rref [.sl 1 a0_0,.int .i64 a0_1] 0,.sl 1 a1]=(LIM F.q30 [.rref [.sl 1 a0_0,.int .i64 a0_1] 0,(.int .i64 (((a1.length/1):Nat):Int))]).bind fun r1=>bS r1 fun c5 n7=>(oInt .i64 r1.1).bind fun n8=>bif inB n8 (a1.length/1)then(a1[n8.toNat*1]?).bind fun e9=>(oInt .i64 e9).bind fun n10=>some (.int .i64 n10,[.agg [.sl 1 a0_0,.int .i64 n7]])else none:=by kernel_rfl
def q1r.st0(x0 x1:List T)(x2:Int):St:=⟨[(0,ol 1 x0),(1,ol 1 x1),(5,oi x2)],[]⟩
def q1r.K0:=kx F.q1r n [.block 0,.seq 0 (cx F.q1r [1,1,1])] (q3v prog A F.q1r)
def q1r.at0:=lx F.q1r n 0 [1,1,0,1,0,0] (q1r.K0 n) m s
def q1r.rd0:=rx F.q1r n 0 [1,1,0,1,0,0] (q1r.K0 n) L0 s
theorem q1r.next0:q1r.at0 n (m+1) s=q1r.rd0 n (q1r.at0 n m) s:=nx ..
theorem q1r.round0(x0 x1:List T)(x2:Int):q1r.rd0 n L0 (q1r.st0 x0 x1 x2)=bif (decide (x2<(((x0.length/1):Nat):Int)))then bif inB x2 (x0.length/1)then(x0[x2.toNat*1]?).bind fun e1=>(oInt .i64 e1).bind fun n2=>bif inB x2 (x1.length/1)then(x1[x2.toNat*1]?).bind fun e3=>(oInt .i64 e3).bind fun n4=>bif (n2 != n4)then some (.bool false,[])else L0 (q1r.st0 x0 x1 (IntKind.wrap .i64 (x2+1)))else none else none else some (.bool true,[]):=by kernel_rfl
theorem q1r.ev(a0 a1:List T):q1b prog A H LIM n F.q1r [.sl 1 a0,.sl 1 a1]=bif (((((a0.length/1):Nat):Int) != (((a1.length/1):Nat):Int)))then some (.bool false,[])else q1r.at0 n n (q1r.st0 a0 a1 (0:Int)):=by kernel_rfl
theorem q7j.ev(a0:List T):q1b prog A H LIM n F.q7j [.sl 1 a0]=some (.bx [.sl 1 a0,.int .i64 0],[]):=by kernel_rfl
theorem q5t.ev(a0_0:List T)(a0_1:Int)(a1_0:List T):q1b prog A H LIM n F.q5t [.rref [.sl 1 a0_0,.int .i64 a0_1] 0,.agg [.sl 2 a1_0]]=(LIM F.q16 [.rref [.sl 1 a0_0,.int .i64 a0_1] 0,.agg [.sl 2 a1_0]]).bind fun r1=>bS r1 fun c5 n7=>(oSl 1 r1.1).bind fun c8=>bif (decide ((((c8.length/1):Nat):Int)<1))then some (.sl 1 c8,[.agg [.sl 1 a0_0,.int .i64 n7]])else(LIM F.q3u [.rref [.sl 1 a0_0,.int .i64 n7] 0,.int .i64 10]).bind fun r9=>bS r9 fun c13 n15=>(q82 r9.1).bind fun b16=>bif (!b16)then some (.sl 1 c8,[.agg [.sl 1 a0_0,.int .i64 n15]])else(LIM F.q30 [.rref [.sl 1 a0_0,.int .i64 n15] 0,.int .i64 3]).bind fun r17=>bS r17 fun c21 n23=>(oInt .i64 r17.1).bind fun n24=>bif (n24==0)then bif decide (0<=(1:Int))&&decide ((1:Int)<=(((c8.length/1):Nat):Int))&&decide ((((c8.length/1):Nat):Int)<=(((c8.length/1):Nat):Int))then some ((.sl 1 ((c8.take ((Int.toNat (((c8.length/1):Nat):Int))*1)).drop (1*1))),[.agg [.sl 1 a0_0,.int .i64 n23]])else none else bif (n24==1)then(LIM F.q45 [.rref [.sl 1 a0_0,.int .i64 n23] 0,.sl 1 [.int .i64 6,.int .i64 (-1)]]).bind fun r25=>bS r25 fun c29 n31=>(oInt .i64 r25.1).bind fun n32=>bif inB (0:Int) (c8.length/1)then bif decide (0+1<=c8.length)then some (.sl 1 (setCells c8 0 [.int .i64 n32]),[.agg [.sl 1 a0_0,.int .i64 n31]])else none else none else bif inB (IntKind.wrap .i64 ((((c8.length/1):Nat):Int)-1)) (c8.length/1)then(c8[((Int.toNat (IntKind.wrap .i64 ((((c8.length/1):Nat):Int)-1)))*1)]?).bind fun e33=>(oInt .i64 e33).bind fun n34=>bif inB (0:Int) (c8.length/1)then bif decide (0+1<=c8.length)then some (.sl 1 (setCells c8 0 [.int .i64 n34]),[.agg [.sl 1 a0_0,.int .i64 n23]])else none else none else none:=by kernel_rfl
def q16.st0(x0:Int)(x1:List T)(x2:Int)(x3:List T):St:=⟨[(0,(.one (.ptr 1000000 0))),(5,(.one (.obj 768))),(6,oi x0)],[(1000000,(.box [(.kept 0 (.sl 1 x1)),(.t (.int .i64 x2))])),(768,(.arr true true 1 x3))]⟩
def q16.K0:=kx F.q16 n [.block 0,.seq 0 (cx F.q16 [1,1,1])] (q3v prog A F.q16)
def q16.at0:=lx F.q16 n 0 [1,1,0,1,0,0] (q16.K0 n) m s
def q16.rd0:=rx F.q16 n 0 [1,1,0,1,0,0] (q16.K0 n) L0 s
theorem q16.next0:q16.at0 n (m+1) s=q16.rd0 n (q16.at0 n m) s:=nx ..
theorem q16.round0(x0:Int)(x1:List T)(x2:Int)(x3:List T):q16.rd0 n L0 (q16.st0 x0 x1 x2 x3)=bif (decide (x0>0))then bif (decide ((((x3.length/1):Nat):Int)>1))then(LIM F.q30 [.rref [.sl 1 x1,.int .i64 x2] 0,(.int .i64 (IntKind.wrap .i64 ((((x3.length/1):Nat):Int)-1)))]).bind fun r11=>bS r11 fun c15 n17=>(oInt .i64 r11.1).bind fun n18=>bif inB n18 (x3.length/1)then(x3[n18.toNat*1]?).bind fun e19=>(oInt .i64 e19).bind fun n20=>bif inB (IntKind.wrap .i64 (n18+1)) (x3.length/1)then(x3[(Int.toNat (IntKind.wrap .i64 (n18+1)))*1]?).bind fun e21=>(oInt .i64 e21).bind fun n22=>bif inB n18 (x3.length/1)then bif decide ((n18.toNat*1)+1<=x3.length)then bif inB (IntKind.wrap .i64 (n18+1)) ((setCells x3 (n18.toNat*1) [.int .i64 n22]).length/1)then bif decide (((Int.toNat (IntKind.wrap .i64 (n18+1)))*1)+1<=(setCells x3 (n18.toNat*1) [.int .i64 n22]).length)then L0 (q16.st0 (IntKind.wrap .i64 (x0-1)) x1 n17 (setCells (setCells x3 (n18.toNat*1) [.int .i64 n22]) ((Int.toNat (IntKind.wrap .i64 (n18+1)))*1) [.int .i64 n20]))else none else none else none else none else none else none else some (.sl 1 x3,[.agg [.sl 1 x1,.int .i64 x2]])else some (.sl 1 x3,[.agg [.sl 1 x1,.int .i64 x2]]):=by kernel_rfl
theorem q16.ev(a0_0:List T)(a0_1:Int)(a1_0:List T):q1b prog A H LIM n F.q16 [.rref [.sl 1 a0_0,.int .i64 a0_1] 0,.agg [.sl 2 a1_0]]=(LIM F.q39 [(.int .i64 (((a1_0.length/2):Nat):Int))]).bind fun r1=>bL r1 fun c2=>(LIM F.q30 [.rref [.sl 1 a0_0,.int .i64 a0_1] 0,.int .i64 4]).bind fun r3=>bS r3 fun c7 n9=>(oInt .i64 r3.1).bind fun n10=>q16.at0 n n (q16.st0 n10 a0_0 n9 c2):=by kernel_rfl
def q2k.st0(x0:List T)(x1:ByteArray)(x2:Int):St:=⟨[(0,(.one (.t (.rref [(.sl 2 x0)] 0)))),(1,(.one (.t (.str x1)))),(5,oi x2)],[]⟩
def q2k.K0:=kx F.q2k n [.block 0,.seq 0 (cx F.q2k [1,1])] (q3v prog A F.q2k)
def q2k.at0:=lx F.q2k n 0 [1,0,1,0,0] (q2k.K0 n) m s
def q2k.rd0:=rx F.q2k n 0 [1,0,1,0,0] (q2k.K0 n) L0 s
theorem q2k.next0:q2k.at0 n (m+1) s=q2k.rd0 n (q2k.at0 n m) s:=nx ..
theorem q2k.round0(x0:List T)(x1:ByteArray)(x2:Int):q2k.rd0 n L0 (q2k.st0 x0 x1 x2)=bif (decide (x2<(((x0.length/2):Nat):Int)))then bif inB x2 (x0.length/2)then(x0[x2.toNat*2]?).bind fun e1=>(oStr e1).bind fun s2=>bif (s2.toList==x1.toList)then some (.int .i64 x2,[])else L0 (q2k.st0 x0 x1 (IntKind.wrap .i64 (x2+1)))else none else some (.int .i64 (-1),[]):=by kernel_rfl
theorem q2k.ev(a0_0:List T)(a1:ByteArray):q1b prog A H LIM n F.q2k [.rref [.sl 2 a0_0] 0,.str a1]=q2k.at0 n n (q2k.st0 a0_0 a1 (0:Int)):=by kernel_rfl
def q3a.st0(x0:ByteArray)(x1:Int):St:=⟨[(0,(.one (.t (.str x0)))),(3,oi x1)],[]⟩
def q3a.K0:=kx F.q3a n [.block 0,.seq 0 (cx F.q3a [1,1,1])] (q3v prog A F.q3a)
def q3a.at0:=lx F.q3a n 0 [1,1,0,1,0,0] (q3a.K0 n) m s
def q3a.rd0:=rx F.q3a n 0 [1,1,0,1,0,0] (q3a.K0 n) L0 s
theorem q3a.next0:q3a.at0 n (m+1) s=q3a.rd0 n (q3a.at0 n m) s:=nx ..
theorem q3a.round0(x0:ByteArray)(x1:Int):q3a.rd0 n L0 (q3a.st0 x0 x1)=bif (decide (x1<(x0.size:Int)))then bif inB x1 x0.size then bif (decide (((x0.data.getD x1.toNat 0).toNat:Int)<97))then some (.bool false,[])else bif inB x1 x0.size then bif (decide (((x0.data.getD x1.toNat 0).toNat:Int)>122))then some (.bool false,[])else L0 (q3a.st0 x0 (IntKind.wrap .i64 (x1+1)))else none else none else some (.bool true,[]):=by kernel_rfl
theorem q3a.ev(a0:ByteArray):q1b prog A H LIM n F.q3a [.str a0]=bif (decide ((a0.size:Int)<1))then some (.bool false,[])else bif (decide ((a0.size:Int)>3))then some (.bool false,[])else q3a.at0 n n (q3a.st0 a0 (0:Int)):=by kernel_rfl
def q0m.st4(x0:List T)(x1 x2:Int):St:=⟨[(1,ol 1 x0),(6,oi x1),(7,oi x2)],[]⟩
def q0m.st2(x0:List T)(x1:Int):St:=⟨[(1,ol 1 x0),(6,oi x1)],[]⟩
def q0m.st0(x0 x1:List T)(x2:Int):St:=⟨[(0,(.one (.t (.rref [(.sl 2 x0)] 0)))),(1,ol 1 x1),(5,oi x2)],[]⟩
def q0m.K0:=kx F.q0m n [.block 0,.seq 0 (cx F.q0m [1,1,1])] (q3v prog A F.q0m)
def q0m.at0:=lx F.q0m n 0 [1,1,0,1,0,0] (q0m.K0 n) m s
def q0m.rd0:=rx F.q0m n 0 [1,1,0,1,0,0] (q0m.K0 n) L0 s
theorem q0m.next0:q0m.at0 n (m+1) s=q0m.rd0 n (q0m.at0 n m) s:=nx ..
def q0m.K2:=kx F.q0m n [.block 2,.seq 0 (cx F.q0m [1,1,1,1])] (q3v prog A F.q0m)
def q0m.at2:=lx F.q0m n 2 [1,1,1,0,1,0,0] (q0m.K2 n) m s
def q0m.rd2:=rx F.q0m n 2 [1,1,1,0,1,0,0] (q0m.K2 n) L2 s
theorem q0m.next2:q0m.at2 n (m+1) s=q0m.rd2 n (q0m.at2 n m) s:=nx ..
def q0m.K4:=kx F.q0m n [.block 4,.block 3,.seq 2 (cx F.q0m [1,1,1,0,1,0,0,1,1])] (bx F.q0m 2 (q0m.K2 n) L2)
def q0m.at4:=lx F.q0m n 4 [1,1,1,0,1,0,0,1,0,0,1,0,0] (q0m.K4 n L2) m s
def q0m.rd4:=rx F.q0m n 4 [1,1,1,0,1,0,0,1,0,0,1,0,0] (q0m.K4 n L2) L4 s
theorem q0m.next4:q0m.at4 n L2 (m+1) s=q0m.rd4 n L2 (q0m.at4 n L2 m) s:=nx ..
theorem q0m.round0(x0 x1:List T)(x2:Int):q0m.rd0 n L0 (q0m.st0 x0 x1 x2)=bif (decide (x2<(((x1.length/1):Nat):Int)))then bif inB x2 (x1.length/1)then(x1[x2.toNat*1]?).bind fun e1=>(oInt .i64 e1).bind fun n2=>(LIM F.q63 [.rref [.sl 2 x0] 0,.int .i64 n2]).bind fun r3=>bB r3 fun b4=>bif (!b4)then some (.int .i64 3,[])else L0 (q0m.st0 x0 x1 (IntKind.wrap .i64 (x2+1)))else none else q0m.at2 n n (q0m.st2 x1 (0:Int)):=by kernel_rfl
theorem q0m.round2(x0:List T)(x1:Int):q0m.rd2 n L2 (q0m.st2 x0 x1)=bif (decide (x1<(((x0.length/1):Nat):Int)))then q0m.at4 n L2 n (q0m.st4 x0 x1 (0:Int))else some (.int .i64 0,[]):=by kernel_rfl
theorem q0m.round4(x0:List T)(x1 x2:Int):q0m.rd4 n L2 L4 (q0m.st4 x0 x1 x2)=bif (decide (x2<x1))then bif inB x1 (x0.length/1)then(x0[x1.toNat*1]?).bind fun e5=>(oInt .i64 e5).bind fun n6=>bif inB x2 (x0.length/1)then(x0[x2.toNat*1]?).bind fun e7=>(oInt .i64 e7).bind fun n8=>bif (n6==n8)then some (.int .i64 6,[])else L4 (q0m.st4 x0 x1 (IntKind.wrap .i64 (x2+1)))else none else none else L2 (q0m.st2 x0 (IntKind.wrap .i64 (x1+1))):=by kernel_rfl
theorem q0m.ev(a0_0 a1:List T):q1b prog A H LIM n F.q0m [.rref [.sl 2 a0_0] 0,.sl 1 a1]=bif (((((a1.length/1):Nat):Int) != (((a0_0.length/2):Nat):Int)))then some (.int .i64 2,[])else q0m.at0 n n (q0m.st0 a0_0 a1 (0:Int)):=by kernel_rfl
def q2t.st0(x0:List T)(x1 x2:Int):St:=⟨[(0,ol 1 x0),(1,oi x1),(5,oi x2)],[]⟩
def q2t.K0:=kx F.q2t n [.block 0,.seq 0 (cx F.q2t [1,1])] (q3v prog A F.q2t)
def q2t.at0:=lx F.q2t n 0 [1,0,1,0,0] (q2t.K0 n) m s
def q2t.rd0:=rx F.q2t n 0 [1,0,1,0,0] (q2t.K0 n) L0 s
theorem q2t.next0:q2t.at0 n (m+1) s=q2t.rd0 n (q2t.at0 n m) s:=nx ..
theorem q2t.round0(x0:List T)(x1 x2:Int):q2t.rd0 n L0 (q2t.st0 x0 x1 x2)=bif (decide (x2<(((x0.length/1):Nat):Int)))then bif inB x2 (x0.length/1)then(x0[x2.toNat*1]?).bind fun e1=>(oInt .i64 e1).bind fun n2=>bif (n2==x1)then some (.int .i64 x2,[])else L0 (q2t.st0 x0 x1 (IntKind.wrap .i64 (x2+1)))else none else some (.int .i64 (-1),[]):=by kernel_rfl
theorem q2t.ev(a0:List T)(a1:Int):q1b prog A H LIM n F.q2t [.sl 1 a0,.int .i64 a1]=q2t.at0 n n (q2t.st0 a0 a1 (0:Int)):=by kernel_rfl
def q39.st0(x0 x1:Int)(x2:List T):St:=⟨[(0,oi x0),(3,(.one (.obj 320))),(4,oi x1)],[(320,(.arr true true 1 x2))]⟩
def q39.K0:=kx F.q39 n [.block 0,.seq 0 (cx F.q39 [1,1,1])] (q3v prog A F.q39)
def q39.at0:=lx F.q39 n 0 [1,1,0,1,0,0] (q39.K0 n) m s
def q39.rd0:=rx F.q39 n 0 [1,1,0,1,0,0] (q39.K0 n) L0 s
theorem q39.next0:q39.at0 n (m+1) s=q39.rd0 n (q39.at0 n m) s:=nx ..
theorem q39.round0(x0 x1:Int)(x2:List T):q39.rd0 n L0 (q39.st0 x0 x1 x2)=bif (decide (x1<x0))then bif Nat.ble ((x2.length+1)*8) (140737488355328*1)then L0 (q39.st0 x0 (IntKind.wrap .i64 (x1+1)) (x2++[.int .i64 x1]:List T))else none else some (.sl 1 x2,[]):=by kernel_rfl
theorem q39.ev(a0:Int):q1b prog A H LIM n F.q39 [.int .i64 a0]=q39.at0 n n (q39.st0 a0 (0:Int) []):=by kernel_rfl
theorem q9o.ev(a0_0:List T)(a0_1:Int):q1b prog A H LIM n F.q9o [.rref [.sl 1 a0_0,.int .i64 a0_1] 0]=(LIM F.q30 [.rref [.sl 1 a0_0,.int .i64 a0_1] 0,.int .i64 8]).bind fun r1=>bS r1 fun c5 n7=>(oInt .i64 r1.1).bind fun n8=>bif (n8==0)then bif (n8==0)then some (.agg [.sl 2 [.str (ByteArray.mk #[101]),.int .i64 0,.str (ByteArray.mk #[105]),.int .i64 1,.str (ByteArray.mk #[109]),.int .i64 2,.str (ByteArray.mk #[97]),.int .i64 0]],[.agg [.sl 1 a0_0,.int .i64 n7]])else bif (n8==3)then bif (n8==3)then some (.agg [.sl 2 [.str (ByteArray.mk #[97]),.int .i64 0,.str (ByteArray.mk #[115,117,99]),.int .i64 1,.str (ByteArray.mk #[97,100,100]),.int .i64 2,.str (ByteArray.mk #[98]),.int .i64 0]],[.agg [.sl 1 a0_0,.int .i64 n7]])else bif (n8==5)then some (.agg [.sl 2 [.str (ByteArray.mk #[97]),.int .i64 0,.str (ByteArray.mk #[102]),.int .i64 1,.str (ByteArray.mk #[103]),.int .i64 1]],[.agg [.sl 1 a0_0,.int .i64 n7]])else bif (n8==6)then some (.agg [.sl 2 [.str (ByteArray.mk #[97]),.int .i64 0,.str (ByteArray.mk #[98]),.int .i64 0,.str (ByteArray.mk #[101]),.int .i64 0,.str (ByteArray.mk #[109]),.int .i64 2,.str (ByteArray.mk #[105]),.int .i64 1,.str (ByteArray.mk #[115,117,99]),.int .i64 1]],[.agg [.sl 1 a0_0,.int .i64 n7]])else some (.agg [.sl 2 [.str (ByteArray.mk #[97]),.int .i64 0]],[.agg [.sl 1 a0_0,.int .i64 n7]])else bif (n8==4)then some (.agg [.sl 2 [.str (ByteArray.mk #[97]),.int .i64 0,.str (ByteArray.mk #[115,117,99]),.int .i64 1,.str (ByteArray.mk #[97,100,100]),.int .i64 2,.str (ByteArray.mk #[98]),.int .i64 0]],[.agg [.sl 1 a0_0,.int .i64 n7]])else bif (n8==5)then some (.agg [.sl 2 [.str (ByteArray.mk #[97]),.int .i64 0,.str (ByteArray.mk #[102]),.int .i64 1,.str (ByteArray.mk #[103]),.int .i64 1]],[.agg [.sl 1 a0_0,.int .i64 n7]])else bif (n8==6)then some (.agg [.sl 2 [.str (ByteArray.mk #[97]),.int .i64 0,.str (ByteArray.mk #[98]),.int .i64 0,.str (ByteArray.mk #[101]),.int .i64 0,.str (ByteArray.mk #[109]),.int .i64 2,.str (ByteArray.mk #[105]),.int .i64 1,.str (ByteArray.mk #[115,117,99]),.int .i64 1]],[.agg [.sl 1 a0_0,.int .i64 n7]])else some (.agg [.sl 2 [.str (ByteArray.mk #[97]),.int .i64 0]],[.agg [.sl 1 a0_0,.int .i64 n7]])else bif (n8==1)then bif (n8==1)then some (.agg [.sl 2 [.str (ByteArray.mk #[101]),.int .i64 0,.str (ByteArray.mk #[105]),.int .i64 1,.str (ByteArray.mk #[109]),.int .i64 2,.str (ByteArray.mk #[97]),.int .i64 0]],[.agg [.sl 1 a0_0,.int .i64 n7]])else bif (n8==3)then bif (n8==3)then some (.agg [.sl 2 [.str (ByteArray.mk #[97]),.int .i64 0,.str (ByteArray.mk #[115,117,99]),.int .i64 1,.str (ByteArray.mk #[97,100,100]),.int .i64 2,.str (ByteArray.mk #[98]),.int .i64 0]],[.agg [.sl 1 a0_0,.int .i64 n7]])else bif (n8==5)then some (.agg [.sl 2 [.str (ByteArray.mk #[97]),.int .i64 0,.str (ByteArray.mk #[102]),.int .i64 1,.str (ByteArray.mk #[103]),.int .i64 1]],[.agg [.sl 1 a0_0,.int .i64 n7]])else bif (n8==6)then some (.agg [.sl 2 [.str (ByteArray.mk #[97]),.int .i64 0,.str (ByteArray.mk #[98]),.int .i64 0,.str (ByteArray.mk #[101]),.int .i64 0,.str (ByteArray.mk #[109]),.int .i64 2,.str (ByteArray.mk #[105]),.int .i64 1,.str (ByteArray.mk #[115,117,99]),.int .i64 1]],[.agg [.sl 1 a0_0,.int .i64 n7]])else some (.agg [.sl 2 [.str (ByteArray.mk #[97]),.int .i64 0]],[.agg [.sl 1 a0_0,.int .i64 n7]])else bif (n8==4)then some (.agg [.sl 2 [.str (ByteArray.mk #[97]),.int .i64 0,.str (ByteArray.mk #[115,117,99]),.int .i64 1,.str (ByteArray.mk #[97,100,100]),.int .i64 2,.str (ByteArray.mk #[98]),.int .i64 0]],[.agg [.sl 1 a0_0,.int .i64 n7]])else bif (n8==5)then some (.agg [.sl 2 [.str (ByteArray.mk #[97]),.int .i64 0,.str (ByteArray.mk #[102]),.int .i64 1,.str (ByteArray.mk #[103]),.int .i64 1]],[.agg [.sl 1 a0_0,.int .i64 n7]])else bif (n8==6)then some (.agg [.sl 2 [.str (ByteArray.mk #[97]),.int .i64 0,.str (ByteArray.mk #[98]),.int .i64 0,.str (ByteArray.mk #[101]),.int .i64 0,.str (ByteArray.mk #[109]),.int .i64 2,.str (ByteArray.mk #[105]),.int .i64 1,.str (ByteArray.mk #[115,117,99]),.int .i64 1]],[.agg [.sl 1 a0_0,.int .i64 n7]])else some (.agg [.sl 2 [.str (ByteArray.mk #[97]),.int .i64 0]],[.agg [.sl 1 a0_0,.int .i64 n7]])else bif (n8==2)then some (.agg [.sl 2 [.str (ByteArray.mk #[101]),.int .i64 0,.str (ByteArray.mk #[105]),.int .i64 1,.str (ByteArray.mk #[109]),.int .i64 2,.str (ByteArray.mk #[97]),.int .i64 0]],[.agg [.sl 1 a0_0,.int .i64 n7]])else bif (n8==3)then bif (n8==3)then some (.agg [.sl 2 [.str (ByteArray.mk #[97]),.int .i64 0,.str (ByteArray.mk #[115,117,99]),.int .i64 1,.str (ByteArray.mk #[97,100,100]),.int .i64 2,.str (ByteArray.mk #[98]),.int .i64 0]],[.agg [.sl 1 a0_0,.int .i64 n7]])else bif (n8==5)then some (.agg [.sl 2 [.str (ByteArray.mk #[97]),.int .i64 0,.str (ByteArray.mk #[102]),.int .i64 1,.str (ByteArray.mk #[103]),.int .i64 1]],[.agg [.sl 1 a0_0,.int .i64 n7]])else bif (n8==6)then some (.agg [.sl 2 [.str (ByteArray.mk #[97]),.int .i64 0,.str (ByteArray.mk #[98]),.int .i64 0,.str (ByteArray.mk #[101]),.int .i64 0,.str (ByteArray.mk #[109]),.int .i64 2,.str (ByteArray.mk #[105]),.int .i64 1,.str (ByteArray.mk #[115,117,99]),.int .i64 1]],[.agg [.sl 1 a0_0,.int .i64 n7]])else some (.agg [.sl 2 [.str (ByteArray.mk #[97]),.int .i64 0]],[.agg [.sl 1 a0_0,.int .i64 n7]])else bif (n8==4)then some (.agg [.sl 2 [.str (ByteArray.mk #[97]),.int .i64 0,.str (ByteArray.mk #[115,117,99]),.int .i64 1,.str (ByteArray.mk #[97,100,100]),.int .i64 2,.str (ByteArray.mk #[98]),.int .i64 0]],[.agg [.sl 1 a0_0,.int .i64 n7]])else bif (n8==5)then some (.agg [.sl 2 [.str (ByteArray.mk #[97]),.int .i64 0,.str (ByteArray.mk #[102]),.int .i64 1,.str (ByteArray.mk #[103]),.int .i64 1]],[.agg [.sl 1 a0_0,.int .i64 n7]])else bif (n8==6)then some (.agg [.sl 2 [.str (ByteArray.mk #[97]),.int .i64 0,.str (ByteArray.mk #[98]),.int .i64 0,.str (ByteArray.mk #[101]),.int .i64 0,.str (ByteArray.mk #[109]),.int .i64 2,.str (ByteArray.mk #[105]),.int .i64 1,.str (ByteArray.mk #[115,117,99]),.int .i64 1]],[.agg [.sl 1 a0_0,.int .i64 n7]])else some (.agg [.sl 2 [.str (ByteArray.mk #[97]),.int .i64 0]],[.agg [.sl 1 a0_0,.int .i64 n7]]):=by kernel_rfl
theorem q63.ev(a0_0:List T)(a1:Int):q1b prog A H LIM n F.q63 [.rref [.sl 2 a0_0] 0,.int .i64 a1]=(LIM F.q1q [.int .i64 a1,.int .i64 0,(.int .i64 (IntKind.wrap .i64 ((((a0_0.length/2):Nat):Int)-1)))]).bind fun r1=>bB r1 fun b2=>some (.bool b2,[]):=by kernel_rfl
def q19.st1(x0:Int)(x1:List T)(x2:Int)(x3:List T):St:=⟨[(0,(.one (.ptr 1000000 0))),(10,(.one (.obj 4224))),(11,oi x0)],[(1000000,(.box [(.kept 0 (.sl 1 x1)),(.t (.int .i64 x2))])),(4224,(.arr true true 1 x3))]⟩
def q19.K1:=kx F.q19 n [.block 1,.seq 0 (cx F.q19 [1,1,1,1,1,1,1])] (q3v prog A F.q19)
def q19.at1:=lx F.q19 n 1 [1,1,1,1,1,1,0,1,0,0] (q19.K1 n) m s
def q19.rd1:=rx F.q19 n 1 [1,1,1,1,1,1,0,1,0,0] (q19.K1 n) L1 s
theorem q19.next1:q19.at1 n (m+1) s=q19.rd1 n (q19.at1 n m) s:=nx ..
theorem q19.round1(x0:Int)(x1:List T)(x2:Int)(x3:List T):q19.rd1 n L1 (q19.st1 x0 x1 x2 x3)=(LIM F.q45 [.rref [.sl 1 x1,.int .i64 x2] 0,.sl 1 [.int .i64 24,.int .i64 25]]).bind fun r43=>bS r43 fun c47 n49=>(oInt .i64 r43.1).bind fun n50=>bif (decide (x0<n50))then(LIM F.q45 [.rref [.sl 1 x1,.int .i64 n49] 0,.sl 1 [.int .i64 1,.int .i64 2,.int .i64 0]]).bind fun r51=>bS r51 fun c55 n57=>(oInt .i64 r51.1).bind fun n58=>bif Nat.ble ((x3.length+1)*8) (140737488355328*1)then L1 (q19.st1 (IntKind.wrap .i64 (x0+1)) x1 n57 (x3++[.int .i64 n58]:List T))else none else some (.sl 1 x3,[.agg [.sl 1 x1,.int .i64 n49]]):=by kernel_rfl
theorem q19.ev(a0_0:List T)(a0_1:Int)(a1_0:List T)(a2 a3:Int):q1b prog A H LIM n F.q19 [.rref [.sl 1 a0_0,.int .i64 a0_1] 0,.rref [.sl 2 a1_0] 0,.int .i64 a2,.int .i64 a3]=bif (decide ((((a1_0.length/2):Nat):Int)<1))then some (.sl 1 [.int .i64 0],[.agg [.sl 1 a0_0,.int .i64 a0_1]])else(LIM F.q02 [.agg [.sl 2 a1_0]]).bind fun r1=>bI r1 fun n2=>bif (n2 != 0)then some (.sl 1 [.int .i64 0],[.agg [.sl 1 a0_0,.int .i64 a0_1]])else(LIM F.q0h [.rref [.sl 1 a0_0,.int .i64 a0_1] 0,.rref [.sl 2 a1_0] 0,.int .i64 a2,.int .i64 a3]).bind fun r3=>bS r3 fun c7 n9=>(oSl 1 r3.1).bind fun c10=>(LIM F.q3u [.rref [.sl 1 a0_0,.int .i64 n9] 0,.int .i64 11]).bind fun r11=>bS r11 fun c15 n17=>(q82 r11.1).bind fun b18=>bif (!b18)then some (.sl 1 c10,[.agg [.sl 1 a0_0,.int .i64 n17]])else(LIM F.q30 [.rref [.sl 1 a0_0,.int .i64 n17] 0,.int .i64 4]).bind fun r19=>bS r19 fun c23 n25=>(oInt .i64 r19.1).bind fun n26=>bif (n26==0)then bif decide (0<=(IntKind.wrap .i64 ((((c10.length/1):Nat):Int)-1)))&&decide ((IntKind.wrap .i64 ((((c10.length/1):Nat):Int)-1))<=(((c10.length/1):Nat):Int))then some ((.sl 1 (c10.take ((Int.toNat (IntKind.wrap .i64 ((((c10.length/1):Nat):Int)-1)))*1))),[.agg [.sl 1 a0_0,.int .i64 n25]])else none else bif (n26==1)then bif Nat.ble ((c10.length+1)*8) (140737488355328*1)then some ((.sl 1 (c10++[.int .i64 0]:List T)),[.agg [.sl 1 a0_0,.int .i64 n25]])else none else bif (n26==2)then(LIM F.q30 [.rref [.sl 1 a0_0,.int .i64 n25] 0,(.int .i64 (((c10.length/1):Nat):Int))]).bind fun r27=>bS r27 fun c31 n33=>(oInt .i64 r27.1).bind fun n34=>(LIM F.q45 [.rref [.sl 1 a0_0,.int .i64 n33] 0,(.sl 1 [(.int .i64 (((a1_0.length/2):Nat):Int)),.int .i64 (-13),.int .i64 (-12)])]).bind fun r35=>bS r35 fun c39 n41=>(oInt .i64 r35.1).bind fun n42=>bif inB n34 (c10.length/1)then bif decide ((n34.toNat*1)+1<=c10.length)then some (.sl 1 (setCells c10 (n34.toNat*1) [.int .i64 n42]),[.agg [.sl 1 a0_0,.int .i64 n41]])else none else none else q19.at1 n n (q19.st1 (0:Int) a0_0 n25 []):=by kernel_rfl
def q22.st0(x0:List T)(x1 x2 x3:Int):St:=⟨[(0,ol 1 x0),(1,oi x1),(5,oi x2),(6,oi x3)],[]⟩
def q22.K0:=kx F.q22 n [.block 0,.seq 0 (cx F.q22 [1,1,1])] (q3v prog A F.q22)
def q22.at0:=lx F.q22 n 0 [1,1,0,1,0,0] (q22.K0 n) m s
def q22.rd0:=rx F.q22 n 0 [1,1,0,1,0,0] (q22.K0 n) L0 s
theorem q22.next0:q22.at0 n (m+1) s=q22.rd0 n (q22.at0 n m) s:=nx ..
theorem q22.round0(x0:List T)(x1 x2 x3:Int):q22.rd0 n L0 (q22.st0 x0 x1 x2 x3)=bif (decide (x3<(((x0.length/1):Nat):Int)))then bif inB x3 (x0.length/1)then(x0[x3.toNat*1]?).bind fun e1=>(oInt .i64 e1).bind fun n2=>bif (n2==x1)then L0 (q22.st0 x0 x1 (IntKind.wrap .i64 (x2+1)) (IntKind.wrap .i64 (x3+1)))else L0 (q22.st0 x0 x1 x2 (IntKind.wrap .i64 (x3+1)))else none else some (.int .i64 x2,[]):=by kernel_rfl
theorem q22.ev(a0:List T)(a1:Int):q1b prog A H LIM n F.q22 [.sl 1 a0,.int .i64 a1]=q22.at0 n n (q22.st0 a0 a1 (0:Int) (0:Int)):=by kernel_rfl
def q0h.st2(x0:List T)(x1 x2 x3 x4 x5:Int)(x6:List T)(x7:Int):St:=⟨[(0,(.one (.ptr 1000000 0))),(1,(.one (.t (.rref [(.sl 2 x0)] 0)))),(2,oi x1),(3,oi x2),(9,oi x3),(10,oi x4),(12,oi x5)],[(1000000,(.box [(.kept 0 (.sl 1 x6)),(.t (.int .i64 x7))]))]⟩
def q0h.st0(x0:List T)(x1 x2 x3 x4 x5:Int)(x6:List T)(x7:Int):St:=⟨[(0,(.one (.ptr 1000000 0))),(1,(.one (.t (.rref [(.sl 2 x0)] 0)))),(2,oi x1),(3,oi x2),(9,oi x3),(10,oi x4),(11,oi x5)],[(1000000,(.box [(.kept 0 (.sl 1 x6)),(.t (.int .i64 x7))]))]⟩
def q0h.K0:=kx F.q0h n [.block 0,.seq 0 (cx F.q0h [1,1,1,1,1])] (q3v prog A F.q0h)
def q0h.at0:=lx F.q0h n 0 [1,1,1,1,0,1,0,0] (q0h.K0 n) m s
def q0h.rd0:=rx F.q0h n 0 [1,1,1,1,0,1,0,0] (q0h.K0 n) L0 s
theorem q0h.next0:q0h.at0 n (m+1) s=q0h.rd0 n (q0h.at0 n m) s:=nx ..
def q0h.K2:=kx F.q0h n [.block 2,.seq 0 (cx F.q0h [1,1,1,1,1,1])] (q3v prog A F.q0h)
def q0h.at2:=lx F.q0h n 2 [1,1,1,1,1,0,1,0,1,0,0] (q0h.K2 n) m s
def q0h.rd2:=rx F.q0h n 2 [1,1,1,1,1,0,1,0,1,0,0] (q0h.K2 n) L2 s
theorem q0h.next2:q0h.at2 n (m+1) s=q0h.rd2 n (q0h.at2 n m) s:=nx ..
theorem q0h.round0(x0:List T)(x1 x2 x3 x4 x5:Int)(x6:List T)(x7:Int):q0h.rd0 n L0 (q0h.st0 x0 x1 x2 x3 x4 x5 x6 x7)=bif (decide (x5<x3))then bif inB x4 (x0.length/2)then(x0[(x4.toNat*2)+1]?).bind fun e41=>(oInt .i64 e41).bind fun n42=>bif (decide (n42>=x1))then bif decide (x3=0)then none else L0 (q0h.st0 x0 x1 x2 x3 (Int.tmod (IntKind.wrap .i64 (x4+1)) x3) (IntKind.wrap .i64 (x5+1)) x6 x7)else bif (decide (x1<2))then q0h.at2 n n (q0h.st2 x0 x1 x2 x3 x4 (0:Int) x6 x7)else bif inB x4 (x0.length/2)then(x0[(x4.toNat*2)+1]?).bind fun e97=>(oInt .i64 e97).bind fun n98=>bif (n98==1)then(LIM F.q0h [.rref [.sl 1 x6,.int .i64 x7] 0,.rref [.sl 2 x0] 0,.int .i64 (IntKind.wrap .i64 (x1-1)),.int .i64 x2]).bind fun r99=>bS r99 fun c103 n105=>(oSl 1 r99.1).bind fun c106=>bif c106.all T.scalar then bif Nat.ble ((1+c106.length)*8) (140737488355328*1)then some (.sl 1 ([.int .i64 x4]++c106:List T),[.agg [.sl 1 x6,.int .i64 n105]])else none else none else bif (n98==2)then(LIM F.q0h [.rref [.sl 1 x6,.int .i64 x7] 0,.rref [.sl 2 x0] 0,.int .i64 (IntKind.wrap .i64 (x1-2)),.int .i64 x2]).bind fun r107=>bS r107 fun c111 n113=>(oSl 1 r107.1).bind fun c114=>bif c114.all T.scalar then bif Nat.ble ((1+c114.length)*8) (140737488355328*1)then(LIM F.q0h [.rref [.sl 1 x6,.int .i64 n113] 0,.rref [.sl 2 x0] 0,(.int .i64 (IntKind.wrap .i64 ((IntKind.wrap .i64 (x1-1))-(((c114.length/1):Nat):Int)))),.int .i64 x2]).bind fun r115=>bS r115 fun c119 n121=>(oSl 1 r115.1).bind fun c122=>bif c122.all T.scalar then bif Nat.ble (((([.int .i64 x4]++c114:List T)).length+c122.length)*8) (140737488355328*1)then some ((.sl 1 (([.int .i64 x4]++c114:List T)++c122:List T)),[.agg [.sl 1 x6,.int .i64 n121]])else none else none else none else none else some (.sl 1 [.int .i64 x4],[.agg [.sl 1 x6,.int .i64 x7]])else none else none else bif (decide (x1<2))then q0h.at2 n n (q0h.st2 x0 x1 x2 x3 x4 (0:Int) x6 x7)else bif inB x4 (x0.length/2)then(x0[(x4.toNat*2)+1]?).bind fun e123=>(oInt .i64 e123).bind fun n124=>bif (n124==1)then(LIM F.q0h [.rref [.sl 1 x6,.int .i64 x7] 0,.rref [.sl 2 x0] 0,.int .i64 (IntKind.wrap .i64 (x1-1)),.int .i64 x2]).bind fun r125=>bS r125 fun c129 n131=>(oSl 1 r125.1).bind fun c132=>bif c132.all T.scalar then bif Nat.ble ((1+c132.length)*8) (140737488355328*1)then some (.sl 1 ([.int .i64 x4]++c132:List T),[.agg [.sl 1 x6,.int .i64 n131]])else none else none else bif (n124==2)then(LIM F.q0h [.rref [.sl 1 x6,.int .i64 x7] 0,.rref [.sl 2 x0] 0,.int .i64 (IntKind.wrap .i64 (x1-2)),.int .i64 x2]).bind fun r133=>bS r133 fun c137 n139=>(oSl 1 r133.1).bind fun c140=>bif c140.all T.scalar then bif Nat.ble ((1+c140.length)*8) (140737488355328*1)then(LIM F.q0h [.rref [.sl 1 x6,.int .i64 n139] 0,.rref [.sl 2 x0] 0,(.int .i64 (IntKind.wrap .i64 ((IntKind.wrap .i64 (x1-1))-(((c140.length/1):Nat):Int)))),.int .i64 x2]).bind fun r141=>bS r141 fun c145 n147=>(oSl 1 r141.1).bind fun c148=>bif c148.all T.scalar then bif Nat.ble (((([.int .i64 x4]++c140:List T)).length+c148.length)*8) (140737488355328*1)then some ((.sl 1 (([.int .i64 x4]++c140:List T)++c148:List T)),[.agg [.sl 1 x6,.int .i64 n147]])else none else none else none else none else some (.sl 1 [.int .i64 x4],[.agg [.sl 1 x6,.int .i64 x7]])else none:=by kernel_rfl
theorem q0h.round2(x0:List T)(x1 x2 x3 x4 x5:Int)(x6:List T)(x7:Int):q0h.rd2 n L2 (q0h.st2 x0 x1 x2 x3 x4 x5 x6 x7)=bif (decide (x5<x3))then bif inB x4 (x0.length/2)then(x0[(x4.toNat*2)+1]?).bind fun e43=>(oInt .i64 e43).bind fun n44=>bif (decide (n44>0))then bif decide (x3=0)then none else L2 (q0h.st2 x0 x1 x2 x3 (Int.tmod (IntKind.wrap .i64 (x4+1)) x3) (IntKind.wrap .i64 (x5+1)) x6 x7)else bif inB x4 (x0.length/2)then(x0[(x4.toNat*2)+1]?).bind fun e45=>(oInt .i64 e45).bind fun n46=>bif (n46==1)then(LIM F.q0h [.rref [.sl 1 x6,.int .i64 x7] 0,.rref [.sl 2 x0] 0,.int .i64 (IntKind.wrap .i64 (x1-1)),.int .i64 x2]).bind fun r47=>bS r47 fun c51 n53=>(oSl 1 r47.1).bind fun c54=>bif c54.all T.scalar then bif Nat.ble ((1+c54.length)*8) (140737488355328*1)then some (.sl 1 ([.int .i64 x4]++c54:List T),[.agg [.sl 1 x6,.int .i64 n53]])else none else none else bif (n46==2)then(LIM F.q0h [.rref [.sl 1 x6,.int .i64 x7] 0,.rref [.sl 2 x0] 0,.int .i64 (IntKind.wrap .i64 (x1-2)),.int .i64 x2]).bind fun r55=>bS r55 fun c59 n61=>(oSl 1 r55.1).bind fun c62=>bif c62.all T.scalar then bif Nat.ble ((1+c62.length)*8) (140737488355328*1)then(LIM F.q0h [.rref [.sl 1 x6,.int .i64 n61] 0,.rref [.sl 2 x0] 0,(.int .i64 (IntKind.wrap .i64 ((IntKind.wrap .i64 (x1-1))-(((c62.length/1):Nat):Int)))),.int .i64 x2]).bind fun r63=>bS r63 fun c67 n69=>(oSl 1 r63.1).bind fun c70=>bif c70.all T.scalar then bif Nat.ble (((([.int .i64 x4]++c62:List T)).length+c70.length)*8) (140737488355328*1)then some ((.sl 1 (([.int .i64 x4]++c62:List T)++c70:List T)),[.agg [.sl 1 x6,.int .i64 n69]])else none else none else none else none else some (.sl 1 [.int .i64 x4],[.agg [.sl 1 x6,.int .i64 x7]])else none else none else bif inB x4 (x0.length/2)then(x0[(x4.toNat*2)+1]?).bind fun e71=>(oInt .i64 e71).bind fun n72=>bif (n72==1)then(LIM F.q0h [.rref [.sl 1 x6,.int .i64 x7] 0,.rref [.sl 2 x0] 0,.int .i64 (IntKind.wrap .i64 (x1-1)),.int .i64 x2]).bind fun r73=>bS r73 fun c77 n79=>(oSl 1 r73.1).bind fun c80=>bif c80.all T.scalar then bif Nat.ble ((1+c80.length)*8) (140737488355328*1)then some (.sl 1 ([.int .i64 x4]++c80:List T),[.agg [.sl 1 x6,.int .i64 n79]])else none else none else bif (n72==2)then(LIM F.q0h [.rref [.sl 1 x6,.int .i64 x7] 0,.rref [.sl 2 x0] 0,.int .i64 (IntKind.wrap .i64 (x1-2)),.int .i64 x2]).bind fun r81=>bS r81 fun c85 n87=>(oSl 1 r81.1).bind fun c88=>bif c88.all T.scalar then bif Nat.ble ((1+c88.length)*8) (140737488355328*1)then(LIM F.q0h [.rref [.sl 1 x6,.int .i64 n87] 0,.rref [.sl 2 x0] 0,(.int .i64 (IntKind.wrap .i64 ((IntKind.wrap .i64 (x1-1))-(((c88.length/1):Nat):Int)))),.int .i64 x2]).bind fun r89=>bS r89 fun c93 n95=>(oSl 1 r89.1).bind fun c96=>bif c96.all T.scalar then bif Nat.ble (((([.int .i64 x4]++c88:List T)).length+c96.length)*8) (140737488355328*1)then some ((.sl 1 (([.int .i64 x4]++c88:List T)++c96:List T)),[.agg [.sl 1 x6,.int .i64 n95]])else none else none else none else none else some (.sl 1 [.int .i64 x4],[.agg [.sl 1 x6,.int .i64 x7]])else none:=by kernel_rfl
theorem q0h.ev(a0_0:List T)(a0_1:Int)(a1_0:List T)(a2 a3:Int):q1b prog A H LIM n F.q0h [.rref [.sl 1 a0_0,.int .i64 a0_1] 0,.rref [.sl 2 a1_0] 0,.int .i64 a2,.int .i64 a3]=bif (decide (a3>0))then bif (decide (a2<2))then(LIM F.q3u [.rref [.sl 1 a0_0,.int .i64 a0_1] 0,.int .i64 2]).bind fun r1=>bS r1 fun c5 n7=>(q82 r1.1).bind fun b8=>bif b8 then(LIM F.q30 [.rref [.sl 1 a0_0,.int .i64 n7] 0,.int .i64 a3]).bind fun r9=>bS r9 fun c13 n15=>(oInt .i64 r9.1).bind fun n16=>some (.sl 1 [.int .i64 (IntKind.wrap .i64 ((-1:Int)-n16))],[.agg [.sl 1 a0_0,.int .i64 n15]])else(LIM F.q3u [.rref [.sl 1 a0_0,.int .i64 n7] 0,.int .i64 4]).bind fun r17=>bS r17 fun c21 n23=>(q82 r17.1).bind fun b24=>bif b24 then(LIM F.q30 [.rref [.sl 1 a0_0,.int .i64 n23] 0,.int .i64 a3]).bind fun r25=>bS r25 fun c29 n31=>(oInt .i64 r25.1).bind fun n32=>some (.sl 1 [.int .i64 (IntKind.wrap .i64 ((-1:Int)-n32))],[.agg [.sl 1 a0_0,.int .i64 n31]])else(LIM F.q30 [.rref [.sl 1 a0_0,.int .i64 n23] 0,(.int .i64 (((a1_0.length/2):Nat):Int))]).bind fun r33=>bS r33 fun c37 n39=>(oInt .i64 r33.1).bind fun n40=>q0h.at0 n n (q0h.st0 a1_0 a2 a3 (((a1_0.length/2):Nat):Int) n40 (0:Int) a0_0 n39)else(LIM F.q3u [.rref [.sl 1 a0_0,.int .i64 a0_1] 0,.int .i64 4]).bind fun r149=>bS r149 fun c153 n155=>(q82 r149.1).bind fun b156=>bif b156 then(LIM F.q30 [.rref [.sl 1 a0_0,.int .i64 n155] 0,.int .i64 a3]).bind fun r157=>bS r157 fun c161 n163=>(oInt .i64 r157.1).bind fun n164=>some (.sl 1 [.int .i64 (IntKind.wrap .i64 ((-1:Int)-n164))],[.agg [.sl 1 a0_0,.int .i64 n163]])else(LIM F.q30 [.rref [.sl 1 a0_0,.int .i64 n155] 0,(.int .i64 (((a1_0.length/2):Nat):Int))]).bind fun r165=>bS r165 fun c169 n171=>(oInt .i64 r165.1).bind fun n172=>q0h.at0 n n (q0h.st0 a1_0 a2 a3 (((a1_0.length/2):Nat):Int) n172 (0:Int) a0_0 n171)else(LIM F.q30 [.rref [.sl 1 a0_0,.int .i64 a0_1] 0,(.int .i64 (((a1_0.length/2):Nat):Int))]).bind fun r173=>bS r173 fun c177 n179=>(oInt .i64 r173.1).bind fun n180=>q0h.at0 n n (q0h.st0 a1_0 a2 a3 (((a1_0.length/2):Nat):Int) n180 (0:Int) a0_0 n179):=by kernel_rfl
def q2q.st0(x0 x1:List T)(x2 x3 x4:Int):St:=⟨[(0,(.one (.t (.rref [(.sl 2 x0)] 0)))),(1,ol 1 x1),(2,oi x2),(7,oi x3),(8,oi x4)],[]⟩
def q2q.K0:=kx F.q2q n [.block 0,.seq 0 (cx F.q2q [1,1,1,1,1])] (q3v prog A F.q2q)
def q2q.at0:=lx F.q2q n 0 [1,1,1,1,0,1,0,0] (q2q.K0 n) m s
def q2q.rd0:=rx F.q2q n 0 [1,1,1,1,0,1,0,0] (q2q.K0 n) L0 s
theorem q2q.next0:q2q.at0 n (m+1) s=q2q.rd0 n (q2q.at0 n m) s:=nx ..
theorem q2q.round0(x0 x1:List T)(x2 x3 x4:Int):q2q.rd0 n L0 (q2q.st0 x0 x1 x2 x3 x4)=bif inB x2 (x1.length/1)then(x1[x2.toNat*1]?).bind fun e3=>(oInt .i64 e3).bind fun n4=>bif inB n4 (x0.length/2)then(x0[(n4.toNat*2)+1]?).bind fun e5=>(oInt .i64 e5).bind fun n6=>bif (decide (x4<n6))then(LIM F.q2q [.rref [.sl 2 x0] 0,.sl 1 x1,.int .i64 x3]).bind fun r7=>bI r7 fun n8=>bif (decide (n8<0))then some (.int .i64 (-1),[])else L0 (q2q.st0 x0 x1 x2 n8 (IntKind.wrap .i64 (x4+1)))else some (.int .i64 x3,[])else none else none:=by kernel_rfl
theorem q2q.ev(a0_0 a1:List T)(a2:Int):q1b prog A H LIM n F.q2q [.rref [.sl 2 a0_0] 0,.sl 1 a1,.int .i64 a2]=bif (decide (a2>=(((a1.length/1):Nat):Int)))then some (.int .i64 (-1),[])else bif inB a2 (a1.length/1)then(a1[a2.toNat*1]?).bind fun e1=>(oInt .i64 e1).bind fun n2=>bif (decide (n2<0))then some (.int .i64 (IntKind.wrap .i64 (a2+1)),[])else q2q.at0 n n (q2q.st0 a0_0 a1 a2 (IntKind.wrap .i64 (a2+1)) (0:Int))else none:=by kernel_rfl
def q1n.st0(x0 x1:List T)(x2:Int):St:=⟨[(0,(.one (.t (.rref [(.sl 2 x0)] 0)))),(1,ol 1 x1),(5,oi x2)],[]⟩
def q1n.K0:=kx F.q1n n [.block 0,.seq 0 (cx F.q1n [1,1,1])] (q3v prog A F.q1n)
def q1n.at0:=lx F.q1n n 0 [1,1,0,1,0,0] (q1n.K0 n) m s
def q1n.rd0:=rx F.q1n n 0 [1,1,0,1,0,0] (q1n.K0 n) L0 s
theorem q1n.next0:q1n.at0 n (m+1) s=q1n.rd0 n (q1n.at0 n m) s:=nx ..
theorem q1n.round0(x0 x1:List T)(x2:Int):q1n.rd0 n L0 (q1n.st0 x0 x1 x2)=bif (decide (x2<(((x1.length/1):Nat):Int)))then bif inB x2 (x1.length/1)then(x1[x2.toNat*1]?).bind fun e1=>(oInt .i64 e1).bind fun n2=>(LIM F.q9e [.rref [.sl 2 x0] 0,.int .i64 n2]).bind fun r3=>bB r3 fun b4=>bif (!b4)then some (.int .i64 3,[])else L0 (q1n.st0 x0 x1 (IntKind.wrap .i64 (x2+1)))else none else(LIM F.q2q [.rref [.sl 2 x0] 0,.sl 1 x1,.int .i64 0]).bind fun r5=>bI r5 fun n6=>bif ((n6 != (((x1.length/1):Nat):Int)))then some (.int .i64 1,[])else some (.int .i64 0,[]):=by kernel_rfl
theorem q1n.ev(a0_0 a1:List T):q1b prog A H LIM n F.q1n [.rref [.sl 2 a0_0] 0,.sl 1 a1]=bif (decide ((((a1.length/1):Nat):Int)<1))then some (.int .i64 2,[])else bif (decide ((((a1.length/1):Nat):Int)>24))then some (.int .i64 2,[])else q1n.at0 n n (q1n.st0 a0_0 a1 (0:Int)):=by kernel_rfl
theorem q9e.ev(a0_0:List T)(a1:Int):q1b prog A H LIM n F.q9e [.rref [.sl 2 a0_0] 0,.int .i64 a1]=(LIM F.q63 [.rref [.sl 2 a0_0] 0,.int .i64 a1]).bind fun r1=>bB r1 fun b2=>bif b2 then some (.bool true,[])else(LIM F.q1q [.int .i64 a1,.int .i64 (-12),.int .i64 (-1)]).bind fun r3=>bB r3 fun b4=>some (.bool b4,[]):=by kernel_rfl
theorem q7i.ev(a0:List T)(a1:Int):q1b prog A H LIM n F.q7i [.sl 1 a0,.int .i64 a1]=(LIM F.q1q [.int .i64 a1,.int .i64 0,(.int .i64 (IntKind.wrap .i64 ((((a0.length/1):Nat):Int)-1)))]).bind fun r1=>bB r1 fun b2=>some (.bool b2,[]):=by kernel_rfl
theorem q68.ev(a0_0 a1:List T)(a2:Int)(a3:List T):q1b prog A H LIM n F.q68 [.rref [.sl 2 a0_0] 0,.sl 1 a1,.int .i64 a2,.sl 1 a3]=bif decide (0<=(0:Int))&&decide ((0:Int)<=a2)&&decide (a2<=(((a1.length/1):Nat):Int))then(LIM F.q2u [.sl 1 ((a1.take (a2.toNat*1)).drop (0*1))]).bind fun r1=>bL r1 fun c2=>bif a3.all T.scalar then bif Nat.ble ((c2.length+a3.length)*8) (140737488355328*1)then(LIM F.q2q [.rref [.sl 2 a0_0] 0,.sl 1 a1,.int .i64 a2]).bind fun r3=>bI r3 fun n4=>bif decide (0<=n4)&&decide (n4<=(((a1.length/1):Nat):Int))&&decide ((((a1.length/1):Nat):Int)<=(((a1.length/1):Nat):Int))then bif (((a1.take ((Int.toNat (((a1.length/1):Nat):Int))*1)).drop (n4.toNat*1))).all T.scalar then bif Nat.ble ((((c2++a3:List T)).length+(((a1.take ((Int.toNat (((a1.length/1):Nat):Int))*1)).drop (n4.toNat*1))).length)*8) (140737488355328*1)then some ((.sl 1 ((c2++a3:List T)++((a1.take ((Int.toNat (((a1.length/1):Nat):Int))*1)).drop (n4.toNat*1)):List T)),[])else none else none else none else none else none else none:=by kernel_rfl
theorem q6w.ev(a0_0 a1:List T)(a2:Int):q1b prog A H LIM n F.q6w [.rref [.sl 2 a0_0] 0,.sl 1 a1,.int .i64 a2]=(LIM F.q2q [.rref [.sl 2 a0_0] 0,.sl 1 a1,.int .i64 a2]).bind fun r1=>bI r1 fun n2=>bif decide (0<=a2)&&decide (a2<=n2)&&decide (n2<=(((a1.length/1):Nat):Int))then(LIM F.q2u [.sl 1 ((a1.take (n2.toNat*1)).drop (a2.toNat*1))]).bind fun r3=>bL r3 fun c4=>some (.sl 1 c4,[])else none:=by kernel_rfl
theorem q52.ev(a0_0:List T)(a0_1:Int)(a1_0:List T):q1b prog A H LIM n F.q52 [.rref [.sl 1 a0_0,.int .i64 a0_1] 0,.rref [.sl 2 a1_0] 0]=(LIM F.q02 [.agg [.sl 2 a1_0]]).bind fun r1=>bI r1 fun n2=>bif (n2 != 0)then some (.agg [.sl 1 [.int .i64 0],.sl 1 [.int .i64 0]],[.agg [.sl 1 a0_0,.int .i64 a0_1]])else(LIM F.q3u [.rref [.sl 1 a0_0,.int .i64 a0_1] 0,.int .i64 6]).bind fun r3=>bS r3 fun c7 n9=>(q82 r3.1).bind fun b10=>bif b10 then(LIM F.q19 [.rref [.sl 1 a0_0,.int .i64 n9] 0,.rref [.sl 2 a1_0] 0,.int .i64 9,.int .i64 7]).bind fun r11=>bS r11 fun c15 n17=>(oSl 1 r11.1).bind fun c18=>(LIM F.q19 [.rref [.sl 1 a0_0,.int .i64 n17] 0,.rref [.sl 2 a1_0] 0,.int .i64 5,.int .i64 12]).bind fun r19=>bS r19 fun c23 n25=>(oSl 1 r19.1).bind fun c26=>some (.agg [.sl 1 c18,.sl 1 c26],[.agg [.sl 1 a0_0,.int .i64 n25]])else(LIM F.q6i [.rref [.sl 1 a0_0,.int .i64 n9] 0,.rref [.sl 2 a1_0] 0]).bind fun r27=>bS r27 fun c31 n33=>(oAgg r27.1).bind fun c34=>(q0s c34).bind fun p35=>(oSl 1 p35.1).bind fun c36=>(q0s p35.2).bind fun p37=>(oSl 1 p37.1).bind fun c38=>(oNil p37.2).bind fun _=>some (.agg [.sl 1 c36,.sl 1 c38],[.agg [.sl 1 a0_0,.int .i64 n33]]):=by kernel_rfl
def q2b.st0(x0:List T)(x1:Int)(x2:List T):St:=⟨[(0,ol 2 x0),(3,(.one (.obj 320))),(4,oi x1)],[(320,(.arr true true 2 x2))]⟩
def q2b.K0:=kx F.q2b n [.block 0,.seq 0 (cx F.q2b [1,1,1])] (q3v prog A F.q2b)
def q2b.at0:=lx F.q2b n 0 [1,1,0,1,0,0] (q2b.K0 n) m s
def q2b.rd0:=rx F.q2b n 0 [1,1,0,1,0,0] (q2b.K0 n) L0 s
theorem q2b.next0:q2b.at0 n (m+1) s=q2b.rd0 n (q2b.at0 n m) s:=nx ..
theorem q2b.round0(x0:List T)(x1:Int)(x2:List T):q2b.rd0 n L0 (q2b.st0 x0 x1 x2)=bif (decide (x1<(((x0.length/2):Nat):Int)))then bif inB x1 (x0.length/2)then(LIM F.q8w [.rref ((x0.drop (x1.toNat*2)).take 2) 0]).bind fun r1=>bQ r1 fun c4 c6=>bif Nat.ble ((x2.length+2)*48) (140737488355328*2)then L0 (q2b.st0 x0 (IntKind.wrap .i64 (x1+1)) (x2++[.sl 1 c4,.sl 1 c6]:List T))else none else none else some (.sl 2 x2,[]):=by kernel_rfl
theorem q2b.ev(a0:List T):q1b prog A H LIM n F.q2b [.sl 2 a0]=q2b.at0 n n (q2b.st0 a0 (0:Int) []):=by kernel_rfl
theorem q8w.ev(a0_0 a0_1:List T):q1b prog A H LIM n F.q8w [.rref [.sl 1 a0_0,.sl 1 a0_1] 0]=(LIM F.q2u [.sl 1 a0_0]).bind fun r1=>bL r1 fun c2=>(LIM F.q2u [.sl 1 a0_1]).bind fun r3=>bL r3 fun c4=>some (.agg [.sl 1 c2,.sl 1 c4],[]):=by kernel_rfl
theorem q6i.ev(a0_0:List T)(a0_1:Int)(a1_0:List T):q1b prog A H LIM n F.q6i [.rref [.sl 1 a0_0,.int .i64 a0_1] 0,.rref [.sl 2 a1_0] 0]=(LIM F.q3u [.rref [.sl 1 a0_0,.int .i64 a0_1] 0,.int .i64 4]).bind fun r1=>bS r1 fun c5 n7=>(q82 r1.1).bind fun b8=>bif b8 then(LIM F.q45 [.rref [.sl 1 a0_0,.int .i64 n7] 0,.sl 1 [.int .i64 4,.int .i64 7,.int .i64 9]]).bind fun r9=>bS r9 fun c13 n15=>(oInt .i64 r9.1).bind fun n16=>(LIM F.q0h [.rref [.sl 1 a0_0,.int .i64 n15] 0,.rref [.sl 2 a1_0] 0,.int .i64 n16,.int .i64 3]).bind fun r17=>bS r17 fun c21 n23=>(oSl 1 r17.1).bind fun c24=>(LIM F.q45 [.rref [.sl 1 a0_0,.int .i64 n23] 0,.sl 1 [.int .i64 1,.int .i64 3,.int .i64 5]]).bind fun r25=>bS r25 fun c29 n31=>(oInt .i64 r25.1).bind fun n32=>(LIM F.q0h [.rref [.sl 1 a0_0,.int .i64 n31] 0,.rref [.sl 2 a1_0] 0,.int .i64 n32,.int .i64 3]).bind fun r33=>bS r33 fun c37 n39=>(oSl 1 r33.1).bind fun c40=>some (.agg [.sl 1 c24,.sl 1 c40],[.agg [.sl 1 a0_0,.int .i64 n39]])else(LIM F.q2v [.rref [.sl 1 a0_0,.int .i64 n7] 0,.rref [.sl 2 a1_0] 0]).bind fun r41=>bS r41 fun c45 n47=>(oAgg r41.1).bind fun c48=>(q0s c48).bind fun p49=>(oSl 1 p49.1).bind fun c50=>(q0s p49.2).bind fun p51=>(oSl 1 p51.1).bind fun c52=>(oNil p51.2).bind fun _=>some (.agg [.sl 1 c50,.sl 1 c52],[.agg [.sl 1 a0_0,.int .i64 n47]]):=by kernel_rfl
theorem q6s.ev(a0_0 a1_0 a1_1:List T):q1b prog A H LIM n F.q6s [.rref [.sl 2 a0_0] 0,.rref [.sl 1 a1_0,.sl 1 a1_1] 0]=(LIM F.q1n [.rref [.sl 2 a0_0] 0,.sl 1 a1_0]).bind fun r1=>bI r1 fun n2=>bif (n2 != 0)then some (.int .i64 n2,[])else(LIM F.q1n [.rref [.sl 2 a0_0] 0,.sl 1 a1_1]).bind fun r3=>bI r3 fun n4=>bif (n4 != 0)then some (.int .i64 n4,[])else(LIM F.q3e [.sl 1 a1_0]).bind fun r5=>bB r5 fun b6=>bif (!b6)then some (.int .i64 3,[])else(LIM F.q3e [.sl 1 a1_1]).bind fun r7=>bB r7 fun b8=>bif (!b8)then some (.int .i64 3,[])else some (.int .i64 0,[]):=by kernel_rfl
def q3e.st0(x0:List T)(x1:Int):St:=⟨[(0,ol 1 x0),(3,oi x1)],[]⟩
def q3e.K0:=kx F.q3e n [.block 0,.seq 0 (cx F.q3e [1,1])] (q3v prog A F.q3e)
def q3e.at0:=lx F.q3e n 0 [1,0,1,0,0] (q3e.K0 n) m s
def q3e.rd0:=rx F.q3e n 0 [1,0,1,0,0] (q3e.K0 n) L0 s
theorem q3e.next0:q3e.at0 n (m+1) s=q3e.rd0 n (q3e.at0 n m) s:=nx ..
theorem q3e.round0(x0:List T)(x1:Int):q3e.rd0 n L0 (q3e.st0 x0 x1)=bif (decide (x1<(((x0.length/1):Nat):Int)))then bif inB x1 (x0.length/1)then(x0[x1.toNat*1]?).bind fun e1=>(oInt .i64 e1).bind fun n2=>bif (decide (n2<(-6:Int)))then some (.bool false,[])else L0 (q3e.st0 x0 (IntKind.wrap .i64 (x1+1)))else none else some (.bool true,[]):=by kernel_rfl
theorem q3e.ev(a0:List T):q1b prog A H LIM n F.q3e [.sl 1 a0]=q3e.at0 n n (q3e.st0 a0 (0:Int)):=by kernel_rfl
def q0r.st3(x0:List T)(x1:ByteArray)(x2 x3:Int)(x4:List T):St:=⟨[(0,(.one (.t (.rref [(.sl 2 x0)] 0)))),(1,(.one (.t (.str x1)))),(6,(.one (.obj 704))),(7,oi x2),(9,oi x3)],[(704,(.arr true true 1 x4))]⟩
def q0r.st0(x0:List T)(x1:ByteArray)(x2:Int)(x3:List T):St:=⟨[(0,(.one (.t (.rref [(.sl 2 x0)] 0)))),(1,(.one (.t (.str x1)))),(6,(.one (.obj 704))),(7,oi x2)],[(704,(.arr true true 1 x3))]⟩
def q0r.K0:=kx F.q0r n [.block 0,.seq 0 (cx F.q0r [1,1,1,1])] (q3v prog A F.q0r)
def q0r.at0:=lx F.q0r n 0 [1,1,1,0,0,0] (q0r.K0 n) m s
def q0r.rd0:=rx F.q0r n 0 [1,1,1,0,0,0] (q0r.K0 n) L0 s
theorem q0r.next0:q0r.at0 n (m+1) s=q0r.rd0 n (q0r.at0 n m) s:=nx ..
def q0r.K3:=kx F.q0r n [.block 3,.seq 2 (cx F.q0r [1,1,1,0,0,0,1,0,1,0,1,1,1,1,1,0,1,1]),.block 2,.block 1] (bx F.q0r 0 (q0r.K0 n) L0)
def q0r.at3:=lx F.q0r n 3 [1,1,1,0,0,0,1,0,1,0,1,1,1,1,1,0,1,0,0,0] (q0r.K3 n L0) m s
def q0r.rd3:=rx F.q0r n 3 [1,1,1,0,0,0,1,0,1,0,1,1,1,1,1,0,1,0,0,0] (q0r.K3 n L0) L3 s
theorem q0r.next3:q0r.at3 n L0 (m+1) s=q0r.rd3 n L0 (q0r.at3 n L0 m) s:=nx ..
theorem q0r.round0(x0:List T)(x1:ByteArray)(x2:Int)(x3:List T):q0r.rd0 n L0 (q0r.st0 x0 x1 x2 x3)=bif (decide (x2<(x1.size:Int)))then bif inB x2 x1.size then bif ((((x1.data.getD x2.toNat 0).toNat:Int)==40))then L0 (q0r.st0 x0 x1 (IntKind.wrap .i64 (x2+1)) x3)else bif ((((x1.data.getD x2.toNat 0).toNat:Int)==41))then L0 (q0r.st0 x0 x1 (IntKind.wrap .i64 (x2+1)) x3)else bif ((((x1.data.getD x2.toNat 0).toNat:Int)==44))then L0 (q0r.st0 x0 x1 (IntKind.wrap .i64 (x2+1)) x3)else bif (decide (((x1.data.getD x2.toNat 0).toNat:Int)>=65))then bif (decide (((x1.data.getD x2.toNat 0).toNat:Int)<77))then bif Nat.ble ((x3.length+1)*8) (140737488355328*1)then L0 (q0r.st0 x0 x1 (IntKind.wrap .i64 (x2+1)) (x3++[(.int .i64 (IntKind.wrap .i64 ((-1:Int)-(IntKind.wrap .i64 (IntKind.wrap .u8 (((x1.data.getD x2.toNat 0).toNat:Int)-65))))))]:List T))else none else bif (decide (((x1.data.getD x2.toNat 0).toNat:Int)>=97))then bif (decide (((x1.data.getD x2.toNat 0).toNat:Int)<=122))then q0r.at3 n L0 n (q0r.st3 x0 x1 x2 x2 x3)else some (.tup [.sl 1 [],.bool false],[])else some (.tup [.sl 1 [],.bool false],[])else bif (decide (((x1.data.getD x2.toNat 0).toNat:Int)>=97))then bif (decide (((x1.data.getD x2.toNat 0).toNat:Int)<=122))then q0r.at3 n L0 n (q0r.st3 x0 x1 x2 x2 x3)else some (.tup [.sl 1 [],.bool false],[])else some (.tup [.sl 1 [],.bool false],[])else none else some (.tup [.sl 1 x3,.bool true],[]):=by kernel_rfl
theorem q0r.round3(x0:List T)(x1:ByteArray)(x2 x3:Int)(x4:List T):q0r.rd3 n L0 L3 (q0r.st3 x0 x1 x2 x3 x4)=bif (decide (x3<(x1.size:Int)))then bif inB x3 x1.size then bif (decide (((x1.data.getD x3.toNat 0).toNat:Int)>=97))then bif inB x3 x1.size then bif (decide (((x1.data.getD x3.toNat 0).toNat:Int)<=122))then L3 (q0r.st3 x0 x1 x2 (IntKind.wrap .i64 (x3+1)) x4)else bif decide (0<=x2)&&decide (x2<=x3)&&decide (x3<=(x1.size:Int))then(LIM F.q2k [.rref [.sl 2 x0] 0,.str (x1.extract x2.toNat x3.toNat)]).bind fun r1=>bI r1 fun n2=>bif (decide (n2<0))then some (.tup [.sl 1 [],.bool false],[])else bif Nat.ble ((x4.length+1)*8) (140737488355328*1)then L0 (q0r.st0 x0 x1 x3 (x4++[.int .i64 n2]:List T))else none else none else none else bif decide (0<=x2)&&decide (x2<=x3)&&decide (x3<=(x1.size:Int))then(LIM F.q2k [.rref [.sl 2 x0] 0,.str (x1.extract x2.toNat x3.toNat)]).bind fun r3=>bI r3 fun n4=>bif (decide (n4<0))then some (.tup [.sl 1 [],.bool false],[])else bif Nat.ble ((x4.length+1)*8) (140737488355328*1)then L0 (q0r.st0 x0 x1 x3 (x4++[.int .i64 n4]:List T))else none else none else none else bif decide (0<=x2)&&decide (x2<=x3)&&decide (x3<=(x1.size:Int))then(LIM F.q2k [.rref [.sl 2 x0] 0,.str (x1.extract x2.toNat x3.toNat)]).bind fun r5=>bI r5 fun n6=>bif (decide (n6<0))then some (.tup [.sl 1 [],.bool false],[])else bif Nat.ble ((x4.length+1)*8) (140737488355328*1)then L0 (q0r.st0 x0 x1 x3 (x4++[.int .i64 n6]:List T))else none else none:=by kernel_rfl
theorem q0r.ev(a0_0:List T)(a1:ByteArray):q1b prog A H LIM n F.q0r [.rref [.sl 2 a0_0] 0,.str a1]=q0r.at0 n n (q0r.st0 a0_0 a1 (0:Int) []):=by kernel_rfl
def q1m.st0(x0 x1:List T)(x2:Int)(x3 x4:List T):St:=⟨[(0,(.one (.t (.rref [(.sl 1 x0),(.sl 1 x1)] 0)))),(2,(.one (.ptr 128 0))),(4,(.one (.obj 832))),(5,(.one (.obj 1216))),(6,oi x2)],[(128,(.box [.nil,.nil])),(832,(.arr true true 1 x3)),(1216,(.arr true true 1 x4))]⟩
def q1m.K0:=kx F.q1m n [.block 0,.seq 0 (cx F.q1m [1,1,1,1])] (q3v prog A F.q1m)
def q1m.at0:=lx F.q1m n 0 [1,1,1,0,1,0,0] (q1m.K0 n) m s
def q1m.rd0:=rx F.q1m n 0 [1,1,1,0,1,0,0] (q1m.K0 n) L0 s
theorem q1m.next0:q1m.at0 n (m+1) s=q1m.rd0 n (q1m.at0 n m) s:=nx ..
theorem q1m.round0(x0 x1:List T)(x2:Int)(x3 x4:List T):q1m.rd0 n L0 (q1m.st0 x0 x1 x2 x3 x4)=bif (decide (x2<(((x3.length/1):Nat):Int)))then bif inB x2 (x3.length/1)then(x3[x2.toNat*1]?).bind fun e3=>(oInt .i64 e3).bind fun n4=>bif (decide (n4>=0))then L0 (q1m.st0 x0 x1 (IntKind.wrap .i64 (x2+1)) x3 x4)else bif inB x2 (x3.length/1)then(x3[x2.toNat*1]?).bind fun e5=>(oInt .i64 e5).bind fun n6=>(LIM F.q2t [.sl 1 x4,.int .i64 n6]).bind fun r7=>bI r7 fun n8=>bif (decide (n8<0))then bif inB x2 (x3.length/1)then(x3[x2.toNat*1]?).bind fun e9=>(oInt .i64 e9).bind fun n10=>bif Nat.ble ((x4.length+1)*8) (140737488355328*1)then bif inB x2 (x3.length/1)then bif decide ((x2.toNat*1)+1<=x3.length)then L0 (q1m.st0 x0 x1 (IntKind.wrap .i64 (x2+1)) (setCells x3 (x2.toNat*1) [(.int .i64 (IntKind.wrap .i64 ((-1:Int)-(((x4.length/1):Nat):Int))))]) (x4++[.int .i64 n10]:List T))else none else none else none else none else bif inB x2 (x3.length/1)then bif decide ((x2.toNat*1)+1<=x3.length)then L0 (q1m.st0 x0 x1 (IntKind.wrap .i64 (x2+1)) (setCells x3 (x2.toNat*1) [.int .i64 (IntKind.wrap .i64 ((-1:Int)-n8))]) x4)else none else none else none else none else bif (decide ((((x4.length/1):Nat):Int)>6))then some (.tup [.agg [.sl 1 [],.sl 1 []],.bool false],[])else bif decide (0<=(0:Int))&&decide ((0:Int)<=(((x0.length/1):Nat):Int))&&decide ((((x0.length/1):Nat):Int)<=(((x3.length/1):Nat):Int))then(LIM F.q2u [(.sl 1 ((x3.take ((Int.toNat (((x0.length/1):Nat):Int))*1)).drop (0*1)))]).bind fun r11=>bL r11 fun c12=>bif decide (0<=(((x0.length/1):Nat):Int))&&decide ((((x0.length/1):Nat):Int)<=(((x3.length/1):Nat):Int))&&decide ((((x3.length/1):Nat):Int)<=(((x3.length/1):Nat):Int))then(LIM F.q2u [(.sl 1 ((x3.take ((Int.toNat (((x3.length/1):Nat):Int))*1)).drop ((Int.toNat (((x0.length/1):Nat):Int))*1)))]).bind fun r13=>bL r13 fun c14=>some (.tup [.agg [.sl 1 c12,.sl 1 c14],.bool true],[])else none else none:=by kernel_rfl
theorem q1m.ev(a0_0 a0_1:List T):q1b prog A H LIM n F.q1m [.rref [.sl 1 a0_0,.sl 1 a0_1] 0]=(LIM F.q2u [.sl 1 a0_0]).bind fun r1=>bL r1 fun c2=>bif a0_1.all T.scalar then bif Nat.ble ((c2.length+a0_1.length)*8) (140737488355328*1)then q1m.at0 n n (q1m.st0 a0_0 a0_1 (0:Int) (c2++a0_1:List T) [])else none else none:=by kernel_rfl
end
end Ev
end
section
open Go
set_option maxRecDepth 100000
namespace Ev
noncomputable section
variable (n:Nat)(L0 L1 L2 L3 L4 L5:St->R)(m:Nat)(s:St)
def q2v.st0(x0:List T)(x1 x2 x3:Int)(x4:List T)(x5:Int)(x6:List T):St:=⟨[(0,(.one (.ptr 1000000 0))),(1,(.one (.t (.rref [(.sl 2 x0)] 0)))),(4,(.one (.ptr 256 0))),(5,(.one (.obj 640))),(6,oi x1),(7,oi x2),(8,oi x3)],[(1000000,(.box [(.kept 0 (.sl 1 x4)),(.t (.int .i64 x5))])),(256,(.box [.nil,.nil])),(640,(.arr true true 1 x6))]⟩
def q2v.K0:=kx F.q2v n [.block 0,.seq 0 (cx F.q2v [1,1,1,1,1])] (q3v prog A F.q2v)
def q2v.at0:=lx F.q2v n 0 [1,1,1,1,0,1,0,0] (q2v.K0 n) m s
def q2v.rd0:=rx F.q2v n 0 [1,1,1,1,0,1,0,0] (q2v.K0 n) L0 s
theorem q2v.next0:q2v.at0 n (m+1) s=q2v.rd0 n (q2v.at0 n m) s:=nx ..
theorem q2v.round0(x0:List T)(x1 x2 x3:Int)(x4:List T)(x5:Int)(x6:List T):q2v.rd0 n L0 (q2v.st0 x0 x1 x2 x3 x4 x5 x6)=bif (decide (x3<x1))then bif decide (x1=0)then none else bif inB (Int.tmod (IntKind.wrap .i64 (x2+x3)) x1) (x6.length/1)then(x6[(Int.toNat (Int.tmod (IntKind.wrap .i64 (x2+x3)) x1))*1]?).bind fun e9=>(oStr e9).bind fun s10=>(LIM F.q5o [.agg [.sl 2 x0],.str s10]).bind fun r11=>(oNil r11.2).bind fun _=>(oAgg r11.1).bind fun c12=>(q0s c12).bind fun p13=>(oInt .i64 p13.1).bind fun n14=>(q0s p13.2).bind fun p15=>(oSl 1 p15.1).bind fun c16=>(q0s p15.2).bind fun p17=>(oSl 1 p17.1).bind fun c18=>(oNil p17.2).bind fun _=>bif (n14==0)then some (.agg [.sl 1 c16,.sl 1 c18],[.agg [.sl 1 x4,.int .i64 x5]])else L0 (q2v.st0 x0 x1 x2 (IntKind.wrap .i64 (x3+1)) x4 x5 x6)else none else(LIM F.q0h [.rref [.sl 1 x4,.int .i64 x5] 0,.rref [.sl 2 x0] 0,.int .i64 4,.int .i64 2]).bind fun r19=>bS r19 fun c23 n25=>(oSl 1 r19.1).bind fun c26=>(LIM F.q0h [.rref [.sl 1 x4,.int .i64 n25] 0,.rref [.sl 2 x0] 0,.int .i64 2,.int .i64 2]).bind fun r27=>bS r27 fun c31 n33=>(oSl 1 r27.1).bind fun c34=>some (.agg [.sl 1 c26,.sl 1 c34],[.agg [.sl 1 x4,.int .i64 n33]]):=by kernel_rfl
theorem q2v.ev(a0_0:List T)(a0_1:Int)(a1_0:List T):q1b prog A H LIM n F.q2v [.rref [.sl 1 a0_0,.int .i64 a0_1] 0,.rref [.sl 2 a1_0] 0]=(LIM F.q30 [.rref [.sl 1 a0_0,.int .i64 a0_1] 0,.int .i64 18]).bind fun r1=>bS r1 fun c5 n7=>(oInt .i64 r1.1).bind fun n8=>q2v.at0 n n (q2v.st0 a1_0 (18:Int) n8 (0:Int) a0_0 n7 [.str (ByteArray.mk #[109,40,101,44,65,41,61,65]),.str (ByteArray.mk #[109,40,65,44,101,41,61,65]),.str (ByteArray.mk #[109,40,105,40,65,41,44,65,41,61,101]),.str (ByteArray.mk #[105,40,105,40,65,41,41,61,65]),.str (ByteArray.mk #[105,40,101,41,61,101]),.str (ByteArray.mk #[97,100,100,40,97,44,65,41,61,65]),.str (ByteArray.mk #[97,100,100,40,115,117,99,40,65,41,44,66,41,61,115,117,99,40,97,100,100,40,65,44,66,41,41]),.str (ByteArray.mk #[102,40,103,40,65,41,41,61,65]),.str (ByteArray.mk #[102,40,102,40,65,41,41,61,65]),.str (ByteArray.mk #[103,40,102,40,97,41,41,61,97]),.str (ByteArray.mk #[109,40,109,40,65,44,66,41,44,67,41,61,109,40,65,44,109,40,66,44,67,41,41]),.str (ByteArray.mk #[115,117,99,40,115,117,99,40,65,41,41,61,65]),.str (ByteArray.mk #[98,61,97]),.str (ByteArray.mk #[109,40,97,44,97,41,61,97]),.str (ByteArray.mk #[97,100,100,40,65,44,98,41,61,65]),.str (ByteArray.mk #[115,117,99,40,98,41,61,97]),.str (ByteArray.mk #[102,40,102,40,102,40,97,41,41,41,61,97]),.str (ByteArray.mk #[105,40,109,40,65,44,66,41,41,61,109,40,105,40,66,41,44,105,40,65,41,41])]):=by kernel_rfl
theorem q7p.ev(a0_0:List T)(a1:ByteArray):q1b prog A H LIM n F.q7p [.rref [.sl 2 a0_0] 0,.str a1]=bif (decide ((a1.size:Int)>168))then some (.sl 1 [],[])else(LIM F.q0r [.rref [.sl 2 a0_0] 0,.str a1]).bind fun r1=>(oNil r1.2).bind fun _=>(oTup r1.1).bind fun c2=>(q0s c2).bind fun p3=>(oSl 1 p3.1).bind fun c4=>(q0s p3.2).bind fun p5=>(q82 p5.1).bind fun b6=>(oNil p5.2).bind fun _=>bif (!b6)then some (.sl 1 [],[])else(LIM F.q1n [.rref [.sl 2 a0_0] 0,.sl 1 c4]).bind fun r7=>bI r7 fun n8=>bif (n8 != 0)then some (.sl 1 [],[])else(LIM F.q2w [.rref [.sl 2 a0_0] 0,.sl 1 c4,.int .i64 0]).bind fun r9=>(oNil r9.2).bind fun _=>(oStr r9.1).bind fun s10=>bif (!(s10.toList==a1.toList))then some (.sl 1 [],[])else some (.sl 1 c4,[]):=by kernel_rfl
theorem q88.ev(a0_0 a0_1 a1_0 a1_1:List T):q1b prog A H LIM n F.q88 [.rref [.sl 1 a0_0,.sl 1 a0_1] 0,.rref [.sl 1 a1_0,.sl 1 a1_1] 0]=(LIM F.q1r [.sl 1 a0_0,.sl 1 a1_0]).bind fun r1=>bB r1 fun b2=>bif b2 then(LIM F.q1r [.sl 1 a0_1,.sl 1 a1_1]).bind fun r3=>bB r3 fun b4=>some (.bool b4,[])else some (.bool false,[]):=by kernel_rfl
def q2w.st0(x0 x1:List T)(x2:ByteArray)(x3 x4:Int)(x5:ByteArray)(x6:Int):St:=⟨[(0,(.one (.t (.rref [(.sl 2 x0)] 0)))),(1,ol 1 x1),(7,(.one (.ptr 448 0))),(8,(.one (.t (.str x2)))),(9,oi x3),(10,oi x4)],[(448,(.box [(.t (.str x5)),(.t (.int .i64 x6))]))]⟩
def q2w.K0:=kx F.q2w n [.block 0,.seq 0 (cx F.q2w [1,1,1,1,1,1,1])] (q3v prog A F.q2w)
def q2w.at0:=lx F.q2w n 0 [1,1,1,1,1,1,0,1,0,0] (q2w.K0 n) m s
def q2w.rd0:=rx F.q2w n 0 [1,1,1,1,1,1,0,1,0,0] (q2w.K0 n) L0 s
theorem q2w.next0:q2w.at0 n (m+1) s=q2w.rd0 n (q2w.at0 n m) s:=nx ..
theorem q2w.round0(x0 x1:List T)(x2:ByteArray)(x3 x4:Int)(x5:ByteArray)(x6:Int):q2w.rd0 n L0 (q2w.st0 x0 x1 x2 x3 x4 x5 x6)=bif (decide (x4<x6))then bif (decide (x4>0))then bif decide (x2.size+(ByteArray.mk #[44]).size<=9223372036854775807)then(LIM F.q2w [.rref [.sl 2 x0] 0,.sl 1 x1,.int .i64 x3]).bind fun r11=>(oNil r11.2).bind fun _=>(oStr r11.1).bind fun s12=>bif decide ((x2++(ByteArray.mk #[44])).size+s12.size<=9223372036854775807)then(LIM F.q2q [.rref [.sl 2 x0] 0,.sl 1 x1,.int .i64 x3]).bind fun r13=>bI r13 fun n14=>L0 (q2w.st0 x0 x1 ((x2++(ByteArray.mk #[44]))++s12) n14 (IntKind.wrap .i64 (x4+1)) x5 x6)else none else none else(LIM F.q2w [.rref [.sl 2 x0] 0,.sl 1 x1,.int .i64 x3]).bind fun r15=>(oNil r15.2).bind fun _=>(oStr r15.1).bind fun s16=>bif decide (x2.size+s16.size<=9223372036854775807)then(LIM F.q2q [.rref [.sl 2 x0] 0,.sl 1 x1,.int .i64 x3]).bind fun r17=>bI r17 fun n18=>L0 (q2w.st0 x0 x1 (x2++s16) n18 (IntKind.wrap .i64 (x4+1)) x5 x6)else none else bif decide (x2.size+(ByteArray.mk #[41]).size<=9223372036854775807)then some (.str (x2++(ByteArray.mk #[41])),[])else none:=by kernel_rfl
theorem q2w.ev(a0_0 a1:List T)(a2:Int):q1b prog A H LIM n F.q2w [.rref [.sl 2 a0_0] 0,.sl 1 a1,.int .i64 a2]=bif inB a2 (a1.length/1)then(a1[a2.toNat*1]?).bind fun e1=>(oInt .i64 e1).bind fun n2=>bif (decide (n2<0))then bif inB a2 (a1.length/1)then(a1[a2.toNat*1]?).bind fun e3=>(oInt .i64 e3).bind fun n4=>some (.str (List.foldl (fun r n=>ByteArray.push r (UInt8.ofNat n.toNat)) ByteArray.empty [IntKind.wrap .u8 (IntKind.wrap .i64 ((64:Int)-n4))]),[])else none else bif inB a2 (a1.length/1)then(a1[a2.toNat*1]?).bind fun e5=>(oInt .i64 e5).bind fun n6=>bif inB n6 (a0_0.length/2)then(a0_0[n6.toNat*2]?).bind fun e7=>(oStr e7).bind fun s8=>(a0_0[(n6.toNat*2)+1]?).bind fun e9=>(oInt .i64 e9).bind fun n10=>bif (n10==0)then some (.str s8,[])else bif decide (s8.size+(ByteArray.mk #[40]).size<=9223372036854775807)then q2w.at0 n n (q2w.st0 a0_0 a1 (s8++(ByteArray.mk #[40])) (IntKind.wrap .i64 (a2+1)) (0:Int) s8 n10)else none else none else none else none:=by kernel_rfl
def q1h.st0(x0:List T)(x1:Int)(x2:List T)(x3:Int)(x4:List T):St:=⟨[(0,(.one (.ptr 1000000 0))),(1,(.one (.t (.rref [(.sl 2 x0)] 0)))),(5,(.one (.obj 960))),(6,oi x1)],[(1000000,(.box [(.kept 0 (.sl 1 x2)),(.t (.int .i64 x3))])),(960,(.arr true true 2 x4))]⟩
def q1h.K0:=kx F.q1h n [.block 0,.seq 0 (cx F.q1h [1,1,0,1,0,1,1]),.seq 0 (cx F.q1h [1,1,1])] (q3v prog A F.q1h)
def q1h.at0:=lx F.q1h n 0 [1,1,0,1,0,1,0,1,0,0] (q1h.K0 n) m s
def q1h.rd0:=rx F.q1h n 0 [1,1,0,1,0,1,0,1,0,0] (q1h.K0 n) L0 s
theorem q1h.next0:q1h.at0 n (m+1) s=q1h.rd0 n (q1h.at0 n m) s:=nx ..
theorem q1h.round0(x0:List T)(x1:Int)(x2:List T)(x3:Int)(x4:List T):q1h.rd0 n L0 (q1h.st0 x0 x1 x2 x3 x4)=bif (decide (x1>0))then(LIM F.q6i [.rref [.sl 1 x2,.int .i64 x3] 0,.rref [.sl 2 x0] 0]).bind fun r19=>bS r19 fun c23 n25=>(oAgg r19.1).bind fun c26=>(q0s c26).bind fun p27=>(oSl 1 p27.1).bind fun c28=>(q0s p27.2).bind fun p29=>(oSl 1 p29.1).bind fun c30=>(oNil p29.2).bind fun _=>bif Nat.ble ((x4.length+2)*48) (140737488355328*2)then L0 (q1h.st0 x0 (IntKind.wrap .i64 (x1-1)) x2 n25 (x4++[.sl 1 c28,.sl 1 c30]:List T))else none else some (.sl 2 x4,[.agg [.sl 1 x2,.int .i64 x3]]):=by kernel_rfl
theorem q1h.ev(a0_0:List T)(a0_1:Int)(a1_0:List T):q1b prog A H LIM n F.q1h [.rref [.sl 1 a0_0,.int .i64 a0_1] 0,.rref [.sl 2 a1_0] 0]=(LIM F.q02 [.agg [.sl 2 a1_0]]).bind fun r1=>bI r1 fun n2=>bif (n2 != 0)then some (.sl 2 [],[.agg [.sl 1 a0_0,.int .i64 a0_1]])else(LIM F.q3u [.rref [.sl 1 a0_0,.int .i64 a0_1] 0,.int .i64 20]).bind fun r3=>bS r3 fun c7 n9=>(q82 r3.1).bind fun b10=>bif b10 then(LIM F.q45 [.rref [.sl 1 a0_0,.int .i64 n9] 0,.sl 1 [.int .i64 12,.int .i64 13]]).bind fun r11=>bS r11 fun c15 n17=>(oInt .i64 r11.1).bind fun n18=>q1h.at0 n n (q1h.st0 a1_0 n18 a0_0 n17 [])else(LIM F.q1d [.rref [.sl 1 a0_0,.int .i64 n9] 0,.rref [.sl 2 a1_0] 0,.int .i64 4]).bind fun r31=>bS r31 fun c35 n37=>(oSl 2 r31.1).bind fun c38=>(LIM F.q3u [.rref [.sl 1 a0_0,.int .i64 n37] 0,.int .i64 7]).bind fun r39=>bS r39 fun c43 n45=>(q82 r39.1).bind fun b46=>bif b46 then(LIM F.q52 [.rref [.sl 1 a0_0,.int .i64 n45] 0,.rref [.sl 2 a1_0] 0]).bind fun r47=>bS r47 fun c51 n53=>(oAgg r47.1).bind fun c54=>(q0s c54).bind fun p55=>(oSl 1 p55.1).bind fun c56=>(q0s p55.2).bind fun p57=>(oSl 1 p57.1).bind fun c58=>(oNil p57.2).bind fun _=>bif Nat.ble ((c38.length+2)*48) (140737488355328*2)then some (.sl 2 (c38++[.sl 1 c56,.sl 1 c58]:List T),[.agg [.sl 1 a0_0,.int .i64 n53]])else none else some (.sl 2 c38,[.agg [.sl 1 a0_0,.int .i64 n45]]):=by kernel_rfl
def q1d.st0(x0:List T)(x1:Int)(x2:List T)(x3:Int)(x4:List T):St:=⟨[(0,(.one (.ptr 1000000 0))),(1,(.one (.t (.rref [(.sl 2 x0)] 0)))),(7,(.one (.obj 576))),(8,oi x1)],[(1000000,(.box [(.kept 0 (.sl 1 x2)),(.t (.int .i64 x3))])),(576,(.arr true true 2 x4))]⟩
def q1d.K0:=kx F.q1d n [.block 0,.seq 0 (cx F.q1d [1,1,1])] (q3v prog A F.q1d)
def q1d.at0:=lx F.q1d n 0 [1,1,0,1,0,0] (q1d.K0 n) m s
def q1d.rd0:=rx F.q1d n 0 [1,1,0,1,0,0] (q1d.K0 n) L0 s
theorem q1d.next0:q1d.at0 n (m+1) s=q1d.rd0 n (q1d.at0 n m) s:=nx ..
theorem q1d.round0(x0:List T)(x1:Int)(x2:List T)(x3:Int)(x4:List T):q1d.rd0 n L0 (q1d.st0 x0 x1 x2 x3 x4)=bif (decide (x1>0))then(LIM F.q6i [.rref [.sl 1 x2,.int .i64 x3] 0,.rref [.sl 2 x0] 0]).bind fun r9=>bS r9 fun c13 n15=>(oAgg r9.1).bind fun c16=>(q0s c16).bind fun p17=>(oSl 1 p17.1).bind fun c18=>(q0s p17.2).bind fun p19=>(oSl 1 p19.1).bind fun c20=>(oNil p19.2).bind fun _=>bif Nat.ble ((x4.length+2)*48) (140737488355328*2)then L0 (q1d.st0 x0 (IntKind.wrap .i64 (x1-1)) x2 n15 (x4++[.sl 1 c18,.sl 1 c20]:List T))else none else some (.sl 2 x4,[.agg [.sl 1 x2,.int .i64 x3]]):=by kernel_rfl
theorem q1d.ev(a0_0:List T)(a0_1:Int)(a1_0:List T)(a2:Int):q1b prog A H LIM n F.q1d [.rref [.sl 1 a0_0,.int .i64 a0_1] 0,.rref [.sl 2 a1_0] 0,.int .i64 a2]=(LIM F.q30 [.rref [.sl 1 a0_0,.int .i64 a0_1] 0,.int .i64 (IntKind.wrap .i64 (a2+1))]).bind fun r1=>bS r1 fun c5 n7=>(oInt .i64 r1.1).bind fun n8=>q1d.at0 n n (q1d.st0 a1_0 n8 a0_0 n7 []):=by kernel_rfl
def q2e.st0(x0 x1:List T)(x2:Int):St:=⟨[(0,(.one (.t (.rref [(.sl 2 x0)] 0)))),(1,ol 2 x1),(5,oi x2)],[]⟩
def q2e.K0:=kx F.q2e n [.block 0,.seq 0 (cx F.q2e [1,1,1])] (q3v prog A F.q2e)
def q2e.at0:=lx F.q2e n 0 [1,1,0,1,0,0] (q2e.K0 n) m s
def q2e.rd0:=rx F.q2e n 0 [1,1,0,1,0,0] (q2e.K0 n) L0 s
theorem q2e.next0:q2e.at0 n (m+1) s=q2e.rd0 n (q2e.at0 n m) s:=nx ..
theorem q2e.round0(x0 x1:List T)(x2:Int):q2e.rd0 n L0 (q2e.st0 x0 x1 x2)=bif (decide (x2<(((x1.length/2):Nat):Int)))then bif inB x2 (x1.length/2)then(LIM F.q6s [.rref [.sl 2 x0] 0,.rref ((x1.drop (x2.toNat*2)).take 2) 0]).bind fun r1=>bI r1 fun n2=>bif (n2 != 0)then some (.int .i64 n2,[])else L0 (q2e.st0 x0 x1 (IntKind.wrap .i64 (x2+1)))else none else some (.int .i64 0,[]):=by kernel_rfl
theorem q2e.ev(a0_0 a1:List T):q1b prog A H LIM n F.q2e [.rref [.sl 2 a0_0] 0,.sl 2 a1]=bif (decide ((((a1.length/2):Nat):Int)>12))then some (.int .i64 2,[])else q2e.at0 n n (q2e.st0 a0_0 a1 (0:Int)):=by kernel_rfl
def q1f.st0(x0 x1 x2:List T)(x3:Int)(x4:List T):St:=⟨[(0,(.one (.t (.rref [(.sl 1 x0),(.sl 1 x1)] 0)))),(1,ol 1 x2),(5,(.one (.obj 512))),(6,oi x3)],[(512,(.arr true true 1 x4))]⟩
def q1f.K0:=kx F.q1f n [.block 0,.seq 0 (cx F.q1f [1,1,1])] (q3v prog A F.q1f)
def q1f.at0:=lx F.q1f n 0 [1,1,0,1,0,0] (q1f.K0 n) m s
def q1f.rd0:=rx F.q1f n 0 [1,1,0,1,0,0] (q1f.K0 n) L0 s
theorem q1f.next0:q1f.at0 n (m+1) s=q1f.rd0 n (q1f.at0 n m) s:=nx ..
theorem q1f.round0(x0 x1 x2:List T)(x3:Int)(x4:List T):q1f.rd0 n L0 (q1f.st0 x0 x1 x2 x3 x4)=bif (decide (x3<(((x2.length/1):Nat):Int)))then bif inB x3 (x2.length/1)then(x2[x3.toNat*1]?).bind fun e1=>(oInt .i64 e1).bind fun n2=>bif (decide (n2<0))then bif inB x3 (x2.length/1)then(x2[x3.toNat*1]?).bind fun e3=>(oInt .i64 e3).bind fun n4=>(LIM F.q31 [.rref [.sl 1 x0,.sl 1 x1] 0,.int .i64 (IntKind.wrap .i64 ((-1:Int)-n4))]).bind fun r5=>bL r5 fun c6=>bif c6.all T.scalar then bif (((((c6.length/1):Nat):Int)==0))then bif inB x3 (x2.length/1)then(x2[x3.toNat*1]?).bind fun e7=>(oInt .i64 e7).bind fun n8=>bif Nat.ble ((x4.length+1)*8) (140737488355328*1)then L0 (q1f.st0 x0 x1 x2 (IntKind.wrap .i64 (x3+1)) (x4++[.int .i64 n8]:List T))else none else none else bif c6.all T.scalar then bif Nat.ble ((x4.length+c6.length)*8) (140737488355328*1)then L0 (q1f.st0 x0 x1 x2 (IntKind.wrap .i64 (x3+1)) (x4++c6:List T))else none else none else none else none else bif inB x3 (x2.length/1)then(x2[x3.toNat*1]?).bind fun e9=>(oInt .i64 e9).bind fun n10=>bif Nat.ble ((x4.length+1)*8) (140737488355328*1)then L0 (q1f.st0 x0 x1 x2 (IntKind.wrap .i64 (x3+1)) (x4++[.int .i64 n10]:List T))else none else none else none else some (.sl 1 x4,[]):=by kernel_rfl
theorem q1f.ev(a0_0 a0_1 a1:List T):q1b prog A H LIM n F.q1f [.rref [.sl 1 a0_0,.sl 1 a0_1] 0,.sl 1 a1]=q1f.at0 n n (q1f.st0 a0_0 a0_1 a1 (0:Int) []):=by kernel_rfl
def q3b.st0(x0 x1 x2:List T)(x3 x4 x5:Int)(x6:List T):St:=⟨[(0,(.one (.t (.rref [(.sl 2 x0)] 0)))),(1,ol 1 x1),(2,ol 1 x2),(7,(.one (.obj 832))),(8,oi x3),(9,oi x4),(10,oi x5)],[(832,(.arr true true 2 x6))]⟩
def q3b.K0:=kx F.q3b n [.block 0,.seq 0 (cx F.q3b [1,1,1,1,1])] (q3v prog A F.q3b)
def q3b.at0:=lx F.q3b n 0 [1,1,1,1,0,1,0,0] (q3b.K0 n) m s
def q3b.rd0:=rx F.q3b n 0 [1,1,1,1,0,1,0,0] (q3b.K0 n) L0 s
theorem q3b.next0:q3b.at0 n (m+1) s=q3b.rd0 n (q3b.at0 n m) s:=nx ..
theorem q3b.round0(x0 x1 x2:List T)(x3 x4 x5:Int)(x6:List T):q3b.rd0 n L0 (q3b.st0 x0 x1 x2 x3 x4 x5 x6)=bif inB (0:Int) (x1.length/1)then(x1[0]?).bind fun e1=>(oInt .i64 e1).bind fun n2=>bif inB n2 (x0.length/2)then(x0[(n2.toNat*2)+1]?).bind fun e3=>(oInt .i64 e3).bind fun n4=>bif (decide (x5<n4))then(LIM F.q6w [.rref [.sl 2 x0] 0,.sl 1 x1,.int .i64 x3]).bind fun r5=>bL r5 fun c6=>(LIM F.q6w [.rref [.sl 2 x0] 0,.sl 1 x2,.int .i64 x4]).bind fun r7=>bL r7 fun c8=>bif Nat.ble ((x6.length+2)*48) (140737488355328*2)then L0 (q3b.st0 x0 x1 x2 (IntKind.wrap .i64 (x3+(((c6.length/1):Nat):Int))) (IntKind.wrap .i64 (x4+(((c8.length/1):Nat):Int))) (IntKind.wrap .i64 (x5+1)) (x6++[.sl 1 c6,.sl 1 c8]:List T))else none else some (.sl 2 x6,[])else none else none:=by kernel_rfl
theorem q3b.ev(a0_0 a1 a2:List T):q1b prog A H LIM n F.q3b [.rref [.sl 2 a0_0] 0,.sl 1 a1,.sl 1 a2]=q3b.at0 n n (q3b.st0 a0_0 a1 a2 (1:Int) (1:Int) (0:Int) []):=by kernel_rfl
def q2j.st0(x0 x1:List T)(x2:Int)(x3:List T)(x4:Int)(x5 x6 x7 x8:List T):St:=⟨[(0,(.one (.t (.rref [(.sl 1 x0),(.sl 1 x1)] 0)))),(1,oi x2),(2,ol 1 x3),(6,(.one (.ptr 384 0))),(8,(.one (.ptr 512 0))),(9,(.one (.ptr 576 0))),(10,oi x4)],[(384,(.box [.nil,.nil])),(1216,(.arr true true 1 x5)),(1344,(.arr true false 1 x6)),(512,(.box [(.obj 1216),(.obj 1344)])),(1728,(.arr true true 1 x7)),(576,(.box [(.obj 1728),(.obj 519217)])),(519217,(.arr true true 1 x8))]⟩
def q2j.K0:=kx F.q2j n [.block 0,.seq 0 (cx F.q2j [1,1,1,1,1])] (q3v prog A F.q2j)
def q2j.at0:=lx F.q2j n 0 [1,1,1,1,0,1,0,0] (q2j.K0 n) m s
def q2j.rd0:=rx F.q2j n 0 [1,1,1,1,0,1,0,0] (q2j.K0 n) L0 s
theorem q2j.next0:q2j.at0 n (m+1) s=q2j.rd0 n (q2j.at0 n m) s:=nx ..
theorem q2j.round0(x0 x1:List T)(x2:Int)(x3:List T)(x4:Int)(x5 x6 x7 x8:List T):q2j.rd0 n L0 (q2j.st0 x0 x1 x2 x3 x4 x5 x6 x7 x8)=bif (decide (x4<(((x1.length/1):Nat):Int)))then bif inB x4 (x1.length/1)then(x1[x4.toNat*1]?).bind fun e5=>(oSl 1 e5).bind fun c6=>(LIM F.q1f [.rref [.sl 1 x5,.sl 1 x6] 0,.sl 1 c6]).bind fun r7=>bL r7 fun c8=>bif (decide ((((c8.length/1):Nat):Int)>24))then some (.tup [.agg [.sl 1 [],.sl 1 []],.int .i64 2],[])else bif Nat.ble ((x8.length+1)*24) (140737488355328*1)then L0 (q2j.st0 x0 x1 x2 x3 (IntKind.wrap .i64 (x4+1)) x5 x6 x7 (x8++[.sl 1 c8]:List T))else none else none else(LIM F.q24 [.rref [.sl 1 x7,.sl 1 x8] 0,.int .i64 x2,.sl 1 x3]).bind fun r9=>bQ r9 fun c12 c14=>some (.tup [.agg [.sl 1 c12,.sl 1 c14],.int .i64 0],[]):=by kernel_rfl
theorem q2j.ev(a0_0 a0_1:List T)(a1:Int)(a2:List T):q1b prog A H LIM n F.q2j [.rref [.sl 1 a0_0,.sl 1 a0_1] 0,.int .i64 a1,.sl 1 a2]=(LIM F.q22 [.sl 1 a2,.int .i64 (IntKind.wrap .i64 ((-1:Int)-a1))]).bind fun r1=>bI r1 fun n2=>bif (decide (n2>0))then some (.tup [.agg [.sl 1 [],.sl 1 []],.int .i64 4],[])else(LIM F.q2u [.sl 1 a0_0]).bind fun r3=>bL r3 fun c4=>q2j.at0 n n (q2j.st0 a0_0 a0_1 a1 a2 (0:Int) [.int .i64 a1] [.sl 1 a2] c4 []):=by kernel_rfl
def q1o.st0(x0 x1 x2:List T)(x3 x4:Int)(x5 x6:List T):St:=⟨[(0,(.one (.t (.rref [(.sl 2 x0)] 0)))),(1,ol 1 x1),(2,ol 1 x2),(3,oi x3),(8,(.one (.ptr 512 0))),(10,(.one (.ptr 640 0))),(11,oi x4)],[(512,(.box [.nil,.nil])),(640,(.box [(.obj 520240),(.obj 520241)])),(520240,(.arr true true 1 x5)),(520241,(.arr true true 1 x6))]⟩
def q1o.K0:=kx F.q1o n [.block 0,.seq 0 (cx F.q1o [1,1,1])] (q3v prog A F.q1o)
def q1o.at0:=lx F.q1o n 0 [1,1,0,1,0,0] (q1o.K0 n) m s
def q1o.rd0:=rx F.q1o n 0 [1,1,0,1,0,0] (q1o.K0 n) L0 s
theorem q1o.next0:q1o.at0 n (m+1) s=q1o.rd0 n (q1o.at0 n m) s:=nx ..
theorem q1o.round0(x0 x1 x2:List T)(x3 x4:Int)(x5 x6:List T):q1o.rd0 n L0 (q1o.st0 x0 x1 x2 x3 x4 x5 x6)=bif (decide (x4<(((x1.length/1):Nat):Int)))then bif (decide (x3>=(((x2.length/1):Nat):Int)))then some (.tup [.agg [.sl 1 [],.sl 1 []],.bool false],[])else bif inB x4 (x1.length/1)then(x1[x4.toNat*1]?).bind fun e1=>(oInt .i64 e1).bind fun n2=>bif (decide (n2>=0))then bif inB x3 (x2.length/1)then(x2[x3.toNat*1]?).bind fun e3=>(oInt .i64 e3).bind fun n4=>bif inB x4 (x1.length/1)then(x1[x4.toNat*1]?).bind fun e5=>(oInt .i64 e5).bind fun n6=>bif (n4 != n6)then some (.tup [.agg [.sl 1 [],.sl 1 []],.bool false],[])else L0 (q1o.st0 x0 x1 x2 (IntKind.wrap .i64 (x3+1)) (IntKind.wrap .i64 (x4+1)) x5 x6)else none else none else(LIM F.q6w [.rref [.sl 2 x0] 0,.sl 1 x2,.int .i64 x3]).bind fun r7=>bL r7 fun c8=>bif inB x4 (x1.length/1)then(x1[x4.toNat*1]?).bind fun e9=>(oInt .i64 e9).bind fun n10=>(LIM F.q31 [.rref [.sl 1 x5,.sl 1 x6] 0,.int .i64 (IntKind.wrap .i64 ((-1:Int)-n10))]).bind fun r11=>bL r11 fun c12=>bif c12.all T.scalar then bif (((((c12.length/1):Nat):Int)==0))then bif inB x4 (x1.length/1)then(x1[x4.toNat*1]?).bind fun e13=>(oInt .i64 e13).bind fun n14=>(LIM F.q24 [.rref [.sl 1 x5,.sl 1 x6] 0,.int .i64 (IntKind.wrap .i64 ((-1:Int)-n14)),.sl 1 c8]).bind fun r15=>bQ r15 fun c18 c20=>L0 (q1o.st0 x0 x1 x2 (IntKind.wrap .i64 (x3+(((c8.length/1):Nat):Int))) (IntKind.wrap .i64 (x4+1)) c18 c20)else none else(LIM F.q1r [.sl 1 c12,.sl 1 c8]).bind fun r21=>bB r21 fun b22=>bif (!b22)then some (.tup [.agg [.sl 1 [],.sl 1 []],.bool false],[])else L0 (q1o.st0 x0 x1 x2 (IntKind.wrap .i64 (x3+(((c8.length/1):Nat):Int))) (IntKind.wrap .i64 (x4+1)) x5 x6)else none else none else none else some (.tup [.agg [.sl 1 x5,.sl 1 x6],.bool true],[]):=by kernel_rfl
theorem q1o.ev(a0_0 a1 a2:List T)(a3:Int):q1b prog A H LIM n F.q1o [.rref [.sl 2 a0_0] 0,.sl 1 a1,.sl 1 a2,.int .i64 a3]=q1o.at0 n n (q1o.st0 a0_0 a1 a2 a3 (0:Int) [] []):=by kernel_rfl
def q2a.st0(x0:List T)(x1 x2:Int)(x3:List T):St:=⟨[(0,ol 1 x0),(1,oi x1),(5,(.one (.obj 448))),(6,oi x2)],[(448,(.arr true true 1 x3))]⟩
def q2a.K0:=kx F.q2a n [.block 0,.seq 0 (cx F.q2a [1,1,1])] (q3v prog A F.q2a)
def q2a.at0:=lx F.q2a n 0 [1,1,0,1,0,0] (q2a.K0 n) m s
def q2a.rd0:=rx F.q2a n 0 [1,1,0,1,0,0] (q2a.K0 n) L0 s
theorem q2a.next0:q2a.at0 n (m+1) s=q2a.rd0 n (q2a.at0 n m) s:=nx ..
theorem q2a.round0(x0:List T)(x1 x2:Int)(x3:List T):q2a.rd0 n L0 (q2a.st0 x0 x1 x2 x3)=bif (decide (x2<(((x0.length/1):Nat):Int)))then bif inB x2 (x0.length/1)then(x0[x2.toNat*1]?).bind fun e1=>(oInt .i64 e1).bind fun n2=>bif (decide (n2<0))then bif inB x2 (x0.length/1)then(x0[x2.toNat*1]?).bind fun e3=>(oInt .i64 e3).bind fun n4=>bif Nat.ble ((x3.length+1)*8) (140737488355328*1)then L0 (q2a.st0 x0 x1 (IntKind.wrap .i64 (x2+1)) (x3++[.int .i64 (IntKind.wrap .i64 (n4-x1))]:List T))else none else none else bif inB x2 (x0.length/1)then(x0[x2.toNat*1]?).bind fun e5=>(oInt .i64 e5).bind fun n6=>bif Nat.ble ((x3.length+1)*8) (140737488355328*1)then L0 (q2a.st0 x0 x1 (IntKind.wrap .i64 (x2+1)) (x3++[.int .i64 n6]:List T))else none else none else none else some (.sl 1 x3,[]):=by kernel_rfl
theorem q2a.ev(a0:List T)(a1:Int):q1b prog A H LIM n F.q2a [.sl 1 a0,.int .i64 a1]=q2a.at0 n n (q2a.st0 a0 a1 (0:Int) []):=by kernel_rfl
def q31.st0(x0 x1:List T)(x2 x3:Int):St:=⟨[(0,(.one (.t (.rref [(.sl 1 x0),(.sl 1 x1)] 0)))),(1,oi x2),(5,oi x3)],[]⟩
def q31.K0:=kx F.q31 n [.block 0,.seq 0 (cx F.q31 [1,1])] (q3v prog A F.q31)
def q31.at0:=lx F.q31 n 0 [1,0,1,0,0] (q31.K0 n) m s
def q31.rd0:=rx F.q31 n 0 [1,0,1,0,0] (q31.K0 n) L0 s
theorem q31.next0:q31.at0 n (m+1) s=q31.rd0 n (q31.at0 n m) s:=nx ..
theorem q31.round0(x0 x1:List T)(x2 x3:Int):q31.rd0 n L0 (q31.st0 x0 x1 x2 x3)=bif (decide (x3<(((x0.length/1):Nat):Int)))then bif inB x3 (x0.length/1)then(x0[x3.toNat*1]?).bind fun e1=>(oInt .i64 e1).bind fun n2=>bif (n2==x2)then bif inB x3 (x1.length/1)then(x1[x3.toNat*1]?).bind fun e3=>(oSl 1 e3).bind fun c4=>some (.sl 1 c4,[])else none else L0 (q31.st0 x0 x1 x2 (IntKind.wrap .i64 (x3+1)))else none else some (.sl 1 [],[]):=by kernel_rfl
theorem q31.ev(a0_0 a0_1:List T)(a1:Int):q1b prog A H LIM n F.q31 [.rref [.sl 1 a0_0,.sl 1 a0_1] 0,.int .i64 a1]=q31.at0 n n (q31.st0 a0_0 a0_1 a1 (0:Int)):=by kernel_rfl
def q1t.st0(x0 x1 x2 x3:List T):St:=⟨[(0,(.one (.t (.rref [(.sl 2 x0)] 0)))),(6,(.one (.ptr 384 0))),(8,(.one (.ptr 512 0))),(9,ol 2 x1)],[(384,(.box [.nil,.nil])),(512,(.box [(.obj 518192),(.obj 518193)])),(518192,(.arr true true 1 x2)),(518193,(.arr true true 1 x3))]⟩
def q1t.K0:=kx F.q1t n [.block 0,.seq 0 (cx F.q1t [1,1,1,1])] (q3v prog A F.q1t)
def q1t.at0:=lx F.q1t n 0 [1,1,1,0,0,0] (q1t.K0 n) m s
def q1t.rd0:=rx F.q1t n 0 [1,1,1,0,0,0] (q1t.K0 n) L0 s
theorem q1t.next0:q1t.at0 n (m+1) s=q1t.rd0 n (q1t.at0 n m) s:=nx ..
theorem q1t.round0(x0 x1 x2 x3:List T):q1t.rd0 n L0 (q1t.st0 x0 x1 x2 x3)=bif (decide ((((x1.length/2):Nat):Int)>0))then bif inB (0:Int) (x1.length/2)then(x1[0]?).bind fun e5=>(oSl 1 e5).bind fun c6=>(LIM F.q1f [.rref [.sl 1 x2,.sl 1 x3] 0,.sl 1 c6]).bind fun r7=>bL r7 fun c8=>bif inB (0:Int) (x1.length/2)then(x1[1]?).bind fun e9=>(oSl 1 e9).bind fun c10=>(LIM F.q1f [.rref [.sl 1 x2,.sl 1 x3] 0,.sl 1 c10]).bind fun r11=>bL r11 fun c12=>bif decide (0<=(1:Int))&&decide ((1:Int)<=(((x1.length/2):Nat):Int))&&decide ((((x1.length/2):Nat):Int)<=(((x1.length/2):Nat):Int))then bif (decide ((((c8.length/1):Nat):Int)>24))then some (.tup [.agg [.sl 1 [],.sl 1 []],.int .i64 2],[])else bif (decide ((((c12.length/1):Nat):Int)>24))then some (.tup [.agg [.sl 1 [],.sl 1 []],.int .i64 2],[])else(LIM F.q1r [.sl 1 c8,.sl 1 c12]).bind fun r13=>bB r13 fun b14=>bif b14 then L0 (q1t.st0 x0 ((x1.take ((Int.toNat (((x1.length/2):Nat):Int))*2)).drop (1*2)) x2 x3)else bif inB (0:Int) (c8.length/1)then(c8[0]?).bind fun e15=>(oInt .i64 e15).bind fun n16=>bif (decide (n16<0))then bif inB (0:Int) (c8.length/1)then(c8[0]?).bind fun e17=>(oInt .i64 e17).bind fun n18=>(LIM F.q2j [.rref [.sl 1 x2,.sl 1 x3] 0,.int .i64 (IntKind.wrap .i64 ((-1:Int)-n18)),.sl 1 c12]).bind fun r19=>(oNil r19.2).bind fun _=>(oTup r19.1).bind fun c20=>(q0s c20).bind fun p21=>(oAgg p21.1).bind fun c22=>(q0s c22).bind fun p23=>(oSl 1 p23.1).bind fun c24=>(q0s p23.2).bind fun p25=>(oSl 1 p25.1).bind fun c26=>(oNil p25.2).bind fun _=>(q0s p21.2).bind fun p27=>(oInt .i64 p27.1).bind fun n28=>(oNil p27.2).bind fun _=>bif (n28 != 0)then some (.tup [.agg [.sl 1 [],.sl 1 []],.int .i64 n28],[])else L0 (q1t.st0 x0 ((x1.take ((Int.toNat (((x1.length/2):Nat):Int))*2)).drop (1*2)) c24 c26)else none else bif inB (0:Int) (c12.length/1)then(c12[0]?).bind fun e29=>(oInt .i64 e29).bind fun n30=>bif (decide (n30<0))then bif inB (0:Int) (c12.length/1)then(c12[0]?).bind fun e31=>(oInt .i64 e31).bind fun n32=>(LIM F.q2j [.rref [.sl 1 x2,.sl 1 x3] 0,.int .i64 (IntKind.wrap .i64 ((-1:Int)-n32)),.sl 1 c8]).bind fun r33=>(oNil r33.2).bind fun _=>(oTup r33.1).bind fun c34=>(q0s c34).bind fun p35=>(oAgg p35.1).bind fun c36=>(q0s c36).bind fun p37=>(oSl 1 p37.1).bind fun c38=>(q0s p37.2).bind fun p39=>(oSl 1 p39.1).bind fun c40=>(oNil p39.2).bind fun _=>(q0s p35.2).bind fun p41=>(oInt .i64 p41.1).bind fun n42=>(oNil p41.2).bind fun _=>bif (n42 != 0)then some (.tup [.agg [.sl 1 [],.sl 1 []],.int .i64 n42],[])else L0 (q1t.st0 x0 ((x1.take ((Int.toNat (((x1.length/2):Nat):Int))*2)).drop (1*2)) c38 c40)else none else bif inB (0:Int) (c8.length/1)then(c8[0]?).bind fun e43=>(oInt .i64 e43).bind fun n44=>bif inB (0:Int) (c12.length/1)then(c12[0]?).bind fun e45=>(oInt .i64 e45).bind fun n46=>bif (n44 != n46)then some (.tup [.agg [.sl 1 [],.sl 1 []],.int .i64 4],[])else(LIM F.q3b [.rref [.sl 2 x0] 0,.sl 1 c8,.sl 1 c12]).bind fun r47=>bM r47 fun c48=>bif Nat.ble ((c48.length+(((x1.take ((Int.toNat (((x1.length/2):Nat):Int))*2)).drop (1*2))).length)*48) (140737488355328*2)then L0 (q1t.st0 x0 (c48++((x1.take ((Int.toNat (((x1.length/2):Nat):Int))*2)).drop (1*2)):List T) x2 x3)else none else none else none else none else none else none else none else none else some (.tup [.agg [.sl 1 x2,.sl 1 x3],.int .i64 0],[]):=by kernel_rfl
theorem q1t.ev(a0_0 a1 a2:List T):q1b prog A H LIM n F.q1t [.rref [.sl 2 a0_0] 0,.sl 1 a1,.sl 1 a2]=(LIM F.q2u [.sl 1 a1]).bind fun r1=>bL r1 fun c2=>(LIM F.q2u [.sl 1 a2]).bind fun r3=>bL r3 fun c4=>q1t.at0 n n (q1t.st0 a0_0 [.sl 1 c2,.sl 1 c4] [] []):=by kernel_rfl
def q24.st0(x0 x1:List T)(x2:Int)(x3:List T)(x4:Bool)(x5:Int)(x6 x7:List T):St:=⟨[(0,(.one (.t (.rref [(.sl 1 x0),(.sl 1 x1)] 0)))),(1,oi x2),(2,ol 1 x3),(6,(.one (.ptr 384 0))),(7,(.one (.ptr 448 0))),(8,(.one (.t (.bool x4)))),(9,oi x5)],[(384,(.box [.nil,.nil])),(448,(.box [(.obj 517168),(.obj 517169)])),(517168,(.arr true true 1 x6)),(517169,(.arr true true 1 x7))]⟩
def q24.K0:=kx F.q24 n [.block 0,.seq 0 (cx F.q24 [1,1,1,1])] (q3v prog A F.q24)
def q24.at0:=lx F.q24 n 0 [1,1,1,0,1,0,0] (q24.K0 n) m s
def q24.rd0:=rx F.q24 n 0 [1,1,1,0,1,0,0] (q24.K0 n) L0 s
theorem q24.next0:q24.at0 n (m+1) s=q24.rd0 n (q24.at0 n m) s:=nx ..
theorem q24.round0(x0 x1:List T)(x2:Int)(x3:List T)(x4:Bool)(x5:Int)(x6 x7:List T):q24.rd0 n L0 (q24.st0 x0 x1 x2 x3 x4 x5 x6 x7)=bif (decide (x5<(((x0.length/1):Nat):Int)))then bif (!x4)then bif inB x5 (x0.length/1)then(x0[x5.toNat*1]?).bind fun e1=>(oInt .i64 e1).bind fun n2=>bif (decide (n2>x2))then bif Nat.ble ((x6.length+1)*8) (140737488355328*1)then(LIM F.q2u [.sl 1 x3]).bind fun r3=>bL r3 fun c4=>bif Nat.ble ((x7.length+1)*24) (140737488355328*1)then bif inB x5 (x0.length/1)then(x0[x5.toNat*1]?).bind fun e5=>(oInt .i64 e5).bind fun n6=>bif Nat.ble ((((x6++[.int .i64 x2]:List T)).length+1)*8) (140737488355328*1)then bif inB x5 (x1.length/1)then(x1[x5.toNat*1]?).bind fun e7=>(oSl 1 e7).bind fun c8=>(LIM F.q2u [.sl 1 c8]).bind fun r9=>bL r9 fun c10=>bif Nat.ble ((((x7++[.sl 1 c4]:List T)).length+1)*24) (140737488355328*1)then L0 (q24.st0 x0 x1 x2 x3 true (IntKind.wrap .i64 (x5+1)) ((x6++[.int .i64 x2]:List T)++[.int .i64 n6]:List T) ((x7++[.sl 1 c4]:List T)++[.sl 1 c10]:List T))else none else none else none else none else none else none else bif inB x5 (x0.length/1)then(x0[x5.toNat*1]?).bind fun e11=>(oInt .i64 e11).bind fun n12=>bif Nat.ble ((x6.length+1)*8) (140737488355328*1)then bif inB x5 (x1.length/1)then(x1[x5.toNat*1]?).bind fun e13=>(oSl 1 e13).bind fun c14=>(LIM F.q2u [.sl 1 c14]).bind fun r15=>bL r15 fun c16=>bif Nat.ble ((x7.length+1)*24) (140737488355328*1)then L0 (q24.st0 x0 x1 x2 x3 x4 (IntKind.wrap .i64 (x5+1)) (x6++[.int .i64 n12]:List T) (x7++[.sl 1 c16]:List T))else none else none else none else none else none else bif inB x5 (x0.length/1)then(x0[x5.toNat*1]?).bind fun e17=>(oInt .i64 e17).bind fun n18=>bif Nat.ble ((x6.length+1)*8) (140737488355328*1)then bif inB x5 (x1.length/1)then(x1[x5.toNat*1]?).bind fun e19=>(oSl 1 e19).bind fun c20=>(LIM F.q2u [.sl 1 c20]).bind fun r21=>bL r21 fun c22=>bif Nat.ble ((x7.length+1)*24) (140737488355328*1)then L0 (q24.st0 x0 x1 x2 x3 x4 (IntKind.wrap .i64 (x5+1)) (x6++[.int .i64 n18]:List T) (x7++[.sl 1 c22]:List T))else none else none else none else none else bif (!x4)then bif Nat.ble ((x6.length+1)*8) (140737488355328*1)then(LIM F.q2u [.sl 1 x3]).bind fun r23=>bL r23 fun c24=>bif Nat.ble ((x7.length+1)*24) (140737488355328*1)then some (.agg [.sl 1 (x6++[.int .i64 x2]:List T),.sl 1 (x7++[.sl 1 c24]:List T)],[])else none else none else some (.agg [.sl 1 x6,.sl 1 x7],[]):=by kernel_rfl
theorem q24.ev(a0_0 a0_1:List T)(a1:Int)(a2:List T):q1b prog A H LIM n F.q24 [.rref [.sl 1 a0_0,.sl 1 a0_1] 0,.int .i64 a1,.sl 1 a2]=q24.at0 n n (q24.st0 a0_0 a0_1 a1 a2 false (0:Int) [] []):=by kernel_rfl
def q0q.st4(x0 x1 x2 x3:List T)(x4 x5:Int)(x6 x7:List T):St:=⟨[(0,(.one (.t (.rref [(.sl 2 x0)] 0)))),(2,ol 1 x1),(3,ol 1 x2),(6,ol 1 x3),(15,oi x4),(16,(.one (.obj 3584))),(18,(.one (.obj 6464))),(20,oi x5)],[(3584,(.arr true true 1 x6)),(6464,(.arr true true 1 x7))]⟩
def q0q.st2(x0 x1 x2:List T)(x3 x4:Int)(x5:List T)(x6 x7:Int)(x8 x9:List T):St:=⟨[(0,(.one (.t (.rref [(.sl 2 x0)] 0)))),(2,ol 1 x1),(3,ol 1 x2),(4,oi x3),(5,oi x4),(6,ol 1 x5),(15,oi x6),(16,(.one (.obj 3584))),(18,(.one (.obj 6464))),(19,oi x7)],[(3584,(.arr true true 1 x8)),(6464,(.arr true true 1 x9))]⟩
def q0q.st0(x0 x1 x2 x3:List T)(x4 x5:Int)(x6:List T)(x7 x8:Int)(x9:List T):St:=⟨[(0,(.one (.t (.rref [(.sl 2 x0)] 0)))),(1,ol 1 x1),(2,ol 1 x2),(3,ol 1 x3),(4,oi x4),(5,oi x5),(6,ol 1 x6),(15,oi x7),(16,(.one (.obj 3584))),(17,oi x8)],[(3584,(.arr true true 1 x9))]⟩
def q0q.K0:=kx F.q0q n [.block 0,.seq 0 (cx F.q0q [1,1,1,1,1,1])] (q3v prog A F.q0q)
def q0q.at0:=lx F.q0q n 0 [1,1,1,1,1,0,1,0,0] (q0q.K0 n) m s
def q0q.rd0:=rx F.q0q n 0 [1,1,1,1,1,0,1,0,0] (q0q.K0 n) L0 s
theorem q0q.next0:q0q.at0 n (m+1) s=q0q.rd0 n (q0q.at0 n m) s:=nx ..
def q0q.K2:=kx F.q0q n [.block 2,.seq 0 (cx F.q0q [1,1,1,1,1,1,1,1,1])] (q3v prog A F.q0q)
def q0q.at2:=lx F.q0q n 2 [1,1,1,1,1,1,1,1,0,1,0,0] (q0q.K2 n) m s
def q0q.rd2:=rx F.q0q n 2 [1,1,1,1,1,1,1,1,0,1,0,0] (q0q.K2 n) L2 s
theorem q0q.next2:q0q.at2 n (m+1) s=q0q.rd2 n (q0q.at2 n m) s:=nx ..
def q0q.K4:=kx F.q0q n [.block 4,.seq 0 (cx F.q0q [1,1,1,1,1,1,1,1,1,1,1])] (q3v prog A F.q0q)
def q0q.at4:=lx F.q0q n 4 [1,1,1,1,1,1,1,1,1,1,0,1,0,0] (q0q.K4 n) m s
def q0q.rd4:=rx F.q0q n 4 [1,1,1,1,1,1,1,1,1,1,0,1,0,0] (q0q.K4 n) L4 s
theorem q0q.next4:q0q.at4 n (m+1) s=q0q.rd4 n (q0q.at4 n m) s:=nx ..
theorem q0q.round0(x0 x1 x2 x3:List T)(x4 x5:Int)(x6:List T)(x7 x8:Int)(x9:List T):q0q.rd0 n L0 (q0q.st0 x0 x1 x2 x3 x4 x5 x6 x7 x8 x9)=bif (decide (x8<(((x9.length/1):Nat):Int)))then bif inB x8 (x9.length/1)then(x9[x8.toNat*1]?).bind fun e15=>(oInt .i64 e15).bind fun n16=>bif inB (IntKind.wrap .i64 ((IntKind.wrap .i64 (n16*x7))+x5)) (x6.length/1)then(x6[(Int.toNat (IntKind.wrap .i64 ((IntKind.wrap .i64 (n16*x7))+x5)))*1]?).bind fun e17=>(q82 e17).bind fun b18=>bif b18 then some (.bool true,[])else bif inB x8 (x9.length/1)then(x9[x8.toNat*1]?).bind fun e19=>(oInt .i64 e19).bind fun n20=>(LIM F.q7g [.rref [.sl 2 x0] 0,.sl 1 x2,.int .i64 n20,.sl 1 x3,.int .i64 x5]).bind fun r21=>bB r21 fun b22=>bif b22 then some (.bool true,[])else L0 (q0q.st0 x0 x1 x2 x3 x4 x5 x6 x7 (IntKind.wrap .i64 (x8+1)) x9)else none else none else none else bif inB x4 (x2.length/1)then(x2[x4.toNat*1]?).bind fun e23=>(oInt .i64 e23).bind fun n24=>(LIM F.q2t [.sl 1 x1,.int .i64 n24]).bind fun r25=>bI r25 fun n26=>bif inB x5 (x3.length/1)then(x3[x5.toNat*1]?).bind fun e27=>(oInt .i64 e27).bind fun n28=>(LIM F.q2t [.sl 1 x1,.int .i64 n28]).bind fun r29=>bI r29 fun n30=>bif (decide (n26<n30))then some (.bool false,[])else(LIM F.q20 [.rref [.sl 2 x0] 0,.sl 1 x3,.int .i64 x5]).bind fun r31=>bL r31 fun c32=>q0q.at2 n n (q0q.st2 x0 x2 x3 x4 x5 x6 x7 (0:Int) x9 c32)else none else none:=by kernel_rfl
theorem q0q.round2(x0 x1 x2:List T)(x3 x4:Int)(x5:List T)(x6 x7:Int)(x8 x9:List T):q0q.rd2 n L2 (q0q.st2 x0 x1 x2 x3 x4 x5 x6 x7 x8 x9)=bif (decide (x7<(((x9.length/1):Nat):Int)))then bif inB x7 (x9.length/1)then(x9[x7.toNat*1]?).bind fun e33=>(oInt .i64 e33).bind fun n34=>bif inB (IntKind.wrap .i64 ((IntKind.wrap .i64 (x3*x6))+n34)) (x5.length/1)then(x5[(Int.toNat (IntKind.wrap .i64 ((IntKind.wrap .i64 (x3*x6))+n34)))*1]?).bind fun e35=>(q82 e35).bind fun b36=>bif (!b36)then some (.bool false,[])else L2 (q0q.st2 x0 x1 x2 x3 x4 x5 x6 (IntKind.wrap .i64 (x7+1)) x8 x9)else none else none else bif inB x3 (x1.length/1)then(x1[x3.toNat*1]?).bind fun e37=>(oInt .i64 e37).bind fun n38=>bif inB x4 (x2.length/1)then(x2[x4.toNat*1]?).bind fun e39=>(oInt .i64 e39).bind fun n40=>bif (n38 != n40)then some (.bool true,[])else q0q.at4 n n (q0q.st4 x0 x1 x2 x5 x6 (0:Int) x8 x9)else none else none:=by kernel_rfl
theorem q0q.round4(x0 x1 x2 x3:List T)(x4 x5:Int)(x6 x7:List T):q0q.rd4 n L4 (q0q.st4 x0 x1 x2 x3 x4 x5 x6 x7)=bif (decide (x5<(((x6.length/1):Nat):Int)))then bif (decide (x5<(((x7.length/1):Nat):Int)))then bif inB x5 (x6.length/1)then(x6[x5.toNat*1]?).bind fun e41=>(oInt .i64 e41).bind fun n42=>bif inB x5 (x7.length/1)then(x7[x5.toNat*1]?).bind fun e43=>(oInt .i64 e43).bind fun n44=>(LIM F.q7g [.rref [.sl 2 x0] 0,.sl 1 x1,.int .i64 n42,.sl 1 x2,.int .i64 n44]).bind fun r45=>bB r45 fun b46=>bif (!b46)then bif inB x5 (x6.length/1)then(x6[x5.toNat*1]?).bind fun e47=>(oInt .i64 e47).bind fun n48=>bif inB x5 (x7.length/1)then(x7[x5.toNat*1]?).bind fun e49=>(oInt .i64 e49).bind fun n50=>bif inB (IntKind.wrap .i64 ((IntKind.wrap .i64 (n48*x4))+n50)) (x3.length/1)then(x3[(Int.toNat (IntKind.wrap .i64 ((IntKind.wrap .i64 (n48*x4))+n50)))*1]?).bind fun e51=>(q82 e51).bind fun b52=>some (.bool b52,[])else none else none else none else L4 (q0q.st4 x0 x1 x2 x3 x4 (IntKind.wrap .i64 (x5+1)) x6 x7)else none else none else some (.bool false,[])else some (.bool false,[]):=by kernel_rfl
theorem q0q.ev(a0_0 a1 a2 a3:List T)(a4 a5:Int)(a6:List T):q1b prog A H LIM n F.q0q [.rref [.sl 2 a0_0] 0,.sl 1 a1,.sl 1 a2,.sl 1 a3,.int .i64 a4,.int .i64 a5,.sl 1 a6]=bif inB a5 (a3.length/1)then(a3[a5.toNat*1]?).bind fun e1=>(oInt .i64 e1).bind fun n2=>bif (decide (n2<0))then bif inB a4 (a2.length/1)then(a2[a4.toNat*1]?).bind fun e3=>(oInt .i64 e3).bind fun n4=>bif (decide (n4>=0))then(LIM F.q2q [.rref [.sl 2 a0_0] 0,.sl 1 a2,.int .i64 a4]).bind fun r5=>bI r5 fun n6=>bif decide (0<=a4)&&decide (a4<=n6)&&decide (n6<=(((a2.length/1):Nat):Int))then bif inB a5 (a3.length/1)then(a3[a5.toNat*1]?).bind fun e7=>(oInt .i64 e7).bind fun n8=>(LIM F.q22 [.sl 1 ((a2.take (n6.toNat*1)).drop (a4.toNat*1)),.int .i64 n8]).bind fun r9=>bI r9 fun n10=>some (.bool (decide (n10>0)),[])else none else none else some (.bool false,[])else none else bif inB a4 (a2.length/1)then(a2[a4.toNat*1]?).bind fun e11=>(oInt .i64 e11).bind fun n12=>bif (decide (n12<0))then some (.bool false,[])else(LIM F.q20 [.rref [.sl 2 a0_0] 0,.sl 1 a2,.int .i64 a4]).bind fun r13=>bL r13 fun c14=>q0q.at0 n n (q0q.st0 a0_0 a1 a2 a3 a4 a5 a6 (((a3.length/1):Nat):Int) (0:Int) c14)else none else none:=by kernel_rfl
theorem q6o.ev(a0_0 a1 a2 a3:List T):q1b prog A H LIM n F.q6o [.rref [.sl 2 a0_0] 0,.sl 1 a1,.sl 1 a2,.sl 1 a3]=(LIM F.q1r [.sl 1 a2,.sl 1 a3]).bind fun r1=>bB r1 fun b2=>bif b2 then some (.int .i64 3,[])else(LIM F.q75 [.rref [.sl 2 a0_0] 0,.sl 1 a1,.sl 1 a2,.sl 1 a3]).bind fun r3=>bB r3 fun b4=>bif b4 then some (.int .i64 1,[])else(LIM F.q75 [.rref [.sl 2 a0_0] 0,.sl 1 a1,.sl 1 a3,.sl 1 a2]).bind fun r5=>bB r5 fun b6=>bif b6 then some (.int .i64 2,[])else some (.int .i64 0,[]):=by kernel_rfl
theorem q7g.ev(a0_0 a1:List T)(a2:Int)(a3:List T)(a4:Int):q1b prog A H LIM n F.q7g [.rref [.sl 2 a0_0] 0,.sl 1 a1,.int .i64 a2,.sl 1 a3,.int .i64 a4]=(LIM F.q2q [.rref [.sl 2 a0_0] 0,.sl 1 a1,.int .i64 a2]).bind fun r1=>bI r1 fun n2=>bif decide (0<=a2)&&decide (a2<=n2)&&decide (n2<=(((a1.length/1):Nat):Int))then(LIM F.q2q [.rref [.sl 2 a0_0] 0,.sl 1 a3,.int .i64 a4]).bind fun r3=>bI r3 fun n4=>bif decide (0<=a4)&&decide (a4<=n4)&&decide (n4<=(((a3.length/1):Nat):Int))then(LIM F.q1r [.sl 1 ((a1.take (n2.toNat*1)).drop (a2.toNat*1)),.sl 1 ((a3.take (n4.toNat*1)).drop (a4.toNat*1))]).bind fun r5=>bB r5 fun b6=>some (.bool b6,[])else none else none:=by kernel_rfl
def q2r.st0(x0 x1 x2:List T)(x3:Int):St:=⟨[(0,(.one (.t (.rref [(.sl 2 x0)] 0)))),(1,ol 1 x1),(2,ol 2 x2),(7,oi x3)],[]⟩
def q2r.K0:=kx F.q2r n [.block 0,.seq 0 (cx F.q2r [1,1])] (q3v prog A F.q2r)
def q2r.at0:=lx F.q2r n 0 [1,0,1,0,0] (q2r.K0 n) m s
def q2r.rd0:=rx F.q2r n 0 [1,0,1,0,0] (q2r.K0 n) L0 s
theorem q2r.next0:q2r.at0 n (m+1) s=q2r.rd0 n (q2r.at0 n m) s:=nx ..
theorem q2r.round0(x0 x1 x2:List T)(x3:Int):q2r.rd0 n L0 (q2r.st0 x0 x1 x2 x3)=bif (decide (x3<(((x2.length/2):Nat):Int)))then bif inB x3 (x2.length/2)then(x2[x3.toNat*2]?).bind fun e1=>(oSl 1 e1).bind fun c2=>bif inB x3 (x2.length/2)then(x2[(x3.toNat*2)+1]?).bind fun e3=>(oSl 1 e3).bind fun c4=>(LIM F.q75 [.rref [.sl 2 x0] 0,.sl 1 x1,.sl 1 c2,.sl 1 c4]).bind fun r5=>bB r5 fun b6=>bif (!b6)then some (.bool false,[])else L0 (q2r.st0 x0 x1 x2 (IntKind.wrap .i64 (x3+1)))else none else none else some (.bool true,[]):=by kernel_rfl
theorem q2r.ev(a0_0 a1 a2:List T):q1b prog A H LIM n F.q2r [.rref [.sl 2 a0_0] 0,.sl 1 a1,.sl 2 a2]=q2r.at0 n n (q2r.st0 a0_0 a1 a2 (0:Int)):=by kernel_rfl
theorem q75.ev(a0_0 a1 a2 a3:List T):q1b prog A H LIM n F.q75 [.rref [.sl 2 a0_0] 0,.sl 1 a1,.sl 1 a2,.sl 1 a3]=(LIM F.q10 [.rref [.sl 2 a0_0] 0,.sl 1 a1,.sl 1 a2,.sl 1 a3]).bind fun r1=>bL r1 fun c2=>bif inB (0:Int) (c2.length/1)then(c2[0]?).bind fun e3=>(q82 e3).bind fun b4=>some (.bool b4,[])else none:=by kernel_rfl
def q20.st0(x0 x1:List T)(x2 x3 x4:Int)(x5:List T):St:=⟨[(0,(.one (.t (.rref [(.sl 2 x0)] 0)))),(1,ol 1 x1),(2,oi x2),(7,(.one (.obj 640))),(8,oi x3),(9,oi x4)],[(640,(.arr true true 1 x5))]⟩
def q20.K0:=kx F.q20 n [.block 0,.seq 0 (cx F.q20 [1,1,1,1])] (q3v prog A F.q20)
def q20.at0:=lx F.q20 n 0 [1,1,1,0,1,0,0] (q20.K0 n) m s
def q20.rd0:=rx F.q20 n 0 [1,1,1,0,1,0,0] (q20.K0 n) L0 s
theorem q20.next0:q20.at0 n (m+1) s=q20.rd0 n (q20.at0 n m) s:=nx ..
theorem q20.round0(x0 x1:List T)(x2 x3 x4:Int)(x5:List T):q20.rd0 n L0 (q20.st0 x0 x1 x2 x3 x4 x5)=bif inB x2 (x1.length/1)then(x1[x2.toNat*1]?).bind fun e1=>(oInt .i64 e1).bind fun n2=>bif inB n2 (x0.length/2)then(x0[(n2.toNat*2)+1]?).bind fun e3=>(oInt .i64 e3).bind fun n4=>bif (decide (x4<n4))then bif Nat.ble ((x5.length+1)*8) (140737488355328*1)then(LIM F.q2q [.rref [.sl 2 x0] 0,.sl 1 x1,.int .i64 x3]).bind fun r5=>bI r5 fun n6=>L0 (q20.st0 x0 x1 x2 n6 (IntKind.wrap .i64 (x4+1)) (x5++[.int .i64 x3]:List T))else none else some (.sl 1 x5,[])else none else none:=by kernel_rfl
theorem q20.ev(a0_0 a1:List T)(a2:Int):q1b prog A H LIM n F.q20 [.rref [.sl 2 a0_0] 0,.sl 1 a1,.int .i64 a2]=q20.at0 n n (q20.st0 a0_0 a1 a2 (IntKind.wrap .i64 (a2+1)) (0:Int) []):=by kernel_rfl
def q10.st2(x0 x1 x2 x3:List T)(x4 x5 x6:Int)(x7:List T):St:=⟨[(0,(.one (.t (.rref [(.sl 2 x0)] 0)))),(1,ol 1 x1),(2,ol 1 x2),(3,ol 1 x3),(9,oi x4),(10,(.one (.obj 1216))),(11,oi x5),(12,oi x6)],[(1216,(.arr true true 1 x7))]⟩
def q10.st0(x0 x1 x2 x3:List T)(x4 x5:Int)(x6:List T):St:=⟨[(0,(.one (.t (.rref [(.sl 2 x0)] 0)))),(1,ol 1 x1),(2,ol 1 x2),(3,ol 1 x3),(9,oi x4),(10,(.one (.obj 1216))),(11,oi x5)],[(1216,(.arr true true 1 x6))]⟩
def q10.K0:=kx F.q10 n [.block 0,.seq 0 (cx F.q10 [1,1,1,1])] (q3v prog A F.q10)
def q10.at0:=lx F.q10 n 0 [1,1,1,0,1,0,0] (q10.K0 n) m s
def q10.rd0:=rx F.q10 n 0 [1,1,1,0,1,0,0] (q10.K0 n) L0 s
theorem q10.next0:q10.at0 n (m+1) s=q10.rd0 n (q10.at0 n m) s:=nx ..
def q10.K2:=kx F.q10 n [.block 2,.block 1,.seq 0 (cx F.q10 [1,1,1,0,1,0,0,1,1])] (bx F.q10 0 (q10.K0 n) L0)
def q10.at2:=lx F.q10 n 2 [1,1,1,0,1,0,0,1,0,0,1,0,0] (q10.K2 n L0) m s
def q10.rd2:=rx F.q10 n 2 [1,1,1,0,1,0,0,1,0,0,1,0,0] (q10.K2 n L0) L2 s
theorem q10.next2:q10.at2 n L0 (m+1) s=q10.rd2 n L0 (q10.at2 n L0 m) s:=nx ..
theorem q10.round0(x0 x1 x2 x3:List T)(x4 x5:Int)(x6:List T):q10.rd0 n L0 (q10.st0 x0 x1 x2 x3 x4 x5 x6)=bif (decide (x5>=0))then q10.at2 n L0 n (q10.st2 x0 x1 x2 x3 x4 x5 (IntKind.wrap .i64 (x4-1)) x6)else some (.sl 1 x6,[]):=by kernel_rfl
theorem q10.round2(x0 x1 x2 x3:List T)(x4 x5 x6:Int)(x7:List T):q10.rd2 n L0 L2 (q10.st2 x0 x1 x2 x3 x4 x5 x6 x7)=bif (decide (x6>=0))then(LIM F.q0q [.rref [.sl 2 x0] 0,.sl 1 x1,.sl 1 x2,.sl 1 x3,.int .i64 x5,.int .i64 x6,.sl 1 x7]).bind fun r1=>bB r1 fun b2=>bif inB (IntKind.wrap .i64 ((IntKind.wrap .i64 (x5*x4))+x6)) (x7.length/1)then bif decide (((Int.toNat (IntKind.wrap .i64 ((IntKind.wrap .i64 (x5*x4))+x6)))*1)+1<=x7.length)then L2 (q10.st2 x0 x1 x2 x3 x4 x5 (IntKind.wrap .i64 (x6-1)) (setCells x7 ((Int.toNat (IntKind.wrap .i64 ((IntKind.wrap .i64 (x5*x4))+x6)))*1) [.bool b2]))else none else none else L0 (q10.st0 x0 x1 x2 x3 x4 (IntKind.wrap .i64 (x5-1)) x7):=by kernel_rfl
theorem q10.ev(a0_0 a1 a2 a3:List T):q1b prog A H LIM n F.q10 [.rref [.sl 2 a0_0] 0,.sl 1 a1,.sl 1 a2,.sl 1 a3]=bif decide (0<=(IntKind.wrap .i64 ((((a2.length/1):Nat):Int)*(((a3.length/1):Nat):Int))))&&decide ((IntKind.wrap .i64 ((((a2.length/1):Nat):Int)*(((a3.length/1):Nat):Int)))=IntKind.wrap .i64 ((((a2.length/1):Nat):Int)*(((a3.length/1):Nat):Int)))&&Nat.ble (((Int.toNat (IntKind.wrap .i64 ((((a2.length/1):Nat):Int)*(((a3.length/1):Nat):Int))))*1)*1) (140737488355328*1)then q10.at0 n n (q10.st0 a0_0 a1 a2 a3 (((a3.length/1):Nat):Int) (IntKind.wrap .i64 ((((a2.length/1):Nat):Int)-1)) (repT (Int.toNat (IntKind.wrap .i64 ((((a2.length/1):Nat):Int)*(((a3.length/1):Nat):Int)))) [.bool false]))else none:=by kernel_rfl
theorem q9m.ev(a0_0 a1 a2:List T):q1b prog A H LIM n F.q9m [.rref [.sl 2 a0_0] 0,.sl 2 a1,.sl 1 a2]=(LIM F.q5f [.agg [.sl 2 a0_0],.sl 2 a1]).bind fun r1=>bI r1 fun n2=>bif (n2 != 0)then some (.int .i64 n2,[])else(LIM F.q1n [.rref [.sl 2 a0_0] 0,.sl 1 a2]).bind fun r3=>bI r3 fun n4=>some (.int .i64 n4,[]):=by kernel_rfl
def q0y.st2(x0:List T)(x1 x2:Int):St:=⟨[(1,ol 2 x0),(6,oi x1),(7,oi x2)],[]⟩
def q0y.st0(x0:List T)(x1:Int):St:=⟨[(1,ol 2 x0),(6,oi x1)],[]⟩
def q0y.K0:=kx F.q0y n [.block 0,.seq 0 (cx F.q0y [1,1,1])] (q3v prog A F.q0y)
def q0y.at0:=lx F.q0y n 0 [1,1,0,1,0,0] (q0y.K0 n) m s
def q0y.rd0:=rx F.q0y n 0 [1,1,0,1,0,0] (q0y.K0 n) L0 s
theorem q0y.next0:q0y.at0 n (m+1) s=q0y.rd0 n (q0y.at0 n m) s:=nx ..
def q0y.K2:=kx F.q0y n [.block 2,.block 1,.seq 0 (cx F.q0y [1,1,0,1,0,0,1,1])] (bx F.q0y 0 (q0y.K0 n) L0)
def q0y.at2:=lx F.q0y n 2 [1,1,0,1,0,0,1,0,0,1,1,0,0] (q0y.K2 n L0) m s
def q0y.rd2:=rx F.q0y n 2 [1,1,0,1,0,0,1,0,0,1,1,0,0] (q0y.K2 n L0) L2 s
theorem q0y.next2:q0y.at2 n L0 (m+1) s=q0y.rd2 n L0 (q0y.at2 n L0 m) s:=nx ..
theorem q0y.round0(x0:List T)(x1:Int):q0y.rd0 n L0 (q0y.st0 x0 x1)=bif (decide (x1<(((x0.length/2):Nat):Int)))then bif inB x1 (x0.length/2)then(x0[x1.toNat*2]?).bind fun e3=>(oSl 1 e3).bind fun c4=>bif inB (0:Int) (c4.length/1)then(c4[0]?).bind fun e5=>(oInt .i64 e5).bind fun n6=>bif (decide (n6<0))then some (.int .i64 1,[])else q0y.at2 n L0 n (q0y.st2 x0 x1 (0:Int))else none else none else some (.int .i64 0,[]):=by kernel_rfl
theorem q0y.round2(x0:List T)(x1 x2:Int):q0y.rd2 n L0 L2 (q0y.st2 x0 x1 x2)=bif inB x1 (x0.length/2)then(x0[(x1.toNat*2)+1]?).bind fun e7=>(oSl 1 e7).bind fun c8=>bif (decide (x2<(((c8.length/1):Nat):Int)))then bif inB x1 (x0.length/2)then(x0[(x1.toNat*2)+1]?).bind fun e9=>(oSl 1 e9).bind fun c10=>bif inB x2 (c10.length/1)then(c10[x2.toNat*1]?).bind fun e11=>(oInt .i64 e11).bind fun n12=>bif (decide (n12<0))then bif inB x1 (x0.length/2)then(x0[x1.toNat*2]?).bind fun e13=>(oSl 1 e13).bind fun c14=>(LIM F.q22 [.sl 1 c14,.int .i64 n12]).bind fun r15=>bI r15 fun n16=>bif (n16==0)then some (.int .i64 1,[])else L2 (q0y.st2 x0 x1 (IntKind.wrap .i64 (x2+1)))else none else L2 (q0y.st2 x0 x1 (IntKind.wrap .i64 (x2+1)))else none else none else L0 (q0y.st0 x0 (IntKind.wrap .i64 (x1+1)))else none:=by kernel_rfl
theorem q0y.ev(a0_0 a1:List T):q1b prog A H LIM n F.q0y [.rref [.sl 2 a0_0] 0,.sl 2 a1]=(LIM F.q2e [.rref [.sl 2 a0_0] 0,.sl 2 a1]).bind fun r1=>bI r1 fun n2=>bif (n2 != 0)then some (.int .i64 n2,[])else q0y.at0 n n (q0y.st0 a1 (0:Int)):=by kernel_rfl
def q1w.st0(x0 x1 x2:List T)(x3 x4 x5 x6:Int):St:=⟨[(0,(.one (.t (.rref [(.sl 2 x0)] 0)))),(1,ol 2 x1),(2,ol 1 x2),(8,oi x3),(9,oi x4),(10,oi x5),(11,oi x6)],[]⟩
def q1w.K0:=kx F.q1w n [.block 0,.seq 0 (cx F.q1w [1,1,1,1,1])] (q3v prog A F.q1w)
def q1w.at0:=lx F.q1w n 0 [1,1,1,1,0,1,0,0] (q1w.K0 n) m s
def q1w.rd0:=rx F.q1w n 0 [1,1,1,1,0,1,0,0] (q1w.K0 n) L0 s
theorem q1w.next0:q1w.at0 n (m+1) s=q1w.rd0 n (q1w.at0 n m) s:=nx ..
theorem q1w.round0(x0 x1 x2:List T)(x3 x4 x5 x6:Int):q1w.rd0 n L0 (q1w.st0 x0 x1 x2 x3 x4 x5 x6)=bif (decide (x6<(((x2.length/1):Nat):Int)))then(LIM F.q2q [.rref [.sl 2 x0] 0,.sl 1 x2,.int .i64 x6]).bind fun r1=>bI r1 fun n2=>bif (decide (n2>x5))then L0 (q1w.st0 x0 x1 x2 x3 x4 x5 (IntKind.wrap .i64 (x6+1)))else(LIM F.q32 [.rref [.sl 2 x0] 0,.sl 2 x1,.sl 1 x2,.int .i64 x6]).bind fun r3=>bI r3 fun n4=>bif (decide (n4>=0))then L0 (q1w.st0 x0 x1 x2 x6 n4 n2 (IntKind.wrap .i64 (x6+1)))else L0 (q1w.st0 x0 x1 x2 x3 x4 x5 (IntKind.wrap .i64 (x6+1)))else some (.tup [.int .i64 x3,.int .i64 x4],[]):=by kernel_rfl
theorem q1w.ev(a0_0 a1 a2:List T):q1b prog A H LIM n F.q1w [.rref [.sl 2 a0_0] 0,.sl 2 a1,.sl 1 a2]=q1w.at0 n n (q1w.st0 a0_0 a1 a2 (-1:Int) (-1:Int) (25:Int) (0:Int)):=by kernel_rfl
def q32.st0(x0 x1 x2:List T)(x3 x4:Int):St:=⟨[(0,(.one (.t (.rref [(.sl 2 x0)] 0)))),(1,ol 2 x1),(2,ol 1 x2),(3,oi x3),(9,oi x4)],[]⟩
def q32.K0:=kx F.q32 n [.block 0,.seq 0 (cx F.q32 [1,1])] (q3v prog A F.q32)
def q32.at0:=lx F.q32 n 0 [1,0,1,0,0] (q32.K0 n) m s
def q32.rd0:=rx F.q32 n 0 [1,0,1,0,0] (q32.K0 n) L0 s
theorem q32.next0:q32.at0 n (m+1) s=q32.rd0 n (q32.at0 n m) s:=nx ..
theorem q32.round0(x0 x1 x2:List T)(x3 x4:Int):q32.rd0 n L0 (q32.st0 x0 x1 x2 x3 x4)=bif (decide (x4<(((x1.length/2):Nat):Int)))then bif inB x4 (x1.length/2)then(x1[x4.toNat*2]?).bind fun e1=>(oSl 1 e1).bind fun c2=>(LIM F.q1o [.rref [.sl 2 x0] 0,.sl 1 c2,.sl 1 x2,.int .i64 x3]).bind fun r3=>(oNil r3.2).bind fun _=>(oTup r3.1).bind fun c4=>(q0s c4).bind fun p5=>(oAgg p5.1).bind fun c6=>(q0s c6).bind fun p7=>(oSl 1 p7.1).bind fun c8=>(q0s p7.2).bind fun p9=>(oSl 1 p9.1).bind fun c10=>(oNil p9.2).bind fun _=>(q0s p5.2).bind fun p11=>(q82 p11.1).bind fun b12=>(oNil p11.2).bind fun _=>bif b12 then some (.int .i64 x4,[])else L0 (q32.st0 x0 x1 x2 x3 (IntKind.wrap .i64 (x4+1)))else none else some (.int .i64 (-1),[]):=by kernel_rfl
theorem q32.ev(a0_0 a1 a2:List T)(a3:Int):q1b prog A H LIM n F.q32 [.rref [.sl 2 a0_0] 0,.sl 2 a1,.sl 1 a2,.int .i64 a3]=q32.at0 n n (q32.st0 a0_0 a1 a2 a3 (0:Int)):=by kernel_rfl
theorem q7s.ev(a0_0 a1_0 a1_1:List T)(a2:Int)(a3:List T):q1b prog A H LIM n F.q7s [.rref [.sl 2 a0_0] 0,.rref [.sl 1 a1_0,.sl 1 a1_1] 0,.int .i64 a2,.sl 1 a3]=(LIM F.q1o [.rref [.sl 2 a0_0] 0,.sl 1 a1_0,.sl 1 a3,.int .i64 a2]).bind fun r1=>(oNil r1.2).bind fun _=>(oTup r1.1).bind fun c2=>(q0s c2).bind fun p3=>(oAgg p3.1).bind fun c4=>(q0s c4).bind fun p5=>(oSl 1 p5.1).bind fun c6=>(q0s p5.2).bind fun p7=>(oSl 1 p7.1).bind fun c8=>(oNil p7.2).bind fun _=>(q0s p3.2).bind fun p9=>(q82 p9.1).bind fun b10=>(oNil p9.2).bind fun _=>bif (!b10)then some (.tup [.sl 1 [],.int .i64 4],[])else(LIM F.q1f [.rref [.sl 1 c6,.sl 1 c8] 0,.sl 1 a1_1]).bind fun r11=>bL r11 fun c12=>(LIM F.q68 [.rref [.sl 2 a0_0] 0,.sl 1 a3,.int .i64 a2,.sl 1 c12]).bind fun r13=>bL r13 fun c14=>bif (decide ((((c14.length/1):Nat):Int)>24))then some (.tup [.sl 1 [],.int .i64 2],[])else some (.tup [.sl 1 c14,.int .i64 0],[]):=by kernel_rfl
theorem q7u.ev(a0_0 a1_0 a1_1 a2_0 a2_1:List T)(a3:Int):q1b prog A H LIM n F.q7u [.rref [.sl 2 a0_0] 0,.rref [.sl 1 a1_0,.sl 1 a1_1] 0,.rref [.sl 1 a2_0,.sl 1 a2_1] 0,.int .i64 a3]=(LIM F.q2a [.sl 1 a2_0,.int .i64 6]).bind fun r1=>bL r1 fun c2=>(LIM F.q2a [.sl 1 a2_1,.int .i64 6]).bind fun r3=>bL r3 fun c4=>(LIM F.q6w [.rref [.sl 2 a0_0] 0,.sl 1 a1_0,.int .i64 a3]).bind fun r5=>bL r5 fun c6=>(LIM F.q1t [.rref [.sl 2 a0_0] 0,.sl 1 c6,.sl 1 c2]).bind fun r7=>(oNil r7.2).bind fun _=>(oTup r7.1).bind fun c8=>(q0s c8).bind fun p9=>(oAgg p9.1).bind fun c10=>(q0s c10).bind fun p11=>(oSl 1 p11.1).bind fun c12=>(q0s p11.2).bind fun p13=>(oSl 1 p13.1).bind fun c14=>(oNil p13.2).bind fun _=>(q0s p9.2).bind fun p15=>(oInt .i64 p15.1).bind fun n16=>(oNil p15.2).bind fun _=>bif (n16 != 0)then some (.tup [.agg [.sl 1 [],.sl 1 []],.int .i64 n16],[])else(LIM F.q1f [.rref [.sl 1 c12,.sl 1 c14] 0,.sl 1 a1_1]).bind fun r17=>bL r17 fun c18=>(LIM F.q68 [.rref [.sl 2 a0_0] 0,.sl 1 a1_0,.int .i64 a3,.sl 1 c4]).bind fun r19=>bL r19 fun c20=>(LIM F.q1f [.rref [.sl 1 c12,.sl 1 c14] 0,.sl 1 c20]).bind fun r21=>bL r21 fun c22=>bif (decide ((((c18.length/1):Nat):Int)>24))then some (.tup [.agg [.sl 1 [],.sl 1 []],.int .i64 2],[])else bif (decide ((((c22.length/1):Nat):Int)>24))then some (.tup [.agg [.sl 1 [],.sl 1 []],.int .i64 2],[])else(LIM F.q1m [.rref [.sl 1 c18,.sl 1 c22] 0]).bind fun r23=>(oNil r23.2).bind fun _=>(oTup r23.1).bind fun c24=>(q0s c24).bind fun p25=>(oAgg p25.1).bind fun c26=>(q0s c26).bind fun p27=>(oSl 1 p27.1).bind fun c28=>(q0s p27.2).bind fun p29=>(oSl 1 p29.1).bind fun c30=>(oNil p29.2).bind fun _=>(q0s p25.2).bind fun p31=>(q82 p31.1).bind fun b32=>(oNil p31.2).bind fun _=>bif (!b32)then some (.tup [.agg [.sl 1 [],.sl 1 []],.int .i64 2],[])else some (.tup [.agg [.sl 1 c28,.sl 1 c30],.int .i64 0],[]):=by kernel_rfl
def q1e.st0(x0 x1 x2 x3 x4:List T)(x5:Bool)(x6:Int)(x7:List T):St:=⟨[(0,(.one (.t (.rref [(.sl 2 x0)] 0)))),(1,(.one (.t (.rref [(.sl 1 x1),(.sl 1 x2)] 0)))),(2,(.one (.t (.rref [(.sl 1 x3),(.sl 1 x4)] 0)))),(3,(.one (.t (.bool x5)))),(10,(.one (.obj 896))),(11,oi x6)],[(896,(.arr true true 1 x7))]⟩
def q1e.K0:=kx F.q1e n [.block 0,.seq 0 (cx F.q1e [1,1,1])] (q3v prog A F.q1e)
def q1e.at0:=lx F.q1e n 0 [1,1,0,1,0,0] (q1e.K0 n) m s
def q1e.rd0:=rx F.q1e n 0 [1,1,0,1,0,0] (q1e.K0 n) L0 s
theorem q1e.next0:q1e.at0 n (m+1) s=q1e.rd0 n (q1e.at0 n m) s:=nx ..
theorem q1e.round0(x0 x1 x2 x3 x4:List T)(x5:Bool)(x6:Int)(x7:List T):q1e.rd0 n L0 (q1e.st0 x0 x1 x2 x3 x4 x5 x6 x7)=bif (decide (x6<(((x1.length/1):Nat):Int)))then bif inB x6 (x1.length/1)then(x1[x6.toNat*1]?).bind fun e1=>(oInt .i64 e1).bind fun n2=>bif (decide (n2<0))then L0 (q1e.st0 x0 x1 x2 x3 x4 x5 (IntKind.wrap .i64 (x6+1)) x7)else bif x5 then bif (x6==0)then L0 (q1e.st0 x0 x1 x2 x3 x4 x5 (IntKind.wrap .i64 (x6+1)) x7)else(LIM F.q7u [.rref [.sl 2 x0] 0,.rref [.sl 1 x1,.sl 1 x2] 0,.rref [.sl 1 x3,.sl 1 x4] 0,.int .i64 x6]).bind fun r3=>(oNil r3.2).bind fun _=>(oTup r3.1).bind fun c4=>(q0s c4).bind fun p5=>(oAgg p5.1).bind fun c6=>(q0s c6).bind fun p7=>(oSl 1 p7.1).bind fun c8=>(q0s p7.2).bind fun p9=>(oSl 1 p9.1).bind fun c10=>(oNil p9.2).bind fun _=>(q0s p5.2).bind fun p11=>(oInt .i64 p11.1).bind fun n12=>(oNil p11.2).bind fun _=>bif (n12==4)then L0 (q1e.st0 x0 x1 x2 x3 x4 x5 (IntKind.wrap .i64 (x6+1)) x7)else bif (n12 != 0)then some (.tup [.sl 1 [],.int .i64 n12],[])else bif Nat.ble ((x7.length+1)*8) (140737488355328*1)then L0 (q1e.st0 x0 x1 x2 x3 x4 x5 (IntKind.wrap .i64 (x6+1)) (x7++[.int .i64 x6]:List T))else none else(LIM F.q7u [.rref [.sl 2 x0] 0,.rref [.sl 1 x1,.sl 1 x2] 0,.rref [.sl 1 x3,.sl 1 x4] 0,.int .i64 x6]).bind fun r13=>(oNil r13.2).bind fun _=>(oTup r13.1).bind fun c14=>(q0s c14).bind fun p15=>(oAgg p15.1).bind fun c16=>(q0s c16).bind fun p17=>(oSl 1 p17.1).bind fun c18=>(q0s p17.2).bind fun p19=>(oSl 1 p19.1).bind fun c20=>(oNil p19.2).bind fun _=>(q0s p15.2).bind fun p21=>(oInt .i64 p21.1).bind fun n22=>(oNil p21.2).bind fun _=>bif (n22==4)then L0 (q1e.st0 x0 x1 x2 x3 x4 x5 (IntKind.wrap .i64 (x6+1)) x7)else bif (n22 != 0)then some (.tup [.sl 1 [],.int .i64 n22],[])else bif Nat.ble ((x7.length+1)*8) (140737488355328*1)then L0 (q1e.st0 x0 x1 x2 x3 x4 x5 (IntKind.wrap .i64 (x6+1)) (x7++[.int .i64 x6]:List T))else none else none else some (.tup [.sl 1 x7,.int .i64 0],[]):=by kernel_rfl
theorem q1e.ev(a0_0 a1_0 a1_1 a2_0 a2_1:List T)(a3:Bool):q1b prog A H LIM n F.q1e [.rref [.sl 2 a0_0] 0,.rref [.sl 1 a1_0,.sl 1 a1_1] 0,.rref [.sl 1 a2_0,.sl 1 a2_1] 0,.bool a3]=q1e.at0 n n (q1e.st0 a0_0 a1_0 a1_1 a2_0 a2_1 a3 (0:Int) []):=by kernel_rfl
theorem qbz.ev(a0_0 a1_0 a1_1 a2_0 a2_1:List T):q1b prog A H LIM n F.qbz [.rref [.sl 2 a0_0] 0,.rref [.sl 1 a1_0,.sl 1 a1_1] 0,.rref [.sl 1 a2_0,.sl 1 a2_1] 0]=(LIM F.q5f [.agg [.sl 2 a0_0],.sl 2 [.sl 1 a1_0,.sl 1 a1_1,.sl 1 a2_0,.sl 1 a2_1]]).bind fun r1=>bI r1 fun n2=>some (.int .i64 n2,[]):=by kernel_rfl
end
end Ev
end
section
end
section
namespace Ev.Ty
open Go Ev
open Enc (enc)
open Sm (sm)
theorem q61{g:FuncId}{args:List T}{r:T×List T}(hx:X g=none)(n:Nat)(h:q1b prog A H LIM n g args=some r):LIM g args=some r:=qb9 hx n h
theorem qam{α:Type}[Enc α]{l:List α}{a:Nat}:(a<=(cells l).length)=(a<=l.length*Enc.sz α):=by rw[q0p]
theorem qh2{α:Type}{o:List α}{i:Nat}{x:α}(h:o[i]?=some x):o.set i x=o:=by
 refine List.ext_getElem? fun j=>?_;rw[List.getElem?_set];split
 ·rename_i e;subst e;have:=(gB.1 h).1;rw[if_pos this,h]
 ·rfl
theorem qvi{α:Type}[Enc α]{o:List α}{i n j:Nat}{x x':α}{c:T}(hn:Enc.sz α=n)(hi:i<o.length)(hj:j<n)
 (he:(enc x).set j c=enc x'):setCells (cells (o.set i x)) (i*n+j) [c]=cells (o.set i x'):=by
 subst hn;rw[<- qdh o _ i rfl x hi,<- qdh o _ i rfl x' hi,<- he]
 have hle:i*Enc.sz α+Enc.sz α<=o.length*Enc.sz α:=by
  rw[<- Nat.succ_mul];exact gAO _ hi
 have hl:=q0p o;refine List.ext_getElem? fun q=>?_;have hlen:(setCells (cells o) (i*Enc.sz α) (enc x)).length=(cells o).length:=q41 _ _ _;have l1:(enc x).length=Enc.sz α:=Enc.len x;have l2:((enc x).set j c).length=Enc.sz α:=by rw[List.length_set];exact l1
 rw[q3y [c] _ _ _ (by rw[hlen,List.length_singleton];omega),q3y (enc x) _ _ _ (by omega),q3y ((enc x).set j c) _ _ _ (by omega),l1,l2,List.length_singleton];by_cases hq:i*Enc.sz α+j=q
 ·subst hq;rw[if_pos ⟨by omega,by omega⟩,if_pos ⟨by omega,by omega⟩,List.getElem?_set,if_pos (by omega),if_pos (by omega)];simp
 ·rw[if_neg (by omega)];split
  ·rw[List.getElem?_set,if_neg (by omega)]
  ·rfl
end Ev.Ty
end
section
namespace Ev.Ty
open Go Ev
end Ev.Ty
end
section
namespace Ev.Ty
open Go Ev
open Enc (enc)
open Sm (sm)
def inR(n a b:Int):Bool:=decide (a<=n/\n<=b)
theorem q3l(n a b:Int):Call F.q3l [.int .i64 n,.int .i64 a,.int .i64 b] (.bool (inR n a b)):=by
 refine q0v rfl 0 ((q3l.ev _ _ _ _).trans ?_);simp only[evz,Nat.reduceLT,inR,ge_iff_le];by_cases h:a<=n <;> simp[h]
theorem q1q(n a b:Int):Call F.q1q [.int .i64 n,.int .i64 a,.int .i64 b] (.bool (inR n a b)):=by
 refine q0v rfl 0 ((q1q.ev _ _ _ _).trans ?_);simp only[evz,Nat.reduceLT,inR,ge_iff_le];by_cases h:a<=n <;> simp[h]
def qdz{β:Type}[DecidableEq β](l:List β):Bool := !decide l.Nodup
theorem qo2{β:Type}[DecidableEq β](l:List β):qdz l=true<->∃i j,j<i/\∃(h:i<l.length)(h':j<l.length),l[i]=l[j]:=by
 unfold qdz;rw[Bool.not_eq_true',decide_eq_false_iff_not,List.Nodup,List.pairwise_iff_getElem];constructor
 ·intro h;simp only[Classical.not_forall]at h;obtain⟨i,j,h1,h2,h3,h4⟩:=h;simp only[ne_eq,Classical.not_not]at h4;exact⟨j,i,h3,h2,h1,h4.symm⟩
 ·rintro⟨i,j,h1,h2,h3,h4⟩ h;exact h j i h3 h2 h1 h4.symm
theorem qp8{α β:Type}[DecidableEq β](f:α->β)(l:List α):((List.range l.length).any fun k=>l[k]?.any fun x=>decide (idx (fun y=>decide (f y=f x)) l≠(k:Nat)))=qdz (l.map f):=by
 rw[Bool.eq_iff_iff,qo2];simp only[List.any_eq_true,List.mem_range,gAG,List.getElem_map];constructor
 ·rintro⟨k,hk,h⟩;rw[gA hk,Option.any_some]at h;simp only[gS]at h;rcases q8s (fun y=>decide (f y=f l[k])) l with⟨_,h1⟩|⟨i,hi,h1,h2,h3⟩
  ·have:=h1 l[k] (gG hk);simp at this
  ·rw[h1]at h;simp only[gS]at h2;rcases Nat.lt_trichotomy i k with hlt|heq|hgt
   ·exact⟨k,i,hlt,hk,hi,h2.symm⟩
   ·subst heq;simp at h
   ·have:=h3 k hgt;simp at this
 ·rintro⟨i,j,hji,hi,hj,he⟩;refine⟨i,hi,?_⟩;rw[gA hi,Option.any_some];simp only[gS];rcases q8s (fun y=>decide (f y=f l[i])) l with⟨h0,_⟩|⟨k,hk,h1,h2,h3⟩
  ·rw[h0];omega
  ·rw[h1];intro hk';have:k=i:=by omega
   subst this;have:=h3 j hji;simp[he]at this
theorem qei{α β:Type}[DecidableEq β](f:α->β)(l:List α):((List.range l.length).any fun i=>(List.range i).any fun j=>l[i]?.any fun x=>l[j]?.any fun y=>decide (f x=f y))=qdz (l.map f):=by
 rw[Bool.eq_iff_iff,qo2];simp only[List.any_eq_true,List.mem_range,gAG,List.getElem_map];constructor
 ·rintro⟨i,hi,j,hj,h⟩;rw[gA hi,gA (show j<l.length by omega)]at h;exact⟨i,j,hj,hi,by omega,by simpa using h⟩
 ·rintro⟨i,j,hji,hi,hj,he⟩;refine⟨i,hi,j,hji,?_⟩;rw[gA hi,gA hj];simpa using he
def qbg(b:UInt8):Bool:=decide (97<=b.toNat/\b.toNat<=122)
def qd4(s:ByteArray):Bool:=decide (1<=s.size/\s.size<=3)&&s.data.toList.all qbg
def qb1:ByteArray:=ByteArray.mk #[97,98,99,100,101,102,103,104,105,106,107,108,109,110,111,112,113,114,115,116,117,118,119,120,121,122]
theorem qo7(b:UInt8):qb1.data.toList.contains b=qbg b:=by
 have h:∀n:Fin 256,qb1.data.toList.contains (UInt8.ofNat n.val)=qbg (UInt8.ofNat n.val):=by decide +kernel
 have:=h ⟨b.toNat,b.toNat_lt⟩;simpa using this
theorem qf9{α:Type}(p:α->Bool):∀l:List α,(l.dropWhile p).isEmpty=l.all p
 |[]=>rfl
 |x::l=>by
  rw[List.dropWhile_cons,List.all_cons];cases hp:p x with
  |true=>simpa using qf9 p l
  |false=>simp
theorem qp3(l:List UInt8):(Lib.trimS l qb1.data.toList).isEmpty=l.all qbg:=by
 have e:(qb1.data.toList.contains ·)=qbg:=funext qo7;unfold Lib.trimS Lib.trimLeftS;rw[e,qf9];unfold Lib.trimRightS;rw[e,List.all_reverse]
 have:∀l:List UInt8,(l.dropWhile qbg).all qbg=l.all qbg:=by
  intro l;induction l with
  |nil=>rfl
  |cons x l ih=>
   rw[List.dropWhile_cons];cases hp:qbg x with
   |true=>simp[hp,ih]
   |false=>simp[hp]
 rw[this,List.all_reverse]
theorem qbb(s:ByteArray)(h:s.size<=3):Call F.qbb [.str s,.str qb1] (.str ⟨(Lib.trimS s.data.toList qb1.data.toList).toArray⟩):=by
 refine qed (e:=trimE) rfl (Ev.of fun m=>?_);show(bif decide (s.size<=9223372036854775807)&&decide (qb1.size<4294967281)&&qb1.data.toList.all (fun b=>decide (b.toNat<128))then _ else _)=_;rw[decide_eq_true (by omega),show decide (qb1.size<4294967281)=true by decide +kernel,show qb1.data.toList.all (fun b=>decide (b.toNat<128))=true by decide +kernel];rfl
theorem q9h(s:ByteArray):Call F.q9h [.str s] (.bool (qd4 s)):=by
 refine q0v rfl 0 ((q9h.ev _ _).trans ?_);simp only[evz,Nat.reduceLT,ge_iff_le,qd4];by_cases h1:1<=s.size
 ·by_cases h2:s.size<=3
  ·have h1':(1:Int)<=s.size:=by omega
   have h2':(s.size:Int)<=3:=by omega
   rw[show(ByteArray.mk #[97,98,99,100,101,102,103,104,105,106,107,108,109,110,111,112,113,114,115,116,117,118,119,120,121,122])=qb1 from rfl];simp only[h1,h2,h1',h2',(qbb s h2).eq,evz,Nat.reduceLT,and_self,Bool.true_and];rw[<- qp3];congr 3;rw[Bool.eq_iff_iff,gS,List.isEmpty_iff];simp
  ·have h1':(1:Int)<=s.size:=by omega
   have h2':¬(s.size:Int)<=3:=by omega
   simp only[h1,h2,h1',h2',evz,Nat.reduceLT,and_false,Bool.false_and]
 ·have h1':¬(1:Int)<=s.size:=by omega
  simp only[h1,h1',evz,Nat.reduceLT,false_and,Bool.false_and]
theorem qxg{s:ByteArray}{k:Nat}(h:k<s.data.toList.length):s.data.getD k 0=s.data.toList[k]:=by
 simp at h;simp[Array.getD,h]
theorem q3a(s:ByteArray):Call F.q3a [.str s] (.bool (qd4 s)):=by
 refine q0v rfl (s.size+1) ((q3a.ev _ _).trans ?_);simp only[evz,Nat.reduceLT,gt_iff_lt,qd4];by_cases h1:1<=s.size
 ·by_cases h2:s.size<=3
  ·have h1':¬(s.size:Int)<1:=by omega
   have h2':¬(3:Int)<s.size:=by omega
   simp only[h1,h2,h1',h2',if_false,and_self,decide_true,Bool.true_and];have hsz:s.data.toList.length=s.size:=by rw[Array.length_toList];rfl
   refine(q9c (l:=s.data.toList) (p:=fun b=>!qbg b) (S:=fun m k=>q3a.at0 (s.size+1) m (q3a.st0 s (k:Nat))) (r:=some (.bool false,[])) (z:=some (.bool true,[])) (fun m k h=>?_) (fun m=>?_) (by omega)).trans ?_
   ·have h':k<s.size:=by omega
    simp only[q3a.next0,q3a.round0,evz,Nat.reduceLT,h',qxg h];rw[q0n (by omega)];unfold qbg;by_cases c1:s.data.toList[k].toNat<97
    ·have c1':(s.data.toList[k].toNat:Int)<97:=by omega
     rw[if_pos c1',if_pos (by simp only[Bool.not_eq_true',decide_eq_false_iff_not];omega)]
    ·have c1':¬(s.data.toList[k].toNat:Int)<97:=by omega
     rw[if_neg c1'];by_cases c2:122<s.data.toList[k].toNat
     ·have c2':(s.data.toList[k].toNat:Int)>122:=by omega
      rw[if_pos c2',if_pos (by simp only[Bool.not_eq_true',decide_eq_false_iff_not];omega)]
     ·have c2':¬(s.data.toList[k].toNat:Int)>122:=by omega
      rw[if_neg c2',if_neg (by simp only[Bool.not_eq_true',decide_eq_false_iff_not];omega)]
   ·rw[hsz];simp only[q3a.next0,q3a.round0,evz,Nat.reduceLT,gAK]
   ·have:s.data.toList.any (fun b=>!qbg b) = !s.data.toList.all qbg:=by rw[List.not_all_eq_any_not]
    rw[this];cases s.data.toList.all qbg <;> rfl
  ·have h1':¬(s.size:Int)<1:=by omega
   have h2':(3:Int)<s.size:=by omega
   simp only[h1,h2,h1',h2',evz,Nat.reduceLT,and_false,Bool.false_and]
 ·have h1':(s.size:Int)<1:=by omega
  simp only[h1,h1',evz,Nat.reduceLT,false_and,Bool.false_and]
def q91(x:Symbol):Option Int:=if qd4 x.name=false then some 5 else if inR x.arity 0 2=false then some 3 else none
def q43(s:Signature):Int:=
 if s.symbols.length<1\/6<s.symbols.length then 2
 else match s.symbols.findSome? q91 with
  |some c=>c
  |none=>if qdz (s.symbols.map (·.name))then 6 else if s.symbols.any (fun x=>decide (x.arity=0))then 0 else 4
theorem q06(l:List Symbol)(hs:l.length<=4294967296)(n:ByteArray):Call F.q25 [slc l,.clo F.q4x [.rref [.str n] 0]] (.int .i64 (idx (fun x=>decide (x.name=n)) l)):=by
 refine q0v rfl (l.length+1) ((q06.ev _ _ _).trans ?_);refine q94 (S:=fun m k=>q06.at0 (l.length+1) m (q06.st0 (cells l) n _ (k:Nat))) (fun m k h=>?_) (fun m=>?_) (gAR _)
 ·have hlk:l[k]?=some l[k]:=gA h
  have hc:Call F.q4x [.agg [.str l[k].name,.int .i64 l[k].arity],.rref [.str n] 0] (.bool (decide (l[k].name=n))):=by
   refine q0v rfl 0 ((q4x.ev _ _ _ _).trans ?_);simp only[evz,Nat.reduceLT]
  simp only[q06.next0,q06.round0,evz,Nat.reduceLT,h,hlk,q4b,hc.eq];rw[q0n (by omega)];simp only[gS]
 ·simp only[q06.next0,q06.round0,evz,Nat.reduceLT,gAK]
theorem q6j(l:List Symbol)(hs:l.length<=4294967296)(n:ByteArray):Call F.q6j [.agg [slc l],.str n] (.int .i64 (idx (fun x=>decide (x.name=n)) l)):=by
 refine q0v rfl 0 ((q6j.ev _ _ _).trans ?_);simp only[evz,Nat.reduceLT,(q06 l hs n).eq]
theorem q04(l:List Symbol)(hs:l.length<=4294967296):Call F.q25 [slc l,.clo F.q3m []] (.int .i64 (idx (fun x=>decide (x.arity=0)) l)):=by
 refine q0v rfl (l.length+1) ((q04.ev _ _).trans ?_);refine q94 (S:=fun m k=>q04.at0 (l.length+1) m (q04.st0 (cells l) _ (k:Nat))) (fun m k h=>?_) (fun m=>?_) (gAR _)
 ·have hlk:l[k]?=some l[k]:=gA h
  have hc:Call F.q3m [.agg [.str l[k].name,.int .i64 l[k].arity]] (.bool (decide (l[k].arity=0))):=by
   refine q0v rfl 0 ((q3m.ev _ _ _).trans ?_);simp only[evz,Nat.reduceLT]
  simp only[q04.next0,q04.round0,evz,Nat.reduceLT,h,hlk,q4b,hc.eq];rw[q0n (by omega)];simp only[gS]
 ·simp only[q04.next0,q04.round0,evz,Nat.reduceLT,gAK]
theorem q3w(l:List Symbol)(hs:l.length<=4294967296):Call F.q77 [slc l,.clo F.q3m []] (.bool (l.any fun x=>decide (x.arity=0))):=by
 refine q0v rfl 0 ((q3w.ev _ _).trans ?_);simp only[evz,Nat.reduceLT,(q04 l hs).eq,q95]
theorem q08(l:List Symbol)(hs:l.length<=4294967296):Call F.q08 [.agg [slc l]] (.int .i64 (q43 ⟨l⟩)):=by
 refine q0v rfl (l.length+1) ((q08.ev _ _).trans ?_);simp only[evz,Nat.reduceLT,q43,gt_iff_lt];by_cases h1:l.length<1
 ·have h1':(l.length:Int)<1:=by omega
  simp only[h1,h1',evz,Nat.reduceLT,true_or]
 by_cases h2:6<l.length
 ·have h1':¬(l.length:Int)<1:=by omega
  have h2':(6:Int)<l.length:=by omega
  simp only[h1,h1',h2,h2',evz,Nat.reduceLT,or_true]
 have h1':¬(l.length:Int)<1:=by omega
 have h2':¬(6:Int)<l.length:=by omega
 simp only[h1,h1',h2,h2',if_false,or_self]
 have two:=qdq (n:=l.length) (bad:=fun k=>l[k]?.any fun x=>decide (idx (fun y=>decide (y.name=x.name)) l≠(k:Nat)))
  (S:=fun m k=>q08.at2 (l.length+1) m (q08.st2 (cells l) l.length (k:Nat) (cells l))) (r:=some (.int .i64 6,[])) (z:=if l.any (fun x=>decide (x.arity=0))then some (.int .i64 0,[])else some (.int .i64 4,[]))
  (fun m k h=>by
   have hlk:l[k]?=some l[k]:=gA h;simp only[q08.next2,q08.round2,evz,Nat.reduceLT,h,hlk,q4b,(q6j l hs _).eq];rw[q0n (by omega)];by_cases e:idx (fun y=>decide (y.name=l[k].name)) l=(k:Int) <;> simp[e])
  (fun m=>by
   simp only[q08.next2,q08.round2,evz,Nat.reduceLT,gAK,(q3w l hs).eq];cases l.any (fun x=>decide (x.arity=0)) <;> rfl) (gAR _)
 have one:=qas (l:=l) (g:=fun x=>(q91 x).map fun c=>some (.int .i64 c,[]))
  (S:=fun m k=>q08.at0 (l.length+1) m (q08.st0 (cells l) l.length (k:Nat) (cells l)))
  (fun m k h=>by
   have hlk:l[k]?=some l[k]:=gA h;simp only[q08.next0,q08.round0,evz,Nat.reduceLT,h,hlk,q4b,(q9h _).eq,(q3l _ _ _).eq];rw[q0n (by omega)];cases h5:qd4 l[k].name with
   |false=>simp[q91,h5]
   |true=>cases h6:inR l[k].arity 0 2 <;> simp[q91,h5,h6])
  (fun m=>by simp only[q08.next0,q08.round0,evz,Nat.reduceLT,gAK];rfl) (gAR _)
 refine one.trans ?_;rw[show q08.at2 (l.length+1) (l.length+1) (q08.st2 (cells l) l.length 0 (cells l))=_ from two,qp8 (fun y:Symbol=>y.name),q9r];cases l.findSome? q91 with
 |some c=>rfl
 |none=>cases qdz (l.map fun x=>x.name) <;> cases l.any (fun x=>decide (x.arity=0)) <;> rfl
theorem q02(l:List Symbol)(hs:l.length<=4294967296):Call F.q02 [.agg [slc l]] (.int .i64 (q43 ⟨l⟩)):=by
 obtain⟨n,hn⟩:∃n,n=l.length+1:=⟨_,rfl⟩;refine q0v rfl n ((q02.ev _ _).trans ?_);simp only[evz,Nat.reduceLT,q43,gt_iff_lt];by_cases h1:l.length<1
 ·have h1':(l.length:Int)<1:=by omega
  simp only[h1,h1',evz,Nat.reduceLT,true_or]
 by_cases h2:6<l.length
 ·have h1':¬(l.length:Int)<1:=by omega
  have h2':(6:Int)<l.length:=by omega
  simp only[h1,h1',h2,h2',evz,Nat.reduceLT,or_true]
 have h1':¬(l.length:Int)<1:=by omega
 have h2':¬(6:Int)<l.length:=by omega
 simp only[h1,h1',h2,h2',if_false,or_self]
 have six:=q9c (l:=l) (p:=fun x=>decide (x.arity=0)) (S:=fun m k=>q02.at6 n m (q02.st6 l.length (k:Nat) (cells l))) (r:=some (.int .i64 0,[])) (z:=some (.int .i64 4,[]))
  (fun m k h=>by
   have hlk:l[k]?=some l[k]:=gA h;simp only[q02.next6,q02.round6,evz,Nat.reduceLT,h,hlk,q4b];rw[q0n (by omega)];simp only[gS])
  (fun m=>by simp only[q02.next6,q02.round6,evz,Nat.reduceLT,gAK]) (show l.length<n by omega)
 have two:=qdq (n:=l.length) (bad:=fun i=>(List.range i).any fun j=>l[i]?.any fun x=>l[j]?.any fun y=>decide (x.name=y.name))
  (S:=fun m i=>q02.at2 n m (q02.st2 l.length (i:Nat) (cells l))) (r:=some (.int .i64 6,[]))
  (fun m i h=>by
   have hlk:l[i]?=some l[i]:=gA h;simp only[q02.next2,q02.round2,evz,Nat.reduceLT,h]
   refine qdq (n:=i) (f:=n) (bad:=fun j=>l[i]?.any fun x=>l[j]?.any fun y=>decide (x.name=y.name))
    (S:=fun m' j=>q02.at4 n (q02.at2 n m) m' (q02.st4 l.length (i:Nat) (j:Nat) (cells l))) (fun m' j hj=>?_) (fun m'=>?_) (by omega)
   ·have hj':j<l.length:=by omega
    have hjk:l[j]?=some l[j]:=gA hj';simp only[q02.next4,q02.round4,evz,Nat.reduceLT,h,hj,hj',hlk,hjk,q4b];rw[q0n (by omega)];by_cases e:l[i].name=l[j].name <;> simp[e]
   ·simp only[q02.next4,q02.round4,evz,Nat.reduceLT,gAK];rw[q0n (by omega)])
  (fun m=>by simp only[q02.next2,q02.round2,evz,Nat.reduceLT,gAK];exact six) (show l.length<n by omega)
 have one:=qas (l:=l) (g:=fun x=>(q91 x).map fun c=>some (.int .i64 c,[]))
  (S:=fun m k=>q02.at0 n m (q02.st0 l.length (k:Nat) (cells l)))
  (fun m k h=>by
   have hlk:l[k]?=some l[k]:=gA h;simp only[q02.next0,q02.round0,evz,Nat.reduceLT,h,hlk,q4b,(q3a _).eq,(q1q _ _ _).eq];rw[q0n (by omega)];cases h5:qd4 l[k].name with
   |false=>simp[q91,h5]
   |true=>cases h6:inR l[k].arity 0 2 <;> simp[q91,h5,h6])
  (fun m=>by simp only[q02.next0,q02.round0,evz,Nat.reduceLT,gAK];rfl) (show l.length<n by omega)
 refine one.trans ?_;rw[show q02.at2 n n (q02.st2 l.length 0 (cells l))=_ from two,qei (fun y:Symbol=>y.name),q9r];cases l.findSome? q91 with
 |some c=>rfl
 |none=>cases qdz (l.map fun x=>x.name) <;> cases l.any (fun x=>decide (x.arity=0)) <;> rfl
theorem q8g{n a b:Int}:inR n a b=true<->a<=n/\n<=b:=by unfold inR;simp
structure SigOk(s:Signature):Prop where
 pos:1<=s.symbols.length
 le:s.symbols.length<=6
 name:∀x∈s.symbols,qd4 x.name=true
 arity:∀x∈s.symbols,0<=x.arity/\x.arity<=2
 nodup:(s.symbols.map (·.name)).Nodup
 const:∃x∈s.symbols,x.arity=0
theorem qak{α β:Type}{f:α->Option β}:∀{l:List α},l.findSome? f=none<->∀x∈l,f x=none
 |[]=>by simp
 |x::l=>by
  rw[List.findSome?_cons];cases h:f x with
  |some b=>simp[h]
  |none=>simp[h,qak (l:=l)]
theorem q8h(s:Signature):q43 s=0<->SigOk s:=by
 unfold q43;constructor
 ·intro h;split at h
  ·cases h
  ·rename_i h1;split at h
   ·rename_i c hc;obtain⟨x,hx,hf⟩:=List.exists_of_findSome?_eq_some hc;unfold q91 at hf;split at hf
    ·cases hf;cases h
    ·split at hf
     ·cases hf;cases h
     ·cases hf
   ·rename_i hn;rw[qak]at hn;split at h
    ·cases h
    ·rename_i ht;split at h
     ·rename_i ha
      have hx:∀x∈s.symbols,qd4 x.name=true/\inR x.arity 0 2=true:=fun x hx=>by
       have:=hn x hx;unfold q91 at this;split at this
       ·cases this
       ·split at this
        ·cases this
        ·rename_i h1 h2;exact⟨by simpa using h1,by simpa using h2⟩
      refine⟨by omega,by omega,fun x h=>(hx x h).1,fun x h=>q8g.1 (hx x h).2,?_,?_⟩
      ·unfold qdz at ht;simpa using ht
      ·rw[List.any_eq_true]at ha;obtain⟨x,h1,h2⟩:=ha;exact⟨x,h1,by simpa using h2⟩
     ·cases h
 ·intro h;rw[if_neg (by have:=h.pos;have:=h.le;omega)]
  have:s.symbols.findSome? q91=none:=qak.2 fun x hx=>by
   unfold q91;rw[if_neg (by simp[h.name x hx]),if_neg (by have:=q8g.2 (h.arity x hx);simp[this])]
  rw[this];simp only;rw[if_neg (by unfold qdz;simpa using h.nodup),if_pos];rw[List.any_eq_true];obtain⟨x,h1,h2⟩:=h.const;exact⟨x,h1,by simpa using h2⟩
def ar(l:List Symbol)(n:Int):Nat:=if n<0 then 0 else((l[n.toNat]?).map fun x=>x.arity.toNat).getD 0
def q80(l:List Symbol)(n:Int):Bool:=inR n 0 (l.length-1)||inR n (-12) (-1)
def skip(a:Int->Nat):Nat->List Int->Option (List Int)
 |0,l=>some l
 |_+1,[]=>none
 |k+1,n::l=>skip a (k+a n) l
def q57(l:List Symbol)(t:List Int):Int:=
 if t.length<1\/24<t.length then 2 else if t.any (fun n=>!q80 l n)then 3 else if skip (ar l) 1 t=some []then 0 else 1
def qbq(s:Signature)(t:List Int):Int:=if q43 s≠0 then q43 s else q57 s.symbols t
section
variable {a:Int->Nat}
@[simp] theorem q4n(l:List Int):skip a 0 l=some l:=by cases l <;> rfl
theorem qcg:∀{l r:List Int}{k:Nat},skip a k l=some r->∃p,l=p++r/\(0<k->0<p.length)
 |l,r,0,h=>by rw[q4n]at h;cases h;exact⟨[],rfl,by omega⟩
 |[],r,k+1,h=>by cases h
 |n::l,r,k+1,h=>by
  obtain⟨p,hp,_⟩:=qcg (l:=l) (k:=k+a n) h;exact⟨n::p,by rw[hp];rfl,by simp⟩
theorem qb8:∀(l:List Int)(j k:Nat),skip a (j+k) l=(skip a j l).bind (skip a k)
 |l,0,k=>by simp
 |[],j+1,k=>by rw[Nat.add_right_comm];rfl
 |n::l,j+1,k=>by
  rw[Nat.add_right_comm];show skip a (j+k+a n) l=(skip a (j+a n) l).bind (skip a k);rw[Nat.add_right_comm,qb8 l (j+a n) k]
theorem qls{t r:List Int}{e k:Nat}(h:skip a k (t.drop e)=some r):r=t.drop (t.length-r.length)/\r.length<=t.length-e/\(0<k->r.length<t.length-e):=by
 obtain⟨p,hp,hk⟩:=qcg h;have hl:(t.drop e).length=p.length+r.length:=by rw[hp,gM]
 rw[gAA]at hl;refine⟨?_,by omega,fun h0=>by have:=hk h0;omega⟩;have h1:t.length-r.length=e+p.length\/t.length<=e:=by omega
 rcases h1 with h1|h1
 ·rw[h1,<- List.drop_drop,hp,List.drop_left]
 ·have:r.length=0:=by omega
  rw[gL this];simp
end
theorem q5n{l:List Symbol}{n:Int}:q80 l n=true<->(0<=n/\n<l.length)\/(-12<=n/\n <= -1):=by
 unfold q80;rw[Bool.or_eq_true,q8g,q8g];omega
section
variable {l:List Symbol}(ok:SigOk ⟨l⟩)
include ok
theorem qpw(n:Int):ar l n<=2:=by
 unfold ar;split
 ·omega
 ·cases h:l[n.toNat]? with
  |none=>simp
  |some x=>
   have:=ok.arity x (List.mem_of_getElem? h);simp;omega
theorem q9f(n:Int):Call F.q9f [.agg [slc l],.int .i64 n] (.bool (q80 l n)):=by
 have hle:=ok.le
 have h1:Call F.q65 [.agg [slc l],.int .i64 n] (.bool (inR n 0 (l.length-1))):=by
  refine q0v rfl 0 ((q65.ev _ _ _).trans ?_);simp only[evz,Nat.reduceLT,q3g (x:=(l.length:Int)-1) (by simp at hle;omega),(q3l _ _ _).eq]
 refine q0v rfl 0 ((q9f.ev _ _ _).trans ?_);simp only[evz,Nat.reduceLT,h1.eq,(q3l _ _ _).eq,q80];cases inR n 0 (l.length-1) <;> simp[evz,Nat.reduceLT]
theorem q9e(n:Int):Call F.q9e [.rref [slc l] 0,.int .i64 n] (.bool (q80 l n)):=by
 have hle:=ok.le
 have h1:Call F.q63 [.rref [slc l] 0,.int .i64 n] (.bool (inR n 0 (l.length-1))):=by
  refine q0v rfl 0 ((q63.ev _ _ _).trans ?_);simp only[evz,Nat.reduceLT,q3g (x:=(l.length:Int)-1) (by simp at hle;omega),(q1q _ _ _).eq]
 refine q0v rfl 0 ((q9e.ev _ _ _).trans ?_);simp only[evz,Nat.reduceLT,h1.eq,(q1q _ _ _).eq,q80];cases inR n 0 (l.length-1) <;> simp[evz,Nat.reduceLT]
theorem qtp{n:Int}(hn:0<=n)(h:n.toNat<l.length):(l[n.toNat]).arity=(ar l n:Nat):=by
 have:=ok.arity l[n.toNat] (gG h);unfold ar;rw[if_neg (by omega),gA h];simp;omega
theorem q7e(n:Int)(h:q80 l n=true):Call F.q7e [.agg [slc l],.int .i64 n] (.int .i64 (ar l n:Nat)):=by
 refine q0v rfl 0 ((q7e.ev _ _ _).trans ?_);rw[q5n]at h;by_cases hn:n<0
 ·simp[hn,ar]
 ·obtain⟨m,rfl⟩:∃m:Nat,n=m:=⟨n.toNat,by omega⟩;have hm:m<l.length:=by omega
  have e:=qtp ok (n:=m) (by omega) (by simpa using hm);have hl:l[m]?=some l[m]:=gA hm;have hn':¬((m:Int)<0):=by omega
  simp only[evz,Nat.reduceLT,hn',hm,hl,q4b];simp at e;rw[e]
def qah(none':Int)(t:List Int)(r:Option (List Int)):Int:=match r with
 |some r=>((t.length-r.length:Nat):Int)
 |none=>none'
theorem q3d(t:List Int)(ht:∀n∈t,q80 l n=true)(hl:t.length<=4294967296)(e:Nat)(he:e<=t.length) :
 Call F.q3d [.agg [slc l],slc t,.int .i64 e] (.int .i64 (qah (t.length+1) t (skip (ar l) 1 (t.drop e)))):=by
 have loop:∀m k o,k<=t.length->t.length+1<m+k->o<=2*k+1->
  q3d.at0 (t.length+2) m (q3d.st0 (cells t) (k:Nat) (o:Nat) (cells l))=some (.int .i64 (qah (t.length+1) t (skip (ar l) o (t.drop k))),[]):=by
  intro m;induction m with
  |zero=>intros;omega
  |succ m ih=>
   intro k o hk hm ho;simp only[q3d.next0,q3d.round0,evz,Nat.reduceLT,gt_iff_lt,ge_iff_le];cases o with
   |zero=>
    rw[if_neg (by omega),q4n];simp only[qah,gAA];congr 3;omega
   |succ o=>
    rw[if_pos (by omega)];by_cases h:k<t.length
    ·have hk':t[k]?=some t[k]:=gA h;have hn:=ht t[k] (gG h);have h2:=qpw ok t[k];rw[if_neg (by omega)];simp only[h,hk',evz,Nat.reduceLT,q1l,(q7e ok t[k] hn).eq];rw[q0n (by omega),q3g (x:=((ar l t[k]:Nat):Int)-1) (by omega),q3g (by omega)];rw[show((o+1:Nat):Int)+(((ar l t[k]:Nat):Int)-1)=((o+ar l t[k]:Nat):Int) by omega];rw[ih (k+1) (o+ar l t[k]) (by omega) (by omega) (by omega),gH h];rfl
    ·obtain rfl:k=t.length:=by omega
     rw[if_pos (by omega),q3g (by omega),gU (gAI _)];rfl
 refine q0v rfl (t.length+2) ((q3d.ev _ _ _ _).trans ?_);have:=loop (t.length+2) e 1 he (by omega) (by omega);exact this
theorem q2q(t:List Int)(ht:∀n∈t,q80 l n=true)(hl:t.length<=4294967296)(e:Nat)(he:e<=t.length) :
 Call F.q2q [.rref [slc l] 0,slc t,.int .i64 e] (.int .i64 (qah (-1) t (skip (ar l) 1 (t.drop e)))):=by
 obtain⟨d,hd⟩:∃d,d=t.length-e:=⟨_,rfl⟩;induction d using Nat.strongRecOn generalizing e with
 |ind d ih=>
 refine q0v rfl 4 ((q2q.ev _ _ _ _).trans ?_);simp only[evz,Nat.reduceLT,ge_iff_le];by_cases h:e<t.length
 case neg=>
  obtain rfl:e=t.length:=by omega
  rw[if_pos (by omega),gU (gAI _)];rfl
 have hk':t[e]?=some t[e]:=gA h;have hn:=ht t[e] (gG h);have h2:=qpw ok t[e];rw[if_neg (by omega)];simp only[h,hk',evz,Nat.reduceLT,q1l];rw[gH h];show _=some (T.int .i64 (qah (-1) t (skip (ar l) (0+ar l t[e]) (t.drop (e+1)))),[]);rw[gAJ,q0n (by omega)];by_cases hneg:t[e]<0
 ·rw[if_pos hneg];have:ar l t[e]=0:=by unfold ar;rw[if_pos hneg]
  rw[this,q4n];simp only[qah,gAA];congr 3;omega
 rw[if_neg hneg];rw[q5n]at hn;obtain⟨y,hy⟩:∃y:Nat,t[e]=y:=⟨t[e].toNat,by omega⟩;have hym:y<l.length:=by omega
 have hyl:l[y]?=some l[y]:=gA hym
 have hya:l[y].arity=(ar l t[e]:Nat):=by
  have:=qtp ok (n:=t[e]) (by omega) (by omega);simpa[hy]using this
 have loop:∀m i k,e<k->k<=t.length->i<=ar l t[e]->ar l t[e]<m+i->
  q2q.at0 4 m (q2q.st0 (cells l) (cells t) e (k:Nat) (i:Nat))=some (.int .i64 (qah (-1) t (skip (ar l) (ar l t[e]-i) (t.drop k))),[]):=by
  intro m;induction m with
  |zero=>intros;omega
  |succ m ihm=>
   intro i k hk1 hk2 hi hm;simp only[q2q.next0,q2q.round0,evz,Nat.reduceLT,h,hk',q1l];simp only[hy,evz,Nat.reduceLT,hym,hyl,q4b,hya];by_cases hia:i<ar l t[e]
   ·rw[hy]at hia;rw[if_pos hia,(ih (t.length-k) (by omega) k hk2 rfl).eq];simp only[evz,Nat.reduceLT];rw[<- hy]at hia;rw[show ar l ((y:Nat):Int)-i=1+(ar l t[e]-(i+1)) by rw[hy];rw[hy]at hia;omega,qb8];cases hs:skip (ar l) 1 (t.drop k)with
    |none=>rfl
    |some r=>
     obtain⟨hr1,hr2,hr3⟩:=qls hs;have hr4:=hr3 (by omega);have hnn:¬ qah (-1) t (some r)<0:=by show ¬((t.length-r.length:Nat):Int)<0;omega
     rw[if_neg hnn,q0n (by omega),show qah (-1) t (some r)=((t.length-r.length:Nat):Int)from rfl,ihm (i+1) (t.length-r.length) (by omega) (by omega) (by omega) (by omega),<- hr1];rfl
   ·have:i=ar l t[e]:=by omega
    rw[if_neg (by rw[<- hy];exact hia),show ar l ((y:Nat):Int)-i=0 by rw[<- hy];omega,q4n];simp only[qah,gAA];congr 3;omega
 have:=loop 4 0 (e+1) (by omega) (by omega) (by omega) (by omega);exact this
end
theorem qfk{l:List Symbol}{t:List Int}:(t.any fun n=>!q80 l n)=false<->∀n∈t,q80 l n=true:=by
 rw[List.any_eq_false];simp
theorem qdj{a:Int->Nat}{t:List Int}:(qah (t.length+1) t (skip a 1 t)=t.length<->skip a 1 t=some [])/\(qah (-1) t (skip a 1 t)=t.length<->skip a 1 t=some []):=by
 cases h:skip a 1 t with
 |none=>simp[qah];omega
 |some r=>
  obtain⟨p,hp,_⟩:=qcg h;have:r.length<=t.length:=by rw[hp];simp
  cases r with
  |nil=>simp[qah]
  |cons x r=>
   simp only[gAB]at this;refine⟨⟨fun h=>?_,fun h=>by cases h⟩,⟨fun h=>?_,fun h=>by cases h⟩⟩ <;> (simp only[qah,gAB]at h;omega)
theorem q4h(l:List Symbol)(ok:SigOk ⟨l⟩)(t:List Int)(hs:t.length<=4294967296) :
 Call F.q21 [slc t,.clo F.q4i [.rref [slc l] 0]] (.bool (t.any fun n=>!q80 l n)):=by
 have hi:Call F.q0l [slc t,.clo F.q4i [.rref [slc l] 0]] (.int .i64 (idx (fun n=>!q80 l n) t)):=by
  refine q0v rfl (t.length+1) ((q0d.ev _ _ _).trans ?_);refine q94 (S:=fun m k=>q0d.at0 (t.length+1) m (q0d.st0 (cells t) _ _ (k:Nat))) (fun m k h=>?_) (fun m=>?_) (gAR _)
  ·have hlk:t[k]?=some t[k]:=gA h
   have hc:Call F.q4i [.int .i64 t[k],.rref [slc l] 0] (.bool (!q80 l t[k])):=by
    refine q0v rfl 0 ((q4i.ev _ _ _).trans ?_);simp only[evz,Nat.reduceLT,(q9f ok _).eq]
   simp only[q0d.next0,q0d.round0,evz,Nat.reduceLT,h,hlk,q1l,hc.eq];rw[q0n (by omega)];cases q80 l t[k] <;> rfl
  ·simp only[q0d.next0,q0d.round0,evz,Nat.reduceLT,gAK]
 refine q0v rfl 0 ((q4h.ev _ _ _).trans ?_);simp only[evz,Nat.reduceLT,hi.eq,q95]
theorem q4v(l:List Symbol)(hs:l.length<=4294967296)(t:List Int)(ht:t.length<=4294967296):Call F.q4v [.agg [slc l],slc t] (.int .i64 (qbq ⟨l⟩ t)):=by
 refine q0v rfl 0 ((q4v.ev _ _ _).trans ?_);simp only[evz,Nat.reduceLT,(q08 l hs).eq,qbq,q57,gt_iff_lt];by_cases h1:q43 ⟨l⟩=0
 case neg=>simp only[h1,evz,Nat.reduceLT,ne_eq,gX]
 have ok:=(q8h _).1 h1;simp only[h1,evz,Nat.reduceLT,ne_eq,gW];by_cases h2:t.length<1
 ·have h2':(t.length:Int)<1:=by omega
  simp only[h2,h2',evz,Nat.reduceLT,true_or]
 by_cases h3:24<t.length
 ·have h2':¬(t.length:Int)<1:=by omega
  have h3':(24:Int)<t.length:=by omega
  simp only[h2,h2',h3,h3',evz,Nat.reduceLT,or_true]
 have h2':¬(t.length:Int)<1:=by omega
 have h3':¬(24:Int)<t.length:=by omega
 simp only[h2,h2',h3,h3',evz,Nat.reduceLT,or_self,(q4h l ok t ht).eq];cases h4:t.any fun n=>!q80 l n with
 |true=>simp only[evz,Nat.reduceLT]
 |false=>
  have hn:=qfk.1 h4;have he:=q3d ok t hn ht 0 (by omega);simp only[evz,Nat.reduceLT,Bool.false_eq_true,show LIM F.q3d [.agg [slc l],slc t,.int .i64 0]=_ from he,List.drop_zero];by_cases h5:skip (ar l) 1 t=some []
  ·rw[if_pos (qdj.1.2 h5),if_pos h5]
  ·rw[if_neg fun h=>h5 (qdj.1.1 h),if_neg h5]
theorem q1n(l:List Symbol)(ok:SigOk ⟨l⟩)(t:List Int)(ht:t.length<=4294967296):Call F.q1n [.rref [slc l] 0,slc t] (.int .i64 (q57 l t)):=by
 refine q0v rfl (t.length+1) ((q1n.ev _ _ _).trans ?_);simp only[evz,Nat.reduceLT,q57,gt_iff_lt];by_cases h2:t.length<1
 ·have h2':(t.length:Int)<1:=by omega
  simp only[h2,h2',evz,Nat.reduceLT,true_or]
 by_cases h3:24<t.length
 ·have h2':¬(t.length:Int)<1:=by omega
  have h3':(24:Int)<t.length:=by omega
  simp only[h2,h2',h3,h3',evz,Nat.reduceLT,or_true]
 have h2':¬(t.length:Int)<1:=by omega
 have h3':¬(24:Int)<t.length:=by omega
 simp only[h2,h2',h3,h3',evz,Nat.reduceLT,or_self]
 have step:∀m k (h:k<t.length),q1n.at0 (t.length+1) (m+1) (q1n.st0 (cells l) (cells t) (k:Nat))=
  if(fun n=>!q80 l n) t[k]=true then some (.int .i64 3,[])else q1n.at0 (t.length+1) m (q1n.st0 (cells l) (cells t) ((k+1:Nat):Int)):=fun m k h=>by
  have hlk:t[k]?=some t[k]:=gA h;simp only[q1n.next0,q1n.round0,evz,Nat.reduceLT,h,hlk,q1l,(q9e ok _).eq];rw[q0n (by omega)];by_cases hb:q80 l t[k]=true <;> simp[hb]
 cases h4:t.any fun n=>!q80 l n with
 |true=>
  refine(qvn (p:=fun n=>!q80 l n) (r:=some (.int .i64 3,[])) (S:=fun m k=>q1n.at0 (t.length+1) m (q1n.st0 (cells l) (cells t) (k:Nat))) step h4 (gAR _)).trans ?_;simp only[evz,Nat.reduceLT]
 |false=>
  have hn:=qfk.1 h4;have he:=q2q ok t hn ht 0 (by omega);refine(q9c (p:=fun n=>!q80 l n) (r:=some (.int .i64 3,[])) (S:=fun m k=>q1n.at0 (t.length+1) m (q1n.st0 (cells l) (cells t) (k:Nat))) (z:=if skip (ar l) 1 t=some []then some (.int .i64 0,[])else some (.int .i64 1,[])) step (fun m=>?_) (gAR _)).trans ?_
  ·simp only[q1n.next0,q1n.round0,evz,Nat.reduceLT,gAK,show LIM F.q2q [.rref [slc l] 0,slc t,.int .i64 0]=_ from he,List.drop_zero];by_cases h5:skip (ar l) 1 t=some []
   ·rw[if_pos (qdj.2.2 h5),if_pos h5]
   ·rw[if_neg fun h=>h5 (qdj.2.1 h),if_neg h5]
  ·rw[h4];simp only[evz,Nat.reduceLT,Bool.false_eq_true];by_cases h5:skip (ar l) 1 t=some [] <;> simp only[h5,if_true,if_false]
end Ev.Ty
end
section
namespace Ev.Ty
open Go Ev
inductive Tm where
 |v (n:Int)
 |k (n:Int)
 |u (n:Int) (x:Tm)
 |b (n:Int) (x y:Tm)
 deriving DecidableEq
namespace Tm
def flat:Tm->List Int
 |v n=>[n]
 |k n=>[n]
 |u n x=>n::x.flat
 |b n x y=>n::(x.flat++y.flat)
def head:Tm->Int
 |v n=>n
 |k n=>n
 |u n _=>n
 |b n _ _=>n
def ok(a:Int->Nat):Tm->Prop
 |v n=>n<0
 |k n=>0<=n/\a n=0
 |u n x=>0<=n/\a n=1/\x.ok a
 |b n x y=>0<=n/\a n=2/\x.ok a/\y.ok a
theorem flat_pos(x:Tm):0<x.flat.length:=by cases x <;> simp[flat]
theorem flat_head(x:Tm):∃r,x.flat=x.head::r:=by cases x <;> exact⟨_,rfl⟩
variable {a:Int->Nat}
theorem skip_flat(ha:∀n,n<0->a n=0):∀(x:Tm)(r:List Int)(j:Nat),x.ok a->skip a (j+1) (x.flat++r)=skip a j r
 |v n,r,j,h=>by
  show skip a (j+a n) r=_;rw[ha n h,Nat.add_zero]
 |k n,r,j,h=>by
  show skip a (j+a n) r=_;rw[h.2,Nat.add_zero]
 |u n x,r,j,h=>by
  show skip a (j+a n) (x.flat++r)=_;rw[h.2.1];exact skip_flat ha x r j h.2.2
 |b n x y,r,j,h=>by
  show skip a (j+a n) ((x.flat++y.flat)++r)=_;rw[h.2.1,gZ,skip_flat ha x _ (j+1) h.2.2.1,skip_flat ha y _ j h.2.2.2]
theorem parse(ha:∀n,n<0->a n=0)(h2:∀n,a n<=2):∀(m:Nat)(l r:List Int),l.length<=m->skip a 1 l=some r->∃x:Tm,x.ok a/\l=x.flat++r
 |_,[],r,_,h=>by cases h
 |0,n::l,r,hm,h=>by simp at hm
 |m+1,n::l,r,hm,h=>by
  have hm:l.length<=m:=by simpa using hm
  have h:skip a (0+a n) l=some r:=h;rw[gAJ]at h;by_cases hn:n<0
  ·rw[ha n hn,q4n]at h;cases h;exact⟨.v n,hn,rfl⟩
  ·have:=h2 n;have h3:a n=0\/a n=1\/a n=2:=by omega
   rcases h3 with h0|h1|h2'
   ·rw[h0,q4n]at h;cases h;exact⟨.k n,⟨by omega,h0⟩,rfl⟩
   ·rw[h1]at h;obtain⟨x,hx,rfl⟩:=parse ha h2 m l r hm h;exact⟨.u n x,⟨by omega,h1,hx⟩,rfl⟩
   ·rw[h2',show 2=1+1 from rfl,qb8]at h;cases hs:skip a 1 l with
    |none=>rw[hs]at h;cases h
    |some r1=>
     rw[hs]at h;have h9:skip a 1 r1=some r:=h;obtain⟨x,hx,rfl⟩:=parse ha h2 m l r1 hm hs;obtain⟨y,hy,rfl⟩:=parse ha h2 m r1 r (by simp at hm;omega) h9;exact⟨.b n x y,⟨by omega,h2',hx,hy⟩,by simp[flat]⟩
end Tm
theorem qcp(l:List Symbol){n:Int}(h:n<0):ar l n=0:=by unfold ar;rw[if_pos h]
structure TermOk(l:List Symbol)(t:List Int):Prop where
 pos:1<=t.length
 le:t.length<=24
 node:∀n∈t,q80 l n=true
 skip:skip (ar l) 1 t=some []
theorem q90(l:List Symbol)(t:List Int):q57 l t=0<->TermOk l t:=by
 unfold q57;constructor
 ·intro h;split at h
  ·cases h
  ·split at h
   ·cases h
   ·rename_i h1 h2;split at h
    ·rename_i h3;exact⟨by omega,by omega,qfk.1 (by simpa using h2),h3⟩
    ·cases h
 ·intro h;have:=h.pos;have:=h.le;rw[if_neg (by omega),if_neg (by rw[qfk.2 h.node];simp),if_pos h.skip]
theorem TermOk.tree{l:List Symbol}{t:List Int}(ok:SigOk ⟨l⟩)(h:TermOk l t):∃x:Tm,x.ok (ar l)/\t=x.flat:=by
 obtain⟨x,hx,e⟩:=Tm.parse (fun n hn=>qcp l hn) (qpw ok) t.length t [] (gAI _) h.skip;exact⟨x,hx,by simpa using e⟩
theorem qwr{t r:List Int}{e:Nat}{x:Tm}(h:t.drop e=x.flat++r):e<t.length/\t[e]?=some x.head/\e+x.flat.length<=t.length:=by
 have hl:(t.drop e).length=x.flat.length+r.length:=by rw[h,gM]
 have hp:=x.flat_pos;rw[gAA]at hl;refine⟨by omega,?_,by omega⟩
 have:(t.drop e)[0]?=some x.head:=by
  rw[h];obtain⟨r',e'⟩:=x.flat_head;rw[e'];rfl
 rwa[gV,Nat.add_zero]at this
end Ev.Ty
end
section
namespace Ev.Ty
open Go Ev
open Enc (enc)
open Sm (sm)
structure AlgOk(l:List Symbol)(z:Int)(tb:List (List Int)):Prop where
 sig:SigOk ⟨l⟩
 size:1<=z/\z<=3
 len:tb.length=l.length
 rows:∀(k:Nat)(h:k<l.length)(h':k<tb.length),tb[k].length=z.toNat ^ (l[k]).arity.toNat/\∀n∈tb[k],0<=n/\n<=z-1
def Tm.eval(z:Int)(tb:List (List Int))(vs:List Int):Tm->Int
 |v n=>vs.getD (-1-n).toNat 0
 |k n=>(tb.getD n.toNat []).getD 0 0
 |u n x=>(tb.getD n.toNat []).getD (x.eval z tb vs).toNat 0
 |b n x y=>(tb.getD n.toNat []).getD (x.eval z tb vs*z+y.eval z tb vs).toNat 0
section
variable {l:List Symbol}{z:Int}{tb:List (List Int)}(al:AlgOk l z tb){vs:List Int}(hv:vs.length=6)(hr:∀n∈vs,0<=n/\n<=z-1)
include al
include hv hr
end
theorem qt2{α:Type}{v:List α}{i:Nat}{d:α}(h:i<v.length):v.getD i d=v[i]:=by simp[h]
section
variable {l:List Symbol}{z:Int}{tb:List (List Int)}(al:AlgOk l z tb){vs:List Int}(hv:vs.length=6)(hr:∀n∈vs,0<=n/\n<=z-1)
include al hv hr
end
theorem q2n(l:List Int)(hl:l.length<=4294967296):Call F.q2n [slc l] (.int .i64 ((l.find? fun n=>decide (n≠0)).getD 0)):=by
 refine q0v rfl (l.length+1) ((q2n.ev _ _).trans ?_)
 have:=qas (l:=l) (g:=fun n=>if n≠0 then some (some (.int .i64 n,[]))else none) (z:=some (.int .i64 0,[])) (S:=fun m k=>q2n.at0 (l.length+1) m (q2n.st0 0 (cells l) l.length (k:Nat)))
  (fun m k h=>by
   have hlk:l[k]?=some l[k]:=gA h;simp only[q2n.next0,q2n.round0,evz,Nat.reduceLT,h,hlk,q1l];rw[q0n (by omega)];by_cases e:l[k]=0 <;> simp[e])
  (fun m=>by simp only[q2n.next0,q2n.round0,evz,Nat.reduceLT,gAK]) (gAR _)
 simp only[q5m,q3n];refine this.trans ?_;clear this;induction l with
 |nil=>rfl
 |cons x l ih=>
  rw[List.findSome?_cons,List.find?_cons];by_cases e:x=0
  ·simpa[e]using ih (by simp at hl;omega)
  ·simp[e]
theorem qd1(a b:Int):Call F.q67 [.sl 1 [.int .i64 a,.int .i64 b]] (.int .i64 (if a=0 then b else a)):=by
 refine q0v rfl 0 ((q67.ev _ _).trans ?_);have:=q2n [a,b] (by simp);simp only[evz,Nat.reduceLT,show LIM F.q2n [.sl 1 [.int .i64 a,.int .i64 b]]=_ from this];by_cases h:a=0
 ·by_cases h':b=0 <;> simp[h,h']
 ·simp[h]
theorem q3e(t:List Int)(hl:t.length<=4294967296):Call F.q3e [slc t] (.bool (!t.any fun n=>decide (n < -6))):=by
 refine q0v rfl (t.length+1) ((q3e.ev _ _).trans ?_);refine(q9c (l:=t) (p:=fun n=>decide (n < -6)) (r:=some (.bool false,[])) (z:=some (.bool true,[])) (S:=fun m k=>q3e.at0 (t.length+1) m (q3e.st0 (cells t) (k:Nat))) (fun m k h=>?_) (fun m=>?_) (gAR _)).trans ?_
 ·have hlk:t[k]?=some t[k]:=gA h;simp only[q3e.next0,q3e.round0,evz,Nat.reduceLT,h,hlk,q1l];rw[q0n (by omega)];simp only[gS]
 ·simp only[q3e.next0,q3e.round0,evz,Nat.reduceLT,gAK]
 ·cases t.any fun n=>decide (n < -6) <;> rfl
section
variable (l:List Symbol)(z:Int)(tb:List (List Int))(vs t:List Int)(hs:l.length<=4294967296)(ht:sm 4294967296 tb)(hl:t.length<=4294967296)
include hs ht hl
end
theorem q8z:∀l:List Int,q8r l=cells l
 |[]=>rfl
 |x::l=>by rw[q6v,<- q8z l];rfl
def qix(l:List Int):List Int:=l.mergeSort fun x y=>decide (x<=y)
theorem q8u(l:List Int)(h:l.length<=4294967296):LIM F.q8u [slc l]=some (.tup [],[slc (qix l)]):=by
 refine qed (e:=sortE) rfl (Ev.of fun m=>?_);show((qdg (cells l)).bind fun zs=>bif decide (zs.length<4611686018427387904)then some (T.tup [],[T.sl 1 (q8r (zs.mergeSort fun x y=>decide (x<=y)))])else none)=_;rw[<- q8z,qb7,Option.bind_some,decide_eq_true (by omega),cond_true,q8z];rfl
theorem q7d(l:List Int)(h:l.length<=4294967296):Call F.q7d [slc l] (slc (Lib.compact l)):=by
 refine qed (e:=compactE) rfl (Ev.of fun m=>?_);show((qdg (cells l)).bind fun zs=>bif decide (zs.length<4611686018427387904)then some (T.sl 1 (q8r (Lib.compact zs)),[])else none)=_;rw[<- q8z,qb7,Option.bind_some,decide_eq_true (by omega),cond_true,q8z];rfl
theorem qp1{l:List Int}{x:Int}:x∈Lib.compact l<->x∈l:=by
 unfold Lib.compact Lib.compactUpTo;simp only[List.mem_map,List.mem_filter,List.mem_range];constructor
 ·rintro⟨j,⟨hj,_⟩,rfl⟩;rw[getElem!_pos _ j (by simpa using hj)];simp
 ·intro h;obtain⟨i,hi,rfl⟩:=List.mem_iff_getElem.1 h
  have:∀j,(hj:j<l.length)->∃k,(k<l.length/\Lib.keeps l.toArray k=true)/\l.toArray[k]! = l[j]:=by
   intro j;induction j with
   |zero=>intro hj;exact⟨0,⟨hj,by simp[Lib.keeps]⟩,by simp[hj]⟩
   |succ j ih=>
    intro hj;by_cases e:l[j+1]=l[j]
    ·obtain⟨k,hk,he⟩:=ih (by omega);exact⟨k,hk,by rw[he,e]⟩
    ·refine⟨j+1,⟨hj,?_⟩,by simp[hj]⟩;have hj':j<l.length:=by omega
     simp[Lib.keeps,hj,hj',e]
  exact this i hi
theorem qjh(l:List Int):(Lib.compact l).length<=l.length:=qhq l
def vars(t:List Int):List Int:=(t.filter fun n=>decide (n<0)).map fun n => -1-n
theorem qqf{t:List Int}{v:Int}:v∈vars t<->0<=v/\(-1-v)∈t:=by
 unfold vars;simp only[List.mem_map,List.mem_filter,gS];constructor
 ·rintro⟨n,⟨hn,h0⟩,rfl⟩;exact⟨by omega,by rw[show -1-(-1-n)=n by omega];exact hn⟩
 ·rintro⟨h0,h⟩;exact⟨-1-v,⟨h,by omega⟩,by omega⟩
theorem qhu(t:List Int):(vars t).length<=t.length:=by
 unfold vars;rw[gAG];exact List.length_filter_le _ _
def qbs(l:List (List Int)):List Int:=Lib.compact (qix (l.flatMap vars))
theorem q9z{l:List (List Int)}{v:Int}:v∈qbs l<->0<=v/\∃t∈l,(-1-v)∈t:=by
 unfold qbs qix;rw[qp1,List.mem_mergeSort,List.mem_flatMap];constructor
 ·rintro⟨t,ht,h⟩;obtain⟨h0,h1⟩:=qqf.1 h;exact⟨h0,t,ht,h1⟩
 ·rintro⟨h0,t,ht,h1⟩;exact⟨t,ht,qqf.2 ⟨h0,h1⟩⟩
theorem qcq:∀l:List (List Int),(l.flatMap vars).length<=(l.map List.length).sum
 |[]=>by simp
 |t::l=>by
  rw[gAN,gM,List.map_cons,List.sum_cons];have:=qhu t;have:=qcq l;omega
theorem qem(l:List (List Int)):(qbs l).length<=(l.map List.length).sum:=by
 unfold qbs;refine Nat.le_trans (qjh _) ?_;unfold qix;rw[List.length_mergeSort];exact qcq l
theorem q11(l:List (List Int))(hl:l.length<=24)(ht:∀t∈l,t.length<=4294967296/\∀n∈t,-12<=n)(hsum:(l.map List.length).sum<=4294967296):Call F.q11 [slc l] (slc (qbs l)):=by
 obtain⟨N,hN⟩:∃N,N=4294967297:=⟨_,rfl⟩
 have inner:∀(L0:St->R)(x0:List T)(x1 x2:Int)(t:List Int),(∀n∈t,-12<=n)->∀m k (acc:List Int),k<=t.length->t.length<m+k->acc.length+t.length<=k+4294967296->t.length<=4294967296->
  q11.at2 N L0 m (q11.st2 x0 x1 x2 (cells t) t.length (k:Nat) (cells acc))=L0 (q11.st0 x0 x1 (IntKind.wrap .i64 (x2+1)) (cells (acc++vars (t.drop k)))):=by
  intro L0 x0 x1 x2 t hn m;induction m with
  |zero=>intros;omega
  |succ m ih=>
   intro k acc hk hm hacc htl;by_cases h:k<t.length
   ·have hlk:t[k]?=some t[k]:=gA h;simp only[q11.next2,q11.round2,evz,Nat.reduceLT,h,hlk,q1l];rw[q0n (by omega),gH h];have hge:=hn t[k] (gG h);by_cases h0:t[k]<0
    ·have hble:Nat.ble (((cells acc).length+1)*8) (140737488355328*1)=true:=by
      rw[Nat.ble_eq,q0p,q3n];omega
     rw[q3g (by omega),q2f,hble,ih (k+1) (acc++[-1-t[k]]) (by omega) (by omega) (by rw[gM];simp;omega) htl];simp only[h0,evz,Nat.reduceLT,vars,List.filter_cons,List.map_cons,gZ,List.singleton_append]
    ·rw[ih (k+1) acc (by omega) (by omega) (by omega) htl];simp only[h0,evz,Nat.reduceLT,vars,List.filter_cons,Bool.false_eq_true]
   ·obtain rfl:k=t.length:=by omega
    simp only[q11.next2,q11.round2,evz,Nat.reduceLT,gAK,List.drop_length,vars,List.filter_nil,List.map_nil,gAD]
 have outer:∀m k (acc:List Int),k<=l.length->l.length<m+k->acc.length+((l.drop k).map List.length).sum<=4294967296->
  q11.at0 N m (q11.st0 (cells l) l.length (k:Nat) (cells acc))=some (slc (Lib.compact (qix (acc++(l.drop k).flatMap vars))),[]):=by
  intro m;induction m with
  |zero=>intros;omega
  |succ m ih=>
   intro k acc hk hm hacc;by_cases h:k<l.length
   ·have hlk:l[k]?=some l[k]:=gA h;obtain⟨q1,q2⟩:=ht l[k] (gG h);rw[gH h,List.map_cons,List.sum_cons]at hacc;simp only[q11.next0,q11.round0,evz,Nat.reduceLT,h,hlk,qc2];have hin:=inner (q11.at0 N m) (cells l) l.length (k:Nat) l[k] q2 N 0 acc (by omega) (by omega) (by omega) q1;rw[List.drop_zero,q0n (by omega)]at hin;refine Eq.trans hin ?_;have:=qhu l[k];rw[ih (k+1) (acc++vars l[k]) (by omega) (by omega) (by rw[gM];omega),gH h,gAN,gZ]
   ·obtain rfl:k=l.length:=by omega
    rw[List.drop_length]at hacc ⊢;have hs:=q8u acc (by simpa using hacc);have hc:=q7d (qix acc) (by unfold qix;rw[List.length_mergeSort];simpa using hacc);simp only[q11.next0,q11.round0,evz,Nat.reduceLT,gAK,List.flatMap_nil,gAD];simp only[hs,hc.eq,evz,Nat.reduceLT]
 refine q0v rfl N ((q11.ev _ _).trans ?_);have:=outer N 0 [] (by omega) (by omega) (by simpa using hsum);rw[List.drop_zero,List.nil_append]at this;simp only[q5m,qul];exact this
end Ev.Ty
end
