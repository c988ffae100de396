/- Steps on the way to RowConfluent: X1, XALL, TyMarks, TyFields, TyPlumb, TyNum, TySig, TyAlg, TyTerm, TyTree, TyEval, TyEvalF, TyEvalT, TyVars, TyEqs, TySame, TyBind, TyRules, TyCmp, TyWalk, TyMatchP, TySortP, TyLpoP, TyLpo, TyWf, TyLpoS, TyRewr, TyNormP, TyPigeon. -/
import Derived.Test.YtcnpimlmmmkcmaaGreatDoorM4
import Derived.Lib.SlTrimSet
set_option linter.unusedSectionVars false
set_option linter.unusedVariables false
set_option linter.unusedSimpArgs false
section
open Go
set_option maxRecDepth 100000
namespace Ev
noncomputable section
variable (n:Nat)(L0 L1 L2 L3 L4 L5:St->R)(m:Nat)(s:St)
def q0j.st4(x0 x1 x2 x3:List T)(x4 x5:Int)(x6 x7:List T):St:=⟨[(0,(.one (.t (.rref [(.sl 2 x0)] 0)))),(2,ol 1 x1),(3,ol 1 x2),(6,ol 1 x3),(15,oi x4),(16,(.one (.obj 3584))),(18,(.one (.obj 6464))),(20,oi x5)],[(3584,(.arr true true 1 x6)),(6464,(.arr true true 1 x7))]⟩
def q0j.st2(x0 x1 x2:List T)(x3 x4:Int)(x5:List T)(x6 x7:Int)(x8 x9:List T):St:=⟨[(0,(.one (.t (.rref [(.sl 2 x0)] 0)))),(2,ol 1 x1),(3,ol 1 x2),(4,oi x3),(5,oi x4),(6,ol 1 x5),(15,oi x6),(16,(.one (.obj 3584))),(18,(.one (.obj 6464))),(19,oi x7)],[(3584,(.arr true true 1 x8)),(6464,(.arr true true 1 x9))]⟩
def q0j.st0(x0 x1 x2 x3:List T)(x4 x5:Int)(x6:List T)(x7 x8:Int)(x9:List T):St:=⟨[(0,(.one (.t (.rref [(.sl 2 x0)] 0)))),(1,ol 1 x1),(2,ol 1 x2),(3,ol 1 x3),(4,oi x4),(5,oi x5),(6,ol 1 x6),(15,oi x7),(16,(.one (.obj 3584))),(17,oi x8)],[(3584,(.arr true true 1 x9))]⟩
def q0j.K0:=kx F.q0j n [.block 0,.seq 0 (cx F.q0j [1,1,1,1,1,1])] (q40 prog A F.q0j)
def q0j.at0:=lx F.q0j n 0 [1,1,1,1,1,0,1,0,0] (q0j.K0 n) m s
def q0j.rd0:=rx F.q0j n 0 [1,1,1,1,1,0,1,0,0] (q0j.K0 n) L0 s
theorem q0j.next0:q0j.at0 n (m+1) s=q0j.rd0 n (q0j.at0 n m) s:=nx ..
def q0j.K2:=kx F.q0j n [.block 2,.seq 0 (cx F.q0j [1,1,1,1,1,1,1,1,1])] (q40 prog A F.q0j)
def q0j.at2:=lx F.q0j n 2 [1,1,1,1,1,1,1,1,0,1,0,0] (q0j.K2 n) m s
def q0j.rd2:=rx F.q0j n 2 [1,1,1,1,1,1,1,1,0,1,0,0] (q0j.K2 n) L2 s
theorem q0j.next2:q0j.at2 n (m+1) s=q0j.rd2 n (q0j.at2 n m) s:=nx ..
def q0j.K4:=kx F.q0j n [.block 4,.seq 0 (cx F.q0j [1,1,1,1,1,1,1,1,1,1,1])] (q40 prog A F.q0j)
def q0j.at4:=lx F.q0j n 4 [1,1,1,1,1,1,1,1,1,1,0,1,0,0] (q0j.K4 n) m s
def q0j.rd4:=rx F.q0j n 4 [1,1,1,1,1,1,1,1,1,1,0,1,0,0] (q0j.K4 n) L4 s
theorem q0j.next4:q0j.at4 n (m+1) s=q0j.rd4 n (q0j.at4 n m) s:=nx ..
theorem q0j.round0(x0 x1 x2 x3:List T)(x4 x5:Int)(x6:List T)(x7 x8:Int)(x9:List T):q0j.rd0 n L0 (q0j.st0 x0 x1 x2 x3 x4 x5 x6 x7 x8 x9)=bif (decide (x8<(((x9.length/1):Nat):Int)))then bif inB x8 (x9.length/1)then(x9[x8.toNat*1]?).bind fun e15=>(oInt .i64 e15).bind fun n16=>bif inB (IntKind.wrap .i64 ((IntKind.wrap .i64 (n16*x7))+x5)) (x6.length/1)then(x6[(Int.toNat (IntKind.wrap .i64 ((IntKind.wrap .i64 (n16*x7))+x5)))*1]?).bind fun e17=>(q7g e17).bind fun b18=>bif b18 then some (.bool true,[])else bif inB x8 (x9.length/1)then(x9[x8.toNat*1]?).bind fun e19=>(oInt .i64 e19).bind fun n20=>(LIM F.q74 [.rref [.sl 2 x0] 0,.sl 1 x2,.int .i64 n20,.sl 1 x3,.int .i64 x5]).bind fun r21=>bB r21 fun b22=>bif b22 then some (.bool true,[])else L0 (q0j.st0 x0 x1 x2 x3 x4 x5 x6 x7 (IntKind.wrap .i64 (x8+1)) x9)else none else none else none else bif inB x4 (x2.length/1)then(x2[x4.toNat*1]?).bind fun e23=>(oInt .i64 e23).bind fun n24=>(LIM F.q2b [.sl 1 x1,.int .i64 n24]).bind fun r25=>bI r25 fun n26=>bif inB x5 (x3.length/1)then(x3[x5.toNat*1]?).bind fun e27=>(oInt .i64 e27).bind fun n28=>(LIM F.q2b [.sl 1 x1,.int .i64 n28]).bind fun r29=>bI r29 fun n30=>bif (decide (n26<n30))then some (.bool false,[])else(LIM F.q1s [.rref [.sl 2 x0] 0,.sl 1 x3,.int .i64 x5]).bind fun r31=>bL r31 fun c32=>q0j.at2 n n (q0j.st2 x0 x2 x3 x4 x5 x6 x7 (0:Int) x9 c32)else none else none:=by kernel_rfl
theorem q0j.round2(x0 x1 x2:List T)(x3 x4:Int)(x5:List T)(x6 x7:Int)(x8 x9:List T):q0j.rd2 n L2 (q0j.st2 x0 x1 x2 x3 x4 x5 x6 x7 x8 x9)=bif (decide (x7<(((x9.length/1):Nat):Int)))then bif inB x7 (x9.length/1)then(x9[x7.toNat*1]?).bind fun e33=>(oInt .i64 e33).bind fun n34=>bif inB (IntKind.wrap .i64 ((IntKind.wrap .i64 (x3*x6))+n34)) (x5.length/1)then(x5[(Int.toNat (IntKind.wrap .i64 ((IntKind.wrap .i64 (x3*x6))+n34)))*1]?).bind fun e35=>(q7g e35).bind fun b36=>bif (!b36)then some (.bool false,[])else L2 (q0j.st2 x0 x1 x2 x3 x4 x5 x6 (IntKind.wrap .i64 (x7+1)) x8 x9)else none else none else bif inB x3 (x1.length/1)then(x1[x3.toNat*1]?).bind fun e37=>(oInt .i64 e37).bind fun n38=>bif inB x4 (x2.length/1)then(x2[x4.toNat*1]?).bind fun e39=>(oInt .i64 e39).bind fun n40=>bif (n38 != n40)then some (.bool true,[])else q0j.at4 n n (q0j.st4 x0 x1 x2 x5 x6 (0:Int) x8 x9)else none else none:=by kernel_rfl
theorem q0j.round4(x0 x1 x2 x3:List T)(x4 x5:Int)(x6 x7:List T):q0j.rd4 n L4 (q0j.st4 x0 x1 x2 x3 x4 x5 x6 x7)=bif (decide (x5<(((x6.length/1):Nat):Int)))then bif (decide (x5<(((x7.length/1):Nat):Int)))then bif inB x5 (x6.length/1)then(x6[x5.toNat*1]?).bind fun e41=>(oInt .i64 e41).bind fun n42=>bif inB x5 (x7.length/1)then(x7[x5.toNat*1]?).bind fun e43=>(oInt .i64 e43).bind fun n44=>(LIM F.q74 [.rref [.sl 2 x0] 0,.sl 1 x1,.int .i64 n42,.sl 1 x2,.int .i64 n44]).bind fun r45=>bB r45 fun b46=>bif (!b46)then bif inB x5 (x6.length/1)then(x6[x5.toNat*1]?).bind fun e47=>(oInt .i64 e47).bind fun n48=>bif inB x5 (x7.length/1)then(x7[x5.toNat*1]?).bind fun e49=>(oInt .i64 e49).bind fun n50=>bif inB (IntKind.wrap .i64 ((IntKind.wrap .i64 (n48*x4))+n50)) (x3.length/1)then(x3[(Int.toNat (IntKind.wrap .i64 ((IntKind.wrap .i64 (n48*x4))+n50)))*1]?).bind fun e51=>(q7g e51).bind fun b52=>some (.bool b52,[])else none else none else none else L4 (q0j.st4 x0 x1 x2 x3 x4 (IntKind.wrap .i64 (x5+1)) x6 x7)else none else none else some (.bool false,[])else some (.bool false,[]):=by kernel_rfl
theorem q0j.ev(a0_0 a1 a2 a3:List T)(a4 a5:Int)(a6:List T):q1j prog A H LIM n F.q0j [.rref [.sl 2 a0_0] 0,.sl 1 a1,.sl 1 a2,.sl 1 a3,.int .i64 a4,.int .i64 a5,.sl 1 a6]=bif inB a5 (a3.length/1)then(a3[a5.toNat*1]?).bind fun e1=>(oInt .i64 e1).bind fun n2=>bif (decide (n2<0))then bif inB a4 (a2.length/1)then(a2[a4.toNat*1]?).bind fun e3=>(oInt .i64 e3).bind fun n4=>bif (decide (n4>=0))then(LIM F.q28 [.rref [.sl 2 a0_0] 0,.sl 1 a2,.int .i64 a4]).bind fun r5=>bI r5 fun n6=>bif decide (0<=a4)&&decide (a4<=n6)&&decide (n6<=(((a2.length/1):Nat):Int))then bif inB a5 (a3.length/1)then(a3[a5.toNat*1]?).bind fun e7=>(oInt .i64 e7).bind fun n8=>(LIM F.q1t [.sl 1 ((a2.take (n6.toNat*1)).drop (a4.toNat*1)),.int .i64 n8]).bind fun r9=>bI r9 fun n10=>some (.bool (decide (n10>0)),[])else none else none else some (.bool false,[])else none else bif inB a4 (a2.length/1)then(a2[a4.toNat*1]?).bind fun e11=>(oInt .i64 e11).bind fun n12=>bif (decide (n12<0))then some (.bool false,[])else(LIM F.q1s [.rref [.sl 2 a0_0] 0,.sl 1 a2,.int .i64 a4]).bind fun r13=>bL r13 fun c14=>q0j.at0 n n (q0j.st0 a0_0 a1 a2 a3 a4 a5 a6 (((a3.length/1):Nat):Int) (0:Int) c14)else none else none:=by kernel_rfl
theorem q7c.ev(a0_0 a1 a2 a3:List T):q1j prog A H LIM n F.q7c [.rref [.sl 2 a0_0] 0,.sl 1 a1,.sl 1 a2,.sl 1 a3]=(LIM F.q20 [.sl 1 a2,.sl 1 a3]).bind fun r1=>bB r1 fun b2=>bif b2 then some (.int .i64 3,[])else(LIM F.q6k [.rref [.sl 2 a0_0] 0,.sl 1 a1,.sl 1 a2,.sl 1 a3]).bind fun r3=>bB r3 fun b4=>bif b4 then some (.int .i64 1,[])else(LIM F.q6k [.rref [.sl 2 a0_0] 0,.sl 1 a1,.sl 1 a3,.sl 1 a2]).bind fun r5=>bB r5 fun b6=>bif b6 then some (.int .i64 2,[])else some (.int .i64 0,[]):=by kernel_rfl
theorem q74.ev(a0_0 a1:List T)(a2:Int)(a3:List T)(a4:Int):q1j prog A H LIM n F.q74 [.rref [.sl 2 a0_0] 0,.sl 1 a1,.int .i64 a2,.sl 1 a3,.int .i64 a4]=(LIM F.q28 [.rref [.sl 2 a0_0] 0,.sl 1 a1,.int .i64 a2]).bind fun r1=>bI r1 fun n2=>bif decide (0<=a2)&&decide (a2<=n2)&&decide (n2<=(((a1.length/1):Nat):Int))then(LIM F.q28 [.rref [.sl 2 a0_0] 0,.sl 1 a3,.int .i64 a4]).bind fun r3=>bI r3 fun n4=>bif decide (0<=a4)&&decide (a4<=n4)&&decide (n4<=(((a3.length/1):Nat):Int))then(LIM F.q20 [.sl 1 ((a1.take (n2.toNat*1)).drop (a2.toNat*1)),.sl 1 ((a3.take (n4.toNat*1)).drop (a4.toNat*1))]).bind fun r5=>bB r5 fun b6=>some (.bool b6,[])else none else none:=by kernel_rfl
def q29.st0(x0 x1 x2:List T)(x3:Int):St:=⟨[(0,(.one (.t (.rref [(.sl 2 x0)] 0)))),(1,ol 1 x1),(2,ol 2 x2),(7,oi x3)],[]⟩
def q29.K0:=kx F.q29 n [.block 0,.seq 0 (cx F.q29 [1,1])] (q40 prog A F.q29)
def q29.at0:=lx F.q29 n 0 [1,0,1,0,0] (q29.K0 n) m s
def q29.rd0:=rx F.q29 n 0 [1,0,1,0,0] (q29.K0 n) L0 s
theorem q29.next0:q29.at0 n (m+1) s=q29.rd0 n (q29.at0 n m) s:=nx ..
theorem q29.round0(x0 x1 x2:List T)(x3:Int):q29.rd0 n L0 (q29.st0 x0 x1 x2 x3)=bif (decide (x3<(((x2.length/2):Nat):Int)))then bif inB x3 (x2.length/2)then(x2[x3.toNat*2]?).bind fun e1=>(oSl 1 e1).bind fun c2=>bif inB x3 (x2.length/2)then(x2[(x3.toNat*2)+1]?).bind fun e3=>(oSl 1 e3).bind fun c4=>(LIM F.q6k [.rref [.sl 2 x0] 0,.sl 1 x1,.sl 1 c2,.sl 1 c4]).bind fun r5=>bB r5 fun b6=>bif (!b6)then some (.bool false,[])else L0 (q29.st0 x0 x1 x2 (IntKind.wrap .i64 (x3+1)))else none else none else some (.bool true,[]):=by kernel_rfl
theorem q29.ev(a0_0 a1 a2:List T):q1j prog A H LIM n F.q29 [.rref [.sl 2 a0_0] 0,.sl 1 a1,.sl 2 a2]=q29.at0 n n (q29.st0 a0_0 a1 a2 (0:Int)):=by kernel_rfl
theorem q6k.ev(a0_0 a1 a2 a3:List T):q1j prog A H LIM n F.q6k [.rref [.sl 2 a0_0] 0,.sl 1 a1,.sl 1 a2,.sl 1 a3]=(LIM F.q0v [.rref [.sl 2 a0_0] 0,.sl 1 a1,.sl 1 a2,.sl 1 a3]).bind fun r1=>bL r1 fun c2=>bif inB (0:Int) (c2.length/1)then(c2[0]?).bind fun e3=>(q7g e3).bind fun b4=>some (.bool b4,[])else none:=by kernel_rfl
def q1q.st0(x0 x1:List T)(x2:Int)(x3:List T)(x4:Int)(x5:List T):St:=⟨[(0,(.one (.ptr 1000000 0))),(1,(.one (.t (.rref [(.sl 2 x0)] 0)))),(2,ol 1 x1),(9,(.one (.obj 960))),(10,oi x2)],[(1000000,(.box [(.kept 0 (.sl 1 x3)),(.t (.int .i64 x4))])),(960,(.arr true true 2 x5))]⟩
def q1q.K0:=kx F.q1q n [.block 0,.seq 0 (cx F.q1q [1,1,1])] (q40 prog A F.q1q)
def q1q.at0:=lx F.q1q n 0 [1,1,0,1,0,0] (q1q.K0 n) m s
def q1q.rd0:=rx F.q1q n 0 [1,1,0,1,0,0] (q1q.K0 n) L0 s
theorem q1q.next0:q1q.at0 n (m+1) s=q1q.rd0 n (q1q.at0 n m) s:=nx ..
theorem q1q.round0(x0 x1:List T)(x2:Int)(x3:List T)(x4:Int)(x5:List T):q1q.rd0 n L0 (q1q.st0 x0 x1 x2 x3 x4 x5)=bif (decide (x2>0))then(LIM F.q76 [.rref [.sl 1 x3,.int .i64 x4] 0,.rref [.sl 2 x0] 0]).bind fun r9=>bS r9 fun c13 n15=>(oAgg r9.1).bind fun c16=>(q0z c16).bind fun p17=>(oSl 1 p17.1).bind fun c18=>(q0z p17.2).bind fun p19=>(oSl 1 p19.1).bind fun c20=>(oNil p19.2).bind fun _=>(LIM F.q51 [.agg [.sl 2 x0],.sl 1 x1,.agg [.sl 1 c18,.sl 1 c20]]).bind fun r21=>(oNil r21.2).bind fun _=>(oAgg r21.1).bind fun c22=>(q0z c22).bind fun p23=>(oInt .i64 p23.1).bind fun n24=>(q0z p23.2).bind fun p25=>(oSl 1 p25.1).bind fun c26=>(q0z p25.2).bind fun p27=>(oSl 1 p27.1).bind fun c28=>(oNil p27.2).bind fun _=>bif (n24==0)then(LIM F.q1p [.rref [.sl 1 c26,.sl 1 c28] 0]).bind fun r29=>(oNil r29.2).bind fun _=>(oTup r29.1).bind fun c30=>(q0z c30).bind fun p31=>(oAgg p31.1).bind fun c32=>(q0z c32).bind fun p33=>(oSl 1 p33.1).bind fun c34=>(q0z p33.2).bind fun p35=>(oSl 1 p35.1).bind fun c36=>(oNil p35.2).bind fun _=>(q0z p31.2).bind fun p37=>(q7g p37.1).bind fun b38=>(oNil p37.2).bind fun _=>bif b38 then bif Nat.ble ((x5.length+2)*48) (140737488355328*2)then L0 (q1q.st0 x0 x1 (IntKind.wrap .i64 (x2-1)) x3 n15 (x5++[.sl 1 c34,.sl 1 c36]:List T))else none else L0 (q1q.st0 x0 x1 (IntKind.wrap .i64 (x2-1)) x3 n15 x5)else L0 (q1q.st0 x0 x1 (IntKind.wrap .i64 (x2-1)) x3 n15 x5)else some (.sl 2 x5,[.agg [.sl 1 x3,.int .i64 x4]]):=by kernel_rfl
theorem q1q.ev(a0_0:List T)(a0_1:Int)(a1_0 a2:List T)(a3:Int):q1j prog A H LIM n F.q1q [.rref [.sl 1 a0_0,.int .i64 a0_1] 0,.rref [.sl 2 a1_0] 0,.sl 1 a2,.int .i64 a3]=(LIM F.q2d [.rref [.sl 1 a0_0,.int .i64 a0_1] 0,.int .i64 (IntKind.wrap .i64 (a3+1))]).bind fun r1=>bS r1 fun c5 n7=>(oInt .i64 r1.1).bind fun n8=>q1q.at0 n n (q1q.st0 a1_0 a2 n8 a0_0 n7 []):=by kernel_rfl
def q1s.st0(x0 x1:List T)(x2 x3 x4:Int)(x5:List T):St:=⟨[(0,(.one (.t (.rref [(.sl 2 x0)] 0)))),(1,ol 1 x1),(2,oi x2),(7,(.one (.obj 640))),(8,oi x3),(9,oi x4)],[(640,(.arr true true 1 x5))]⟩
def q1s.K0:=kx F.q1s n [.block 0,.seq 0 (cx F.q1s [1,1,1,1])] (q40 prog A F.q1s)
def q1s.at0:=lx F.q1s n 0 [1,1,1,0,1,0,0] (q1s.K0 n) m s
def q1s.rd0:=rx F.q1s n 0 [1,1,1,0,1,0,0] (q1s.K0 n) L0 s
theorem q1s.next0:q1s.at0 n (m+1) s=q1s.rd0 n (q1s.at0 n m) s:=nx ..
theorem q1s.round0(x0 x1:List T)(x2 x3 x4:Int)(x5:List T):q1s.rd0 n L0 (q1s.st0 x0 x1 x2 x3 x4 x5)=bif inB x2 (x1.length/1)then(x1[x2.toNat*1]?).bind fun e1=>(oInt .i64 e1).bind fun n2=>bif inB n2 (x0.length/2)then(x0[(n2.toNat*2)+1]?).bind fun e3=>(oInt .i64 e3).bind fun n4=>bif (decide (x4<n4))then bif Nat.ble ((x5.length+1)*8) (140737488355328*1)then(LIM F.q28 [.rref [.sl 2 x0] 0,.sl 1 x1,.int .i64 x3]).bind fun r5=>bI r5 fun n6=>L0 (q1s.st0 x0 x1 x2 n6 (IntKind.wrap .i64 (x4+1)) (x5++[.int .i64 x3]:List T))else none else some (.sl 1 x5,[])else none else none:=by kernel_rfl
theorem q1s.ev(a0_0 a1:List T)(a2:Int):q1j prog A H LIM n F.q1s [.rref [.sl 2 a0_0] 0,.sl 1 a1,.int .i64 a2]=q1s.at0 n n (q1s.st0 a0_0 a1 a2 (IntKind.wrap .i64 (a2+1)) (0:Int) []):=by kernel_rfl
def q0v.st2(x0 x1 x2 x3:List T)(x4 x5 x6:Int)(x7:List T):St:=⟨[(0,(.one (.t (.rref [(.sl 2 x0)] 0)))),(1,ol 1 x1),(2,ol 1 x2),(3,ol 1 x3),(9,oi x4),(10,(.one (.obj 1216))),(11,oi x5),(12,oi x6)],[(1216,(.arr true true 1 x7))]⟩
def q0v.st0(x0 x1 x2 x3:List T)(x4 x5:Int)(x6:List T):St:=⟨[(0,(.one (.t (.rref [(.sl 2 x0)] 0)))),(1,ol 1 x1),(2,ol 1 x2),(3,ol 1 x3),(9,oi x4),(10,(.one (.obj 1216))),(11,oi x5)],[(1216,(.arr true true 1 x6))]⟩
def q0v.K0:=kx F.q0v n [.block 0,.seq 0 (cx F.q0v [1,1,1,1])] (q40 prog A F.q0v)
def q0v.at0:=lx F.q0v n 0 [1,1,1,0,1,0,0] (q0v.K0 n) m s
def q0v.rd0:=rx F.q0v n 0 [1,1,1,0,1,0,0] (q0v.K0 n) L0 s
theorem q0v.next0:q0v.at0 n (m+1) s=q0v.rd0 n (q0v.at0 n m) s:=nx ..
def q0v.K2:=kx F.q0v n [.block 2,.block 1,.seq 0 (cx F.q0v [1,1,1,0,1,0,0,1,1])] (bx F.q0v 0 (q0v.K0 n) L0)
def q0v.at2:=lx F.q0v n 2 [1,1,1,0,1,0,0,1,0,0,1,0,0] (q0v.K2 n L0) m s
def q0v.rd2:=rx F.q0v n 2 [1,1,1,0,1,0,0,1,0,0,1,0,0] (q0v.K2 n L0) L2 s
theorem q0v.next2:q0v.at2 n L0 (m+1) s=q0v.rd2 n L0 (q0v.at2 n L0 m) s:=nx ..
theorem q0v.round0(x0 x1 x2 x3:List T)(x4 x5:Int)(x6:List T):q0v.rd0 n L0 (q0v.st0 x0 x1 x2 x3 x4 x5 x6)=bif (decide (x5>=0))then q0v.at2 n L0 n (q0v.st2 x0 x1 x2 x3 x4 x5 (IntKind.wrap .i64 (x4-1)) x6)else some (.sl 1 x6,[]):=by kernel_rfl
theorem q0v.round2(x0 x1 x2 x3:List T)(x4 x5 x6:Int)(x7:List T):q0v.rd2 n L0 L2 (q0v.st2 x0 x1 x2 x3 x4 x5 x6 x7)=bif (decide (x6>=0))then(LIM F.q0j [.rref [.sl 2 x0] 0,.sl 1 x1,.sl 1 x2,.sl 1 x3,.int .i64 x5,.int .i64 x6,.sl 1 x7]).bind fun r1=>bB r1 fun b2=>bif inB (IntKind.wrap .i64 ((IntKind.wrap .i64 (x5*x4))+x6)) (x7.length/1)then bif decide (((Int.toNat (IntKind.wrap .i64 ((IntKind.wrap .i64 (x5*x4))+x6)))*1)+1<=x7.length)then L2 (q0v.st2 x0 x1 x2 x3 x4 x5 (IntKind.wrap .i64 (x6-1)) (setCells x7 ((Int.toNat (IntKind.wrap .i64 ((IntKind.wrap .i64 (x5*x4))+x6)))*1) [.bool b2]))else none else none else L0 (q0v.st0 x0 x1 x2 x3 x4 (IntKind.wrap .i64 (x5-1)) x7):=by kernel_rfl
theorem q0v.ev(a0_0 a1 a2 a3:List T):q1j prog A H LIM n F.q0v [.rref [.sl 2 a0_0] 0,.sl 1 a1,.sl 1 a2,.sl 1 a3]=bif decide (0<=(IntKind.wrap .i64 ((((a2.length/1):Nat):Int)*(((a3.length/1):Nat):Int))))&&decide ((IntKind.wrap .i64 ((((a2.length/1):Nat):Int)*(((a3.length/1):Nat):Int)))=IntKind.wrap .i64 ((((a2.length/1):Nat):Int)*(((a3.length/1):Nat):Int)))&&Nat.ble (((Int.toNat (IntKind.wrap .i64 ((((a2.length/1):Nat):Int)*(((a3.length/1):Nat):Int))))*1)*1) (140737488355328*1)then q0v.at0 n n (q0v.st0 a0_0 a1 a2 a3 (((a3.length/1):Nat):Int) (IntKind.wrap .i64 ((((a2.length/1):Nat):Int)-1)) (repT (Int.toNat (IntKind.wrap .i64 ((((a2.length/1):Nat):Int)*(((a3.length/1):Nat):Int)))) [.bool false]))else none:=by kernel_rfl
theorem q7m.ev(a0_0 a1 a2:List T):q1j prog A H LIM n F.q7m [.rref [.sl 2 a0_0] 0,.sl 2 a1,.sl 1 a2]=(LIM F.q6m [.agg [.sl 2 a0_0],.sl 2 a1]).bind fun r1=>bI r1 fun n2=>bif (n2 != 0)then some (.int .i64 n2,[])else(LIM F.q16 [.rref [.sl 2 a0_0] 0,.sl 1 a2]).bind fun r3=>bI r3 fun n4=>some (.int .i64 n4,[]):=by kernel_rfl
theorem q82.ev(a0:List T):q1j prog A H LIM n F.q82 [.sl 1 a0]=(LIM F.q58 [.sl 1 a0]).bind fun r1=>(oNil r1.2).bind fun _=>(oBx r1.1).bind fun c2=>(q0z c2).bind fun p3=>(oSl 1 p3.1).bind fun c4=>(q0z p3.2).bind fun p5=>(oInt .i64 p5.1).bind fun n6=>(oNil p5.2).bind fun _=>(LIM F.q15 [.rref [.sl 1 c4,.int .i64 n6] 0]).bind fun r7=>bS r7 fun c11 n13=>(oAgg r7.1).bind fun c14=>(q0z c14).bind fun p15=>(oSl 2 p15.1).bind fun c16=>(oNil p15.2).bind fun _=>(LIM F.q11 [.rref [.sl 1 c4,.int .i64 n13] 0,.agg [.sl 2 c16]]).bind fun r17=>bS r17 fun c21 n23=>(oSl 1 r17.1).bind fun c24=>(LIM F.q10 [.rref [.sl 1 c4,.int .i64 n23] 0,.rref [.sl 2 c16] 0,.sl 1 c24]).bind fun r25=>bS r25 fun c29 n31=>(oSl 2 r25.1).bind fun c32=>(LIM F.q3q [.rref [.sl 1 c4,.int .i64 n31] 0,.sl 1 [.int .i64 4,.int .i64 8,.int .i64 12,.int .i64 20]]).bind fun r33=>bS r33 fun c37 n39=>(oInt .i64 r33.1).bind fun n40=>(LIM F.q3q [.rref [.sl 1 c4,.int .i64 n39] 0,.sl 1 [.int .i64 0,.int .i64 0,.int .i64 3]]).bind fun r41=>bS r41 fun c45 n47=>(oInt .i64 r41.1).bind fun n48=>(LIM F.q1a [.rref [.sl 1 c4,.int .i64 n47] 0,.rref [.sl 2 c16] 0,.int .i64 n40,.int .i64 n48]).bind fun r49=>bS r49 fun c53 n55=>(oSl 1 r49.1).bind fun c56=>bif (decide ((((c32.length/2):Nat):Int)>0))then(LIM F.q2z [.rref [.sl 1 c4,.int .i64 n55] 0,.int .i64 2]).bind fun r57=>bS r57 fun c61 n63=>(q7g r57.1).bind fun b64=>bif b64 then(LIM F.q16 [.rref [.sl 2 c16] 0,.sl 1 c56]).bind fun r65=>bI r65 fun n66=>bif (n66==0)then(LIM F.q1y [.rref [.sl 2 c16] 0,.sl 2 c32]).bind fun r67=>bI r67 fun n68=>bif (n68==0)then(LIM F.q2a [.rref [.sl 1 c4,.int .i64 n63] 0,.rref [.sl 2 c16] 0,.int .i64 3]).bind fun r69=>bS r69 fun c73 n75=>(oAgg r69.1).bind fun c76=>(q0z c76).bind fun p77=>(oSl 1 p77.1).bind fun c78=>(q0z p77.2).bind fun p79=>(oSl 1 p79.1).bind fun c80=>(oNil p79.2).bind fun _=>(LIM F.q2d [.rref [.sl 1 c4,.int .i64 n75] 0,(.int .i64 (((c56.length/1):Nat):Int))]).bind fun r81=>bS r81 fun c85 n87=>(oInt .i64 r81.1).bind fun n88=>bif inB (0:Int) (c32.length/2)then(c32[0]?).bind fun e89=>(oSl 1 e89).bind fun c90=>(LIM F.q1b [.rref [.sl 1 c78,.sl 1 c80] 0,.sl 1 c90]).bind fun r91=>bL r91 fun c92=>(LIM F.q6d [.agg [.sl 2 c16],.sl 1 c56,.int .i64 n88,.sl 1 c92]).bind fun r93=>(oNil r93.2).bind fun _=>(oAgg r93.1).bind fun c94=>(q0z c94).bind fun p95=>(oInt .i64 p95.1).bind fun n96=>(q0z p95.2).bind fun p97=>(oSl 1 p97.1).bind fun c98=>(oNil p97.2).bind fun _=>bif (n96==0)then some (.tup [.agg [.sl 2 c16],.sl 2 (List.set c32 0 (.sl 1 c90)),.sl 1 c98,.bx [.sl 1 c4,.int .i64 n87]],[])else some (.tup [.agg [.sl 2 c16],.sl 2 (List.set c32 0 (.sl 1 c90)),.sl 1 c56,.bx [.sl 1 c4,.int .i64 n87]],[])else none else some (.tup [.agg [.sl 2 c16],.sl 2 c32,.sl 1 c56,.bx [.sl 1 c4,.int .i64 n63]],[])else some (.tup [.agg [.sl 2 c16],.sl 2 c32,.sl 1 c56,.bx [.sl 1 c4,.int .i64 n63]],[])else some (.tup [.agg [.sl 2 c16],.sl 2 c32,.sl 1 c56,.bx [.sl 1 c4,.int .i64 n63]],[])else some (.tup [.agg [.sl 2 c16],.sl 2 c32,.sl 1 c56,.bx [.sl 1 c4,.int .i64 n55]],[]):=by kernel_rfl
def q0s.st2(x0:List T)(x1 x2:Int):St:=⟨[(1,ol 2 x0),(6,oi x1),(7,oi x2)],[]⟩
def q0s.st0(x0:List T)(x1:Int):St:=⟨[(1,ol 2 x0),(6,oi x1)],[]⟩
def q0s.K0:=kx F.q0s n [.block 0,.seq 0 (cx F.q0s [1,1,1])] (q40 prog A F.q0s)
def q0s.at0:=lx F.q0s n 0 [1,1,0,1,0,0] (q0s.K0 n) m s
def q0s.rd0:=rx F.q0s n 0 [1,1,0,1,0,0] (q0s.K0 n) L0 s
theorem q0s.next0:q0s.at0 n (m+1) s=q0s.rd0 n (q0s.at0 n m) s:=nx ..
def q0s.K2:=kx F.q0s n [.block 2,.block 1,.seq 0 (cx F.q0s [1,1,0,1,0,0,1,1])] (bx F.q0s 0 (q0s.K0 n) L0)
def q0s.at2:=lx F.q0s n 2 [1,1,0,1,0,0,1,0,0,1,1,0,0] (q0s.K2 n L0) m s
def q0s.rd2:=rx F.q0s n 2 [1,1,0,1,0,0,1,0,0,1,1,0,0] (q0s.K2 n L0) L2 s
theorem q0s.next2:q0s.at2 n L0 (m+1) s=q0s.rd2 n L0 (q0s.at2 n L0 m) s:=nx ..
theorem q0s.round0(x0:List T)(x1:Int):q0s.rd0 n L0 (q0s.st0 x0 x1)=bif (decide (x1<(((x0.length/2):Nat):Int)))then bif inB x1 (x0.length/2)then(x0[x1.toNat*2]?).bind fun e3=>(oSl 1 e3).bind fun c4=>bif inB (0:Int) (c4.length/1)then(c4[0]?).bind fun e5=>(oInt .i64 e5).bind fun n6=>bif (decide (n6<0))then some (.int .i64 1,[])else q0s.at2 n L0 n (q0s.st2 x0 x1 (0:Int))else none else none else some (.int .i64 0,[]):=by kernel_rfl
theorem q0s.round2(x0:List T)(x1 x2:Int):q0s.rd2 n L0 L2 (q0s.st2 x0 x1 x2)=bif inB x1 (x0.length/2)then(x0[(x1.toNat*2)+1]?).bind fun e7=>(oSl 1 e7).bind fun c8=>bif (decide (x2<(((c8.length/1):Nat):Int)))then bif inB x1 (x0.length/2)then(x0[(x1.toNat*2)+1]?).bind fun e9=>(oSl 1 e9).bind fun c10=>bif inB x2 (c10.length/1)then(c10[x2.toNat*1]?).bind fun e11=>(oInt .i64 e11).bind fun n12=>bif (decide (n12<0))then bif inB x1 (x0.length/2)then(x0[x1.toNat*2]?).bind fun e13=>(oSl 1 e13).bind fun c14=>(LIM F.q1t [.sl 1 c14,.int .i64 n12]).bind fun r15=>bI r15 fun n16=>bif (n16==0)then some (.int .i64 1,[])else L2 (q0s.st2 x0 x1 (IntKind.wrap .i64 (x2+1)))else none else L2 (q0s.st2 x0 x1 (IntKind.wrap .i64 (x2+1)))else none else none else L0 (q0s.st0 x0 (IntKind.wrap .i64 (x1+1)))else none:=by kernel_rfl
theorem q0s.ev(a0_0 a1:List T):q1j prog A H LIM n F.q0s [.rref [.sl 2 a0_0] 0,.sl 2 a1]=(LIM F.q1y [.rref [.sl 2 a0_0] 0,.sl 2 a1]).bind fun r1=>bI r1 fun n2=>bif (n2 != 0)then some (.int .i64 n2,[])else q0s.at0 n n (q0s.st0 a1 (0:Int)):=by kernel_rfl
def q24.st0(x0 x1 x2:List T)(x3 x4 x5 x6:Int):St:=⟨[(0,(.one (.t (.rref [(.sl 2 x0)] 0)))),(1,ol 2 x1),(2,ol 1 x2),(8,oi x3),(9,oi x4),(10,oi x5),(11,oi x6)],[]⟩
def q24.K0:=kx F.q24 n [.block 0,.seq 0 (cx F.q24 [1,1,1,1,1])] (q40 prog A F.q24)
def q24.at0:=lx F.q24 n 0 [1,1,1,1,0,1,0,0] (q24.K0 n) m s
def q24.rd0:=rx F.q24 n 0 [1,1,1,1,0,1,0,0] (q24.K0 n) L0 s
theorem q24.next0:q24.at0 n (m+1) s=q24.rd0 n (q24.at0 n m) s:=nx ..
theorem q24.round0(x0 x1 x2:List T)(x3 x4 x5 x6:Int):q24.rd0 n L0 (q24.st0 x0 x1 x2 x3 x4 x5 x6)=bif (decide (x6<(((x2.length/1):Nat):Int)))then(LIM F.q28 [.rref [.sl 2 x0] 0,.sl 1 x2,.int .i64 x6]).bind fun r1=>bI r1 fun n2=>bif (decide (n2>x5))then L0 (q24.st0 x0 x1 x2 x3 x4 x5 (IntKind.wrap .i64 (x6+1)))else(LIM F.q2j [.rref [.sl 2 x0] 0,.sl 2 x1,.sl 1 x2,.int .i64 x6]).bind fun r3=>bI r3 fun n4=>bif (decide (n4>=0))then L0 (q24.st0 x0 x1 x2 x6 n4 n2 (IntKind.wrap .i64 (x6+1)))else L0 (q24.st0 x0 x1 x2 x3 x4 x5 (IntKind.wrap .i64 (x6+1)))else some (.tup [.int .i64 x3,.int .i64 x4],[]):=by kernel_rfl
theorem q24.ev(a0_0 a1 a2:List T):q1j prog A H LIM n F.q24 [.rref [.sl 2 a0_0] 0,.sl 2 a1,.sl 1 a2]=q24.at0 n n (q24.st0 a0_0 a1 a2 (-1:Int) (-1:Int) (25:Int) (0:Int)):=by kernel_rfl
def q2j.st0(x0 x1 x2:List T)(x3 x4:Int):St:=⟨[(0,(.one (.t (.rref [(.sl 2 x0)] 0)))),(1,ol 2 x1),(2,ol 1 x2),(3,oi x3),(9,oi x4)],[]⟩
def q2j.K0:=kx F.q2j n [.block 0,.seq 0 (cx F.q2j [1,1])] (q40 prog A F.q2j)
def q2j.at0:=lx F.q2j n 0 [1,0,1,0,0] (q2j.K0 n) m s
def q2j.rd0:=rx F.q2j n 0 [1,0,1,0,0] (q2j.K0 n) L0 s
theorem q2j.next0:q2j.at0 n (m+1) s=q2j.rd0 n (q2j.at0 n m) s:=nx ..
theorem q2j.round0(x0 x1 x2:List T)(x3 x4:Int):q2j.rd0 n L0 (q2j.st0 x0 x1 x2 x3 x4)=bif (decide (x4<(((x1.length/2):Nat):Int)))then bif inB x4 (x1.length/2)then(x1[x4.toNat*2]?).bind fun e1=>(oSl 1 e1).bind fun c2=>(LIM F.q1f [.rref [.sl 2 x0] 0,.sl 1 c2,.sl 1 x2,.int .i64 x3]).bind fun r3=>(oNil r3.2).bind fun _=>(oTup r3.1).bind fun c4=>(q0z c4).bind fun p5=>(oAgg p5.1).bind fun c6=>(q0z c6).bind fun p7=>(oSl 1 p7.1).bind fun c8=>(q0z p7.2).bind fun p9=>(oSl 1 p9.1).bind fun c10=>(oNil p9.2).bind fun _=>(q0z p5.2).bind fun p11=>(q7g p11.1).bind fun b12=>(oNil p11.2).bind fun _=>bif b12 then some (.int .i64 x4,[])else L0 (q2j.st0 x0 x1 x2 x3 (IntKind.wrap .i64 (x4+1)))else none else some (.int .i64 (-1),[]):=by kernel_rfl
theorem q2j.ev(a0_0 a1 a2:List T)(a3:Int):q1j prog A H LIM n F.q2j [.rref [.sl 2 a0_0] 0,.sl 2 a1,.sl 1 a2,.int .i64 a3]=q2j.at0 n n (q2j.st0 a0_0 a1 a2 a3 (0:Int)):=by kernel_rfl
theorem q73.ev(a0_0 a1 a2 a3:List T)(a4:Int):q1j prog A H LIM n F.q73 [.rref [.sl 2 a0_0] 0,.sl 2 a1,.sl 1 a2,.sl 1 a3,.int .i64 a4]=(LIM F.q1d [.rref [.sl 2 a0_0] 0,.sl 2 a1,.sl 1 a2,.int .i64 a4]).bind fun r1=>(oNil r1.2).bind fun _=>(oAgg r1.1).bind fun c2=>(q0z c2).bind fun p3=>(oInt .i64 p3.1).bind fun n4=>(q0z p3.2).bind fun p5=>(oSl 1 p5.1).bind fun c6=>(q0z p5.2).bind fun p7=>(oInt .i64 p7.1).bind fun n8=>(oNil p7.2).bind fun _=>bif (n4 != 0)then some (.tup [.int .i64 0,.int .i64 n4],[])else(LIM F.q1d [.rref [.sl 2 a0_0] 0,.sl 2 a1,.sl 1 a3,.int .i64 a4]).bind fun r9=>(oNil r9.2).bind fun _=>(oAgg r9.1).bind fun c10=>(q0z c10).bind fun p11=>(oInt .i64 p11.1).bind fun n12=>(q0z p11.2).bind fun p13=>(oSl 1 p13.1).bind fun c14=>(q0z p13.2).bind fun p15=>(oInt .i64 p15.1).bind fun n16=>(oNil p15.2).bind fun _=>bif (n12 != 0)then some (.tup [.int .i64 0,.int .i64 n12],[])else(LIM F.q20 [.sl 1 c6,.sl 1 c14]).bind fun r17=>bB r17 fun b18=>bif b18 then some (.tup [.int .i64 1,.int .i64 0],[])else some (.tup [.int .i64 0,.int .i64 0],[]):=by kernel_rfl
def q1d.st0(x0 x1:List T)(x2 x3 x4 x5:Int)(x6:List T):St:=⟨[(0,(.one (.t (.rref [(.sl 2 x0)] 0)))),(1,ol 2 x1),(3,oi x2),(8,(.one (.ptr 512 0))),(9,(.one (.obj 1024))),(10,oi x3)],[(512,(.box [(.t (.int .i64 x4)),.nil,(.t (.int .i64 x5))])),(1024,(.arr true true 1 x6))]⟩
def q1d.K0:=kx F.q1d n [.block 0] (q40 prog A F.q1d)
def q1d.at0:=lx F.q1d n 0 [1,1,1,0,0] (q1d.K0 n) m s
def q1d.rd0:=rx F.q1d n 0 [1,1,1,0,0] (q1d.K0 n) L0 s
theorem q1d.next0:q1d.at0 n (m+1) s=q1d.rd0 n (q1d.at0 n m) s:=nx ..
theorem q1d.round0(x0 x1:List T)(x2 x3 x4 x5:Int)(x6:List T):q1d.rd0 n L0 (q1d.st0 x0 x1 x2 x3 x4 x5 x6)=(LIM F.q24 [.rref [.sl 2 x0] 0,.sl 2 x1,.sl 1 x6]).bind fun r3=>(oNil r3.2).bind fun _=>(oTup r3.1).bind fun c4=>(q0z c4).bind fun p5=>(oInt .i64 p5.1).bind fun n6=>(q0z p5.2).bind fun p7=>(oInt .i64 p7.1).bind fun n8=>(oNil p7.2).bind fun _=>bif (decide (n6<0))then some (.agg [.int .i64 0,.sl 1 x6,.int .i64 x3],[])else bif (decide (x3>=x2))then some (.agg [.int .i64 9,.sl 1 [],.int .i64 0],[])else bif inB n8 (x1.length/2)then(LIM F.q5o [.rref [.sl 2 x0] 0,.rref ((x1.drop (n8.toNat*2)).take 2) 0,.int .i64 n6,.sl 1 x6]).bind fun r9=>(oNil r9.2).bind fun _=>(oTup r9.1).bind fun c10=>(q0z c10).bind fun p11=>(oSl 1 p11.1).bind fun c12=>(q0z p11.2).bind fun p13=>(oInt .i64 p13.1).bind fun n14=>(oNil p13.2).bind fun _=>bif (n14 != 0)then some (.agg [.int .i64 n14,.sl 1 [],.int .i64 0],[])else L0 (q1d.st0 x0 x1 x2 (IntKind.wrap .i64 (x3+1)) x4 x5 c12)else none:=by kernel_rfl
theorem q1d.ev(a0_0 a1 a2:List T)(a3:Int):q1j prog A H LIM n F.q1d [.rref [.sl 2 a0_0] 0,.sl 2 a1,.sl 1 a2,.int .i64 a3]=(LIM F.q31 [.sl 1 a2]).bind fun r1=>bL r1 fun c2=>q1d.at0 n n (q1d.st0 a0_0 a1 a3 (0:Int) (0:Int) (0:Int) c2):=by kernel_rfl
theorem q5o.ev(a0_0 a1_0 a1_1:List T)(a2:Int)(a3:List T):q1j prog A H LIM n F.q5o [.rref [.sl 2 a0_0] 0,.rref [.sl 1 a1_0,.sl 1 a1_1] 0,.int .i64 a2,.sl 1 a3]=(LIM F.q1f [.rref [.sl 2 a0_0] 0,.sl 1 a1_0,.sl 1 a3,.int .i64 a2]).bind fun r1=>(oNil r1.2).bind fun _=>(oTup r1.1).bind fun c2=>(q0z c2).bind fun p3=>(oAgg p3.1).bind fun c4=>(q0z c4).bind fun p5=>(oSl 1 p5.1).bind fun c6=>(q0z p5.2).bind fun p7=>(oSl 1 p7.1).bind fun c8=>(oNil p7.2).bind fun _=>(q0z p3.2).bind fun p9=>(q7g p9.1).bind fun b10=>(oNil p9.2).bind fun _=>bif (!b10)then some (.tup [.sl 1 [],.int .i64 4],[])else(LIM F.q1b [.rref [.sl 1 c6,.sl 1 c8] 0,.sl 1 a1_1]).bind fun r11=>bL r11 fun c12=>(LIM F.q4v [.rref [.sl 2 a0_0] 0,.sl 1 a3,.int .i64 a2,.sl 1 c12]).bind fun r13=>bL r13 fun c14=>bif (decide ((((c14.length/1):Nat):Int)>24))then some (.tup [.sl 1 [],.int .i64 2],[])else some (.tup [.sl 1 c14,.int .i64 0],[]):=by kernel_rfl
def q18.st2(x0 x1:List T)(x2 x3:Int)(x4:List T):St:=⟨[(0,(.one (.t (.rref [(.sl 2 x0)] 0)))),(1,ol 2 x1),(6,(.one (.obj 704))),(7,oi x2),(8,oi x3)],[(704,(.arr true true 2 x4))]⟩
def q18.st0(x0 x1:List T)(x2:Int)(x3:List T):St:=⟨[(0,(.one (.t (.rref [(.sl 2 x0)] 0)))),(1,ol 2 x1),(6,(.one (.obj 704))),(7,oi x2)],[(704,(.arr true true 2 x3))]⟩
def q18.K0:=kx F.q18 n [.block 0,.seq 0 (cx F.q18 [1,1,1])] (q40 prog A F.q18)
def q18.at0:=lx F.q18 n 0 [1,1,0,1,0,0] (q18.K0 n) m s
def q18.rd0:=rx F.q18 n 0 [1,1,0,1,0,0] (q18.K0 n) L0 s
theorem q18.next0:q18.at0 n (m+1) s=q18.rd0 n (q18.at0 n m) s:=nx ..
def q18.K2:=kx F.q18 n [.block 2,.block 1,.seq 0 (cx F.q18 [1,1,0,1,0,0,1,1])] (bx F.q18 0 (q18.K0 n) L0)
def q18.at2:=lx F.q18 n 2 [1,1,0,1,0,0,1,0,0,1,0,0] (q18.K2 n L0) m s
def q18.rd2:=rx F.q18 n 2 [1,1,0,1,0,0,1,0,0,1,0,0] (q18.K2 n L0) L2 s
theorem q18.next2:q18.at2 n L0 (m+1) s=q18.rd2 n L0 (q18.at2 n L0 m) s:=nx ..
theorem q18.round0(x0 x1:List T)(x2:Int)(x3:List T):q18.rd0 n L0 (q18.st0 x0 x1 x2 x3)=bif (decide (x2<(((x1.length/2):Nat):Int)))then q18.at2 n L0 n (q18.st2 x0 x1 x2 (0:Int) x3)else some (.tup [.sl 2 x3,.int .i64 0],[]):=by kernel_rfl
theorem q18.round2(x0 x1:List T)(x2 x3:Int)(x4:List T):q18.rd2 n L0 L2 (q18.st2 x0 x1 x2 x3 x4)=bif (decide (x3<(((x1.length/2):Nat):Int)))then bif inB x2 (x1.length/2)then bif inB x3 (x1.length/2)then(LIM F.q1z [.rref [.sl 2 x0] 0,.rref ((x1.drop (x2.toNat*2)).take 2) 0,.rref ((x1.drop (x3.toNat*2)).take 2) 0,.bool (x2==x3)]).bind fun r1=>(oNil r1.2).bind fun _=>(oTup r1.1).bind fun c2=>(q0z c2).bind fun p3=>(oSl 2 p3.1).bind fun c4=>(q0z p3.2).bind fun p5=>(oInt .i64 p5.1).bind fun n6=>(oNil p5.2).bind fun _=>bif (n6 != 0)then some (.tup [.sl 2 [],.int .i64 n6],[])else bif Nat.ble ((x4.length+c4.length)*48) (140737488355328*2)then bif (decide ((((((x4++c4:List T)).length/2):Nat):Int)>200))then some (.tup [.sl 2 [],.int .i64 2],[])else L2 (q18.st2 x0 x1 x2 (IntKind.wrap .i64 (x3+1)) (x4++c4:List T))else none else none else none else L0 (q18.st0 x0 x1 (IntKind.wrap .i64 (x2+1)) x4):=by kernel_rfl
theorem q18.ev(a0_0 a1:List T):q1j prog A H LIM n F.q18 [.rref [.sl 2 a0_0] 0,.sl 2 a1]=q18.at0 n n (q18.st0 a0_0 a1 (0:Int) []):=by kernel_rfl
theorem q86.ev(a0:List T):q1j prog A H LIM n F.q86 [.sl 1 a0]=(LIM F.q58 [.sl 1 a0]).bind fun r1=>(oNil r1.2).bind fun _=>(oBx r1.1).bind fun c2=>(q0z c2).bind fun p3=>(oSl 1 p3.1).bind fun c4=>(q0z p3.2).bind fun p5=>(oInt .i64 p5.1).bind fun n6=>(oNil p5.2).bind fun _=>(LIM F.q15 [.rref [.sl 1 c4,.int .i64 n6] 0]).bind fun r7=>bS r7 fun c11 n13=>(oAgg r7.1).bind fun c14=>(q0z c14).bind fun p15=>(oSl 2 p15.1).bind fun c16=>(oNil p15.2).bind fun _=>(LIM F.q11 [.rref [.sl 1 c4,.int .i64 n13] 0,.agg [.sl 2 c16]]).bind fun r17=>bS r17 fun c21 n23=>(oSl 1 r17.1).bind fun c24=>(LIM F.q10 [.rref [.sl 1 c4,.int .i64 n23] 0,.rref [.sl 2 c16] 0,.sl 1 c24]).bind fun r25=>bS r25 fun c29 n31=>(oSl 2 r25.1).bind fun c32=>some (.tup [.agg [.sl 2 c16],.sl 1 c24,.sl 2 c32,.bx [.sl 1 c4,.int .i64 n31]],[]):=by kernel_rfl
theorem q77.ev(a0_0 a1_0 a1_1 a2_0 a2_1:List T)(a3:Int):q1j prog A H LIM n F.q77 [.rref [.sl 2 a0_0] 0,.rref [.sl 1 a1_0,.sl 1 a1_1] 0,.rref [.sl 1 a2_0,.sl 1 a2_1] 0,.int .i64 a3]=(LIM F.q23 [.sl 1 a2_0,.int .i64 6]).bind fun r1=>bL r1 fun c2=>(LIM F.q23 [.sl 1 a2_1,.int .i64 6]).bind fun r3=>bL r3 fun c4=>(LIM F.q6g [.rref [.sl 2 a0_0] 0,.sl 1 a1_0,.int .i64 a3]).bind fun r5=>bL r5 fun c6=>(LIM F.q1l [.rref [.sl 2 a0_0] 0,.sl 1 c6,.sl 1 c2]).bind fun r7=>(oNil r7.2).bind fun _=>(oTup r7.1).bind fun c8=>(q0z c8).bind fun p9=>(oAgg p9.1).bind fun c10=>(q0z c10).bind fun p11=>(oSl 1 p11.1).bind fun c12=>(q0z p11.2).bind fun p13=>(oSl 1 p13.1).bind fun c14=>(oNil p13.2).bind fun _=>(q0z p9.2).bind fun p15=>(oInt .i64 p15.1).bind fun n16=>(oNil p15.2).bind fun _=>bif (n16 != 0)then some (.tup [.agg [.sl 1 [],.sl 1 []],.int .i64 n16],[])else(LIM F.q1b [.rref [.sl 1 c12,.sl 1 c14] 0,.sl 1 a1_1]).bind fun r17=>bL r17 fun c18=>(LIM F.q4v [.rref [.sl 2 a0_0] 0,.sl 1 a1_0,.int .i64 a3,.sl 1 c4]).bind fun r19=>bL r19 fun c20=>(LIM F.q1b [.rref [.sl 1 c12,.sl 1 c14] 0,.sl 1 c20]).bind fun r21=>bL r21 fun c22=>bif (decide ((((c18.length/1):Nat):Int)>24))then some (.tup [.agg [.sl 1 [],.sl 1 []],.int .i64 2],[])else bif (decide ((((c22.length/1):Nat):Int)>24))then some (.tup [.agg [.sl 1 [],.sl 1 []],.int .i64 2],[])else(LIM F.q1p [.rref [.sl 1 c18,.sl 1 c22] 0]).bind fun r23=>(oNil r23.2).bind fun _=>(oTup r23.1).bind fun c24=>(q0z c24).bind fun p25=>(oAgg p25.1).bind fun c26=>(q0z c26).bind fun p27=>(oSl 1 p27.1).bind fun c28=>(q0z p27.2).bind fun p29=>(oSl 1 p29.1).bind fun c30=>(oNil p29.2).bind fun _=>(q0z p25.2).bind fun p31=>(q7g p31.1).bind fun b32=>(oNil p31.2).bind fun _=>bif (!b32)then some (.tup [.agg [.sl 1 [],.sl 1 []],.int .i64 2],[])else some (.tup [.agg [.sl 1 c28,.sl 1 c30],.int .i64 0],[]):=by kernel_rfl
def q1z.st0(x0 x1 x2 x3 x4:List T)(x5 x6:Int)(x7 x8:List T):St:=⟨[(0,(.one (.t (.rref [(.sl 2 x0)] 0)))),(1,(.one (.t (.rref [(.sl 1 x1),(.sl 1 x2)] 0)))),(2,(.one (.t (.rref [(.sl 1 x3),(.sl 1 x4)] 0)))),(10,(.one (.obj 1344))),(11,oi x5),(12,(.one (.obj 1536))),(13,oi x6)],[(1344,(.arr true true 1 x7)),(1536,(.arr true true 2 x8))]⟩
def q1z.K0:=kx F.q1z n [.block 0,.seq 0 (cx F.q1z [1,1,1,1])] (q40 prog A F.q1z)
def q1z.at0:=lx F.q1z n 0 [1,1,1,0,1,0,0] (q1z.K0 n) m s
def q1z.rd0:=rx F.q1z n 0 [1,1,1,0,1,0,0] (q1z.K0 n) L0 s
theorem q1z.next0:q1z.at0 n (m+1) s=q1z.rd0 n (q1z.at0 n m) s:=nx ..
theorem q1z.round0(x0 x1 x2 x3 x4:List T)(x5 x6:Int)(x7 x8:List T):q1z.rd0 n L0 (q1z.st0 x0 x1 x2 x3 x4 x5 x6 x7 x8)=bif (decide (x6<(((x7.length/1):Nat):Int)))then bif inB x6 (x7.length/1)then(x7[x6.toNat*1]?).bind fun e7=>(oInt .i64 e7).bind fun n8=>(LIM F.q77 [.rref [.sl 2 x0] 0,.rref [.sl 1 x1,.sl 1 x2] 0,.rref [.sl 1 x3,.sl 1 x4] 0,.int .i64 n8]).bind fun r9=>(oNil r9.2).bind fun _=>(oTup r9.1).bind fun c10=>(q0z c10).bind fun p11=>(oAgg p11.1).bind fun c12=>(q0z c12).bind fun p13=>(oSl 1 p13.1).bind fun c14=>(q0z p13.2).bind fun p15=>(oSl 1 p15.1).bind fun c16=>(oNil p15.2).bind fun _=>(q0z p11.2).bind fun p17=>(oInt .i64 p17.1).bind fun n18=>(oNil p17.2).bind fun _=>bif Nat.ble ((x8.length+2)*48) (140737488355328*2)then L0 (q1z.st0 x0 x1 x2 x3 x4 x5 (IntKind.wrap .i64 (x6+1)) x7 (x8++[.sl 1 c14,.sl 1 c16]:List T))else none else none else some (.tup [.sl 2 x8,.int .i64 x5],[]):=by kernel_rfl
theorem q1z.ev(a0_0 a1_0 a1_1 a2_0 a2_1:List T)(a3:Bool):q1j prog A H LIM n F.q1z [.rref [.sl 2 a0_0] 0,.rref [.sl 1 a1_0,.sl 1 a1_1] 0,.rref [.sl 1 a2_0,.sl 1 a2_1] 0,.bool a3]=(LIM F.q1e [.rref [.sl 2 a0_0] 0,.rref [.sl 1 a1_0,.sl 1 a1_1] 0,.rref [.sl 1 a2_0,.sl 1 a2_1] 0,.bool a3]).bind fun r1=>(oNil r1.2).bind fun _=>(oTup r1.1).bind fun c2=>(q0z c2).bind fun p3=>(oSl 1 p3.1).bind fun c4=>(q0z p3.2).bind fun p5=>(oInt .i64 p5.1).bind fun n6=>(oNil p5.2).bind fun _=>q1z.at0 n n (q1z.st0 a0_0 a1_0 a1_1 a2_0 a2_1 n6 (0:Int) c4 []):=by kernel_rfl
def q1e.st0(x0 x1 x2 x3 x4:List T)(x5:Bool)(x6:Int)(x7:List T):St:=⟨[(0,(.one (.t (.rref [(.sl 2 x0)] 0)))),(1,(.one (.t (.rref [(.sl 1 x1),(.sl 1 x2)] 0)))),(2,(.one (.t (.rref [(.sl 1 x3),(.sl 1 x4)] 0)))),(3,(.one (.t (.bool x5)))),(10,(.one (.obj 896))),(11,oi x6)],[(896,(.arr true true 1 x7))]⟩
def q1e.K0:=kx F.q1e n [.block 0,.seq 0 (cx F.q1e [1,1,1])] (q40 prog A F.q1e)
def q1e.at0:=lx F.q1e n 0 [1,1,0,1,0,0] (q1e.K0 n) m s
def q1e.rd0:=rx F.q1e n 0 [1,1,0,1,0,0] (q1e.K0 n) L0 s
theorem q1e.next0:q1e.at0 n (m+1) s=q1e.rd0 n (q1e.at0 n m) s:=nx ..
theorem q1e.round0(x0 x1 x2 x3 x4:List T)(x5:Bool)(x6:Int)(x7:List T):q1e.rd0 n L0 (q1e.st0 x0 x1 x2 x3 x4 x5 x6 x7)=bif (decide (x6<(((x1.length/1):Nat):Int)))then bif inB x6 (x1.length/1)then(x1[x6.toNat*1]?).bind fun e1=>(oInt .i64 e1).bind fun n2=>bif (decide (n2<0))then L0 (q1e.st0 x0 x1 x2 x3 x4 x5 (IntKind.wrap .i64 (x6+1)) x7)else bif x5 then bif (x6==0)then L0 (q1e.st0 x0 x1 x2 x3 x4 x5 (IntKind.wrap .i64 (x6+1)) x7)else(LIM F.q77 [.rref [.sl 2 x0] 0,.rref [.sl 1 x1,.sl 1 x2] 0,.rref [.sl 1 x3,.sl 1 x4] 0,.int .i64 x6]).bind fun r3=>(oNil r3.2).bind fun _=>(oTup r3.1).bind fun c4=>(q0z c4).bind fun p5=>(oAgg p5.1).bind fun c6=>(q0z c6).bind fun p7=>(oSl 1 p7.1).bind fun c8=>(q0z p7.2).bind fun p9=>(oSl 1 p9.1).bind fun c10=>(oNil p9.2).bind fun _=>(q0z p5.2).bind fun p11=>(oInt .i64 p11.1).bind fun n12=>(oNil p11.2).bind fun _=>bif (n12==4)then L0 (q1e.st0 x0 x1 x2 x3 x4 x5 (IntKind.wrap .i64 (x6+1)) x7)else bif (n12 != 0)then some (.tup [.sl 1 [],.int .i64 n12],[])else bif Nat.ble ((x7.length+1)*8) (140737488355328*1)then L0 (q1e.st0 x0 x1 x2 x3 x4 x5 (IntKind.wrap .i64 (x6+1)) (x7++[.int .i64 x6]:List T))else none else(LIM F.q77 [.rref [.sl 2 x0] 0,.rref [.sl 1 x1,.sl 1 x2] 0,.rref [.sl 1 x3,.sl 1 x4] 0,.int .i64 x6]).bind fun r13=>(oNil r13.2).bind fun _=>(oTup r13.1).bind fun c14=>(q0z c14).bind fun p15=>(oAgg p15.1).bind fun c16=>(q0z c16).bind fun p17=>(oSl 1 p17.1).bind fun c18=>(q0z p17.2).bind fun p19=>(oSl 1 p19.1).bind fun c20=>(oNil p19.2).bind fun _=>(q0z p15.2).bind fun p21=>(oInt .i64 p21.1).bind fun n22=>(oNil p21.2).bind fun _=>bif (n22==4)then L0 (q1e.st0 x0 x1 x2 x3 x4 x5 (IntKind.wrap .i64 (x6+1)) x7)else bif (n22 != 0)then some (.tup [.sl 1 [],.int .i64 n22],[])else bif Nat.ble ((x7.length+1)*8) (140737488355328*1)then L0 (q1e.st0 x0 x1 x2 x3 x4 x5 (IntKind.wrap .i64 (x6+1)) (x7++[.int .i64 x6]:List T))else none else none else some (.tup [.sl 1 x7,.int .i64 0],[]):=by kernel_rfl
theorem q1e.ev(a0_0 a1_0 a1_1 a2_0 a2_1:List T)(a3:Bool):q1j prog A H LIM n F.q1e [.rref [.sl 2 a0_0] 0,.rref [.sl 1 a1_0,.sl 1 a1_1] 0,.rref [.sl 1 a2_0,.sl 1 a2_1] 0,.bool a3]=q1e.at0 n n (q1e.st0 a0_0 a1_0 a1_1 a2_0 a2_1 a3 (0:Int) []):=by kernel_rfl
def q17.st0(x0 x1:List T)(x2 x3:Int)(x4 x5:List T):St:=⟨[(0,(.one (.t (.rref [(.sl 2 x0)] 0)))),(1,ol 2 x1),(2,oi x2),(8,(.one (.obj 1088))),(10,(.one (.obj 1472))),(11,oi x3)],[(1088,(.arr true true 2 x4)),(1472,(.arr true true 2 x5))]⟩
def q17.K0:=kx F.q17 n [.block 0,.seq 0 (cx F.q17 [1,1,1,1,1])] (q40 prog A F.q17)
def q17.at0:=lx F.q17 n 0 [1,1,1,1,0,1,0,0] (q17.K0 n) m s
def q17.rd0:=rx F.q17 n 0 [1,1,1,1,0,1,0,0] (q17.K0 n) L0 s
theorem q17.next0:q17.at0 n (m+1) s=q17.rd0 n (q17.at0 n m) s:=nx ..
theorem q17.round0(x0 x1:List T)(x2 x3:Int)(x4 x5:List T):q17.rd0 n L0 (q17.st0 x0 x1 x2 x3 x4 x5)=bif (decide (x3<(((x4.length/2):Nat):Int)))then bif inB x3 (x4.length/2)then(x4[x3.toNat*2]?).bind fun e7=>(oSl 1 e7).bind fun c8=>bif inB x3 (x4.length/2)then(x4[(x3.toNat*2)+1]?).bind fun e9=>(oSl 1 e9).bind fun c10=>(LIM F.q73 [.rref [.sl 2 x0] 0,.sl 2 x1,.sl 1 c8,.sl 1 c10,.int .i64 x2]).bind fun r11=>(oNil r11.2).bind fun _=>(oTup r11.1).bind fun c12=>(q0z c12).bind fun p13=>(oInt .i64 p13.1).bind fun n14=>(q0z p13.2).bind fun p15=>(oInt .i64 p15.1).bind fun n16=>(oNil p15.2).bind fun _=>bif (n16 != 0)then some (.tup [.sl 2 [],.int .i64 n16],[])else bif (n14==0)then bif inB x3 (x4.length/2)then(x4[x3.toNat*2]?).bind fun e17=>(oSl 1 e17).bind fun c18=>(x4[(x3.toNat*2)+1]?).bind fun e19=>(oSl 1 e19).bind fun c20=>bif Nat.ble ((x5.length+2)*48) (140737488355328*2)then L0 (q17.st0 x0 x1 x2 (IntKind.wrap .i64 (x3+1)) (List.set (List.set x4 (x3.toNat*2) .hole) ((x3.toNat*2)+1) .hole) (x5++[.sl 1 c18,.sl 1 c20]:List T))else none else none else L0 (q17.st0 x0 x1 x2 (IntKind.wrap .i64 (x3+1)) x4 x5)else none else none else some (.tup [.sl 2 x5,.int .i64 0],[]):=by kernel_rfl
theorem q17.ev(a0_0 a1:List T)(a2:Int):q1j prog A H LIM n F.q17 [.rref [.sl 2 a0_0] 0,.sl 2 a1,.int .i64 a2]=(LIM F.q18 [.rref [.sl 2 a0_0] 0,.sl 2 a1]).bind fun r1=>(oNil r1.2).bind fun _=>(oTup r1.1).bind fun c2=>(q0z c2).bind fun p3=>(oSl 2 p3.1).bind fun c4=>(q0z p3.2).bind fun p5=>(oInt .i64 p5.1).bind fun n6=>(oNil p5.2).bind fun _=>bif (n6 != 0)then some (.tup [.sl 2 [],.int .i64 n6],[])else q17.at0 n n (q17.st0 a0_0 a1 a2 (0:Int) c4 []):=by kernel_rfl
end
end Ev
end
section
end
section
namespace Ev.Ty
open Go Ev
open Enc (enc)
open Sm (sm)
theorem q6r{g:FuncId}{args:List T}{r:T×List T}(hx:X g=none)(n:Nat)(h:q1j prog A H LIM n g args=some r):LIM g args=some r:=qg1 hx n h
theorem qag{α:Type}[Enc α]{l:List α}{a:Nat}:(a<=(cells l).length)=(a<=l.length*Enc.sz α):=by rw[q0m]
theorem qgq{α:Type}{o:List α}{i:Nat}{x:α}(h:o[i]?=some x):o.set i x=o:=by
 refine List.ext_getElem? fun j=>?_;rw[List.getElem?_set];split
 ·rename_i e;subst e;have:=(gB.1 h).1;rw[if_pos this,h]
 ·rfl
theorem qq7{α:Type}[Enc α]{o:List α}{i n j:Nat}{x x':α}{c:T}(hn:Enc.sz α=n)(hi:i<o.length)(hj:j<n)
 (he:(enc x).set j c=enc x'):setCells (cells (o.set i x)) (i*n+j) [c]=cells (o.set i x'):=by
 subst hn;rw[<- qcs o _ i rfl x hi,<- qcs o _ i rfl x' hi,<- he]
 have hle:i*Enc.sz α+Enc.sz α<=o.length*Enc.sz α:=by
  rw[<- Nat.succ_mul];exact gAO _ hi
 have hl:=q0m o;refine List.ext_getElem? fun q=>?_;have hlen:(setCells (cells o) (i*Enc.sz α) (enc x)).length=(cells o).length:=q3e _ _ _;have l1:(enc x).length=Enc.sz α:=Enc.len x;have l2:((enc x).set j c).length=Enc.sz α:=by rw[List.length_set];exact l1
 rw[q3f [c] _ _ _ (by rw[hlen,List.length_singleton];omega),q3f (enc x) _ _ _ (by omega),q3f ((enc x).set j c) _ _ _ (by omega),l1,l2,List.length_singleton];by_cases hq:i*Enc.sz α+j=q
 ·subst hq;rw[if_pos ⟨by omega,by omega⟩,if_pos ⟨by omega,by omega⟩,List.getElem?_set,if_pos (by omega),if_pos (by omega)];simp
 ·rw[if_neg (by omega)];split
  ·rw[List.getElem?_set,if_neg (by omega)]
  ·rfl
end Ev.Ty
end
section
namespace Ev.Ty
open Go Ev
end Ev.Ty
end
section
namespace Ev.Ty
open Go Ev
open Enc (enc)
open Sm (sm)
def inR(n a b:Int):Bool:=decide (a<=n/\n<=b)
theorem q4s(n a b:Int):Call F.q4s [.int .i64 n,.int .i64 a,.int .i64 b] (.bool (inR n a b)):=by
 refine q0q rfl 0 ((q4s.ev _ _ _ _).trans ?_);simp only[evz,Nat.reduceLT,inR,ge_iff_le];by_cases h:a<=n <;> simp[h]
theorem q5h(n a b:Int):Call F.q5h [.int .i64 n,.int .i64 a,.int .i64 b] (.bool (inR n a b)):=by
 refine q0q rfl 0 ((q5h.ev _ _ _ _).trans ?_);simp only[evz,Nat.reduceLT,inR,ge_iff_le];by_cases h:a<=n <;> simp[h]
def qdf{β:Type}[DecidableEq β](l:List β):Bool := !decide l.Nodup
theorem qnb{β:Type}[DecidableEq β](l:List β):qdf l=true<->∃i j,j<i/\∃(h:i<l.length)(h':j<l.length),l[i]=l[j]:=by
 unfold qdf;rw[Bool.not_eq_true',decide_eq_false_iff_not,List.Nodup,List.pairwise_iff_getElem];constructor
 ·intro h;simp only[Classical.not_forall]at h;obtain⟨i,j,h1,h2,h3,h4⟩:=h;simp only[ne_eq,Classical.not_not]at h4;exact⟨j,i,h3,h2,h1,h4.symm⟩
 ·rintro⟨i,j,h1,h2,h3,h4⟩ h;exact h j i h3 h2 h1 h4.symm
theorem qnz{α β:Type}[DecidableEq β](f:α->β)(l:List α):((List.range l.length).any fun k=>l[k]?.any fun x=>decide (idx (fun y=>decide (f y=f x)) l≠(k:Nat)))=qdf (l.map f):=by
 rw[Bool.eq_iff_iff,qnb];simp only[List.any_eq_true,List.mem_range,gAG,List.getElem_map];constructor
 ·rintro⟨k,hk,h⟩;rw[gA hk,Option.any_some]at h;simp only[gS]at h;rcases q6s (fun y=>decide (f y=f l[k])) l with⟨_,h1⟩|⟨i,hi,h1,h2,h3⟩
  ·have:=h1 l[k] (gG hk);simp at this
  ·rw[h1]at h;simp only[gS]at h2;rcases Nat.lt_trichotomy i k with hlt|heq|hgt
   ·exact⟨k,i,hlt,hk,hi,h2.symm⟩
   ·subst heq;simp at h
   ·have:=h3 k hgt;simp at this
 ·rintro⟨i,j,hji,hi,hj,he⟩;refine⟨i,hi,?_⟩;rw[gA hi,Option.any_some];simp only[gS];rcases q6s (fun y=>decide (f y=f l[i])) l with⟨h0,_⟩|⟨k,hk,h1,h2,h3⟩
  ·rw[h0];omega
  ·rw[h1];intro hk';have:k=i:=by omega
   subst this;have:=h3 j hji;simp[he]at this
theorem qdx{α β:Type}[DecidableEq β](f:α->β)(l:List α):((List.range l.length).any fun i=>(List.range i).any fun j=>l[i]?.any fun x=>l[j]?.any fun y=>decide (f x=f y))=qdf (l.map f):=by
 rw[Bool.eq_iff_iff,qnb];simp only[List.any_eq_true,List.mem_range,gAG,List.getElem_map];constructor
 ·rintro⟨i,hi,j,hj,h⟩;rw[gA hi,gA (show j<l.length by omega)]at h;exact⟨i,j,hj,hi,by omega,by simpa using h⟩
 ·rintro⟨i,j,hji,hi,hj,he⟩;refine⟨i,hi,j,hji,?_⟩;rw[gA hi,gA hj];simpa using he
def qak(b:UInt8):Bool:=decide (97<=b.toNat/\b.toNat<=122)
def qch(s:ByteArray):Bool:=decide (1<=s.size/\s.size<=3)&&s.data.toList.all qak
def qad:ByteArray:=ByteArray.mk #[97,98,99,100,101,102,103,104,105,106,107,108,109,110,111,112,113,114,115,116,117,118,119,120,121,122]
theorem qoh(b:UInt8):qad.data.toList.contains b=qak b:=by
 have h:∀n:Fin 256,qad.data.toList.contains (UInt8.ofNat n.val)=qak (UInt8.ofNat n.val):=by decide +kernel
 have:=h ⟨b.toNat,b.toNat_lt⟩;simpa using this
theorem qe6{α:Type}(p:α->Bool):∀l:List α,(l.dropWhile p).isEmpty=l.all p
 |[]=>rfl
 |x::l=>by
  rw[List.dropWhile_cons,List.all_cons];cases hp:p x with
  |true=>simpa using qe6 p l
  |false=>simp
theorem qp6(l:List UInt8):(Lib.trimS l qad.data.toList).isEmpty=l.all qak:=by
 have e:(qad.data.toList.contains ·)=qak:=funext qoh;unfold Lib.trimS Lib.trimLeftS;rw[e,qe6];unfold Lib.trimRightS;rw[e,List.all_reverse]
 have:∀l:List UInt8,(l.dropWhile qak).all qak=l.all qak:=by
  intro l;induction l with
  |nil=>rfl
  |cons x l ih=>
   rw[List.dropWhile_cons];cases hp:qak x with
   |true=>simp[hp,ih]
   |false=>simp[hp]
 rw[this,List.all_reverse]
theorem qah(s:ByteArray)(h:s.size<=3):Call F.qah [.str s,.str qad] (.str ⟨(Lib.trimS s.data.toList qad.data.toList).toArray⟩):=by
 refine qfa (e:=trimE) rfl (Ev.of fun m=>?_);show(bif decide (s.size<=9223372036854775807)&&decide (qad.size<4294967281)&&qad.data.toList.all (fun b=>decide (b.toNat<128))then _ else _)=_;rw[decide_eq_true (by omega),show decide (qad.size<4294967281)=true by decide +kernel,show qad.data.toList.all (fun b=>decide (b.toNat<128))=true by decide +kernel];rfl
theorem q8t(s:ByteArray):Call F.q8t [.str s] (.bool (qch s)):=by
 refine q0q rfl 0 ((q8t.ev _ _).trans ?_);simp only[evz,Nat.reduceLT,ge_iff_le,qch];by_cases h1:1<=s.size
 ·by_cases h2:s.size<=3
  ·have h1':(1:Int)<=s.size:=by omega
   have h2':(s.size:Int)<=3:=by omega
   rw[show(ByteArray.mk #[97,98,99,100,101,102,103,104,105,106,107,108,109,110,111,112,113,114,115,116,117,118,119,120,121,122])=qad from rfl];simp only[h1,h2,h1',h2',(qah s h2).eq,evz,Nat.reduceLT,and_self,Bool.true_and];rw[<- qp6];congr 3;rw[Bool.eq_iff_iff,gS,List.isEmpty_iff];simp
  ·have h1':(1:Int)<=s.size:=by omega
   have h2':¬(s.size:Int)<=3:=by omega
   simp only[h1,h2,h1',h2',evz,Nat.reduceLT,and_false,Bool.false_and]
 ·have h1':¬(1:Int)<=s.size:=by omega
  simp only[h1,h1',evz,Nat.reduceLT,false_and,Bool.false_and]
theorem qx6{s:ByteArray}{k:Nat}(h:k<s.data.toList.length):s.data.getD k 0=s.data.toList[k]:=by
 simp at h;simp[Array.getD,h]
theorem q2q(s:ByteArray):Call F.q2q [.str s] (.bool (qch s)):=by
 refine q0q rfl (s.size+1) ((q2q.ev _ _).trans ?_);simp only[evz,Nat.reduceLT,gt_iff_lt,qch];by_cases h1:1<=s.size
 ·by_cases h2:s.size<=3
  ·have h1':¬(s.size:Int)<1:=by omega
   have h2':¬(3:Int)<s.size:=by omega
   simp only[h1,h2,h1',h2',if_false,and_self,decide_true,Bool.true_and];have hsz:s.data.toList.length=s.size:=by rw[Array.length_toList];rfl
   refine(q9d (l:=s.data.toList) (p:=fun b=>!qak b) (S:=fun m k=>q2q.at0 (s.size+1) m (q2q.st0 s (k:Nat))) (r:=some (.bool false,[])) (z:=some (.bool true,[])) (fun m k h=>?_) (fun m=>?_) (by omega)).trans ?_
   ·have h':k<s.size:=by omega
    simp only[q2q.next0,q2q.round0,evz,Nat.reduceLT,h',qx6 h];rw[q0k (by omega)];unfold qak;by_cases c1:s.data.toList[k].toNat<97
    ·have c1':(s.data.toList[k].toNat:Int)<97:=by omega
     rw[if_pos c1',if_pos (by simp only[Bool.not_eq_true',decide_eq_false_iff_not];omega)]
    ·have c1':¬(s.data.toList[k].toNat:Int)<97:=by omega
     rw[if_neg c1'];by_cases c2:122<s.data.toList[k].toNat
     ·have c2':(s.data.toList[k].toNat:Int)>122:=by omega
      rw[if_pos c2',if_pos (by simp only[Bool.not_eq_true',decide_eq_false_iff_not];omega)]
     ·have c2':¬(s.data.toList[k].toNat:Int)>122:=by omega
      rw[if_neg c2',if_neg (by simp only[Bool.not_eq_true',decide_eq_false_iff_not];omega)]
   ·rw[hsz];simp only[q2q.next0,q2q.round0,evz,Nat.reduceLT,gAK]
   ·have:s.data.toList.any (fun b=>!qak b) = !s.data.toList.all qak:=by rw[List.not_all_eq_any_not]
    rw[this];cases s.data.toList.all qak <;> rfl
  ·have h1':¬(s.size:Int)<1:=by omega
   have h2':(3:Int)<s.size:=by omega
   simp only[h1,h2,h1',h2',evz,Nat.reduceLT,and_false,Bool.false_and]
 ·have h1':(s.size:Int)<1:=by omega
  simp only[h1,h1',evz,Nat.reduceLT,false_and,Bool.false_and]
def q8d(x:Symbol):Option Int:=if qch x.name=false then some 5 else if inR x.arity 0 2=false then some 3 else none
def q3y(s:Signature):Int:=
 if s.symbols.length<1\/6<s.symbols.length then 2
 else match s.symbols.findSome? q8d with
  |some c=>c
  |none=>if qdf (s.symbols.map (·.name))then 6 else if s.symbols.any (fun x=>decide (x.arity=0))then 0 else 4
theorem q04(l:List Symbol)(hs:l.length<=4294967296)(n:ByteArray):Call F.q1v [slc l,.clo F.q4h [.rref [.str n] 0]] (.int .i64 (idx (fun x=>decide (x.name=n)) l)):=by
 refine q0q rfl (l.length+1) ((q04.ev _ _ _).trans ?_);refine q8e (S:=fun m k=>q04.at0 (l.length+1) m (q04.st0 (cells l) n _ (k:Nat))) (fun m k h=>?_) (fun m=>?_) (gAR _)
 ·have hlk:l[k]?=some l[k]:=gA h
  have hc:Call F.q4h [.agg [.str l[k].name,.int .i64 l[k].arity],.rref [.str n] 0] (.bool (decide (l[k].name=n))):=by
   refine q0q rfl 0 ((q4h.ev _ _ _ _).trans ?_);simp only[evz,Nat.reduceLT]
  simp only[q04.next0,q04.round0,evz,Nat.reduceLT,h,hlk,q33,hc.eq];rw[q0k (by omega)];simp only[gS]
 ·simp only[q04.next0,q04.round0,evz,Nat.reduceLT,gAK]
theorem q60(l:List Symbol)(hs:l.length<=4294967296)(n:ByteArray):Call F.q60 [.agg [slc l],.str n] (.int .i64 (idx (fun x=>decide (x.name=n)) l)):=by
 refine q0q rfl 0 ((q60.ev _ _ _).trans ?_);simp only[evz,Nat.reduceLT,(q04 l hs n).eq]
theorem q03(l:List Symbol)(hs:l.length<=4294967296):Call F.q1v [slc l,.clo F.q32 []] (.int .i64 (idx (fun x=>decide (x.arity=0)) l)):=by
 refine q0q rfl (l.length+1) ((q03.ev _ _).trans ?_);refine q8e (S:=fun m k=>q03.at0 (l.length+1) m (q03.st0 (cells l) _ (k:Nat))) (fun m k h=>?_) (fun m=>?_) (gAR _)
 ·have hlk:l[k]?=some l[k]:=gA h
  have hc:Call F.q32 [.agg [.str l[k].name,.int .i64 l[k].arity]] (.bool (decide (l[k].arity=0))):=by
   refine q0q rfl 0 ((q32.ev _ _ _).trans ?_);simp only[evz,Nat.reduceLT]
  simp only[q03.next0,q03.round0,evz,Nat.reduceLT,h,hlk,q33,hc.eq];rw[q0k (by omega)];simp only[gS]
 ·simp only[q03.next0,q03.round0,evz,Nat.reduceLT,gAK]
theorem q3d(l:List Symbol)(hs:l.length<=4294967296):Call F.q6o [slc l,.clo F.q32 []] (.bool (l.any fun x=>decide (x.arity=0))):=by
 refine q0q rfl 0 ((q3d.ev _ _).trans ?_);simp only[evz,Nat.reduceLT,(q03 l hs).eq,q8v]
theorem q06(l:List Symbol)(hs:l.length<=4294967296):Call F.q06 [.agg [slc l]] (.int .i64 (q3y ⟨l⟩)):=by
 refine q0q rfl (l.length+1) ((q06.ev _ _).trans ?_);simp only[evz,Nat.reduceLT,q3y,gt_iff_lt];by_cases h1:l.length<1
 ·have h1':(l.length:Int)<1:=by omega
  simp only[h1,h1',evz,Nat.reduceLT,true_or]
 by_cases h2:6<l.length
 ·have h1':¬(l.length:Int)<1:=by omega
  have h2':(6:Int)<l.length:=by omega
  simp only[h1,h1',h2,h2',evz,Nat.reduceLT,or_true]
 have h1':¬(l.length:Int)<1:=by omega
 have h2':¬(6:Int)<l.length:=by omega
 simp only[h1,h1',h2,h2',if_false,or_self]
 have two:=qd0 (n:=l.length) (bad:=fun k=>l[k]?.any fun x=>decide (idx (fun y=>decide (y.name=x.name)) l≠(k:Nat)))
  (S:=fun m k=>q06.at2 (l.length+1) m (q06.st2 (cells l) l.length (k:Nat) (cells l))) (r:=some (.int .i64 6,[])) (z:=if l.any (fun x=>decide (x.arity=0))then some (.int .i64 0,[])else some (.int .i64 4,[]))
  (fun m k h=>by
   have hlk:l[k]?=some l[k]:=gA h;simp only[q06.next2,q06.round2,evz,Nat.reduceLT,h,hlk,q33,(q60 l hs _).eq];rw[q0k (by omega)];by_cases e:idx (fun y=>decide (y.name=l[k].name)) l=(k:Int) <;> simp[e])
  (fun m=>by
   simp only[q06.next2,q06.round2,evz,Nat.reduceLT,gAK,(q3d l hs).eq];cases l.any (fun x=>decide (x.arity=0)) <;> rfl) (gAR _)
 have one:=qb3 (l:=l) (g:=fun x=>(q8d x).map fun c=>some (.int .i64 c,[]))
  (S:=fun m k=>q06.at0 (l.length+1) m (q06.st0 (cells l) l.length (k:Nat) (cells l)))
  (fun m k h=>by
   have hlk:l[k]?=some l[k]:=gA h;simp only[q06.next0,q06.round0,evz,Nat.reduceLT,h,hlk,q33,(q8t _).eq,(q4s _ _ _).eq];rw[q0k (by omega)];cases h5:qch l[k].name with
   |false=>simp[q8d,h5]
   |true=>cases h6:inR l[k].arity 0 2 <;> simp[q8d,h5,h6])
  (fun m=>by simp only[q06.next0,q06.round0,evz,Nat.reduceLT,gAK];rfl) (gAR _)
 refine one.trans ?_;rw[show q06.at2 (l.length+1) (l.length+1) (q06.st2 (cells l) l.length 0 (cells l))=_ from two,qnz (fun y:Symbol=>y.name),q9i];cases l.findSome? q8d with
 |some c=>rfl
 |none=>cases qdf (l.map fun x=>x.name) <;> cases l.any (fun x=>decide (x.arity=0)) <;> rfl
theorem q01(l:List Symbol)(hs:l.length<=4294967296):Call F.q01 [.agg [slc l]] (.int .i64 (q3y ⟨l⟩)):=by
 obtain⟨n,hn⟩:∃n,n=l.length+1:=⟨_,rfl⟩;refine q0q rfl n ((q01.ev _ _).trans ?_);simp only[evz,Nat.reduceLT,q3y,gt_iff_lt];by_cases h1:l.length<1
 ·have h1':(l.length:Int)<1:=by omega
  simp only[h1,h1',evz,Nat.reduceLT,true_or]
 by_cases h2:6<l.length
 ·have h1':¬(l.length:Int)<1:=by omega
  have h2':(6:Int)<l.length:=by omega
  simp only[h1,h1',h2,h2',evz,Nat.reduceLT,or_true]
 have h1':¬(l.length:Int)<1:=by omega
 have h2':¬(6:Int)<l.length:=by omega
 simp only[h1,h1',h2,h2',if_false,or_self]
 have six:=q9d (l:=l) (p:=fun x=>decide (x.arity=0)) (S:=fun m k=>q01.at6 n m (q01.st6 l.length (k:Nat) (cells l))) (r:=some (.int .i64 0,[])) (z:=some (.int .i64 4,[]))
  (fun m k h=>by
   have hlk:l[k]?=some l[k]:=gA h;simp only[q01.next6,q01.round6,evz,Nat.reduceLT,h,hlk,q33];rw[q0k (by omega)];simp only[gS])
  (fun m=>by simp only[q01.next6,q01.round6,evz,Nat.reduceLT,gAK]) (show l.length<n by omega)
 have two:=qd0 (n:=l.length) (bad:=fun i=>(List.range i).any fun j=>l[i]?.any fun x=>l[j]?.any fun y=>decide (x.name=y.name))
  (S:=fun m i=>q01.at2 n m (q01.st2 l.length (i:Nat) (cells l))) (r:=some (.int .i64 6,[]))
  (fun m i h=>by
   have hlk:l[i]?=some l[i]:=gA h;simp only[q01.next2,q01.round2,evz,Nat.reduceLT,h]
   refine qd0 (n:=i) (f:=n) (bad:=fun j=>l[i]?.any fun x=>l[j]?.any fun y=>decide (x.name=y.name))
    (S:=fun m' j=>q01.at4 n (q01.at2 n m) m' (q01.st4 l.length (i:Nat) (j:Nat) (cells l))) (fun m' j hj=>?_) (fun m'=>?_) (by omega)
   ·have hj':j<l.length:=by omega
    have hjk:l[j]?=some l[j]:=gA hj';simp only[q01.next4,q01.round4,evz,Nat.reduceLT,h,hj,hj',hlk,hjk,q33];rw[q0k (by omega)];by_cases e:l[i].name=l[j].name <;> simp[e]
   ·simp only[q01.next4,q01.round4,evz,Nat.reduceLT,gAK];rw[q0k (by omega)])
  (fun m=>by simp only[q01.next2,q01.round2,evz,Nat.reduceLT,gAK];exact six) (show l.length<n by omega)
 have one:=qb3 (l:=l) (g:=fun x=>(q8d x).map fun c=>some (.int .i64 c,[]))
  (S:=fun m k=>q01.at0 n m (q01.st0 l.length (k:Nat) (cells l)))
  (fun m k h=>by
   have hlk:l[k]?=some l[k]:=gA h;simp only[q01.next0,q01.round0,evz,Nat.reduceLT,h,hlk,q33,(q2q _).eq,(q5h _ _ _).eq];rw[q0k (by omega)];cases h5:qch l[k].name with
   |false=>simp[q8d,h5]
   |true=>cases h6:inR l[k].arity 0 2 <;> simp[q8d,h5,h6])
  (fun m=>by simp only[q01.next0,q01.round0,evz,Nat.reduceLT,gAK];rfl) (show l.length<n by omega)
 refine one.trans ?_;rw[show q01.at2 n n (q01.st2 l.length 0 (cells l))=_ from two,qdx (fun y:Symbol=>y.name),q9i];cases l.findSome? q8d with
 |some c=>rfl
 |none=>cases qdf (l.map fun x=>x.name) <;> cases l.any (fun x=>decide (x.arity=0)) <;> rfl
theorem q8r{n a b:Int}:inR n a b=true<->a<=n/\n<=b:=by unfold inR;simp
structure SigOk(s:Signature):Prop where
 pos:1<=s.symbols.length
 le:s.symbols.length<=6
 name:∀x∈s.symbols,qch x.name=true
 arity:∀x∈s.symbols,0<=x.arity/\x.arity<=2
 nodup:(s.symbols.map (·.name)).Nodup
 const:∃x∈s.symbols,x.arity=0
theorem q9v{α β:Type}{f:α->Option β}:∀{l:List α},l.findSome? f=none<->∀x∈l,f x=none
 |[]=>by simp
 |x::l=>by
  rw[List.findSome?_cons];cases h:f x with
  |some b=>simp[h]
  |none=>simp[h,q9v (l:=l)]
theorem qa3(s:Signature):q3y s=0<->SigOk s:=by
 unfold q3y;constructor
 ·intro h;split at h
  ·cases h
  ·rename_i h1;split at h
   ·rename_i c hc;obtain⟨x,hx,hf⟩:=List.exists_of_findSome?_eq_some hc;unfold q8d at hf;split at hf
    ·cases hf;cases h
    ·split at hf
     ·cases hf;cases h
     ·cases hf
   ·rename_i hn;rw[q9v]at hn;split at h
    ·cases h
    ·rename_i ht;split at h
     ·rename_i ha
      have hx:∀x∈s.symbols,qch x.name=true/\inR x.arity 0 2=true:=fun x hx=>by
       have:=hn x hx;unfold q8d at this;split at this
       ·cases this
       ·split at this
        ·cases this
        ·rename_i h1 h2;exact⟨by simpa using h1,by simpa using h2⟩
      refine⟨by omega,by omega,fun x h=>(hx x h).1,fun x h=>q8r.1 (hx x h).2,?_,?_⟩
      ·unfold qdf at ht;simpa using ht
      ·rw[List.any_eq_true]at ha;obtain⟨x,h1,h2⟩:=ha;exact⟨x,h1,by simpa using h2⟩
     ·cases h
 ·intro h;rw[if_neg (by have:=h.pos;have:=h.le;omega)]
  have:s.symbols.findSome? q8d=none:=q9v.2 fun x hx=>by
   unfold q8d;rw[if_neg (by simp[h.name x hx]),if_neg (by have:=q8r.2 (h.arity x hx);simp[this])]
  rw[this];simp only;rw[if_neg (by unfold qdf;simpa using h.nodup),if_pos];rw[List.any_eq_true];obtain⟨x,h1,h2⟩:=h.const;exact⟨x,h1,by simpa using h2⟩
def ar(l:List Symbol)(n:Int):Nat:=if n<0 then 0 else((l[n.toNat]?).map fun x=>x.arity.toNat).getD 0
def q5x(l:List Symbol)(n:Int):Bool:=inR n 0 (l.length-1)||inR n (-12) (-1)
def skip(a:Int->Nat):Nat->List Int->Option (List Int)
 |0,l=>some l
 |_+1,[]=>none
 |k+1,n::l=>skip a (k+a n) l
def q3t(l:List Symbol)(t:List Int):Int:=
 if t.length<1\/24<t.length then 2 else if t.any (fun n=>!q5x l n)then 3 else if skip (ar l) 1 t=some []then 0 else 1
def q6j(s:Signature)(t:List Int):Int:=if q3y s≠0 then q3y s else q3t s.symbols t
section
variable {a:Int->Nat}
@[simp] theorem q45(l:List Int):skip a 0 l=some l:=by cases l <;> rfl
theorem qbz:∀{l r:List Int}{k:Nat},skip a k l=some r->∃p,l=p++r/\(0<k->0<p.length)
 |l,r,0,h=>by rw[q45]at h;cases h;exact⟨[],rfl,by omega⟩
 |[],r,k+1,h=>by cases h
 |n::l,r,k+1,h=>by
  obtain⟨p,hp,_⟩:=qbz (l:=l) (k:=k+a n) h;exact⟨n::p,by rw[hp];rfl,by simp⟩
theorem qaf:∀(l:List Int)(j k:Nat),skip a (j+k) l=(skip a j l).bind (skip a k)
 |l,0,k=>by simp
 |[],j+1,k=>by rw[Nat.add_right_comm];rfl
 |n::l,j+1,k=>by
  rw[Nat.add_right_comm];show skip a (j+k+a n) l=(skip a (j+a n) l).bind (skip a k);rw[Nat.add_right_comm,qaf l (j+a n) k]
theorem qh7{t r:List Int}{e k:Nat}(h:skip a k (t.drop e)=some r):r=t.drop (t.length-r.length)/\r.length<=t.length-e/\(0<k->r.length<t.length-e):=by
 obtain⟨p,hp,hk⟩:=qbz h;have hl:(t.drop e).length=p.length+r.length:=by rw[hp,gM]
 rw[gAA]at hl;refine⟨?_,by omega,fun h0=>by have:=hk h0;omega⟩;have h1:t.length-r.length=e+p.length\/t.length<=e:=by omega
 rcases h1 with h1|h1
 ·rw[h1,<- List.drop_drop,hp,List.drop_left]
 ·have:r.length=0:=by omega
  rw[gL this];simp
end
theorem q4j{l:List Symbol}{n:Int}:q5x l n=true<->(0<=n/\n<l.length)\/(-12<=n/\n <= -1):=by
 unfold q5x;rw[Bool.or_eq_true,q8r,q8r];omega
section
variable {l:List Symbol}(ok:SigOk ⟨l⟩)
include ok
theorem qon(n:Int):ar l n<=2:=by
 unfold ar;split
 ·omega
 ·cases h:l[n.toNat]? with
  |none=>simp
  |some x=>
   have:=ok.arity x (List.mem_of_getElem? h);simp;omega
theorem q8m(n:Int):Call F.q8m [.agg [slc l],.int .i64 n] (.bool (q5x l n)):=by
 have hle:=ok.le
 have h1:Call F.q5s [.agg [slc l],.int .i64 n] (.bool (inR n 0 (l.length-1))):=by
  refine q0q rfl 0 ((q5s.ev _ _ _).trans ?_);simp only[evz,Nat.reduceLT,q2y (x:=(l.length:Int)-1) (by simp at hle;omega),(q4s _ _ _).eq]
 refine q0q rfl 0 ((q8m.ev _ _ _).trans ?_);simp only[evz,Nat.reduceLT,h1.eq,(q4s _ _ _).eq,q5x];cases inR n 0 (l.length-1) <;> simp[evz,Nat.reduceLT]
theorem q8q(n:Int):Call F.q8q [.rref [slc l] 0,.int .i64 n] (.bool (q5x l n)):=by
 have hle:=ok.le
 have h1:Call F.q5n [.rref [slc l] 0,.int .i64 n] (.bool (inR n 0 (l.length-1))):=by
  refine q0q rfl 0 ((q5n.ev _ _ _).trans ?_);simp only[evz,Nat.reduceLT,q2y (x:=(l.length:Int)-1) (by simp at hle;omega),(q5h _ _ _).eq]
 refine q0q rfl 0 ((q8q.ev _ _ _).trans ?_);simp only[evz,Nat.reduceLT,h1.eq,(q5h _ _ _).eq,q5x];cases inR n 0 (l.length-1) <;> simp[evz,Nat.reduceLT]
theorem qru{n:Int}(hn:0<=n)(h:n.toNat<l.length):(l[n.toNat]).arity=(ar l n:Nat):=by
 have:=ok.arity l[n.toNat] (gG h);unfold ar;rw[if_neg (by omega),gA h];simp;omega
theorem q6x(n:Int)(h:q5x l n=true):Call F.q6x [.agg [slc l],.int .i64 n] (.int .i64 (ar l n:Nat)):=by
 refine q0q rfl 0 ((q6x.ev _ _ _).trans ?_);rw[q4j]at h;by_cases hn:n<0
 ·simp[hn,ar]
 ·obtain⟨m,rfl⟩:∃m:Nat,n=m:=⟨n.toNat,by omega⟩;have hm:m<l.length:=by omega
  have e:=qru ok (n:=m) (by omega) (by simpa using hm);have hl:l[m]?=some l[m]:=gA hm;have hn':¬((m:Int)<0):=by omega
  simp only[evz,Nat.reduceLT,hn',hm,hl,q33];simp at e;rw[e]
def q9o(none':Int)(t:List Int)(r:Option (List Int)):Int:=match r with
 |some r=>((t.length-r.length:Nat):Int)
 |none=>none'
theorem q2m(t:List Int)(ht:∀n∈t,q5x l n=true)(hl:t.length<=4294967296)(e:Nat)(he:e<=t.length) :
 Call F.q2m [.agg [slc l],slc t,.int .i64 e] (.int .i64 (q9o (t.length+1) t (skip (ar l) 1 (t.drop e)))):=by
 have loop:∀m k o,k<=t.length->t.length+1<m+k->o<=2*k+1->
  q2m.at0 (t.length+2) m (q2m.st0 (cells t) (k:Nat) (o:Nat) (cells l))=some (.int .i64 (q9o (t.length+1) t (skip (ar l) o (t.drop k))),[]):=by
  intro m;induction m with
  |zero=>intros;omega
  |succ m ih=>
   intro k o hk hm ho;simp only[q2m.next0,q2m.round0,evz,Nat.reduceLT,gt_iff_lt,ge_iff_le];cases o with
   |zero=>
    rw[if_neg (by omega),q45];simp only[q9o,gAA];congr 3;omega
   |succ o=>
    rw[if_pos (by omega)];by_cases h:k<t.length
    ·have hk':t[k]?=some t[k]:=gA h;have hn:=ht t[k] (gG h);have h2:=qon ok t[k];rw[if_neg (by omega)];simp only[h,hk',evz,Nat.reduceLT,q1r,(q6x ok t[k] hn).eq];rw[q0k (by omega),q2y (x:=((ar l t[k]:Nat):Int)-1) (by omega),q2y (by omega)];rw[show((o+1:Nat):Int)+(((ar l t[k]:Nat):Int)-1)=((o+ar l t[k]:Nat):Int) by omega];rw[ih (k+1) (o+ar l t[k]) (by omega) (by omega) (by omega),gH h];rfl
    ·obtain rfl:k=t.length:=by omega
     rw[if_pos (by omega),q2y (by omega),gU (gAI _)];rfl
 refine q0q rfl (t.length+2) ((q2m.ev _ _ _ _).trans ?_);have:=loop (t.length+2) e 1 he (by omega) (by omega);exact this
theorem q28(t:List Int)(ht:∀n∈t,q5x l n=true)(hl:t.length<=4294967296)(e:Nat)(he:e<=t.length) :
 Call F.q28 [.rref [slc l] 0,slc t,.int .i64 e] (.int .i64 (q9o (-1) t (skip (ar l) 1 (t.drop e)))):=by
 obtain⟨d,hd⟩:∃d,d=t.length-e:=⟨_,rfl⟩;induction d using Nat.strongRecOn generalizing e with
 |ind d ih=>
 refine q0q rfl 4 ((q28.ev _ _ _ _).trans ?_);simp only[evz,Nat.reduceLT,ge_iff_le];by_cases h:e<t.length
 case neg=>
  obtain rfl:e=t.length:=by omega
  rw[if_pos (by omega),gU (gAI _)];rfl
 have hk':t[e]?=some t[e]:=gA h;have hn:=ht t[e] (gG h);have h2:=qon ok t[e];rw[if_neg (by omega)];simp only[h,hk',evz,Nat.reduceLT,q1r];rw[gH h];show _=some (T.int .i64 (q9o (-1) t (skip (ar l) (0+ar l t[e]) (t.drop (e+1)))),[]);rw[gAJ,q0k (by omega)];by_cases hneg:t[e]<0
 ·rw[if_pos hneg];have:ar l t[e]=0:=by unfold ar;rw[if_pos hneg]
  rw[this,q45];simp only[q9o,gAA];congr 3;omega
 rw[if_neg hneg];rw[q4j]at hn;obtain⟨y,hy⟩:∃y:Nat,t[e]=y:=⟨t[e].toNat,by omega⟩;have hym:y<l.length:=by omega
 have hyl:l[y]?=some l[y]:=gA hym
 have hya:l[y].arity=(ar l t[e]:Nat):=by
  have:=qru ok (n:=t[e]) (by omega) (by omega);simpa[hy]using this
 have loop:∀m i k,e<k->k<=t.length->i<=ar l t[e]->ar l t[e]<m+i->
  q28.at0 4 m (q28.st0 (cells l) (cells t) e (k:Nat) (i:Nat))=some (.int .i64 (q9o (-1) t (skip (ar l) (ar l t[e]-i) (t.drop k))),[]):=by
  intro m;induction m with
  |zero=>intros;omega
  |succ m ihm=>
   intro i k hk1 hk2 hi hm;simp only[q28.next0,q28.round0,evz,Nat.reduceLT,h,hk',q1r];simp only[hy,evz,Nat.reduceLT,hym,hyl,q33,hya];by_cases hia:i<ar l t[e]
   ·rw[hy]at hia;rw[if_pos hia,(ih (t.length-k) (by omega) k hk2 rfl).eq];simp only[evz,Nat.reduceLT];rw[<- hy]at hia;rw[show ar l ((y:Nat):Int)-i=1+(ar l t[e]-(i+1)) by rw[hy];rw[hy]at hia;omega,qaf];cases hs:skip (ar l) 1 (t.drop k)with
    |none=>rfl
    |some r=>
     obtain⟨hr1,hr2,hr3⟩:=qh7 hs;have hr4:=hr3 (by omega);have hnn:¬ q9o (-1) t (some r)<0:=by show ¬((t.length-r.length:Nat):Int)<0;omega
     rw[if_neg hnn,q0k (by omega),show q9o (-1) t (some r)=((t.length-r.length:Nat):Int)from rfl,ihm (i+1) (t.length-r.length) (by omega) (by omega) (by omega) (by omega),<- hr1];rfl
   ·have:i=ar l t[e]:=by omega
    rw[if_neg (by rw[<- hy];exact hia),show ar l ((y:Nat):Int)-i=0 by rw[<- hy];omega,q45];simp only[q9o,gAA];congr 3;omega
 have:=loop 4 0 (e+1) (by omega) (by omega) (by omega) (by omega);exact this
end
theorem qex{l:List Symbol}{t:List Int}:(t.any fun n=>!q5x l n)=false<->∀n∈t,q5x l n=true:=by
 rw[List.any_eq_false];simp
theorem qd5{a:Int->Nat}{t:List Int}:(q9o (t.length+1) t (skip a 1 t)=t.length<->skip a 1 t=some [])/\(q9o (-1) t (skip a 1 t)=t.length<->skip a 1 t=some []):=by
 cases h:skip a 1 t with
 |none=>simp[q9o];omega
 |some r=>
  obtain⟨p,hp,_⟩:=qbz h;have:r.length<=t.length:=by rw[hp];simp
  cases r with
  |nil=>simp[q9o]
  |cons x r=>
   simp only[gAB]at this;refine⟨⟨fun h=>?_,fun h=>by cases h⟩,⟨fun h=>?_,fun h=>by cases h⟩⟩ <;> (simp only[q9o,gAB]at h;omega)
theorem q3z(l:List Symbol)(ok:SigOk ⟨l⟩)(t:List Int)(hs:t.length<=4294967296) :
 Call F.q2h [slc t,.clo F.q44 [.rref [slc l] 0]] (.bool (t.any fun n=>!q5x l n)):=by
 have hi:Call F.q0o [slc t,.clo F.q44 [.rref [slc l] 0]] (.int .i64 (idx (fun n=>!q5x l n) t)):=by
  refine q0q rfl (t.length+1) ((q0b.ev _ _ _).trans ?_);refine q8e (S:=fun m k=>q0b.at0 (t.length+1) m (q0b.st0 (cells t) _ _ (k:Nat))) (fun m k h=>?_) (fun m=>?_) (gAR _)
  ·have hlk:t[k]?=some t[k]:=gA h
   have hc:Call F.q44 [.int .i64 t[k],.rref [slc l] 0] (.bool (!q5x l t[k])):=by
    refine q0q rfl 0 ((q44.ev _ _ _).trans ?_);simp only[evz,Nat.reduceLT,(q8m ok _).eq]
   simp only[q0b.next0,q0b.round0,evz,Nat.reduceLT,h,hlk,q1r,hc.eq];rw[q0k (by omega)];cases q5x l t[k] <;> rfl
  ·simp only[q0b.next0,q0b.round0,evz,Nat.reduceLT,gAK]
 refine q0q rfl 0 ((q3z.ev _ _ _).trans ?_);simp only[evz,Nat.reduceLT,hi.eq,q8v]
theorem q4x(l:List Symbol)(hs:l.length<=4294967296)(t:List Int)(ht:t.length<=4294967296):Call F.q4x [.agg [slc l],slc t] (.int .i64 (q6j ⟨l⟩ t)):=by
 refine q0q rfl 0 ((q4x.ev _ _ _).trans ?_);simp only[evz,Nat.reduceLT,(q06 l hs).eq,q6j,q3t,gt_iff_lt];by_cases h1:q3y ⟨l⟩=0
 case neg=>simp only[h1,evz,Nat.reduceLT,ne_eq,gX]
 have ok:=(qa3 _).1 h1;simp only[h1,evz,Nat.reduceLT,ne_eq,gW];by_cases h2:t.length<1
 ·have h2':(t.length:Int)<1:=by omega
  simp only[h2,h2',evz,Nat.reduceLT,true_or]
 by_cases h3:24<t.length
 ·have h2':¬(t.length:Int)<1:=by omega
  have h3':(24:Int)<t.length:=by omega
  simp only[h2,h2',h3,h3',evz,Nat.reduceLT,or_true]
 have h2':¬(t.length:Int)<1:=by omega
 have h3':¬(24:Int)<t.length:=by omega
 simp only[h2,h2',h3,h3',evz,Nat.reduceLT,or_self,(q3z l ok t ht).eq];cases h4:t.any fun n=>!q5x l n with
 |true=>simp only[evz,Nat.reduceLT]
 |false=>
  have hn:=qex.1 h4;have he:=q2m ok t hn ht 0 (by omega);simp only[evz,Nat.reduceLT,Bool.false_eq_true,show LIM F.q2m [.agg [slc l],slc t,.int .i64 0]=_ from he,List.drop_zero];by_cases h5:skip (ar l) 1 t=some []
  ·rw[if_pos (qd5.1.2 h5),if_pos h5]
  ·rw[if_neg fun h=>h5 (qd5.1.1 h),if_neg h5]
theorem q16(l:List Symbol)(ok:SigOk ⟨l⟩)(t:List Int)(ht:t.length<=4294967296):Call F.q16 [.rref [slc l] 0,slc t] (.int .i64 (q3t l t)):=by
 refine q0q rfl (t.length+1) ((q16.ev _ _ _).trans ?_);simp only[evz,Nat.reduceLT,q3t,gt_iff_lt];by_cases h2:t.length<1
 ·have h2':(t.length:Int)<1:=by omega
  simp only[h2,h2',evz,Nat.reduceLT,true_or]
 by_cases h3:24<t.length
 ·have h2':¬(t.length:Int)<1:=by omega
  have h3':(24:Int)<t.length:=by omega
  simp only[h2,h2',h3,h3',evz,Nat.reduceLT,or_true]
 have h2':¬(t.length:Int)<1:=by omega
 have h3':¬(24:Int)<t.length:=by omega
 simp only[h2,h2',h3,h3',evz,Nat.reduceLT,or_self]
 have step:∀m k (h:k<t.length),q16.at0 (t.length+1) (m+1) (q16.st0 (cells l) (cells t) (k:Nat))=
  if(fun n=>!q5x l n) t[k]=true then some (.int .i64 3,[])else q16.at0 (t.length+1) m (q16.st0 (cells l) (cells t) ((k+1:Nat):Int)):=fun m k h=>by
  have hlk:t[k]?=some t[k]:=gA h;simp only[q16.next0,q16.round0,evz,Nat.reduceLT,h,hlk,q1r,(q8q ok _).eq];rw[q0k (by omega)];by_cases hb:q5x l t[k]=true <;> simp[hb]
 cases h4:t.any fun n=>!q5x l n with
 |true=>
  refine(qvn (p:=fun n=>!q5x l n) (r:=some (.int .i64 3,[])) (S:=fun m k=>q16.at0 (t.length+1) m (q16.st0 (cells l) (cells t) (k:Nat))) step h4 (gAR _)).trans ?_;simp only[evz,Nat.reduceLT]
 |false=>
  have hn:=qex.1 h4;have he:=q28 ok t hn ht 0 (by omega);refine(q9d (p:=fun n=>!q5x l n) (r:=some (.int .i64 3,[])) (S:=fun m k=>q16.at0 (t.length+1) m (q16.st0 (cells l) (cells t) (k:Nat))) (z:=if skip (ar l) 1 t=some []then some (.int .i64 0,[])else some (.int .i64 1,[])) step (fun m=>?_) (gAR _)).trans ?_
  ·simp only[q16.next0,q16.round0,evz,Nat.reduceLT,gAK,show LIM F.q28 [.rref [slc l] 0,slc t,.int .i64 0]=_ from he,List.drop_zero];by_cases h5:skip (ar l) 1 t=some []
   ·rw[if_pos (qd5.2.2 h5),if_pos h5]
   ·rw[if_neg fun h=>h5 (qd5.2.1 h),if_neg h5]
  ·rw[h4];simp only[evz,Nat.reduceLT,Bool.false_eq_true];by_cases h5:skip (ar l) 1 t=some [] <;> simp only[h5,if_true,if_false]
end Ev.Ty
end
section
namespace Ev.Ty
open Go Ev
inductive Tm where
 |v (n:Int)
 |k (n:Int)
 |u (n:Int) (x:Tm)
 |b (n:Int) (x y:Tm)
 deriving DecidableEq
namespace Tm
def flat:Tm->List Int
 |v n=>[n]
 |k n=>[n]
 |u n x=>n::x.flat
 |b n x y=>n::(x.flat++y.flat)
def head:Tm->Int
 |v n=>n
 |k n=>n
 |u n _=>n
 |b n _ _=>n
def ok(a:Int->Nat):Tm->Prop
 |v n=>n<0
 |k n=>0<=n/\a n=0
 |u n x=>0<=n/\a n=1/\x.ok a
 |b n x y=>0<=n/\a n=2/\x.ok a/\y.ok a
theorem flat_pos(x:Tm):0<x.flat.length:=by cases x <;> simp[flat]
theorem flat_head(x:Tm):∃r,x.flat=x.head::r:=by cases x <;> exact⟨_,rfl⟩
variable {a:Int->Nat}
theorem skip_flat(ha:∀n,n<0->a n=0):∀(x:Tm)(r:List Int)(j:Nat),x.ok a->skip a (j+1) (x.flat++r)=skip a j r
 |v n,r,j,h=>by
  show skip a (j+a n) r=_;rw[ha n h,Nat.add_zero]
 |k n,r,j,h=>by
  show skip a (j+a n) r=_;rw[h.2,Nat.add_zero]
 |u n x,r,j,h=>by
  show skip a (j+a n) (x.flat++r)=_;rw[h.2.1];exact skip_flat ha x r j h.2.2
 |b n x y,r,j,h=>by
  show skip a (j+a n) ((x.flat++y.flat)++r)=_;rw[h.2.1,gZ,skip_flat ha x _ (j+1) h.2.2.1,skip_flat ha y _ j h.2.2.2]
theorem parse(ha:∀n,n<0->a n=0)(h2:∀n,a n<=2):∀(m:Nat)(l r:List Int),l.length<=m->skip a 1 l=some r->∃x:Tm,x.ok a/\l=x.flat++r
 |_,[],r,_,h=>by cases h
 |0,n::l,r,hm,h=>by simp at hm
 |m+1,n::l,r,hm,h=>by
  have hm:l.length<=m:=by simpa using hm
  have h:skip a (0+a n) l=some r:=h;rw[gAJ]at h;by_cases hn:n<0
  ·rw[ha n hn,q45]at h;cases h;exact⟨.v n,hn,rfl⟩
  ·have:=h2 n;have h3:a n=0\/a n=1\/a n=2:=by omega
   rcases h3 with h0|h1|h2'
   ·rw[h0,q45]at h;cases h;exact⟨.k n,⟨by omega,h0⟩,rfl⟩
   ·rw[h1]at h;obtain⟨x,hx,rfl⟩:=parse ha h2 m l r hm h;exact⟨.u n x,⟨by omega,h1,hx⟩,rfl⟩
   ·rw[h2',show 2=1+1 from rfl,qaf]at h;cases hs:skip a 1 l with
    |none=>rw[hs]at h;cases h
    |some r1=>
     rw[hs]at h;have h9:skip a 1 r1=some r:=h;obtain⟨x,hx,rfl⟩:=parse ha h2 m l r1 hm hs;obtain⟨y,hy,rfl⟩:=parse ha h2 m r1 r (by simp at hm;omega) h9;exact⟨.b n x y,⟨by omega,h2',hx,hy⟩,by simp[flat]⟩
end Tm
theorem q9l(l:List Symbol){n:Int}(h:n<0):ar l n=0:=by unfold ar;rw[if_pos h]
structure TermOk(l:List Symbol)(t:List Int):Prop where
 pos:1<=t.length
 le:t.length<=24
 node:∀n∈t,q5x l n=true
 skip:skip (ar l) 1 t=some []
theorem q5w(l:List Symbol)(t:List Int):q3t l t=0<->TermOk l t:=by
 unfold q3t;constructor
 ·intro h;split at h
  ·cases h
  ·split at h
   ·cases h
   ·rename_i h1 h2;split at h
    ·rename_i h3;exact⟨by omega,by omega,qex.1 (by simpa using h2),h3⟩
    ·cases h
 ·intro h;have:=h.pos;have:=h.le;rw[if_neg (by omega),if_neg (by rw[qex.2 h.node];simp),if_pos h.skip]
theorem TermOk.tree{l:List Symbol}{t:List Int}(ok:SigOk ⟨l⟩)(h:TermOk l t):∃x:Tm,x.ok (ar l)/\t=x.flat:=by
 obtain⟨x,hx,e⟩:=Tm.parse (fun n hn=>q9l l hn) (qon ok) t.length t [] (gAI _) h.skip;exact⟨x,hx,by simpa using e⟩
theorem qwg{t r:List Int}{e:Nat}{x:Tm}(h:t.drop e=x.flat++r):e<t.length/\t[e]?=some x.head/\e+x.flat.length<=t.length:=by
 have hl:(t.drop e).length=x.flat.length+r.length:=by rw[h,gM]
 have hp:=x.flat_pos;rw[gAA]at hl;refine⟨by omega,?_,by omega⟩
 have:(t.drop e)[0]?=some x.head:=by
  rw[h];obtain⟨r',e'⟩:=x.flat_head;rw[e'];rfl
 rwa[gV,Nat.add_zero]at this
end Ev.Ty
end
section
namespace Ev.Ty
open Go Ev
open Enc (enc)
open Sm (sm)
structure AlgOk(l:List Symbol)(z:Int)(tb:List (List Int)):Prop where
 sig:SigOk ⟨l⟩
 size:1<=z/\z<=3
 len:tb.length=l.length
 rows:∀(k:Nat)(h:k<l.length)(h':k<tb.length),tb[k].length=z.toNat ^ (l[k]).arity.toNat/\∀n∈tb[k],0<=n/\n<=z-1
def Tm.eval(z:Int)(tb:List (List Int))(vs:List Int):Tm->Int
 |v n=>vs.getD (-1-n).toNat 0
 |k n=>(tb.getD n.toNat []).getD 0 0
 |u n x=>(tb.getD n.toNat []).getD (x.eval z tb vs).toNat 0
 |b n x y=>(tb.getD n.toNat []).getD (x.eval z tb vs*z+y.eval z tb vs).toNat 0
def Tm.low(m:Int):Tm->Prop
 |v n => -m<=n
 |k _=>True
 |u _ x=>x.low m
 |b _ x y=>x.low m/\y.low m
section
variable {l:List Symbol}{z:Int}{tb:List (List Int)}(al:AlgOk l z tb){vs:List Int}(hv:vs.length=6)(hr:∀n∈vs,0<=n/\n<=z-1)
include al
include hv hr
end
theorem qsz{α:Type}{v:List α}{i:Nat}{d:α}(h:i<v.length):v.getD i d=v[i]:=by simp[h]
section
variable {l:List Symbol}{z:Int}{tb:List (List Int)}(al:AlgOk l z tb){vs:List Int}(hv:vs.length=6)(hr:∀n∈vs,0<=n/\n<=z-1)
include al hv hr
end
theorem q27(l:List Int)(hl:l.length<=4294967296):Call F.q27 [slc l] (.int .i64 ((l.find? fun n=>decide (n≠0)).getD 0)):=by
 refine q0q rfl (l.length+1) ((q27.ev _ _).trans ?_)
 have:=qb3 (l:=l) (g:=fun n=>if n≠0 then some (some (.int .i64 n,[]))else none) (z:=some (.int .i64 0,[])) (S:=fun m k=>q27.at0 (l.length+1) m (q27.st0 0 (cells l) l.length (k:Nat)))
  (fun m k h=>by
   have hlk:l[k]?=some l[k]:=gA h;simp only[q27.next0,q27.round0,evz,Nat.reduceLT,h,hlk,q1r];rw[q0k (by omega)];by_cases e:l[k]=0 <;> simp[e])
  (fun m=>by simp only[q27.next0,q27.round0,evz,Nat.reduceLT,gAK]) (gAR _)
 simp only[q53,q3o];refine this.trans ?_;clear this;induction l with
 |nil=>rfl
 |cons x l ih=>
  rw[List.findSome?_cons,List.find?_cons];by_cases e:x=0
  ·simpa[e]using ih (by simp at hl;omega)
  ·simp[e]
theorem qcj(a b:Int):Call F.q7d [.sl 1 [.int .i64 a,.int .i64 b]] (.int .i64 (if a=0 then b else a)):=by
 refine q0q rfl 0 ((q7d.ev _ _).trans ?_);have:=q27 [a,b] (by simp);simp only[evz,Nat.reduceLT,show LIM F.q27 [.sl 1 [.int .i64 a,.int .i64 b]]=_ from this];by_cases h:a=0
 ·by_cases h':b=0 <;> simp[h,h']
 ·simp[h]
theorem q2u(t:List Int)(hl:t.length<=4294967296):Call F.q2u [slc t] (.bool (!t.any fun n=>decide (n < -6))):=by
 refine q0q rfl (t.length+1) ((q2u.ev _ _).trans ?_);refine(q9d (l:=t) (p:=fun n=>decide (n < -6)) (r:=some (.bool false,[])) (z:=some (.bool true,[])) (S:=fun m k=>q2u.at0 (t.length+1) m (q2u.st0 (cells t) (k:Nat))) (fun m k h=>?_) (fun m=>?_) (gAR _)).trans ?_
 ·have hlk:t[k]?=some t[k]:=gA h;simp only[q2u.next0,q2u.round0,evz,Nat.reduceLT,h,hlk,q1r];rw[q0k (by omega)];simp only[gS]
 ·simp only[q2u.next0,q2u.round0,evz,Nat.reduceLT,gAK]
 ·cases t.any fun n=>decide (n < -6) <;> rfl
open Classical in
noncomputable def q3b(l:List Symbol)(t:List Int):Tm:=if h:∃x:Tm,x.ok (ar l)/\t=x.flat then h.choose else .k 0
theorem q36{l:List Symbol}{t:List Int}(ok:SigOk ⟨l⟩)(h:TermOk l t):(q3b l t).ok (ar l)/\t=(q3b l t).flat:=by
 have:=h.tree ok;unfold q3b;rw[dif_pos this];exact this.choose_spec
section
variable (l:List Symbol)(z:Int)(tb:List (List Int))(vs t:List Int)(hs:l.length<=4294967296)(ht:sm 4294967296 tb)(hl:t.length<=4294967296)
include hs ht hl
end
theorem q83:∀l:List Int,q7w l=cells l
 |[]=>rfl
 |x::l=>by rw[q8c,<- q83 l];rfl
def qin(l:List Int):List Int:=l.mergeSort fun x y=>decide (x<=y)
theorem q7y(l:List Int)(h:l.length<=4294967296):LIM F.q7y [slc l]=some (.tup [],[slc (qin l)]):=by
 refine qfa (e:=sortE) rfl (Ev.of fun m=>?_);show((qci (cells l)).bind fun zs=>bif decide (zs.length<4611686018427387904)then some (T.tup [],[T.sl 1 (q7w (zs.mergeSort fun x y=>decide (x<=y)))])else none)=_;rw[<- q83,qam,Option.bind_some,decide_eq_true (by omega),cond_true,q83];rfl
theorem q6y(l:List Int)(h:l.length<=4294967296):Call F.q6y [slc l] (slc (Lib.compact l)):=by
 refine qfa (e:=compactE) rfl (Ev.of fun m=>?_);show((qci (cells l)).bind fun zs=>bif decide (zs.length<4611686018427387904)then some (T.sl 1 (q7w (Lib.compact zs)),[])else none)=_;rw[<- q83,qam,Option.bind_some,decide_eq_true (by omega),cond_true,q83];rfl
theorem qni{l:List Int}{x:Int}:x∈Lib.compact l<->x∈l:=by
 unfold Lib.compact Lib.compactUpTo;simp only[List.mem_map,List.mem_filter,List.mem_range];constructor
 ·rintro⟨j,⟨hj,_⟩,rfl⟩;rw[getElem!_pos _ j (by simpa using hj)];simp
 ·intro h;obtain⟨i,hi,rfl⟩:=List.mem_iff_getElem.1 h
  have:∀j,(hj:j<l.length)->∃k,(k<l.length/\Lib.keeps l.toArray k=true)/\l.toArray[k]! = l[j]:=by
   intro j;induction j with
   |zero=>intro hj;exact⟨0,⟨hj,by simp[Lib.keeps]⟩,by simp[hj]⟩
   |succ j ih=>
    intro hj;by_cases e:l[j+1]=l[j]
    ·obtain⟨k,hk,he⟩:=ih (by omega);exact⟨k,hk,by rw[he,e]⟩
    ·refine⟨j+1,⟨hj,?_⟩,by simp[hj]⟩;have hj':j<l.length:=by omega
     simp[Lib.keeps,hj,hj',e]
  exact this i hi
theorem qj3(l:List Int):(Lib.compact l).length<=l.length:=qi8 l
def vars(t:List Int):List Int:=(t.filter fun n=>decide (n<0)).map fun n => -1-n
theorem qpx{t:List Int}{v:Int}:v∈vars t<->0<=v/\(-1-v)∈t:=by
 unfold vars;simp only[List.mem_map,List.mem_filter,gS];constructor
 ·rintro⟨n,⟨hn,h0⟩,rfl⟩;exact⟨by omega,by rw[show -1-(-1-n)=n by omega];exact hn⟩
 ·rintro⟨h0,h⟩;exact⟨-1-v,⟨h,by omega⟩,by omega⟩
theorem qhg(t:List Int):(vars t).length<=t.length:=by
 unfold vars;rw[gAG];exact List.length_filter_le _ _
def qaz(l:List (List Int)):List Int:=Lib.compact (qin (l.flatMap vars))
theorem q9b{l:List (List Int)}{v:Int}:v∈qaz l<->0<=v/\∃t∈l,(-1-v)∈t:=by
 unfold qaz qin;rw[qni,List.mem_mergeSort,List.mem_flatMap];constructor
 ·rintro⟨t,ht,h⟩;obtain⟨h0,h1⟩:=qpx.1 h;exact⟨h0,t,ht,h1⟩
 ·rintro⟨h0,t,ht,h1⟩;exact⟨t,ht,qpx.2 ⟨h0,h1⟩⟩
theorem qc2:∀l:List (List Int),(l.flatMap vars).length<=(l.map List.length).sum
 |[]=>by simp
 |t::l=>by
  rw[gAN,gM,List.map_cons,List.sum_cons];have:=qhg t;have:=qc2 l;omega
theorem qeb(l:List (List Int)):(qaz l).length<=(l.map List.length).sum:=by
 unfold qaz;refine Nat.le_trans (qj3 _) ?_;unfold qin;rw[List.length_mergeSort];exact qc2 l
theorem q0y(l:List (List Int))(hl:l.length<=24)(ht:∀t∈l,t.length<=4294967296/\∀n∈t,-12<=n)(hsum:(l.map List.length).sum<=4294967296):Call F.q0y [slc l] (slc (qaz l)):=by
 obtain⟨N,hN⟩:∃N,N=4294967297:=⟨_,rfl⟩
 have inner:∀(L0:St->R)(x0:List T)(x1 x2:Int)(t:List Int),(∀n∈t,-12<=n)->∀m k (acc:List Int),k<=t.length->t.length<m+k->acc.length+t.length<=k+4294967296->t.length<=4294967296->
  q0y.at2 N L0 m (q0y.st2 x0 x1 x2 (cells t) t.length (k:Nat) (cells acc))=L0 (q0y.st0 x0 x1 (IntKind.wrap .i64 (x2+1)) (cells (acc++vars (t.drop k)))):=by
  intro L0 x0 x1 x2 t hn m;induction m with
  |zero=>intros;omega
  |succ m ih=>
   intro k acc hk hm hacc htl;by_cases h:k<t.length
   ·have hlk:t[k]?=some t[k]:=gA h;simp only[q0y.next2,q0y.round2,evz,Nat.reduceLT,h,hlk,q1r];rw[q0k (by omega),gH h];have hge:=hn t[k] (gG h);by_cases h0:t[k]<0
    ·have hble:Nat.ble (((cells acc).length+1)*8) (140737488355328*1)=true:=by
      rw[Nat.ble_eq,q0m,q3o];omega
     rw[q2y (by omega),q2w,hble,ih (k+1) (acc++[-1-t[k]]) (by omega) (by omega) (by rw[gM];simp;omega) htl];simp only[h0,evz,Nat.reduceLT,vars,List.filter_cons,List.map_cons,gZ,List.singleton_append]
    ·rw[ih (k+1) acc (by omega) (by omega) (by omega) htl];simp only[h0,evz,Nat.reduceLT,vars,List.filter_cons,Bool.false_eq_true]
   ·obtain rfl:k=t.length:=by omega
    simp only[q0y.next2,q0y.round2,evz,Nat.reduceLT,gAK,List.drop_length,vars,List.filter_nil,List.map_nil,gAD]
 have outer:∀m k (acc:List Int),k<=l.length->l.length<m+k->acc.length+((l.drop k).map List.length).sum<=4294967296->
  q0y.at0 N m (q0y.st0 (cells l) l.length (k:Nat) (cells acc))=some (slc (Lib.compact (qin (acc++(l.drop k).flatMap vars))),[]):=by
  intro m;induction m with
  |zero=>intros;omega
  |succ m ih=>
   intro k acc hk hm hacc;by_cases h:k<l.length
   ·have hlk:l[k]?=some l[k]:=gA h;obtain⟨q1,q2⟩:=ht l[k] (gG h);rw[gH h,List.map_cons,List.sum_cons]at hacc;simp only[q0y.next0,q0y.round0,evz,Nat.reduceLT,h,hlk,qbn];have hin:=inner (q0y.at0 N m) (cells l) l.length (k:Nat) l[k] q2 N 0 acc (by omega) (by omega) (by omega) q1;rw[List.drop_zero,q0k (by omega)]at hin;refine Eq.trans hin ?_;have:=qhg l[k];rw[ih (k+1) (acc++vars l[k]) (by omega) (by omega) (by rw[gM];omega),gH h,gAN,gZ]
   ·obtain rfl:k=l.length:=by omega
    rw[List.drop_length]at hacc ⊢;have hs:=q7y acc (by simpa using hacc);have hc:=q6y (qin acc) (by unfold qin;rw[List.length_mergeSort];simpa using hacc);simp only[q0y.next0,q0y.round0,evz,Nat.reduceLT,gAK,List.flatMap_nil,gAD];simp only[hs,hc.eq,evz,Nat.reduceLT]
 refine q0q rfl N ((q0y.ev _ _).trans ?_);have:=outer N 0 [] (by omega) (by omega) (by simpa using hsum);rw[List.drop_zero,List.nil_append]at this;simp only[q53,qow];exact this
def low6(t:List Int):Bool := !t.any fun n=>decide (n < -6)
theorem qdb{t:List Int}:low6 t=true<->∀n∈t,-6<=n:=by
 unfold low6;rw[Bool.not_eq_true',List.any_eq_false];constructor
 ·intro h n hn;have:=h n hn;simpa using this
 ·intro h n hn;simpa using h n hn
def q46(l:List Symbol)(e:Equation):Int:=
 if q3t l e.left≠0 then q3t l e.left else if q3t l e.right≠0 then q3t l e.right else if low6 e.left=true then(if low6 e.right=true then 0 else 3)else 3
def q7x(l:List Symbol)(es:List Equation):Int:=
 if 12<es.length then 2 else(es.findSome? fun e=>if q46 l e≠0 then some (q46 l e)else none).getD 0
def q9e(e:Equation):Bool:=decide (0<=e.left.headD 0) && !e.right.any fun n=>decide (n<0/\n∉e.left)
def q8n(l:List Symbol)(es:List Equation):Int:=if q7x l es≠0 then q7x l es else if(es.any fun e=>!q9e e)=true then 1 else 0
def q4i(s:Signature)(es:List Equation):Int:=if q3y s≠0 then q3y s else q8n s.symbols es
structure EqOk(l:List Symbol)(e:Equation):Prop where
 left:TermOk l e.left
 right:TermOk l e.right
 lowL:∀n∈e.left,-6<=n
 lowR:∀n∈e.right,-6<=n
theorem qkz{l:List Symbol}{e:Equation}:q46 l e=0<->EqOk l e:=by
 unfold q46;constructor
 ·intro h;by_cases h1:q3t l e.left=0
  ·by_cases h2:q3t l e.right=0
   ·by_cases h3:low6 e.left=true
    ·by_cases h4:low6 e.right=true
     ·exact⟨(q5w _ _).1 h1,(q5w _ _).1 h2,qdb.1 h3,qdb.1 h4⟩
     ·simp[h1,h2,h3,h4]at h
    ·simp[h1,h2,h3]at h
   ·simp[h1,h2]at h
  ·simp[h1]at h
 ·intro h;simp[(q5w _ _).2 h.left,(q5w _ _).2 h.right,qdb.2 h.lowL,qdb.2 h.lowR]
theorem q9f{l:List Symbol}{es:List Equation}:q7x l es=0<->es.length<=12/\∀e∈es,EqOk l e:=by
 unfold q7x;by_cases h:12<es.length
 ·rw[if_pos h];constructor
  ·intro h;cases h
  ·intro h';omega
 ·rw[if_neg h]
  have:(es.findSome? fun e=>if q46 l e≠0 then some (q46 l e)else none).getD 0=0<->∀e∈es,q46 l e=0:=by
   cases hf:es.findSome? fun e=>if q46 l e≠0 then some (q46 l e)else none with
   |none=>
    rw[q9v]at hf;refine⟨fun _ e he=>?_,fun _=>rfl⟩;have:=hf e he;by_cases h:q46 l e=0
    ·exact h
    ·simp[h]at this
   |some c=>
    obtain⟨e,he,h1⟩:=List.exists_of_findSome?_eq_some hf;by_cases h:q46 l e=0
    ·simp[h]at h1
    ·simp[h]at h1;subst h1;exact⟨fun h'=>absurd h' h,fun h'=>absurd (h' e he) h⟩
  rw[this];constructor
  ·intro h';exact⟨by omega,fun e he=>qkz.1 (h' e he)⟩
  ·intro h' e he;exact qkz.2 (h'.2 e he)
theorem TermOk.ge{l:List Symbol}{t:List Int}(h:TermOk l t):∀n∈t,-12<=n:=fun n hn=>by
 rcases q4j.1 (h.node n hn)with h|h <;> omega
theorem q1h(l:List Int)(x:Int)(hl:l.length<=4294967296):Call F.q1h [slc l,.int .i64 x] (.bool (decide (x∈l))):=by
 have hi:Call F.q0d [slc l,.int .i64 x] (.int .i64 (idx (fun y=>decide (x=y)) l)):=by
  refine q0q rfl (l.length+1) ((q0d.ev _ _ _).trans ?_);simp only[evz,Nat.reduceLT];refine q8e (S:=fun m k=>q0d.at0 (l.length+1) m (q0d.st0 (cells l) x l.length (k:Nat))) (fun m k h=>?_) (fun m=>?_) (gAR _)
  ·have hlk:l[k]?=some l[k]:=gA h;simp only[q0d.next0,q0d.round0,evz,Nat.reduceLT,h,hlk,q1r];rw[q0k (by omega)];by_cases e:x=l[k] <;> simp[e]
  ·simp only[q0d.next0,q0d.round0,evz,Nat.reduceLT,gAK]
 refine q0q rfl 0 ((q1h.ev _ _ _).trans ?_);simp only[evz,Nat.reduceLT,hi.eq,q8v]
 have:(l.any fun y=>decide (x=y))=decide (x∈l):=by
  rw[Bool.eq_iff_iff,List.any_eq_true,gS];constructor
  ·rintro⟨y,hy,h⟩;rw[gS]at h;rw[h];exact hy
  ·intro h;exact⟨x,h,by simp⟩
 rw[this]
theorem q3j(t:List Int)(hs:t.length<=4294967296) :
 Call F.q2h [slc t,.clo F.q37 []] (.bool (t.any fun n=>decide (n>=6))):=by
 have hi:Call F.q0o [slc t,.clo F.q37 []] (.int .i64 (idx (fun n=>decide (n>=6)) t)):=by
  refine q0q rfl (t.length+1) ((q07.ev _ _).trans ?_);refine q8e (S:=fun m k=>q07.at0 (t.length+1) m (q07.st0 (cells t) _ (k:Nat))) (fun m k h=>?_) (fun m=>?_) (gAR _)
  ·have hlk:t[k]?=some t[k]:=gA h;have hc:Call F.q37 [.int .i64 t[k]] (.bool (decide (t[k]>=6))):=q0q rfl 0 (q37.ev _ _);simp only[q07.next0,q07.round0,evz,Nat.reduceLT,h,hlk,q1r,hc.eq];rw[q0k (by omega)];by_cases e:t[k]>=6 <;> simp[e]
  ·simp only[q07.next0,q07.round0,evz,Nat.reduceLT,gAK]
 refine q0q rfl 0 ((q3j.ev _ _).trans ?_);simp only[evz,Nat.reduceLT,hi.eq,q8v]
theorem q55(l:List Symbol)(hs:l.length<=4294967296)(a b:List Int)(ha:a.length<=4294967296)(hb:b.length<=4294967296) :
 Call F.q55 [.agg [slc l],.agg [slc a,slc b]] (.int .i64 (if q3y ⟨l⟩≠0 then q3y ⟨l⟩else q46 l ⟨a,b⟩)):=by
 refine q0q rfl 0 ((q55.ev _ _ _ _).trans ?_);simp only[evz,Nat.reduceLT,(q4x l hs a ha).eq,(q4x l hs b hb).eq,(qcj _ _).eq,q6j,q46];by_cases h1:q3y ⟨l⟩=0
 case neg=>simp only[h1,evz,Nat.reduceLT,ne_eq,gX]
 simp only[h1,evz,Nat.reduceLT,ne_eq,gW];by_cases h2:q3t l a=0
 case neg=>simp only[h2,evz,Nat.reduceLT,gX]
 by_cases h3:q3t l b=0
 case neg=>simp only[h2,h3,evz,Nat.reduceLT,gW,gX]
 have ta:=(q5w l a).1 h2;have tb:=(q5w l b).1 h3;have hal:=ta.le;have hbl:=tb.le
 have hv:=q0y [a,b] (by simp) (fun t ht=>by
  simp only[gK,List.not_mem_nil,or_false]at ht;rcases ht with rfl|rfl
  ·exact⟨ha,ta.ge⟩
  ·exact⟨hb,tb.ge⟩) (by simp;omega)
 have hvl:=qeb [a,b];have hc:=q3j (qaz [a,b]) (by simp at hvl;omega);simp only[h2,h3,evz,Nat.reduceLT,gW,show LIM F.q0y [.sl 1 [slc a,slc b]]=_ from hv,hc.eq]
 have e1:((qaz [a,b]).any fun n=>decide (n>=6)) = !(low6 a&&low6 b):=by
  rw[Bool.eq_iff_iff,List.any_eq_true,Bool.not_eq_true',Bool.eq_false_iff,ne_eq,gC,qdb,qdb];constructor
  ·rintro⟨v,hv,h6⟩ ⟨q1,q2⟩;rw[gS]at h6;obtain⟨_,t,ht,hm⟩:=q9b.1 hv;simp only[gK,List.not_mem_nil,or_false]at ht;rcases ht with rfl|rfl
   ·have:=q1 _ hm;omega
   ·have:=q2 _ hm;omega
  ·intro h;by_cases q1:∀n∈a,-6<=n
   ·have q2:¬ ∀n∈b,-6<=n:=fun q2=>h ⟨q1,q2⟩;simp only[Classical.not_forall]at q2;obtain⟨n,hn,hlt⟩:=q2;exact⟨-1-n,q9b.2 ⟨by omega,b,by simp,by rw[show -1-(-1-n)=n by omega];exact hn⟩,by simp;omega⟩
   ·simp only[Classical.not_forall]at q1;obtain⟨n,hn,hlt⟩:=q1;exact⟨-1-n,q9b.2 ⟨by omega,a,by simp,by rw[show -1-(-1-n)=n by omega];exact hn⟩,by simp;omega⟩
 rw[e1];cases low6 a <;> cases low6 b <;> rfl
theorem q6e(l:List Symbol)(ok:SigOk ⟨l⟩)(a b:List Int)(ha:a.length<=4294967296)(hb:b.length<=4294967296) :
 Call F.q6e [.rref [slc l] 0,.rref [slc a,slc b] 0] (.int .i64 (q46 l ⟨a,b⟩)):=by
 have la:Call F.q2u [slc a] (.bool (low6 a)):=q2u a ha;have lb:Call F.q2u [slc b] (.bool (low6 b)):=q2u b hb;refine q0q rfl 0 ((q6e.ev _ _ _ _).trans ?_);simp only[evz,Nat.reduceLT,(q16 l ok a ha).eq,(q16 l ok b hb).eq,la.eq,lb.eq,q46];by_cases h2:q3t l a=0
 case neg=>simp only[h2,evz,Nat.reduceLT,ne_eq,gX]
 by_cases h3:q3t l b=0
 case neg=>simp only[h2,h3,evz,Nat.reduceLT,ne_eq,gW,gX]
 simp only[h2,h3,evz,Nat.reduceLT,ne_eq,gW];cases low6 a <;> cases low6 b <;> rfl
theorem qvy{es:List Equation}{k:Nat}(he:sm 4294967296 es)(h:k<es.length):es[k].left.length<=4294967296/\es[k].right.length<=4294967296:=by
 have:=he.2 es[k] (gG h);exact⟨this.1.1,this.2.1⟩
theorem q0u(l:List Symbol)(hs:l.length<=4294967296)(es:List Equation)(he:sm 4294967296 es) :
 Call F.q0u [.agg [slc l],slc es] (.int .i64 (if q3y ⟨l⟩≠0 then q3y ⟨l⟩else q7x l es)):=by
 refine q0q rfl (es.length+1) ((q0u.ev _ _ _).trans ?_);simp only[evz,Nat.reduceLT,(q06 l hs).eq,q7x,gt_iff_lt];by_cases h1:q3y ⟨l⟩=0
 case neg=>simp only[h1,evz,Nat.reduceLT,ne_eq,gX]
 by_cases h2:12<es.length
 ·have h2':(12:Int)<es.length:=by omega
  simp only[h1,h2,h2',evz,Nat.reduceLT,ne_eq,gW]
 have h2':¬(12:Int)<es.length:=by omega
 simp only[h1,h2,h2',evz,Nat.reduceLT,ne_eq,gW]
 refine(qb3 (l:=es) (g:=fun e=>if q46 l e≠0 then some (some (.int .i64 (q46 l e),[]))else none) (z:=some (.int .i64 0,[])) (S:=fun m k=>q0u.at0 (es.length+1) m (q0u.st0 (cells es) es.length (k:Nat) (cells l)))
  (fun m k h=>?_) (fun m=>?_) (gAR _)).trans ?_
 ·have hlk:es[k]?=some es[k]:=gA h;obtain⟨q1,q2⟩:=qvy he h;have hc:=q55 l hs es[k].left es[k].right q1 q2;rw[if_neg (by simpa using h1)]at hc;simp only[q0u.next0,q0u.round0,evz,Nat.reduceLT,h,hlk,q3w,hc.eq];rw[q0k (by omega)];by_cases e:q46 l es[k]=0
  ·simp[e]
  ·simp[e]
 ·simp only[q0u.next0,q0u.round0,evz,Nat.reduceLT,gAK]
 ·have:=q9i (fun e=>if q46 l e≠0 then some (q46 l e)else none) (fun n=>(some (T.int .i64 n,[]):R)) es;rw[show(fun e=>(if q46 l e≠0 then some (q46 l e)else none).map fun n=>(some (T.int .i64 n,[]):R))=fun e=>if q46 l e≠0 then some (some (T.int .i64 (q46 l e),[]))else none from funext fun e=>by by_cases h:q46 l e=0 <;> simp[h]]at this;rw[this];cases es.findSome? fun e=>if q46 l e≠0 then some (q46 l e)else none <;> rfl
theorem q1y(l:List Symbol)(ok:SigOk ⟨l⟩)(es:List Equation)(he:sm 4294967296 es):Call F.q1y [.rref [slc l] 0,slc es] (.int .i64 (q7x l es)):=by
 refine q0q rfl (es.length+1) ((q1y.ev _ _ _).trans ?_);simp only[evz,Nat.reduceLT,q7x,gt_iff_lt];by_cases h2:12<es.length
 ·have h2':(12:Int)<es.length:=by omega
  simp only[h2,h2',evz,Nat.reduceLT]
 have h2':¬(12:Int)<es.length:=by omega
 simp only[h2,h2',evz,Nat.reduceLT]
 refine(qb3 (l:=es) (g:=fun e=>if q46 l e≠0 then some (some (.int .i64 (q46 l e),[]))else none) (z:=some (.int .i64 0,[])) (S:=fun m k=>q1y.at0 (es.length+1) m (q1y.st0 (cells l) (cells es) (k:Nat)))
  (fun m k h=>?_) (fun m=>?_) (gAR _)).trans ?_
 ·have hlk:es[k]?=some es[k]:=gA h;obtain⟨q1,q2⟩:=qvy he h;have hc:=q6e l ok es[k].left es[k].right q1 q2;simp only[q1y.next0,q1y.round0,evz,Nat.reduceLT,h,hlk,q89 q49 hlk,q3w,hc.eq];rw[q0k (by omega)];by_cases e:q46 l es[k]=0
  ·simp[e]
  ·simp[e]
 ·simp only[q1y.next0,q1y.round0,evz,Nat.reduceLT,gAK]
 ·have:=q9i (fun e=>if q46 l e≠0 then some (q46 l e)else none) (fun n=>(some (T.int .i64 n,[]):R)) es;rw[show(fun e=>(if q46 l e≠0 then some (q46 l e)else none).map fun n=>(some (T.int .i64 n,[]):R))=fun e=>if q46 l e≠0 then some (some (T.int .i64 (q46 l e),[]))else none from funext fun e=>by by_cases h:q46 l e=0 <;> simp[h]]at this;rw[this];cases es.findSome? fun e=>if q46 l e≠0 then some (q46 l e)else none <;> rfl
theorem q20(l r:List Int)(hs:sm 4294967296 l):Call F.q20 [slc l,slc r] (.bool (decide (l=r))):=by
 refine q0q rfl (l.length+1) ((q20.ev _ _ _).trans ?_);simp only[q53,q3o];by_cases hl:l.length=r.length
 ·have loop:=qtj hl (S:=fun m k=>q20.at0 (l.length+1) m (q20.st0 (cells l) (cells r) (k:Nat)))
   (fun m k h h'=>by
    have hlk:l[k]?=some l[k]:=gA h;have hrk:r[k]?=some r[k]:=gA h';simp only[q20.next0,q20.round0,evz,Nat.reduceLT,h,h',hlk,hrk,q89 (l:=l) q3o hlk,q89 (l:=r) q3o hrk,q1r,qk6];rw[q0k (by have:=hs.1;omega)])
   (fun m=>by
    simp only[q20.next0,q20.round0,evz,Nat.reduceLT,gAK])
  rw[qgg (by rw[hl];exact bne_self_eq_false _)];exact loop
 ·rw[q1o (by simp;omega)];simp only[show(l=r)=False from eq_false fun e=>hl (e▸rfl),decide_false]
theorem q0p(l r:List Int)(hs:sm 4294967296 l):Call F.q0p [slc l,slc r] (.bool (decide (l=r))):=by
 refine q0q rfl (l.length+1) ((q0p.ev _ _ _).trans ?_);simp only[q53,q3o];by_cases hl:l.length=r.length
 ·have loop:=qtj hl (S:=fun m k=>q0p.at0 (l.length+1) m (q0p.st0 (cells l) (cells r) l.length (k:Nat)))
   (fun m k h h'=>by
    have hlk:l[k]?=some l[k]:=gA h;have hrk:r[k]?=some r[k]:=gA h';simp only[q0p.next0,q0p.round0,evz,Nat.reduceLT,h,h',hlk,hrk,q89 (l:=l) q3o hlk,q89 (l:=r) q3o hrk,q1r,qk6];rw[q0k (by have:=hs.1;omega)])
   (fun m=>by
    simp only[q0p.next0,q0p.round0,evz,Nat.reduceLT,gAK])
  rw[qgg (by rw[hl];exact bne_self_eq_false _)];exact loop
 ·rw[q1o (by simp;omega)];simp only[show(l=r)=False from eq_false fun e=>hl (e▸rfl),decide_false]
theorem qr3(a b:Int):Call F.q7d [.sl 1 [.int .i64 a,.int .i64 b]] (.int .i64 (if a=0 then b else a)):=qcj a b
theorem qdc{a:Int->Nat}:∀{t r:List Int}{k p:Nat},skip a k t=some r->p+r.length<t.length->∃q,skip a 1 (t.drop p)=some q
 |[],r,k,p,h,hp=>by simp at hp
 |n::t,r,0,p,h,hp=>by
  rw[q45]at h;cases h;omega
 |n::t,r,k+1,0,h,hp=>by
  rw[show k+1=1+k by omega,qaf]at h;cases h1:skip a 1 (n::t)with
  |none=>rw[h1]at h;cases h
  |some q=>exact⟨q,by simpa using h1⟩
 |n::t,r,k+1,p+1,h,hp=>by
  rw[skip]at h;obtain⟨q,hq⟩:=qdc (p:=p) h (by simp at hp;omega);exact⟨q,by simpa using hq⟩
def q3v(l:List Symbol)(t:List Int)(p:Nat):Nat:=match skip (ar l) 1 (t.drop p)with
 |some r=>t.length-r.length
 |none=>t.length
theorem q3n{l:List Symbol}{t:List Int}(ok:TermOk l t){p:Nat}(hp:p<t.length) :
 p<q3v l t p/\q3v l t p<=t.length/\∀z,q9o z t (skip (ar l) 1 (t.drop p))=(q3v l t p:Nat):=by
 obtain⟨q,hq⟩:=qdc (p:=p) ok.skip (by simpa using hp);have h:=qh7 hq;unfold q3v;rw[hq];refine⟨?_,by simp only;omega,fun z=>rfl⟩;have:=h.2.2 (by omega);simp only;omega
section
variable {l:List Symbol}(ok:SigOk ⟨l⟩)
include ok
theorem qeq{t:List Int}(ht:TermOk l t){p:Nat}(hp:p<t.length):Call F.q2m [.agg [slc l],slc t,.int .i64 p] (.int .i64 (q3v l t p:Nat)):=by
 have h:=q2m ok t ht.node (by have:=ht.le;omega) p (Nat.le_of_lt hp);rwa[(q3n ht hp).2.2]at h
theorem q9c{t:List Int}(ht:TermOk l t){p:Nat}(hp:p<t.length):Call F.q28 [.rref [slc l] 0,slc t,.int .i64 p] (.int .i64 (q3v l t p:Nat)):=by
 have h:=q28 ok t ht.node (by have:=ht.le;omega) p (Nat.le_of_lt hp);rwa[(q3n ht hp).2.2]at h
end
theorem qhv(t:List Int)(i j:Nat):((cells t).take (j*1)).drop (i*1)=cells ((t.take j).drop i):=by
 rw[q9a t 1 j rfl,q9z _ 1 i rfl]
def q1i(l:List Symbol)(t:List Int)(p:Nat):List Int:=(t.take (q3v l t p)).drop p
theorem qbi(t:List Int)(i j:Nat):T.sl 1 (((cells t).take (j*1)).drop (i*1))=slc ((t.take j).drop i):=by rw[qhv];rfl
theorem q5e (l:List Int)(h:l.length<=4294967296):Call F.q31 [slc l] (slc l):=by
 refine q0q rfl 0 ((q31.ev _ _).trans ?_);rw[q4t,q1o rfl,q1o (q41 (by rw[q0m,q3o];omega))];rfl
theorem q2v(l:List Int)(h:l.length<=4294967296):Call F.q2v [slc l] (slc l):=by
 refine qfa (e:=cloneE) rfl (Ev.of fun m=>?_);show(qci (cells l)).bind _=_;rw[<- q83,qam];show(bif _ then _ else _)=_;rw[q1o (by rw[decide_eq_true_iff];omega),q83];rfl
section
variable {l:List Symbol}(ok:SigOk ⟨l⟩)
include ok
theorem q35{t:List Int}(ht:TermOk l t){p:Nat}(hp:p<t.length):Call F.q35 [.agg [slc l],slc t,.int .i64 p] (slc (q1i l t p)):=by
 refine q0q rfl 0 ((q35.ev _ _ _ _).trans ?_);obtain⟨h1,h2,_⟩:=q3n ht hp;simp only[evz,Nat.reduceLT,(qeq ok ht hp).eq];rw[q1o (by simp;omega),qbi];rfl
theorem q6g{t:List Int}(ht:TermOk l t){p:Nat}(hp:p<t.length):Call F.q6g [.rref [slc l] 0,slc t,.int .i64 p] (slc (q1i l t p)):=by
 refine q0q rfl 0 ((q6g.ev _ _ _ _).trans ?_);obtain⟨h1,h2,_⟩:=q3n ht hp;have hle:=ht.le;simp only[evz,Nat.reduceLT,(q9c ok ht hp).eq];rw[q1o (by simp;omega),qbi,(q5e _ (by simp;omega)).eq];simp only[evz,Nat.reduceLT];rfl
def q42(l:List Symbol)(t:List Int)(p:Nat)(by_:List Int):List Int:=(t.take p++by_)++t.drop (q3v l t p)
theorem q66{t:List Int}(ht:TermOk l t){p:Nat}(hp:p<t.length)(by_:List Int)(hb:by_.length<=1048576):Call F.q66 [.agg [slc l],slc t,.int .i64 p,slc by_] (slc (q42 l t p by_)):=by
 refine q0q rfl 0 ((q66.ev _ _ _ _ _).trans ?_);obtain⟨h1,h2,_⟩:=q3n ht hp;have hle:=ht.le;simp only[q53,q3o,gR];rw[q1o (by simp;omega),qbi,(q2v _ (by simp;omega)).eq];simp only[evz,Nat.reduceLT,q4t,(qeq ok ht hp).eq,qhv,<- q2s,q53,q3o,gR];rw[q1o (q41 (by rw[q0m,q0m,q3o];simp;omega)),q1o (by simp;omega),q1o (q41 (by rw[q0m,q0m,q3o];simp;omega))];simp[q42,slc]
theorem q4v{t:List Int}(ht:TermOk l t){p:Nat}(hp:p<t.length)(by_:List Int)(hb:by_.length<=1048576):Call F.q4v [.rref [slc l] 0,slc t,.int .i64 p,slc by_] (slc (q42 l t p by_)):=by
 refine q0q rfl 0 ((q4v.ev _ _ _ _ _).trans ?_);obtain⟨h1,h2,_⟩:=q3n ht hp;have hle:=ht.le;simp only[q53,q3o,gR];rw[q1o (by simp;omega),qbi,(q5e _ (by simp;omega)).eq];simp only[evz,Nat.reduceLT,q4t,(q9c ok ht hp).eq,qhv,<- q2s,q53,q3o,gR];rw[q1o (q41 (by rw[q0m,q0m,q3o];simp;omega)),q1o (by simp;omega),q1o (q41 (by rw[q0m,q0m,q3o];simp;omega))];simp[q42,slc]
end
theorem qeo{l:List Symbol}{t:List Int}{p:Nat}{by_:List Int}:(q42 l t p by_).length<=t.length+by_.length+t.length:=by simp[q42];omega
def q3i(vs:List Int)(ts:List (List Int))(v:Int):Option (List Int):=if idx (fun x=>decide (x=v)) vs<0 then none else ts[(idx (fun x=>decide (x=v)) vs).toNat]?
theorem q0d(l:List Int)(x:Int)(hl:l.length<=4294967296):Call F.q0d [slc l,.int .i64 x] (.int .i64 (idx (fun y=>decide (y=x)) l)):=by
 refine q0q rfl (l.length+1) ((q0d.ev _ _ _).trans ?_);simp only[evz,Nat.reduceLT];refine q8e (S:=fun m k=>q0d.at0 (l.length+1) m (q0d.st0 (cells l) x l.length (k:Nat))) (fun m k h=>?_) (fun m=>?_) (gAR _)
 ·have hlk:l[k]?=some l[k]:=gA h;simp only[q0d.next0,q0d.round0,evz,Nat.reduceLT,h,hlk,q1r];rw[q0k (by omega)];by_cases e:x=l[k]
  ·simp[e]
  ·have e':¬ l[k]=x:=fun h=>e h.symm;simp[e,e']
 ·simp only[q0d.next0,q0d.round0,evz,Nat.reduceLT,gAK]
def ofT:Option (List Int)->T
 |some t=>.tup [slc t,.bool true]
 |none=>.tup [slc ([]:List Int),.bool false]
theorem q59(vs:List Int)(ts:List (List Int))(v:Int)(hl:vs.length=ts.length)(hs:vs.length<=4294967296):Call F.q59 [.agg [slc vs,slc ts],.int .i64 v] (ofT (q3i vs ts v)):=by
 refine q0q rfl 0 ((q59.ev _ _ _ _).trans ?_);simp only[evz,Nat.reduceLT,(q0d vs v hs).eq,q3i];rcases q6s (fun x:Int=>decide (x=v)) vs with⟨h,_⟩|⟨i,hi,h,_,_⟩
 ·simp only[h,evz,Nat.reduceLT,ofT,q65,show((-1:Int)<0)=True from by simp]
 ·have hn:¬((i:Nat):Int)<0:=by omega
  have hit:i<ts.length:=by omega
  simp only[h,hn,evz,Nat.reduceLT,hit,gA,qbn,ofT]
theorem q2i(vs:List Int)(ts:List (List Int))(v:Int)(hl:vs.length=ts.length)(hs:vs.length<=4294967296):Call F.q2i [.rref [slc vs,slc ts] 0,.int .i64 v] (slc ((q3i vs ts v).getD [])):=by
 refine q0q rfl (vs.length+1) ((q2i.ev _ _ _ _).trans ?_)
 have loop:=qb3 (l:=List.range vs.length) (g:=fun k=>if vs[k]?=some v then some (some (slc (ts[k]?.getD []),[]))else none) (z:=some (slc ([]:List Int),[]))
  (S:=fun m k=>q2i.at0 (vs.length+1) m (q2i.st0 (cells vs) (cells ts) v (k:Nat))) (fun m k h=>?_) (fun m=>?_) (f:=vs.length+1) (by simp)
 ·refine loop.trans ?_;unfold q3i;rcases q6s (fun x:Int=>decide (x=v)) vs with⟨h,hno⟩|⟨i,hi,h,hyes,hno⟩
  ·rw[h,if_pos (by omega)]
   have:(List.range vs.length).findSome? (fun k=>if vs[k]?=some v then some ((some (slc (ts[k]?.getD []),[]):R))else none)=none:=by
    rw[List.findSome?_eq_none_iff];intro k hk;rw[List.mem_range]at hk;rw[if_neg];rw[gA hk];intro e;have:=hno _ (gG hk);simp at this e;exact this e
   rw[this];rfl
  ·rw[h,if_neg (by omega)];have hit:i<ts.length:=by omega
   have:(List.range vs.length).findSome? (fun k=>if vs[k]?=some v then some ((some (slc (ts[k]?.getD []),[]):R))else none)=some (some (slc ts[i],[])):=by
    rw[List.findSome?_eq_some_iff];refine⟨List.range i,i,(List.range' (i+1) (vs.length-i-1)),?_,?_,?_⟩
    ·rw[List.range_eq_range',List.range_eq_range',<- List.range'_succ,show vs.length-i-1+1=vs.length-i by omega];have:=List.range'_append (s:=0) (m:=i) (n:=vs.length-i) (step:=1);simp only[Nat.one_mul,gAJ]at this;rw[this,Nat.add_sub_cancel' (Nat.le_of_lt hi)]
    ·have e1:vs[i]?=some v:=(gA hi).trans (congrArg some (gAH hyes));have e2:ts[i]?=some ts[i]:=gA hit;simp only[e1,e2,if_true,Option.getD_some]
    ·intro k hk;rw[List.mem_range]at hk;rw[if_neg];rw[gA (by omega)];intro e;have:=hno k hk;simp at this e;exact this e
   rw[this,gR,gA hit];rfl
 ·rw[List.length_range]at h;have hlk:vs[k]?=some vs[k]:=gA h;have hkt:k<ts.length:=by omega
  simp only[q2i.next0,q2i.round0,evz,Nat.reduceLT,h,hkt,hlk,gA,q1r,qbn,List.getElem_range,Option.getD_some,Option.some.injEq];rw[q0k (by omega)];by_cases e:vs[k]=v <;> simp[e]
 ·rw[List.length_range];simp only[q2i.next0,q2i.round0,evz,Nat.reduceLT,gAK,q65]
def q02(vs:List Int)(ts:List (List Int))(t:List Int):List Int:=t.flatMap fun n=>(q3i vs ts (-1-n)).getD [n]
structure BindOk(vs:List Int)(ts:List (List Int)):Prop where
 len:vs.length=ts.length
 le:vs.length<=1000
 nn:∀v∈vs,0<=v
 tm:∀t∈ts,1<=t.length/\t.length<=4096
theorem qcv{vs:List Int}{ts:List (List Int)}(ok:BindOk vs ts){v:Int}(hv:v<0):q3i vs ts v=none:=by
 unfold q3i;rcases q6s (fun x:Int=>decide (x=v)) vs with⟨h,_⟩|⟨i,hi,h,hy,_⟩
 ·rw[if_pos (by omega)]
 ·have:=ok.nn _ (gG hi);simp at hy;omega
theorem q6h{vs:List Int}{ts:List (List Int)}{v:Int}{t:List Int}(h:q3i vs ts v=some t):t∈ts:=by
 unfold q3i at h;split at h
 ·cases h
 ·exact List.mem_of_getElem? h
def qaw(vs:List Int)(ts:List (List Int))(o:List Int)(n:Int):List Int:=o++(q3i vs ts (-1-n)).getD [n]
theorem qgm(vs:List Int)(ts:List (List Int)):∀(t o:List Int),t.foldl (qaw vs ts) o=o++q02 vs ts t
 |[],o=>by simp[q02]
 |n::t,o=>by
  rw[List.foldl_cons,qgm vs ts t];simp[qaw,q02]
def appI(k:Nat)(o:List Int):Prop:=o.length<=k*4096
theorem qi1{vs:List Int}{ts:List (List Int)}(ok:BindOk vs ts){k:Nat}{o:List Int}{n:Int}(h:appI k o):appI (k+1) (qaw vs ts o n):=by
 unfold appI qaw at *;rw[gM];cases hb:q3i vs ts (-1-n)with
 |none=>simp;omega
 |some t=>have:=(ok.tm t (q6h hb)).2;simp;omega
theorem q7e{vs:List Int}{ts:List (List Int)}(ok:BindOk vs ts)(t:List Int):(q02 vs ts t).length<=t.length*4096:=by
 have:=quc (l:=t) (g:=qaw vs ts) appI (fun k o _ h=>qi1 ok h) [] (by simp[appI]);rw[qgm]at this;simpa[appI]using this
theorem q0i(vs:List Int)(ts:List (List Int))(ok:BindOk vs ts)(t:List Int)(ht:t.length<=4096)(hr:∀n∈t,-4611686018427387904<=n/\n<=4611686018427387904):Call F.q0i [.agg [slc vs,slc ts],slc t] (slc (q02 vs ts t)):=by
 have hle:=ok.le;refine q0q rfl (t.length+1) ((q0i.ev _ _ _ _).trans ?_);simp only[q53,q3o]
 have key:=qm7 (l:=t) (f:=t.length+1) (S:=fun m k (o:List Int)=>q0i.at0 (t.length+1) m (q0i.st0 (cells t) t.length (k:Nat) (cells vs) (cells ts) (cells o))) (g:=qaw vs ts) (z:=fun(o:List Int)=>some (slc o,[])) appI
  (fun m k o h ho=>?_) (fun k o h ho=>qi1 ok ho) (fun m o ho=>?_) [] (by simp[appI]) (by omega)
 ·rw[qgm]at key;exact key
 ·have hn:=hr _ (gG h);have ho:o.length<=k*4096:=ho;simp only[q0i.next0,q0i.round0,evz,Nat.reduceLT,h,gA,q1r,q2y (x := -1-t[k]) (by omega),(q59 vs ts (-1-t[k]) ok.len (by omega)).eq,qaw];cases hb:q3i vs ts (-1-t[k])with
  |none=>
   simp only[ofT,evz,Nat.reduceLT,q4t,Option.getD_none,<- q2s];rw[q1o (q41 (by rw[q0m,q3o];omega)),q2w,q0k (by omega)]
  |some x=>
   have hx:=(ok.tm x (q6h hb)).2;simp only[ofT,evz,Nat.reduceLT,q4t,Option.getD_some,<- q2s];rw[q1o (q41 (by rw[q0m,q0m,q3o];omega)),q0k (by omega)]
 ·simp only[q0i.next0,q0i.round0,evz,Nat.reduceLT,gAK]
theorem q1b(vs:List Int)(ts:List (List Int))(ok:BindOk vs ts)(t:List Int)(ht:t.length<=4096)(hr:∀n∈t,-4611686018427387904<=n/\n<=4611686018427387904):Call F.q1b [.rref [slc vs,slc ts] 0,slc t] (slc (q02 vs ts t)):=by
 have hle:=ok.le;refine q0q rfl (t.length+1) ((q1b.ev _ _ _ _).trans ?_)
 have key:=qm7 (l:=t) (f:=t.length+1) (S:=fun m k (o:List Int)=>q1b.at0 (t.length+1) m (q1b.st0 (cells vs) (cells ts) (cells t) (k:Nat) (cells o))) (g:=qaw vs ts) (z:=fun(o:List Int)=>some (slc o,[])) appI
  (fun m k o h ho=>?_) (fun k o h ho=>qi1 ok ho) (fun m o ho=>?_) [] (by simp[appI]) (by omega)
 ·rw[qgm]at key;exact key
 ·have hn:=hr _ (gG h);have ho:o.length<=k*4096:=ho;by_cases hneg:t[k]<0
  ·simp only[q1b.next0,q1b.round0,evz,Nat.reduceLT,h,gA,q1r,hneg,q2y (x := -1-t[k]) (by omega),(q2i vs ts (-1-t[k]) ok.len (by omega)).eq,qaw];cases hb:q3i vs ts (-1-t[k])with
   |none=>
    simp only[q65,evz,Nat.reduceLT,List.all_nil,Option.getD_none,qf0,List.length_nil,<- q2s,Int.natCast_zero,Nat.zero_div,Int.ofNat_zero];rw[q1o (q41 (by rw[q0m,q3o];omega)),q2w,q0k (by omega)]
   |some x=>
    have hx:=ok.tm x (q6h hb);have hx0:¬((x.length:Int)=0):=by omega
    simp only[evz,Nat.reduceLT,q4t,Option.getD_some,hx0,<- q2s];rw[q1o (q41 (by rw[q0m,q0m,q3o];omega)),q0k (by omega)]
  ·simp only[q1b.next0,q1b.round0,evz,Nat.reduceLT,h,gA,q1r,hneg,qaw,qcv ok (v := -1-t[k]) (by omega),Option.getD_none];rw[q1o (q41 (by rw[q0m,q3o];omega)),q2w,q0k (by omega)]
 ·simp only[q1b.next0,q1b.round0,evz,Nat.reduceLT,gAK]
theorem q6v{vs:List Int}{k:Nat}(h:k<vs.length):vs.getD k 0=vs[k]:=by rw[gI,gA h];rfl
theorem q47(t v:List Int)(hs:t.length<=4294967296)(hv:v.length<=4294967296) :
 Call F.q2h [slc t,.clo F.q4z [.rref [slc v] 0]] (.bool (t.any fun n=>decide (n∉v))):=by
 have hi:Call F.q0o [slc t,.clo F.q4z [.rref [slc v] 0]] (.int .i64 (idx (fun n=>decide (n∉v)) t)):=by
  refine q0q rfl (t.length+1) ((q0e.ev _ _ _).trans ?_);refine q8e (S:=fun m k=>q0e.at0 (t.length+1) m (q0e.st0 (cells t) _ _ (k:Nat))) (fun m k h=>?_) (fun m=>?_) (gAR _)
  ·have hlk:t[k]?=some t[k]:=gA h
   have hc:Call F.q4z [.int .i64 t[k],.rref [slc v] 0] (.bool (decide (t[k]∉v))):=by
    refine q0q rfl 0 ((q4z.ev _ _ _).trans ?_);simp only[evz,Nat.reduceLT,(q1h v t[k] hv).eq,decide_not]
   simp only[q0e.next0,q0e.round0,evz,Nat.reduceLT,h,hlk,q1r,hc.eq];rw[q0k (by omega)];by_cases e:t[k]∈v <;> simp[e]
  ·simp only[q0e.next0,q0e.round0,evz,Nat.reduceLT,gAK]
 refine q0q rfl 0 ((q47.ev _ _ _).trans ?_);simp only[evz,Nat.reduceLT,hi.eq,q8v]
theorem qhz{l:List Symbol}{t:List Int}(h:TermOk l t):Call F.q0y [.sl 1 [slc t]] (slc (qaz [t]))/\(qaz [t]).length<=24:=by
 have hle:=h.le;have hvl:=qeb [t];refine⟨q0y [t] (by simp) (fun x hx=>?_) (by simp;omega),by simp at hvl;omega⟩;simp only[gK,List.not_mem_nil,or_false]at hx;subst hx;exact⟨by omega,h.ge⟩
theorem qyf{l:List Symbol}{t:List Int}(h:TermOk l t):t[0]?=some (t.headD 0):=by
 have:=h.pos;cases t with
 |nil=>simp at this
 |cons x r=>rfl
theorem q8l{l:List Symbol}{a b:List Int}(ha:TermOk l a)(hb:TermOk l b):Call F.q8l [.agg [slc a,slc b]] (.bool (q9e ⟨a,b⟩)):=by
 refine q0q rfl 0 ((q8l.ev _ _ _).trans ?_);obtain⟨ca,la⟩:=qhz ha;obtain⟨cb,lb⟩:=qhz hb
 have h0:(cells a)[0]?=some (.int .i64 (a.headD 0)):=by
  have:=get0 (l:=a) (k:=1) (i:=0) q3o;rw[Nat.zero_mul]at this;rw[this,qyf ha];rfl
 have hin:inB 0 ((cells a).length/1)=true:=by
  rw[q53 q3o];have:=q61 0 a.length;have hp:=ha.pos;rw[show(0:Int)=((0:Nat):Int)from rfl,this];exact decide_eq_true hp
 have hc:=q47 (qaz [b]) (qaz [a]) (by omega) (by omega);rw[hin,cond_true,h0];simp only[evz,Nat.reduceLT,q9e]
 have e:((qaz [b]).any fun n=>decide (n∉qaz [a]))=b.any fun n=>decide (n<0/\n∉a):=by
  rw[Bool.eq_iff_iff,List.any_eq_true,List.any_eq_true];constructor
  ·rintro⟨v,hv,h⟩;rw[gS]at h;obtain⟨v0,t,ht,hm⟩:=q9b.1 hv;simp only[gK,List.not_mem_nil,or_false]at ht;subst ht;refine⟨-1-v,hm,?_⟩;rw[gS];exact⟨by omega,fun hn=>h (q9b.2 ⟨v0,a,by simp,hn⟩)⟩
  ·rintro⟨n,hn,h⟩;rw[gS]at h;refine⟨-1-n,q9b.2 ⟨by omega,b,by simp,by rw[show -1-(-1-n)=n by omega];exact hn⟩,?_⟩;rw[gS];intro hm;obtain⟨_,t,ht,hm'⟩:=q9b.1 hm;simp only[gK,List.not_mem_nil,or_false]at ht;subst ht;rw[show -1-(-1-n)=n by omega]at hm';exact h.2 hm'
 by_cases h1:a.headD 0<0
 ·have h2:¬ 0<=a.headD 0:=by omega
  simp only[h1,h2,evz,Nat.reduceLT,Bool.false_and]
 ·have h2:0<=a.headD 0:=by omega
  simp only[h1,h2,evz,Nat.reduceLT,ca.eq,cb.eq,hc.eq,e,Bool.true_and]
theorem q57(l:List Symbol)(hs:l.length<=4294967296)(es:List Equation)(he:sm 4294967296 es):Call F.q57 [.agg [slc l],slc es] (.int .i64 (q4i ⟨l⟩ es)):=by
 refine q0q rfl 0 ((q57.ev _ _ _).trans ?_);simp only[evz,Nat.reduceLT,(q0u l hs es he).eq,q4i,q8n];by_cases h1:q3y ⟨l⟩=0
 case neg=>simp only[h1,evz,Nat.reduceLT,ne_eq,gX]
 simp only[h1,evz,Nat.reduceLT,ne_eq,gW];by_cases h2:q7x l es=0
 case neg=>simp only[h2,evz,Nat.reduceLT,gX]
 obtain⟨hlen,hok⟩:=q9f.1 h2
 have hi:Call F.q0x [slc es,.clo F.q3s []] (.int .i64 (idx (fun e=>!q9e e) es)):=by
  refine q0q rfl (es.length+1) ((q08.ev _ _).trans ?_);simp only[evz,Nat.reduceLT];refine q8e (S:=fun m k=>q08.at0 (es.length+1) m (q08.st0 (cells es) es.length (k:Nat))) (fun m k h=>?_) (fun m=>?_) (gAR _)
  ·have hlk:es[k]?=some es[k]:=gA h;have ho:=hok es[k] (gG h)
   have hc:Call F.q3s [.agg [slc es[k].left,slc es[k].right]] (.bool (!q9e es[k])):=by
    refine q0q rfl 0 ((q3s.ev _ _ _).trans ?_);simp only[evz,Nat.reduceLT,(q8l ho.left ho.right).eq]
   simp only[q08.next0,q08.round0,evz,Nat.reduceLT,h,hlk,q3w,hc.eq];rw[q0k (by omega)];cases q9e es[k] <;> rfl
  ·simp only[q08.next0,q08.round0,evz,Nat.reduceLT,gAK]
 have hc:Call F.q3u [slc es,.clo F.q3s []] (.bool (es.any fun e=>!q9e e)):=by
  refine q0q rfl 0 ((q6i.ev _ _).trans ?_);simp only[evz,Nat.reduceLT,hi.eq,q8v]
 simp only[h2,evz,Nat.reduceLT,gW,hc.eq];cases es.any fun e=>!q9e e <;> rfl
theorem q1t(t:List Int)(x:Int)(hl:t.length<=4294967296):Call F.q1t [slc t,.int .i64 x] (.int .i64 (t.count x:Nat)):=by
 have loop:∀m k (c:Nat),k<=t.length->t.length<m+k->c<=k->
  q1t.at0 (t.length+1) m (q1t.st0 (cells t) x (c:Nat) (k:Nat))=some (.int .i64 ((c+(t.drop k).count x:Nat):Int),[]):=by
  intro m;induction m with
  |zero=>intros;omega
  |succ m ih=>
   intro k c hk hm hc;by_cases h:k<t.length
   ·have hlk:t[k]?=some t[k]:=gA h;simp only[q1t.next0,q1t.round0,evz,Nat.reduceLT,h,hlk,q1r];rw[q0k (by omega),q0k (by omega),gH h,List.count_cons];by_cases e:t[k]=x
    ·simp only[e,evz,Nat.reduceLT];rw[ih (k+1) (c+1) (by omega) (by omega) (by omega)];simp;omega
    ·simp only[e,evz,Nat.reduceLT];rw[ih (k+1) c (by omega) (by omega) (by omega)];simp[e]
   ·obtain rfl:k=t.length:=by omega
    simp only[q1t.next0,q1t.round0,evz,Nat.reduceLT,gAK,List.drop_length,List.count_nil,Nat.add_zero]
 refine q0q rfl (t.length+1) ((q1t.ev _ _ _).trans ?_);have:=loop (t.length+1) 0 0 (by omega) (by omega) (by omega);rw[List.drop_zero,gAJ]at this;exact this
theorem q0s(l:List Symbol)(ok:SigOk ⟨l⟩)(es:List Equation)(he:sm 4294967296 es):Call F.q0s [.rref [slc l] 0,slc es] (.int .i64 (q8n l es)):=by
 refine q0q rfl 25 ((q0s.ev _ _ _).trans ?_);simp only[evz,Nat.reduceLT,(q1y l ok es he).eq,q8n];by_cases h2:q7x l es=0
 case neg=>simp only[h2,evz,Nat.reduceLT,ne_eq,gX]
 obtain⟨hlen,hok⟩:=q9f.1 h2;simp only[h2,evz,Nat.reduceLT,ne_eq,gW]
 have inner:∀(L0:St->R)(k:Nat)(h:k<es.length),
  q0s.at2 25 L0 25 (q0s.st2 (cells es) (k:Nat) ((0:Nat):Int))=if(es[k].right.any fun n=>decide (n<0/\n∉es[k].left))=true then some (.int .i64 1,[])else L0 (q0s.st0 (cells es) ((k+1:Nat):Int)):=fun L0 k h=>by
  have hlk:es[k]?=some es[k]:=gA h;have ho:=hok es[k] (gG h);have hle:=ho.right.le;have hle':=ho.left.le;refine q9d (l:=es[k].right) (p:=fun n=>decide (n<0/\n∉es[k].left)) (r:=some (.int .i64 1,[])) (S:=fun m j=>q0s.at2 25 L0 m (q0s.st2 (cells es) (k:Nat) (j:Nat))) (fun m j hj=>?_) (fun m=>?_) (by omega)
  ·have hlj:es[k].right[j]?=some es[k].right[j]:=gA hj;simp only[q0s.next2,q0s.round2,evz,Nat.reduceLT,h,hlk,hj,hlj,q3w,q1r,(q1t es[k].left es[k].right[j] (by omega)).eq];rw[q0k (by omega)];by_cases q1:es[k].right[j]<0
   ·by_cases q2:es[k].right[j]∈es[k].left
    ·have q3:0<es[k].left.count es[k].right[j]:=List.count_pos_iff.2 q2;have q4:¬((es[k].left.count es[k].right[j]:Nat):Int)=0:=by omega
     simp only[q1,q2,q4,evz,Nat.reduceLT,gW,and_false,Bool.false_eq_true]
    ·have q3:es[k].left.count es[k].right[j]=0:=List.count_eq_zero.2 q2;simp only[q1,q2,q3,evz,Nat.reduceLT,gX,and_true,Int.natCast_zero]
   ·simp only[q1,evz,Nat.reduceLT,false_and,Bool.false_eq_true]
  ·simp only[q0s.next2,q0s.round2,evz,Nat.reduceLT,h,hlk,q3w,gAK];rw[q0k (by omega)]
 refine(q9d (l:=es) (p:=fun e=>!q9e e) (r:=some (.int .i64 1,[])) (z:=some (.int .i64 0,[])) (S:=fun m k=>q0s.at0 25 m (q0s.st0 (cells es) (k:Nat))) (fun m k h=>?_) (fun m=>?_) (show es.length<25 by omega)).trans ?_
 ·have hlk:es[k]?=some es[k]:=gA h;have ho:=hok es[k] (gG h)
  have h0:(cells es[k].left)[0]?=some (.int .i64 (es[k].left.headD 0)):=by
   have:=get0 (l:=es[k].left) (k:=1) (i:=0) q3o;rw[Nat.zero_mul]at this;rw[this,qyf ho.left];rfl
  have hin:inB 0 es[k].left.length=true:=by
   have:=q61 0 es[k].left.length;have hp:=ho.left.pos;rw[show(0:Int)=((0:Nat):Int)from rfl,this];exact decide_eq_true hp
  simp only[q0s.next0,q0s.round0,evz,Nat.reduceLT,h,hlk,q3w,hin,h0,q9e];by_cases q1:es[k].left.headD 0<0
  ·have q2:¬ 0<=es[k].left.headD 0:=by omega
   simp only[q1,q2,evz,Nat.reduceLT,Bool.false_and,Bool.not_false]
  ·have q2:0<=es[k].left.headD 0:=by omega
   simp only[q1,q2,evz,Nat.reduceLT,Bool.true_and,Bool.not_not];exact inner _ k h
 ·simp only[q0s.next0,q0s.round0,evz,Nat.reduceLT,gAK]
 ·cases es.any fun e=>!q9e e <;> rfl
theorem q6m(l:List Symbol)(hs:l.length<=4294967296)(es:List Equation)(he:sm 4294967296 es):Call F.q6m [.agg [slc l],slc es] (.int .i64 (q4i ⟨l⟩ es)):=by
 refine q0q rfl 0 ((q6m.ev _ _ _).trans ?_);simp only[evz,Nat.reduceLT,(q01 l hs).eq,q4i];by_cases h1:q3y ⟨l⟩=0
 case neg=>simp only[h1,evz,Nat.reduceLT,ne_eq,gX]
 have ok:=(qa3 _).1 h1;simp only[h1,evz,Nat.reduceLT,ne_eq,gW,(q0s l ok es he).eq]
def q5i(l:List Symbol)(t:List Int):Nat->Nat->List Nat
 |0,_=>[]
 |n+1,p=>p::q5i l t n (q3v l t p)
def q34(l:List Symbol)(t:List Int)(p:Nat):List Nat:=q5i l t (ar l (t.getD p 0)) (p+1)
theorem q6c(l:List Symbol)(t:List Int):∀n p,(q5i l t n p).length=n
 |0,_=>rfl
 |n+1,p=>by rw[q5i,gAB,q6c l t n]
theorem qbr{l:List Symbol}{t:List Int}{p n:Nat}{r:List Int}(h:skip (ar l) (n+1) (t.drop p)=some r):p<t.length/\skip (ar l) n (t.drop (q3v l t p))=some r/\p<q3v l t p/\q3v l t p<=t.length:=by
 have hp:p<t.length:=by
  rcases Nat.lt_or_ge p t.length with h1|h1
  ·exact h1
  ·rw[gU h1]at h;cases h
 rw[show n+1=1+n by omega,qaf]at h;cases h1:skip (ar l) 1 (t.drop p)with
 |none=>rw[h1]at h;cases h
 |some q=>
  rw[h1]at h;have h2:=qh7 h1;have e:q3v l t p=t.length-q.length:=by unfold q3v;rw[h1]
  have h3:=h2.2.2 (by omega);refine⟨hp,?_,by rw[e];omega,by rw[e];omega⟩;rw[e,<- h2.1];exact h
theorem qgt{l:List Symbol}{t:List Int}:∀{n p:Nat}{r:List Int},skip (ar l) n (t.drop p)=some r->∀q∈q5i l t n p,p<=q/\q<t.length
 |0,p,r,h,q,hq=>by cases hq
 |n+1,p,r,h,q,hq=>by
  obtain⟨h1,h2,h3,h4⟩:=qbr h;rcases gK.1 hq with rfl|hq
  ·exact⟨gAI _,h1⟩
  ·have:=qgt h2 q hq;exact⟨by omega,this.2⟩
theorem qa7{l:List Symbol}{t:List Int}(ok:TermOk l t){p:Nat}(hp:p<t.length):∃r,skip (ar l) (ar l t[p]) (t.drop (p+1))=some r:=by
 obtain⟨q,hq⟩:=qdc (p:=p) ok.skip (by simpa using hp);rw[gH hp,skip]at hq;exact⟨q,by simpa using hq⟩
theorem q5a{l:List Symbol}{t:List Int}(ok:TermOk l t){p:Nat}(hp:p<t.length){q:Nat}(hq:q∈q34 l t p):p<q/\q<t.length:=by
 obtain⟨r,hr⟩:=qa7 ok hp;have hd:t.getD p 0=t[p]:=q6v hp;unfold q34 at hq;rw[hd]at hq;have:=qgt hr q hq;exact⟨by omega,this.2⟩
def rank(o:List Int)(n:Int):Int:=idx (fun x=>decide (x=n)) o
def cell(l:List Symbol)(o a b:List Int)(qlu:Nat->Nat->Bool)(i j:Nat):Bool:=
 if b.getD j 0<0 then decide (0<=a.getD i 0)&&decide (b.getD j 0∈q1i l a i)
 else if a.getD i 0<0 then false
 else if(q34 l a i).any (fun p=>decide (q1i l a p=q1i l b j)||qlu p j)then true
 else if rank o (a.getD i 0)<rank o (b.getD j 0)then false
 else if(q34 l b j).any (fun q=>!qlu i q)then false
 else if rank o (b.getD j 0)<rank o (a.getD i 0)then true
 else match ((q34 l a i).zip (q34 l b j)).find? fun x=>!decide (q1i l a x.1=q1i l b x.2)with
  |some x=>qlu x.1 x.2
  |none=>false
theorem qf9{l:List Symbol}{o a b:List Int}(ha:TermOk l a)(hb:TermOk l b){f g:Nat->Nat->Bool}{i j:Nat}(hi:i<a.length)(hj:j<b.length)
 (h:∀p q,i<=p->j<=q->p<a.length->q<b.length->(i<p\/j<q)->f p q=g p q):cell l o a b f i j=cell l o a b g i j:=by
 have h1:(q34 l a i).any (fun p=>decide (q1i l a p=q1i l b j)||f p j)=(q34 l a i).any (fun p=>decide (q1i l a p=q1i l b j)||g p j):=by
  rw[Bool.eq_iff_iff,List.any_eq_true,List.any_eq_true];constructor
  ·rintro⟨p,hp,h1⟩;have:=q5a ha hi hp;exact⟨p,hp,by rw[<- h p j (by omega) (gAI _) this.2 hj (.inl this.1)];exact h1⟩
  ·rintro⟨p,hp,h1⟩;have:=q5a ha hi hp;exact⟨p,hp,by rw[h p j (by omega) (gAI _) this.2 hj (.inl this.1)];exact h1⟩
 have h2:(q34 l b j).any (fun q=>!f i q)=(q34 l b j).any (fun q=>!g i q):=by
  rw[Bool.eq_iff_iff,List.any_eq_true,List.any_eq_true];constructor
  ·rintro⟨p,hp,h1⟩;have:=q5a hb hj hp;exact⟨p,hp,by rw[<- h i p (gAI _) (by omega) hi this.2 (.inr this.1)];exact h1⟩
  ·rintro⟨p,hp,h1⟩;have:=q5a hb hj hp;exact⟨p,hp,by rw[h i p (gAI _) (by omega) hi this.2 (.inr this.1)];exact h1⟩
 unfold cell;rw[h1,h2];cases hf:((q34 l a i).zip (q34 l b j)).find? fun x=>!decide (q1i l a x.1=q1i l b x.2)with
 |none=>rfl
 |some x=>
  have hm:=List.mem_of_find?_eq_some hf;have hm1:=q5a ha hi (List.of_mem_zip hm).1;have hm2:=q5a hb hj (List.of_mem_zip hm).2;simp only[h x.1 x.2 (by omega) (by omega) hm1.2 hm2.2 (.inl hm1.1)]
def gtN(l:List Symbol)(o a b:List Int):Nat->Nat->Nat->Bool
 |0,_,_=>false
 |n+1,i,j=>cell l o a b (gtN l o a b n) i j
def gt(l:List Symbol)(o a b:List Int)(i j:Nat):Bool:=gtN l o a b (a.length+b.length+1) i j
theorem qra{l:List Symbol}{o a b:List Int}(ha:TermOk l a)(hb:TermOk l b):∀(d n m i j:Nat),i<a.length->j<b.length->(a.length-i)+(b.length-j)<=d->d<n->d<m->gtN l o a b n i j=gtN l o a b m i j:=by
 intro d;induction d with
 |zero=>intros;omega
 |succ d ih=>
  intro n m i j hi hj hd hn hm;obtain⟨n,rfl⟩:∃q,n=q+1:=⟨n-1,by omega⟩;obtain⟨m,rfl⟩:∃q,m=q+1:=⟨m-1,by omega⟩;rw[gtN,gtN];exact qf9 ha hb hi hj fun p q h1 h2 h3 h4 h5=>ih n m p q h3 h4 (by omega) (by omega) (by omega)
theorem qqn{l:List Symbol}{o a b:List Int}(ha:TermOk l a)(hb:TermOk l b){i j:Nat}(hi:i<a.length)(hj:j<b.length):gt l o a b i j=cell l o a b (gt l o a b) i j:=by
 show gtN l o a b (a.length+b.length+1) i j=_;rw[gtN];exact qf9 ha hb hi hj fun p q h1 h2 h3 h4 h5=>qra ha hb ((a.length-p)+(b.length-q)) _ _ p q h3 h4 (gAI _) (by omega) (by omega)
def ints(l:List Nat):List Int:=l.map fun(n:Nat)=>(n:Int)
section
variable {l:List Symbol}(ok:SigOk ⟨l⟩)
include ok
theorem q0w{t:List Int}(ht:TermOk l t){p:Nat}(hp:p<t.length):Call F.q0w [.agg [slc l],slc t,.int .i64 p] (slc (ints (q34 l t p))):=by
 have hle:=ht.le;have har:=qon (l:=l) ok t[p];refine q0q rfl 4 ((q0w.ev _ _ _ _).trans ?_);simp only[evz,Nat.reduceLT,hp,gA,q1r,(q6x ok t[p] (ht.node _ (gG hp))).eq];rw[q0k (by omega)]
 have loop:∀n k q f (out:List Int) r,k+n=ar l t[p]->n<f->skip (ar l) n (t.drop q)=some r->out.length=k->
  q0w.at0 4 f (q0w.st0 (cells t) (q:Nat) (ar l t[p]:Nat) (k:Nat) (cells l) (cells out))=some (slc (out++ints (q5i l t n q)),[]):=by
  intro n;induction n with
  |zero=>
   intro k q f out r hk hf hs ho;obtain⟨f,rfl⟩:∃x,f=x+1:=⟨f-1,by omega⟩;have:¬ k<ar l t[p]:=by omega
   simp only[q0w.next0,q0w.round0,evz,Nat.reduceLT,this,q5i,ints,List.map_nil,gAD]
  |succ n ih=>
   intro k q f out r hk hf hs ho;obtain⟨f,rfl⟩:∃x,f=x+1:=⟨f-1,by omega⟩;obtain⟨h1,h2,h3,h4⟩:=qbr hs;have hlt:k<ar l t[p]:=by omega
   simp only[q0w.next0,q0w.round0,evz,Nat.reduceLT,hlt,(qeq ok ht h1).eq,q2w];rw[q1o (q41 (by rw[q0m,q3o];omega)),q0k (by omega)];by_cases hn:n=0
   ·subst hn;obtain⟨f,rfl⟩:∃x,f=x+1:=⟨f-1,by omega⟩;have:¬ k+1<ar l t[p]:=by omega
    simp only[q0w.next0,q0w.round0,evz,Nat.reduceLT,this,q5i,ints,List.map_nil,List.map_cons]
   ·rw[ih (k+1) (q3v l t q) f (out++[(q:Int)]) r (by omega) (by omega) h2 (by simp[ho])];simp[q5i,ints]
 obtain⟨r,hr⟩:=qa7 ht hp;have hd:t.getD p 0=t[p]:=q6v hp;have:=loop (ar l t[p]) 0 (p+1) 4 [] r (by omega) (by omega) hr (by simp);unfold q34;rw[hd];simpa using this
end
theorem qqd:∀(l:List (Int×Int×Bool))(a b:Int)(i j:Nat),(mpAt l a b i).map (·.2)=(mpAt l a b j).map (·.2)
 |[],_,_,_,_=>rfl
 |(x,y,v)::r,a,b,i,j=>by
  rw[mpAt,mpAt];cases (a==x&&b==y)with
  |true=>rfl
  |false=>exact qqd r a b (i+1) (j+1)
theorem qa5(x y:Int)(v:Bool)(r:List (Int×Int×Bool))(a b:Int):q9h ((x,y,v)::r) a b=bif a==x&&b==y then some v else q9h r a b:=by
 unfold q9h;rw[mpAt];cases (a==x&&b==y)with
 |true=>rfl
 |false=>exact qqd r a b 1 0
theorem qjn:∀(l:List (Int×Int×Bool))(x y:Int)(v:Bool)(a b:Int),q9h (qea l x y v) a b=bif a==x&&b==y then some v else q9h l a b
 |[],x,y,v,a,b=>by rw[qea,qa5]
 |(x',y',v')::r,x,y,v,a,b=>by
  rw[qea];cases h:(x==x'&&y==y')with
  |true=>
   simp only[gC,beq_iff_eq]at h;obtain⟨rfl,rfl⟩:=h;rw[cond_true,qa5,qa5];cases (a==x&&b==y) <;> rfl
  |false=>
   rw[cond_false,qa5,qa5,qjn r];cases h1:(a==x'&&b==y')with
   |false=>rfl
   |true=>
    cases h2:(a==x&&b==y)with
    |false=>rfl
    |true=>
     simp only[gC,beq_iff_eq]at h1 h2;obtain⟨rfl,rfl⟩:=h1;obtain⟨rfl,rfl⟩:=h2;simp at h
def Good(l:List Symbol)(o a b:List Int)(m:List (Int×Int×Bool)):Prop:=∀(p q:Nat)(v:Bool),q9h m p q=some v->v=gt l o a b p q
theorem Good.put{l:List Symbol}{o a b:List Int}{m:List (Int×Int×Bool)}(h:Good l o a b m)(i j:Nat):Good l o a b (qea m i j (gt l o a b i j)):=fun p q v hv=>by
 rw[qjn]at hv;cases hc:(((p:Int)==(i:Int))&&((q:Int)==(j:Int)))with
 |true=>
  rw[hc,cond_true]at hv;simp only[gC,beq_iff_eq,Int.ofNat_inj]at hc;obtain⟨rfl,rfl⟩:=hc;exact(Option.some.inj hv).symm
 |false=>rw[hc,cond_false]at hv;exact h p q v hv
abbrev boxI(l:List Symbol)(o a b:List Int)(m:List (Int×Int×Bool)):T:=.rref [slc l,slc o,slc a,slc b,.mp m] 0
abbrev boxO(l:List Symbol)(o a b:List Int)(m:List (Int×Int×Bool)):T:=.agg [slc l,slc o,slc a,slc b,.mp m]
theorem qao(l:List Symbol)(t:List Int)(p:Nat):(q1i l t p).length<=t.length:=by simp[q1i];omega
section
variable {l:List Symbol}(ok:SigOk ⟨l⟩){o a b:List Int}(ha:TermOk l a)(hb:TermOk l b)
include ok ha hb
theorem q4g(m:List (Int×Int×Bool)){p q:Nat}(hp:p<a.length)(hq:q<b.length) :
 LIM F.q4g [boxI l o a b m,.int .i64 p,.int .i64 q]=some (.bool (decide (q1i l a p=q1i l b q)),[boxO l o a b m]):=by
 refine q6r rfl 0 ((q4g.ev _ _ _ _ _ _ _ _).trans ?_);have h1:=qao l a p;have h2:=ha.le;simp only[evz,Nat.reduceLT,(q35 ok ha hp).eq,(q35 ok hb hq).eq,(q0p (q1i l a p) (q1i l b q) (⟨by omega,fun _ _=>trivial⟩)).eq]
omit ok ha hb in
theorem qmg(p:Int->Bool)(l:List Int) : -1<=idx p l/\idx p l<=l.length:=by
 rcases q6s p l with⟨h,_⟩|⟨i,hi,h,_⟩ <;> omega
def qtp(l:List Symbol)(o a b:List Int)(i j:Nat):Prop:=∀m,Good l o a b m->∃m',Good l o a b m'/\
 LIM F.q3g [boxI l o a b m,.int .i64 i,.int .i64 j]=some (.bool (gt l o a b i j),[boxO l o a b m'])
omit ok ha hb in
theorem q7n{A:List Nat}{k:Nat}(h:k<A.length):(ints A)[k]?=some ((A[k]:Nat):Int):=by simp[ints,h]
omit ok ha hb in
theorem q3l(A:List Nat):(ints A).length=A.length:=by simp[ints]
theorem qz2{A B:List Nat}(hA:∀p∈A,p<a.length)(hB:∀q∈B,q<b.length)(hAB:A.length=B.length)(hle:A.length<=2)(ih:∀p∈A,∀q∈B,qtp l o a b p q) :
 ∀n k f m,k+n=A.length->n<f->Good l o a b m->∃m',Good l o a b m'/\
  q00.at4 8 f (q00.st4 (A.length:Nat) (k:Nat) (cells l) (cells o) (cells a) (cells b) m (cells (ints A)) (cells (ints B)))=
   some (.bool (match ((A.drop k).zip (B.drop k)).find? fun x=>!decide (q1i l a x.1=q1i l b x.2)with|some x=>gt l o a b x.1 x.2|none=>false),[boxO l o a b m']):=by
 intro n;induction n with
 |zero=>
  intro k f m hk hf hm;obtain⟨f,rfl⟩:∃x,f=x+1:=⟨f-1,by omega⟩;have:¬ k<A.length:=by omega
  refine⟨m,hm,?_⟩;simp only[q00.next4,q00.round4,evz,Nat.reduceLT,this,gU (show A.length<=k by omega),List.zip_nil_left,List.find?_nil]
 |succ n ihn=>
  intro k f m hk hf hm;obtain⟨f,rfl⟩:∃x,f=x+1:=⟨f-1,by omega⟩;have hkA:k<A.length:=by omega
  have hkB:k<B.length:=by omega
  have hs:=q4g ok ha hb (o:=o) m (hA _ (gG hkA)) (hB _ (gG hkB));rw[gH hkA,gH hkB,List.zip_cons_cons,List.find?_cons];by_cases e:q1i l a A[k]=q1i l b B[k]
  ·obtain⟨m',hm',h'⟩:=ihn (k+1) f m (by omega) (by omega) hm;refine⟨m',hm',?_⟩;simp only[q00.next4,q00.round4,evz,Nat.reduceLT,hkA,hkB,q7n,q3l,q1r,hs,e,T.isMp,T.mpL,Bool.not_true];rw[q0k (by omega)];exact h'
  ·obtain⟨m',hm',h'⟩:=ih _ (gG hkA) _ (gG hkB) m hm;refine⟨m',hm',?_⟩;simp only[q00.next4,q00.round4,evz,Nat.reduceLT,hkA,hkB,q7n,q3l,q1r,hs,e,T.isMp,T.mpL,Bool.not_false,h']
omit ok ha hb in
theorem qyo{i:Nat}{A B:List Nat}{qlu:Int}{Rest:List (Int×Int×Bool)->R}(hle:B.length<=2)(ih:∀q∈B,qtp l o a b i q)
 (hrest:∀f m,q00.at2 8 (f+1) (q00.st2 (i:Nat) qlu (B.length:Nat) (B.length:Nat) (cells l) (cells o) (cells a) (cells b) m (cells (ints A)) (cells (ints B)))=Rest m) :
 ∀n k f m,k+n=B.length->n<f->Good l o a b m->∃m',Good l o a b m'/\
  q00.at2 8 f (q00.st2 (i:Nat) qlu (B.length:Nat) (k:Nat) (cells l) (cells o) (cells a) (cells b) m (cells (ints A)) (cells (ints B)))=
   if(B.drop k).any (fun q=>!gt l o a b i q)then some (.bool false,[boxO l o a b m'])else Rest m':=by
 intro n;induction n with
 |zero=>
  intro k f m hk hf hm;obtain⟨f,rfl⟩:∃x,f=x+1:=⟨f-1,by omega⟩;obtain rfl:k=B.length:=by omega
  refine⟨m,hm,?_⟩;rw[hrest,gU (gAI _)];rfl
 |succ n ihn=>
  intro k f m hk hf hm;obtain⟨f,rfl⟩:∃x,f=x+1:=⟨f-1,by omega⟩;have hkB:k<B.length:=by omega
  obtain⟨m1,hm1,h1⟩:=ih _ (gG hkB) m hm;rw[gH hkB,List.any_cons];cases e:gt l o a b i B[k]with
  |false=>
   refine⟨m1,hm1,?_⟩;simp only[q00.next2,q00.round2,evz,Nat.reduceLT,hkB,q7n,q3l,q1r,h1,e,T.isMp,T.mpL,Bool.not_false,Bool.true_or]
  |true=>
   obtain⟨m',hm',h'⟩:=ihn (k+1) f m1 (by omega) (by omega) hm1;refine⟨m',hm',?_⟩;simp only[q00.next2,q00.round2,evz,Nat.reduceLT,hkB,q7n,q3l,q1r,h1,e,T.isMp,T.mpL,Bool.not_true,Bool.false_or];rw[q0k (by omega)];exact h'
theorem qym{i j:Nat}{x y:Int}{A B:List Nat}{Rest:List (Int×Int×Bool)->R}(hj:j<b.length)(hA:∀p∈A,p<a.length)(hle:A.length<=2)(ih:∀p∈A,qtp l o a b p j)
 (hrest:∀f m,q00.at0 8 (f+1) (q00.st0 (i:Nat) (j:Nat) x y (A.length:Nat) (A.length:Nat) (cells l) (cells o) (cells a) (cells b) m (cells (ints A)) (cells (ints B)))=Rest m) :
 ∀n k f m,k+n=A.length->n<f->Good l o a b m->∃m',Good l o a b m'/\
  q00.at0 8 f (q00.st0 (i:Nat) (j:Nat) x y (A.length:Nat) (k:Nat) (cells l) (cells o) (cells a) (cells b) m (cells (ints A)) (cells (ints B)))=
   if(A.drop k).any (fun p=>decide (q1i l a p=q1i l b j)||gt l o a b p j)then some (.bool true,[boxO l o a b m'])else Rest m':=by
 intro n;induction n with
 |zero=>
  intro k f m hk hf hm;obtain⟨f,rfl⟩:∃x,f=x+1:=⟨f-1,by omega⟩;obtain rfl:k=A.length:=by omega
  refine⟨m,hm,?_⟩;rw[hrest,gU (gAI _)];rfl
 |succ n ihn=>
  intro k f m hk hf hm;obtain⟨f,rfl⟩:∃x,f=x+1:=⟨f-1,by omega⟩;have hkA:k<A.length:=by omega
  have hs:=q4g ok ha hb (o:=o) m (hA _ (gG hkA)) hj;rw[gH hkA,List.any_cons];by_cases e:q1i l a A[k]=q1i l b j
  ·refine⟨m,hm,?_⟩;simp only[q00.next0,q00.round0,evz,Nat.reduceLT,hkA,q7n,q3l,q1r,hs,e,T.isMp,T.mpL,Bool.true_or]
  ·obtain⟨m1,hm1,h1⟩:=ih _ (gG hkA) m hm;cases e2:gt l o a b A[k] j with
   |true=>
    refine⟨m1,hm1,?_⟩;simp only[q00.next0,q00.round0,evz,Nat.reduceLT,hkA,q7n,q3l,q1r,hs,e,h1,e2,T.isMp,T.mpL,Bool.true_or,Bool.or_true]
   |false=>
    obtain⟨m',hm',h'⟩:=ihn (k+1) f m1 (by omega) (by omega) hm1;refine⟨m',hm',?_⟩;simp only[q00.next0,q00.round0,evz,Nat.reduceLT,hkA,q7n,q3l,q1r,hs,e,h1,e2,T.isMp,T.mpL,Bool.false_or,Bool.or_false];rw[q0k (by omega)];exact h'
omit ok ha hb in
theorem qlg{x y:Int}(hx:x∈o)(h:rank o x=rank o y):x=y:=by
 unfold rank at h;rcases q6s (fun z:Int=>decide (z=x)) o with⟨h1,hno⟩|⟨i,hi,h1,hy1,_⟩
 ·have:=hno x hx;simp at this
 ·rcases q6s (fun z:Int=>decide (z=y)) o with⟨h2,_⟩|⟨i',hi',h2,hy2,_⟩
  ·omega
  ·have:i=i':=by omega
   subst this;simp at hy1 hy2;rw[<- hy1,<- hy2]
omit ok ha hb in
theorem qb1(ok:SigOk ⟨l⟩)(t:List Int)(p:Nat):(q34 l t p).length<=2:=by
 unfold q34;rw[q6c];exact qon ok _
theorem q00(hol:o.length<=1048576)(ho:∀n:Int,0<=n->n<l.length->n∈o){i j:Nat}(hi:i<a.length)(hj:j<b.length)
 (ih:∀p q,i<=p->j<=q->p<a.length->q<b.length->(i<p\/j<q)->qtp l o a b p q) (m:List (Int×Int×Bool)) (hm:Good l o a b m):∃m',Good l o a b m'/\
  LIM F.q00 [boxI l o a b m,.int .i64 i,.int .i64 j]=some (.bool (cell l o a b (gt l o a b) i j),[boxO l o a b m']):=by
 have hai:a.getD i 0=a[i]:=q6v hi;have hbj:b.getD j 0=b[j]:=q6v hj;have hla:=ha.le;have hlb:=hb.le;have hsl:=qao l a i;unfold cell;rw[hai,hbj];by_cases hy:b[j]<0
 ·refine⟨m,hm,q6r rfl 8 ((q00.ev _ _ _ _ _ _ _ _).trans ?_)⟩;by_cases hx:0<=a[i]
  ·have hx':a[i]>=0:=hx;simp only[evz,Nat.reduceLT,hi,hj,gA,q1r,hy,hx',hx,(q35 ok ha hi).eq,(q1h (q1i l a i) b[j] (by omega)).eq,Bool.true_and]
  ·have hx':¬ a[i]>=0:=hx;simp only[evz,Nat.reduceLT,hi,hj,gA,q1r,hy,hx',hx,Bool.false_and]
 by_cases hx:a[i]<0
 ·refine⟨m,hm,q6r rfl 8 ((q00.ev _ _ _ _ _ _ _ _).trans ?_)⟩;simp only[evz,Nat.reduceLT,hi,hj,gA,q1r,hy,hx]
 have hA:∀p∈q34 l a i,i<p/\p<a.length:=fun p hp=>q5a ha hi hp;have hB:∀q∈q34 l b j,j<q/\q<b.length:=fun q hq=>q5a hb hj hq;have hAl:=qb1 ok a i;have hBl:=qb1 ok b j;have rx : -1<=rank o a[i]/\rank o a[i]<=o.length:=qmg _ o;have ry : -1<=rank o b[j]/\rank o b[j]<=o.length:=qmg _ o;have ix:Call F.q0d [slc o,.int .i64 a[i]] (.int .i64 (rank o a[i])):=q0d o a[i] (by omega);have iy:Call F.q0d [slc o,.int .i64 b[j]] (.int .i64 (rank o b[j])):=q0d o b[j] (by omega);have hw:IntKind.wrap .i64 (rank o a[i]-rank o b[j])=rank o a[i]-rank o b[j]:=q2y (by omega);generalize hAA:q34 l a i=A at hA hAl;generalize hBB:q34 l b j=B at hB hBl
 let Rest2:List (Int×Int×Bool)->R:=fun m=>if rank o b[j]<rank o a[i]then some (.bool true,[boxO l o a b m])else
  q00.at4 8 8 (q00.st4 (A.length:Nat) 0 (cells l) (cells o) (cells a) (cells b) m (cells (ints A)) (cells (ints B)))
 let Rest0:List (Int×Int×Bool)->R:=fun m=>if rank o a[i]<rank o b[j]then some (.bool false,[boxO l o a b m])else
  q00.at2 8 8 (q00.st2 (i:Nat) (rank o a[i]-rank o b[j]) (B.length:Nat) 0 (cells l) (cells o) (cells a) (cells b) m (cells (ints A)) (cells (ints B)))
 obtain⟨m0,hm0,e0⟩:=qym ok ha hb (o:=o) (i:=i) (j:=j) (x:=a[i]) (y:=b[j]) (A:=A) (B:=B) (Rest:=Rest0) hj (fun p hp=>(hA p hp).2) hAl
  (fun p hp=>ih p j (by have:=hA p hp;omega) (gAI _) (hA p hp).2 hj (.inl (hA p hp).1)) (fun f m=>by
   simp only[q00.next0,q00.round0,evz,Nat.reduceLT,gAK,ix.eq,iy.eq,hw,q3l,Rest0];by_cases hr:rank o a[i]<rank o b[j]
   ·rw[if_pos (by omega),if_pos hr]
   ·rw[if_neg (by omega),if_neg hr]) A.length 0 8 m (by omega) (by omega) hm
 have hmain:q1j prog Ev.A H LIM 8 F.q00 [boxI l o a b m,.int .i64 i,.int .i64 j]=if A.any (fun p=>decide (q1i l a p=q1i l b j)||gt l o a b p j)=true then some (.bool true,[boxO l o a b m0])else Rest0 m0:=by
  refine(q00.ev _ _ _ _ _ _ _ _).trans ?_;simp only[evz,Nat.reduceLT,hi,hj,gA,q1r,hy,hx,(q0w ok ha hi).eq,(q0w ok hb hj).eq,hAA,hBB,q3l];simpa using e0
 by_cases c1:A.any (fun p=>decide (q1i l a p=q1i l b j)||gt l o a b p j)=true
 ·refine⟨m0,hm0,q6r rfl 8 (hmain.trans ?_)⟩;simp only[c1,hy,hx,if_true,if_false]
 rw[if_neg c1]at hmain;by_cases c2:rank o a[i]<rank o b[j]
 ·refine⟨m0,hm0,q6r rfl 8 (hmain.trans ?_)⟩;simp only[Rest0,c1,c2,hy,hx,if_true,if_false];rfl
 obtain⟨m2,hm2,e2⟩:=qyo (o:=o) (a:=a) (b:=b) (l:=l) (i:=i) (A:=A) (B:=B) (qlu:=rank o a[i]-rank o b[j]) (Rest:=Rest2) hBl
  (fun q hq=>ih i q (gAI _) (by have:=hB q hq;omega) hi (hB q hq).2 (.inr (hB q hq).1)) (fun f m=>by
   simp only[q00.next2,q00.round2,evz,Nat.reduceLT,gAK,q3l,Rest2];by_cases hr:rank o b[j]<rank o a[i]
   ·rw[if_pos (by omega),if_pos hr]
   ·rw[if_neg (by omega),if_neg hr]) B.length 0 8 m0 (by omega) (by omega) hm0
 have hmain2:q1j prog Ev.A H LIM 8 F.q00 [boxI l o a b m,.int .i64 i,.int .i64 j]=if B.any (fun q=>!gt l o a b i q)=true then some (.bool false,[boxO l o a b m2])else Rest2 m2:=by
  rw[hmain];simp only[Rest0,if_neg c2];simpa using e2
 by_cases c3:B.any (fun q=>!gt l o a b i q)=true
 ·refine⟨m2,hm2,q6r rfl 8 (hmain2.trans ?_)⟩;simp only[c1,c2,c3,hy,hx,if_true,if_false];rfl
 rw[if_neg c3]at hmain2;by_cases c4:rank o b[j]<rank o a[i]
 ·refine⟨m2,hm2,q6r rfl 8 (hmain2.trans ?_)⟩;simp only[Rest2,c1,c2,c3,c4,hy,hx,if_true,if_false];rfl
 have hxy:a[i]=b[j]:=by
  have n1:=q4j.1 (ha.node _ (gG hi));have n2:=q4j.1 (hb.node _ (gG hj));exact qlg (ho _ (by omega) (by omega)) (by omega)
 have hAB:A.length=B.length:=by
  rw[<- hAA,<- hBB];unfold q34;rw[q6c,q6c,hai,hbj,hxy]
 obtain⟨m4,hm4,e4⟩:=qz2 ok ha hb (o:=o) (A:=A) (B:=B) (fun p hp=>(hA p hp).2) (fun q hq=>(hB q hq).2) hAB hAl
  (fun p hp q hq=>ih p q (by have:=hA p hp;omega) (by have:=hB q hq;omega) (hA p hp).2 (hB q hq).2 (.inl (hA p hp).1)) A.length 0 8 m2 (by omega) (by omega) hm2
 refine⟨m4,hm4,q6r rfl 8 (hmain2.trans ?_)⟩;simp only[Rest2,c1,c2,c3,c4,hy,hx,if_true,if_false];simpa using e4
theorem qyx(hol:o.length<=1048576)(ho:∀n:Int,0<=n->n<l.length->n∈o):∀(d i j:Nat),i<a.length->j<b.length->(a.length-i)+(b.length-j)<=d->qtp l o a b i j:=by
 intro d;induction d with
 |zero=>intros;omega
 |succ d ihd=>
  intro i j hi hj hd m hm;cases hf:q9h m (i:Int) (j:Int)with
  |some v=>
   refine⟨m,hm,q6r rfl 0 ((q3g.ev _ _ _ _ _ _ _ _).trans ?_)⟩;have:=hm i j v hf;simp only[hf,Option.isSome_some,Option.getD_some,cond_true,this,qbd,qa1,q3o]
  |none=>
   obtain⟨m',hm',h'⟩:=q00 ok ha hb hol ho hi hj (fun p q h1 h2 h3 h4 h5=>ihd p q h3 h4 (by omega)) m hm;rw[<- qqn ha hb hi hj]at h';refine⟨_,hm'.put i j,q6r rfl 0 ((q3g.ev _ _ _ _ _ _ _ _).trans ?_)⟩;simp only[evz,Nat.reduceLT,hf,Option.isSome_none,h',T.isMp,T.mpL]
theorem q75(hol:o.length<=1048576)(ho:∀n:Int,0<=n->n<l.length->n∈o):Call F.q75 [.agg [slc l],slc o,slc a,slc b] (.bool (gt l o a b 0 0)):=by
 have h1:=ha.pos;have h2:=hb.pos;obtain⟨m',_,h'⟩:=qyx ok ha hb hol ho (a.length+b.length) 0 0 (by omega) (by omega) (by omega) [] (fun p q v hv=>by simp[q9h,mpAt]at hv);refine q0q rfl 0 ((q75.ev _ _ _ _ _).trans ?_);have h':LIM F.q3g [boxI l o a b [],.int .i64 0,.int .i64 0]=some (.bool (gt l o a b 0 0),[boxO l o a b m']):=h';simp only[evz,Nat.reduceLT,h',T.isMp,T.mpL]
end
theorem q2b(o:List Int)(x:Int)(hl:o.length<=4294967296):Call F.q2b [slc o,.int .i64 x] (.int .i64 (rank o x)):=by
 refine q0q rfl (o.length+1) ((q2b.ev _ _ _).trans ?_);refine q8e (S:=fun m k=>q2b.at0 (o.length+1) m (q2b.st0 (cells o) x (k:Nat))) (fun m k h=>?_) (fun m=>?_) (gAR _)
 ·have hlk:o[k]?=some o[k]:=gA h;simp only[q2b.next0,q2b.round0,evz,Nat.reduceLT,h,hlk,q1r,gS];rw[q0k (by omega)]
 ·simp only[q2b.next0,q2b.round0,evz,Nat.reduceLT,gAK]
section
variable {l:List Symbol}(ok:SigOk ⟨l⟩)
include ok
theorem q1s{t:List Int}(ht:TermOk l t){p:Nat}(hp:p<t.length)(hn:0<=t[p]):Call F.q1s [.rref [slc l] 0,slc t,.int .i64 p] (slc (ints (q34 l t p))):=by
 have hle:=ht.le;have har:=qon (l:=l) ok t[p];have hnode:=q4j.1 (ht.node _ (gG hp));have hls:l.length<=6:=ok.le;obtain⟨u,hu⟩:∃u:Nat,t[p]=u:=⟨t[p].toNat,by omega⟩;have hul:u<l.length:=by omega
 have hare:(l[u]).arity=(ar l t[p]:Nat):=by
  have:=qru ok (n:=t[p]) hn (by rw[hu];simpa using hul);simpa[hu]using this
 refine q0q rfl 4 ((q1s.ev _ _ _ _).trans ?_);rw[q0k (by omega)]
 have loop:∀n k q f (out:List Int) r,k+n=ar l t[p]->n<f->skip (ar l) n (t.drop q)=some r->out.length=k->
  q1s.at0 4 f (q1s.st0 (cells l) (cells t) (p:Nat) (q:Nat) (k:Nat) (cells out))=some (slc (out++ints (q5i l t n q)),[]):=by
  intro n;induction n with
  |zero=>
   intro k q f out r hk hf hs ho;obtain⟨f,rfl⟩:∃x,f=x+1:=⟨f-1,by omega⟩;have:¬ k<ar l t[p]:=by omega
   simp only[q1s.next0,q1s.round0,evz,Nat.reduceLT,hp,gA,q1r,hu,hul,q33,hare,q5i,ints,List.map_nil,gAD];rw[<- hu,if_neg this]
  |succ n ih=>
   intro k q f out r hk hf hs ho;obtain⟨f,rfl⟩:∃x,f=x+1:=⟨f-1,by omega⟩;obtain⟨h1,h2,h3,h4⟩:=qbr hs;have hlt:k<ar l t[p]:=by omega
   simp only[q1s.next0,q1s.round0,evz,Nat.reduceLT,hp,gA,q1r,hu,hul,q33,hare,(q9c ok ht h1).eq,q2w];rw[<- hu,if_pos hlt,q1o (q41 (by rw[q0m,q3o];omega)),q0k (by omega),ih (k+1) (q3v l t q) f (out++[(q:Int)]) r (by omega) (by omega) h2 (by simp[ho])];simp[q5i,ints]
 obtain⟨r,hr⟩:=qa7 ht hp;have hd:t.getD p 0=t[p]:=q6v hp;have:=loop (ar l t[p]) 0 (p+1) 4 [] r (by omega) (by omega) hr (by simp);unfold q34;rw[hd];simpa using this
theorem q74{a b:List Int}(ha:TermOk l a)(hb:TermOk l b){i j:Nat}(hi:i<a.length)(hj:j<b.length):Call F.q74 [.rref [slc l] 0,slc a,.int .i64 i,slc b,.int .i64 j] (.bool (decide (q1i l a i=q1i l b j))):=by
 refine q0q rfl 0 ((q74.ev _ _ _ _ _ _).trans ?_);obtain⟨h1,h2,_⟩:=q3n ha hi;obtain⟨h3,h4,_⟩:=q3n hb hj;have h5:=qao l a i;have h6:=ha.le;have hs:=(q20 (q1i l a i) (q1i l b j) ⟨by omega,fun _ _=>trivial⟩).eq;simp only[evz,Nat.reduceLT,(q9c ok ha hi).eq,(q9c ok hb hj).eq];rw[q1o (by simp;omega),q1o (by simp;omega),qbi,qbi];unfold q1i at hs ⊢;simp only[hs,evz,Nat.reduceLT]
omit ok in
theorem qf5:Enc.sz Bool=1:=rfl
omit ok in
theorem qkp(b:Bool):enc b=[.bool b]:=rfl
omit ok in
theorem bget{T:List Bool}{k:Nat}(h:k<T.length):(cells T)[k*1]?=some (.bool (T.getD k false)):=by
 rw[get0 (l:=T) (k:=1) (i:=k) rfl,gA h,gI,gA h];rfl
omit ok in
theorem qxc{T:List Bool}{k:Nat}(h:k<T.length):T[k]?=some (T.getD k false):=by
 rw[gA h,gI,gA h];rfl
omit ok in
theorem qc0{i j la lb:Nat}(hi:i<la)(hj:j<lb):i*lb+j<la*lb:=by
 have:i*lb+lb<=la*lb:=by rw[<- Nat.succ_mul];exact gAO _ hi
 omega
omit ok in
theorem ql0{i j la lb:Nat}(hi:i<la)(hj:j<lb)(ha:la<=24)(hb:lb<=24):IntKind.wrap .i64 (IntKind.wrap .i64 ((i:Int)*(lb:Int))+(j:Int))=((i*lb+j:Nat):Int):=by
 have h1:=qc0 hi hj;have h2:la*lb<=24*24:=Nat.mul_le_mul ha hb;have e1:IntKind.wrap .i64 ((i:Int)*(lb:Int))=((i*lb:Nat):Int):=by rw[<- Int.natCast_mul];exact q2y (by omega)
 rw[e1,<- Int.natCast_add];exact q2y (by omega)
section
variable {o a b:List Int}(ha:TermOk l a)(hb:TermOk l b){T:List Bool}(hT:T.length=a.length*b.length)
include ha hb hT
theorem qyp{A B:List Nat}(hAl:A.length<=2)(hA:∀p∈A,p<a.length)(hB:∀q∈B,q<b.length) :
 ∀n k f,k+n=A.length->n<f->
  q0j.at4 8 f (q0j.st4 (cells l) (cells a) (cells b) (cells T) (b.length:Nat) (k:Nat) (cells (ints A)) (cells (ints B)))=
   some (.bool (match ((A.drop k).zip (B.drop k)).find? fun x=>!decide (q1i l a x.1=q1i l b x.2)with|some x=>T.getD (x.1*b.length+x.2) false|none=>false),[]):=by
 have hla:=ha.le;have hlb:=hb.le;intro n;induction n with
 |zero=>
  intro k f hk hf;obtain⟨f,rfl⟩:∃x,f=x+1:=⟨f-1,by omega⟩;have:¬ k<A.length:=by omega
  simp only[q0j.next4,q0j.round4,evz,Nat.reduceLT,q3l,this,gU (show A.length<=k by omega),List.zip_nil_left,List.find?_nil]
 |succ n ihn=>
  intro k f hk hf;obtain⟨f,rfl⟩:∃x,f=x+1:=⟨f-1,by omega⟩;have hkA:k<A.length:=by omega
  by_cases hkB:k<B.length
  ·have hp:=hA _ (gG hkA);have hq:=hB _ (gG hkB);have hs:=(q74 ok ha hb hp hq).eq;rw[gH hkA,gH hkB,List.zip_cons_cons,List.find?_cons];by_cases e:q1i l a A[k]=q1i l b B[k]
   ·have:=ihn (k+1) f (by omega) (by omega);simp only[q0j.next4,q0j.round4,evz,Nat.reduceLT,hkA,hkB,q7n,q3l,q1r,hs,e,Bool.not_true];rw[q0k (by omega)];exact this
   ·have hin:A[k]*b.length+B[k]<T.length:=by rw[hT];exact qc0 hp hq
    simp only[q0j.next4,q0j.round4,evz,Nat.reduceLT,hkA,hkB,q7n,q3l,q1r,hs,e,Bool.not_false,ql0 hp hq hla hlb,hin,qxc hin,qkp,qf5]
  ·simp only[q0j.next4,q0j.round4,evz,Nat.reduceLT,hkA,hkB,q7n,q3l,gU (show B.length<=k by omega),List.zip_nil_right,List.find?_nil]
omit ok in
theorem qyy{i j:Nat}{A B:List Nat}{Rest:R}(hi:i<a.length)(hB:∀q∈B,q<b.length)(hBl:B.length<=2)
 (hrest:∀f,q0j.at2 8 (f+1) (q0j.st2 (cells l) (cells a) (cells b) (i:Nat) (j:Nat) (cells T) (b.length:Nat) (B.length:Nat) (cells (ints A)) (cells (ints B)))=Rest) :
 ∀n k f,k+n=B.length->n<f->
  q0j.at2 8 f (q0j.st2 (cells l) (cells a) (cells b) (i:Nat) (j:Nat) (cells T) (b.length:Nat) (k:Nat) (cells (ints A)) (cells (ints B)))=
   if(B.drop k).any (fun q=>!T.getD (i*b.length+q) false)then some (.bool false,[])else Rest:=by
 have hla:=ha.le;have hlb:=hb.le;intro n;induction n with
 |zero=>
  intro k f hk hf;obtain⟨f,rfl⟩:∃x,f=x+1:=⟨f-1,by omega⟩;obtain rfl:k=B.length:=by omega
  rw[hrest,gU (gAI _)];rfl
 |succ n ihn=>
  intro k f hk hf;obtain⟨f,rfl⟩:∃x,f=x+1:=⟨f-1,by omega⟩;have hkB:k<B.length:=by omega
  have hq:=hB _ (gG hkB);have hin:i*b.length+B[k]<T.length:=by rw[hT];exact qc0 hi hq
  have:=ihn (k+1) f (by omega) (by omega);rw[gH hkB,List.any_cons];simp only[q0j.next2,q0j.round2,evz,Nat.reduceLT,hkB,q7n,q3l,q1r,ql0 hi hq hla hlb,hin,qxc hin,qkp,qf5];cases T.getD (i*b.length+B[k]) false with
  |false=>simp
  |true=>
   rw[q0k (by omega)];simp only[evz,Nat.reduceLT,Bool.not_true,Bool.false_or];exact this
theorem qyn{o:List Int}{i j:Nat}{A:List Nat}{Rest:R}(hj:j<b.length)(hA:∀p∈A,p<a.length)(hAl:A.length<=2)
 (hrest:∀f,q0j.at0 8 (f+1) (q0j.st0 (cells l) (cells o) (cells a) (cells b) (i:Nat) (j:Nat) (cells T) (b.length:Nat) (A.length:Nat) (cells (ints A)))=Rest) :
 ∀n k f,k+n=A.length->n<f->
  q0j.at0 8 f (q0j.st0 (cells l) (cells o) (cells a) (cells b) (i:Nat) (j:Nat) (cells T) (b.length:Nat) (k:Nat) (cells (ints A)))=
   if(A.drop k).any (fun p=>decide (q1i l a p=q1i l b j)||T.getD (p*b.length+j) false)then some (.bool true,[])else Rest:=by
 have hla:=ha.le;have hlb:=hb.le;intro n;induction n with
 |zero=>
  intro k f hk hf;obtain⟨f,rfl⟩:∃x,f=x+1:=⟨f-1,by omega⟩;obtain rfl:k=A.length:=by omega
  rw[hrest,gU (gAI _)];rfl
 |succ n ihn=>
  intro k f hk hf;obtain⟨f,rfl⟩:∃x,f=x+1:=⟨f-1,by omega⟩;have hkA:k<A.length:=by omega
  have hp:=hA _ (gG hkA);have hin:A[k]*b.length+j<T.length:=by rw[hT];exact qc0 hp hj
  have:=ihn (k+1) f (by omega) (by omega);rw[gH hkA,List.any_cons];simp only[q0j.next0,q0j.round0,evz,Nat.reduceLT,hkA,q7n,q3l,q1r,ql0 hp hj hla hlb,hin,qxc hin,qkp,qf5,(q74 ok ha hb hp hj).eq];cases T.getD (A[k]*b.length+j) false with
  |true=>simp
  |false=>
   by_cases e:q1i l a A[k]=q1i l b j
   ·simp[e]
   ·rw[q0k (by omega)];simp only[evz,Nat.reduceLT,e,Bool.or_false,Bool.false_or];exact this
theorem q0j(hol:o.length<=1048576)(ho:∀n:Int,0<=n->n<l.length->n∈o){i j:Nat}(hi:i<a.length)(hj:j<b.length) :
 Call F.q0j [.rref [slc l] 0,slc o,slc a,slc b,.int .i64 i,.int .i64 j,slc T] (.bool (cell l o a b (fun p q=>T.getD (p*b.length+q) false) i j)):=by
 have hai:a.getD i 0=a[i]:=q6v hi;have hbj:b.getD j 0=b[j]:=q6v hj;have hla:=ha.le;have hlb:=hb.le;have hsl:=qao l a i;obtain⟨h1,h2,_⟩:=q3n ha hi;unfold cell;rw[hai,hbj];refine q0q rfl 8 ((q0j.ev _ _ _ _ _ _ _ _).trans ?_);by_cases hy:b[j]<0
 ·by_cases hx:0<=a[i]
  ·have hx':a[i]>=0:=hx;have hc:=(q1t (q1i l a i) b[j] (by omega)).eq
   have hm:decide (((List.count b[j] (q1i l a i):Nat):Int)>0)=decide (b[j]∈q1i l a i):=by
    rw[decide_eq_decide,<- List.count_pos_iff];omega
   simp only[evz,Nat.reduceLT,hi,hj,gA,q1r,hy,hx',hx,(q9c ok ha hi).eq,Bool.true_and];rw[q1o (by simp;omega),qbi];unfold q1i at hc hm ⊢;simp only[hc,evz,Nat.reduceLT,hm]
  ·have hx':¬ a[i]>=0:=hx;simp only[evz,Nat.reduceLT,hi,hj,gA,q1r,hy,hx',hx,Bool.false_and]
 by_cases hx:a[i]<0
 ·simp only[evz,Nat.reduceLT,hi,hj,gA,q1r,hy,hx]
 have hA:∀p∈q34 l a i,i<p/\p<a.length:=fun p hp=>q5a ha hi hp;have hB:∀q∈q34 l b j,j<q/\q<b.length:=fun q hq=>q5a hb hj hq;have hAl:=qb1 ok a i;have hBl:=qb1 ok b j;have ix:=(q2b o a[i] (by omega)).eq;have iy:=(q2b o b[j] (by omega)).eq;have sa:=(q1s ok ha hi (by omega)).eq;have sb:=(q1s ok hb hj (by omega)).eq
 have hne:(rank o b[j]<rank o a[i])<->(¬ rank o a[i]<rank o b[j])/\a[i]≠b[j]:=by
  have n1:=q4j.1 (ha.node _ (gG hi));constructor
  ·intro h;refine⟨by omega,fun e=>?_⟩;rw[e]at h;omega
  ·rintro⟨h1,h2⟩;rcases Int.lt_or_le (rank o b[j]) (rank o a[i])with h|h
   ·exact h
   ·exact absurd (qlg (ho _ (by omega) (by omega)) (by omega)) h2
 generalize hAA:q34 l a i=A at hA hAl sa;generalize hBB:q34 l b j=B at hB hBl sb;have e4:=qyp ok ha hb hT (A:=A) (B:=B) hAl (fun p hp=>(hA p hp).2) (fun q hq=>(hB q hq).2) A.length 0 8 (by omega) (by omega);let Rest2:R:=if a[i]≠b[j]then some (.bool true,[])else some (.bool (match ((A.drop 0).zip (B.drop 0)).find? fun x=>!decide (q1i l a x.1=q1i l b x.2)with|some x=>T.getD (x.1*b.length+x.2) false|none=>false),[])
 have e2:=qyy (l:=l) ha hb hT (i:=i) (j:=j) (A:=A) (B:=B) (Rest:=Rest2) hi (fun q hq=>(hB q hq).2) hBl (fun f=>by
  simp only[q0j.next2,q0j.round2,evz,Nat.reduceLT,gAK,q3l,hi,hj,gA,q1r,Rest2];by_cases e:a[i]=b[j]
  ·simp only[e,evz,Nat.reduceLT];rw[if_neg (fun h=>h rfl)];exact e4
  ·simp[e]) B.length 0 8 (by omega) (by omega)
 let Rest0:R:=if rank o a[i]<rank o b[j]then some (.bool false,[])else if(B.drop 0).any (fun q=>!T.getD (i*b.length+q) false)then some (.bool false,[])else Rest2
 have e0:=qyn ok ha hb hT (o:=o) (i:=i) (j:=j) (A:=A) (Rest:=Rest0) hj (fun p hp=>(hA p hp).2) hAl (fun f=>by
  simp only[q0j.next0,q0j.round0,evz,Nat.reduceLT,gAK,q3l,hi,hj,gA,q1r,ix,iy,sb,Rest0];by_cases hr:rank o a[i]<rank o b[j]
  ·rw[if_pos hr,if_pos hr]
  ·rw[if_neg hr,if_neg hr];exact e2) A.length 0 8 (by omega) (by omega)
 simp only[evz,Nat.reduceLT,hi,hj,gA,q1r,hy,hx,sa];refine Eq.trans e0 ?_;simp only[Rest0,Rest2,List.drop_zero];by_cases c1:A.any (fun p=>decide (q1i l a p=q1i l b j)||T.getD (p*b.length+j) false)=true
 ·rw[if_pos c1,if_pos c1]
 rw[if_neg c1,if_neg c1];by_cases c2:rank o a[i]<rank o b[j]
 ·rw[if_pos c2,if_pos c2]
 rw[if_neg c2,if_neg c2];by_cases c3:B.any (fun q=>!T.getD (i*b.length+q) false)=true
 ·rw[if_pos c3,if_pos c3]
 rw[if_neg c3,if_neg c3];by_cases c4:rank o b[j]<rank o a[i]
 ·rw[if_pos c4,if_pos (hne.1 c4).2]
 ·rw[if_neg c4,if_neg (fun h=>c4 (hne.2 ⟨c2,h⟩))]
end
omit ok in
theorem qug{T:List Bool}{k:Nat}(h:k<T.length)(v:Bool):setCells (cells T) (k*1) [.bool v]=cells (T.set k v):=qcs T 1 k rfl v h
omit ok in
theorem qv3(n:Nat):repT n [.bool false]=cells (List.replicate n false):=qtt n false
def Done(l:List Symbol)(o a b:List Int)(T:List Bool)(n:Nat):Prop:=
 T.length=a.length*b.length/\∀p q,p<a.length->q<b.length->n<=p*b.length+q->T.getD (p*b.length+q) false=gt l o a b p q
omit ok in
theorem qy4{n p q i j:Nat}(hq:q<n)(hj:j<n)(h:p*n+q=i*n+j):p=i/\q=j:=by
 rcases Nat.lt_trichotomy p i with h1|h1|h1
 ·have:(p+1)*n<=i*n:=gAO _ h1;rw[Nat.succ_mul]at this;omega
 ·subst h1;exact⟨rfl,by omega⟩
 ·have:(i+1)*n<=p*n:=gAO _ h1;rw[Nat.succ_mul]at this;omega
omit ok in
theorem Done.cell{o a b:List Int}(ha:TermOk l a)(hb:TermOk l b){T:List Bool}{i j:Nat}(hi:i<a.length)(hj:j<b.length)(h:Done l o a b T (i*b.length+(j+1))) :
 cell l o a b (fun p q=>T.getD (p*b.length+q) false) i j=gt l o a b i j:=by
 rw[qqn ha hb hi hj];refine qf9 ha hb hi hj fun p q h1 h2 h3 h4 h5=>h.2 p q h3 h4 ?_;have h6:i*b.length<=p*b.length:=gAO _ h1;rcases h5 with h5|h5
 ·have:(i+1)*b.length<=p*b.length:=gAO _ h5;rw[Nat.succ_mul]at this;omega
 ·omega
omit ok in
theorem Done.set{o a b:List Int}{T:List Bool}{i j:Nat}(hi:i<a.length)(hj:j<b.length)(h:Done l o a b T (i*b.length+(j+1))):Done l o a b (T.set (i*b.length+j) (gt l o a b i j)) (i*b.length+j):=by
 have hin:=qc0 hi hj;refine⟨by rw[List.length_set];exact h.1,fun p q hp hq hle=>?_⟩;by_cases e:i*b.length+j=p*b.length+q
 ·obtain⟨rfl,rfl⟩:=qy4 hq hj e.symm;simp[gI,h.1,hin]
 ·have:=h.2 p q hp hq (by omega);rw[<- this,gI,gI,List.getElem?_set_ne e]
theorem qxv{o a b:List Int}(ha:TermOk l a)(hb:TermOk l b)(hol:o.length<=1048576)(ho:∀n:Int,0<=n->n<l.length->n∈o)(L0:St->R){i:Nat}(hi:i<a.length) :
 ∀(k f:Nat)(T:List Bool),k<=b.length->k<f->Done l o a b T (i*b.length+k)->∃T',Done l o a b T' (i*b.length)/\
  q0v.at2 25 L0 f (q0v.st2 (cells l) (cells o) (cells a) (cells b) (b.length:Nat) (i:Nat) ((k:Int)-1) (cells T))=
   L0 (q0v.st0 (cells l) (cells o) (cells a) (cells b) (b.length:Nat) ((i:Int)-1) (cells T')):=by
 have hla:=ha.le;have hlb:=hb.le;intro k;induction k with
 |zero=>
  intro f T hk hf hd;obtain⟨f,rfl⟩:∃x,f=x+1:=⟨f-1,by omega⟩;refine⟨T,by simpa using hd,?_⟩;have h1:¬(((0:Nat):Int)-1>=0):=by omega
  simp only[q0v.next2,q0v.round2,qer];rw[if_neg h1,q2y (by omega)]
 |succ k ih=>
  intro f T hk hf hd;obtain⟨f,rfl⟩:∃x,f=x+1:=⟨f-1,by omega⟩;have hj:k<b.length:=by omega
  have hin:i*b.length+k<T.length:=by rw[hd.1];exact qc0 hi hj
  obtain⟨T',hd',h'⟩:=ih f (T.set (i*b.length+k) (gt l o a b i k)) (by omega) (by omega) (hd.set hi hj);refine⟨T',hd',?_⟩;have e:((k+1:Nat):Int)-1=(k:Int):=by omega
  have hc:=q0j ok ha hb hd.1 hol ho hi hj;rw[hd.cell ha hb hi hj]at hc;have h1:(k:Int)>=0:=by omega
  rw[e];simp only[q0v.next2,q0v.round2,evz,Nat.reduceLT,h1,hc.eq,ql0 hi hj hla hlb,hin,qf5];rw[q2y (by omega),if_pos (by rw[q0m,qf5];omega),qug hin];exact h'
theorem q0v{o a b:List Int}(ha:TermOk l a)(hb:TermOk l b)(hol:o.length<=1048576)(ho:∀n:Int,0<=n->n<l.length->n∈o) :
 ∃T,Done l o a b T 0/\Call F.q0v [.rref [slc l] 0,slc o,slc a,slc b] (slc T):=by
 have hla:=ha.le;have hlb:=hb.le
 have outer:∀(m f:Nat)(T:List Bool),m<=a.length->m<f->Done l o a b T (m*b.length)->∃T',Done l o a b T' 0/\
  q0v.at0 25 f (q0v.st0 (cells l) (cells o) (cells a) (cells b) (b.length:Nat) ((m:Int)-1) (cells T))=some (slc T',[]):=by
  intro m;induction m with
  |zero=>
   intro f T hm hf hd;obtain⟨f,rfl⟩:∃x,f=x+1:=⟨f-1,by omega⟩;refine⟨T,by simpa using hd,?_⟩;have h1:¬(((0:Nat):Int)-1>=0):=by omega
   simp only[q0v.next0,q0v.round0,qer];rw[if_neg h1];rfl
  |succ m ih=>
   intro f T hm hf hd;obtain⟨f,rfl⟩:∃x,f=x+1:=⟨f-1,by omega⟩;have e:((m+1:Nat):Int)-1=(m:Int):=by omega
   have h1:(m:Int)>=0:=by omega
   obtain⟨T1,hd1,h1'⟩:=qxv ok ha hb hol ho (q0v.at0 25 f) (i:=m) (by omega) b.length 25 T (gAI _) (by omega) (by rw[<- Nat.succ_mul];exact hd);obtain⟨T',hd',h'⟩:=ih f T1 (by omega) (by omega) hd1;refine⟨T',hd',?_⟩;rw[e];simp only[q0v.next0,q0v.round0,qer];rw[if_pos h1,q2y (by omega),h1',h']
 have hmul:a.length*b.length<=24*24:=Nat.mul_le_mul hla hlb;obtain⟨T,hd,h⟩:=outer a.length 25 (List.replicate (a.length*b.length) false) (gAI _) (by omega) ⟨by simp,fun p q hp hq hle=>by have:=qc0 hp hq;omega⟩;refine⟨T,hd,q0q rfl 25 ((q0v.ev _ _ _ _ _).trans ?_)⟩;have hw:IntKind.wrap .i64 ((a.length:Int)*(b.length:Int))=((a.length*b.length:Nat):Int):=by rw[<- Int.natCast_mul];exact q2y (by omega)
 simp only[q53,q3o,hw,gR,qv3];rw[q1o (by simp;omega),q2y (by omega)];exact h
theorem q6k{o a b:List Int}(ha:TermOk l a)(hb:TermOk l b)(hol:o.length<=1048576)(ho:∀n:Int,0<=n->n<l.length->n∈o) :
 Call F.q6k [.rref [slc l] 0,slc o,slc a,slc b] (.bool (gt l o a b 0 0)):=by
 obtain⟨T,hd,h⟩:=q0v ok ha hb hol ho;have h1:=ha.pos;have h2:=hb.pos;have hT:0<T.length:=by rw[hd.1];exact Nat.mul_pos h1 h2
 have h3:=hd.2 0 0 h1 h2 (Nat.zero_le _);simp only[Nat.zero_mul,Nat.add_zero]at h3;refine q0q rfl 0 ((q6k.ev _ _ _ _ _).trans ?_);have hg:=bget (T:=T) (k:=0) hT;rw[Nat.zero_mul,h3]at hg;simp only[evz,Nat.reduceLT,h.eq,qf5,hg];rw[show inB (0:Int) T.length=true from(q61 0 T.length).trans (by simpa using hT)];rfl
end
theorem TermOk.range{l:List Symbol}(ok:SigOk ⟨l⟩){t:List Int}(h:TermOk l t):∀n∈t,-4611686018427387904<=n/\n<=4611686018427387904:=fun n hn=>by
 have:=q4j.1 (h.node n hn);have hle:l.length<=6:=ok.le;omega
theorem q87(t:List Int):Call F.q87 [slc t] (.agg (enc (if 24<t.length then(⟨2,[]⟩:TermResult)else⟨0,t⟩))):=by
 refine q0q rfl 0 ((q87.ev _ _).trans ?_);simp only[evz,Nat.reduceLT,gt_iff_lt];by_cases h:24<t.length
 ·have h':(24:Int)<t.length:=by omega
  simp only[h,h',evz,Nat.reduceLT,q54,q65]
 ·have h':¬(24:Int)<t.length:=by omega
  simp only[h,h',evz,Nat.reduceLT,q54]
theorem q72(t:List Int)(n:Int)(hl:t.length<=4294967296):Call F.q72 [slc t,.int .i64 n] (.bool (inR n 0 (t.length-1))):=by
 refine q0q rfl 0 ((q72.ev _ _ _).trans ?_);simp only[evz,Nat.reduceLT,q2y (x:=(t.length:Int)-1) (by omega),(q5h _ _ _).eq]
theorem getE{es:List Equation}{k:Nat}(h:k<es.length):es.getD k ⟨[],[]⟩=es[k]:=by rw[gI,gA h];rfl
theorem qbf{a:Int->Nat}:∀{x r q:List Int}{k:Nat},skip a k x=some q->skip a k (x++r)=some (q++r)
 |x,r,q,0,h=>by rw[q45]at h;cases h;rw[q45]
 |[],r,q,k+1,h=>by cases h
 |n::x,r,q,k+1,h=>by
  rw[skip]at h;rw[List.cons_append,skip];exact qbf h
theorem qpy{a:Int->Nat}:∀{x r:List Int}{k:Nat},skip a k (x++r)=some r->skip a k x=some []
 |x,r,0,h=>by
  rw[q45]at h;have:=congrArg List.length (Option.some.inj h);rw[gM]at this;have:x=[]:=gL (by omega);subst this;rfl
 |[],r,k+1,h=>by
  obtain⟨p,hp,hk⟩:=qbz h;have h1:=congrArg List.length hp;rw[List.nil_append,gM]at h1;have h2:=hk (by omega);omega
 |n::x,r,k+1,h=>by
  rw[List.cons_append,skip]at h;rw[skip];exact qpy h
theorem qlk{a:Int->Nat}{m:Nat}{r:List Int}(h:skip a m []=some r):m=0/\r=[]:=by
 cases m with
 |zero=>rw[q45]at h;cases h;exact⟨rfl,rfl⟩
 |succ m=>cases h
theorem q56{l:List Symbol}{t:List Int}(ht:TermOk l t){p:Nat}(hp:p<t.length):t.drop p=q1i l t p++t.drop (q3v l t p)/\(q1i l t p).length=q3v l t p-p/\skip (ar l) 1 (t.drop p)=some (t.drop (q3v l t p)):=by
 obtain⟨h1,h2,_⟩:=q3n ht hp;have hl:(q1i l t p).length=q3v l t p-p:=by simp[q1i];omega
 refine⟨?_,hl,?_⟩
 ·have e:t.drop (q3v l t p)=(t.drop p).drop (q3v l t p-p):=by rw[List.drop_drop];congr 1;omega
  have e2:q1i l t p=(t.drop p).take (q3v l t p-p):=by unfold q1i;rw[List.drop_take]
  rw[e,e2,List.take_append_drop]
 ·obtain⟨q,hq⟩:=qdc (p:=p) ht.skip (by simpa using hp);have:=(qh7 hq).1;rw[hq];unfold q3v;rw[hq];exact congrArg some this
theorem q6b{l:List Symbol}{t:List Int}(ht:TermOk l t){p:Nat}(hp:p<t.length):TermOk l (q1i l t p):=by
 obtain⟨h1,h2,h3⟩:=q56 ht hp;obtain⟨h4,h5,_⟩:=q3n ht hp;have:=ht.le;refine⟨by omega,by omega,fun n hn=>ht.node n ?_,?_⟩
 ·exact List.mem_of_mem_drop (h1▸gJ _ hn)
 ·rw[h1]at h3;exact qpy h3
theorem qev{l:List Symbol}{t:List Int}(ht:TermOk l t){p:Nat}(hp:p<t.length){i:Nat}(hi:i<(q1i l t p).length) :
 p+i<t.length/\(q1i l t p).getD i 0=t.getD (p+i) 0/\q3v l t (p+i)=p+q3v l (q1i l t p) i/\q1i l (q1i l t p) i=q1i l t (p+i):=by
 obtain⟨h1,h2,h3⟩:=q56 ht hp;obtain⟨h4,h5,_⟩:=q3n ht hp;have hu:=q6b ht hp;have hpi:p+i<t.length:=by omega
 obtain⟨h6,h7,h8⟩:=q56 hu hi;obtain⟨k1,k2,k3⟩:=q56 ht hpi;obtain⟨h9,h10,_⟩:=q3n hu hi;obtain⟨k4,k5,_⟩:=q3n ht hpi
 have hd:t.drop (p+i)=(q1i l t p).drop i++t.drop (q3v l t p):=by
  rw[<- List.drop_drop,h1,List.drop_append_of_le_length (by omega)]
 have e1:q3v l t (p+i)=p+q3v l (q1i l t p) i:=by
  have h:=qbf (r:=t.drop (q3v l t p)) h8;rw[<- hd,k3]at h;have:=congrArg List.length (Option.some.inj h);simp only[gAA,gM]at this;omega
 refine⟨hpi,?_,e1,?_⟩
 ·have:=congrArg (fun x=>x[0]?) hd;simp only[gV,Nat.add_zero]at this;rw[gI,gI,this,List.getElem?_append_left (by simp;omega),gV,Nat.add_zero]
 ·have q1:q1i l t (p+i)=(t.drop (p+i)).take (q3v l t (p+i)-(p+i)):=by unfold q1i;rw[List.drop_take]
  have q2:q1i l (q1i l t p) i=((q1i l t p).drop i).take (q3v l (q1i l t p) i-i):=by
   show((q1i l t p).take (q3v l (q1i l t p) i)).drop i=_;rw[List.drop_take]
  rw[q1,q2,hd,e1,List.take_append_of_le_length (by simp;omega)];congr 1;omega
abbrev Bnd:=List Int×List (List Int)
def q80(vs:List Int)(v:Int):Nat:=(vs.takeWhile fun x=>decide (x<v)).length
def ins{α:Type}(l:List α)(i:Nat)(x:α):List α:=l.take i++x::l.drop i
def bput(b:Bnd)(v:Int)(t:List Int):Bnd:=(ins b.1 (q80 b.1 v) v,ins b.2 (q80 b.1 v) t)
theorem qe5(vs:List Int)(v:Int):q80 vs v<=vs.length:=by
 have:=(List.takeWhile_sublist (l:=vs) (p:=fun x=>decide (x<v))).length_le;exact this
theorem qkl:∀(vs:List Int)(v:Int)(i:Nat)(h:i<q80 vs v)(h':i<vs.length),vs[i]<v
 |[],v,i,h,h'=>by simp at h'
 |x::vs,v,i,h,h'=>by
  unfold q80 at h;rw[List.takeWhile_cons]at h;by_cases hx:x<v
  ·rw[if_pos (by simpa using hx)]at h;cases i with
   |zero=>exact hx
   |succ i=>exact qkl vs v i (by simpa[q80]using h) (by simpa using h')
  ·rw[if_neg (by simpa using hx)]at h;simp at h
theorem qfm:∀(vs:List Int)(v:Int)(h':q80 vs v<vs.length),¬ vs[q80 vs v]<v
 |[],v,h'=>by simp at h'
 |x::vs,v,h'=>by
  by_cases hx:x<v
  ·have e:q80 (x::vs) v=q80 vs v+1:=by unfold q80;rw[List.takeWhile_cons,if_pos (by simpa using hx)];rfl
   have:=qfm vs v (by rw[e]at h';simpa using h');simpa[e]using this
  ·have e:q80 (x::vs) v=0:=by unfold q80;rw[List.takeWhile_cons,if_neg (by simpa using hx)];rfl
   simpa[e]using hx
theorem q7u{α:Type}(l:List α)(i:Nat)(x:α)(h:i<=l.length):(ins l i x).length=l.length+1:=by simp[ins];omega
theorem qp1{α:Type}{l:List α}{i:Nat}{x y:α}(h:y∈ins l i x):y=x\/y∈l:=by
 unfold ins at h;rcases gO.1 h with h|h
 ·exact .inr (List.mem_of_mem_take h)
 ·rcases gK.1 h with h|h
  ·exact .inl h
  ·exact .inr (List.mem_of_mem_drop h)
structure MB(l:List Symbol)(b:Bnd)(k:Nat):Prop where
 len:b.1.length=b.2.length
 le:b.1.length<=k
 var:∀v∈b.1,0<=v/\v<=11
 tm:∀t∈b.2,TermOk l t
theorem MB.nil(l:List Symbol):MB l ([],[]) 0:=⟨rfl,gAI _,by simp,by simp⟩
theorem MB.up{l:List Symbol}{b:Bnd}{k k':Nat}(h:MB l b k)(hk:k<=k'):MB l b k':=⟨h.len,Nat.le_trans h.le hk,h.var,h.tm⟩
theorem MB.put{l:List Symbol}{b:Bnd}{k:Nat}(h:MB l b k){v:Int}(hv:0<=v/\v<=11){t:List Int}(ht:TermOk l t):MB l (bput b v t) (k+1):=by
 have hi:=qe5 b.1 v;have hlen:=h.len;have:=h.le;refine⟨?_,?_,fun x hx=>?_,fun x hx=>?_⟩
 ·unfold bput;rw[q7u _ _ _ hi,q7u _ _ _ (by omega)];omega
 ·unfold bput;rw[q7u _ _ _ hi];omega
 ·rcases qp1 hx with rfl|hx
  ·exact hv
  ·exact h.var x hx
 ·rcases qp1 hx with rfl|hx
  ·exact ht
  ·exact h.tm x hx
theorem MB.ok{l:List Symbol}{b:Bnd}{k:Nat}(h:MB l b k)(hk:k<=24):BindOk b.1 b.2:=
 ⟨h.len,by have:=h.le;omega,fun v hv=>(h.var v hv).1,fun t ht=>⟨(h.tm t ht).pos,by have:=(h.tm t ht).le;omega⟩⟩
theorem qe0{vs:List Int}{ts:List (List Int)}(hl:vs.length=ts.length){v:Int}(h:q3i vs ts v=none):v∉vs:=fun hv=>by
 unfold q3i at h;rcases q6s (fun x:Int=>decide (x=v)) vs with⟨h1,hno⟩|⟨i,hi,h1,_,_⟩
 ·have:=hno v hv;simp at this
 ·rw[h1,if_neg (by omega),gR,gA (by omega)]at h;cases h
def mgo(l:List Symbol)(t:List Int):List Int->Bnd->Nat->Option (Bnd×Nat)
 |[],b,p=>some (b,p)
 |n::q,b,p=>
  if t.length<=p then none
  else if 0<=n then(if t.getD p 0=n then mgo l t q b (p+1)else none)
  else match q3i b.1 b.2 (-1-n)with
   |none=>mgo l t q (bput b (-1-n) (q1i l t p)) (p+(q1i l t p).length)
   |some o=>if o=q1i l t p then mgo l t q b (p+(q1i l t p).length)else none
structure Both(l:List Symbol)(t q:List Int)(p:Nat)(r:List Int):Prop where
 both:∃m,skip (ar l) m q=some []/\skip (ar l) m (t.drop p)=some r
theorem Both.start{l:List Symbol}{t q:List Int}(ht:TermOk l t)(hq:TermOk l q){p:Nat}(hp:p<t.length):Both l t q p (t.drop (q3v l t p)):=⟨1,hq.skip,(q56 ht hp).2.2⟩
theorem Both.stop{l:List Symbol}{t:List Int}{p:Nat}{r:List Int}(h:Both l t [] p r):t.drop p=r:=by
 obtain⟨m,h1,h2⟩:=h.both;obtain⟨rfl,_⟩:=qlk h1;rw[q45]at h2;exact Option.some.inj h2
theorem Both.lt{l:List Symbol}{t q:List Int}{n:Int}{p:Nat}{r:List Int}(h:Both l t (n::q) p r):p<t.length:=by
 obtain⟨m,h1,h2⟩:=h.both;cases m with
 |zero=>rw[q45]at h1;cases h1
 |succ m=>
  rcases Nat.lt_or_ge p t.length with h|h
  ·exact h
  ·rw[gU h]at h2;cases h2
theorem Both.node{l:List Symbol}{t q:List Int}{n:Int}{p:Nat}{r:List Int}(h:Both l t (n::q) p r)(hn:t.getD p 0=n):Both l t q (p+1) r:=by
 have hp:=h.lt;obtain⟨m,h1,h2⟩:=h.both;cases m with
 |zero=>rw[q45]at h1;cases h1
 |succ m=>
  rw[gH hp,skip,<- q6v hp,hn]at h2;rw[skip]at h1;exact⟨_,h1,h2⟩
theorem Both.var{l:List Symbol}{t q:List Int}{n:Int}{p:Nat}{r:List Int}(ht:TermOk l t)(h:Both l t (n::q) p r)(hn:n<0):Both l t q (p+(q1i l t p).length) r:=by
 have hp:=h.lt;obtain⟨h3,h4,h5⟩:=q56 ht hp;obtain⟨h6,h7,_⟩:=q3n ht hp;obtain⟨m,h1,h2⟩:=h.both;cases m with
 |zero=>rw[q45]at h1;cases h1
 |succ m=>
  rw[skip,q9l l hn,Nat.add_zero]at h1;rw[show m+1=1+m by omega,qaf,h5]at h2;refine⟨m,h1,?_⟩;rw[h4,show p+(q3v l t p-p)=q3v l t p by omega];exact h2
theorem qkq{l:List Symbol}{t:List Int}(ht:TermOk l t){p:Nat}(hp:p<t.length):∀(q:List Int)(b:Bnd)(i:Nat),Both l (q1i l t p) q i []->
 mgo l t q b (p+i)=(mgo l (q1i l t p) q b i).map fun x=>(x.1,p+x.2)
 |[],b,i,h=>rfl
 |n::q,b,i,h=>by
  have hu:=q6b ht hp;have hi:=h.lt;obtain⟨h1,h2,h3,h4⟩:=qev ht hp hi;have n1:¬ t.length<=p+i:=by omega
  have n2:¬(q1i l t p).length<=i:=by omega
  rw[mgo,mgo,if_neg n1,if_neg n2,h2,h4];by_cases hn:0<=n
  ·rw[if_pos hn,if_pos hn];by_cases e:t.getD (p+i) 0=n
   ·rw[if_pos e,if_pos e];exact qkq ht hp q b (i+1) (h.node (by rw[h2,e]))
   ·rw[if_neg e,if_neg e];rfl
  ·rw[if_neg hn,if_neg hn];have hv:=h.var hu (by omega);rw[h4]at hv;cases q3i b.1 b.2 (-1-n)with
   |none=>
    have:=qkq ht hp q (bput b (-1-n) (q1i l t (p+i))) _ hv;rw[<- Nat.add_assoc]at this;exact this
   |some o=>
    show(if o=_ then _ else none)=Option.map _ (if o=_ then _ else none);by_cases e:o=q1i l t (p+i)
    ·rw[if_pos e,if_pos e];have:=qkq ht hp q b _ hv;rw[<- Nat.add_assoc]at this;exact this
    ·rw[if_neg e,if_neg e];rfl
theorem qf2{l:List Symbol}{t:List Int}(ht:TermOk l t){r:List Int}:∀(q:List Int)(b:Bnd)(p k:Nat),Both l t q p r->p<=t.length->MB l b k->k+q.length<=24->(∀n∈q,q5x l n=true)->∀x,mgo l t q b p=some x->t.drop x.2=r/\x.2<=t.length/\MB l x.1 (k+q.length)
 |[],b,p,k,h,hp,hb,hk,hq,x,hx=>by
  cases hx;exact⟨h.stop,hp,by simpa using hb⟩
 |n::q,b,p,k,h,hp,hb,hk,hq,x,hx=>by
  have hlt:=h.lt;obtain⟨h6,h7,_⟩:=q3n ht hlt;have hs:=(q56 ht hlt).2.1;rw[mgo,if_neg (by omega)]at hx;rw[gAB]at hk ⊢;have e0:k+1+q.length=k+(q.length+1):=by omega
  by_cases hn:0<=n
  ·rw[if_pos hn]at hx;split at hx
   ·rename_i e;have:=qf2 ht q b (p+1) (k+1) (h.node e) (by omega) (hb.up (by omega)) (by omega) (fun n hn=>hq n (gF _ hn)) x hx;rw[e0]at this;exact this
   ·cases hx
  ·rw[if_neg hn]at hx;have hnode:=q4j.1 (hq n (by simp));split at hx
   ·have:=qf2 ht q _ _ (k+1) (h.var ht (by omega)) (by omega) (hb.put (v := -1-n) (by omega) (q6b ht hlt)) (by omega) (fun n hn=>hq n (gF _ hn)) x hx;rw[e0]at this;exact this
   ·split at hx
    ·have:=qf2 ht q b _ (k+1) (h.var ht (by omega)) (by omega) (hb.up (by omega)) (by omega) (fun n hn=>hq n (gF _ hn)) x hx;rw[e0]at this;exact this
    ·cases hx
def q50(l:List Symbol)(q t:List Int)(p:Nat):Option Bnd:=(mgo l t q ([],[]) p).map (·.1)
theorem qbx{l:List Symbol}{q t:List Int}(hq:TermOk l q)(ht:TermOk l t){p:Nat}(hp:p<t.length):q50 l q (q1i l t p) 0=q50 l q t p:=by
 have hu:=q6b ht hp;have hb:=Both.start hu hq (p:=0) (by have:=hu.pos;omega);have he:t.drop p=q1i l t p++t.drop (q3v l t p):=(q56 ht hp).1
 have e0:(q1i l t p).drop (q3v l (q1i l t p) 0)=[]:=by
  have:=(q56 hu (p:=0) (by have:=hu.pos;omega)).2.2;rw[List.drop_zero,hu.skip]at this;exact(Option.some.inj this).symm
 rw[e0]at hb;have:=qkq ht hp q ([],[]) 0 hb;unfold q50;rw[Nat.add_zero]at this;rw[this];cases mgo l (q1i l t p) q ([],[]) 0 <;> rfl
theorem qde{l:List Symbol}{q t:List Int}(hq:TermOk l q)(ht:TermOk l t){p:Nat}(hp:p<t.length){b:Bnd}(h:q50 l q t p=some b):MB l b q.length:=by
 unfold q50 at h;rw[gP]at h;obtain⟨x,hx,rfl⟩:=h;have:=(qf2 ht q ([],[]) p 0 (Both.start ht hq hp) (by omega) (MB.nil l) (by have:=hq.le;omega) hq.node x hx).2.2;simpa using this
end Ev.Ty
end
section
namespace Ev.Ty
section
variable {α:Type}(lt:α->α->Bool)
variable {lt}
end
end Ev.Ty
end
section
namespace Ev.Ty
open Go Ev
namespace Tm
def args:Tm->List Tm
 |v _=>[]
 |k _=>[]
 |u _ x=>[x]
 |b _ x y=>[x,y]
def size:Tm->Nat
 |v _=>1
 |k _=>1
 |u _ x=>x.size+1
 |b _ x y=>x.size+y.size+1
theorem q4r{p t:Tm}(h:p∈t.args):p.size<t.size:=by
 cases t with
 |v n=>cases h
 |k n=>cases h
 |u n x=>rw[gD.1 h];exact gAR _
 |b n x y=>
  rcases gK.1 h with rfl|h
  ·show p.size<p.size+y.size+1;omega
  ·rw[gD.1 h];show y.size<x.size+y.size+1;omega
def gr(a:Int->Nat):Tm->Prop
 |v _=>False
 |k n=>0<=n/\a n=0
 |u n x=>0<=n/\a n=1/\x.gr a
 |b n x y=>0<=n/\a n=2/\x.gr a/\y.gr a
variable {a:Int->Nat}
theorem gr.args{t p:Tm}(h:t.gr a)(hp:p∈t.args):p.gr a:=by
 cases t with
 |v n=>cases h
 |k n=>cases hp
 |u n x=>rw[gD.1 hp];exact h.2.2
 |b n x y=>
  rcases gK.1 hp with rfl|hp
  ·exact h.2.2.1
  ·rw[gD.1 hp];exact h.2.2.2
theorem gr.ok:∀{t:Tm},t.gr a->t.ok a
 |.v _,h=>h.elim
 |.k _,h=>h
 |.u _ _,h=>⟨h.1,h.2.1,h.2.2.ok⟩
 |.b _ _ _,h=>⟨h.1,h.2.1,h.2.2.1.ok,h.2.2.2.ok⟩
theorem gr.head{t:Tm}(h:t.gr a):0<=t.head/\t.args.length=a t.head:=by
 cases t with
 |v n=>cases h
 |k n=>exact⟨h.1,h.2.symm⟩
 |u n x=>exact⟨h.1,h.2.1.symm⟩
 |b n x y=>exact⟨h.1,h.2.1.symm⟩
theorem ok.args{t p:Tm}(h:t.ok a)(hp:p∈t.args):p.ok a:=by
 cases t with
 |v n=>cases hp
 |k n=>cases hp
 |u n x=>rw[gD.1 hp];exact h.2.2
 |b n x y=>
  rcases gK.1 hp with rfl|hp
  ·exact h.2.2.1
  ·rw[gD.1 hp];exact h.2.2.2
theorem ok.len{t:Tm}(ha:∀n,n<0->a n=0)(h:t.ok a):t.args.length=a t.head:=by
 cases t with
 |v n=>exact(ha n h).symm
 |k n=>exact h.2.symm
 |u n x=>exact h.2.1.symm
 |b n x y=>exact h.2.1.symm
theorem ok.head{t p:Tm}(h:t.ok a)(hp:p∈t.args):0<=t.head:=by
 cases t with
 |v n=>cases hp
 |k n=>cases hp
 |u n x=>exact h.1
 |b n x y=>exact h.1
theorem qmo{t p:Tm}(hp:p∈t.args){n:Int}(hn:n∈p.flat):n∈t.flat:=by
 cases t with
 |v m=>cases hp
 |k m=>cases hp
 |u m x=>rw[gD.1 hp]at hn;exact gF _ hn
 |b m x y=>
  rcases gK.1 hp with rfl|hp
  ·exact gF _ (gJ _ hn)
  ·rw[gD.1 hp]at hn;exact gF _ (gN _ hn)
end Tm
open Tm
inductive G(r:Int->Int):Tm->Tm->Prop
 |eq {s p}:p∈s.args->G r s p
 |sub {s t p}:p∈s.args->G r p t->G r s t
 |big {s t}:0<=s.head->0<=t.head->r t.head<r s.head->(∀q,q∈t.args->G r s q)->G r s t
 |lex {s t A B C x y}:0<=s.head->s.head=t.head->(∀q,q∈t.args->G r s q)->s.args=A++x::B->t.args=A++y::C->G r x y->G r s t
namespace G
variable {r:Int->Int}
theorem arg{s t q:Tm}(h:G r s t)(hq:q∈t.args):G r s q:=by
 induction h with
 |eq hp=>exact .sub hp (.eq hq)
 |sub hp _ ih=>exact .sub hp (ih hq)
 |big _ _ _ h=>exact h q hq
 |lex _ _ h _ _ _=>exact h q hq
theorem trans:∀(n:Nat){s t u:Tm},s.size+t.size+u.size<=n->G r s t->G r t u->G r s u:=by
 intro n;induction n with
 |zero=>intro s t u hn h1 h2;cases s <;> simp[Tm.size]at hn
 |succ n ih=>
  intro s t u hn h1 h2;cases h1 with
  |eq hp=>exact .sub hp h2
  |sub hp h1=>
   have:=q4r hp;exact .sub hp (ih (by omega) h1 h2)
  |big z1 z2 hr hq=>
   have h1:G r s t:=.big z1 z2 hr hq;cases h2 with
   |eq hu=>exact hq _ hu
   |sub hp h2=>
    have:=q4r hp;exact ih (by omega) (hq _ hp) h2
   |big _ z3 hr2 hq2=>exact .big z1 z3 (Int.lt_trans hr2 hr) fun w hw=>ih (by have:=q4r hw;omega) h1 (hq2 w hw)
   |lex z3 he hq2 _ _ _=>exact .big z1 (he▸z3) (he▸hr) fun w hw=>ih (by have:=q4r hw;omega) h1 (hq2 w hw)
  | @lex _ _ A B C x y z1 he hq e1 e2 hxy=>
    have h1:G r s t:=.lex z1 he hq e1 e2 hxy;cases h2 with
    |eq hu=>exact hq _ hu
    |sub hp h2=>
     have:=q4r hp;exact ih (by omega) (hq _ hp) h2
    |big _ z3 hr2 hq2=>exact .big z1 z3 (by rw[he];exact hr2) fun w hw=>ih (by have:=q4r hw;omega) h1 (hq2 w hw)
    | @lex _ _ A' B' C' x' y' z3 he2 hq2 e3 e4 hxy2=>
      have hall:∀w,w∈u.args->G r s w:=fun w hw=>ih (by have:=q4r hw;omega) h1 (hq2 w hw);have hx:x.size<s.size:=q4r (by rw[e1];simp);have hy:y.size<t.size:=q4r (by rw[e2];simp);have hy':y'.size<u.size:=q4r (by rw[e4];simp);rcases List.append_eq_append_iff.1 (e2.symm.trans e3)with⟨D,hA,hD⟩|⟨D,hA,hD⟩
      ·cases D with
       |nil=>
        rw[gAD]at hA;have hD:y=x'/\C=B':=by simpa using hD
        subst hA;refine .lex z1 (he.trans he2) hall e1 e4 (ih (by omega) hxy (hD.1▸hxy2))
       |cons d D=>
        have hD:y=d/\C=D++x'::B':=by simpa using hD
        rw[hA,gZ]at e4;rw[<- hD.1]at e4;exact .lex z1 (he.trans he2) hall e1 e4 hxy
      ·cases D with
       |nil=>
        rw[gAD]at hA;have hD:x'=y/\B'=C:=by simpa using hD
        subst hA;refine .lex z1 (he.trans he2) hall e1 e4 (ih (by omega) hxy (hD.1▸hxy2))
       |cons d D=>
        have hD:x'=d/\B'=D++y::C:=by simpa using hD
        rw[hA,gZ]at e1;rw[<- hD.1]at e1;exact .lex z1 (he.trans he2) hall e1 e4 hxy2
theorem irrefl:∀(n:Nat){s:Tm},s.size<=n->¬ G r s s:=by
 intro n;induction n with
 |zero=>intro s hn _;cases s <;> simp[Tm.size]at hn
 |succ n ih=>
  intro s hn h;cases h with
  |eq hp=>have:=q4r hp;omega
  |sub hp h=>exact ih (by have:=q4r hp;omega) (h.arg hp)
  |big _ _ hr _=>omega
  | @lex _ _ A B C x y _ _ _ e1 e2 hxy=>
    have e:=e1.symm.trans e2;have e:=List.append_cancel_left e;have e:x=y/\B=C:=by simpa using e
    exact ih (s:=x) (by have:x.size<s.size:=q4r (by rw[e1];simp)
                        omega) (by have:=hxy;rw[<- e.1]at this;exact this)
theorem var{a:Int->Nat}{n:Int}(hn:n<0):∀(m:Nat){x:Tm},x.size<=m->x.ok a->(G r x (.v n)<->0<=x.head/\n∈x.flat):=by
 intro m;induction m with
 |zero=>intro x hm _;cases x <;> simp[Tm.size]at hm
 |succ m ih=>
  intro x hm hx
  have up:∀p,p∈x.args->n∈p.flat->G r x (.v n):=fun p hp hnp=>by
   have hpo:=hx.args hp;by_cases h0:0<=p.head
   ·exact .sub hp ((ih (by have:=q4r hp;omega) hpo).2 ⟨h0,hnp⟩)
   ·cases p with
    |v k=>rw[gD.1 hnp];exact .eq hp
    |k k=>exact absurd hpo.1 h0
    |u k y=>exact absurd hpo.1 h0
    |b k y z=>exact absurd hpo.1 h0
  constructor
  ·intro h;cases h with
   |eq hp=>exact⟨hx.head hp,qmo hp (gD.2 rfl)⟩
   |sub hp h=>exact⟨hx.head hp,qmo hp ((ih (by have:=q4r hp;omega) (hx.args hp)).1 h).2⟩
   |big _ z _ _=>exact absurd z (by show ¬ 0<=n;omega)
   |lex z e _ _ _ _=>
    have e:x.head=n:=e;omega
  ·rintro⟨h1,h2⟩;cases x with
   |v k=>have h1:0<=k:=h1;have hx:k<0:=hx;omega
   |k k=>
    have h1:0<=k:=h1;have:=gD.1 h2;omega
   |u k y=>
    have h1:0<=k:=h1;rcases gK.1 h2 with e|h2
    ·omega
    ·exact up y (gD.2 rfl) h2
   |b k y z=>
    have h1:0<=k:=h1;rcases gK.1 h2 with e|h2
    ·omega
    ·rcases gO.1 h2 with h2|h2
     ·exact up y (List.mem_cons_self ..) h2
     ·exact up z (gF _ (gD.2 rfl)) h2
variable {a:Int->Nat}
end G
end Ev.Ty
end
section
namespace Ev.Ty
open Go Ev
open Tm
theorem qpl{a:Int->Nat}:∀(x y:Tm)(r r':List Int),x.ok a->y.ok a->x.flat++r=y.flat++r'->x=y/\r=r':=by
 have hd:∀{n m:Int}{A B:List Int},n::A=m::B->n=m:=fun h=>(List.cons.inj h).1;intro x;induction x with
 |v n=>
  intro y r r' h1 h2 h;cases y with
  |v m=>have h:n=m/\r=r':=List.cons.inj h;exact⟨by rw[h.1],h.2⟩
  |k m=>have e:=hd h;have h1:n<0:=h1;have:=h2.1;omega
  |u m y=>have e:=hd h;have h1:n<0:=h1;have:=h2.1;omega
  |b m y z=>have e:=hd h;have h1:n<0:=h1;have:=h2.1;omega
 |k n=>
  intro y r r' h1 h2 h;cases y with
  |v m=>have e:=hd h;have h2:m<0:=h2;have:=h1.1;omega
  |k m=>have h:n=m/\r=r':=List.cons.inj h;exact⟨by rw[h.1],h.2⟩
  |u m y=>have e:=hd h;have h1:=h1.2;have h2:=h2.2.1;rw[e]at h1;omega
  |b m y z=>have e:=hd h;have h1:=h1.2;have h2:=h2.2.1;rw[e]at h1;omega
 |u n x ih=>
  intro y r r' h1 h2 h;cases y with
  |v m=>have e:=hd h;have h2:m<0:=h2;have:=h1.1;omega
  |k m=>have e:=hd h;have h1:=h1.2.1;have h2:=h2.2;rw[e]at h1;omega
  |u m y=>
   have h:n=m/\x.flat++r=y.flat++r':=List.cons.inj h;obtain⟨e1,e2⟩:=ih y r r' h1.2.2 h2.2.2 h.2;exact⟨by rw[h.1,e1],e2⟩
  |b m y z=>have e:=hd h;have h1:=h1.2.1;have h2:=h2.2.1;rw[e]at h1;omega
 |b n x w ih1 ih2=>
  intro y r r' h1 h2 h;cases y with
  |v m=>have e:=hd h;have h2:m<0:=h2;have:=h1.1;omega
  |k m=>have e:=hd h;have h1:=h1.2.1;have h2:=h2.2;rw[e]at h1;omega
  |u m y=>have e:=hd h;have h1:=h1.2.1;have h2:=h2.2.1;rw[e]at h1;omega
  |b m y z=>
   have h:n=m/\(x.flat++w.flat)++r=(y.flat++z.flat)++r':=List.cons.inj h;have h':=h.2;rw[gZ,gZ]at h';obtain⟨e1,e2⟩:=ih1 y _ _ h1.2.2.1 h2.2.2.1 h';obtain⟨e3,e4⟩:=ih2 z _ _ h1.2.2.2 h2.2.2.2 e2;exact⟨by rw[h.1,e1,e3],e4⟩
theorem qbl{a:Int->Nat}{x y:Tm}(hx:x.ok a)(hy:y.ok a):x.flat=y.flat<->x=y:=
 ⟨fun h=>(qpl x y [] [] hx hy (by rw[h])).1,fun h=>by rw[h]⟩
inductive F2{α β:Type}(R:α->β->Prop):List α->List β->Prop
 |nil:F2 R [] []
 |cons {a b A B}:R a b->F2 R A B->F2 R (a::A) (b::B)
theorem F2.any{α β:Type}{R:α->β->Prop}{f:α->Bool}{P:β->Prop}{A:List α}{B:List β}(h:F2 R A B)(hf:∀a b,R a b->b∈B->(f a=true<->P b)):A.any f=true<->∃b,b∈B/\P b:=by
 induction h with
 |nil=>simp
 | @cons a b A B hr _ ih=>
   rw[List.any_cons,Bool.or_eq_true,hf a b hr (List.mem_cons_self ..),ih fun a b hr hb=>hf a b hr (gF _ hb)];constructor
   ·rintro(h|⟨b',h1,h2⟩)
    ·exact⟨b,List.mem_cons_self .., h⟩
    ·exact⟨b',gF _ h1,h2⟩
   ·rintro⟨b',h1,h2⟩;rcases gK.1 h1 with rfl|h1
    ·exact .inl h2
    ·exact .inr ⟨b',h1,h2⟩
def At(l:List Symbol)(t:List Int)(i:Nat)(x:Tm):Prop:=x.ok (ar l)/\∃r,t.drop i=x.flat++r
theorem At.facts{l:List Symbol}{t:List Int}{i:Nat}{x:Tm}(h:At l t i x):i<t.length/\t.getD i 0=x.head/\q3v l t i=i+x.flat.length/\q1i l t i=x.flat:=by
 obtain⟨hx,r,h⟩:=h;obtain⟨h1,h2,h3⟩:=qwg h
 have hs:skip (ar l) 1 (t.drop i)=some r:=by
  rw[h,skip_flat (fun n hn=>q9l l hn) x r 0 hx,q45]
 have hl:(t.drop i).length=x.flat.length+r.length:=by rw[h,gM]
 rw[gAA]at hl
 have he:q3v l t i=i+x.flat.length:=by
  unfold q3v;rw[hs];show t.length-r.length=_;omega
 refine⟨h1,?_,he,?_⟩
 ·rw[gI,h2];rfl
 ·unfold q1i;rw[he,List.drop_take,Nat.add_sub_cancel_left,h,List.take_left]
theorem At.next{l:List Symbol}{t:List Int}{i:Nat}{n:Int}{x:Tm}{r:List Int}(hx:x.ok (ar l))(h:t.drop i=n::(x.flat++r)):At l t (i+1) x:=⟨hx,r,by
 rw[<- List.drop_drop,h];rfl⟩
theorem At.args{l:List Symbol}{t:List Int}{i:Nat}{x:Tm}(h:At l t i x):F2 (At l t) (q34 l t i) x.args:=by
 obtain⟨_,h2,_,_⟩:=h.facts;obtain⟨hx,r,h⟩:=h;unfold q34;rw[h2,<- hx.len (fun n hn=>q9l l hn)];cases x with
 |v n=>exact .nil
 |k n=>exact .nil
 |u n x=>exact .cons (At.next hx.2.2 h) .nil
 |b n x y=>
  have h:t.drop i=n::(x.flat++(y.flat++r)):=by rw[h];simp[Tm.flat]
  have a1:=At.next hx.2.2.1 h;refine .cons a1 (.cons ⟨hx.2.2.2,r,?_⟩ .nil);rw[a1.facts.2.2.1,<- List.drop_drop,<- List.drop_drop,h];show(x.flat++(y.flat++r)).drop _=_;rw[List.drop_left]
theorem qit{p q p' q':Tm}{B C B' C':List Tm}:∀A A':List Tm,A++p::B=A'++p'::B'->A++q::C=A'++q'::C'->p≠q->p'≠q'->p=p'/\q=q'
 |[],[],h1,h2,_,_=>by simp at h1 h2;exact⟨h1.1,h2.1⟩
 |[],d::A',h1,h2,h,_=>by simp at h1 h2;exact absurd (h1.1.trans h2.1.symm) h
 |d::A,[],h1,h2,_,h=>by simp at h1 h2;exact absurd (h1.1.symm.trans h2.1) h
 |d::A,d'::A',h1,h2,h,h'=>by
  simp at h1 h2;exact qit A A' h1.2 h2.2 h h'
theorem qxp{r:Int->Int}{x y:Tm}:G r x y<->(∃p,p∈x.args/\(p=y\/G r p y))\/((∀q,q∈y.args->G r x q)/\((0<=x.head/\0<=y.head/\r y.head<r x.head)\/(0<=x.head/\x.head=y.head/\∃A B C p q,x.args=A++p::B/\y.args=A++q::C/\G r p q))):=by
 constructor
 ·intro h;cases h with
  |eq hp=>exact .inl ⟨_,hp,.inl rfl⟩
  |sub hp h=>exact .inl ⟨_,hp,.inr h⟩
  |big z1 z2 h1 h2=>exact .inr ⟨h2,.inl ⟨z1,z2,h1⟩⟩
  |lex z1 he h2 e1 e2 h=>exact .inr ⟨h2,.inr ⟨z1,he,_,_,_,_,_,e1,e2,h⟩⟩
 ·rintro(⟨p,hp,rfl|h⟩|⟨h2,⟨z1,z2,h1⟩|⟨z1,he,A,B,C,p,q,e1,e2,h⟩⟩)
  ·exact .eq hp
  ·exact .sub hp h
  ·exact .big z1 z2 h1 h2
  ·exact .lex z1 he h2 e1 e2 h
section
variable {l:List Symbol}{o a b:List Int}
theorem qrj{S T:List Nat}{A B:List Tm}(hA:F2 (At l a) S A)(hB:F2 (At l b) T B)(hl:A.length=B.length) :
 (((S.zip T).find? fun x=>!decide (q1i l a x.1=q1i l b x.2))=none/\A=B)\/
 ∃s t P p q X Y,((S.zip T).find? fun x=>!decide (q1i l a x.1=q1i l b x.2))=some (s,t)/\A=P++p::X/\B=P++q::Y/\p≠q/\At l a s p/\At l b t q:=by
 induction hA generalizing T B with
 |nil=>
  cases hB with
  |nil=>exact .inl ⟨rfl,rfl⟩
  |cons _ _=>simp at hl
 | @cons s p S A hr _ ih=>
   cases hB with
   |nil=>simp at hl
   | @cons t q T B hr' hB=>
     rw[List.zip_cons_cons,List.find?_cons];have e:q1i l a s=q1i l b t<->p=q:=by rw[hr.facts.2.2.2,hr'.facts.2.2.2];exact qbl hr.1 hr'.1
     by_cases h:p=q
     ·rw[show(!decide (q1i l a s=q1i l b t))=false by rw[decide_eq_true (e.2 h)];rfl];rcases ih hB (by simpa using hl)with⟨h1,h2⟩|⟨s',t',P,p',q',X,Y,h1,h2,h3,h4⟩
      ·exact .inl ⟨h1,by rw[h,h2]⟩
      ·exact .inr ⟨s',t',p::P,p',q',X,Y,h1,by rw[h2];rfl,by rw[h3,h];rfl,h4⟩
     ·rw[show(!decide (q1i l a s=q1i l b t))=true by rw[decide_eq_false (fun k=>h (e.1 k))];rfl];exact .inr ⟨s,t,[],p,q,A,B,rfl,rfl,rfl,h,hr,hr'⟩
theorem gt_G(ha:TermOk l a)(hb:TermOk l b)(hin:∀n∈a,0<=n->n∈o):∀(n:Nat){i j:Nat}{x y:Tm},x.size+y.size<=n->At l a i x->At l b j y->(gt l o a b i j=true<->G (rank o) x y):=by
 intro n;induction n with
 |zero=>intro i j x y hn _ _;cases x <;> simp[Tm.size]at hn
 |succ n ih=>
  intro i j x y hn hx hy;obtain⟨i1,i2,_,i4⟩:=hx.facts;obtain⟨j1,j2,_,j4⟩:=hy.facts;have hxo:0<=x.head->x.head∈o:=hin _ (by rw[<- i2,gI,gA i1];exact gG _)
  have c1:(q34 l a i).any (fun p=>decide (q1i l a p=q1i l b j)||gt l o a b p j)=true<->∃p,p∈x.args/\(p=y\/G (rank o) p y):=by
   refine hx.args.any fun p z hz hm=>?_;rw[Bool.or_eq_true,decide_eq_true_iff,hz.facts.2.2.2,j4,qbl hz.1 hy.1,ih (by have:=q4r hm;omega) hz hy]
  have c2:(q34 l b j).any (fun q=>!gt l o a b i q)=true<->∃q,q∈y.args/\¬ G (rank o) x q:=by
   refine hy.args.any fun p z hz hm=>?_;rw[Bool.not_eq_true',<- Bool.not_eq_true,ih (by have:=q4r hm;omega) hx hz]
  by_cases hy0:y.head<0
  ·obtain⟨n',rfl⟩:∃n',y=.v n':=by
    cases y with
    |v m=>exact⟨m,rfl⟩
    |k m=>exact absurd hy.1.1 (by show ¬ 0<=m;have:m<0:=hy0;omega)
    |u m y=>exact absurd hy.1.1 (by show ¬ 0<=m;have:m<0:=hy0;omega)
    |b m y z=>exact absurd hy.1.1 (by show ¬ 0<=m;have:m<0:=hy0;omega)
   have j2:b.getD j 0=n':=j2;have hn':n'<0:=hy0;rw[qqn ha hb i1 j1,G.var hn' _ (gAI _) hx.1];unfold cell;rw[j2,i2,if_pos hn',i4,gC,decide_eq_true_iff,decide_eq_true_iff]
  by_cases hx0:x.head<0
  ·rw[qqn ha hb i1 j1];unfold cell;rw[j2,i2,if_neg hy0,if_pos hx0];refine⟨(fun h=>by cases h),fun h=>?_⟩;cases h with
   |eq hp=>have:=hx.1.head hp;omega
   |sub hp _=>have:=hx.1.head hp;omega
   |big z _ _ _=>omega
   |lex z _ _ _ _ _=>omega
  rw[qqn ha hb i1 j1,qxp];unfold cell;rw[j2,i2,if_neg hy0,if_neg hx0];have hy0:0<=y.head:=by omega
  have hx0:0<=x.head:=by omega
  have hxo:=hxo hx0;by_cases k1:∃p,p∈x.args/\(p=y\/G (rank o) p y)
  ·rw[if_pos (c1.2 k1)];exact⟨fun _=>.inl k1,fun _=>rfl⟩
  ·rw[if_neg (fun h=>k1 (c1.1 h))];by_cases k2:∃q,q∈y.args/\¬ G (rank o) x q
   ·have k3:¬ ∀q,q∈y.args->G (rank o) x q:=fun h=>by obtain⟨q,h1,h2⟩:=k2;exact h2 (h q h1)
    rw[if_pos (c2.2 k2)];have e:(if rank o x.head<rank o y.head then false else false)=false:=by split <;> rfl
    rw[e];exact⟨(fun h=>by cases h),fun h=>h.elim (fun h=>absurd h k1) fun h=>absurd h.1 k3⟩
   ·have k3:∀q,q∈y.args->G (rank o) x q:=fun q hq=>Classical.byContradiction fun h=>k2 ⟨q,hq,h⟩;rw[if_neg (fun h=>k2 (c2.1 h))];by_cases k4:rank o x.head<rank o y.head
    ·rw[if_pos k4];refine⟨(fun h=>by cases h),fun h=>?_⟩;rcases h with h|⟨_,h|⟨_,h,_⟩⟩
     ·exact absurd h k1
     ·have:=h.2.2;omega
     ·rw[h]at k4;omega
    ·rw[if_neg k4];by_cases k5:rank o y.head<rank o x.head
     ·rw[if_pos k5];exact⟨fun _=>.inr ⟨k3,.inl ⟨hx0,hy0,k5⟩⟩,fun _=>rfl⟩
     ·rw[if_neg k5];have he:x.head=y.head:=qlg hxo (by omega);rcases qrj hx.args hy.args (by rw[hx.1.len (fun n hn=>q9l l hn),hy.1.len (fun n hn=>q9l l hn),he])with⟨h1,h2⟩|⟨s,t,P,p,q,X,Y,h1,h2,h3,h4,h5,h6⟩
      ·rw[h1];refine⟨(fun h=>by cases h),fun h=>?_⟩;rcases h with h|⟨_,h|⟨_,_,A,B,C,p,q,e1,e2,h⟩⟩
       ·exact absurd h k1
       ·have:=h.2.2;omega
       ·have e:=e1.symm.trans (h2.trans e2);have e:=List.append_cancel_left e;have e:p=q/\B=C:=by simpa using e
        rw[e.1]at h;exact absurd h (G.irrefl q.size (gAI _))
      ·rw[h1];have mp:p∈x.args:=by rw[h2];simp
       have mq:q∈y.args:=by rw[h3];simp
       show gt l o a b s t=true<->_;rw[ih (by have:=q4r mp;have:=q4r mq;omega) h5 h6];refine⟨fun h=>.inr ⟨k3,.inr ⟨hx0,he,P,X,Y,p,q,h2,h3,h⟩⟩,fun h=>?_⟩;rcases h with h|⟨_,h|⟨_,_,A,B,C,p',q',e1,e2,h⟩⟩
       ·exact absurd h k1
       ·have:=h.2.2;omega
       ·obtain⟨g1,g2⟩:=qit P A (h2.symm.trans e1) (h3.symm.trans e2) h4 (fun e=>by rw[e]at h;exact G.irrefl q'.size (gAI _) h);rw[g1,g2];exact h
end
def Closed(l:List Symbol)(t:List Int):Prop:=TermOk l t/\∀n∈t,0<=n
theorem qvl{a:Int->Nat}:∀x:Tm,x.ok a->(∀n∈x.flat,0<=n)->x.gr a
 |.v n,h,h2=>by have h:n<0:=h;have:=h2 n (gD.2 rfl);omega
 |.k n,h,_=>h
 |.u n x,h,h2=>⟨h.1,h.2.1,qvl x h.2.2 fun m hm=>h2 m (gF _ hm)⟩
 |.b n x y,h,h2=>⟨h.1,h.2.1,qvl x h.2.2.1 fun m hm=>h2 m (gF _ (gJ _ hm)),qvl y h.2.2.2 fun m hm=>h2 m (gF _ (gN _ hm))⟩
theorem Closed.at{l:List Symbol}(ok:SigOk ⟨l⟩){t:List Int}(h:Closed l t):∃x,At l t 0 x/\t=x.flat/\x.gr (ar l):=by
 obtain⟨x,hx,e⟩:=h.1.tree ok;exact⟨x,⟨hx,[],by simpa using e⟩,e,qvl x hx (e▸h.2)⟩
section
variable {l:List Symbol}(ok:SigOk ⟨l⟩){o:List Int}(ho:∀n:Int,0<=n->n<l.length->n∈o)
include ok ho
theorem Closed.inO{t:List Int}(h:Closed l t):∀n∈t,0<=n->n∈o:=fun n hn h0=>by
 have:=h.1.node n hn;unfold q5x at this;rw[Bool.or_eq_true,q8r,q8r]at this;exact ho n h0 (by omega)
end
end Ev.Ty
end
section
namespace Ev.Ty
open Go Ev
def Dn(r:Int->Int)(a:Int->Nat)(y x:Tm):Prop:=G r x y/\x.ok a/\y.ok a
theorem qph{x q:Tm}(h:q∈x.args):q.size<x.size:=by
 cases x with
 |v n=>cases h
 |k n=>cases h
 |u n x=>rw[gD.1 h];simp[Tm.size]
 |b n x y=>
  rcases gK.1 h with rfl|h
  ·simp[Tm.size];omega
  ·rw[gD.1 h];simp[Tm.size];omega
theorem qth{a:Int->Nat}{x q:Tm}(hx:x.ok a)(h:q∈x.args):q.ok a:=by
 cases x with
 |v n=>cases h
 |k n=>cases h
 |u n x=>rw[gD.1 h];exact hx.2.2
 |b n x y=>
  rcases gK.1 h with rfl|h
  ·exact hx.2.2.1
  ·rw[gD.1 h];exact hx.2.2.2
section
variable {r:Int->Int}{a:Int->Nat}(hr:∀n,-1<=r n)
include hr
theorem qgk{k:Nat}(ihk:∀j,j<k->∀x:Tm,x.ok a->(r x.head+1).toNat=j->(∀p∈x.args,Acc (Dn r a) p)->Acc (Dn r a) x){x:Tm}(hx:x.ok a)(hk:(r x.head+1).toNat=k)
 (hargs:∀p∈x.args,Acc (Dn r a) p) (hlex:∀y:Tm,y.ok a->x.head=y.head->(∀q∈y.args,Acc (Dn r a) q)->(∃A B C p q,x.args=A++p::B/\y.args=A++q::C/\G r p q)->Acc (Dn r a) y):Acc (Dn r a) x:=by
 have all:∀(n:Nat)(y:Tm),y.size<=n->Dn r a y x->Acc (Dn r a) y:=by
  intro n;induction n with
  |zero=>intro y hn _;cases y <;> simp[Tm.size]at hn
  |succ n ih=>
   intro y hn hd;obtain⟨hG,_,hy⟩:=hd;rcases qxp.1 hG with⟨p,hp,rfl|h⟩|⟨h2,h⟩
   ·exact hargs _ hp
   ·exact(hargs p hp).inv ⟨h,qth hx hp,hy⟩
   ·have hya:∀q∈y.args,Acc (Dn r a) q:=fun q hq=>ih q (by have:=qph hq;omega) ⟨h2 q hq,hx,qth hy hq⟩;rcases h with⟨z1,z2,h1⟩|⟨z1,he,h⟩
    ·have:=hr y.head;exact ihk (r y.head+1).toNat (by omega) y hy rfl hya
    ·exact hlex y hy he hya h
 exact⟨x,fun y hd=>all y.size y (gAI _) hd⟩
theorem qv9:∀(k:Nat)(x:Tm),x.ok a->(r x.head+1).toNat=k->(∀p∈x.args,Acc (Dn r a) p)->Acc (Dn r a) x:=by
 intro k;induction k using Nat.strongRecOn with
 |ind k ihk=>
  intro x hx hk hargs;cases x with
  |v n=>
   refine qgk hr ihk hx hk hargs fun y _ _ _ h=>?_;obtain⟨A,B,C,p,q,e,_⟩:=h;simp[Tm.args]at e
  |k n=>
   refine qgk hr ihk hx hk hargs fun y _ _ _ h=>?_;obtain⟨A,B,C,p,q,e,_⟩:=h;simp[Tm.args]at e
  |u n p=>
   have hp:=hargs p (gD.2 rfl);clear hargs;induction hp with
   |intro p hacc ih=>
    refine qgk hr ihk hx hk (fun q hq=>by rw[gD.1 hq];exact⟨p,hacc⟩) fun y hy he hya h=>?_;obtain⟨A,B,C,p',q',e1,e2,hG⟩:=h;cases y with
    |v m=>have h1:m<0:=hy;have h2:n=m:=he;have:=hx.1;omega
    |k m=>have h2:n=m:=he;subst h2;have:=hx.2.1;have:=hy.2;omega
    |b m y z=>have h2:n=m:=he;subst h2;have:=hx.2.1;have:=hy.2.1;omega
    |u m q=>
     have h2:n=m:=he;subst h2;have e1:[p]=A++p'::B:=e1;have e2:[q]=A++q'::C:=e2;cases A with
     |nil=>
      cases e1;cases e2;exact ih _ ⟨hG,hx.2.2,hy.2.2⟩ hy hk
     |cons z A=>have:=congrArg List.length e1;simp at this
  |b n p1 p2=>
   have hp1:=hargs p1 (List.mem_cons_self ..);have hp2:=hargs p2 (gF _ (gD.2 rfl));clear hargs;induction hp1 generalizing p2 with
   |intro p1 hacc1 ih1=>
    induction hp2 with
    |intro p2 hacc2 ih2=>
     refine qgk hr ihk hx hk (fun q hq=>by
      rcases gK.1 hq with rfl|hq
      ·exact⟨_,hacc1⟩
      ·rw[gD.1 hq];exact⟨p2,hacc2⟩) fun y hy he hya h=>?_
     obtain⟨A,B,C,p',q',e1,e2,hG⟩:=h;cases y with
     |v m=>have h1:m<0:=hy;have h2:n=m:=he;have:=hx.1;omega
     |k m=>have h2:n=m:=he;subst h2;have:=hx.2.1;have:=hy.2;omega
     |u m y=>have h2:n=m:=he;subst h2;have:=hx.2.1;have:=hy.2.1;omega
     |b m q1 q2=>
      have h2:n=m:=he;subst h2;have e1:[p1,p2]=A++p'::B:=e1;have e2:[q1,q2]=A++q'::C:=e2;cases A with
      |nil=>
       cases e1;cases e2;exact ih1 _ ⟨hG,hx.2.2.1,hy.2.2.1⟩ q2 hy hk (hya q2 (gF _ (gD.2 rfl)))
      |cons z A=>
       cases A with
       |nil=>
        cases e1;cases e2;exact ih2 _ ⟨hG,hx.2.2.2,hy.2.2.2⟩ hy hk
       |cons w A=>have:=congrArg List.length e1;simp at this
theorem qy2:∀(n:Nat)(x:Tm),x.size<=n->x.ok a->Acc (Dn r a) x:=by
 intro n;induction n with
 |zero=>intro x hn _;cases x <;> simp[Tm.size]at hn
 |succ n ih=>intro x hn hx;exact qv9 hr _ x hx rfl fun p hp=>ih p (by have:=qph hp;omega) (qth hx hp)
theorem qyw:WellFounded (Dn r a):=⟨fun x=>by
 by_cases hx:x.ok a
 ·exact qy2 hr x.size x (gAI _) hx
 ·exact⟨x,fun y hd=>absurd hd.2.1 hx⟩⟩
end
inductive Star{α:Type}(R:α->α->Prop):α->α->Prop
 |refl (x):Star R x x
 |head {x y z}:R x y->Star R y z->Star R x z
namespace Star
variable {α:Type}{R:α->α->Prop}
theorem trans{x y z:α}(h1:Star R x y)(h2:Star R y z):Star R x z:=by
 induction h1 with
 |refl=>exact h2
 |head h _ ih=>exact .head h (ih h2)
theorem one{x y:α}(h:R x y):Star R x y:=.head h (.refl _)
end Star
def Join{α:Type}(R:α->α->Prop)(x y:α):Prop:=∃z,Star R x z/\Star R y z
theorem qxu{α:Type}{R:α->α->Prop}{I:α->Prop}(keep:∀x y,I x->R x y->I y)(wf:WellFounded fun y x=>R x y/\I x)(loc:∀x y z,I x->R x y->R x z->Join R y z):∀x y z,I x->Star R x y->Star R x z->Join R y z:=by
 intro x;induction x using wf.induction with
 |_ x ih=>
  intro y z hI hy hz;cases hy with
  |refl=>exact⟨z,hz,.refl _⟩
  |head h1 h1'=>
   cases hz with
   |refl=>exact⟨y,.refl _,.head h1 h1'⟩
   |head h2 h2'=>
    obtain⟨w,a1,a2⟩:=loc _ _ _ hI h1 h2;obtain⟨v,b1,b2⟩:=ih _ ⟨h1,hI⟩ _ _ (keep _ _ hI h1) h1' a1;obtain⟨u,c1,c2⟩:=ih _ ⟨h2,hI⟩ _ _ (keep _ _ hI h2) h2' (a2.trans b2);exact⟨u,b1.trans c2,c1⟩
theorem qx9{α:Type}{R:α->α->Prop}{I:α->Prop}(keep:∀x y,I x->R x y->I y)(wf:WellFounded fun y x=>R x y/\I x)(loc:∀x y z,I x->R x y->R x z->Join R y z){x y z:α}(hI:I x)(hy:Star R x y)(hz:Star R x z)(ny:∀w,¬ R y w)(nz:∀w,¬ R z w):y=z:=by
 obtain⟨w,h1,h2⟩:=qxu keep wf loc x y z hI hy hz;cases h1 with
 |refl=>
  cases h2 with
  |refl=>rfl
  |head h _=>exact absurd h (nz _)
 |head h _=>exact absurd h (ny _)
end Ev.Ty
end
section
namespace Ev.Ty
open Go Ev
open Tm
namespace Tm
def inst(σ:Int->Tm):Tm->Tm
 |v n=>σ n
 |k n=>k n
 |u n x=>u n (x.inst σ)
 |b n x y=>b n (x.inst σ) (y.inst σ)
theorem qb0{σ:Int->Tm}{a:Int->Nat}{t:Tm}(h:t.ok a)(h0:0<=t.head):(t.inst σ).args=t.args.map (inst σ)/\(t.inst σ).head=t.head:=by
 cases t with
 |v n=>have h:n<0:=h;have h0:0<=n:=h0;omega
 |k n=>exact⟨rfl,rfl⟩
 |u n x=>exact⟨rfl,rfl⟩
 |b n x y=>exact⟨rfl,rfl⟩
theorem inst_ok{σ:Int->Tm}{a:Int->Nat}(hσ:∀n,n<0->(σ n).ok a):∀{t:Tm},t.ok a->(t.inst σ).ok a
 |.v n,h=>hσ n h
 |.k _,h=>h
 |.u _ _,h=>⟨h.1,h.2.1,inst_ok hσ h.2.2⟩
 |.b _ _ _,h=>⟨h.1,h.2.1,inst_ok hσ h.2.2.1,inst_ok hσ h.2.2.2⟩
inductive Part:Tm->Tm->Prop
 |arg {p t}:p∈t.args->Part p t
 |deep {p q t}:q∈t.args->Part p q->Part p t
end Tm
namespace G
variable {r:Int->Int}
theorem qlu{t p:Tm}(h:Tm.Part p t):G r t p:=by
 induction h with
 |arg h=>exact .eq h
 |deep h _ ih=>exact .sub h ih
theorem stable{a:Int->Nat}{σ:Int->Tm}{s t:Tm}(h:G r s t):s.ok a->t.ok a->G r (s.inst σ) (t.inst σ):=by
 induction h with
 | @eq s p hp=>
   intro hs _;exact .eq (by rw[(qb0 hs (hs.head hp)).1];exact List.mem_map.2 ⟨_,hp,rfl⟩)
 | @sub s t p hp _ ih=>
   intro hs ht;exact .sub (by rw[(qb0 hs (hs.head hp)).1];exact List.mem_map.2 ⟨_,hp,rfl⟩) (ih (hs.args hp) ht)
 | @big s t z1 z2 hr _ ih=>
   intro hs ht;obtain⟨_,e2⟩:=qb0 (σ:=σ) hs z1;obtain⟨e3,e4⟩:=qb0 (σ:=σ) ht z2;refine .big (by rw[e2];exact z1) (by rw[e4];exact z2) (by rw[e2,e4];exact hr) fun q hq=>?_;rw[e3]at hq;obtain⟨q',hq',rfl⟩:=List.mem_map.1 hq;exact ih q' hq' hs (ht.args hq')
 | @lex s t A B C x y z1 he _ e1 e2 _ ih ih2=>
   intro hs ht;obtain⟨f1,f2⟩:=qb0 (σ:=σ) hs z1;obtain⟨f3,f4⟩:=qb0 (σ:=σ) ht (he▸z1);refine .lex (A:=A.map (inst σ)) (B:=B.map (inst σ)) (C:=C.map (inst σ)) (x:=x.inst σ) (y:=y.inst σ) (by rw[f2];exact z1) (by rw[f2,f4];exact he) (fun q hq=>?_) (by rw[f1,e1,List.map_append,List.map_cons]) (by rw[f3,e2,List.map_append,List.map_cons]) ?_
   ·rw[f3]at hq;obtain⟨q',hq',rfl⟩:=List.mem_map.1 hq;exact ih q' hq' hs (ht.args hq')
   ·exact ih2 (hs.args (by rw[e1];simp)) (ht.args (by rw[e2];simp))
theorem ctx{s t x y:Tm}{A B:List Tm}(z:0<=s.head)(he:s.head=t.head)(e1:s.args=A++x::B)(e2:t.args=A++y::B)(h:G r x y):G r s t:=by
 refine .lex z he (fun q hq=>?_) e1 e2 h;rw[e2]at hq;rcases gO.1 hq with hq|hq
 ·exact .eq (by rw[e1];exact gJ _ hq)
 ·rcases gK.1 hq with rfl|hq
  ·exact .sub (by rw[e1];simp) h
  ·exact .eq (by rw[e1];simp[hq])
end G
end Ev.Ty
end
section
namespace Ev.Ty
open Go Ev
namespace Tm
def occ(n:Int):Tm->Prop
 |v m=>n=m
 |k _=>False
 |u _ x=>x.occ n
 |b _ x y=>x.occ n\/y.occ n
theorem inst_congr{σ τ:Int->Tm}:∀{t:Tm},(∀n,t.occ n->σ n=τ n)->t.inst σ=t.inst τ
 |.v n,h=>h n rfl
 |.k n,_=>rfl
 |.u n x,h=>by show Tm.u n (x.inst σ)=.u n (x.inst τ);rw[inst_congr (t:=x) h]
 |.b n x y,h=>by
  show Tm.b n (x.inst σ) (y.inst σ)=.b n (x.inst τ) (y.inst τ);rw[inst_congr (t:=x) fun m hm=>h m (.inl hm),inst_congr (t:=y) fun m hm=>h m (.inr hm)]
theorem inst_same{σ τ:Int->Tm}:∀{t:Tm},t.inst σ=t.inst τ->∀n,t.occ n->σ n=τ n
 |.v n,h,m,hm=>by cases hm;exact h
 |.k n,_,m,hm=>hm.elim
 |.u n x,h,m,hm=>by
  have h:Tm.u n (x.inst σ)=.u n (x.inst τ):=h;injection h with _ h;exact inst_same h m hm
 |.b n x y,h,m,hm=>by
  have h:Tm.b n (x.inst σ) (y.inst σ)=.b n (x.inst τ) (y.inst τ):=h;injection h with _ h1 h2;rcases hm with hm|hm
  ·exact inst_same h1 m hm
  ·exact inst_same h2 m hm
theorem inst_inst{σ τ:Int->Tm}:∀t:Tm,(t.inst σ).inst τ=t.inst fun n=>(σ n).inst τ
 |.v n=>rfl
 |.k n=>rfl
 |.u n x=>by show Tm.u n ((x.inst σ).inst τ)=_;rw[inst_inst x];rfl
 |.b n x y=>by show Tm.b n ((x.inst σ).inst τ) ((y.inst σ).inst τ)=_;rw[inst_inst x,inst_inst y];rfl
end Tm
inductive Path
 |here|u (p:Path)|l (p:Path)|r (p:Path)
namespace Path
def sub:Path->Tm->Option Tm
 |here,t=>some t
 |u p,.u _ x=>p.sub x
 |l p,.b _ x _=>p.sub x
 |r p,.b _ _ y=>p.sub y
 |_,_=>none
def put:Path->Tm->Tm->Tm
 |here,_,w=>w
 |u p,.u n x,w=>.u n (p.put x w)
 |l p,.b n x y,w=>.b n (p.put x w) y
 |r p,.b n x y,w=>.b n x (p.put y w)
 |_,t,_=>t
theorem sub_inst{σ:Int->Tm}:∀{p:Path}{t y:Tm},p.sub t=some y->p.sub (t.inst σ)=some (y.inst σ)
 |.here,t,y,h=>by cases h;rfl
 |.u p,.u n x,y,h=>sub_inst (p:=p) (t:=x) h
 |.l p,.b n x z,y,h=>sub_inst (p:=p) (t:=x) h
 |.r p,.b n x z,y,h=>sub_inst (p:=p) (t:=z) h
 |.u p,.v n,y,h=>by cases h
 |.u p,.k n,y,h=>by cases h
 |.u p,.b n x z,y,h=>by cases h
 |.l p,.v n,y,h=>by cases h
 |.l p,.k n,y,h=>by cases h
 |.l p,.u n x,y,h=>by cases h
 |.r p,.v n,y,h=>by cases h
 |.r p,.k n,y,h=>by cases h
 |.r p,.u n x,y,h=>by cases h
theorem put_inst{σ:Int->Tm}:∀{p:Path}{t y w:Tm},p.sub t=some y->p.put (t.inst σ) (w.inst σ)=(p.put t w).inst σ
 |.here,t,y,w,h=>rfl
 |.u p,.u n x,y,w,h=>by show Tm.u n (p.put (x.inst σ) (w.inst σ))=_;rw[put_inst (p:=p) (t:=x) h];rfl
 |.l p,.b n x z,y,w,h=>by show Tm.b n (p.put (x.inst σ) (w.inst σ)) _=_;rw[put_inst (p:=p) (t:=x) h];rfl
 |.r p,.b n x z,y,w,h=>by show Tm.b n _ (p.put (z.inst σ) (w.inst σ))=_;rw[put_inst (p:=p) (t:=z) h];rfl
 |.u p,.v n,y,w,h=>by cases h
 |.u p,.k n,y,w,h=>by cases h
 |.u p,.b n x z,y,w,h=>by cases h
 |.l p,.v n,y,w,h=>by cases h
 |.l p,.k n,y,w,h=>by cases h
 |.l p,.u n x,y,w,h=>by cases h
 |.r p,.v n,y,w,h=>by cases h
 |.r p,.k n,y,w,h=>by cases h
 |.r p,.u n x,y,w,h=>by cases h
end Path
section
variable (R:Tm->Tm->Prop)
def Stp(x y:Tm):Prop:=∃(p:Path)(l r:Tm)(σ:Int->Tm),R l r/\p.sub x=some (l.inst σ)/\y=p.put x (r.inst σ)
end
section
variable {R:Tm->Tm->Prop}
theorem Stp.u{n:Int}{x y:Tm}(h:Stp R x y):Stp R (.u n x) (.u n y):=by
 obtain⟨p,l,r,σ,h1,h2,rfl⟩:=h;exact⟨.u p,l,r,σ,h1,h2,rfl⟩
theorem Stp.l{n:Int}{x y z:Tm}(h:Stp R x y):Stp R (.b n x z) (.b n y z):=by
 obtain⟨p,l,r,σ,h1,h2,rfl⟩:=h;exact⟨.l p,l,r,σ,h1,h2,rfl⟩
theorem Stp.r{n:Int}{x y z:Tm}(h:Stp R x y):Stp R (.b n z x) (.b n z y):=by
 obtain⟨p,l,r,σ,h1,h2,rfl⟩:=h;exact⟨.r p,l,r,σ,h1,h2,rfl⟩
theorem Stp.root{l r:Tm}(h:R l r)(σ:Int->Tm):Stp R (l.inst σ) (r.inst σ):=⟨.here,l,r,σ,h,rfl,rfl⟩
theorem Stp.inst{x y:Tm}(h:Stp R x y)(τ:Int->Tm):Stp R (x.inst τ) (y.inst τ):=by
 obtain⟨p,l,r,σ,h1,h2,rfl⟩:=h;refine⟨p,l,r,fun n=>(σ n).inst τ,h1,?_,?_⟩
 ·rw[Path.sub_inst h2,Tm.inst_inst]
 ·rw[<- Path.put_inst h2,Tm.inst_inst]
theorem Star.lift{α:Type}{P:α->α->Prop}{f:α->α}(hf:∀x y,P x y->P (f x) (f y)){x y:α}(h:Star P x y):Star P (f x) (f y):=by
 induction h with
 |refl=>exact .refl _
 |head h _ ih=>exact .head (hf _ _ h) ih
theorem Join.lift{α:Type}{P:α->α->Prop}{f:α->α}(hf:∀x y,P x y->P (f x) (f y)){x y:α}(h:Join P x y):Join P (f x) (f y):=by
 obtain⟨z,h1,h2⟩:=h;exact⟨f z,h1.lift hf,h2.lift hf⟩
theorem Join.symm{α:Type}{P:α->α->Prop}{x y:α}(h:Join P x y):Join P y x:=by
 obtain⟨z,h1,h2⟩:=h;exact⟨z,h2,h1⟩
theorem qba{σ τ:Int->Tm}(h:∀n,Star (Stp R) (σ n) (τ n)):∀t:Tm,Star (Stp R) (t.inst σ) (t.inst τ)
 |.v n=>h n
 |.k n=>.refl _
 |.u n x=>(qba h x).lift (f:=Tm.u n) fun _ _ h=>h.u
 |.b n x y=>((qba h x).lift (f:=fun w=>Tm.b n w (y.inst σ)) fun _ _ h=>h.l).trans ((qba h y).lift (f:=fun w=>Tm.b n (x.inst τ) w) fun _ _ h=>h.r)
theorem qge{σ τ:Int->Tm}(h:∀n,Star (Stp R) (σ n) (τ n)):∀{p:Path}{t:Tm}{n:Int},p.sub t=some (.v n)->Star (Stp R) (p.put (t.inst σ) (τ n)) (t.inst τ)
 |.here,t,n,e=>by cases e;exact .refl _
 |.u p,.u m x,n,e=>(qge h (p:=p) (t:=x) e).lift (f:=Tm.u m) fun _ _ h=>h.u
 |.l p,.b m x y,n,e=>((qge h (p:=p) (t:=x) e).lift (f:=fun w=>Tm.b m w (y.inst σ)) fun _ _ h=>h.l).trans ((qba h y).lift (f:=fun w=>Tm.b m (x.inst τ) w) fun _ _ h=>h.r)
 |.r p,.b m x y,n,e=>((qge h (p:=p) (t:=y) e).lift (f:=fun w=>Tm.b m (x.inst σ) w) fun _ _ h=>h.r).trans ((qba h x).lift (f:=fun w=>Tm.b m w (y.inst τ)) fun _ _ h=>h.l)
 |.u p,.v m,n,e=>by cases e
 |.u p,.k m,n,e=>by cases e
 |.u p,.b m x z,n,e=>by cases e
 |.l p,.v m,n,e=>by cases e
 |.l p,.k m,n,e=>by cases e
 |.l p,.u m x,n,e=>by cases e
 |.r p,.v m,n,e=>by cases e
 |.r p,.k m,n,e=>by cases e
 |.r p,.u m x,n,e=>by cases e
theorem qcu{σ:Int->Tm}:∀{p:Path}{t w:Tm},p.sub (t.inst σ)=some w->
 (∃y,p.sub t=some y/\(∀n,y ≠ .v n)/\w=y.inst σ)\/∃(q p':Path)(n:Int),q.sub t=some (.v n)/\p'.sub (σ n)=some w/\∀z,p.put (t.inst σ) z=q.put (t.inst σ) (p'.put (σ n) z)
 |p,.v n,w,h=>.inr ⟨.here,p,n,rfl,h,fun z=>rfl⟩
 |.here,.k n,w,h=>.inl ⟨_,rfl,fun _ e=>Tm.noConfusion e,(Option.some.inj h).symm⟩
 |.here,.u n x,w,h=>.inl ⟨_,rfl,fun _ e=>Tm.noConfusion e,(Option.some.inj h).symm⟩
 |.here,.b n x y,w,h=>.inl ⟨_,rfl,fun _ e=>Tm.noConfusion e,(Option.some.inj h).symm⟩
 |.u p,.u n x,w,h=>by
  rcases qcu (p:=p) (t:=x) h with⟨y,h1,h2,h3⟩|⟨q,p',m,h1,h2,h3⟩
  ·exact .inl ⟨y,h1,h2,h3⟩
  ·exact .inr ⟨.u q,p',m,h1,h2,fun z=>by show Tm.u n _=Tm.u n _;rw[h3]⟩
 |.l p,.b n x x2,w,h=>by
  rcases qcu (p:=p) (t:=x) h with⟨y,h1,h2,h3⟩|⟨q,p',m,h1,h2,h3⟩
  ·exact .inl ⟨y,h1,h2,h3⟩
  ·exact .inr ⟨.l q,p',m,h1,h2,fun z=>by show Tm.b n _ _=Tm.b n _ _;rw[h3]⟩
 |.r p,.b n x x2,w,h=>by
  rcases qcu (p:=p) (t:=x2) h with⟨y,h1,h2,h3⟩|⟨q,p',m,h1,h2,h3⟩
  ·exact .inl ⟨y,h1,h2,h3⟩
  ·exact .inr ⟨.r q,p',m,h1,h2,fun z=>by show Tm.b n _ _=Tm.b n _ _;rw[h3]⟩
 |.u p,.k n,w,h=>by cases h
 |.u p,.b n x z,w,h=>by cases h
 |.l p,.k n,w,h=>by cases h
 |.l p,.u n x,w,h=>by cases h
 |.r p,.k n,w,h=>by cases h
 |.r p,.u n x,w,h=>by cases h
def CP(a:Int->Nat)(R:Tm->Tm->Prop):Prop:=∀l1 r1 l2 r2 (p:Path) (y:Tm) (σ τ:Int->Tm),(l1.inst σ).ok a->R l1 r1->R l2 r2->p.sub l1=some y->(∀n,y ≠ .v n)->y.inst σ=l2.inst τ->Join (Stp R) (r1.inst σ) (p.put (l1.inst σ) (r2.inst τ))
theorem qcz{a:Int->Nat}(cp:CP a R){l r:Tm}(hR:R l r){σ:Int->Tm}(ho:(l.inst σ).ok a){z:Tm}(h:Stp R (l.inst σ) z):Join (Stp R) (r.inst σ) z:=by
 obtain⟨p,l2,r2,τ,h1,h2,rfl⟩:=h;rcases qcu h2 with⟨y,q1,q2,q3⟩|⟨q,p',n,q1,q2,q3⟩
 ·exact cp l r l2 r2 p y σ τ ho hR h1 q1 q2 q3.symm
 ·let τ':Int->Tm:=fun m=>if m=n then p'.put (σ n) (r2.inst τ)else σ m
  have hst:∀m,Star (Stp R) (σ m) (τ' m):=fun m=>by
   by_cases e:m=n
   ·subst e;show Star (Stp R) (σ m) (if m=m then _ else _);rw[if_pos rfl];exact .one ⟨p',l2,r2,τ,h1,q2,rfl⟩
   ·show Star (Stp R) (σ m) (if m=n then _ else σ m);rw[if_neg e];exact .refl _
  have hz:=qge hst q1;have e:τ' n=p'.put (σ n) (r2.inst τ):=if_pos rfl;rw[e,<- q3]at hz;exact⟨r.inst τ',qba hst r,hz.trans (.one (.root hR τ'))⟩
theorem qrc{a:Int->Nat}(cp:CP a R):∀{p1:Path}{x l1 r1:Tm}{σ1:Int->Tm}{p2:Path}{l2 r2:Tm}{σ2:Int->Tm},x.ok a->R l1 r1->R l2 r2->p1.sub x=some (l1.inst σ1)->p2.sub x=some (l2.inst σ2)->
 Join (Stp R) (p1.put x (r1.inst σ1)) (p2.put x (r2.inst σ2)):=by
 intro p1;induction p1 with
 |here=>
  intro x l1 r1 σ1 p2 l2 r2 σ2 hx h1 h2 e1 e2;cases e1;exact qcz cp h1 hx ⟨p2,l2,r2,σ2,h2,e2,rfl⟩
 |u p1 ih=>
  intro x l1 r1 σ1 p2 l2 r2 σ2 hx h1 h2 e1 e2;cases x with
  |u n x=>
   cases p2 with
   |here=>
    have e:l2.inst σ2=.u n x:=(Option.some.inj e2).symm;exact(qcz cp h2 (σ:=σ2) (by rw[e];exact hx) (by rw[e];exact⟨.u p1,l1,r1,σ1,h1,e1,rfl⟩)).symm
   |u p2=>exact(ih hx.2.2 h1 h2 e1 e2).lift (f:=Tm.u n) fun _ _ h=>h.u
   |l p2=>cases e2
   |r p2=>cases e2
  |v n=>cases e1
  |k n=>cases e1
  |b n x y=>cases e1
 |l p1 ih=>
  intro x l1 r1 σ1 p2 l2 r2 σ2 hx h1 h2 e1 e2;cases x with
  |b n x y=>
   cases p2 with
   |here=>
    have e:l2.inst σ2=.b n x y:=(Option.some.inj e2).symm;exact(qcz cp h2 (σ:=σ2) (by rw[e];exact hx) (by rw[e];exact⟨.l p1,l1,r1,σ1,h1,e1,rfl⟩)).symm
   |u p2=>cases e2
   |l p2=>exact(ih hx.2.2.1 h1 h2 e1 e2).lift (f:=fun w=>Tm.b n w y) fun _ _ h=>h.l
   |r p2=>exact⟨.b n (p1.put x (r1.inst σ1)) (p2.put y (r2.inst σ2)),.one ⟨.r p2,l2,r2,σ2,h2,e2,rfl⟩,.one ⟨.l p1,l1,r1,σ1,h1,e1,rfl⟩⟩
  |v n=>cases e1
  |k n=>cases e1
  |u n x=>cases e1
 |r p1 ih=>
  intro x l1 r1 σ1 p2 l2 r2 σ2 hx h1 h2 e1 e2;cases x with
  |b n x y=>
   cases p2 with
   |here=>
    have e:l2.inst σ2=.b n x y:=(Option.some.inj e2).symm;exact(qcz cp h2 (σ:=σ2) (by rw[e];exact hx) (by rw[e];exact⟨.r p1,l1,r1,σ1,h1,e1,rfl⟩)).symm
   |u p2=>cases e2
   |l p2=>exact⟨.b n (p2.put x (r2.inst σ2)) (p1.put y (r1.inst σ1)),.one ⟨.l p2,l2,r2,σ2,h2,e2,rfl⟩,.one ⟨.r p1,l1,r1,σ1,h1,e1,rfl⟩⟩
   |r p2=>exact(ih hx.2.2.2 h1 h2 e1 e2).lift (f:=fun w=>Tm.b n x w) fun _ _ h=>h.r
  |v n=>cases e1
  |k n=>cases e1
  |u n x=>cases e1
theorem qqv{a:Int->Nat}(keep:∀x y:Tm,x.ok a->Stp R x y->y.ok a)(wf:WellFounded fun y x=>Stp R x y/\Tm.ok a x)(cp:CP a R){x y z:Tm}(hx:x.ok a)(hy:Star (Stp R) x y)(hz:Star (Stp R) x z)(ny:∀w,¬ Stp R y w)(nz:∀w,¬ Stp R z w):y=z:=
 qx9 (I:=fun x=>x.ok a) keep wf (fun x y z hI ⟨p1,l1,r1,σ1,a1,a2,a3⟩ ⟨p2,l2,r2,σ2,b1,b2,b3⟩=>by rw[a3,b3];exact qrc cp hI a1 b1 a2 b2) hx hy hz ny nz
theorem qi3{a:Int->Nat}:∀{p:Path}{x y:Tm},x.ok a->p.sub x=some y->y.ok a
 |.here,x,y,h,e=>by cases e;exact h
 |.u p,.u n x,y,h,e=>qi3 (p:=p) h.2.2 e
 |.l p,.b n x z,y,h,e=>qi3 (p:=p) h.2.2.1 e
 |.r p,.b n x z,y,h,e=>qi3 (p:=p) h.2.2.2 e
 |.u p,.v n,y,h,e=>by cases e
 |.u p,.k n,y,h,e=>by cases e
 |.u p,.b n x z,y,h,e=>by cases e
 |.l p,.v n,y,h,e=>by cases e
 |.l p,.k n,y,h,e=>by cases e
 |.l p,.u n x,y,h,e=>by cases e
 |.r p,.v n,y,h,e=>by cases e
 |.r p,.k n,y,h,e=>by cases e
 |.r p,.u n x,y,h,e=>by cases e
theorem qf6{a:Int->Nat}:∀{p:Path}{x y w:Tm},x.ok a->p.sub x=some y->w.ok a->(p.put x w).ok a
 |.here,x,y,w,h,e,hw=>hw
 |.u p,.u n x,y,w,h,e,hw=>⟨h.1,h.2.1,qf6 (p:=p) h.2.2 e hw⟩
 |.l p,.b n x z,y,w,h,e,hw=>⟨h.1,h.2.1,qf6 (p:=p) h.2.2.1 e hw,h.2.2.2⟩
 |.r p,.b n x z,y,w,h,e,hw=>⟨h.1,h.2.1,h.2.2.1,qf6 (p:=p) h.2.2.2 e hw⟩
 |.u p,.v n,y,w,h,e,hw=>by cases e
 |.u p,.k n,y,w,h,e,hw=>by cases e
 |.u p,.b n x z,y,w,h,e,hw=>by cases e
 |.l p,.v n,y,w,h,e,hw=>by cases e
 |.l p,.k n,y,w,h,e,hw=>by cases e
 |.l p,.u n x,y,w,h,e,hw=>by cases e
 |.r p,.v n,y,w,h,e,hw=>by cases e
 |.r p,.k n,y,w,h,e,hw=>by cases e
 |.r p,.u n x,y,w,h,e,hw=>by cases e
theorem qi9{a:Int->Nat}{σ:Int->Tm}:∀{t:Tm},(t.inst σ).ok a->∀n,t.occ n->(σ n).ok a
 |.v n,h,m,hm=>by cases hm;exact h
 |.k n,h,m,hm=>hm.elim
 |.u n x,h,m,hm=>qi9 (t:=x) h.2.2 m hm
 |.b n x y,h,m,hm=>by
  rcases hm with hm|hm
  ·exact qi9 (t:=x) h.2.2.1 m hm
  ·exact qi9 (t:=y) h.2.2.2 m hm
theorem qqh{a:Int->Nat}{σ:Int->Tm}:∀{t:Tm},t.ok a->(∀n,t.occ n->(σ n).ok a)->(t.inst σ).ok a
 |.v n,h,ho=>ho n rfl
 |.k n,h,ho=>h
 |.u n x,h,ho=>⟨h.1,h.2.1,qqh (t:=x) h.2.2 ho⟩
 |.b n x y,h,ho=>⟨h.1,h.2.1,qqh (t:=x) h.2.2.1 fun m hm=>ho m (.inl hm),qqh (t:=y) h.2.2.2 fun m hm=>ho m (.inr hm)⟩
structure Rules(a:Int->Nat)(g:Int->Int)(R:Tm->Tm->Prop):Prop where
 left:∀l r,R l r->l.ok a
 right:∀l r,R l r->r.ok a
 vars:∀l r,R l r->∀n,r.occ n->l.occ n
 down:∀l r,R l r->G g l r
theorem Rules.keep{a:Int->Nat}{g:Int->Int}(h:Rules a g R)(x y:Tm)(hx:x.ok a)(hs:Stp R x y):y.ok a:=by
 obtain⟨p,l,r,σ,h1,h2,rfl⟩:=hs;have hl:=qi3 hx h2;exact qf6 hx h2 (qqh (h.right l r h1) fun n hn=>qi9 hl n (h.vars l r h1 n hn))
theorem qup{a:Int->Nat}{g:Int->Int}:∀{p:Path}{x y w:Tm},x.ok a->p.sub x=some y->G g y w->G g x (p.put x w)
 |.here,x,y,w,h,e,hg=>by cases e;exact hg
 |.u p,.u n x,y,w,h,e,hg=>G.ctx (A:=[]) (B:=[]) (s:=.u n x) (t:=.u n (p.put x w)) h.1 rfl rfl rfl (qup (p:=p) h.2.2 e hg)
 |.l p,.b n x z,y,w,h,e,hg=>G.ctx (A:=[]) (B:=[z]) (s:=.b n x z) (t:=.b n (p.put x w) z) h.1 rfl rfl rfl (qup (p:=p) h.2.2.1 e hg)
 |.r p,.b n x z,y,w,h,e,hg=>G.ctx (A:=[x]) (B:=[]) (s:=.b n x z) (t:=.b n x (p.put z w)) h.1 rfl rfl rfl (qup (p:=p) h.2.2.2 e hg)
 |.u p,.v n,y,w,h,e,hg=>by cases e
 |.u p,.k n,y,w,h,e,hg=>by cases e
 |.u p,.b n x z,y,w,h,e,hg=>by cases e
 |.l p,.v n,y,w,h,e,hg=>by cases e
 |.l p,.k n,y,w,h,e,hg=>by cases e
 |.l p,.u n x,y,w,h,e,hg=>by cases e
 |.r p,.v n,y,w,h,e,hg=>by cases e
 |.r p,.k n,y,w,h,e,hg=>by cases e
 |.r p,.u n x,y,w,h,e,hg=>by cases e
theorem Rules.wf{a:Int->Nat}{g:Int->Int}(hg:∀n,-1<=g n)(h:Rules a g R):WellFounded fun y x=>Stp R x y/\Tm.ok a x:=by
 refine Subrelation.wf (r:=Dn g a) (fun {y x} hs=>?_) (qyw hg);have hk:=h.keep x y hs.2 hs.1;obtain⟨⟨p,l,r,σ,h1,h2,rfl⟩,hx⟩:=hs;exact⟨qup hx h2 (G.stable (h.down l r h1) (h.left l r h1) (h.right l r h1)),hx,hk⟩
end
end Ev.Ty
end
section
namespace Ev.Ty
open Go Ev
open Enc (enc)
open Sm (sm)
section
variable (e:Nat->Nat)(f:Nat->Int)
def qgn(k:Nat)(s:Int×Int):Int×Int:=if s.1>=0/\e k>=e s.1.toNat then s else if f k>=0 then((k:Int),f k)else s
def down:Nat->Int×Int->Int×Int
 |0,s=>s
 |k+1,s=>down k (qgn e f k s)
def qcd(s:Int×Int×Int)(k:Nat):Int×Int×Int:=if(e k:Int)>s.2.2 then s else if f k>=0 then((k:Int),f k,(e k:Int))else s
def IsBest(lo hi:Nat)(s:Int×Int):Prop:=
 (s=(-1,-1)/\∀a,lo<=a->a<hi->f a<0)\/
  ∃a,lo<=a/\a<hi/\s=((a:Int),f a)/\f a>=0/\∀a',lo<=a'->a'<hi->f a'>=0->e a<e a'\/(e a=e a'/\a'<=a)
theorem IsBest.down{k n:Nat}{s:Int×Int}(h:IsBest e f (k+1) n s)(hk:k<n):IsBest e f k n (qgn e f k s):=by
 unfold qgn;rcases h with⟨rfl,h⟩|⟨a,h1,h2,rfl,h3,h4⟩
 ·rw[if_neg (by simp)];by_cases hf:f k>=0
  ·rw[if_pos hf];refine .inr ⟨k,gAI _,hk,rfl,hf,fun a' q1 q2 q3=>?_⟩;by_cases hak:a'=k
   ·subst hak;exact .inr ⟨rfl,gAI _⟩
   ·have:=h a' (by omega) q2;omega
  ·rw[if_neg hf];refine .inl ⟨rfl,fun a' q1 q2=>?_⟩;by_cases hak:a'=k
   ·subst hak;omega
   ·exact h a' (by omega) q2
 ·by_cases hc:e k>=e a
  ·rw[if_pos ⟨by simp,by simpa using hc⟩];refine .inr ⟨a,by omega,h2,rfl,h3,fun a' q1 q2 q3=>?_⟩;by_cases hak:a'=k
   ·subst hak;rcases Nat.lt_or_ge (e a) (e a')with q|q
    ·exact .inl q
    ·exact .inr ⟨by omega,by omega⟩
   ·exact h4 a' (by omega) q2 q3
  ·rw[if_neg (by simp only[gR];exact fun h=>hc h.2)];by_cases hf:f k>=0
   ·rw[if_pos hf];refine .inr ⟨k,gAI _,hk,rfl,hf,fun a' q1 q2 q3=>?_⟩;by_cases hak:a'=k
    ·subst hak;exact .inr ⟨rfl,gAI _⟩
    ·rcases h4 a' (by omega) q2 q3 with q|q <;> exact .inl (by omega)
   ·rw[if_neg hf];refine .inr ⟨a,by omega,h2,rfl,h3,fun a' q1 q2 q3=>?_⟩;by_cases hak:a'=k
    ·subst hak;omega
    ·exact h4 a' (by omega) q2 q3
theorem qel(n:Nat):∀(k:Nat)(s:Int×Int),k<=n->IsBest e f k n s->IsBest e f 0 n (down e f k s)
 |0,s,_,h=>h
 |k+1,s,hk,h=>qel n k _ (by omega) (h.down e f (by omega))
theorem IsBest.up{k:Nat}{s:Int×Int×Int}(he:∀a,e a<=24)(h:IsBest e f 0 k (s.1,s.2.1))(hs:(s.1 = -1/\s.2.2=25)\/∃a:Nat,s.1=a/\s.2.2=e a) :
 IsBest e f 0 (k+1) ((qcd e f s k).1,(qcd e f s k).2.1)/\(((qcd e f s k).1 = -1/\(qcd e f s k).2.2=25)\/∃a:Nat,(qcd e f s k).1=a/\(qcd e f s k).2.2=e a):=by
 have hek:=he k;obtain⟨p,r,d⟩:=s;unfold qcd;simp only at h hs ⊢;rcases h with⟨hp,h⟩|⟨a,h1,h2,hp,h3,h4⟩
 ·simp only[Prod.mk.injEq]at hp;obtain⟨rfl,rfl⟩:=hp
  have hd:d=25:=by
   rcases hs with⟨_,h⟩|⟨a,h,_⟩
   ·exact h
   ·omega
  subst hd;rw[if_neg (by omega)];by_cases hf:f k>=0
  ·rw[if_pos hf];refine⟨.inr ⟨k,by omega,by omega,rfl,hf,fun a' q1 q2 q3=>?_⟩,.inr ⟨k,rfl,rfl⟩⟩;by_cases hak:a'=k
   ·subst hak;exact .inr ⟨rfl,gAI _⟩
   ·have:=h a' (by omega) (by omega);omega
  ·rw[if_neg hf];refine⟨.inl ⟨rfl,fun a' q1 q2=>?_⟩,.inl ⟨rfl,rfl⟩⟩;by_cases hak:a'=k
   ·subst hak;omega
   ·exact h a' (by omega) (by omega)
 ·simp only[Prod.mk.injEq]at hp;obtain⟨rfl,rfl⟩:=hp
  have hd:d=e a:=by
   rcases hs with⟨h,_⟩|⟨a',h,h'⟩
   ·omega
   ·have:a=a':=by omega
    rw[this];exact h'
  subst hd;by_cases hc:(e k:Int)>e a
  ·rw[if_pos hc];refine⟨.inr ⟨a,by omega,by omega,rfl,h3,fun a' q1 q2 q3=>?_⟩,.inr ⟨a,rfl,rfl⟩⟩;by_cases hak:a'=k
   ·subst hak;exact .inl (by omega)
   ·exact h4 a' (by omega) (by omega) q3
  ·rw[if_neg hc];by_cases hf:f k>=0
   ·rw[if_pos hf];refine⟨.inr ⟨k,by omega,by omega,rfl,hf,fun a' q1 q2 q3=>?_⟩,.inr ⟨k,rfl,rfl⟩⟩;by_cases hak:a'=k
    ·subst hak;exact .inr ⟨rfl,gAI _⟩
    ·rcases h4 a' (by omega) (by omega) q3 with q|⟨q,_⟩
     ·exact .inl (by omega)
     ·rcases Nat.lt_or_ge (e k) (e a')with q'|q'
      ·exact .inl q'
      ·exact .inr ⟨by omega,by omega⟩
   ·rw[if_neg hf];refine⟨.inr ⟨a,by omega,by omega,rfl,h3,fun a' q1 q2 q3=>?_⟩,.inr ⟨a,rfl,rfl⟩⟩;by_cases hak:a'=k
    ·subst hak;omega
    ·exact h4 a' (by omega) (by omega) q3
theorem IsBest.unique{n:Nat}{s s':Int×Int}(h:IsBest e f 0 n s)(h':IsBest e f 0 n s'):s=s':=by
 rcases h with⟨rfl,h⟩|⟨a,h1,h2,rfl,h3,h4⟩ <;> rcases h' with⟨rfl,h'⟩|⟨b,k1,k2,rfl,k3,k4⟩
 ·rfl
 ·have:=h b (by omega) k2;omega
 ·have:=h' a (by omega) h2;omega
 ·have q1:=h4 b (by omega) k2 k3;have q2:=k4 a (by omega) h2 h3;have:a=b:=by omega
  rw[this]
def qc5(n:Nat):Int×Int×Int:=(List.range n).foldl (qcd e f) (-1,-1,25)
theorem qjs(he:∀a,e a<=24):∀n,IsBest e f 0 n ((qc5 e f n).1,(qc5 e f n).2.1)/\(((qc5 e f n).1 = -1/\(qc5 e f n).2.2=25)\/∃a:Nat,(qc5 e f n).1=a/\(qc5 e f n).2.2=e a)
 |0=>⟨.inl ⟨rfl,fun a _ h=>by omega⟩,.inl ⟨rfl,rfl⟩⟩
 |n+1=>by
  have ih:=qjs he n;have e0:qc5 e f (n+1)=qcd e f (qc5 e f n) n:=by unfold qc5;rw[List.range_succ,List.foldl_append];rfl
  rw[e0];exact ih.1.up e f he ih.2
theorem qx2(he:∀a,e a<=24)(n:Nat):down e f n (-1,-1)=((qc5 e f n).1,(qc5 e f n).2.1):=
 (qel e f n n (-1,-1) (gAI _) (.inl ⟨rfl,fun a _ h=>by omega⟩)).unique e f (qjs e f he n).1
end
def fits(l:List Symbol)(rs:List Equation)(t:List Int)(p:Nat):Int:=idx (fun e=>(q50 l e.left t p).isSome) rs
def q5c(l:List Symbol)(rs:List Equation)(t:List Int):Int×Int:=down (q3v l t) (fits l rs t) t.length (-1,-1)
theorem quk(l:List Symbol)(t:List Int)(p:Nat):q3v l t p<=t.length:=by
 unfold q3v;split <;> omega
theorem qu8{l:List Symbol}{rs:List Equation}{t:List Int}(ht:TermOk l t):q5c l rs t=((qc5 (q3v l t) (fits l rs t) t.length).1,(qc5 (q3v l t) (fits l rs t) t.length).2.1):=
 qx2 _ _ (fun a=>Nat.le_trans (quk l t a) ht.le) _
theorem qu7{l:List Symbol}{rs:List Equation}{t:List Int}:q5c l rs t=(-1,-1)\/∃a k:Nat,∃h:k<rs.length,a<t.length/\q5c l rs t=((a:Int),(k:Int))/\(q50 l rs[k].left t a).isSome=true:=by
 rcases qel (q3v l t) (fits l rs t) t.length t.length (-1,-1) (gAI _) (.inl ⟨rfl,fun a _ h=>by omega⟩)with⟨h,_⟩|⟨a,_,h2,h3,h4,_⟩
 ·exact .inl h
 ·rcases q6s (fun e:Equation=>(q50 l e.left t a).isSome) rs with⟨h5,_⟩|⟨k,hk,h5,h6,_⟩
  ·have:fits l rs t a = -1:=h5;omega
  ·have e1:fits l rs t a=(k:Nat):=h5;exact .inr ⟨a,k,hk,h2,by unfold q5c;rw[h3,e1],h6⟩
theorem qan{l:List Symbol}{b:Bnd}{k:Nat}(hb:MB l b k)(hk:k<=24):∀(q x:List Int)(m:Nat),skip (ar l) m q=some []->skip (ar l) m (q02 b.1 b.2 q++x)=some x
 |[],x,m,h=>by
  obtain⟨rfl,_⟩:=qlk h;rw[q45];rfl
 |n::q,x,m,h=>by
  cases m with
  |zero=>rw[q45]at h;cases h
  |succ m=>
   rw[skip]at h;have ih:=qan hb hk q x _ h;have e:q02 b.1 b.2 (n::q)=(q3i b.1 b.2 (-1-n)).getD [n]++q02 b.1 b.2 q:=by simp[q02]
   rw[e,gZ];cases ho:q3i b.1 b.2 (-1-n)with
   |none=>
    show skip (ar l) (m+1) (n::(q02 b.1 b.2 q++x))=_;rw[skip];exact ih
   |some o=>
    have hn:n<0:=by
     rcases Int.lt_or_le n 0 with h|h
     ·exact h
     ·rw[qcv (hb.ok hk) (by omega)]at ho;cases ho
    rw[q9l l hn,Nat.add_zero]at ih;have ht:=hb.tm o (q6h ho);show skip (ar l) (m+1) (o++(q02 b.1 b.2 q++x))=_;rw[show m+1=1+m by omega,qaf,qbf ht.skip];exact ih
theorem qip{a:Int->Nat}{y y' z:List Int}(hy:skip a 1 (y++z)=some z)(hy':skip a 1 (y'++z)=some z):∀(x:List Int)(k:Nat),skip a k (x++(y++z))=some []->skip a k (x++(y'++z))=some []
 |[],0,h=>by
  rw[q45]at h;rw[List.nil_append]at h;rw[Option.some.inj h]at hy;cases hy
 |[],k+1,h=>by
  rw[List.nil_append,show k+1=1+k by omega,qaf]at h ⊢;rw[hy]at h;rw[hy'];exact h
 |n::x,0,h=>by rw[q45]at h;cases h
 |n::x,k+1,h=>by
  rw[List.cons_append,skip]at h ⊢;exact qip hy hy' x _ h
theorem qcb{l:List Symbol}{b:Bnd}{k:Nat}(hb:MB l b k){q:List Int}(hq:∀n∈q,q5x l n=true):∀n∈q02 b.1 b.2 q,q5x l n=true:=fun n hn=>by
 unfold q02 at hn;obtain⟨m,hm,hn⟩:=List.mem_flatMap.1 hn;cases ho:q3i b.1 b.2 (-1-m)with
 |none=>rw[ho]at hn;rw[gD.1 hn];exact hq m hm
 |some o=>rw[ho]at hn;exact(hb.tm o (q6h ho)).node n hn
theorem qwf{l:List Symbol}{t q:List Int}(ht:TermOk l t)(hq:TermOk l q){p:Nat}(hp:p<t.length){b:Bnd}{k:Nat}(hb:MB l b k)(hk:k<=24)(h:(q42 l t p (q02 b.1 b.2 q)).length<=24) :
 TermOk l (q42 l t p (q02 b.1 b.2 q)):=by
 obtain⟨h1,h2,h3⟩:=q56 ht hp
 have hs:skip (ar l) 1 (q42 l t p (q02 b.1 b.2 q))=some []:=by
  unfold q42;rw[gZ];refine qip (y:=q1i l t p) (by rw[<- h1];exact h3) (qan hb hk q _ 1 hq.skip) (t.take p) 1 ?_;rw[<- h1,List.take_append_drop];exact ht.skip
 refine⟨?_,h,fun n hn=>?_,hs⟩
 ·rcases Nat.eq_zero_or_pos (q42 l t p (q02 b.1 b.2 q)).length with h|h
  ·rw[gL h]at hs;cases hs
  ·exact h
 ·unfold q42 at hn;rcases gO.1 hn with hn|hn
  ·rcases gO.1 hn with hn|hn
   ·exact ht.node n (List.mem_of_mem_take hn)
   ·exact qcb hb hq.node n hn
  ·exact ht.node n (List.mem_of_mem_drop hn)
def q7t(l:List Symbol)(e:Equation)(t:List Int)(p:Nat):TermResult:=match q50 l e.left t p with
 |none=>⟨4,[]⟩
 |some b=>if 24<(q42 l t p (q02 b.1 b.2 e.right)).length then⟨2,[]⟩else⟨0,q42 l t p (q02 b.1 b.2 e.right)⟩
theorem qax{l:List Symbol}{e:Equation}{t:List Int}(he:EqOk l e)(ht:TermOk l t){p:Nat}(hp:p<t.length)(h:(q7t l e t p).code=0):TermOk l (q7t l e t p).term:=by
 unfold q7t at h ⊢;cases hm:q50 l e.left t p with
 |none=>rw[hm]at h;cases h
 |some b=>
  rw[hm]at h;simp only at h ⊢;split at h
  ·cases h
  ·rename_i h24;rw[if_neg h24];have hb:=qde he.left ht hp hm;exact qwf ht he.right hp hb he.left.le (by omega)
def norm(l:List Symbol)(rs:List Equation):Nat->Nat->List Int->NormalResult
 |0,k,t=>if(q5c l rs t).1<0 then⟨0,t,k⟩else⟨9,[],0⟩
 |m+1,k,t=>if(q5c l rs t).1<0 then⟨0,t,k⟩else
  if(q7t l (rs.getD (q5c l rs t).2.toNat ⟨[],[]⟩) t (q5c l rs t).1.toNat).code≠0 then⟨(q7t l (rs.getD (q5c l rs t).2.toNat ⟨[],[]⟩) t (q5c l rs t).1.toNat).code,[],0⟩
  else norm l rs m (k+1) (q7t l (rs.getD (q5c l rs t).2.toNat ⟨[],[]⟩) t (q5c l rs t).1.toNat).term
def q3x(s:Signature)(rs:List Equation)(t:List Int):Int:=if q4i s rs≠0 then q4i s rs else q3t s.symbols t
def q9y(s:Signature)(rs:List Equation)(r p:Int)(t:List Int):TermResult:=
 if q3x s rs t≠0 then⟨q3x s rs t,[]⟩else if inR r 0 (rs.length-1)=false\/inR p 0 (t.length-1)=false then⟨3,[]⟩else q7t s.symbols (rs.getD r.toNat ⟨[],[]⟩) t p.toNat
def q38(s:Signature)(rs:List Equation)(t:List Int)(fuel:Int):NormalResult:=
 if q3x s rs t≠0 then⟨q3x s rs t,[],0⟩else if inR fuel 0 200=false then⟨3,[],0⟩else norm s.symbols rs fuel.toNat 0 t
def qd4(s:Signature)(rs:List Equation)(a b:List Int)(fuel:Int):IntResult:=
 if(q38 s rs a fuel).code≠0 then⟨(q38 s rs a fuel).code,0⟩else if(q38 s rs b fuel).code≠0 then⟨(q38 s rs b fuel).code,0⟩else
  if(q38 s rs a fuel).term=(q38 s rs b fuel).term then⟨0,1⟩else⟨0,0⟩
end Ev.Ty
end
section
namespace Ev.Ty
theorem qq2:∀(k:Nat)(o:List Int),o.Nodup->(∀n∈o,0<=n/\n<k)->o.length<=k
 |0,o,_,h=>by
  cases o with
  |nil=>simp
  |cons x o=>have:=h x (by simp);omega
 |k+1,o,hn,h=>by
  by_cases hk:(k:Int)∈o
  ·have h1:=List.length_erase_of_mem hk
   have:=qq2 k (o.erase (k:Int)) (hn.erase _) fun n hm=>by
    have hm':=(hn.mem_erase_iff).1 hm;have:=h n hm'.2;omega
   omega
  ·have:=qq2 k o hn fun n hm=>by
    have:=h n hm;have:n≠(k:Int):=fun e=>hk (e▸hm);omega
   omega
end Ev.Ty
end
