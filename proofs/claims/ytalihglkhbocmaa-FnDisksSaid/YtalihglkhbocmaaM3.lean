/- Steps on the way to RowDisks: X0, XALL, TyMarks, TyDraw, TyFields, TyPlumb, TyNum, TyDisk, TyDisk2, TyFlush, TyPigeon, TyDiskLaw, TySig, TyAlg, TyTerm, TyTree, TyEval, TyEvalF, TyEvalT, TyDisk3, TyDrawDisk, TyLDisks. -/
import Derived.Test.YtalihglkhbocmaaM2
import Derived.Lib.SlTrimSet
set_option linter.unusedSectionVars false
set_option linter.unusedVariables false
set_option linter.unusedSimpArgs false
section
open Go
set_option linter.unusedVariables false
set_option maxRecDepth 100000
namespace Ev
theorem bytes_Equal.ev (n:Nat) (a0 a1:List T):callK prog A H LIM n F.bytes_Equal [(.sl 1 a0),(.sl 1 a1)]=((bytesOf a0).bind fun y1=>((oStr y1).bind fun y2=>((bytesOf a1).bind fun y3=>((oStr y3).bind fun y4=>some ((.bool (y2.toList == y4.toList)),[]))))):=by kernel_rfl
def cmp_Or_int64.st0 (x0:Int) (x1:List T) (x2 x3:Int):St:=⟨[(3,oi x0),(6,ol 1 x1),(7,oi x2),(8,oi x3)],[]⟩
noncomputable def cmp_Or_int64.K0 (n:Nat):Ex→St→R:=kx F.cmp_Or_int64 n [.block 0,.seq 0 (cx F.cmp_Or_int64 [1,1,1])] (endOf prog A F.cmp_Or_int64)
noncomputable def cmp_Or_int64.at0 (n:Nat) (m:Nat) (s:St):R:=lx F.cmp_Or_int64 n 0 [1,1,0,1,0,0] (cmp_Or_int64.K0 n) m s
noncomputable def cmp_Or_int64.rd0 (n:Nat) (L0:St→R) (s:St):R:=rx F.cmp_Or_int64 n 0 [1,1,0,1,0,0] (cmp_Or_int64.K0 n) L0 s
theorem cmp_Or_int64.next0 (n:Nat) (m:Nat) (s:St):cmp_Or_int64.at0 n (m+1) s=cmp_Or_int64.rd0 n (cmp_Or_int64.at0 n m) s:=nx _ _ _ _ _ _ _
theorem cmp_Or_int64.round0 (n:Nat) (L0:St→R) (x0:Int) (x1:List T) (x2 x3:Int):cmp_Or_int64.rd0 n L0 (cmp_Or_int64.st0 x0 x1 x2 x3)=(bif (decide (x3 < x2)) then (bif inB x3 ((x1).length / 1) then ((x1[((Int.toNat x3)*1)]?).bind fun e1=>((oInt .i64 e1).bind fun n2=>(bif ((n2 != x0)) then some ((.int .i64 n2),[]) else (L0 (cmp_Or_int64.st0 x0 x1 x2 (IntKind.wrap .i64 (x3+(1:Int)))))))) else none) else some ((.int .i64 x0),[])):=by kernel_rfl
theorem cmp_Or_int64.ev (n:Nat) (a0:List T):callK prog A H LIM n F.cmp_Or_int64 [(.sl 1 a0)]=(cmp_Or_int64.at0 n n (cmp_Or_int64.st0 (0:Int) a0 ((((a0).length / 1):Nat):Int) (0:Int))):=by kernel_rfl
theorem impl_CrashDisk.ev (n:Nat) (a0_0 a0_1 a1:List T):callK prog A H LIM n F.impl_CrashDisk [(.agg [(.sl 1 a0_0),(.sl 2 a0_1)]),(.sl 1 a1)]=((LIM F.impl_DiskFault [(.agg [(.sl 1 a0_0),(.sl 2 a0_1)])]).bind fun r1=>((oNil r1.2).bind fun _=>((oInt .i64 r1.1).bind fun n2=>(bif ((n2 != (0:Int))) then some ((.agg [(.int .i64 n2),(.sl 1 []),(.sl 2 [])]),[]) else (bif ((((((a1).length / 1):Nat):Int) != ((((a0_1).length / 2):Nat):Int))) then some ((.agg [(.int .i64 (2:Int)),(.sl 1 []),(.sl 2 [])]),[]) else ((LIM F.slices_ContainsFunc_Sint64 [(.sl 1 a1),(.clo F.impl_CrashDisk_1 [])]).bind fun r3=>((oNil r3.2).bind fun _=>((oBool r3.1).bind fun b4=>(bif b4 then some ((.agg [(.int .i64 (3:Int)),(.sl 1 []),(.sl 2 [])]),[]) else ((LIM F.impl_ownDisk [(.agg [(.sl 1 a0_0),(.sl 2 a0_1)])]).bind fun r5=>((oNil r5.2).bind fun _=>((oAgg r5.1).bind fun c6=>((oCons c6).bind fun p7=>((oSl 1 p7.1).bind fun c8=>((oCons p7.2).bind fun p9=>((oSl 2 p9.1).bind fun c10=>((oNil p9.2).bind fun _=>((LIM F.impl_Disk_flush [(.rref [(.sl 1 c8),(.sl 2 c10)] 0),(.clo F.impl_CrashDisk_2 [(.rref [(.sl 1 a1)] 0)])]).bind fun r11=>((oCons r11.2).bind fun p12=>((oNil p12.2).bind fun _=>((oAgg p12.1).bind fun c13=>((oCons c13).bind fun p14=>((oSl 1 p14.1).bind fun c15=>((oCons p14.2).bind fun p16=>((oSl 2 p16.1).bind fun c17=>((oNil p16.2).bind fun _=>((oTup r11.1).bind fun c18=>((oNil c18).bind fun _=>some ((.agg [(.int .i64 (0:Int)),(.sl 1 c15),(.sl 2 c17)]),[]))))))))))))))))))))))))))))):=by kernel_rfl
theorem impl_CrashDisk_1.ev (n:Nat) (a0:Int):callK prog A H LIM n F.impl_CrashDisk_1 [(.int .i64 a0)]=((LIM F.impl_within [(.int .i64 a0),(.int .i64 (0:Int)),(.int .i64 (96:Int))]).bind fun r1=>((oNil r1.2).bind fun _=>((oBool r1.1).bind fun b2=>some ((.bool (!b2)),[])))):=by kernel_rfl
theorem impl_CrashDisk_2.ev (n:Nat) (a0:Int) (a1_0:List T):callK prog A H LIM n F.impl_CrashDisk_2 [(.int .i64 a0),(.rref [(.sl 1 a1_0)] 0)]=(bif inB a0 ((a1_0).length / 1) then ((a1_0[((Int.toNat a0)*1)]?).bind fun e1=>((oInt .i64 e1).bind fun n2=>some ((.int .i64 n2),[]))) else none):=by kernel_rfl
def impl_DiskFault.st2 (x0:List T) (x1 x2:Int) (x3 x4:List T):St:=⟨[(1,(.one (.ptr 64 0))),(40,ol 2 x0),(41,oi x1),(42,oi x2)],[(64,(.box [(.t (.sl 1 x3)),(.t (.sl 2 x4))]))]⟩
def impl_DiskFault.st0 (x0:List T) (x1 x2:Int) (x3 x4:List T):St:=⟨[(1,(.one (.ptr 64 0))),(23,ol 2 x0),(24,oi x1),(25,oi x2)],[(64,(.box [(.t (.sl 1 x3)),(.t (.sl 2 x4))]))]⟩
noncomputable def impl_DiskFault.K0 (n:Nat):Ex→St→R:=kx F.impl_DiskFault n [.block 0,.seq 0 (cx F.impl_DiskFault [1,1,1,1,1])] (endOf prog A F.impl_DiskFault)
noncomputable def impl_DiskFault.at0 (n:Nat) (m:Nat) (s:St):R:=lx F.impl_DiskFault n 0 [1,1,1,1,0,1,0,0] (impl_DiskFault.K0 n) m s
noncomputable def impl_DiskFault.rd0 (n:Nat) (L0:St→R) (s:St):R:=rx F.impl_DiskFault n 0 [1,1,1,1,0,1,0,0] (impl_DiskFault.K0 n) L0 s
theorem impl_DiskFault.next0 (n:Nat) (m:Nat) (s:St):impl_DiskFault.at0 n (m+1) s=impl_DiskFault.rd0 n (impl_DiskFault.at0 n m) s:=nx _ _ _ _ _ _ _
noncomputable def impl_DiskFault.K2 (n:Nat):Ex→St→R:=kx F.impl_DiskFault n [.block 2,.seq 0 (cx F.impl_DiskFault [1,1,1,1,1,1])] (endOf prog A F.impl_DiskFault)
noncomputable def impl_DiskFault.at2 (n:Nat) (m:Nat) (s:St):R:=lx F.impl_DiskFault n 2 [1,1,1,1,1,0,1,0,0] (impl_DiskFault.K2 n) m s
noncomputable def impl_DiskFault.rd2 (n:Nat) (L2:St→R) (s:St):R:=rx F.impl_DiskFault n 2 [1,1,1,1,1,0,1,0,0] (impl_DiskFault.K2 n) L2 s
theorem impl_DiskFault.next2 (n:Nat) (m:Nat) (s:St):impl_DiskFault.at2 n (m+1) s=impl_DiskFault.rd2 n (impl_DiskFault.at2 n m) s:=nx _ _ _ _ _ _ _
theorem impl_DiskFault.round0 (n:Nat) (L0:St→R) (x0:List T) (x1 x2:Int) (x3 x4:List T):impl_DiskFault.rd0 n L0 (impl_DiskFault.st0 x0 x1 x2 x3 x4)=(bif (decide (x2 < x1)) then (bif inB x2 ((x0).length / 2) then ((x0[((Int.toNat x2)*2)]?).bind fun e5=>((oInt .i64 e5).bind fun n6=>((x0[(((Int.toNat x2)*2)+1)]?).bind fun e7=>((oSl 1 e7).bind fun c8=>((LIM F.impl_Disk_has [(.agg [(.sl 1 x3),(.sl 2 x4)]),(.int .i64 n6)]).bind fun r9=>((oNil r9.2).bind fun _=>((oBool r9.1).bind fun b10=>(bif (!b10) then some ((.int .i64 (3:Int)),[]) else (bif ((((((c8).length / 1):Nat):Int) != (96:Int))) then some ((.int .i64 (1:Int)),[]) else (L0 (impl_DiskFault.st0 x0 x1 (IntKind.wrap .i64 (x2+(1:Int))) x3 x4))))))))))) else none) else (impl_DiskFault.at2 n n (impl_DiskFault.st2 x4 ((((x4).length / 2):Nat):Int) (0:Int) x3 x4))):=by kernel_rfl
theorem impl_DiskFault.round2 (n:Nat) (L2:St→R) (x0:List T) (x1 x2:Int) (x3 x4:List T):impl_DiskFault.rd2 n L2 (impl_DiskFault.st2 x0 x1 x2 x3 x4)=(bif (decide (x2 < x1)) then (bif inB x2 ((x0).length / 2) then ((x0[((Int.toNat x2)*2)]?).bind fun e11=>((oInt .i64 e11).bind fun n12=>((x0[(((Int.toNat x2)*2)+1)]?).bind fun e13=>((oSl 1 e13).bind fun c14=>((LIM F.impl_Disk_putFor [(.agg [(.sl 1 x3),(.sl 2 x4)]),(.int .i64 n12)]).bind fun r15=>((oNil r15.2).bind fun _=>((oInt .i64 r15.1).bind fun n16=>(bif ((n16 != x2)) then some ((.int .i64 (6:Int)),[]) else (L2 (impl_DiskFault.st2 x0 x1 (IntKind.wrap .i64 (x2+(1:Int))) x3 x4)))))))))) else none) else some ((.int .i64 (0:Int)),[])):=by kernel_rfl
theorem impl_DiskFault.ev (n:Nat) (a0_0 a0_1:List T):callK prog A H LIM n F.impl_DiskFault [(.agg [(.sl 1 a0_0),(.sl 2 a0_1)])]=((LIM F.impl_within [(.int .i64 ((((a0_0).length / 1):Nat):Int)),(.int .i64 (8:Int)),(.int .i64 (64:Int))]).bind fun r1=>((oNil r1.2).bind fun _=>((oBool r1.1).bind fun b2=>(bif (!b2) then some ((.int .i64 (2:Int)),[]) else ((LIM F.slices_ContainsFunc_SSbyte [(.sl 1 a0_0),(.clo F.impl_DiskFault_1 [])]).bind fun r3=>((oNil r3.2).bind fun _=>((oBool r3.1).bind fun b4=>(bif b4 then some ((.int .i64 (1:Int)),[]) else (bif (decide (((((a0_1).length / 2):Nat):Int) > ((((a0_0).length / 1):Nat):Int))) then some ((.int .i64 (2:Int)),[]) else (impl_DiskFault.at0 n n (impl_DiskFault.st0 a0_1 ((((a0_1).length / 2):Nat):Int) (0:Int) a0_0 a0_1))))))))))):=by kernel_rfl
theorem impl_DiskFault_1.ev (n:Nat) (a0:List T):callK prog A H LIM n F.impl_DiskFault_1 [(.sl 1 a0)]=some ((.bool ((((((a0).length / 1):Nat):Int) != (96:Int)))),[]):=by kernel_rfl
def impl_Disk_flush_at1_impl_CrashDisk_2.st0 (x0:List T) (x1 x2:Int) (x3 x4:List T):St:=⟨[(0,(.one (.ptr 1000000 0))),(1,(.one (.t (.clo F.impl_CrashDisk_2 [(.rref [(.sl 1 x0)] 0)])))),(9,(.one (.obj 1000002))),(10,oi x1),(11,oi x2)],[(1000000,(.box [(.obj 1000001),(.obj 1000002)])),(1000001,(.arr true true 1 x3)),(1000002,(.arr true true 2 x4))]⟩
noncomputable def impl_Disk_flush_at1_impl_CrashDisk_2.K0 (n:Nat):Ex→St→R:=kx F.impl_Disk_flush n [.block 0,.seq 0 (cx F.impl_Disk_flush [1])] (endOf prog A F.impl_Disk_flush)
noncomputable def impl_Disk_flush_at1_impl_CrashDisk_2.at0 (n:Nat) (m:Nat) (s:St):R:=lx F.impl_Disk_flush n 0 [0,1,0,0] (impl_Disk_flush_at1_impl_CrashDisk_2.K0 n) m s
noncomputable def impl_Disk_flush_at1_impl_CrashDisk_2.rd0 (n:Nat) (L0:St→R) (s:St):R:=rx F.impl_Disk_flush n 0 [0,1,0,0] (impl_Disk_flush_at1_impl_CrashDisk_2.K0 n) L0 s
theorem impl_Disk_flush_at1_impl_CrashDisk_2.next0 (n:Nat) (m:Nat) (s:St):impl_Disk_flush_at1_impl_CrashDisk_2.at0 n (m+1) s=impl_Disk_flush_at1_impl_CrashDisk_2.rd0 n (impl_Disk_flush_at1_impl_CrashDisk_2.at0 n m) s:=nx _ _ _ _ _ _ _
theorem impl_Disk_flush_at1_impl_CrashDisk_2.round0 (n:Nat) (L0:St→R) (x0:List T) (x1 x2:Int) (x3 x4:List T):impl_Disk_flush_at1_impl_CrashDisk_2.rd0 n L0 (impl_Disk_flush_at1_impl_CrashDisk_2.st0 x0 x1 x2 x3 x4)=(bif (decide (x2 < x1)) then (bif inB x2 ((x4).length / 2) then ((x4[((Int.toNat x2)*2)]?).bind fun e1=>((oInt .i64 e1).bind fun n2=>((x4[(((Int.toNat x2)*2)+1)]?).bind fun e3=>((oSl 1 e3).bind fun c4=>(bif inB n2 ((x3).length / 1) then ((x3[((Int.toNat n2)*1)]?).bind fun e5=>((oSl 1 e5).bind fun c6=>((LIM F.impl_CrashDisk_2 [(.int .i64 x2),(.rref [(.sl 1 x0)] 0)]).bind fun r7=>((oNil r7.2).bind fun _=>((oInt .i64 r7.1).bind fun n8=>(bif decide (0≤(0:Int))&&decide ((0:Int)≤n8)&&decide (n8≤((((c4).length / 1):Nat):Int)) then (bif (((c4.take ((Int.toNat n8)*1)).drop (0*1))).all T.scalar then (L0 (impl_Disk_flush_at1_impl_CrashDisk_2.st0 x0 x1 (IntKind.wrap .i64 (x2+(1:Int))) (List.set x3 ((Int.toNat n2)*1) (.sl 1 (setCells c6 0 (List.take (c6).length ((c4.take ((Int.toNat n8)*1)).drop (0*1)))))) (List.set x4 (((Int.toNat x2)*2)+1) (.sl 1 c4)))) else none) else none)))))) else none))))) else none) else some ((.tup []),[(.agg [(.sl 1 x3),(.sl 2 [])])])):=by kernel_rfl
theorem impl_Disk_flush_at1_impl_CrashDisk_2.ev (n:Nat) (a0_0 a0_1 a1_0_0:List T):callK prog A H LIM n F.impl_Disk_flush [(.rref [(.sl 1 a0_0),(.sl 2 a0_1)] 0),(.clo F.impl_CrashDisk_2 [(.rref [(.sl 1 a1_0_0)] 0)])]=(impl_Disk_flush_at1_impl_CrashDisk_2.at0 n n (impl_Disk_flush_at1_impl_CrashDisk_2.st0 a1_0_0 ((((a0_1).length / 2):Nat):Int) (0:Int) a0_0 a0_1)):=by kernel_rfl
def impl_Disk_flush_at1_impl_whole.st0 (x0 x1:Int) (x2 x3:List T):St:=⟨[(0,(.one (.ptr 1000000 0))),(1,(.one (.t (.clo F.impl_whole [])))),(9,(.one (.obj 1000002))),(10,oi x0),(11,oi x1)],[(1000000,(.box [(.obj 1000001),(.obj 1000002)])),(1000001,(.arr true true 1 x2)),(1000002,(.arr true true 2 x3))]⟩
noncomputable def impl_Disk_flush_at1_impl_whole.K0 (n:Nat):Ex→St→R:=kx F.impl_Disk_flush n [.block 0,.seq 0 (cx F.impl_Disk_flush [1])] (endOf prog A F.impl_Disk_flush)
noncomputable def impl_Disk_flush_at1_impl_whole.at0 (n:Nat) (m:Nat) (s:St):R:=lx F.impl_Disk_flush n 0 [0,1,0,0] (impl_Disk_flush_at1_impl_whole.K0 n) m s
noncomputable def impl_Disk_flush_at1_impl_whole.rd0 (n:Nat) (L0:St→R) (s:St):R:=rx F.impl_Disk_flush n 0 [0,1,0,0] (impl_Disk_flush_at1_impl_whole.K0 n) L0 s
theorem impl_Disk_flush_at1_impl_whole.next0 (n:Nat) (m:Nat) (s:St):impl_Disk_flush_at1_impl_whole.at0 n (m+1) s=impl_Disk_flush_at1_impl_whole.rd0 n (impl_Disk_flush_at1_impl_whole.at0 n m) s:=nx _ _ _ _ _ _ _
theorem impl_Disk_flush_at1_impl_whole.round0 (n:Nat) (L0:St→R) (x0 x1:Int) (x2 x3:List T):impl_Disk_flush_at1_impl_whole.rd0 n L0 (impl_Disk_flush_at1_impl_whole.st0 x0 x1 x2 x3)=(bif (decide (x1 < x0)) then (bif inB x1 ((x3).length / 2) then ((x3[((Int.toNat x1)*2)]?).bind fun e1=>((oInt .i64 e1).bind fun n2=>((x3[(((Int.toNat x1)*2)+1)]?).bind fun e3=>((oSl 1 e3).bind fun c4=>(bif inB n2 ((x2).length / 1) then ((x2[((Int.toNat n2)*1)]?).bind fun e5=>((oSl 1 e5).bind fun c6=>((LIM F.impl_whole [(.int .i64 x1)]).bind fun r7=>((oNil r7.2).bind fun _=>((oInt .i64 r7.1).bind fun n8=>(bif decide (0≤(0:Int))&&decide ((0:Int)≤n8)&&decide (n8≤((((c4).length / 1):Nat):Int)) then (bif (((c4.take ((Int.toNat n8)*1)).drop (0*1))).all T.scalar then (L0 (impl_Disk_flush_at1_impl_whole.st0 x0 (IntKind.wrap .i64 (x1+(1:Int))) (List.set x2 ((Int.toNat n2)*1) (.sl 1 (setCells c6 0 (List.take (c6).length ((c4.take ((Int.toNat n8)*1)).drop (0*1)))))) (List.set x3 (((Int.toNat x1)*2)+1) (.sl 1 c4)))) else none) else none)))))) else none))))) else none) else some ((.tup []),[(.agg [(.sl 1 x2),(.sl 2 [])])])):=by kernel_rfl
theorem impl_Disk_flush_at1_impl_whole.ev (n:Nat) (a0_0 a0_1:List T):callK prog A H LIM n F.impl_Disk_flush [(.rref [(.sl 1 a0_0),(.sl 2 a0_1)] 0),(.clo F.impl_whole [])]=(impl_Disk_flush_at1_impl_whole.at0 n n (impl_Disk_flush_at1_impl_whole.st0 ((((a0_1).length / 2):Nat):Int) (0:Int) a0_0 a0_1)):=by kernel_rfl
theorem impl_Disk_has.ev (n:Nat) (a0_0 a0_1:List T) (a1:Int):callK prog A H LIM n F.impl_Disk_has [(.agg [(.sl 1 a0_0),(.sl 2 a0_1)]),(.int .i64 a1)]=((LIM F.impl_within [(.int .i64 a1),(.int .i64 (0:Int)),(.int .i64 (IntKind.wrap .i64 (((((a0_0).length / 1):Nat):Int) - (1:Int))))]).bind fun r1=>((oNil r1.2).bind fun _=>((oBool r1.1).bind fun b2=>some ((.bool b2),[])))):=by kernel_rfl
theorem impl_Disk_putFor.ev (n:Nat) (a0_0 a0_1:List T) (a1:Int):callK prog A H LIM n F.impl_Disk_putFor [(.agg [(.sl 1 a0_0),(.sl 2 a0_1)]),(.int .i64 a1)]=((LIM F.slices_IndexFunc_SPut [(.sl 2 a0_1),(.clo F.impl_Disk_putFor_1 [(.rref [(.int .i64 a1)] 0)])]).bind fun r1=>((oNil r1.2).bind fun _=>((oInt .i64 r1.1).bind fun n2=>some ((.int .i64 n2),[])))):=by kernel_rfl
theorem impl_Disk_putFor_1.ev (n:Nat) (a0_0:Int) (a0_1:List T) (a1_0:Int):callK prog A H LIM n F.impl_Disk_putFor_1 [(.agg [(.int .i64 a0_0),(.sl 1 a0_1)]),(.rref [(.int .i64 a1_0)] 0)]=some ((.bool ((a0_0 == a1_0))),[]):=by kernel_rfl
theorem impl_Disk_read.ev (n:Nat) (a0_0 a0_1:List T) (a1:Int):callK prog A H LIM n F.impl_Disk_read [(.agg [(.sl 1 a0_0),(.sl 2 a0_1)]),(.int .i64 a1)]=((LIM F.impl_Disk_putFor [(.agg [(.sl 1 a0_0),(.sl 2 a0_1)]),(.int .i64 a1)]).bind fun r1=>((oNil r1.2).bind fun _=>((oInt .i64 r1.1).bind fun n2=>(bif (decide (n2 ≥ (0:Int))) then (bif inB n2 ((a0_1).length / 2) then ((a0_1[(((Int.toNat n2)*2)+1)]?).bind fun e3=>((oSl 1 e3).bind fun c4=>some ((.sl 1 c4),[]))) else none) else (bif inB a1 ((a0_0).length / 1) then ((a0_0[((Int.toNat a1)*1)]?).bind fun e5=>((oSl 1 e5).bind fun c6=>some ((.sl 1 c6),[]))) else none))))):=by kernel_rfl
theorem impl_Disk_write.ev (n:Nat) (a0_0 a0_1:List T) (a1:Int) (a2:List T):callK prog A H LIM n F.impl_Disk_write [(.rref [(.sl 1 a0_0),(.sl 2 a0_1)] 0),(.int .i64 a1),(.sl 1 a2)]=((LIM F.slices_Clone_Sbyte [(.sl 1 a2)]).bind fun r1=>((oNil r1.2).bind fun _=>((oSl 1 r1.1).bind fun c2=>((LIM F.impl_Disk_putFor [(.agg [(.sl 1 a0_0),(.sl 2 a0_1)]),(.int .i64 a1)]).bind fun r3=>((oNil r3.2).bind fun _=>((oInt .i64 r3.1).bind fun n4=>(bif (decide (n4 ≥ (0:Int))) then (bif inB n4 ((a0_1).length / 2) then (bif decide ((((Int.toNat n4)*2)+1)+1≤(a0_1).length) then some ((.tup []),[(.agg [(.sl 1 a0_0),(.sl 2 (setCells a0_1 (((Int.toNat n4)*2)+1) [(.sl 1 c2)]))])]) else none) else none) else (bif Nat.ble (((a0_1).length+2)*32) (140737488355328*2) then some ((.tup []),[(.agg [(.sl 1 a0_0),(.sl 2 (a0_1++[(.int .i64 a1),(.sl 1 c2)]:List T))])]) else none)))))))):=by kernel_rfl
theorem impl_Disk_writeFault.ev (n:Nat) (a0_0 a0_1:List T) (a1:Int) (a2:List T):callK prog A H LIM n F.impl_Disk_writeFault [(.agg [(.sl 1 a0_0),(.sl 2 a0_1)]),(.int .i64 a1),(.sl 1 a2)]=((LIM F.impl_Disk_has [(.agg [(.sl 1 a0_0),(.sl 2 a0_1)]),(.int .i64 a1)]).bind fun r1=>((oNil r1.2).bind fun _=>((oBool r1.1).bind fun b2=>(bif (!b2) then some ((.int .i64 (3:Int)),[]) else (bif ((((((a2).length / 1):Nat):Int) != (96:Int))) then some ((.int .i64 (1:Int)),[]) else some ((.int .i64 (0:Int)),[])))))):=by kernel_rfl
theorem impl_FlushDisk.ev (n:Nat) (a0_0 a0_1:List T):callK prog A H LIM n F.impl_FlushDisk [(.agg [(.sl 1 a0_0),(.sl 2 a0_1)])]=((LIM F.impl_DiskFault [(.agg [(.sl 1 a0_0),(.sl 2 a0_1)])]).bind fun r1=>((oNil r1.2).bind fun _=>((oInt .i64 r1.1).bind fun n2=>(bif ((n2 != (0:Int))) then some ((.agg [(.int .i64 n2),(.sl 1 []),(.sl 2 [])]),[]) else ((LIM F.impl_ownDisk [(.agg [(.sl 1 a0_0),(.sl 2 a0_1)])]).bind fun r3=>((oNil r3.2).bind fun _=>((oAgg r3.1).bind fun c4=>((oCons c4).bind fun p5=>((oSl 1 p5.1).bind fun c6=>((oCons p5.2).bind fun p7=>((oSl 2 p7.1).bind fun c8=>((oNil p7.2).bind fun _=>((LIM F.impl_Disk_flush [(.rref [(.sl 1 c6),(.sl 2 c8)] 0),(.clo F.impl_whole [])]).bind fun r9=>((oCons r9.2).bind fun p10=>((oNil p10.2).bind fun _=>((oAgg p10.1).bind fun c11=>((oCons c11).bind fun p12=>((oSl 1 p12.1).bind fun c13=>((oCons p12.2).bind fun p14=>((oSl 2 p14.1).bind fun c15=>((oNil p14.2).bind fun _=>((oTup r9.1).bind fun c16=>((oNil c16).bind fun _=>some ((.agg [(.int .i64 (0:Int)),(.sl 1 c13),(.sl 2 c15)]),[])))))))))))))))))))))))):=by kernel_rfl
theorem impl_ReadSector.ev (n:Nat) (a0_0 a0_1:List T) (a1:Int):callK prog A H LIM n F.impl_ReadSector [(.agg [(.sl 1 a0_0),(.sl 2 a0_1)]),(.int .i64 a1)]=((LIM F.impl_DiskFault [(.agg [(.sl 1 a0_0),(.sl 2 a0_1)])]).bind fun r1=>((oNil r1.2).bind fun _=>((oInt .i64 r1.1).bind fun n2=>(bif ((n2 != (0:Int))) then some ((.agg [(.int .i64 n2),(.sl 1 [])]),[]) else ((LIM F.impl_Disk_has [(.agg [(.sl 1 a0_0),(.sl 2 a0_1)]),(.int .i64 a1)]).bind fun r3=>((oNil r3.2).bind fun _=>((oBool r3.1).bind fun b4=>(bif (!b4) then some ((.agg [(.int .i64 (3:Int)),(.sl 1 [])]),[]) else ((LIM F.impl_Disk_read [(.agg [(.sl 1 a0_0),(.sl 2 a0_1)]),(.int .i64 a1)]).bind fun r5=>((oNil r5.2).bind fun _=>((oSl 1 r5.1).bind fun c6=>((LIM F.slices_Clone_Sbyte [(.sl 1 c6)]).bind fun r7=>((oNil r7.2).bind fun _=>((oSl 1 r7.1).bind fun c8=>some ((.agg [(.int .i64 (0:Int)),(.sl 1 c8)]),[]))))))))))))))):=by kernel_rfl
theorem impl_SameDisks.ev (n:Nat) (a0_0 a0_1 a1_0 a1_1:List T):callK prog A H LIM n F.impl_SameDisks [(.agg [(.sl 1 a0_0),(.sl 2 a0_1)]),(.agg [(.sl 1 a1_0),(.sl 2 a1_1)])]=((LIM F.slices_EqualFunc_SSbyte [(.sl 1 a0_0),(.sl 1 a1_0),(.clo F.bytes_Equal [])]).bind fun r1=>((oNil r1.2).bind fun _=>((oBool r1.1).bind fun b2=>(bif b2 then ((LIM F.slices_EqualFunc_SPut [(.sl 2 a0_1),(.sl 2 a1_1),(.clo F.impl_SameDisks_1 [])]).bind fun r3=>((oNil r3.2).bind fun _=>((oBool r3.1).bind fun b4=>some ((.bool b4),[])))) else some ((.bool false),[]))))):=by kernel_rfl
theorem impl_SameDisks_1.ev (n:Nat) (a0_0:Int) (a0_1:List T) (a1_0:Int) (a1_1:List T):callK prog A H LIM n F.impl_SameDisks_1 [(.agg [(.int .i64 a0_0),(.sl 1 a0_1)]),(.agg [(.int .i64 a1_0),(.sl 1 a1_1)])]=(bif ((a0_0 == a1_0)) then ((LIM F.bytes_Equal [(.sl 1 a0_1),(.sl 1 a1_1)]).bind fun r1=>((oNil r1.2).bind fun _=>((oBool r1.1).bind fun b2=>some ((.bool b2),[])))) else some ((.bool false),[])):=by kernel_rfl
theorem impl_WriteSector.ev (n:Nat) (a0_0 a0_1:List T) (a1:Int) (a2:List T):callK prog A H LIM n F.impl_WriteSector [(.agg [(.sl 1 a0_0),(.sl 2 a0_1)]),(.int .i64 a1),(.sl 1 a2)]=((LIM F.impl_DiskFault [(.agg [(.sl 1 a0_0),(.sl 2 a0_1)])]).bind fun r1=>((oNil r1.2).bind fun _=>((oInt .i64 r1.1).bind fun n2=>((LIM F.impl_Disk_writeFault [(.agg [(.sl 1 a0_0),(.sl 2 a0_1)]),(.int .i64 a1),(.sl 1 a2)]).bind fun r3=>((oNil r3.2).bind fun _=>((oInt .i64 r3.1).bind fun n4=>((LIM F.impl_firstCode [(.sl 1 [(.int .i64 n2),(.int .i64 n4)])]).bind fun r5=>((oNil r5.2).bind fun _=>((oInt .i64 r5.1).bind fun n6=>(bif ((n6 != (0:Int))) then some ((.agg [(.int .i64 n6),(.sl 1 []),(.sl 2 [])]),[]) else ((LIM F.impl_ownDisk [(.agg [(.sl 1 a0_0),(.sl 2 a0_1)])]).bind fun r7=>((oNil r7.2).bind fun _=>((oAgg r7.1).bind fun c8=>((oCons c8).bind fun p9=>((oSl 1 p9.1).bind fun c10=>((oCons p9.2).bind fun p11=>((oSl 2 p11.1).bind fun c12=>((oNil p11.2).bind fun _=>((LIM F.impl_Disk_write [(.rref [(.sl 1 c10),(.sl 2 c12)] 0),(.int .i64 a1),(.sl 1 a2)]).bind fun r13=>((oCons r13.2).bind fun p14=>((oNil p14.2).bind fun _=>((oAgg p14.1).bind fun c15=>((oCons c15).bind fun p16=>((oSl 1 p16.1).bind fun c17=>((oCons p16.2).bind fun p18=>((oSl 2 p18.1).bind fun c19=>((oNil p18.2).bind fun _=>((oTup r13.1).bind fun c20=>((oNil c20).bind fun _=>some ((.agg [(.int .i64 (0:Int)),(.sl 1 c17),(.sl 2 c19)]),[])))))))))))))))))))))))))))))):=by kernel_rfl
theorem impl_firstCode.ev (n:Nat) (a0:List T):callK prog A H LIM n F.impl_firstCode [(.sl 1 a0)]=((LIM F.cmp_Or_int64 [(.sl 1 a0)]).bind fun r1=>((oNil r1.2).bind fun _=>((oInt .i64 r1.1).bind fun n2=>some ((.int .i64 n2),[])))):=by kernel_rfl
def impl_ownDisk.st0 (x0:List T) (x1 x2:Int) (x3 x4:List T):St:=⟨[(2,(.one (.ptr 128 0))),(3,(.one (.ptr 192 0))),(11,ol 1 x0),(12,oi x1),(13,oi x2)],[(128,(.box [.nil,.nil])),(512,(.arr true true 2 x3)),(192,(.box [(.obj 513072),(.obj 512)])),(513072,(.arr true true 1 x4))]⟩
noncomputable def impl_ownDisk.K0 (n:Nat):Ex→St→R:=kx F.impl_ownDisk n [.block 0,.seq 0 (cx F.impl_ownDisk [1,1,1])] (endOf prog A F.impl_ownDisk)
noncomputable def impl_ownDisk.at0 (n:Nat) (m:Nat) (s:St):R:=lx F.impl_ownDisk n 0 [1,1,0,1,0,0] (impl_ownDisk.K0 n) m s
noncomputable def impl_ownDisk.rd0 (n:Nat) (L0:St→R) (s:St):R:=rx F.impl_ownDisk n 0 [1,1,0,1,0,0] (impl_ownDisk.K0 n) L0 s
theorem impl_ownDisk.next0 (n:Nat) (m:Nat) (s:St):impl_ownDisk.at0 n (m+1) s=impl_ownDisk.rd0 n (impl_ownDisk.at0 n m) s:=nx _ _ _ _ _ _ _
theorem impl_ownDisk.round0 (n:Nat) (L0:St→R) (x0:List T) (x1 x2:Int) (x3 x4:List T):impl_ownDisk.rd0 n L0 (impl_ownDisk.st0 x0 x1 x2 x3 x4)=(bif (decide (x2 < x1)) then (bif inB x2 ((x0).length / 1) then ((x0[((Int.toNat x2)*1)]?).bind fun e3=>((oSl 1 e3).bind fun c4=>((LIM F.slices_Clone_Sbyte [(.sl 1 c4)]).bind fun r5=>((oNil r5.2).bind fun _=>((oSl 1 r5.1).bind fun c6=>(bif Nat.ble (((x4).length+1)*24) (140737488355328*1) then (L0 (impl_ownDisk.st0 x0 x1 (IntKind.wrap .i64 (x2+(1:Int))) x3 (x4++[(.sl 1 c6)]:List T))) else none)))))) else none) else some ((.agg [(.sl 1 x4),(.sl 2 x3)]),[])):=by kernel_rfl
theorem impl_ownDisk.ev (n:Nat) (a0_0 a0_1:List T):callK prog A H LIM n F.impl_ownDisk [(.agg [(.sl 1 a0_0),(.sl 2 a0_1)])]=((LIM F.impl_ownPuts [(.sl 2 a0_1)]).bind fun r1=>((oNil r1.2).bind fun _=>((oSl 2 r1.1).bind fun c2=>(impl_ownDisk.at0 n n (impl_ownDisk.st0 a0_0 ((((a0_0).length / 1):Nat):Int) (0:Int) c2 []))))):=by kernel_rfl
def impl_ownPuts.st0 (x0:List T) (x1 x2:Int) (x3:List T):St:=⟨[(3,(.one (.obj 384))),(7,ol 2 x0),(8,oi x1),(9,oi x2)],[(384,(.arr true true 2 x3))]⟩
noncomputable def impl_ownPuts.K0 (n:Nat):Ex→St→R:=kx F.impl_ownPuts n [.block 0,.seq 0 (cx F.impl_ownPuts [1,1,1])] (endOf prog A F.impl_ownPuts)
noncomputable def impl_ownPuts.at0 (n:Nat) (m:Nat) (s:St):R:=lx F.impl_ownPuts n 0 [1,1,0,1,0,0] (impl_ownPuts.K0 n) m s
noncomputable def impl_ownPuts.rd0 (n:Nat) (L0:St→R) (s:St):R:=rx F.impl_ownPuts n 0 [1,1,0,1,0,0] (impl_ownPuts.K0 n) L0 s
theorem impl_ownPuts.next0 (n:Nat) (m:Nat) (s:St):impl_ownPuts.at0 n (m+1) s=impl_ownPuts.rd0 n (impl_ownPuts.at0 n m) s:=nx _ _ _ _ _ _ _
theorem impl_ownPuts.round0 (n:Nat) (L0:St→R) (x0:List T) (x1 x2:Int) (x3:List T):impl_ownPuts.rd0 n L0 (impl_ownPuts.st0 x0 x1 x2 x3)=(bif (decide (x2 < x1)) then (bif inB x2 ((x0).length / 2) then ((x0[((Int.toNat x2)*2)]?).bind fun e1=>((oInt .i64 e1).bind fun n2=>((x0[(((Int.toNat x2)*2)+1)]?).bind fun e3=>((oSl 1 e3).bind fun c4=>((LIM F.slices_Clone_Sbyte [(.sl 1 c4)]).bind fun r5=>((oNil r5.2).bind fun _=>((oSl 1 r5.1).bind fun c6=>(bif Nat.ble (((x3).length+2)*32) (140737488355328*2) then (L0 (impl_ownPuts.st0 x0 x1 (IntKind.wrap .i64 (x2+(1:Int))) (x3++[(.int .i64 n2),(.sl 1 c6)]:List T))) else none)))))))) else none) else some ((.sl 2 x3),[])):=by kernel_rfl
theorem impl_ownPuts.ev (n:Nat) (a0:List T):callK prog A H LIM n F.impl_ownPuts [(.sl 2 a0)]=(impl_ownPuts.at0 n n (impl_ownPuts.st0 a0 ((((a0).length / 2):Nat):Int) (0:Int) [])):=by kernel_rfl
theorem impl_whole.ev (n:Nat) (a0:Int):callK prog A H LIM n F.impl_whole [(.int .i64 a0)]=some ((.int .i64 (96:Int)),[]):=by kernel_rfl
theorem impl_within.ev (n:Nat) (a0 a1 a2:Int):callK prog A H LIM n F.impl_within [(.int .i64 a0),(.int .i64 a1),(.int .i64 a2)]=(bif (decide (a0 ≥ a1)) then some ((.bool (decide (a0≤a2))),[]) else some ((.bool false),[])):=by kernel_rfl
def laws_FnDisks.st0 (x0:Int) (x1:List T) (x2 x3:Int) (x4 x5 x6 x7:List T) (x8:Int) (x9:List T):St:=⟨[(3,(.one (.ptr 192 0))),(4,oi x0),(5,ol 1 x1),(6,(.one (.ptr 384 0))),(7,(.one (.obj 3648))),(8,oi x2),(9,oi x3)],[(192,(.box [(.t (.sl 1 x4)),(.t (.sl 2 x5))])),(1665,(.arr true true 1 x6)),(1666,(.arr true true 2 x7)),(384,(.box [(.t (.int .i64 x8)),(.obj 1665),(.obj 1666)])),(3648,(.arr true true 1 x9))]⟩
noncomputable def laws_FnDisks.K0 (n:Nat):Ex→St→R:=kx F.laws_FnDisks n [.block 0,.seq 0 (cx F.laws_FnDisks [1,1,1,1,1,1,1,1,1,1])] (endOf prog A F.laws_FnDisks)
noncomputable def laws_FnDisks.at0 (n:Nat) (m:Nat) (s:St):R:=lx F.laws_FnDisks n 0 [1,1,1,1,1,1,1,1,1,0,1,0,0] (laws_FnDisks.K0 n) m s
noncomputable def laws_FnDisks.rd0 (n:Nat) (L0:St→R) (s:St):R:=rx F.laws_FnDisks n 0 [1,1,1,1,1,1,1,1,1,0,1,0,0] (laws_FnDisks.K0 n) L0 s
theorem laws_FnDisks.next0 (n:Nat) (m:Nat) (s:St):laws_FnDisks.at0 n (m+1) s=laws_FnDisks.rd0 n (laws_FnDisks.at0 n m) s:=nx _ _ _ _ _ _ _
theorem laws_FnDisks.round0 (n:Nat) (L0:St→R) (x0:Int) (x1:List T) (x2 x3:Int) (x4 x5 x6 x7:List T) (x8:Int) (x9:List T):laws_FnDisks.rd0 n L0 (laws_FnDisks.st0 x0 x1 x2 x3 x4 x5 x6 x7 x8 x9)=(bif (decide (x3 < ((((x7).length / 2):Nat):Int))) then (bif Nat.ble (((x9).length+1)*8) (140737488355328*1) then (L0 (laws_FnDisks.st0 x0 x1 x2 (IntKind.wrap .i64 (x3+(1:Int))) x4 x5 x6 x7 x8 (x9++[(.int .i64 x2)]:List T))) else none) else ((LIM F.impl_FlushDisk [(.agg [(.sl 1 x6),(.sl 2 x7)])]).bind fun r47=>((oNil r47.2).bind fun _=>((oAgg r47.1).bind fun c48=>((oCons c48).bind fun p49=>((oInt .i64 p49.1).bind fun n50=>((oCons p49.2).bind fun p51=>((oSl 1 p51.1).bind fun c52=>((oCons p51.2).bind fun p53=>((oSl 2 p53.1).bind fun c54=>((oNil p53.2).bind fun _=>((LIM F.impl_CrashDisk [(.agg [(.sl 1 c52),(.sl 2 c54)]),(.sl 1 [])]).bind fun r55=>((oNil r55.2).bind fun _=>((oAgg r55.1).bind fun c56=>((oCons c56).bind fun p57=>((oInt .i64 p57.1).bind fun n58=>((oCons p57.2).bind fun p59=>((oSl 1 p59.1).bind fun c60=>((oCons p59.2).bind fun p61=>((oSl 2 p61.1).bind fun c62=>((oNil p61.2).bind fun _=>((LIM F.impl_CrashDisk [(.agg [(.sl 1 x6),(.sl 2 x7)]),(.sl 1 x9)]).bind fun r63=>((oNil r63.2).bind fun _=>((oAgg r63.1).bind fun c64=>((oCons c64).bind fun p65=>((oInt .i64 p65.1).bind fun n66=>((oCons p65.2).bind fun p67=>((oSl 1 p67.1).bind fun c68=>((oCons p67.2).bind fun p69=>((oSl 2 p69.1).bind fun c70=>((oNil p69.2).bind fun _=>(bif ((n58 != (0:Int))) then some ((.bool false),[]) else (bif ((n66 != (0:Int))) then some ((.bool false),[]) else ((LIM F.impl_SameDisks [(.agg [(.sl 1 c60),(.sl 2 c62)]),(.agg [(.sl 1 c52),(.sl 2 c54)])]).bind fun r71=>((oNil r71.2).bind fun _=>((oBool r71.1).bind fun b72=>(bif (!b72) then some ((.bool false),[]) else ((LIM F.impl_ReadSector [(.agg [(.sl 1 c60),(.sl 2 c62)]),(.int .i64 x0)]).bind fun r73=>((oNil r73.2).bind fun _=>((oAgg r73.1).bind fun c74=>((oCons c74).bind fun p75=>((oInt .i64 p75.1).bind fun n76=>((oCons p75.2).bind fun p77=>((oSl 1 p77.1).bind fun c78=>((oNil p77.2).bind fun _=>((LIM F.laws_lwBytes [(.sl 1 c78),(.sl 1 x1)]).bind fun r79=>((oNil r79.2).bind fun _=>((oBool r79.1).bind fun b80=>(bif (!b80) then some ((.bool false),[]) else ((LIM F.impl_ReadSector [(.agg [(.sl 1 c68),(.sl 2 c70)]),(.int .i64 x0)]).bind fun r81=>((oNil r81.2).bind fun _=>((oAgg r81.1).bind fun c82=>((oCons c82).bind fun p83=>((oInt .i64 p83.1).bind fun n84=>((oCons p83.2).bind fun p85=>((oSl 1 p85.1).bind fun c86=>((oNil p85.2).bind fun _=>(bif ((((((c86).length / 1):Nat):Int) != (96:Int))) then some ((.bool false),[]) else (bif decide (0≤(0:Int))&&decide ((0:Int)≤x2)&&decide (x2≤((((x1).length / 1):Nat):Int)) then (bif (((x1.take ((Int.toNat x2)*1)).drop (0*1))).all T.scalar then (bif Nat.ble ((0+(((x1.take ((Int.toNat x2)*1)).drop (0*1))).length)*1) (140737488355328*1) then (bif inB x0 ((x4).length / 1) then ((x4[((Int.toNat x0)*1)]?).bind fun e87=>((oSl 1 e87).bind fun c88=>(bif decide (0≤x2)&&decide (x2≤((((c88).length / 1):Nat):Int))&&decide (((((c88).length / 1):Nat):Int)≤((((c88).length / 1):Nat):Int)) then (bif (((c88.take ((Int.toNat ((((c88).length / 1):Nat):Int))*1)).drop ((Int.toNat x2)*1))).all T.scalar then (bif Nat.ble (((((x1.take ((Int.toNat x2)*1)).drop (0*1))).length+(((c88.take ((Int.toNat ((((c88).length / 1):Nat):Int))*1)).drop ((Int.toNat x2)*1))).length)*1) (140737488355328*1) then ((LIM F.laws_lwBytes [(.sl 1 c86),(.sl 1 (((x1.take ((Int.toNat x2)*1)).drop (0*1))++((c88.take ((Int.toNat ((((c88).length / 1):Nat):Int))*1)).drop ((Int.toNat x2)*1)):List T))]).bind fun r89=>((oNil r89.2).bind fun _=>((oBool r89.1).bind fun b90=>(bif b90 then (bif ((((((c70).length / 2):Nat):Int) == (0:Int))) then some ((.bool ((((((c54).length / 2):Nat):Int) == (0:Int)))),[]) else some ((.bool false),[])) else some ((.bool false),[]))))) else none) else none) else none))) else none) else none) else none) else none))))))))))))))))))))))))))))))))))))))))))))))))))))))))))):=by kernel_rfl
theorem laws_FnDisks.ev (n:Nat) (a0:List T):callK prog A H LIM n F.laws_FnDisks [(.sl 1 a0)]=((LIM F.laws_lwBig [(.sl 1 a0)]).bind fun r1=>((oNil r1.2).bind fun _=>((oBool r1.1).bind fun b2=>(bif b2 then some ((.bool true),[]) else ((LIM F.spec_DrawWriteSector [(.sl 1 a0)]).bind fun r3=>((oNil r3.2).bind fun _=>((oTup r3.1).bind fun c4=>((oCons c4).bind fun p5=>((oAgg p5.1).bind fun c6=>((oCons c6).bind fun p7=>((oSl 1 p7.1).bind fun c8=>((oCons p7.2).bind fun p9=>((oSl 2 p9.1).bind fun c10=>((oNil p9.2).bind fun _=>((oCons p5.2).bind fun p11=>((oInt .i64 p11.1).bind fun n12=>((oCons p11.2).bind fun p13=>((oSl 1 p13.1).bind fun c14=>((oNil p13.2).bind fun _=>((LIM F.impl_WriteSector [(.agg [(.sl 1 c8),(.sl 2 c10)]),(.int .i64 n12),(.sl 1 c14)]).bind fun r15=>((oNil r15.2).bind fun _=>((oAgg r15.1).bind fun c16=>((oCons c16).bind fun p17=>((oInt .i64 p17.1).bind fun n18=>((oCons p17.2).bind fun p19=>((oSl 1 p19.1).bind fun c20=>((oCons p19.2).bind fun p21=>((oSl 2 p21.1).bind fun c22=>((oNil p21.2).bind fun _=>((LIM F.spec_WriteSector [(.agg [(.sl 1 c8),(.sl 2 c10)]),(.int .i64 n12),(.sl 1 c14)]).bind fun r23=>((oNil r23.2).bind fun _=>((oAgg r23.1).bind fun c24=>((oCons c24).bind fun p25=>((oInt .i64 p25.1).bind fun n26=>((oCons p25.2).bind fun p27=>((oSl 1 p27.1).bind fun c28=>((oCons p27.2).bind fun p29=>((oSl 2 p29.1).bind fun c30=>((oNil p29.2).bind fun _=>(bif ((n18 != n26)) then some ((.bool false),[]) else (bif ((n18 != (0:Int))) then ((LIM F.impl_DiskFault [(.agg [(.sl 1 c8),(.sl 2 c10)])]).bind fun r31=>((oNil r31.2).bind fun _=>((oInt .i64 r31.1).bind fun n32=>((LIM F.spec_DiskFault [(.agg [(.sl 1 c8),(.sl 2 c10)])]).bind fun r33=>((oNil r33.2).bind fun _=>((oInt .i64 r33.1).bind fun n34=>some ((.bool ((n32 == n34))),[]))))))) else ((LIM F.impl_ReadSector [(.agg [(.sl 1 c20),(.sl 2 c22)]),(.int .i64 n12)]).bind fun r35=>((oNil r35.2).bind fun _=>((oAgg r35.1).bind fun c36=>((oCons c36).bind fun p37=>((oInt .i64 p37.1).bind fun n38=>((oCons p37.2).bind fun p39=>((oSl 1 p39.1).bind fun c40=>((oNil p39.2).bind fun _=>((LIM F.laws_lwBytes [(.sl 1 c40),(.sl 1 c14)]).bind fun r41=>((oNil r41.2).bind fun _=>((oBool r41.1).bind fun b42=>(bif (!b42) then some ((.bool false),[]) else ((LIM F.impl_DiskFault [(.agg [(.sl 1 c20),(.sl 2 c22)])]).bind fun r43=>((oNil r43.2).bind fun _=>((oInt .i64 r43.1).bind fun n44=>(bif ((n44 != (0:Int))) then some ((.bool false),[]) else ((LIM F.laws_lwAt [(.sl 1 a0),(.int .i64 (3:Int)),(.int .i64 (97:Int))]).bind fun r45=>((oNil r45.2).bind fun _=>((oInt .i64 r45.1).bind fun n46=>(laws_FnDisks.at0 n n (laws_FnDisks.st0 n12 c14 n46 (0:Int) c8 c10 c20 c22 n18 [])))))))))))))))))))))))))))))))))))))))))))))))))))))))))))))):=by kernel_rfl
theorem laws_lwAt.ev (n:Nat) (a0:List T) (a1 a2:Int):callK prog A H LIM n F.laws_lwAt [(.sl 1 a0),(.int .i64 a1),(.int .i64 a2)]=(bif (decide (a2≤(1:Int))) then some ((.int .i64 (0:Int)),[]) else (bif ((((((a0).length / 1):Nat):Int) == (0:Int))) then (bif decide (a2=0) then none else some ((.int .i64 (Int.tmod (IntKind.wrap .i64 (a1*(7:Int))) a2)),[])) else (bif decide (((((a0).length / 1):Nat):Int)=0) then none else (bif inB (Int.tmod a1 ((((a0).length / 1):Nat):Int)) ((a0).length / 1) then ((a0[((Int.toNat (Int.tmod a1 ((((a0).length / 1):Nat):Int)))*1)]?).bind fun e1=>((oInt .u8 e1).bind fun n2=>(bif decide (((((a0).length / 1):Nat):Int)=0) then none else (bif (decide (a2 > (200:Int))) then (bif decide (((((a0).length / 1):Nat):Int)=0) then none else (bif inB (Int.tmod (IntKind.wrap .i64 (a1+(1:Int))) ((((a0).length / 1):Nat):Int)) ((a0).length / 1) then ((a0[((Int.toNat (Int.tmod (IntKind.wrap .i64 (a1+(1:Int))) ((((a0).length / 1):Nat):Int)))*1)]?).bind fun e3=>((oInt .u8 e3).bind fun n4=>(bif decide (a2=0) then none else some ((.int .i64 (Int.tmod (IntKind.wrap .i64 ((IntKind.wrap .i64 ((IntKind.wrap .i64 ((IntKind.wrap .i64 n2)+(IntKind.wrap .i64 ((IntKind.wrap .i64 (Int.tdiv a1 ((((a0).length / 1):Nat):Int)))*(3:Int)))))*(251:Int)))+(IntKind.wrap .i64 n4))) a2)),[])))) else none)) else (bif decide (a2=0) then none else some ((.int .i64 (Int.tmod (IntKind.wrap .i64 ((IntKind.wrap .i64 n2)+(IntKind.wrap .i64 ((IntKind.wrap .i64 (Int.tdiv a1 ((((a0).length / 1):Nat):Int)))*(3:Int))))) a2)),[])))))) else none)))):=by kernel_rfl
theorem laws_lwBig.ev (n:Nat) (a0:List T):callK prog A H LIM n F.laws_lwBig [(.sl 1 a0)]=some ((.bool (decide (((((a0).length / 1):Nat):Int) > (1048576:Int)))),[]):=by kernel_rfl
theorem laws_lwBytes.ev (n:Nat) (a0 a1:List T):callK prog A H LIM n F.laws_lwBytes [(.sl 1 a0),(.sl 1 a1)]=((bytesOf a0).bind fun y1=>((oStr y1).bind fun y2=>((bytesOf a1).bind fun y3=>((oStr y3).bind fun y4=>some ((.bool (y2.toList == y4.toList)),[]))))):=by kernel_rfl
theorem slices_ContainsFunc_SSbyte_at1_impl_DiskFault_1.ev (n:Nat) (a0:List T):callK prog A H LIM n F.slices_ContainsFunc_SSbyte [(.sl 1 a0),(.clo F.impl_DiskFault_1 [])]=((LIM F.slices_IndexFunc_SSbyte [(.sl 1 a0),(.clo F.impl_DiskFault_1 [])]).bind fun r1=>((oNil r1.2).bind fun _=>((oInt .i64 r1.1).bind fun n2=>some ((.bool (decide (n2 ≥ (0:Int)))),[])))):=by kernel_rfl
theorem slices_ContainsFunc_Sint64_at1_impl_CrashDisk_1.ev (n:Nat) (a0:List T):callK prog A H LIM n F.slices_ContainsFunc_Sint64 [(.sl 1 a0),(.clo F.impl_CrashDisk_1 [])]=((LIM F.slices_IndexFunc_Sint64 [(.sl 1 a0),(.clo F.impl_CrashDisk_1 [])]).bind fun r1=>((oNil r1.2).bind fun _=>((oInt .i64 r1.1).bind fun n2=>some ((.bool (decide (n2 ≥ (0:Int)))),[])))):=by kernel_rfl
def slices_EqualFunc_SPut_at2_impl_SameDisks_1.st0 (x0 x1:List T) (x2 x3:Int):St:=⟨[(1,ol 2 x0),(2,(.one (.t (.clo F.impl_SameDisks_1 [])))),(15,ol 2 x1),(16,oi x2),(17,oi x3)],[]⟩
noncomputable def slices_EqualFunc_SPut_at2_impl_SameDisks_1.K0 (n:Nat):Ex→St→R:=kx F.slices_EqualFunc_SPut n [.block 0,.seq 0 (cx F.slices_EqualFunc_SPut [1,1,1])] (endOf prog A F.slices_EqualFunc_SPut)
noncomputable def slices_EqualFunc_SPut_at2_impl_SameDisks_1.at0 (n:Nat) (m:Nat) (s:St):R:=lx F.slices_EqualFunc_SPut n 0 [1,1,0,1,0,0] (slices_EqualFunc_SPut_at2_impl_SameDisks_1.K0 n) m s
noncomputable def slices_EqualFunc_SPut_at2_impl_SameDisks_1.rd0 (n:Nat) (L0:St→R) (s:St):R:=rx F.slices_EqualFunc_SPut n 0 [1,1,0,1,0,0] (slices_EqualFunc_SPut_at2_impl_SameDisks_1.K0 n) L0 s
theorem slices_EqualFunc_SPut_at2_impl_SameDisks_1.next0 (n:Nat) (m:Nat) (s:St):slices_EqualFunc_SPut_at2_impl_SameDisks_1.at0 n (m+1) s=slices_EqualFunc_SPut_at2_impl_SameDisks_1.rd0 n (slices_EqualFunc_SPut_at2_impl_SameDisks_1.at0 n m) s:=nx _ _ _ _ _ _ _
theorem slices_EqualFunc_SPut_at2_impl_SameDisks_1.round0 (n:Nat) (L0:St→R) (x0 x1:List T) (x2 x3:Int):slices_EqualFunc_SPut_at2_impl_SameDisks_1.rd0 n L0 (slices_EqualFunc_SPut_at2_impl_SameDisks_1.st0 x0 x1 x2 x3)=(bif (decide (x3 < x2)) then (bif inB x3 ((x1).length / 2) then ((x1[((Int.toNat x3)*2)]?).bind fun e1=>((oInt .i64 e1).bind fun n2=>((x1[(((Int.toNat x3)*2)+1)]?).bind fun e3=>((oSl 1 e3).bind fun c4=>(bif inB x3 ((x0).length / 2) then ((x0[((Int.toNat x3)*2)]?).bind fun e5=>((oInt .i64 e5).bind fun n6=>((x0[(((Int.toNat x3)*2)+1)]?).bind fun e7=>((oSl 1 e7).bind fun c8=>((LIM F.impl_SameDisks_1 [(.agg [(.int .i64 n2),(.sl 1 c4)]),(.agg [(.int .i64 n6),(.sl 1 c8)])]).bind fun r9=>((oNil r9.2).bind fun _=>((oBool r9.1).bind fun b10=>(bif (!b10) then some ((.bool false),[]) else (L0 (slices_EqualFunc_SPut_at2_impl_SameDisks_1.st0 x0 x1 x2 (IntKind.wrap .i64 (x3+(1:Int))))))))))))) else none))))) else none) else some ((.bool true),[])):=by kernel_rfl
theorem slices_EqualFunc_SPut_at2_impl_SameDisks_1.ev (n:Nat) (a0 a1:List T):callK prog A H LIM n F.slices_EqualFunc_SPut [(.sl 2 a0),(.sl 2 a1),(.clo F.impl_SameDisks_1 [])]=(bif ((((((a0).length / 2):Nat):Int) != ((((a1).length / 2):Nat):Int))) then some ((.bool false),[]) else (slices_EqualFunc_SPut_at2_impl_SameDisks_1.at0 n n (slices_EqualFunc_SPut_at2_impl_SameDisks_1.st0 a1 a0 ((((a0).length / 2):Nat):Int) (0:Int)))):=by kernel_rfl
def slices_EqualFunc_SSbyte_at2_bytes_Equal.st0 (x0 x1:List T) (x2 x3:Int):St:=⟨[(1,ol 1 x0),(2,(.one (.t (.clo F.bytes_Equal [])))),(15,ol 1 x1),(16,oi x2),(17,oi x3)],[]⟩
noncomputable def slices_EqualFunc_SSbyte_at2_bytes_Equal.K0 (n:Nat):Ex→St→R:=kx F.slices_EqualFunc_SSbyte n [.block 0,.seq 0 (cx F.slices_EqualFunc_SSbyte [1,1,1])] (endOf prog A F.slices_EqualFunc_SSbyte)
noncomputable def slices_EqualFunc_SSbyte_at2_bytes_Equal.at0 (n:Nat) (m:Nat) (s:St):R:=lx F.slices_EqualFunc_SSbyte n 0 [1,1,0,1,0,0] (slices_EqualFunc_SSbyte_at2_bytes_Equal.K0 n) m s
noncomputable def slices_EqualFunc_SSbyte_at2_bytes_Equal.rd0 (n:Nat) (L0:St→R) (s:St):R:=rx F.slices_EqualFunc_SSbyte n 0 [1,1,0,1,0,0] (slices_EqualFunc_SSbyte_at2_bytes_Equal.K0 n) L0 s
theorem slices_EqualFunc_SSbyte_at2_bytes_Equal.next0 (n:Nat) (m:Nat) (s:St):slices_EqualFunc_SSbyte_at2_bytes_Equal.at0 n (m+1) s=slices_EqualFunc_SSbyte_at2_bytes_Equal.rd0 n (slices_EqualFunc_SSbyte_at2_bytes_Equal.at0 n m) s:=nx _ _ _ _ _ _ _
theorem slices_EqualFunc_SSbyte_at2_bytes_Equal.round0 (n:Nat) (L0:St→R) (x0 x1:List T) (x2 x3:Int):slices_EqualFunc_SSbyte_at2_bytes_Equal.rd0 n L0 (slices_EqualFunc_SSbyte_at2_bytes_Equal.st0 x0 x1 x2 x3)=(bif (decide (x3 < x2)) then (bif inB x3 ((x1).length / 1) then ((x1[((Int.toNat x3)*1)]?).bind fun e1=>((oSl 1 e1).bind fun c2=>(bif inB x3 ((x0).length / 1) then ((x0[((Int.toNat x3)*1)]?).bind fun e3=>((oSl 1 e3).bind fun c4=>((LIM F.bytes_Equal [(.sl 1 c2),(.sl 1 c4)]).bind fun r5=>((oNil r5.2).bind fun _=>((oBool r5.1).bind fun b6=>(bif (!b6) then some ((.bool false),[]) else (L0 (slices_EqualFunc_SSbyte_at2_bytes_Equal.st0 x0 x1 x2 (IntKind.wrap .i64 (x3+(1:Int))))))))))) else none))) else none) else some ((.bool true),[])):=by kernel_rfl
theorem slices_EqualFunc_SSbyte_at2_bytes_Equal.ev (n:Nat) (a0 a1:List T):callK prog A H LIM n F.slices_EqualFunc_SSbyte [(.sl 1 a0),(.sl 1 a1),(.clo F.bytes_Equal [])]=(bif ((((((a0).length / 1):Nat):Int) != ((((a1).length / 1):Nat):Int))) then some ((.bool false),[]) else (slices_EqualFunc_SSbyte_at2_bytes_Equal.at0 n n (slices_EqualFunc_SSbyte_at2_bytes_Equal.st0 a1 a0 ((((a0).length / 1):Nat):Int) (0:Int)))):=by kernel_rfl
def slices_IndexFunc_SPut_at1_impl_Disk_putFor_1.st0 (x0:List T) (x1 x2 x3:Int):St:=⟨[(0,ol 2 x0),(1,(.one (.t (.clo F.impl_Disk_putFor_1 [(.rref [(.int .i64 x1)] 0)])))),(7,oi x2),(8,oi x3)],[]⟩
noncomputable def slices_IndexFunc_SPut_at1_impl_Disk_putFor_1.K0 (n:Nat):Ex→St→R:=kx F.slices_IndexFunc_SPut n [.block 0,.seq 0 (cx F.slices_IndexFunc_SPut [1,1])] (endOf prog A F.slices_IndexFunc_SPut)
noncomputable def slices_IndexFunc_SPut_at1_impl_Disk_putFor_1.at0 (n:Nat) (m:Nat) (s:St):R:=lx F.slices_IndexFunc_SPut n 0 [1,0,1,0,0] (slices_IndexFunc_SPut_at1_impl_Disk_putFor_1.K0 n) m s
noncomputable def slices_IndexFunc_SPut_at1_impl_Disk_putFor_1.rd0 (n:Nat) (L0:St→R) (s:St):R:=rx F.slices_IndexFunc_SPut n 0 [1,0,1,0,0] (slices_IndexFunc_SPut_at1_impl_Disk_putFor_1.K0 n) L0 s
theorem slices_IndexFunc_SPut_at1_impl_Disk_putFor_1.next0 (n:Nat) (m:Nat) (s:St):slices_IndexFunc_SPut_at1_impl_Disk_putFor_1.at0 n (m+1) s=slices_IndexFunc_SPut_at1_impl_Disk_putFor_1.rd0 n (slices_IndexFunc_SPut_at1_impl_Disk_putFor_1.at0 n m) s:=nx _ _ _ _ _ _ _
theorem slices_IndexFunc_SPut_at1_impl_Disk_putFor_1.round0 (n:Nat) (L0:St→R) (x0:List T) (x1 x2 x3:Int):slices_IndexFunc_SPut_at1_impl_Disk_putFor_1.rd0 n L0 (slices_IndexFunc_SPut_at1_impl_Disk_putFor_1.st0 x0 x1 x2 x3)=(bif (decide (x3 < x2)) then (bif inB x3 ((x0).length / 2) then ((x0[((Int.toNat x3)*2)]?).bind fun e1=>((oInt .i64 e1).bind fun n2=>((x0[(((Int.toNat x3)*2)+1)]?).bind fun e3=>((oSl 1 e3).bind fun c4=>((LIM F.impl_Disk_putFor_1 [(.agg [(.int .i64 n2),(.sl 1 c4)]),(.rref [(.int .i64 x1)] 0)]).bind fun r5=>((oNil r5.2).bind fun _=>((oBool r5.1).bind fun b6=>(bif b6 then some ((.int .i64 x3),[]) else (L0 (slices_IndexFunc_SPut_at1_impl_Disk_putFor_1.st0 x0 x1 x2 (IntKind.wrap .i64 (x3+(1:Int))))))))))))) else none) else some ((.int .i64 (-1:Int)),[])):=by kernel_rfl
theorem slices_IndexFunc_SPut_at1_impl_Disk_putFor_1.ev (n:Nat) (a0:List T) (a1_0_0:Int):callK prog A H LIM n F.slices_IndexFunc_SPut [(.sl 2 a0),(.clo F.impl_Disk_putFor_1 [(.rref [(.int .i64 a1_0_0)] 0)])]=(slices_IndexFunc_SPut_at1_impl_Disk_putFor_1.at0 n n (slices_IndexFunc_SPut_at1_impl_Disk_putFor_1.st0 a0 a1_0_0 ((((a0).length / 2):Nat):Int) (0:Int))):=by kernel_rfl
def slices_IndexFunc_SSbyte_at1_impl_DiskFault_1.st0 (x0:List T) (x1 x2:Int):St:=⟨[(0,ol 1 x0),(1,(.one (.t (.clo F.impl_DiskFault_1 [])))),(7,oi x1),(8,oi x2)],[]⟩
noncomputable def slices_IndexFunc_SSbyte_at1_impl_DiskFault_1.K0 (n:Nat):Ex→St→R:=kx F.slices_IndexFunc_SSbyte n [.block 0,.seq 0 (cx F.slices_IndexFunc_SSbyte [1,1])] (endOf prog A F.slices_IndexFunc_SSbyte)
noncomputable def slices_IndexFunc_SSbyte_at1_impl_DiskFault_1.at0 (n:Nat) (m:Nat) (s:St):R:=lx F.slices_IndexFunc_SSbyte n 0 [1,0,1,0,0] (slices_IndexFunc_SSbyte_at1_impl_DiskFault_1.K0 n) m s
noncomputable def slices_IndexFunc_SSbyte_at1_impl_DiskFault_1.rd0 (n:Nat) (L0:St→R) (s:St):R:=rx F.slices_IndexFunc_SSbyte n 0 [1,0,1,0,0] (slices_IndexFunc_SSbyte_at1_impl_DiskFault_1.K0 n) L0 s
theorem slices_IndexFunc_SSbyte_at1_impl_DiskFault_1.next0 (n:Nat) (m:Nat) (s:St):slices_IndexFunc_SSbyte_at1_impl_DiskFault_1.at0 n (m+1) s=slices_IndexFunc_SSbyte_at1_impl_DiskFault_1.rd0 n (slices_IndexFunc_SSbyte_at1_impl_DiskFault_1.at0 n m) s:=nx _ _ _ _ _ _ _
theorem slices_IndexFunc_SSbyte_at1_impl_DiskFault_1.round0 (n:Nat) (L0:St→R) (x0:List T) (x1 x2:Int):slices_IndexFunc_SSbyte_at1_impl_DiskFault_1.rd0 n L0 (slices_IndexFunc_SSbyte_at1_impl_DiskFault_1.st0 x0 x1 x2)=(bif (decide (x2 < x1)) then (bif inB x2 ((x0).length / 1) then ((x0[((Int.toNat x2)*1)]?).bind fun e1=>((oSl 1 e1).bind fun c2=>((LIM F.impl_DiskFault_1 [(.sl 1 c2)]).bind fun r3=>((oNil r3.2).bind fun _=>((oBool r3.1).bind fun b4=>(bif b4 then some ((.int .i64 x2),[]) else (L0 (slices_IndexFunc_SSbyte_at1_impl_DiskFault_1.st0 x0 x1 (IntKind.wrap .i64 (x2+(1:Int))))))))))) else none) else some ((.int .i64 (-1:Int)),[])):=by kernel_rfl
theorem slices_IndexFunc_SSbyte_at1_impl_DiskFault_1.ev (n:Nat) (a0:List T):callK prog A H LIM n F.slices_IndexFunc_SSbyte [(.sl 1 a0),(.clo F.impl_DiskFault_1 [])]=(slices_IndexFunc_SSbyte_at1_impl_DiskFault_1.at0 n n (slices_IndexFunc_SSbyte_at1_impl_DiskFault_1.st0 a0 ((((a0).length / 1):Nat):Int) (0:Int))):=by kernel_rfl
def slices_IndexFunc_Sint64_at1_impl_CrashDisk_1.st0 (x0:List T) (x1 x2:Int):St:=⟨[(0,ol 1 x0),(1,(.one (.t (.clo F.impl_CrashDisk_1 [])))),(7,oi x1),(8,oi x2)],[]⟩
noncomputable def slices_IndexFunc_Sint64_at1_impl_CrashDisk_1.K0 (n:Nat):Ex→St→R:=kx F.slices_IndexFunc_Sint64 n [.block 0,.seq 0 (cx F.slices_IndexFunc_Sint64 [1,1])] (endOf prog A F.slices_IndexFunc_Sint64)
noncomputable def slices_IndexFunc_Sint64_at1_impl_CrashDisk_1.at0 (n:Nat) (m:Nat) (s:St):R:=lx F.slices_IndexFunc_Sint64 n 0 [1,0,1,0,0] (slices_IndexFunc_Sint64_at1_impl_CrashDisk_1.K0 n) m s
noncomputable def slices_IndexFunc_Sint64_at1_impl_CrashDisk_1.rd0 (n:Nat) (L0:St→R) (s:St):R:=rx F.slices_IndexFunc_Sint64 n 0 [1,0,1,0,0] (slices_IndexFunc_Sint64_at1_impl_CrashDisk_1.K0 n) L0 s
theorem slices_IndexFunc_Sint64_at1_impl_CrashDisk_1.next0 (n:Nat) (m:Nat) (s:St):slices_IndexFunc_Sint64_at1_impl_CrashDisk_1.at0 n (m+1) s=slices_IndexFunc_Sint64_at1_impl_CrashDisk_1.rd0 n (slices_IndexFunc_Sint64_at1_impl_CrashDisk_1.at0 n m) s:=nx _ _ _ _ _ _ _
theorem slices_IndexFunc_Sint64_at1_impl_CrashDisk_1.round0 (n:Nat) (L0:St→R) (x0:List T) (x1 x2:Int):slices_IndexFunc_Sint64_at1_impl_CrashDisk_1.rd0 n L0 (slices_IndexFunc_Sint64_at1_impl_CrashDisk_1.st0 x0 x1 x2)=(bif (decide (x2 < x1)) then (bif inB x2 ((x0).length / 1) then ((x0[((Int.toNat x2)*1)]?).bind fun e1=>((oInt .i64 e1).bind fun n2=>((LIM F.impl_CrashDisk_1 [(.int .i64 n2)]).bind fun r3=>((oNil r3.2).bind fun _=>((oBool r3.1).bind fun b4=>(bif b4 then some ((.int .i64 x2),[]) else (L0 (slices_IndexFunc_Sint64_at1_impl_CrashDisk_1.st0 x0 x1 (IntKind.wrap .i64 (x2+(1:Int))))))))))) else none) else some ((.int .i64 (-1:Int)),[])):=by kernel_rfl
theorem slices_IndexFunc_Sint64_at1_impl_CrashDisk_1.ev (n:Nat) (a0:List T):callK prog A H LIM n F.slices_IndexFunc_Sint64 [(.sl 1 a0),(.clo F.impl_CrashDisk_1 [])]=(slices_IndexFunc_Sint64_at1_impl_CrashDisk_1.at0 n n (slices_IndexFunc_Sint64_at1_impl_CrashDisk_1.st0 a0 ((((a0).length / 1):Nat):Int) (0:Int))):=by kernel_rfl
def spec_DiskFault.st6 (x0 x1:Int) (x2 x3:List T):St:=⟨[(1,(.one (.ptr 64 0))),(6,oi x0),(7,oi x1)],[(64,(.box [(.t (.sl 1 x2)),(.t (.sl 2 x3))]))]⟩
def spec_DiskFault.st4 (x0:Int) (x1 x2:List T):St:=⟨[(1,(.one (.ptr 64 0))),(6,oi x0)],[(64,(.box [(.t (.sl 1 x1)),(.t (.sl 2 x2))]))]⟩
def spec_DiskFault.st2 (x0 x1:Int) (x2 x3:List T):St:=⟨[(1,(.one (.ptr 64 0))),(3,oi x0),(5,oi x1)],[(64,(.box [(.t (.sl 1 x2)),(.t (.sl 2 x3))]))]⟩
def spec_DiskFault.st0 (x0 x1:Int) (x2 x3:List T):St:=⟨[(1,(.one (.ptr 64 0))),(3,oi x0),(4,oi x1)],[(64,(.box [(.t (.sl 1 x2)),(.t (.sl 2 x3))]))]⟩
noncomputable def spec_DiskFault.K0 (n:Nat):Ex→St→R:=kx F.spec_DiskFault n [.block 0,.seq 0 (cx F.spec_DiskFault [1,1,1,1])] (endOf prog A F.spec_DiskFault)
noncomputable def spec_DiskFault.at0 (n:Nat) (m:Nat) (s:St):R:=lx F.spec_DiskFault n 0 [1,1,1,0,1,0,0] (spec_DiskFault.K0 n) m s
noncomputable def spec_DiskFault.rd0 (n:Nat) (L0:St→R) (s:St):R:=rx F.spec_DiskFault n 0 [1,1,1,0,1,0,0] (spec_DiskFault.K0 n) L0 s
theorem spec_DiskFault.next0 (n:Nat) (m:Nat) (s:St):spec_DiskFault.at0 n (m+1) s=spec_DiskFault.rd0 n (spec_DiskFault.at0 n m) s:=nx _ _ _ _ _ _ _
noncomputable def spec_DiskFault.K2 (n:Nat):Ex→St→R:=kx F.spec_DiskFault n [.block 2,.seq 0 (cx F.spec_DiskFault [1,1,1,1,1,1])] (endOf prog A F.spec_DiskFault)
noncomputable def spec_DiskFault.at2 (n:Nat) (m:Nat) (s:St):R:=lx F.spec_DiskFault n 2 [1,1,1,1,1,0,1,0,0] (spec_DiskFault.K2 n) m s
noncomputable def spec_DiskFault.rd2 (n:Nat) (L2:St→R) (s:St):R:=rx F.spec_DiskFault n 2 [1,1,1,1,1,0,1,0,0] (spec_DiskFault.K2 n) L2 s
theorem spec_DiskFault.next2 (n:Nat) (m:Nat) (s:St):spec_DiskFault.at2 n (m+1) s=spec_DiskFault.rd2 n (spec_DiskFault.at2 n m) s:=nx _ _ _ _ _ _ _
noncomputable def spec_DiskFault.K4 (n:Nat):Ex→St→R:=kx F.spec_DiskFault n [.block 4,.seq 0 (cx F.spec_DiskFault [1,1,1,1,1,1,1])] (endOf prog A F.spec_DiskFault)
noncomputable def spec_DiskFault.at4 (n:Nat) (m:Nat) (s:St):R:=lx F.spec_DiskFault n 4 [1,1,1,1,1,1,0,1,0,0] (spec_DiskFault.K4 n) m s
noncomputable def spec_DiskFault.rd4 (n:Nat) (L4:St→R) (s:St):R:=rx F.spec_DiskFault n 4 [1,1,1,1,1,1,0,1,0,0] (spec_DiskFault.K4 n) L4 s
theorem spec_DiskFault.next4 (n:Nat) (m:Nat) (s:St):spec_DiskFault.at4 n (m+1) s=spec_DiskFault.rd4 n (spec_DiskFault.at4 n m) s:=nx _ _ _ _ _ _ _
noncomputable def spec_DiskFault.K6 (n:Nat) (L4:St→R):Ex→St→R:=kx F.spec_DiskFault n [.block 6,.block 5,.seq 4 (cx F.spec_DiskFault [1,1,1,1,1,1,0,1,0,0,1,1])] (bx F.spec_DiskFault 4 (spec_DiskFault.K4 n) L4)
noncomputable def spec_DiskFault.at6 (n:Nat) (L4:St→R) (m:Nat) (s:St):R:=lx F.spec_DiskFault n 6 [1,1,1,1,1,1,0,1,0,0,1,0,0,1,0,0] (spec_DiskFault.K6 n L4) m s
noncomputable def spec_DiskFault.rd6 (n:Nat) (L4:St→R) (L6:St→R) (s:St):R:=rx F.spec_DiskFault n 6 [1,1,1,1,1,1,0,1,0,0,1,0,0,1,0,0] (spec_DiskFault.K6 n L4) L6 s
theorem spec_DiskFault.next6 (n:Nat) (L4:St→R) (m:Nat) (s:St):spec_DiskFault.at6 n L4 (m+1) s=spec_DiskFault.rd6 n L4 (spec_DiskFault.at6 n L4 m) s:=nx _ _ _ _ _ _ _
theorem spec_DiskFault.round0 (n:Nat) (L0:St→R) (x0 x1:Int) (x2 x3:List T):spec_DiskFault.rd0 n L0 (spec_DiskFault.st0 x0 x1 x2 x3)=(bif (decide (x1 < ((((x2).length / 1):Nat):Int))) then (bif inB x1 ((x2).length / 1) then ((x2[((Int.toNat x1)*1)]?).bind fun e3=>((oSl 1 e3).bind fun c4=>(bif ((((((c4).length / 1):Nat):Int) != (96:Int))) then some ((.int .i64 (1:Int)),[]) else (L0 (spec_DiskFault.st0 x0 (IntKind.wrap .i64 (x1+(1:Int))) x2 x3))))) else none) else (bif (decide (((((x3).length / 2):Nat):Int) > x0)) then some ((.int .i64 (2:Int)),[]) else (spec_DiskFault.at2 n n (spec_DiskFault.st2 x0 (0:Int) x2 x3)))):=by kernel_rfl
theorem spec_DiskFault.round2 (n:Nat) (L2:St→R) (x0 x1:Int) (x2 x3:List T):spec_DiskFault.rd2 n L2 (spec_DiskFault.st2 x0 x1 x2 x3)=(bif (decide (x1 < ((((x3).length / 2):Nat):Int))) then (bif inB x1 ((x3).length / 2) then ((x3[((Int.toNat x1)*2)]?).bind fun e5=>((oInt .i64 e5).bind fun n6=>((LIM F.spec_l1In [(.int .i64 n6),(.int .i64 (0:Int)),(.int .i64 (IntKind.wrap .i64 (x0 - (1:Int))))]).bind fun r7=>((oNil r7.2).bind fun _=>((oBool r7.1).bind fun b8=>(bif (!b8) then some ((.int .i64 (3:Int)),[]) else (bif inB x1 ((x3).length / 2) then ((x3[(((Int.toNat x1)*2)+1)]?).bind fun e9=>((oSl 1 e9).bind fun c10=>(bif ((((((c10).length / 1):Nat):Int) != (96:Int))) then some ((.int .i64 (1:Int)),[]) else (L2 (spec_DiskFault.st2 x0 (IntKind.wrap .i64 (x1+(1:Int))) x2 x3))))) else none))))))) else none) else (spec_DiskFault.at4 n n (spec_DiskFault.st4 (0:Int) x2 x3))):=by kernel_rfl
theorem spec_DiskFault.round4 (n:Nat) (L4:St→R) (x0:Int) (x1 x2:List T):spec_DiskFault.rd4 n L4 (spec_DiskFault.st4 x0 x1 x2)=(bif (decide (x0 < ((((x2).length / 2):Nat):Int))) then (spec_DiskFault.at6 n L4 n (spec_DiskFault.st6 x0 (0:Int) x1 x2)) else some ((.int .i64 (0:Int)),[])):=by kernel_rfl
theorem spec_DiskFault.round6 (n:Nat) (L4:St→R) (L6:St→R) (x0 x1:Int) (x2 x3:List T):spec_DiskFault.rd6 n L4 L6 (spec_DiskFault.st6 x0 x1 x2 x3)=(bif (decide (x1 < x0)) then (bif inB x0 ((x3).length / 2) then ((x3[((Int.toNat x0)*2)]?).bind fun e11=>((oInt .i64 e11).bind fun n12=>(bif inB x1 ((x3).length / 2) then ((x3[((Int.toNat x1)*2)]?).bind fun e13=>((oInt .i64 e13).bind fun n14=>(bif ((n12 == n14)) then some ((.int .i64 (6:Int)),[]) else (L6 (spec_DiskFault.st6 x0 (IntKind.wrap .i64 (x1+(1:Int))) x2 x3))))) else none))) else none) else (L4 (spec_DiskFault.st4 (IntKind.wrap .i64 (x0+(1:Int))) x2 x3))):=by kernel_rfl
theorem spec_DiskFault.ev (n:Nat) (a0_0 a0_1:List T):callK prog A H LIM n F.spec_DiskFault [(.agg [(.sl 1 a0_0),(.sl 2 a0_1)])]=((LIM F.spec_l1In [(.int .i64 ((((a0_0).length / 1):Nat):Int)),(.int .i64 (8:Int)),(.int .i64 (64:Int))]).bind fun r1=>((oNil r1.2).bind fun _=>((oBool r1.1).bind fun b2=>(bif (!b2) then some ((.int .i64 (2:Int)),[]) else (spec_DiskFault.at0 n n (spec_DiskFault.st0 ((((a0_0).length / 1):Nat):Int) (0:Int) a0_0 a0_1)))))):=by kernel_rfl
theorem spec_DrawReadSector.ev (n:Nat) (a0:List T):callK prog A H LIM n F.spec_DrawReadSector [(.sl 1 a0)]=((LIM F.spec_l1Source [(.sl 1 a0)]).bind fun r1=>((oNil r1.2).bind fun _=>((oBx r1.1).bind fun c2=>((oCons c2).bind fun p3=>((oSl 1 p3.1).bind fun c4=>((oCons p3.2).bind fun p5=>((oInt .i64 p5.1).bind fun n6=>((oNil p5.2).bind fun _=>((LIM F.spec_l14Bent [(.rref [(.sl 1 c4),(.int .i64 n6)] 0)]).bind fun r7=>((oCons r7.2).bind fun p8=>((oNil p8.2).bind fun _=>((oAgg p8.1).bind fun c9=>((oCons c9).bind fun p10=>((oSl 1 p10.1).bind fun c11=>((oCons p10.2).bind fun p12=>((oInt .i64 p12.1).bind fun n13=>((oNil p12.2).bind fun _=>((oAgg r7.1).bind fun c14=>((oCons c14).bind fun p15=>((oSl 1 p15.1).bind fun c16=>((oCons p15.2).bind fun p17=>((oSl 2 p17.1).bind fun c18=>((oNil p17.2).bind fun _=>((LIM F.spec_l1Next [(.rref [(.sl 1 c4),(.int .i64 n13)] 0),(.int .i64 (8:Int))]).bind fun r19=>((oCons r19.2).bind fun p20=>((oNil p20.2).bind fun _=>((oAgg p20.1).bind fun c21=>((oCons c21).bind fun p22=>((oSl 1 p22.1).bind fun c23=>((oCons p22.2).bind fun p24=>((oInt .i64 p24.1).bind fun n25=>((oNil p24.2).bind fun _=>((oInt .i64 r19.1).bind fun n26=>((LIM F.spec_l1Next [(.rref [(.sl 1 c4),(.int .i64 n25)] 0),(.int .i64 (8:Int))]).bind fun r27=>((oCons r27.2).bind fun p28=>((oNil p28.2).bind fun _=>((oAgg p28.1).bind fun c29=>((oCons c29).bind fun p30=>((oSl 1 p30.1).bind fun c31=>((oCons p30.2).bind fun p32=>((oInt .i64 p32.1).bind fun n33=>((oNil p32.2).bind fun _=>((oInt .i64 r27.1).bind fun n34=>((LIM F.spec_l1Next [(.rref [(.sl 1 c4),(.int .i64 n33)] 0),(.int .i64 (8:Int))]).bind fun r35=>((oCons r35.2).bind fun p36=>((oNil p36.2).bind fun _=>((oAgg p36.1).bind fun c37=>((oCons c37).bind fun p38=>((oSl 1 p38.1).bind fun c39=>((oCons p38.2).bind fun p40=>((oInt .i64 p40.1).bind fun n41=>((oNil p40.2).bind fun _=>((oInt .i64 r35.1).bind fun n42=>((LIM F.spec_l1Pick [(.rref [(.sl 1 c4),(.int .i64 n41)] 0),(.sl 1 [(.int .i64 n26),(.int .i64 n34),(.int .i64 n42),(.int .i64 (0:Int)),(.int .i64 (63:Int)),(.int .i64 (-1:Int))])]).bind fun r43=>((oCons r43.2).bind fun p44=>((oNil p44.2).bind fun _=>((oAgg p44.1).bind fun c45=>((oCons c45).bind fun p46=>((oSl 1 p46.1).bind fun c47=>((oCons p46.2).bind fun p48=>((oInt .i64 p48.1).bind fun n49=>((oNil p48.2).bind fun _=>((oInt .i64 r43.1).bind fun n50=>some ((.tup [(.agg [(.sl 1 c16),(.sl 2 c18)]),(.int .i64 n50)]),[])))))))))))))))))))))))))))))))))))))))))))))))))))))))))))))))):=by kernel_rfl
theorem spec_DrawWriteSector.ev (n:Nat) (a0:List T):callK prog A H LIM n F.spec_DrawWriteSector [(.sl 1 a0)]=((LIM F.spec_l1Source [(.sl 1 a0)]).bind fun r1=>((oNil r1.2).bind fun _=>((oBx r1.1).bind fun c2=>((oCons c2).bind fun p3=>((oSl 1 p3.1).bind fun c4=>((oCons p3.2).bind fun p5=>((oInt .i64 p5.1).bind fun n6=>((oNil p5.2).bind fun _=>((LIM F.spec_DrawReadSector [(.sl 1 a0)]).bind fun r7=>((oNil r7.2).bind fun _=>((oTup r7.1).bind fun c8=>((oCons c8).bind fun p9=>((oAgg p9.1).bind fun c10=>((oCons c10).bind fun p11=>((oSl 1 p11.1).bind fun c12=>((oCons p11.2).bind fun p13=>((oSl 2 p13.1).bind fun c14=>((oNil p13.2).bind fun _=>((oCons p9.2).bind fun p15=>((oInt .i64 p15.1).bind fun n16=>((oNil p15.2).bind fun _=>((LIM F.spec_l1Chance [(.rref [(.sl 1 c4),(.int .i64 n6)] 0),(.int .i64 (9:Int))]).bind fun r17=>((oCons r17.2).bind fun p18=>((oNil p18.2).bind fun _=>((oAgg p18.1).bind fun c19=>((oCons c19).bind fun p20=>((oSl 1 p20.1).bind fun c21=>((oCons p20.2).bind fun p22=>((oInt .i64 p22.1).bind fun n23=>((oNil p22.2).bind fun _=>((oBool r17.1).bind fun b24=>(bif b24 then ((LIM F.spec_l1Pick [(.rref [(.sl 1 c4),(.int .i64 n23)] 0),(.sl 1 [(.int .i64 (0:Int)),(.int .i64 (95:Int)),(.int .i64 (97:Int))])]).bind fun r25=>((oCons r25.2).bind fun p26=>((oNil p26.2).bind fun _=>((oAgg p26.1).bind fun c27=>((oCons c27).bind fun p28=>((oSl 1 p28.1).bind fun c29=>((oCons p28.2).bind fun p30=>((oInt .i64 p30.1).bind fun n31=>((oNil p30.2).bind fun _=>((oInt .i64 r25.1).bind fun n32=>((LIM F.spec_l1Some [(.rref [(.sl 1 c4),(.int .i64 n31)] 0),(.int .i64 n32)]).bind fun r33=>((oCons r33.2).bind fun p34=>((oNil p34.2).bind fun _=>((oAgg p34.1).bind fun c35=>((oCons c35).bind fun p36=>((oSl 1 p36.1).bind fun c37=>((oCons p36.2).bind fun p38=>((oInt .i64 p38.1).bind fun n39=>((oNil p38.2).bind fun _=>((oSl 1 r33.1).bind fun c40=>some ((.tup [(.agg [(.sl 1 c12),(.sl 2 c14)]),(.int .i64 n16),(.sl 1 c40)]),[]))))))))))))))))))))) else ((LIM F.spec_l14Bytes [(.rref [(.sl 1 c4),(.int .i64 n23)] 0)]).bind fun r41=>((oCons r41.2).bind fun p42=>((oNil p42.2).bind fun _=>((oAgg p42.1).bind fun c43=>((oCons c43).bind fun p44=>((oSl 1 p44.1).bind fun c45=>((oCons p44.2).bind fun p46=>((oInt .i64 p46.1).bind fun n47=>((oNil p46.2).bind fun _=>((oSl 1 r41.1).bind fun c48=>some ((.tup [(.agg [(.sl 1 c12),(.sl 2 c14)]),(.int .i64 n16),(.sl 1 c48)]),[]))))))))))))))))))))))))))))))))))))))))))):=by kernel_rfl
theorem spec_WriteSector.ev (n:Nat) (a0_0 a0_1:List T) (a1:Int) (a2:List T):callK prog A H LIM n F.spec_WriteSector [(.agg [(.sl 1 a0_0),(.sl 2 a0_1)]),(.int .i64 a1),(.sl 1 a2)]=((LIM F.spec_DiskFault [(.agg [(.sl 1 a0_0),(.sl 2 a0_1)])]).bind fun r1=>((oNil r1.2).bind fun _=>((oInt .i64 r1.1).bind fun n2=>(bif ((n2 != (0:Int))) then some ((.agg [(.int .i64 n2),(.sl 1 []),(.sl 2 [])]),[]) else ((LIM F.spec_l14Sector [(.rref [(.sl 1 a0_0),(.sl 2 a0_1)] 0),(.int .i64 a1)]).bind fun r3=>((oNil r3.2).bind fun _=>((oBool r3.1).bind fun b4=>(bif (!b4) then some ((.agg [(.int .i64 (3:Int)),(.sl 1 []),(.sl 2 [])]),[]) else (bif ((((((a2).length / 1):Nat):Int) != (96:Int))) then some ((.agg [(.int .i64 (1:Int)),(.sl 1 []),(.sl 2 [])]),[]) else ((LIM F.spec_l14Copy [(.rref [(.sl 1 a0_0),(.sl 2 a0_1)] 0)]).bind fun r5=>((oNil r5.2).bind fun _=>((oAgg r5.1).bind fun c6=>((oCons c6).bind fun p7=>((oSl 1 p7.1).bind fun c8=>((oCons p7.2).bind fun p9=>((oSl 2 p9.1).bind fun c10=>((oNil p9.2).bind fun _=>((LIM F.spec_l14Write [(.rref [(.sl 1 c8),(.sl 2 c10)] 0),(.int .i64 a1),(.sl 1 a2)]).bind fun r11=>((oCons r11.2).bind fun p12=>((oNil p12.2).bind fun _=>((oAgg p12.1).bind fun c13=>((oCons c13).bind fun p14=>((oSl 1 p14.1).bind fun c15=>((oCons p14.2).bind fun p16=>((oSl 2 p16.1).bind fun c17=>((oNil p16.2).bind fun _=>((oTup r11.1).bind fun c18=>((oNil c18).bind fun _=>some ((.agg [(.int .i64 (0:Int)),(.sl 1 c15),(.sl 2 c17)]),[]))))))))))))))))))))))))))))):=by kernel_rfl
def spec_l14Bent.st1 (x0:List T) (x1:Int) (x2 x3:List T):St:=⟨[(0,(.one (.ptr 1000000 0))),(2,(.one (.ptr 128 0))),(3,(.one (.ptr 192 0)))],[(1000000,(.box [(.kept 0 (.sl 1 x0)),(.t (.int .i64 x1))])),(128,(.box [.nil,.nil])),(384,(.arr true true 1 x2)),(385,(.arr true true 2 x3)),(192,(.box [(.obj 384),(.obj 385)]))]⟩
noncomputable def spec_l14Bent.K1 (n:Nat):Ex→St→R:=kx F.spec_l14Bent n [.block 1,.block 0,.seq 0 (cx F.spec_l14Bent [1,1,1,1,1])] (endOf prog A F.spec_l14Bent)
noncomputable def spec_l14Bent.at1 (n:Nat) (m:Nat) (s:St):R:=lx F.spec_l14Bent n 1 [1,1,1,1,0,1,0,1,1,1,1,1,1,1,1,1,1,0,0] (spec_l14Bent.K1 n) m s
noncomputable def spec_l14Bent.rd1 (n:Nat) (L1:St→R) (s:St):R:=rx F.spec_l14Bent n 1 [1,1,1,1,0,1,0,1,1,1,1,1,1,1,1,1,1,0,0] (spec_l14Bent.K1 n) L1 s
theorem spec_l14Bent.next1 (n:Nat) (m:Nat) (s:St):spec_l14Bent.at1 n (m+1) s=spec_l14Bent.rd1 n (spec_l14Bent.at1 n m) s:=nx _ _ _ _ _ _ _
theorem spec_l14Bent.round1 (n:Nat) (L1:St→R) (x0:List T) (x1:Int) (x2 x3:List T):spec_l14Bent.rd1 n L1 (spec_l14Bent.st1 x0 x1 x2 x3)=(bif (decide (((((x2).length / 1):Nat):Int) < (65:Int))) then (bif Nat.ble (((x2).length+1)*24) (140737488355328*1) then (L1 (spec_l14Bent.st1 x0 x1 (x2++[(.sl 1 [(.int .u8 (0:Int)),(.int .u8 (0:Int)),(.int .u8 (0:Int)),(.int .u8 (0:Int)),(.int .u8 (0:Int)),(.int .u8 (0:Int)),(.int .u8 (0:Int)),(.int .u8 (0:Int)),(.int .u8 (0:Int)),(.int .u8 (0:Int)),(.int .u8 (0:Int)),(.int .u8 (0:Int)),(.int .u8 (0:Int)),(.int .u8 (0:Int)),(.int .u8 (0:Int)),(.int .u8 (0:Int)),(.int .u8 (0:Int)),(.int .u8 (0:Int)),(.int .u8 (0:Int)),(.int .u8 (0:Int)),(.int .u8 (0:Int)),(.int .u8 (0:Int)),(.int .u8 (0:Int)),(.int .u8 (0:Int)),(.int .u8 (0:Int)),(.int .u8 (0:Int)),(.int .u8 (0:Int)),(.int .u8 (0:Int)),(.int .u8 (0:Int)),(.int .u8 (0:Int)),(.int .u8 (0:Int)),(.int .u8 (0:Int)),(.int .u8 (0:Int)),(.int .u8 (0:Int)),(.int .u8 (0:Int)),(.int .u8 (0:Int)),(.int .u8 (0:Int)),(.int .u8 (0:Int)),(.int .u8 (0:Int)),(.int .u8 (0:Int)),(.int .u8 (0:Int)),(.int .u8 (0:Int)),(.int .u8 (0:Int)),(.int .u8 (0:Int)),(.int .u8 (0:Int)),(.int .u8 (0:Int)),(.int .u8 (0:Int)),(.int .u8 (0:Int)),(.int .u8 (0:Int)),(.int .u8 (0:Int)),(.int .u8 (0:Int)),(.int .u8 (0:Int)),(.int .u8 (0:Int)),(.int .u8 (0:Int)),(.int .u8 (0:Int)),(.int .u8 (0:Int)),(.int .u8 (0:Int)),(.int .u8 (0:Int)),(.int .u8 (0:Int)),(.int .u8 (0:Int)),(.int .u8 (0:Int)),(.int .u8 (0:Int)),(.int .u8 (0:Int)),(.int .u8 (0:Int)),(.int .u8 (0:Int)),(.int .u8 (0:Int)),(.int .u8 (0:Int)),(.int .u8 (0:Int)),(.int .u8 (0:Int)),(.int .u8 (0:Int)),(.int .u8 (0:Int)),(.int .u8 (0:Int)),(.int .u8 (0:Int)),(.int .u8 (0:Int)),(.int .u8 (0:Int)),(.int .u8 (0:Int)),(.int .u8 (0:Int)),(.int .u8 (0:Int)),(.int .u8 (0:Int)),(.int .u8 (0:Int)),(.int .u8 (0:Int)),(.int .u8 (0:Int)),(.int .u8 (0:Int)),(.int .u8 (0:Int)),(.int .u8 (0:Int)),(.int .u8 (0:Int)),(.int .u8 (0:Int)),(.int .u8 (0:Int)),(.int .u8 (0:Int)),(.int .u8 (0:Int)),(.int .u8 (0:Int)),(.int .u8 (0:Int)),(.int .u8 (0:Int)),(.int .u8 (0:Int)),(.int .u8 (0:Int)),(.int .u8 (0:Int))])]:List T) x3)) else none) else some ((.agg [(.sl 1 x2),(.sl 2 x3)]),[(.agg [(.sl 1 x0),(.int .i64 x1)])])):=by kernel_rfl
theorem spec_l14Bent.ev (n:Nat) (a0_0:List T) (a0_1:Int):callK prog A H LIM n F.spec_l14Bent [(.rref [(.sl 1 a0_0),(.int .i64 a0_1)] 0)]=((LIM F.spec_l14Draw [(.rref [(.sl 1 a0_0),(.int .i64 a0_1)] 0)]).bind fun r1=>((oCons r1.2).bind fun p2=>((oNil p2.2).bind fun _=>((oAgg p2.1).bind fun c3=>((oCons c3).bind fun p4=>((oSl 1 p4.1).bind fun c5=>((oCons p4.2).bind fun p6=>((oInt .i64 p6.1).bind fun n7=>((oNil p6.2).bind fun _=>((oAgg r1.1).bind fun c8=>((oCons c8).bind fun p9=>((oSl 1 p9.1).bind fun c10=>((oCons p9.2).bind fun p11=>((oSl 2 p11.1).bind fun c12=>((oNil p11.2).bind fun _=>((LIM F.spec_l1Chance [(.rref [(.sl 1 a0_0),(.int .i64 n7)] 0),(.int .i64 (9:Int))]).bind fun r13=>((oCons r13.2).bind fun p14=>((oNil p14.2).bind fun _=>((oAgg p14.1).bind fun c15=>((oCons c15).bind fun p16=>((oSl 1 p16.1).bind fun c17=>((oCons p16.2).bind fun p18=>((oInt .i64 p18.1).bind fun n19=>((oNil p18.2).bind fun _=>((oBool r13.1).bind fun b20=>(bif (!b20) then some ((.agg [(.sl 1 c10),(.sl 2 c12)]),[(.agg [(.sl 1 a0_0),(.int .i64 n19)])]) else ((LIM F.spec_l1Next [(.rref [(.sl 1 a0_0),(.int .i64 n19)] 0),(.int .i64 (6:Int))]).bind fun r21=>((oCons r21.2).bind fun p22=>((oNil p22.2).bind fun _=>((oAgg p22.1).bind fun c23=>((oCons c23).bind fun p24=>((oSl 1 p24.1).bind fun c25=>((oCons p24.2).bind fun p26=>((oInt .i64 p26.1).bind fun n27=>((oNil p26.2).bind fun _=>((oInt .i64 r21.1).bind fun n28=>(bif ((n28 == (0:Int))) then (bif decide (0≤(0:Int))&&decide ((0:Int)≤(7:Int))&&decide ((7:Int)≤((((c10).length / 1):Nat):Int)) then some ((.agg [(.sl 1 ((c10.take (7*1)).drop (0*1))),(.sl 2 c12)]),[(.agg [(.sl 1 a0_0),(.int .i64 n27)])]) else none) else (bif ((n28 == (1:Int))) then ((LIM F.spec_l1Next [(.rref [(.sl 1 a0_0),(.int .i64 n27)] 0),(.int .i64 (8:Int))]).bind fun r29=>((oCons r29.2).bind fun p30=>((oNil p30.2).bind fun _=>((oAgg p30.1).bind fun c31=>((oCons c31).bind fun p32=>((oSl 1 p32.1).bind fun c33=>((oCons p32.2).bind fun p34=>((oInt .i64 p34.1).bind fun n35=>((oNil p34.2).bind fun _=>((oInt .i64 r29.1).bind fun n36=>((LIM F.spec_l1Pick [(.rref [(.sl 1 a0_0),(.int .i64 n35)] 0),(.sl 1 [(.int .i64 (95:Int)),(.int .i64 (97:Int)),(.int .i64 (0:Int))])]).bind fun r37=>((oCons r37.2).bind fun p38=>((oNil p38.2).bind fun _=>((oAgg p38.1).bind fun c39=>((oCons c39).bind fun p40=>((oSl 1 p40.1).bind fun c41=>((oCons p40.2).bind fun p42=>((oInt .i64 p42.1).bind fun n43=>((oNil p42.2).bind fun _=>((oInt .i64 r37.1).bind fun n44=>((LIM F.spec_l1Some [(.rref [(.sl 1 a0_0),(.int .i64 n43)] 0),(.int .i64 n44)]).bind fun r45=>((oCons r45.2).bind fun p46=>((oNil p46.2).bind fun _=>((oAgg p46.1).bind fun c47=>((oCons c47).bind fun p48=>((oSl 1 p48.1).bind fun c49=>((oCons p48.2).bind fun p50=>((oInt .i64 p50.1).bind fun n51=>((oNil p50.2).bind fun _=>((oSl 1 r45.1).bind fun c52=>(bif inB n36 ((c10).length / 1) then (bif decide (((Int.toNat n36)*1)+1≤(c10).length) then some ((.agg [(.sl 1 (setCells c10 ((Int.toNat n36)*1) [(.sl 1 c52)])),(.sl 2 c12)]),[(.agg [(.sl 1 a0_0),(.int .i64 n51)])]) else none) else none))))))))))))))))))))))))))))))) else (bif ((n28 == (2:Int))) then (bif (decide (((((c12).length / 2):Nat):Int) > (0:Int))) then ((LIM F.spec_l1Next [(.rref [(.sl 1 a0_0),(.int .i64 n27)] 0),(.int .i64 ((((c12).length / 2):Nat):Int))]).bind fun r53=>((oCons r53.2).bind fun p54=>((oNil p54.2).bind fun _=>((oAgg p54.1).bind fun c55=>((oCons c55).bind fun p56=>((oSl 1 p56.1).bind fun c57=>((oCons p56.2).bind fun p58=>((oInt .i64 p58.1).bind fun n59=>((oNil p58.2).bind fun _=>((oInt .i64 r53.1).bind fun n60=>((LIM F.spec_l1Pick [(.rref [(.sl 1 a0_0),(.int .i64 n59)] 0),(.sl 1 [(.int .i64 (-1:Int)),(.int .i64 (64:Int))])]).bind fun r61=>((oCons r61.2).bind fun p62=>((oNil p62.2).bind fun _=>((oAgg p62.1).bind fun c63=>((oCons c63).bind fun p64=>((oSl 1 p64.1).bind fun c65=>((oCons p64.2).bind fun p66=>((oInt .i64 p66.1).bind fun n67=>((oNil p66.2).bind fun _=>((oInt .i64 r61.1).bind fun n68=>(bif inB n60 ((c12).length / 2) then (bif decide (((Int.toNat n60)*2)+1≤(c12).length) then some ((.agg [(.sl 1 c10),(.sl 2 (setCells c12 ((Int.toNat n60)*2) [(.int .i64 n68)]))]),[(.agg [(.sl 1 a0_0),(.int .i64 n67)])]) else none) else none))))))))))))))))))))) else some ((.agg [(.sl 1 c10),(.sl 2 c12)]),[(.agg [(.sl 1 a0_0),(.int .i64 n27)])])) else (bif ((n28 == (3:Int))) then (bif (decide (((((c12).length / 2):Nat):Int) > (0:Int))) then ((LIM F.spec_l1Next [(.rref [(.sl 1 a0_0),(.int .i64 n27)] 0),(.int .i64 ((((c12).length / 2):Nat):Int))]).bind fun r69=>((oCons r69.2).bind fun p70=>((oNil p70.2).bind fun _=>((oAgg p70.1).bind fun c71=>((oCons c71).bind fun p72=>((oSl 1 p72.1).bind fun c73=>((oCons p72.2).bind fun p74=>((oInt .i64 p74.1).bind fun n75=>((oNil p74.2).bind fun _=>((oInt .i64 r69.1).bind fun n76=>((LIM F.spec_l1Some [(.rref [(.sl 1 a0_0),(.int .i64 n75)] 0),(.int .i64 (95:Int))]).bind fun r77=>((oCons r77.2).bind fun p78=>((oNil p78.2).bind fun _=>((oAgg p78.1).bind fun c79=>((oCons c79).bind fun p80=>((oSl 1 p80.1).bind fun c81=>((oCons p80.2).bind fun p82=>((oInt .i64 p82.1).bind fun n83=>((oNil p82.2).bind fun _=>((oSl 1 r77.1).bind fun c84=>(bif inB n76 ((c12).length / 2) then (bif decide ((((Int.toNat n76)*2)+1)+1≤(c12).length) then some ((.agg [(.sl 1 c10),(.sl 2 (setCells c12 (((Int.toNat n76)*2)+1) [(.sl 1 c84)]))]),[(.agg [(.sl 1 a0_0),(.int .i64 n83)])]) else none) else none))))))))))))))))))))) else some ((.agg [(.sl 1 c10),(.sl 2 c12)]),[(.agg [(.sl 1 a0_0),(.int .i64 n27)])])) else (bif ((n28 == (4:Int))) then (bif (decide (((((c12).length / 2):Nat):Int) > (0:Int))) then (bif inB (0:Int) ((c12).length / 2) then ((c12[0]?).bind fun e85=>((oInt .i64 e85).bind fun n86=>((LIM F.spec_l14Bytes [(.rref [(.sl 1 a0_0),(.int .i64 n27)] 0)]).bind fun r87=>((oCons r87.2).bind fun p88=>((oNil p88.2).bind fun _=>((oAgg p88.1).bind fun c89=>((oCons c89).bind fun p90=>((oSl 1 p90.1).bind fun c91=>((oCons p90.2).bind fun p92=>((oInt .i64 p92.1).bind fun n93=>((oNil p92.2).bind fun _=>((oSl 1 r87.1).bind fun c94=>(bif Nat.ble (((c12).length+2)*32) (140737488355328*2) then some ((.agg [(.sl 1 c10),(.sl 2 (c12++[(.int .i64 n86),(.sl 1 c94)]:List T))]),[(.agg [(.sl 1 a0_0),(.int .i64 n93)])]) else none))))))))))))) else none) else some ((.agg [(.sl 1 c10),(.sl 2 c12)]),[(.agg [(.sl 1 a0_0),(.int .i64 n27)])])) else (spec_l14Bent.at1 n n (spec_l14Bent.st1 a0_0 n27 c10 c12))))))))))))))))))))))))))))))))))))))))))):=by kernel_rfl
def spec_l14Bytes.st0 (x0 x1:Int) (x2:List T) (x3:Int) (x4:List T):St:=⟨[(0,(.one (.ptr 1000000 0))),(3,oi x0),(4,(.one (.obj 512))),(5,oi x1)],[(1000000,(.box [(.kept 0 (.sl 1 x2)),(.t (.int .i64 x3))])),(512,(.arr true true 1 x4))]⟩
noncomputable def spec_l14Bytes.K0 (n:Nat):Ex→St→R:=kx F.spec_l14Bytes n [.block 0,.seq 0 (cx F.spec_l14Bytes [1,1,1,1])] (endOf prog A F.spec_l14Bytes)
noncomputable def spec_l14Bytes.at0 (n:Nat) (m:Nat) (s:St):R:=lx F.spec_l14Bytes n 0 [1,1,1,0,1,0,0] (spec_l14Bytes.K0 n) m s
noncomputable def spec_l14Bytes.rd0 (n:Nat) (L0:St→R) (s:St):R:=rx F.spec_l14Bytes n 0 [1,1,1,0,1,0,0] (spec_l14Bytes.K0 n) L0 s
theorem spec_l14Bytes.next0 (n:Nat) (m:Nat) (s:St):spec_l14Bytes.at0 n (m+1) s=spec_l14Bytes.rd0 n (spec_l14Bytes.at0 n m) s:=nx _ _ _ _ _ _ _
theorem spec_l14Bytes.round0 (n:Nat) (L0:St→R) (x0 x1:Int) (x2:List T) (x3:Int) (x4:List T):spec_l14Bytes.rd0 n L0 (spec_l14Bytes.st0 x0 x1 x2 x3 x4)=(bif (decide (x1 < (96:Int))) then ((LIM F.spec_l1Pick [(.rref [(.sl 1 x2),(.int .i64 x3)] 0),(.sl 1 [(.int .i64 (0:Int)),(.int .i64 (1:Int)),(.int .i64 (3:Int))])]).bind fun r9=>((oCons r9.2).bind fun p10=>((oNil p10.2).bind fun _=>((oAgg p10.1).bind fun c11=>((oCons c11).bind fun p12=>((oSl 1 p12.1).bind fun c13=>((oCons p12.2).bind fun p14=>((oInt .i64 p14.1).bind fun n15=>((oNil p14.2).bind fun _=>((oInt .i64 r9.1).bind fun n16=>(bif Nat.ble (((x4).length+1)*1) (140737488355328*1) then (L0 (spec_l14Bytes.st0 x0 (IntKind.wrap .i64 (x1+(1:Int))) x2 n15 (x4++[(.int .u8 (IntKind.wrap .u8 (Int.tmod (IntKind.wrap .i64 (x0+(IntKind.wrap .i64 (x1*n16)))) (256:Int))))]:List T))) else none))))))))))) else some ((.sl 1 x4),[(.agg [(.sl 1 x2),(.int .i64 x3)])])):=by kernel_rfl
theorem spec_l14Bytes.ev (n:Nat) (a0_0:List T) (a0_1:Int):callK prog A H LIM n F.spec_l14Bytes [(.rref [(.sl 1 a0_0),(.int .i64 a0_1)] 0)]=((LIM F.spec_l1Next [(.rref [(.sl 1 a0_0),(.int .i64 a0_1)] 0),(.int .i64 (256:Int))]).bind fun r1=>((oCons r1.2).bind fun p2=>((oNil p2.2).bind fun _=>((oAgg p2.1).bind fun c3=>((oCons c3).bind fun p4=>((oSl 1 p4.1).bind fun c5=>((oCons p4.2).bind fun p6=>((oInt .i64 p6.1).bind fun n7=>((oNil p6.2).bind fun _=>((oInt .i64 r1.1).bind fun n8=>(spec_l14Bytes.at0 n n (spec_l14Bytes.st0 n8 (0:Int) a0_0 n7 [])))))))))))):=by kernel_rfl
def spec_l14Copy.st2 (x0 x1:List T) (x2:Int) (x3 x4:List T):St:=⟨[(0,(.one (.t (.rref [(.sl 1 x0),(.sl 2 x1)] 0)))),(2,(.one (.ptr 128 0))),(3,(.one (.ptr 192 0))),(5,oi x2)],[(128,(.box [.nil,.nil])),(192,(.box [(.obj 513072),(.obj 513073)])),(513072,(.arr true true 1 x3)),(513073,(.arr true true 2 x4))]⟩
def spec_l14Copy.st0 (x0 x1:List T) (x2:Int) (x3:List T):St:=⟨[(0,(.one (.t (.rref [(.sl 1 x0),(.sl 2 x1)] 0)))),(2,(.one (.ptr 128 0))),(3,(.one (.ptr 192 0))),(4,oi x2)],[(128,(.box [.nil,.nil])),(192,(.box [(.obj 513072),.nil])),(513072,(.arr true true 1 x3))]⟩
noncomputable def spec_l14Copy.K0 (n:Nat):Ex→St→R:=kx F.spec_l14Copy n [.block 0,.seq 0 (cx F.spec_l14Copy [1,1,1])] (endOf prog A F.spec_l14Copy)
noncomputable def spec_l14Copy.at0 (n:Nat) (m:Nat) (s:St):R:=lx F.spec_l14Copy n 0 [1,1,0,1,0,0] (spec_l14Copy.K0 n) m s
noncomputable def spec_l14Copy.rd0 (n:Nat) (L0:St→R) (s:St):R:=rx F.spec_l14Copy n 0 [1,1,0,1,0,0] (spec_l14Copy.K0 n) L0 s
theorem spec_l14Copy.next0 (n:Nat) (m:Nat) (s:St):spec_l14Copy.at0 n (m+1) s=spec_l14Copy.rd0 n (spec_l14Copy.at0 n m) s:=nx _ _ _ _ _ _ _
noncomputable def spec_l14Copy.K2 (n:Nat):Ex→St→R:=kx F.spec_l14Copy n [.block 2,.seq 0 (cx F.spec_l14Copy [1,1,1,1])] (endOf prog A F.spec_l14Copy)
noncomputable def spec_l14Copy.at2 (n:Nat) (m:Nat) (s:St):R:=lx F.spec_l14Copy n 2 [1,1,1,0,1,0,0] (spec_l14Copy.K2 n) m s
noncomputable def spec_l14Copy.rd2 (n:Nat) (L2:St→R) (s:St):R:=rx F.spec_l14Copy n 2 [1,1,1,0,1,0,0] (spec_l14Copy.K2 n) L2 s
theorem spec_l14Copy.next2 (n:Nat) (m:Nat) (s:St):spec_l14Copy.at2 n (m+1) s=spec_l14Copy.rd2 n (spec_l14Copy.at2 n m) s:=nx _ _ _ _ _ _ _
theorem spec_l14Copy.round0 (n:Nat) (L0:St→R) (x0 x1:List T) (x2:Int) (x3:List T):spec_l14Copy.rd0 n L0 (spec_l14Copy.st0 x0 x1 x2 x3)=(bif (decide (x2 < ((((x0).length / 1):Nat):Int))) then (bif inB x2 ((x0).length / 1) then ((x0[((Int.toNat x2)*1)]?).bind fun e1=>((oSl 1 e1).bind fun c2=>((LIM F.spec_l1Copy [(.sl 1 c2)]).bind fun r3=>((oNil r3.2).bind fun _=>((oSl 1 r3.1).bind fun c4=>(bif Nat.ble (((x3).length+1)*24) (140737488355328*1) then (L0 (spec_l14Copy.st0 x0 x1 (IntKind.wrap .i64 (x2+(1:Int))) (x3++[(.sl 1 c4)]:List T))) else none)))))) else none) else (spec_l14Copy.at2 n n (spec_l14Copy.st2 x0 x1 (0:Int) x3 []))):=by kernel_rfl
theorem spec_l14Copy.round2 (n:Nat) (L2:St→R) (x0 x1:List T) (x2:Int) (x3 x4:List T):spec_l14Copy.rd2 n L2 (spec_l14Copy.st2 x0 x1 x2 x3 x4)=(bif (decide (x2 < ((((x1).length / 2):Nat):Int))) then (bif inB x2 ((x1).length / 2) then ((x1[((Int.toNat x2)*2)]?).bind fun e5=>((oInt .i64 e5).bind fun n6=>(bif inB x2 ((x1).length / 2) then ((x1[(((Int.toNat x2)*2)+1)]?).bind fun e7=>((oSl 1 e7).bind fun c8=>((LIM F.spec_l1Copy [(.sl 1 c8)]).bind fun r9=>((oNil r9.2).bind fun _=>((oSl 1 r9.1).bind fun c10=>(bif Nat.ble (((x4).length+2)*32) (140737488355328*2) then (L2 (spec_l14Copy.st2 x0 x1 (IntKind.wrap .i64 (x2+(1:Int))) x3 (x4++[(.int .i64 n6),(.sl 1 c10)]:List T))) else none)))))) else none))) else none) else some ((.agg [(.sl 1 x3),(.sl 2 x4)]),[])):=by kernel_rfl
theorem spec_l14Copy.ev (n:Nat) (a0_0 a0_1:List T):callK prog A H LIM n F.spec_l14Copy [(.rref [(.sl 1 a0_0),(.sl 2 a0_1)] 0)]=(spec_l14Copy.at0 n n (spec_l14Copy.st0 a0_0 a0_1 (0:Int) [])):=by kernel_rfl
def spec_l14Crash.st2 (x0:List T) (x1 x2:Int) (x3 x4:List T) (x5:Nat) (x6:List T) (x7:Int):St:=⟨[(0,(.one (.ptr 1000000 0))),(1,ol 1 x0),(4,oi x1),(5,(.one (.ptr 320 0))),(6,oi x2)],[(1000000,(.box [(.obj 1000001),(.obj 1000002)])),(1000001,(.arr true true 1 x3)),(1000002,(.opn 2 x4 [(x5,(.obj 1409))])),(1409,(.arr true true 1 x6)),(320,(.box [(.t (.int .i64 x7)),(.obj 1409)]))]⟩
def spec_l14Crash.st0 (x0:List T) (x1:Int) (x2 x3:List T):St:=⟨[(0,(.one (.ptr 1000000 0))),(1,ol 1 x0),(4,oi x1)],[(1000000,(.box [(.obj 1000001),(.obj 1000002)])),(1000001,(.arr true true 1 x2)),(1000002,(.arr true true 2 x3))]⟩
noncomputable def spec_l14Crash.K0 (n:Nat):Ex→St→R:=kx F.spec_l14Crash n [.block 0,.seq 0 (cx F.spec_l14Crash [1])] (endOf prog A F.spec_l14Crash)
noncomputable def spec_l14Crash.at0 (n:Nat) (m:Nat) (s:St):R:=lx F.spec_l14Crash n 0 [0,1,0,0] (spec_l14Crash.K0 n) m s
noncomputable def spec_l14Crash.rd0 (n:Nat) (L0:St→R) (s:St):R:=rx F.spec_l14Crash n 0 [0,1,0,0] (spec_l14Crash.K0 n) L0 s
theorem spec_l14Crash.next0 (n:Nat) (m:Nat) (s:St):spec_l14Crash.at0 n (m+1) s=spec_l14Crash.rd0 n (spec_l14Crash.at0 n m) s:=nx _ _ _ _ _ _ _
noncomputable def spec_l14Crash.K2 (n:Nat) (L0:St→R):Ex→St→R:=kx F.spec_l14Crash n [.block 2,.block 1,.seq 0 (cx F.spec_l14Crash [0,1,0,0,1,1])] (bx F.spec_l14Crash 0 (spec_l14Crash.K0 n) L0)
noncomputable def spec_l14Crash.at2 (n:Nat) (L0:St→R) (m:Nat) (s:St):R:=lx F.spec_l14Crash n 2 [0,1,0,0,1,0,0,1,1,0,0] (spec_l14Crash.K2 n L0) m s
noncomputable def spec_l14Crash.rd2 (n:Nat) (L0:St→R) (L2:St→R) (s:St):R:=rx F.spec_l14Crash n 2 [0,1,0,0,1,0,0,1,1,0,0] (spec_l14Crash.K2 n L0) L2 s
theorem spec_l14Crash.next2 (n:Nat) (L0:St→R) (m:Nat) (s:St):spec_l14Crash.at2 n L0 (m+1) s=spec_l14Crash.rd2 n L0 (spec_l14Crash.at2 n L0 m) s:=nx _ _ _ _ _ _ _
theorem spec_l14Crash.round0 (n:Nat) (L0:St→R) (x0:List T) (x1:Int) (x2 x3:List T):spec_l14Crash.rd0 n L0 (spec_l14Crash.st0 x0 x1 x2 x3)=(bif (decide (x1 < ((((x3).length / 2):Nat):Int))) then (bif inB x1 ((x3).length / 2) then ((x3[((Int.toNat x1)*2)]?).bind fun e1=>((oInt .i64 e1).bind fun n2=>((x3[(((Int.toNat x1)*2)+1)]?).bind fun e3=>((oSl 1 e3).bind fun c4=>(spec_l14Crash.at2 n L0 n (spec_l14Crash.st2 x0 x1 (0:Int) x2 x3 (((Int.toNat x1)*2)+1) c4 n2)))))) else none) else some ((.tup []),[(.agg [(.sl 1 x2),(.sl 2 [])])])):=by kernel_rfl
theorem spec_l14Crash.round2 (n:Nat) (L0:St→R) (L2:St→R) (x0:List T) (x1 x2:Int) (x3 x4:List T) (x5:Nat) (x6:List T) (x7:Int):spec_l14Crash.rd2 n L0 L2 (spec_l14Crash.st2 x0 x1 x2 x3 x4 x5 x6 x7)=(bif inB x1 ((x0).length / 1) then ((x0[((Int.toNat x1)*1)]?).bind fun e5=>((oInt .i64 e5).bind fun n6=>(bif (decide (x2 < n6)) then (bif inB x7 ((x3).length / 1) then ((x3[((Int.toNat x7)*1)]?).bind fun e7=>((oSl 1 e7).bind fun c8=>(bif inB x2 ((x6).length / 1) then ((x6[((Int.toNat x2)*1)]?).bind fun e9=>((oInt .u8 e9).bind fun n10=>(bif inB x2 ((c8).length / 1) then (bif decide (((Int.toNat x2)*1)+1≤(c8).length) then (L2 (spec_l14Crash.st2 x0 x1 (IntKind.wrap .i64 (x2+(1:Int))) (List.set x3 ((Int.toNat x7)*1) (.sl 1 (setCells c8 ((Int.toNat x2)*1) [(.int .u8 n10)]))) x4 x5 x6 x7)) else none) else none))) else none))) else none) else (L0 (spec_l14Crash.st0 x0 (IntKind.wrap .i64 (x1+(1:Int))) x3 (List.set x4 x5 (.sl 1 x6))))))) else none):=by kernel_rfl
theorem spec_l14Crash.ev (n:Nat) (a0_0 a0_1 a1:List T):callK prog A H LIM n F.spec_l14Crash [(.rref [(.sl 1 a0_0),(.sl 2 a0_1)] 0),(.sl 1 a1)]=(spec_l14Crash.at0 n n (spec_l14Crash.st0 a1 (0:Int) a0_0 a0_1)):=by kernel_rfl
def spec_l14Draw.st0 (x0:Int) (x1:List T) (x2:Int) (x3 x4:List T):St:=⟨[(0,(.one (.ptr 1000000 0))),(2,(.one (.ptr 128 0))),(3,(.one (.ptr 192 0))),(4,oi x0)],[(1000000,(.box [(.kept 0 (.sl 1 x1)),(.t (.int .i64 x2))])),(128,(.box [.nil,.nil])),(512,(.arr true true 1 x3)),(513,(.arr true true 2 x4)),(192,(.box [(.obj 512),(.obj 513)]))]⟩
noncomputable def spec_l14Draw.K0 (n:Nat):Ex→St→R:=kx F.spec_l14Draw n [.block 0,.seq 0 (cx F.spec_l14Draw [1,1,1])] (endOf prog A F.spec_l14Draw)
noncomputable def spec_l14Draw.at0 (n:Nat) (m:Nat) (s:St):R:=lx F.spec_l14Draw n 0 [1,1,0,1,0,0] (spec_l14Draw.K0 n) m s
noncomputable def spec_l14Draw.rd0 (n:Nat) (L0:St→R) (s:St):R:=rx F.spec_l14Draw n 0 [1,1,0,1,0,0] (spec_l14Draw.K0 n) L0 s
theorem spec_l14Draw.next0 (n:Nat) (m:Nat) (s:St):spec_l14Draw.at0 n (m+1) s=spec_l14Draw.rd0 n (spec_l14Draw.at0 n m) s:=nx _ _ _ _ _ _ _
theorem spec_l14Draw.round0 (n:Nat) (L0:St→R) (x0:Int) (x1:List T) (x2:Int) (x3 x4:List T):spec_l14Draw.rd0 n L0 (spec_l14Draw.st0 x0 x1 x2 x3 x4)=(bif (decide (x0 > (0:Int))) then ((LIM F.spec_l1Next [(.rref [(.sl 1 x1),(.int .i64 x2)] 0),(.int .i64 (8:Int))]).bind fun r23=>((oCons r23.2).bind fun p24=>((oNil p24.2).bind fun _=>((oAgg p24.1).bind fun c25=>((oCons c25).bind fun p26=>((oSl 1 p26.1).bind fun c27=>((oCons p26.2).bind fun p28=>((oInt .i64 p28.1).bind fun n29=>((oNil p28.2).bind fun _=>((oInt .i64 r23.1).bind fun n30=>((LIM F.spec_l14Bytes [(.rref [(.sl 1 x1),(.int .i64 n29)] 0)]).bind fun r31=>((oCons r31.2).bind fun p32=>((oNil p32.2).bind fun _=>((oAgg p32.1).bind fun c33=>((oCons c33).bind fun p34=>((oSl 1 p34.1).bind fun c35=>((oCons p34.2).bind fun p36=>((oInt .i64 p36.1).bind fun n37=>((oNil p36.2).bind fun _=>((oSl 1 r31.1).bind fun c38=>((LIM F.spec_l14Write [(.rref [(.sl 1 x3),(.sl 2 x4)] 0),(.int .i64 n30),(.sl 1 c38)]).bind fun r39=>((oCons r39.2).bind fun p40=>((oNil p40.2).bind fun _=>((oAgg p40.1).bind fun c41=>((oCons c41).bind fun p42=>((oSl 1 p42.1).bind fun c43=>((oCons p42.2).bind fun p44=>((oSl 2 p44.1).bind fun c45=>((oNil p44.2).bind fun _=>((oTup r39.1).bind fun c46=>((oNil c46).bind fun _=>((LIM F.spec_l1Chance [(.rref [(.sl 1 x1),(.int .i64 n37)] 0),(.int .i64 (3:Int))]).bind fun r47=>((oCons r47.2).bind fun p48=>((oNil p48.2).bind fun _=>((oAgg p48.1).bind fun c49=>((oCons c49).bind fun p50=>((oSl 1 p50.1).bind fun c51=>((oCons p50.2).bind fun p52=>((oInt .i64 p52.1).bind fun n53=>((oNil p52.2).bind fun _=>((oBool r47.1).bind fun b54=>(bif b54 then ((LIM F.spec_l14Flush [(.rref [(.sl 1 c43),(.sl 2 c45)] 0)]).bind fun r55=>((oCons r55.2).bind fun p56=>((oNil p56.2).bind fun _=>((oAgg p56.1).bind fun c57=>((oCons c57).bind fun p58=>((oSl 1 p58.1).bind fun c59=>((oCons p58.2).bind fun p60=>((oSl 2 p60.1).bind fun c61=>((oNil p60.2).bind fun _=>((oTup r55.1).bind fun c62=>((oNil c62).bind fun _=>(L0 (spec_l14Draw.st0 (IntKind.wrap .i64 (x0 - (1:Int))) x1 n53 c59 c61))))))))))))) else (L0 (spec_l14Draw.st0 (IntKind.wrap .i64 (x0 - (1:Int))) x1 n53 c43 c45)))))))))))))))))))))))))))))))))))))))))))) else some ((.agg [(.sl 1 x3),(.sl 2 x4)]),[(.agg [(.sl 1 x1),(.int .i64 x2)])])):=by kernel_rfl
theorem spec_l14Draw.ev (n:Nat) (a0_0:List T) (a0_1:Int):callK prog A H LIM n F.spec_l14Draw [(.rref [(.sl 1 a0_0),(.int .i64 a0_1)] 0)]=((LIM F.spec_l1Pick [(.rref [(.sl 1 a0_0),(.int .i64 a0_1)] 0),(.sl 1 [(.int .i64 (8:Int)),(.int .i64 (8:Int)),(.int .i64 (9:Int)),(.int .i64 (12:Int)),(.int .i64 (64:Int))])]).bind fun r1=>((oCons r1.2).bind fun p2=>((oNil p2.2).bind fun _=>((oAgg p2.1).bind fun c3=>((oCons c3).bind fun p4=>((oSl 1 p4.1).bind fun c5=>((oCons p4.2).bind fun p6=>((oInt .i64 p6.1).bind fun n7=>((oNil p6.2).bind fun _=>((oInt .i64 r1.1).bind fun n8=>((LIM F.spec_l14New [(.int .i64 n8)]).bind fun r9=>((oNil r9.2).bind fun _=>((oAgg r9.1).bind fun c10=>((oCons c10).bind fun p11=>((oSl 1 p11.1).bind fun c12=>((oCons p11.2).bind fun p13=>((oSl 2 p13.1).bind fun c14=>((oNil p13.2).bind fun _=>((LIM F.spec_l1Next [(.rref [(.sl 1 a0_0),(.int .i64 n7)] 0),(.int .i64 (6:Int))]).bind fun r15=>((oCons r15.2).bind fun p16=>((oNil p16.2).bind fun _=>((oAgg p16.1).bind fun c17=>((oCons c17).bind fun p18=>((oSl 1 p18.1).bind fun c19=>((oCons p18.2).bind fun p20=>((oInt .i64 p20.1).bind fun n21=>((oNil p20.2).bind fun _=>((oInt .i64 r15.1).bind fun n22=>(spec_l14Draw.at0 n n (spec_l14Draw.st0 n22 a0_0 n21 c12 c14)))))))))))))))))))))))))))))):=by kernel_rfl
def spec_l14Flush.st0 (x0:Int) (x1 x2 x3:List T):St:=⟨[(0,(.one (.ptr 1000000 0))),(2,(.one (.obj 256))),(3,oi x0)],[(1000000,(.box [(.obj 1000001),(.obj 1000002)])),(1000001,(.arr true true 1 x1)),(1000002,(.arr true true 2 x2)),(256,(.arr true true 1 x3))]⟩
noncomputable def spec_l14Flush.K0 (n:Nat):Ex→St→R:=kx F.spec_l14Flush n [.block 0,.seq 0 (cx F.spec_l14Flush [1,1])] (endOf prog A F.spec_l14Flush)
noncomputable def spec_l14Flush.at0 (n:Nat) (m:Nat) (s:St):R:=lx F.spec_l14Flush n 0 [1,0,1,0,0] (spec_l14Flush.K0 n) m s
noncomputable def spec_l14Flush.rd0 (n:Nat) (L0:St→R) (s:St):R:=rx F.spec_l14Flush n 0 [1,0,1,0,0] (spec_l14Flush.K0 n) L0 s
theorem spec_l14Flush.next0 (n:Nat) (m:Nat) (s:St):spec_l14Flush.at0 n (m+1) s=spec_l14Flush.rd0 n (spec_l14Flush.at0 n m) s:=nx _ _ _ _ _ _ _
theorem spec_l14Flush.round0 (n:Nat) (L0:St→R) (x0:Int) (x1 x2 x3:List T):spec_l14Flush.rd0 n L0 (spec_l14Flush.st0 x0 x1 x2 x3)=(bif (decide (x0 < ((((x2).length / 2):Nat):Int))) then (bif Nat.ble (((x3).length+1)*8) (140737488355328*1) then (L0 (spec_l14Flush.st0 (IntKind.wrap .i64 (x0+(1:Int))) x1 x2 (x3++[(.int .i64 (96:Int))]:List T))) else none) else ((LIM F.spec_l14Crash [(.rref [(.sl 1 x1),(.sl 2 x2)] 0),(.sl 1 x3)]).bind fun r1=>((oCons r1.2).bind fun p2=>((oNil p2.2).bind fun _=>((oAgg p2.1).bind fun c3=>((oCons c3).bind fun p4=>((oSl 1 p4.1).bind fun c5=>((oCons p4.2).bind fun p6=>((oSl 2 p6.1).bind fun c7=>((oNil p6.2).bind fun _=>((oTup r1.1).bind fun c8=>((oNil c8).bind fun _=>some ((.tup []),[(.agg [(.sl 1 c5),(.sl 2 c7)])]))))))))))))):=by kernel_rfl
theorem spec_l14Flush.ev (n:Nat) (a0_0 a0_1:List T):callK prog A H LIM n F.spec_l14Flush [(.rref [(.sl 1 a0_0),(.sl 2 a0_1)] 0)]=(spec_l14Flush.at0 n n (spec_l14Flush.st0 (0:Int) a0_0 a0_1 [])):=by kernel_rfl
def spec_l14New.st0 (x0 x1:Int) (x2:List T):St:=⟨[(0,oi x0),(2,(.one (.ptr 128 0))),(3,(.one (.ptr 192 0))),(4,oi x1)],[(128,(.box [.nil,.nil])),(192,(.box [(.obj 513072),.nil])),(513072,(.arr true true 1 x2))]⟩
noncomputable def spec_l14New.K0 (n:Nat):Ex→St→R:=kx F.spec_l14New n [.block 0,.seq 0 (cx F.spec_l14New [1,1,1])] (endOf prog A F.spec_l14New)
noncomputable def spec_l14New.at0 (n:Nat) (m:Nat) (s:St):R:=lx F.spec_l14New n 0 [1,1,0,1,0,0] (spec_l14New.K0 n) m s
noncomputable def spec_l14New.rd0 (n:Nat) (L0:St→R) (s:St):R:=rx F.spec_l14New n 0 [1,1,0,1,0,0] (spec_l14New.K0 n) L0 s
theorem spec_l14New.next0 (n:Nat) (m:Nat) (s:St):spec_l14New.at0 n (m+1) s=spec_l14New.rd0 n (spec_l14New.at0 n m) s:=nx _ _ _ _ _ _ _
theorem spec_l14New.round0 (n:Nat) (L0:St→R) (x0 x1:Int) (x2:List T):spec_l14New.rd0 n L0 (spec_l14New.st0 x0 x1 x2)=(bif (decide (x1 < x0)) then (bif Nat.ble (((x2).length+1)*24) (140737488355328*1) then (L0 (spec_l14New.st0 x0 (IntKind.wrap .i64 (x1+(1:Int))) (x2++[(.sl 1 [(.int .u8 (0:Int)),(.int .u8 (0:Int)),(.int .u8 (0:Int)),(.int .u8 (0:Int)),(.int .u8 (0:Int)),(.int .u8 (0:Int)),(.int .u8 (0:Int)),(.int .u8 (0:Int)),(.int .u8 (0:Int)),(.int .u8 (0:Int)),(.int .u8 (0:Int)),(.int .u8 (0:Int)),(.int .u8 (0:Int)),(.int .u8 (0:Int)),(.int .u8 (0:Int)),(.int .u8 (0:Int)),(.int .u8 (0:Int)),(.int .u8 (0:Int)),(.int .u8 (0:Int)),(.int .u8 (0:Int)),(.int .u8 (0:Int)),(.int .u8 (0:Int)),(.int .u8 (0:Int)),(.int .u8 (0:Int)),(.int .u8 (0:Int)),(.int .u8 (0:Int)),(.int .u8 (0:Int)),(.int .u8 (0:Int)),(.int .u8 (0:Int)),(.int .u8 (0:Int)),(.int .u8 (0:Int)),(.int .u8 (0:Int)),(.int .u8 (0:Int)),(.int .u8 (0:Int)),(.int .u8 (0:Int)),(.int .u8 (0:Int)),(.int .u8 (0:Int)),(.int .u8 (0:Int)),(.int .u8 (0:Int)),(.int .u8 (0:Int)),(.int .u8 (0:Int)),(.int .u8 (0:Int)),(.int .u8 (0:Int)),(.int .u8 (0:Int)),(.int .u8 (0:Int)),(.int .u8 (0:Int)),(.int .u8 (0:Int)),(.int .u8 (0:Int)),(.int .u8 (0:Int)),(.int .u8 (0:Int)),(.int .u8 (0:Int)),(.int .u8 (0:Int)),(.int .u8 (0:Int)),(.int .u8 (0:Int)),(.int .u8 (0:Int)),(.int .u8 (0:Int)),(.int .u8 (0:Int)),(.int .u8 (0:Int)),(.int .u8 (0:Int)),(.int .u8 (0:Int)),(.int .u8 (0:Int)),(.int .u8 (0:Int)),(.int .u8 (0:Int)),(.int .u8 (0:Int)),(.int .u8 (0:Int)),(.int .u8 (0:Int)),(.int .u8 (0:Int)),(.int .u8 (0:Int)),(.int .u8 (0:Int)),(.int .u8 (0:Int)),(.int .u8 (0:Int)),(.int .u8 (0:Int)),(.int .u8 (0:Int)),(.int .u8 (0:Int)),(.int .u8 (0:Int)),(.int .u8 (0:Int)),(.int .u8 (0:Int)),(.int .u8 (0:Int)),(.int .u8 (0:Int)),(.int .u8 (0:Int)),(.int .u8 (0:Int)),(.int .u8 (0:Int)),(.int .u8 (0:Int)),(.int .u8 (0:Int)),(.int .u8 (0:Int)),(.int .u8 (0:Int)),(.int .u8 (0:Int)),(.int .u8 (0:Int)),(.int .u8 (0:Int)),(.int .u8 (0:Int)),(.int .u8 (0:Int)),(.int .u8 (0:Int)),(.int .u8 (0:Int)),(.int .u8 (0:Int)),(.int .u8 (0:Int)),(.int .u8 (0:Int))])]:List T))) else none) else some ((.agg [(.sl 1 x2),(.sl 2 [])]),[])):=by kernel_rfl
theorem spec_l14New.ev (n:Nat) (a0:Int):callK prog A H LIM n F.spec_l14New [(.int .i64 a0)]=(spec_l14New.at0 n n (spec_l14New.st0 a0 (0:Int) [])):=by kernel_rfl
theorem spec_l14Sector.ev (n:Nat) (a0_0 a0_1:List T) (a1:Int):callK prog A H LIM n F.spec_l14Sector [(.rref [(.sl 1 a0_0),(.sl 2 a0_1)] 0),(.int .i64 a1)]=((LIM F.spec_l1In [(.int .i64 a1),(.int .i64 (0:Int)),(.int .i64 (IntKind.wrap .i64 (((((a0_0).length / 1):Nat):Int) - (1:Int))))]).bind fun r1=>((oNil r1.2).bind fun _=>((oBool r1.1).bind fun b2=>some ((.bool b2),[])))):=by kernel_rfl
def spec_l14Waits.st0 (x0 x1:List T) (x2 x3:Int):St:=⟨[(0,(.one (.t (.rref [(.sl 1 x0),(.sl 2 x1)] 0)))),(1,oi x2),(5,oi x3)],[]⟩
noncomputable def spec_l14Waits.K0 (n:Nat):Ex→St→R:=kx F.spec_l14Waits n [.block 0,.seq 0 (cx F.spec_l14Waits [1,1])] (endOf prog A F.spec_l14Waits)
noncomputable def spec_l14Waits.at0 (n:Nat) (m:Nat) (s:St):R:=lx F.spec_l14Waits n 0 [1,0,1,0,0] (spec_l14Waits.K0 n) m s
noncomputable def spec_l14Waits.rd0 (n:Nat) (L0:St→R) (s:St):R:=rx F.spec_l14Waits n 0 [1,0,1,0,0] (spec_l14Waits.K0 n) L0 s
theorem spec_l14Waits.next0 (n:Nat) (m:Nat) (s:St):spec_l14Waits.at0 n (m+1) s=spec_l14Waits.rd0 n (spec_l14Waits.at0 n m) s:=nx _ _ _ _ _ _ _
theorem spec_l14Waits.round0 (n:Nat) (L0:St→R) (x0 x1:List T) (x2 x3:Int):spec_l14Waits.rd0 n L0 (spec_l14Waits.st0 x0 x1 x2 x3)=(bif (decide (x3 < ((((x1).length / 2):Nat):Int))) then (bif inB x3 ((x1).length / 2) then ((x1[((Int.toNat x3)*2)]?).bind fun e1=>((oInt .i64 e1).bind fun n2=>(bif ((n2 == x2)) then some ((.int .i64 x3),[]) else (L0 (spec_l14Waits.st0 x0 x1 x2 (IntKind.wrap .i64 (x3+(1:Int)))))))) else none) else some ((.int .i64 (-1:Int)),[])):=by kernel_rfl
theorem spec_l14Waits.ev (n:Nat) (a0_0 a0_1:List T) (a1:Int):callK prog A H LIM n F.spec_l14Waits [(.rref [(.sl 1 a0_0),(.sl 2 a0_1)] 0),(.int .i64 a1)]=(spec_l14Waits.at0 n n (spec_l14Waits.st0 a0_0 a0_1 a1 (0:Int))):=by kernel_rfl
theorem spec_l14Write.ev (n:Nat) (a0_0 a0_1:List T) (a1:Int) (a2:List T):callK prog A H LIM n F.spec_l14Write [(.rref [(.sl 1 a0_0),(.sl 2 a0_1)] 0),(.int .i64 a1),(.sl 1 a2)]=((LIM F.spec_l14Waits [(.rref [(.sl 1 a0_0),(.sl 2 a0_1)] 0),(.int .i64 a1)]).bind fun r1=>((oNil r1.2).bind fun _=>((oInt .i64 r1.1).bind fun n2=>(bif (decide (n2 ≥ (0:Int))) then ((LIM F.spec_l1Copy [(.sl 1 a2)]).bind fun r3=>((oNil r3.2).bind fun _=>((oSl 1 r3.1).bind fun c4=>(bif inB n2 ((a0_1).length / 2) then (bif decide ((((Int.toNat n2)*2)+1)+1≤(a0_1).length) then some ((.tup []),[(.agg [(.sl 1 a0_0),(.sl 2 (setCells a0_1 (((Int.toNat n2)*2)+1) [(.sl 1 c4)]))])]) else none) else none)))) else ((LIM F.spec_l1Copy [(.sl 1 a2)]).bind fun r5=>((oNil r5.2).bind fun _=>((oSl 1 r5.1).bind fun c6=>(bif Nat.ble (((a0_1).length+2)*32) (140737488355328*2) then some ((.tup []),[(.agg [(.sl 1 a0_0),(.sl 2 (a0_1++[(.int .i64 a1),(.sl 1 c6)]:List T))])]) else none)))))))):=by kernel_rfl
theorem spec_l1Chance.ev (n:Nat) (a0_0:List T) (a0_1 a1:Int):callK prog A H LIM n F.spec_l1Chance [(.rref [(.sl 1 a0_0),(.int .i64 a0_1)] 0),(.int .i64 a1)]=((LIM F.spec_l1Next [(.rref [(.sl 1 a0_0),(.int .i64 a0_1)] 0),(.int .i64 a1)]).bind fun r1=>((oCons r1.2).bind fun p2=>((oNil p2.2).bind fun _=>((oAgg p2.1).bind fun c3=>((oCons c3).bind fun p4=>((oSl 1 p4.1).bind fun c5=>((oCons p4.2).bind fun p6=>((oInt .i64 p6.1).bind fun n7=>((oNil p6.2).bind fun _=>((oInt .i64 r1.1).bind fun n8=>some ((.bool ((n8 == (0:Int)))),[(.agg [(.sl 1 a0_0),(.int .i64 n7)])]))))))))))):=by kernel_rfl
theorem spec_l1Copy.ev (n:Nat) (a0:List T):callK prog A H LIM n F.spec_l1Copy [(.sl 1 a0)]=(bif (a0).all T.scalar then (bif Nat.ble ((0+(a0).length)*1) (140737488355328*1) then some ((.sl 1 a0),[]) else none) else none):=by kernel_rfl
theorem spec_l1In.ev (n:Nat) (a0 a1 a2:Int):callK prog A H LIM n F.spec_l1In [(.int .i64 a0),(.int .i64 a1),(.int .i64 a2)]=(bif (decide (a0 ≥ a1)) then some ((.bool (decide (a0≤a2))),[]) else some ((.bool false),[])):=by kernel_rfl
theorem spec_l1Next.ev (n:Nat) (a0_0:List T) (a0_1 a1:Int):callK prog A H LIM n F.spec_l1Next [(.rref [(.sl 1 a0_0),(.int .i64 a0_1)] 0),(.int .i64 a1)]=(bif (decide (a1 < (1:Int))) then some ((.int .i64 (0:Int)),[(.agg [(.sl 1 a0_0),(.int .i64 (IntKind.wrap .i64 (a0_1+(1:Int))))])]) else (bif ((((((a0_0).length / 1):Nat):Int) == (0:Int))) then (bif decide (a1=0) then none else some ((.int .i64 (Int.tmod (IntKind.wrap .i64 ((IntKind.wrap .i64 ((IntKind.wrap .i64 (a0_1+(1:Int))) - (1:Int)))*(7:Int))) a1)),[(.agg [(.sl 1 a0_0),(.int .i64 (IntKind.wrap .i64 (a0_1+(1:Int))))])])) else (bif decide (((((a0_0).length / 1):Nat):Int)=0) then none else (bif inB (Int.tmod (IntKind.wrap .i64 ((IntKind.wrap .i64 (a0_1+(1:Int))) - (1:Int))) ((((a0_0).length / 1):Nat):Int)) ((a0_0).length / 1) then ((a0_0[((Int.toNat (Int.tmod (IntKind.wrap .i64 ((IntKind.wrap .i64 (a0_1+(1:Int))) - (1:Int))) ((((a0_0).length / 1):Nat):Int)))*1)]?).bind fun e1=>((oInt .u8 e1).bind fun n2=>(bif decide (((((a0_0).length / 1):Nat):Int)=0) then none else (bif (decide (a1 > (200:Int))) then (bif decide (((((a0_0).length / 1):Nat):Int)=0) then none else (bif inB (Int.tmod (IntKind.wrap .i64 ((IntKind.wrap .i64 ((IntKind.wrap .i64 (a0_1+(1:Int))) - (1:Int)))+(1:Int))) ((((a0_0).length / 1):Nat):Int)) ((a0_0).length / 1) then ((a0_0[((Int.toNat (Int.tmod (IntKind.wrap .i64 ((IntKind.wrap .i64 ((IntKind.wrap .i64 (a0_1+(1:Int))) - (1:Int)))+(1:Int))) ((((a0_0).length / 1):Nat):Int)))*1)]?).bind fun e3=>((oInt .u8 e3).bind fun n4=>(bif decide (a1=0) then none else some ((.int .i64 (Int.tmod (IntKind.wrap .i64 ((IntKind.wrap .i64 ((IntKind.wrap .i64 ((IntKind.wrap .i64 ((IntKind.wrap .i64 n2)+(IntKind.wrap .i64 ((IntKind.wrap .i64 (Int.tdiv (IntKind.wrap .i64 ((IntKind.wrap .i64 (a0_1+(1:Int))) - (1:Int))) ((((a0_0).length / 1):Nat):Int)))*(37:Int)))))*(251:Int)))+(IntKind.wrap .i64 ((IntKind.wrap .i64 n4)*(13:Int)))))+(IntKind.wrap .i64 ((IntKind.wrap .i64 (a0_1+(1:Int))) - (1:Int))))) a1)),[(.agg [(.sl 1 a0_0),(.int .i64 (IntKind.wrap .i64 (a0_1+(1:Int))))])])))) else none)) else (bif decide (a1=0) then none else some ((.int .i64 (Int.tmod (IntKind.wrap .i64 ((IntKind.wrap .i64 n2)+(IntKind.wrap .i64 ((IntKind.wrap .i64 (Int.tdiv (IntKind.wrap .i64 ((IntKind.wrap .i64 (a0_1+(1:Int))) - (1:Int))) ((((a0_0).length / 1):Nat):Int)))*(37:Int))))) a1)),[(.agg [(.sl 1 a0_0),(.int .i64 (IntKind.wrap .i64 (a0_1+(1:Int))))])])))))) else none)))):=by kernel_rfl
theorem spec_l1Pick.ev (n:Nat) (a0_0:List T) (a0_1:Int) (a1:List T):callK prog A H LIM n F.spec_l1Pick [(.rref [(.sl 1 a0_0),(.int .i64 a0_1)] 0),(.sl 1 a1)]=((LIM F.spec_l1Next [(.rref [(.sl 1 a0_0),(.int .i64 a0_1)] 0),(.int .i64 ((((a1).length / 1):Nat):Int))]).bind fun r1=>((oCons r1.2).bind fun p2=>((oNil p2.2).bind fun _=>((oAgg p2.1).bind fun c3=>((oCons c3).bind fun p4=>((oSl 1 p4.1).bind fun c5=>((oCons p4.2).bind fun p6=>((oInt .i64 p6.1).bind fun n7=>((oNil p6.2).bind fun _=>((oInt .i64 r1.1).bind fun n8=>(bif inB n8 ((a1).length / 1) then ((a1[((Int.toNat n8)*1)]?).bind fun e9=>((oInt .i64 e9).bind fun n10=>some ((.int .i64 n10),[(.agg [(.sl 1 a0_0),(.int .i64 n7)])]))) else none))))))))))):=by kernel_rfl
def spec_l1Some.st0 (x0:Int) (x1:List T) (x2:Int) (x3:List T):St:=⟨[(0,(.one (.ptr 1000000 0))),(1,oi x0),(5,(.one (.obj 384)))],[(1000000,(.box [(.kept 0 (.sl 1 x1)),(.t (.int .i64 x2))])),(384,(.arr true true 1 x3))]⟩
noncomputable def spec_l1Some.K0 (n:Nat):Ex→St→R:=kx F.spec_l1Some n [.block 0,.seq 0 (cx F.spec_l1Some [1,1,1])] (endOf prog A F.spec_l1Some)
noncomputable def spec_l1Some.at0 (n:Nat) (m:Nat) (s:St):R:=lx F.spec_l1Some n 0 [1,1,0,0,0] (spec_l1Some.K0 n) m s
noncomputable def spec_l1Some.rd0 (n:Nat) (L0:St→R) (s:St):R:=rx F.spec_l1Some n 0 [1,1,0,0,0] (spec_l1Some.K0 n) L0 s
theorem spec_l1Some.next0 (n:Nat) (m:Nat) (s:St):spec_l1Some.at0 n (m+1) s=spec_l1Some.rd0 n (spec_l1Some.at0 n m) s:=nx _ _ _ _ _ _ _
theorem spec_l1Some.round0 (n:Nat) (L0:St→R) (x0:Int) (x1:List T) (x2:Int) (x3:List T):spec_l1Some.rd0 n L0 (spec_l1Some.st0 x0 x1 x2 x3)=(bif (decide (x0 > (0:Int))) then ((LIM F.spec_l1Next [(.rref [(.sl 1 x1),(.int .i64 x2)] 0),(.int .i64 (256:Int))]).bind fun r1=>((oCons r1.2).bind fun p2=>((oNil p2.2).bind fun _=>((oAgg p2.1).bind fun c3=>((oCons c3).bind fun p4=>((oSl 1 p4.1).bind fun c5=>((oCons p4.2).bind fun p6=>((oInt .i64 p6.1).bind fun n7=>((oNil p6.2).bind fun _=>((oInt .i64 r1.1).bind fun n8=>(bif Nat.ble (((x3).length+1)*1) (140737488355328*1) then (L0 (spec_l1Some.st0 (IntKind.wrap .i64 (x0 - (1:Int))) x1 n7 (x3++[(.int .u8 (IntKind.wrap .u8 n8))]:List T))) else none))))))))))) else some ((.sl 1 x3),[(.agg [(.sl 1 x1),(.int .i64 x2)])])):=by kernel_rfl
theorem spec_l1Some.ev (n:Nat) (a0_0:List T) (a0_1 a1:Int):callK prog A H LIM n F.spec_l1Some [(.rref [(.sl 1 a0_0),(.int .i64 a0_1)] 0),(.int .i64 a1)]=(spec_l1Some.at0 n n (spec_l1Some.st0 a1 a0_0 a0_1 [])):=by kernel_rfl
theorem spec_l1Source.ev (n:Nat) (a0:List T):callK prog A H LIM n F.spec_l1Source [(.sl 1 a0)]=some ((.bx [(.sl 1 a0),(.int .i64 (0:Int))]),[]):=by kernel_rfl
end Ev
end
section
end
section
namespace Ev.Ty
open Go Ev
open Enc (enc)
open Sm (sm)
set_option linter.unusedVariables false
theorem call2_of {g:FuncId} {args:List T} {r:T × List T} (hx:X g=none) (n:Nat) (h:callK prog A H LIM n g args=some r):LIM g args=some r:=lim_of hx n h
theorem cells_le {α:Type} [Enc α] {l:List α} {a:Nat}:(a≤(cells l).length)=(a≤l.length*Enc.sz α):=by rw [cells_length]
theorem set_same {α:Type} {o:List α} {i:Nat} {x:α} (h:o[i]?=some x):o.set i x=o:=by
 refine List.ext_getElem? fun j => ?_
 rw [List.getElem?_set]
 split
 · rename_i e; subst e
   have:=(List.getElem?_eq_some_iff.1 h).1
   rw [if_pos this,h]
 · rfl
theorem u8_wrap (c:Int):IntKind.wrap .u8 c=((UInt8.ofNat (IntKind.wrap .u8 c).toNat).toNat:Int):=by
 have:0≤IntKind.wrap .u8 c∧IntKind.wrap .u8 c < 256:=by
  unfold IntKind.wrap
  simp [IntKind.signed,IntKind.bits]
  omega
 rw [UInt8.toNat_ofNat']
 omega
theorem fset_gen {α:Type} [Enc α] {o:List α} {i n j:Nat} {x x':α} {c:T} (hn:Enc.sz α=n) (hi:i < o.length) (hj:j < n)
 (he:(enc x).set j c=enc x'):setCells (cells (o.set i x)) (i*n+j) [c]=cells (o.set i x'):=by
 subst hn
 rw [← cells_set o _ i rfl x hi,← cells_set o _ i rfl x' hi,← he]
 have hle:i*Enc.sz α+Enc.sz α≤o.length*Enc.sz α:=by
  rw [← Nat.succ_mul]; exact Nat.mul_le_mul_right _ hi
 have hl:=cells_length o
 refine List.ext_getElem? fun q => ?_
 have hlen:(setCells (cells o) (i*Enc.sz α) (enc x)).length=(cells o).length:=setCells_len _ _ _
 have l1:(enc x).length=Enc.sz α:=Enc.len x
 have l2:((enc x).set j c).length=Enc.sz α:=by rw [List.length_set]; exact l1
 rw [setCells_get [c] _ _ _ (by rw [hlen,List.length_singleton]; omega),setCells_get (enc x) _ _ _ (by omega),setCells_get ((enc x).set j c) _ _ _ (by omega),l1,l2,List.length_singleton]
 by_cases hq:i*Enc.sz α+j=q
 · subst hq
   rw [if_pos ⟨by omega,by omega⟩,if_pos ⟨by omega,by omega⟩,List.getElem?_set,if_pos (by omega),if_pos (by omega)]
   simp
 · rw [if_neg (by omega)]
   split
   · rw [List.getElem?_set,if_neg (by omega)]
   · rfl
theorem fsets_gen {α:Type} [Enc α] {o:List α} {i n j:Nat} {x x':α} {c:T} (hn:Enc.sz α=n) (hi:i < o.length) (hj:j < n)
 (he:(enc x).set j c=enc x'):List.set (cells (o.set i x)) (i*n+j) c=cells (o.set i x'):=by
 rw [← fset_gen hn hi hj he]
 have hle:i*n+n≤o.length*n:=by
  rw [← Nat.succ_mul]; exact Nat.mul_le_mul_right _ hi
 refine List.ext_getElem? fun q => ?_
 have hl:(cells (o.set i x)).length=o.length*n:=by rw [cells_length,List.length_set,hn]
 rw [setCells_get _ _ _ _ (by simp; omega),List.getElem?_set,List.length_singleton]
 by_cases hq:i*n+j=q
 · subst hq
   rw [if_pos rfl,if_pos (by omega),if_pos ⟨by omega,by omega⟩]; simp
 · rw [if_neg hq,if_neg (by omega)]
theorem fsets_List {α:Type} [Enc α] {o:List (List α)} {i:Nat} (hi:i < o.length) {x w:List α}:List.set (cells (o.set i x)) (i*1) (slc w)=cells (o.set i w):=fsets_gen (n:=1) (j:=0) rfl hi (by decide) rfl
end Ev.Ty
end
section
namespace Ev.Ty
open Go Ev
open Enc (enc)
open Sm (sm)
set_option linter.unusedSimpArgs false
set_option linter.unusedVariables false
def Drawn (code:List UInt8) (p c:Int) (P:T→Prop) (r:R):Prop:=∃ x p',r=some (x,[.agg [slc code,.int .i64 p']])∧p≤p'∧p'≤p+c∧P x
theorem drawn_of {code:List UInt8} {p c:Int} {P:T→Prop} {g:FuncId} {args:List T} (hx:X g=none) (n:Nat) (h:Drawn code p c P (callK prog A H LIM n g args)):Drawn code p c P (LIM g args):=by
 obtain ⟨x,p',e,h⟩:=h
 exact ⟨x,p',lim_of hx n e,h⟩
theorem Drawn.more {code:List UInt8} {p p1 c c1:Int} {P P1:T→Prop} {r:R} (h:Drawn code p1 c1 P1 r) (h1:p≤p1) (h2:p1+c1≤p+c) (hP:∀ x,P1 x→P x):Drawn code p c P r:=by
 obtain ⟨x,p',e,a,b,q⟩:=h
 exact ⟨x,p',e,by omega,by omega,hP x q⟩
theorem drawn_end {code:List UInt8} {p p' c:Int} {P:T→Prop} {x:T} (h1:p≤p'∧p'≤p+c) (h:P x):Drawn code p c P (some (x,[.agg [slc code,.int .i64 p']])):=⟨x,p',rfl,h1.1,h1.2,h⟩
theorem drawn_s {Q:R→Prop} {code:List UInt8} {p c:Int} {P:T→Prop} {r:R} {K:T × List T→R} (h:Drawn code p c P r)
 (k:∀ x p',p≤p'→p'≤p+c→P x→Q (K (x,[.agg [slc code,.int .i64 p']]))):Q (r.bind K):=by
 obtain ⟨x,p',rfl,a,b,q⟩:=h
 exact k x p' a b q
theorem draw_loop {σ:Type} {S:Nat→σ→R} {Q:R→Prop} (I:σ→Prop) (μ:σ→Nat) (step:∀ m s,I s→Q (S (m+1) s)∨∃ s',S (m+1) s=S m s'∧I s'∧μ s' < μ s):∀ f s,I s→μ s < f→Q (S f s):=by
 intro f
 induction f with
 | zero=>intro s _ h; omega
 | succ f ih =>
   intro s hi hm
   rcases step f s hi with h | ⟨s',e,hi',hm'⟩
   · exact h
   · rw [e]; exact ih s' hi' (by omega)
@[simp] theorem oBx_bx (c:List T):oBx (.bx c)=some c:=Eq.trans rfl rfl
theorem tmod_nn {a b:Int} (ha:0≤a) (hb:0 < b):0≤Int.tmod a b∧Int.tmod a b < b:=⟨Int.tmod_nonneg b ha,Int.tmod_lt_of_pos a hb⟩
abbrev src (code:List UInt8) (p:Int):T := .rref [slc code,.int .i64 p] 0
theorem u8_bound (b:UInt8):(0:Int)≤(b.toNat:Int)∧(b.toNat:Int) < 256:=⟨by omega,by have:=b.toNat_lt; omega⟩
section
variable {code:List UInt8} (hc:code.length≤2097152)
include hc
theorem at_idx {p:Int} (hp:0≤p) (hl:0 < code.length):∃ i:Nat,Int.tmod p (code.length:Int)=i∧i < code.length:=by
 obtain ⟨h1,h2⟩:=tmod_nn hp (show (0:Int) < (code.length:Int) by omega)
 exact ⟨(Int.tmod p (code.length:Int)).toNat,by omega,by omega⟩
theorem spec_l1Next (p n:Int) (hp:0≤p∧p≤1099511627776) :
 ∃ v:Int,LIM F.spec_l1Next [.rref [slc code,.int .i64 p] 0,.int .i64 n]=some (.int .i64 v,[.agg [slc code,.int .i64 (p+1)]])∧0≤v∧(1≤n→v < n):=by
 have e1:IntKind.wrap .i64 (p+1)=p+1:=wrap64 (by omega)
 have e2:IntKind.wrap .i64 (p+1 - 1)=p:=by rw [wrap64 (by omega)]; omega
 by_cases hn:n < 1
 · refine ⟨0,call2_of rfl 0 ((spec_l1Next.ev _ _ _ _).trans ?_),by omega,by omega⟩
   simp only [evz,Nat.reduceLT,hn,e1]
 rw [Int.not_lt] at hn
 have hn0:¬ n=0:=by omega
 by_cases hl:code.length=0
 · obtain ⟨q1,q2⟩:=tmod_nn (a:=p*7) (b:=n) (by omega) (by omega)
   refine ⟨Int.tmod (p*7) n,call2_of rfl 0 ((spec_l1Next.ev _ _ _ _).trans ?_),q1,fun _=>q2⟩
   have z:((code.length:Nat):Int)=0:=by omega
   have z1:¬ n < 1:=by omega
   simp only [evz,Nat.reduceLT,z1,z,hn0,e1,e2,wrap64 (x:=p*7) (by omega)]
 have z1:¬ n < 1:=by omega
 obtain ⟨i,hi,hil⟩:=at_idx hc hp.1 (by omega)
 obtain ⟨j,hj,hjl⟩:=at_idx (code:=code) hc (p:=p+1) (by omega) (by omega)
 have b1:=u8_bound code[i]
 have b2:=u8_bound code[j]
 have hd:0≤Int.tdiv p code.length∧Int.tdiv p code.length≤p:=⟨Int.tdiv_nonneg hp.1 (by omega),Int.tdiv_le_self _ hp.1⟩
 have d1:¬ ((code.length:Nat):Int)=0:=by omega
 generalize hk:Int.tdiv p code.length=d at hd
 have w1:IntKind.wrap .i64 d=d:=wrap64 (by omega)
 have w2:IntKind.wrap .i64 (d*37)=d*37:=wrap64 (by omega)
 have w3:IntKind.wrap .i64 (code[i].toNat:Int)=(code[i].toNat:Int):=wrap64 (by omega)
 have w4:IntKind.wrap .i64 (code[j].toNat:Int)=(code[j].toNat:Int):=wrap64 (by omega)
 have w5:IntKind.wrap .i64 ((code[i].toNat:Int)+d*37)=(code[i].toNat:Int)+d*37:=wrap64 (by omega)
 have w6:IntKind.wrap .i64 (((code[i].toNat:Int)+d*37)*251)=((code[i].toNat:Int)+d*37)*251:=wrap64 (by omega)
 have w7:IntKind.wrap .i64 ((code[j].toNat:Int)*13)=(code[j].toNat:Int)*13:=wrap64 (by omega)
 have w8:IntKind.wrap .i64 (((code[i].toNat:Int)+d*37)*251+(code[j].toNat:Int)*13)=((code[i].toNat:Int)+d*37)*251+(code[j].toNat:Int)*13:=wrap64 (by omega)
 have w9:IntKind.wrap .i64 (((code[i].toNat:Int)+d*37)*251+(code[j].toNat:Int)*13+p)=((code[i].toNat:Int)+d*37)*251+(code[j].toNat:Int)*13+p:=wrap64 (by omega)
 by_cases hbig:n > 200
 · obtain ⟨q1,q2⟩:=tmod_nn (a:=((code[i].toNat:Int)+d*37)*251+(code[j].toNat:Int)*13+p) (b:=n) (by omega) (by omega)
   refine ⟨_,call2_of rfl 0 ((spec_l1Next.ev _ _ _ _).trans ?_),q1,fun _=>q2⟩
   simp only [evz,Nat.reduceLT,z1,d1,hn0,e1,e2,hi,hil,hj,hjl,List.getElem?_eq_getElem,enc_u8,hbig,hk,w1,w2,w3,w4,w5,w6,w7,w8,w9]
 · obtain ⟨q1,q2⟩:=tmod_nn (a:=(code[i].toNat:Int)+d*37) (b:=n) (by omega) (by omega)
   refine ⟨_,call2_of rfl 0 ((spec_l1Next.ev _ _ _ _).trans ?_),q1,fun _=>q2⟩
   simp only [evz,Nat.reduceLT,z1,d1,hn0,e1,e2,hi,hil,hj,hjl,List.getElem?_eq_getElem,enc_u8,hbig,hk,w1,w2,w3,w4,w5,w6,w7,w8,w9]
theorem next_s {Q:R→Prop} {p n:Int} {K:T × List T→R} (hp:0≤p∧p≤1099511627776) (k:∀ v:Int,0≤v→(1≤n→v < n)→Q (K (.int .i64 v,[.agg [slc code,.int .i64 (p+1)]]))) :
 Q ((LIM F.spec_l1Next [.rref [slc code,.int .i64 p] 0,.int .i64 n]).bind K):=by
 obtain ⟨v,e,h1,h2⟩:=spec_l1Next hc p n hp
 rw [e]; exact k v h1 h2
theorem spec_l1Chance (p n:Int) (hp:0≤p∧p≤1099511627776):∃ b:Bool,LIM F.spec_l1Chance [.rref [slc code,.int .i64 p] 0,.int .i64 n]=some (.bool b,[.agg [slc code,.int .i64 (p+1)]]):=by
 obtain ⟨v,e,_⟩:=spec_l1Next hc p n hp
 exact ⟨decide (v=0),call2_of rfl 0 ((spec_l1Chance.ev _ _ _ _).trans (by simp only [evz,Nat.reduceLT,e]))⟩
theorem chance_s {Q:R→Prop} {p n:Int} {K:T × List T→R} (hp:0≤p∧p≤1099511627776) (k:∀ b:Bool,Q (K (.bool b,[.agg [slc code,.int .i64 (p+1)]]))) :
 Q ((LIM F.spec_l1Chance [.rref [slc code,.int .i64 p] 0,.int .i64 n]).bind K):=by
 obtain ⟨b,e⟩:=spec_l1Chance hc p n hp
 rw [e]; exact k b
theorem spec_l1Pick (p:Int) (l:List Int) {ts:List T} (hts:cells l=ts) (hl:l≠[]) (hp:0≤p∧p≤1099511627776) :
 ∃ v∈l,LIM F.spec_l1Pick [.rref [slc code,.int .i64 p] 0,.sl 1 ts]=some (.int .i64 v,[.agg [slc code,.int .i64 (p+1)]]):=by
 subst hts
 have h0:0 < l.length:=List.length_pos_iff.2 hl
 have hd:(cells l).length / 1=l.length:=cells_div rfl
 obtain ⟨v,e,h1,h2⟩:=spec_l1Next hc p (l.length:Int) hp
 obtain ⟨i,rfl⟩:∃ i:Nat,v=i:=⟨v.toNat,by omega⟩
 have hi:i < l.length:=by have:=h2 (by omega); omega
 refine ⟨l[i],List.getElem_mem hi,call2_of rfl 0 ((spec_l1Pick.ev _ _ _ _).trans ?_)⟩
 simp only [evz,Nat.reduceLT,e,hi,List.getElem?_eq_getElem,enc_int]
theorem pick_s {Q:R→Prop} {p:Int} (l:List Int) {ts:List T} {K:T × List T→R} (hts:cells l=ts) (hl:l≠[]) (hp:0≤p∧p≤1099511627776) (k:∀ v:Int,v∈l→Q (K (.int .i64 v,[.agg [slc code,.int .i64 (p+1)]]))) :
 Q ((LIM F.spec_l1Pick [.rref [slc code,.int .i64 p] 0,.sl 1 ts]).bind K):=by
 obtain ⟨v,hv,e⟩:=spec_l1Pick hc p l hts hl hp
 rw [e]; exact k v hv
theorem spec_l1Some (p n:Int) (hn:n≤1048576) (hp:0≤p∧p≤1099510000000):Drawn code p 1048576 (fun x=>∃ l:List UInt8,x=slc l∧(l.length:Int)≤max n 0) (LIM F.spec_l1Some [.rref [slc code,.int .i64 p] 0,.int .i64 n]):=by
 refine drawn_of rfl (n.toNat+1) ?_
 rw [show callK prog A H LIM (n.toNat+1) F.spec_l1Some [.rref [slc code,.int .i64 p] 0,.int .i64 n]=_ from spec_l1Some.ev _ _ _ _]
 refine draw_loop (σ:=Int × Int × List UInt8) (S:=fun m s=>spec_l1Some.at0 (n.toNat+1) m (spec_l1Some.st0 s.1 (cells code) s.2.1 (cells s.2.2))) (fun s=>s.1≤max n 0∧s.2.1=p+(s.2.2.length:Int)∧(s.2.2.length:Int)+max s.1 0≤max n 0) (fun s=>s.1.toNat) (fun m s hs => ?_) _ (n,p,[]) ⟨by omega,by simp,by simp⟩ (by simp)
 obtain ⟨a,q,l⟩:=s
 obtain ⟨h1,h2,h3⟩:=hs
 simp only at h1 h2 h3 ⊢
 by_cases ha:a > 0
 · right
   obtain ⟨v,e,v1,v2⟩:=spec_l1Next hc q 256 (by omega)
   obtain ⟨b,hb⟩:∃ b:UInt8,IntKind.wrap .u8 v=(b.toNat:Int):=⟨_,u8_wrap v⟩
   refine ⟨(a - 1,q+1,l++[b]),?_,⟨by simp only; omega,by simp only [List.length_append,List.length_singleton]; omega,by simp only [List.length_append,List.length_singleton]; omega⟩,by simp only; omega⟩
   simp only [spec_l1Some.next0,spec_l1Some.round0,evz,Nat.reduceLT,ha,e]
   rw [cond_pos (ble_ok (by rw [cells_length]; simp only [sz_u8]; omega)),wrap64 (x:=a - 1) (by omega),hb,cells_snoc_u8]
 · left
   simp only [spec_l1Some.next0,spec_l1Some.round0,evz,Nat.reduceLT,ha]
   exact drawn_end (by omega) ⟨l,rfl,by omega⟩
theorem laws_lwAt (i n:Int) (hi:0≤i∧i≤1099511627776):∃ v:Int,Call F.laws_lwAt [slc code,.int .i64 i,.int .i64 n] (.int .i64 v)∧0≤v∧(1≤n→v < n):=by
 by_cases hn:n≤1
 · exact ⟨0,call_of rfl 0 ((laws_lwAt.ev _ _ _ _).trans (by simp only [evz,Nat.reduceLT,hn])),by omega,by omega⟩
 have hn0:¬ n=0:=by omega
 by_cases hl:code.length=0
 · obtain ⟨q1,q2⟩:=tmod_nn (a:=i*7) (b:=n) (by omega) (by omega)
   have z:((code.length:Nat):Int)=0:=by omega
   exact ⟨Int.tmod (i*7) n,call_of rfl 0 ((laws_lwAt.ev _ _ _ _).trans (by simp only [evz,Nat.reduceLT,hn,z,hn0,wrap64 (x:=i*7) (by omega)])),q1,fun _=>q2⟩
 obtain ⟨a,ha,hal⟩:=at_idx hc hi.1 (by omega)
 obtain ⟨j,hj,hjl⟩:=at_idx (code:=code) hc (p:=i+1) (by omega) (by omega)
 have b1:=u8_bound code[a]
 have b2:=u8_bound code[j]
 have hd:0≤Int.tdiv i code.length∧Int.tdiv i code.length≤i:=⟨Int.tdiv_nonneg hi.1 (by omega),Int.tdiv_le_self _ hi.1⟩
 have d1:¬ ((code.length:Nat):Int)=0:=by omega
 generalize hk:Int.tdiv i code.length=d at hd
 have e1:IntKind.wrap .i64 (i+1)=i+1:=wrap64 (by omega)
 have w1:IntKind.wrap .i64 d=d:=wrap64 (by omega)
 have w2:IntKind.wrap .i64 (d*3)=d*3:=wrap64 (by omega)
 have w3:IntKind.wrap .i64 (code[a].toNat:Int)=(code[a].toNat:Int):=wrap64 (by omega)
 have w4:IntKind.wrap .i64 (code[j].toNat:Int)=(code[j].toNat:Int):=wrap64 (by omega)
 have w5:IntKind.wrap .i64 ((code[a].toNat:Int)+d*3)=(code[a].toNat:Int)+d*3:=wrap64 (by omega)
 have w6:IntKind.wrap .i64 (((code[a].toNat:Int)+d*3)*251)=((code[a].toNat:Int)+d*3)*251:=wrap64 (by omega)
 have w7:IntKind.wrap .i64 (((code[a].toNat:Int)+d*3)*251+(code[j].toNat:Int))=((code[a].toNat:Int)+d*3)*251+(code[j].toNat:Int):=wrap64 (by omega)
 by_cases hbig:n > 200
 · obtain ⟨q1,q2⟩:=tmod_nn (a:=((code[a].toNat:Int)+d*3)*251+(code[j].toNat:Int)) (b:=n) (by omega) (by omega)
   exact ⟨_,call_of rfl 0 ((laws_lwAt.ev _ _ _ _).trans (by simp only [evz,Nat.reduceLT,hn,d1,hn0,e1,ha,hal,hj,hjl,List.getElem?_eq_getElem,enc_u8,hbig,hk,w1,w2,w3,w4,w5,w6,w7])),q1,fun _=>q2⟩
 · obtain ⟨q1,q2⟩:=tmod_nn (a:=(code[a].toNat:Int)+d*3) (b:=n) (by omega) (by omega)
   exact ⟨_,call_of rfl 0 ((laws_lwAt.ev _ _ _ _).trans (by simp only [evz,Nat.reduceLT,hn,d1,hn0,e1,ha,hal,hj,hjl,List.getElem?_eq_getElem,enc_u8,hbig,hk,w1,w2,w3,w5])),q1,fun _=>q2⟩
omit hc in
theorem laws_lwBig:Call F.laws_lwBig [slc code] (.bool (decide ((code.length:Int) > 1048576))):=call_of rfl 0 ((laws_lwBig.ev _ _).trans (by simp only [evz,Nat.reduceLT]))
omit hc in
theorem spec_l1Source:LIM F.spec_l1Source [slc code]=some (.bx [slc code,.int .i64 0],[]):=call2_of rfl 0 (spec_l1Source.ev _ _)
end
theorem laws_lwBytes (a b:List UInt8):Call F.laws_lwBytes [slc a,slc b] (.bool (decide (a=b))):=by
 refine call_of rfl 0 ((laws_lwBytes.ev _ _ _).trans ?_)
 simp only [bytesOf_cells,bind_of,oStr_str,beq_dec,bytes_inj]
end Ev.Ty
end
section
namespace Ev.Ty
open Go Ev
end Ev.Ty
end
section
namespace Ev.Ty
open Go Ev
open Enc (enc)
open Sm (sm)
set_option linter.unusedVariables false
set_option linter.unusedSimpArgs false
end Ev.Ty
end
section
namespace Ev.Ty
open Go Ev
open Enc (enc)
open Sm (sm)
set_option linter.unusedSimpArgs false
def inR (n a b:Int):Bool:=decide (a≤n∧n≤b)
theorem impl_within (n a b:Int):Call F.impl_within [.int .i64 n,.int .i64 a,.int .i64 b] (.bool (inR n a b)):=by
 refine call_of rfl 0 ((impl_within.ev _ _ _ _).trans ?_)
 simp only [evz,Nat.reduceLT,inR,ge_iff_le]
 by_cases h:a≤n <;> simp [h]
theorem spec_l1In (n a b:Int):Call F.spec_l1In [.int .i64 n,.int .i64 a,.int .i64 b] (.bool (inR n a b)):=by
 refine call_of rfl 0 ((spec_l1In.ev _ _ _ _).trans ?_)
 simp only [evz,Nat.reduceLT,inR,ge_iff_le]
 by_cases h:a≤n <;> simp [h]
def twice {β:Type} [DecidableEq β] (l:List β):Bool := !decide l.Nodup
theorem twice_iff {β:Type} [DecidableEq β] (l:List β):twice l=true↔∃ i j,j < i∧∃ (h:i < l.length) (h':j < l.length),l[i]=l[j]:=by
 unfold twice
 rw [Bool.not_eq_true',decide_eq_false_iff_not,List.Nodup,List.pairwise_iff_getElem]
 constructor
 · intro h
   simp only [Classical.not_forall] at h
   obtain ⟨i,j,h1,h2,h3,h4⟩:=h
   simp only [ne_eq,Classical.not_not] at h4
   exact ⟨j,i,h3,h2,h1,h4.symm⟩
 · rintro ⟨i,j,h1,h2,h3,h4⟩ h
   exact h j i h3 h2 h1 h4.symm
theorem twice_first {α β:Type} [DecidableEq β] (f:α→β) (l:List α):((List.range l.length).any fun k=>l[k]?.any fun x=>decide (idx (fun y=>decide (f y=f x)) l≠(k:Nat)))=twice (l.map f):=by
 rw [Bool.eq_iff_iff,twice_iff]
 simp only [List.any_eq_true,List.mem_range,List.length_map,List.getElem_map]
 constructor
 · rintro ⟨k,hk,h⟩
   rw [List.getElem?_eq_getElem hk,Option.any_some] at h
   simp only [decide_eq_true_eq] at h
   rcases idx_spec (fun y=>decide (f y=f l[k])) l with ⟨_,h1⟩ | ⟨i,hi,h1,h2,h3⟩
   · have:=h1 l[k] (List.getElem_mem hk)
     simp at this
   · rw [h1] at h
     simp only [decide_eq_true_eq] at h2
     rcases Nat.lt_trichotomy i k with hlt | heq | hgt
     · exact ⟨k,i,hlt,hk,hi,h2.symm⟩
     · subst heq; simp at h
     · have:=h3 k hgt
       simp at this
 · rintro ⟨i,j,hji,hi,hj,he⟩
   refine ⟨i,hi,?_⟩
   rw [List.getElem?_eq_getElem hi,Option.any_some]
   simp only [decide_eq_true_eq]
   rcases idx_spec (fun y=>decide (f y=f l[i])) l with ⟨h0,_⟩ | ⟨k,hk,h1,h2,h3⟩
   · rw [h0]; omega
   · rw [h1]
     intro hk'
     have:k=i:=by omega
     subst this
     have:=h3 j hji
     simp [he] at this
theorem twice_pairs {α β:Type} [DecidableEq β] (f:α→β) (l:List α):((List.range l.length).any fun i=>(List.range i).any fun j=>l[i]?.any fun x=>l[j]?.any fun y=>decide (f x=f y))=twice (l.map f):=by
 rw [Bool.eq_iff_iff,twice_iff]
 simp only [List.any_eq_true,List.mem_range,List.length_map,List.getElem_map]
 constructor
 · rintro ⟨i,hi,j,hj,h⟩
   rw [List.getElem?_eq_getElem hi,List.getElem?_eq_getElem (show j < l.length by omega)] at h
   exact ⟨i,j,hj,hi,by omega,by simpa using h⟩
 · rintro ⟨i,j,hji,hi,hj,he⟩
   refine ⟨i,hi,j,hji,?_⟩
   rw [List.getElem?_eq_getElem hi,List.getElem?_eq_getElem hj]
   simpa using he
end Ev.Ty
end
section
namespace Ev.Ty
open Go Ev
open Enc (enc)
open Sm (sm)
set_option linter.unusedSimpArgs false
theorem slices_IndexFunc_SSbyte_at1_impl_DiskFault_1 (l:List (List UInt8)) (hs:sm 4294967296 l):Call F.slices_IndexFunc_SSbyte [slc l,.clo F.impl_DiskFault_1 []] (.int .i64 (idx (fun x=>decide (x.length≠96)) l)):=by
 refine call_of rfl (l.length+1) ((slices_IndexFunc_SSbyte_at1_impl_DiskFault_1.ev _ _).trans ?_)
 refine idx_loop (S:=fun m k=>slices_IndexFunc_SSbyte_at1_impl_DiskFault_1.at0 (l.length+1) m (slices_IndexFunc_SSbyte_at1_impl_DiskFault_1.st0 (cells l) _ (k:Nat))) (fun m k h => ?_) (fun m => ?_) (Nat.lt_succ_self _)
 · have hlk:l[k]?=some l[k]:=List.getElem?_eq_getElem h
   have hc:Call F.impl_DiskFault_1 [slc l[k]] (.bool (decide (l[k].length≠96))):=by
    refine call_of rfl 0 ((impl_DiskFault_1.ev _ _).trans ?_)
    simp only [evz,Nat.reduceLT]
    congr 3
    rw [Bool.eq_iff_iff]; simp; omega
   simp only [slices_IndexFunc_SSbyte_at1_impl_DiskFault_1.next0,slices_IndexFunc_SSbyte_at1_impl_DiskFault_1.round0,evz,Nat.reduceLT,h,hlk,enc_list,hc.eq]
   rw [wrap_succ (by have:=hs.1; omega)]
   simp only [decide_eq_true_eq]
 · simp only [slices_IndexFunc_SSbyte_at1_impl_DiskFault_1.next0,slices_IndexFunc_SSbyte_at1_impl_DiskFault_1.round0,evz,Nat.reduceLT,Nat.lt_irrefl]
theorem slices_ContainsFunc_SSbyte_at1_impl_DiskFault_1 (l:List (List UInt8)) (hs:sm 4294967296 l):Call F.slices_ContainsFunc_SSbyte [slc l,.clo F.impl_DiskFault_1 []] (.bool (l.any fun x=>decide (x.length≠96))):=by
 refine call_of rfl 0 ((slices_ContainsFunc_SSbyte_at1_impl_DiskFault_1.ev _ _).trans ?_)
 simp only [evz,Nat.reduceLT,(slices_IndexFunc_SSbyte_at1_impl_DiskFault_1 l hs).eq,idx_nonneg]
theorem slices_IndexFunc_SPut_at1_impl_Disk_putFor_1 (l:List Put) (hs:sm 4294967296 l) (n:Int):Call F.slices_IndexFunc_SPut [slc l,.clo F.impl_Disk_putFor_1 [.rref [.int .i64 n] 0]] (.int .i64 (idx (fun x=>decide (x.sector=n)) l)):=by
 refine call_of rfl (l.length+1) ((slices_IndexFunc_SPut_at1_impl_Disk_putFor_1.ev _ _ _).trans ?_)
 refine idx_loop (S:=fun m k=>slices_IndexFunc_SPut_at1_impl_Disk_putFor_1.at0 (l.length+1) m (slices_IndexFunc_SPut_at1_impl_Disk_putFor_1.st0 (cells l) n _ (k:Nat))) (fun m k h => ?_) (fun m => ?_) (Nat.lt_succ_self _)
 · have hlk:l[k]?=some l[k]:=List.getElem?_eq_getElem h
   have hc:Call F.impl_Disk_putFor_1 [.agg [.int .i64 l[k].sector,slc l[k].bytes],.rref [.int .i64 n] 0] (.bool (decide (l[k].sector=n))):=by
    refine call_of rfl 0 ((impl_Disk_putFor_1.ev _ _ _ _).trans ?_)
    simp only [evz,Nat.reduceLT]
   simp only [slices_IndexFunc_SPut_at1_impl_Disk_putFor_1.next0,slices_IndexFunc_SPut_at1_impl_Disk_putFor_1.round0,evz,Nat.reduceLT,h,hlk,enc_Put,hc.eq]
   rw [wrap_succ (by have:=hs.1; omega)]
   simp only [decide_eq_true_eq]
 · simp only [slices_IndexFunc_SPut_at1_impl_Disk_putFor_1.next0,slices_IndexFunc_SPut_at1_impl_Disk_putFor_1.round0,evz,Nat.reduceLT,Nat.lt_irrefl]
theorem impl_Disk_putFor (s:List (List UInt8)) (l:List Put) (hs:sm 4294967296 l) (n:Int):Call F.impl_Disk_putFor [.agg [slc s,slc l],.int .i64 n] (.int .i64 (idx (fun x=>decide (x.sector=n)) l)):=by
 refine call_of rfl 0 ((impl_Disk_putFor.ev _ _ _ _).trans ?_)
 simp only [evz,Nat.reduceLT,(slices_IndexFunc_SPut_at1_impl_Disk_putFor_1 l hs n).eq]
theorem impl_Disk_has (s:List (List UInt8)) (l:List Put) (hs:sm 4294967296 s) (n:Int):Call F.impl_Disk_has [.agg [slc s,slc l],.int .i64 n] (.bool (inR n 0 (s.length - 1))):=by
 refine call_of rfl 0 ((impl_Disk_has.ev _ _ _ _).trans ?_)
 have hl:=hs.1
 simp only [evz,Nat.reduceLT,wrap64 (x:=(s.length:Int) - 1) (by omega),(impl_within _ _ _).eq]
def putFault (n:Nat) (p:Put):Option Int :=
 if inR p.sector 0 (n - 1)=false then some 3 else if p.bytes.length≠96 then some 1 else none
def diskFault (d:Disk):Int :=
 if inR d.sectors.length 8 64=false then 2
 else if d.sectors.any (fun x=>decide (x.length≠96)) then 1
 else if d.pending.length > d.sectors.length then 2
 else match d.pending.findSome? (putFault d.sectors.length) with
  | some c=>c
  | none=>if twice (d.pending.map (·.sector)) then 6 else 0
theorem impl_DiskFault (s:List (List UInt8)) (p:List Put) (hs:sm 4294967296 (Disk.mk s p)):Call F.impl_DiskFault [.agg [slc s,slc p]] (.int .i64 (diskFault ⟨s,p⟩)):=by
 have hp:p.length≤4294967296:=hs.2.1
 refine call_of rfl (p.length+1) ((impl_DiskFault.ev _ _ _).trans ?_)
 simp only [evz,Nat.reduceLT,(impl_within _ _ _).eq,diskFault]
 cases h1:inR s.length 8 64 with
 | false=>simp only [evz,Nat.reduceLT,if_true]
 | true =>
   simp only [evz,Nat.reduceLT,Bool.true_eq_false,if_false,(slices_ContainsFunc_SSbyte_at1_impl_DiskFault_1 s hs.1).eq]
   cases h2:s.any fun x=>decide (x.length≠96) with
   | true=>simp only [evz,Nat.reduceLT,if_true]
   | false =>
     simp only [evz,Nat.reduceLT,Bool.false_eq_true,if_false,gt_iff_lt]
     by_cases h3:s.length < p.length
     · simp only [h3,if_true]
     · simp only [h3,if_false]
       have two:=any_loop (n:=p.length) (bad:=fun k=>p[k]?.any fun x=>decide (idx (fun y=>decide (y.sector=x.sector)) p≠(k:Nat)))
        (S:=fun m k=>impl_DiskFault.at2 (p.length+1) m (impl_DiskFault.st2 (cells p) p.length (k:Nat) (cells s) (cells p))) (r:=some (.int .i64 6,[])) (z:=some (.int .i64 0,[]))
        (fun m k h=>by
         have hlk:p[k]?=some p[k]:=List.getElem?_eq_getElem h
         simp only [impl_DiskFault.next2,impl_DiskFault.round2,evz,Nat.reduceLT,h,hlk,enc_Put,(impl_Disk_putFor s p hs.2 _).eq]
         rw [wrap_succ (by omega)]
         by_cases e:idx (fun y=>decide (y.sector=p[k].sector)) p=(k:Int) <;> simp [e])
        (fun m=>by simp only [impl_DiskFault.next2,impl_DiskFault.round2,evz,Nat.reduceLT,Nat.lt_irrefl]) (Nat.lt_succ_self _)
       have one:=scan_loop (l:=p) (g:=fun x=>(putFault s.length x).map fun c=>some (.int .i64 c,[]))
        (S:=fun m k=>impl_DiskFault.at0 (p.length+1) m (impl_DiskFault.st0 (cells p) p.length (k:Nat) (cells s) (cells p)))
        (fun m k h=>by
         have hlk:p[k]?=some p[k]:=List.getElem?_eq_getElem h
         simp only [impl_DiskFault.next0,impl_DiskFault.round0,evz,Nat.reduceLT,h,hlk,enc_Put,(impl_Disk_has s p hs.1 _).eq]
         rw [wrap_succ (by omega)]
         cases h5:inR p[k].sector 0 (s.length - 1) with
         | false=>simp [putFault,h5]
         | true =>
           by_cases h6:p[k].bytes.length=96
           · simp [putFault,h5,h6]
           · have:¬ ((p[k].bytes.length:Int)=96):=by omega
             simp [putFault,h5,h6,this])
        (fun m=>by simp only [impl_DiskFault.next0,impl_DiskFault.round0,evz,Nat.reduceLT,Nat.lt_irrefl]; rfl) (Nat.lt_succ_self _)
       refine one.trans ?_
       rw [show impl_DiskFault.at2 (p.length+1) (p.length+1) (impl_DiskFault.st2 (cells p) p.length 0 (cells s) (cells p))=_ from two,twice_first (fun y:Put=>y.sector),findSome_map]
       cases p.findSome? (putFault s.length) with
       | some c=>rfl
       | none=>cases twice (p.map fun x=>x.sector) <;> rfl
theorem spec_DiskFault (s:List (List UInt8)) (p:List Put) (hs:sm 4294967296 (Disk.mk s p)):Call F.spec_DiskFault [.agg [slc s,slc p]] (.int .i64 (diskFault ⟨s,p⟩)):=by
 have hp:p.length≤4294967296:=hs.2.1
 have hl:s.length≤4294967296:=hs.1.1
 obtain ⟨n,hn⟩:∃ n,n=s.length+p.length+1:=⟨_,rfl⟩
 refine call_of rfl n ((spec_DiskFault.ev _ _ _).trans ?_)
 simp only [evz,Nat.reduceLT,(spec_l1In _ _ _).eq,diskFault]
 cases h1:inR s.length 8 64 with
 | false=>simp only [evz,Nat.reduceLT,if_true]
 | true =>
   simp only [evz,Nat.reduceLT,Bool.true_eq_false,if_false,gt_iff_lt]
   have four:=any_loop (n:=p.length) (bad:=fun i=>(List.range i).any fun j=>p[i]?.any fun x=>p[j]?.any fun y=>decide (x.sector=y.sector))
    (S:=fun m i=>spec_DiskFault.at4 n m (spec_DiskFault.st4 (i:Nat) (cells s) (cells p))) (r:=some (.int .i64 6,[])) (z:=some (.int .i64 0,[]))
    (fun m i h=>by
     have hlk:p[i]?=some p[i]:=List.getElem?_eq_getElem h
     simp only [spec_DiskFault.next4,spec_DiskFault.round4,evz,Nat.reduceLT,h]
     refine any_loop (n:=i) (f:=n) (bad:=fun j=>p[i]?.any fun x=>p[j]?.any fun y=>decide (x.sector=y.sector))
      (S:=fun m' j=>spec_DiskFault.at6 n (spec_DiskFault.at4 n m) m' (spec_DiskFault.st6 (i:Nat) (j:Nat) (cells s) (cells p))) (fun m' j hj => ?_) (fun m' => ?_) (by omega)
     · have hj':j < p.length:=by omega
       have hjk:p[j]?=some p[j]:=List.getElem?_eq_getElem hj'
       simp only [spec_DiskFault.next6,spec_DiskFault.round6,evz,Nat.reduceLT,h,hj,hj',hlk,hjk,enc_Put]
       rw [wrap_succ (by omega)]
       by_cases e:p[i].sector=p[j].sector <;> simp [e]
     · simp only [spec_DiskFault.next6,spec_DiskFault.round6,evz,Nat.reduceLT,Nat.lt_irrefl]
       rw [wrap_succ (by omega)])
    (fun m=>by simp only [spec_DiskFault.next4,spec_DiskFault.round4,evz,Nat.reduceLT,Nat.lt_irrefl]) (show p.length < n by omega)
   have two:=scan_loop (l:=p) (g:=fun x=>(putFault s.length x).map fun c=>some (.int .i64 c,[]))
    (S:=fun m k=>spec_DiskFault.at2 n m (spec_DiskFault.st2 s.length (k:Nat) (cells s) (cells p)))
    (fun m k h=>by
     have hlk:p[k]?=some p[k]:=List.getElem?_eq_getElem h
     simp only [spec_DiskFault.next2,spec_DiskFault.round2,evz,Nat.reduceLT,h,hlk,enc_Put,wrap64 (x:=(s.length:Int) - 1) (by omega),(spec_l1In _ _ _).eq]
     rw [wrap_succ (by omega)]
     cases h5:inR p[k].sector 0 (s.length - 1) with
     | false=>simp [putFault,h5]
     | true =>
       by_cases h6:p[k].bytes.length=96
       · simp [putFault,h5,h6]
       · have:¬ ((p[k].bytes.length:Int)=96):=by omega
         simp [putFault,h5,h6,this])
    (fun m=>by simp only [spec_DiskFault.next2,spec_DiskFault.round2,evz,Nat.reduceLT,Nat.lt_irrefl]; rfl) (show p.length < n by omega)
   have zero:=any_loopL (l:=s) (p:=fun x=>decide (x.length≠96)) (S:=fun m k=>spec_DiskFault.at0 n m (spec_DiskFault.st0 s.length (k:Nat) (cells s) (cells p))) (r:=some (.int .i64 1,[]))
    (fun m k h=>by
     have hlk:s[k]?=some s[k]:=List.getElem?_eq_getElem h
     simp only [spec_DiskFault.next0,spec_DiskFault.round0,evz,Nat.reduceLT,h,hlk,enc_list]
     rw [wrap_succ (by omega)]
     by_cases h6:s[k].length=96
     · simp [h6]
     · have:¬ ((s[k].length:Int)=96):=by omega
       simp [h6,this])
    (fun m=>by simp only [spec_DiskFault.next0,spec_DiskFault.round0,evz,Nat.reduceLT,Nat.lt_irrefl,gt_iff_lt]; rfl) (show s.length < n by omega)
   refine zero.trans ?_
   cases h2:s.any fun x=>decide (x.length≠96) with
   | true=>simp only [if_true]
   | false =>
     simp only [Bool.false_eq_true,if_false]
     by_cases h3:s.length < p.length
     · simp only [h3,if_true]
     · simp only [h3,if_false]
       refine two.trans ?_
       rw [show spec_DiskFault.at4 n n (spec_DiskFault.st4 0 (cells s) (cells p))=_ from four,findSome_map]
       cases p.findSome? (putFault s.length) with
       | some c=>rfl
       | none=>rw [twice_pairs fun x:Put=>x.sector]; cases twice (p.map fun x=>x.sector) <;> rfl
end Ev.Ty
end
section
namespace Ev.Ty
open Go Ev
open Enc (enc)
open Sm (sm)
set_option linter.unusedSimpArgs false
set_option linter.unusedVariables false
def zeroSector:List UInt8:=List.replicate 96 0
theorem inR8 {n a b:Int} (h:inR n a b=true):a≤n∧n≤b:=by unfold inR at h; simpa using h
theorem spec_l14New (n:Nat) (hn:n≤64):Call F.spec_l14New [.int .i64 n] (.agg [slc (List.replicate n zeroSector),slc ([]:List Put)]):=by
 refine call_of rfl (n+1) ((spec_l14New.ev _ _).trans ?_)
 refine run_loop (n:=n) (S:=fun m k o=>spec_l14New.at0 (n+1) m (spec_l14New.st0 n (k:Nat) (cells o))) (st:=fun k=>List.replicate k zeroSector) (fun m k h => ?_) (fun m => ?_) (by omega)
 · simp only [spec_l14New.next0,spec_l14New.round0,evz,Nat.reduceLT,h,cells_length,List.length_replicate]
   rw [wrap_succ (by omega),cond_pos (ble_ok (by omega)),List.replicate_succ',← cells_snoc_list]
   rfl
 · simp only [spec_l14New.next0,spec_l14New.round0,evz,Nat.reduceLT,Nat.lt_irrefl,slc_nil]
theorem slices_Clone_Sbyte (l:List UInt8) (h:l.length≤4294967296):Call F.slices_Clone_Sbyte [slc l] (slc l):=by
 refine lim_ext (e:=cloneFE 1 1) rfl (Ev.of fun m => ?_)
 show (bif Nat.beq 1 1&&(cells l).all T.scalar&&decide ((cells l).length / 1*1≤140737488355328)&&decide ((cells l).length / 1≤maxLen) then some (slc l,[]) else none)=_
 rw [cond_pos]
 have hl:(cells l).length=l.length:=by rw [cells_length]; simp
 rw [scalars_u8,hl]
 have h1:decide (l.length / 1*1≤140737488355328)=true:=by rw [decide_eq_true_iff]; omega
 have h2:decide (l.length / 1≤maxLen)=true:=by rw [decide_eq_true_iff]; unfold maxLen; omega
 rw [h1,h2]; rfl
theorem spec_l1Copy (l:List UInt8) (h:l.length≤4294967296):Call F.spec_l1Copy [slc l] (slc l):=by
 refine call_of rfl 0 ((spec_l1Copy.ev _ _).trans ?_)
 rw [scalars_u8,cond_pos rfl,cond_pos (ble_ok (by rw [cells_length]; simp; omega))]
 rfl
def diskRead (d:Disk) (n:Int):List UInt8:=if idx (fun x=>decide (x.sector=n)) d.pending ≥ 0 then (d.pending[(idx (fun x=>decide (x.sector=n)) d.pending).toNat]?).elim [] (·.bytes) else (d.sectors[n.toNat]?).getD []
def readSectorR (d:Disk) (n:Int):BytesResult:=if diskFault d=0 then if inR n 0 (d.sectors.length - 1)=true then ⟨0,diskRead d n⟩ else ⟨3,[]⟩ else ⟨diskFault d,[]⟩
theorem diskRead_sm {d:Disk} (hs:sm 1048576 d) (n:Int):(diskRead d n).length≤1048576:=by
 unfold diskRead
 split
 · cases h:d.pending[(idx (fun x=>decide (x.sector=n)) d.pending).toNat]? with
   | none=>simp
   | some p=>exact (hs.2.2 p (List.mem_of_getElem? h)).1
 · cases h:d.sectors[n.toNat]? with
   | none=>simp
   | some p=>exact (hs.1.2 p (List.mem_of_getElem? h)).1
theorem spec_l14Waits (s:List (List UInt8)) (l:List Put) (hs:l.length≤4294967296) (n:Int):Call F.spec_l14Waits [.rref [slc s,slc l] 0,.int .i64 n] (.int .i64 (idx (fun x=>decide (x.sector=n)) l)):=by
 refine call_of rfl (l.length+1) ((spec_l14Waits.ev _ _ _ _).trans ?_)
 refine idx_loop (S:=fun m k=>spec_l14Waits.at0 (l.length+1) m (spec_l14Waits.st0 (cells s) (cells l) n (k:Nat))) (fun m k h => ?_) (fun m => ?_) (Nat.lt_succ_self _)
 · have hlk:l[k]?=some l[k]:=List.getElem?_eq_getElem h
   simp only [spec_l14Waits.next0,spec_l14Waits.round0,evz,Nat.reduceLT,h,hlk,enc_Put,decide_eq_true_eq]
   rw [wrap_succ (by omega)]
 · simp only [spec_l14Waits.next0,spec_l14Waits.round0,evz,Nat.reduceLT,Nat.lt_irrefl]
theorem spec_l14Sector (s:List (List UInt8)) (l:List Put) (hs:s.length≤4294967296) (n:Int):Call F.spec_l14Sector [.rref [slc s,slc l] 0,.int .i64 n] (.bool (inR n 0 (s.length - 1))):=by
 refine call_of rfl 0 ((spec_l14Sector.ev _ _ _ _).trans ?_)
 simp only [evz,Nat.reduceLT,wrap64 (x:=(s.length:Int) - 1) (by omega),(spec_l1In _ _ _).eq]
theorem read_eq (s:List (List UInt8)) (l:List Put) (n:Int) (hn:0≤n∧n < s.length) :
 (bif (decide (idx (fun x=>decide (x.sector=n)) l ≥ (0:Int))) then (bif inB (idx (fun x=>decide (x.sector=n)) l) ((cells l).length / 2) then (((cells l)[(((Int.toNat (idx (fun x=>decide (x.sector=n)) l))*2)+1)]?).bind fun e3=>((oSl 1 e3).bind fun c4=>some ((T.sl 1 c4),([]:List T)))) else none) else (bif inB n ((cells s).length / 1) then (((cells s)[((Int.toNat n)*1)]?).bind fun e5=>((oSl 1 e5).bind fun c6=>some ((.sl 1 c6),[]))) else none))=some (slc (diskRead ⟨s,l⟩ n),[]):=by
 obtain ⟨k,rfl⟩:∃ k:Nat,n=k:=⟨n.toNat,by omega⟩
 have hk:k < s.length:=by omega
 unfold diskRead
 rcases idx_spec (fun x:Put=>decide (x.sector=(k:Int))) l with ⟨h,_⟩ | ⟨i,hi,h,_,_⟩
 · simp only [h,evz,Nat.reduceLT,hk,List.getElem?_eq_getElem,enc_list,ge_iff_le,Int.reduceLE,Option.getD_some]
 · have h0:((i:Nat):Int) ≥ 0:=by omega
   simp only [h,h0,evz,Nat.reduceLT,hi,List.getElem?_eq_getElem,enc_Put,Option.elim_some]
theorem impl_Disk_read (s:List (List UInt8)) (l:List Put) (hs:sm 4294967296 l) (n:Int) (hn:0≤n∧n < s.length):Call F.impl_Disk_read [.agg [slc s,slc l],.int .i64 n] (slc (diskRead ⟨s,l⟩ n)):=by
 refine call_of rfl 0 ((impl_Disk_read.ev _ _ _ _).trans ?_)
 rw [show LIM F.impl_Disk_putFor [.agg [.sl 1 (cells s),.sl 2 (cells l)],.int .i64 n]=some _ from (impl_Disk_putFor s l hs n).eq]
 exact read_eq s l n hn
theorem impl_ReadSector (d:Disk) (n:Int) (hs:sm 1048576 d):Call F.impl_ReadSector [.agg (enc d),.int .i64 n] (.agg (enc (readSectorR d n))):=by
 have h4:=sm_mono (show 1048576≤4294967296 by omega) hs
 have hr:=diskRead_sm hs n
 obtain ⟨s,l⟩:=d
 refine call_of rfl 0 ((impl_ReadSector.ev _ _ _ _).trans ?_)
 simp only [evz,Nat.reduceLT,(impl_DiskFault s l h4).eq,(impl_Disk_has s l h4.1 n).eq,readSectorR]
 by_cases h0:diskFault ⟨s,l⟩=0
 case neg=>simp only [h0,evz,Nat.reduceLT,enc_BytesResult,slc_nil]
 simp only [h0,evz,Nat.reduceLT]
 cases h1:inR n 0 (s.length - 1) with
 | false=>simp only [evz,Nat.reduceLT,enc_BytesResult,slc_nil,Bool.false_eq_true]
 | true =>
   have hz:=inR8 h1
   simp only [evz,Nat.reduceLT,enc_BytesResult,(impl_Disk_read s l h4.2 n (by omega)).eq,(slices_Clone_Sbyte _ (Nat.le_trans hr (by omega))).eq]
theorem bytes_Equal (l r:List UInt8):Call F.bytes_Equal [slc l,slc r] (.bool (decide (l=r))):=by
 refine call_of rfl 0 ((bytes_Equal.ev _ _ _).trans ?_)
 simp only [bytesOf_cells,bind_of,oStr_str,beq_dec,bytes_inj]
theorem slices_EqualFunc_SSbyte_at2_bytes_Equal (l r:List (List UInt8)) (hs:l.length≤4294967296):Call F.slices_EqualFunc_SSbyte [slc l,slc r,.clo F.bytes_Equal []] (.bool (decide (l=r))):=by
 refine call_of rfl (l.length+1) ((slices_EqualFunc_SSbyte_at2_bytes_Equal.ev _ _ _).trans ?_)
 simp only [cells_div,sz_list]
 by_cases hl:l.length=r.length
 · have loop:=eq_loop hl (S:=fun m k=>slices_EqualFunc_SSbyte_at2_bytes_Equal.at0 (l.length+1) m (slices_EqualFunc_SSbyte_at2_bytes_Equal.st0 (cells r) (cells l) l.length (k:Nat)))
    (fun m k h h'=>by
     have hlk:l[k]?=some l[k]:=List.getElem?_eq_getElem h
     have hrk:r[k]?=some r[k]:=List.getElem?_eq_getElem h'
     simp only [slices_EqualFunc_SSbyte_at2_bytes_Equal.next0,slices_EqualFunc_SSbyte_at2_bytes_Equal.round0,evz,Nat.reduceLT,h,h',hlk,hrk,enc_list,(bytes_Equal l[k] r[k]).eq]
     rw [wrap_succ (by omega)])
    (fun m=>by
     simp only [slices_EqualFunc_SSbyte_at2_bytes_Equal.next0,slices_EqualFunc_SSbyte_at2_bytes_Equal.round0,evz,Nat.reduceLT,Nat.lt_irrefl])
   rw [cond_neg (by rw [hl]; exact bne_self_eq_false _)]
   exact loop
 · rw [cond_pos (by simp; omega)]
   simp only [show (l=r)=False from eq_false fun e=>hl (e ▸ rfl),decide_false]
theorem impl_SameDisks_1 (a:Int) (l:List UInt8) (b:Int) (r:List UInt8):Call F.impl_SameDisks_1 [.agg [.int .i64 a,slc l],.agg [.int .i64 b,slc r]] (.bool (decide (Put.mk a l=Put.mk b r))):=by
 refine call_of rfl 0 ((impl_SameDisks_1.ev _ _ _ _ _).trans ?_)
 simp only [evz,Nat.reduceLT,(bytes_Equal l r).eq,Put.mk.injEq]
 by_cases h:a=b
 · simp only [h,evz,Nat.reduceLT,true_and]
 · simp only [h,evz,Nat.reduceLT,false_and]
theorem slices_EqualFunc_SPut_at2_impl_SameDisks_1 (l r:List Put) (hs:l.length≤4294967296):Call F.slices_EqualFunc_SPut [slc l,slc r,.clo F.impl_SameDisks_1 []] (.bool (decide (l=r))):=by
 refine call_of rfl (l.length+1) ((slices_EqualFunc_SPut_at2_impl_SameDisks_1.ev _ _ _).trans ?_)
 simp only [cells_div,sz_Put]
 by_cases hl:l.length=r.length
 · have loop:=eq_loop hl (S:=fun m k=>slices_EqualFunc_SPut_at2_impl_SameDisks_1.at0 (l.length+1) m (slices_EqualFunc_SPut_at2_impl_SameDisks_1.st0 (cells r) (cells l) l.length (k:Nat)))
    (fun m k h h'=>by
     have hlk:l[k]?=some l[k]:=List.getElem?_eq_getElem h
     have hrk:r[k]?=some r[k]:=List.getElem?_eq_getElem h'
     simp only [slices_EqualFunc_SPut_at2_impl_SameDisks_1.next0,slices_EqualFunc_SPut_at2_impl_SameDisks_1.round0,evz,Nat.reduceLT,h,h',hlk,hrk,enc_Put,(impl_SameDisks_1 l[k].sector l[k].bytes r[k].sector r[k].bytes).eq]
     rw [wrap_succ (by omega)])
    (fun m=>by
     simp only [slices_EqualFunc_SPut_at2_impl_SameDisks_1.next0,slices_EqualFunc_SPut_at2_impl_SameDisks_1.round0,evz,Nat.reduceLT,Nat.lt_irrefl])
   rw [cond_neg (by rw [hl]; exact bne_self_eq_false _)]
   exact loop
 · rw [cond_pos (by simp; omega)]
   simp only [show (l=r)=False from eq_false fun e=>hl (e ▸ rfl),decide_false]
theorem impl_SameDisks (a b:Disk) (ha:sm 1048576 a) (hb:sm 1048576 b):Call F.impl_SameDisks [.agg (enc a),.agg (enc b)] (.bool (decide (a=b))):=by
 obtain ⟨s,p⟩:=a
 obtain ⟨s',p'⟩:=b
 have h1:s.length≤1048576:=ha.1.1
 have h2:p.length≤1048576:=ha.2.1
 refine call_of rfl 0 ((impl_SameDisks.ev _ _ _ _ _).trans ?_)
 simp only [evz,Nat.reduceLT,(slices_EqualFunc_SSbyte_at2_bytes_Equal s s' (by omega)).eq,(slices_EqualFunc_SPut_at2_impl_SameDisks_1 p p' (by omega)).eq,Disk.mk.injEq]
 by_cases h:s=s'
 · simp only [h,evz,Nat.reduceLT,true_and]
 · simp only [h,evz,Nat.reduceLT,false_and]
end Ev.Ty
end
section
namespace Ev.Ty
open Go Ev
open Enc (enc)
open Sm (sm)
set_option linter.unusedSimpArgs false
set_option linter.unusedVariables false
theorem lset_List {α:Type} [Enc α] {o:List (List α)} {i:Nat} (hi:i < o.length) {w:List α}:List.set (cells o) (i*1) (slc w)=cells (o.set i w):=by
 have:=fsets_List (o:=o) hi (x:=o[i]) (w:=w)
 rwa [set_same (List.getElem?_eq_getElem hi)] at this
theorem cells_snoc {α:Type} [Enc α] (l:List α) (x:α):cells l++enc x=cells (l++[x]):=by rw [cells_append,enc_cells_one]
structure DiskOk (s:List (List UInt8)) (p:List Put):Prop where
 le:s.length≤64
 sec:∀ x∈s,x.length=96
 many:p.length≤s.length
 put:∀ x∈p,(0≤x.sector∧x.sector < s.length)∧x.bytes.length=96
theorem diskOk {s:List (List UInt8)} {p:List Put} (h:diskFault ⟨s,p⟩=0):DiskOk s p:=by
 unfold diskFault at h
 split at h
 · cases h
 · rename_i h1
   split at h
   · cases h
   · rename_i h2
     split at h
     · cases h
     · rename_i h3
       split at h
       · rename_i c hc
         obtain ⟨x,_,hx⟩:=List.exists_of_findSome?_eq_some hc
         unfold putFault at hx
         split at hx
         · cases hx; cases h
         · split at hx
           · cases hx; cases h
           · cases hx
       · rename_i hn
         have h1:=inR8 (by simpa using h1)
         have h12:(s.length:Int)≤64:=h1.2
         refine ⟨by omega,fun x hx => ?_,by simpa using h3,fun x hx => ?_⟩
         · have h2:=Bool.eq_false_iff.2 h2
           rw [List.any_eq_false] at h2
           simpa using h2 x hx
         · have:=List.findSome?_eq_none_iff.1 hn x hx
           unfold putFault at this
           split at this
           · cases this
           · rename_i q1
             split at this
             · cases this
             · rename_i q2
               have q1:=inR8 (by simpa using q1)
               have q3:(0:Int)≤x.sector:=q1.1
               have q4:x.sector≤(s.length:Int) - 1:=q1.2
               exact ⟨by omega,by simpa using q2⟩
theorem spec_l14Copy (s:List (List UInt8)) (p:List Put) (hs:sm 1048576 (Disk.mk s p)):Call F.spec_l14Copy [.rref [slc s,slc p] 0] (.agg [slc s,slc p]):=by
 have h1:s.length≤1048576:=hs.1.1
 have h2:p.length≤1048576:=hs.2.1
 refine call_of rfl (s.length+p.length+1) ((spec_l14Copy.ev _ _ _).trans ?_)
 refine run_loop (n:=s.length) (S:=fun m k o=>spec_l14Copy.at0 (s.length+p.length+1) m (spec_l14Copy.st0 (cells s) (cells p) (k:Nat) (cells o))) (st:=fun k=>s.take k) (fun m k h => ?_) (fun m => ?_) (by omega)
 · simp only [spec_l14Copy.next0,spec_l14Copy.round0,evz,Nat.reduceLT,h,List.getElem?_eq_getElem,enc_list,(spec_l1Copy s[k] (Nat.le_trans (hs.1.2 _ (List.getElem_mem h)).1 (by omega))).eq]
   rw [wrap_succ (by omega),cond_pos (ble_ok (by rw [cells_length,List.length_take]; simp only [sz_Put,sz_list]; omega)),cells_snoc_list,List.take_append_getElem h]
 · simp only [spec_l14Copy.next0,spec_l14Copy.round0,evz,Nat.reduceLT,Nat.lt_irrefl,List.take_length]
   refine run_loop (n:=p.length) (S:=fun m k o=>spec_l14Copy.at2 (s.length+p.length+1) m (spec_l14Copy.st2 (cells s) (cells p) (k:Nat) (cells s) (cells o))) (st:=fun k=>p.take k) (fun m k h => ?_) (fun m => ?_) (by omega)
   · have he:cells (p.take k)++[.int .i64 p[k].sector,slc p[k].bytes]=cells (p.take (k+1)):=by
      rw [← List.take_append_getElem h]; exact cells_snoc (p.take k) p[k]
     simp only [spec_l14Copy.next2,spec_l14Copy.round2,evz,Nat.reduceLT,h,List.getElem?_eq_getElem,enc_Put,(spec_l1Copy p[k].bytes (Nat.le_trans (hs.2.2 _ (List.getElem_mem h)).1 (by omega))).eq]
     rw [wrap_succ (by omega),cond_pos (ble_ok (by rw [cells_length,List.length_take]; simp only [sz_Put,sz_list]; omega)),he]
   · simp only [spec_l14Copy.next2,spec_l14Copy.round2,evz,Nat.reduceLT,Nat.lt_irrefl,List.take_length]
theorem impl_ownPuts (p:List Put) (hs:sm 1048576 p):Call F.impl_ownPuts [slc p] (slc p):=by
 have h2:=hs.1
 refine call_of rfl (p.length+1) ((impl_ownPuts.ev _ _).trans ?_)
 simp only [cells_div,sz_Put]
 refine run_loop (n:=p.length) (S:=fun m k o=>impl_ownPuts.at0 (p.length+1) m (impl_ownPuts.st0 (cells p) p.length (k:Nat) (cells o))) (st:=fun k=>p.take k) (fun m k h => ?_) (fun m => ?_) (by omega)
 · have he:cells (p.take k)++[.int .i64 p[k].sector,slc p[k].bytes]=cells (p.take (k+1)):=by
    rw [← List.take_append_getElem h]; exact cells_snoc (p.take k) p[k]
   simp only [impl_ownPuts.next0,impl_ownPuts.round0,evz,Nat.reduceLT,h,List.getElem?_eq_getElem,enc_Put,(slices_Clone_Sbyte p[k].bytes (Nat.le_trans (hs.2 _ (List.getElem_mem h)).1 (by omega))).eq]
   rw [wrap_succ (by omega),cond_pos (ble_ok (by rw [cells_length,List.length_take]; simp only [sz_Put,sz_list]; omega)),he]
 · simp only [impl_ownPuts.next0,impl_ownPuts.round0,evz,Nat.reduceLT,Nat.lt_irrefl,List.take_length]
theorem impl_ownDisk (s:List (List UInt8)) (p:List Put) (hs:sm 1048576 (Disk.mk s p)):Call F.impl_ownDisk [.agg [slc s,slc p]] (.agg [slc s,slc p]):=by
 have h1:s.length≤1048576:=hs.1.1
 refine call_of rfl (s.length+1) ((impl_ownDisk.ev _ _ _).trans ?_)
 simp only [evz,Nat.reduceLT,(impl_ownPuts p hs.2).eq]
 refine run_loop (n:=s.length) (S:=fun m k o=>impl_ownDisk.at0 (s.length+1) m (impl_ownDisk.st0 (cells s) s.length (k:Nat) (cells p) (cells o))) (st:=fun k=>s.take k) (fun m k h => ?_) (fun m => ?_) (by omega)
 · simp only [impl_ownDisk.next0,impl_ownDisk.round0,evz,Nat.reduceLT,h,List.getElem?_eq_getElem,enc_list,(slices_Clone_Sbyte s[k] (Nat.le_trans (hs.1.2 _ (List.getElem_mem h)).1 (by omega))).eq]
   rw [wrap_succ (by omega),cond_pos (ble_ok (by rw [cells_length,List.length_take]; simp only [sz_Put,sz_list]; omega)),cells_snoc_list,List.take_append_getElem h]
 · simp only [impl_ownDisk.next0,impl_ownDisk.round0,evz,Nat.reduceLT,Nat.lt_irrefl,List.take_length]
def putStep (s:List (List UInt8)) (x:Put):List (List UInt8):=s.set x.sector.toNat x.bytes
def flushed (s:List (List UInt8)) (p:List Put):List (List UInt8):=p.foldl putStep s
def flushI (n:Nat) (_:Nat) (s:List (List UInt8)):Prop:=s.length=n∧∀ x∈s,x.length=96
theorem flushI_step {n k:Nat} {s:List (List UInt8)} {x:Put} (hx:x.bytes.length=96) (h:flushI n k s):flushI n (k+1) (putStep s x):=by
 refine ⟨by simpa [putStep] using h.1,fun y hy => ?_⟩
 rcases List.mem_or_eq_of_mem_set hy with h1 | rfl
 · exact h.2 y h1
 · exact hx
theorem cells_len1 {l:List UInt8}:(cells l).length=l.length:=by rw [cells_length,sz_u8,Nat.mul_one]
theorem impl_Disk_flush (s:List (List UInt8)) (p:List Put) (ok:DiskOk s p):LIM F.impl_Disk_flush [.rref [slc s,slc p] 0,.clo F.impl_whole []]=some (.tup [],[.agg [slc (flushed s p),slc ([]:List Put)]]):=by
 have hle:=ok.le
 have hm:=ok.many
 refine call2_of rfl (p.length+1) ((impl_Disk_flush_at1_impl_whole.ev _ _ _).trans ?_)
 simp only [cells_div,sz_Put]
 have key:=fold_loop (l:=p) (f:=p.length+1) (S:=fun m k o=>impl_Disk_flush_at1_impl_whole.at0 (p.length+1) m (impl_Disk_flush_at1_impl_whole.st0 p.length (k:Nat) (cells o) (cells p))) (g:=putStep) (z:=fun o=>some (.tup [],[.agg [slc o,slc ([]:List Put)]])) (flushI s.length)
  (fun m k o h ho => ?_) (fun k o h ho=>flushI_step (ok.put _ (List.getElem_mem h)).2 ho) (fun m o ho => ?_) s ⟨rfl,ok.sec⟩ (by omega)
 · exact key
 · obtain ⟨hsec,hb⟩:=ok.put _ (List.getElem_mem h)
   obtain ⟨q,hq⟩:∃ q:Nat,p[k].sector=q:=⟨p[k].sector.toNat,by omega⟩
   have hqo:q < o.length:=by rw [ho.1]; omega
   have ho96:o[q].length=96:=ho.2 _ (List.getElem_mem hqo)
   have hw:Call F.impl_whole [.int .i64 (k:Nat)] (.int .i64 96):=call_of rfl 0 (impl_whole.ev _ _)
   have e1:((cells p[k].bytes).take ((Int.toNat 96)*1)).drop (0*1)=cells p[k].bytes:=by
    rw [List.take_of_length_le (by rw [cells_len1,hb]; decide)]; rfl
   have e2:setCells (cells o[q]) 0 (List.take (cells o[q]).length (cells p[k].bytes))=cells p[k].bytes:=by
    rw [List.take_of_length_le (by rw [cells_len1,cells_len1,hb,ho96]; decide),setCells_zero _ _ (by rw [cells_len1,cells_len1,hb,ho96]; decide),List.drop_of_length_le (by rw [cells_len1,cells_len1,hb,ho96]; decide),List.append_nil]
   have e3:List.set (cells p) (k*2+1) (slc p[k].bytes)=cells p:=set_same (by rw [get1 sz_Put (by decide),List.getElem?_eq_getElem h]; rfl)
   have e4:putStep o p[k]=o.set q p[k].bytes:=by unfold putStep; rw [hq]; rfl
   simp only [impl_Disk_flush_at1_impl_whole.next0,impl_Disk_flush_at1_impl_whole.round0,evz,Nat.reduceLT,h,List.getElem?_eq_getElem,enc_Put,hq,hqo,enc_list,hw.eq,hb,e1,e2,e3,e4,scalars_u8,lset_List hqo]
   rw [wrap_succ (by omega)]
   rfl
 · simp only [impl_Disk_flush_at1_impl_whole.next0,impl_Disk_flush_at1_impl_whole.round0,evz,Nat.reduceLT,Nat.lt_irrefl,slc_nil]
def mixed (b t:List UInt8) (j:Nat):List UInt8:=b.take j++t.drop j
theorem mixed_len {b t:List UInt8} {j:Nat} (hb:b.length=96) (ht:t.length=96) (hj:j≤96):(mixed b t j).length=96:=by simp [mixed]; omega
theorem mixed_set {b t:List UInt8} {j:Nat} (hb:b.length=96) (ht:t.length=96) (hj:j < 96):(mixed b t j).set j (b[j]'(by omega))=mixed b t (j+1):=by
 unfold mixed
 refine List.ext_getElem? fun i => ?_
 rw [List.getElem?_set]
 have hjb:j < b.length:=by omega
 split
 · rename_i h; subst h
   rw [if_pos (by simp; omega),List.getElem?_append_left (by simp; omega),List.getElem?_take,if_pos (by omega),List.getElem?_eq_getElem]
 · rename_i h
   rw [List.getElem?_append,List.getElem?_append,List.length_take,List.length_take,Nat.min_eq_left (by omega),Nat.min_eq_left (by omega)]
   by_cases h1:i < j
   · rw [if_pos h1,if_pos (by omega),List.getElem?_take,List.getElem?_take,if_pos h1,if_pos (by omega)]
   · rw [if_neg h1,if_neg (by omega),List.getElem?_drop,List.getElem?_drop]
     congr 1; omega
theorem spec_l14Crash (s:List (List UInt8)) (p:List Put) (ok:DiskOk s p):LIM F.spec_l14Crash [.rref [slc s,slc p] 0,slc (List.replicate p.length (96:Int))]=some (.tup [],[.agg [slc (flushed s p),slc ([]:List Put)]]):=by
 have hle:=ok.le
 have hm:=ok.many
 refine call2_of rfl (p.length+100) ((spec_l14Crash.ev _ _ _ _).trans ?_)
 have key:=fold_loop (l:=p) (f:=p.length+100) (S:=fun m k o=>spec_l14Crash.at0 (p.length+100) m (spec_l14Crash.st0 (cells (List.replicate p.length (96:Int))) (k:Nat) (cells o) (cells p))) (g:=putStep) (z:=fun o=>some (.tup [],[.agg [slc o,slc ([]:List Put)]])) (flushI s.length)
  (fun m k o h ho => ?_) (fun k o h ho=>flushI_step (ok.put _ (List.getElem_mem h)).2 ho) (fun m o ho => ?_) s ⟨rfl,ok.sec⟩ (by omega)
 · exact key
 · obtain ⟨hsec,hb⟩:=ok.put _ (List.getElem_mem h)
   obtain ⟨q,hq⟩:∃ q:Nat,p[k].sector=q:=⟨p[k].sector.toNat,by omega⟩
   have hqo:q < o.length:=by rw [ho.1]; omega
   have ho96:o[q].length=96:=ho.2 _ (List.getElem_mem hqo)
   have e3:List.set (cells p) (k*2+1) (slc p[k].bytes)=cells p:=set_same (by rw [get1 sz_Put (by decide),List.getElem?_eq_getElem h]; rfl)
   have e4:putStep o p[k]=o.set q p[k].bytes:=by unfold putStep; rw [hq]; rfl
   have hrep:(List.replicate p.length (96:Int))[k]?=some 96:=by rw [List.getElem?_replicate,if_pos h]
   simp only [spec_l14Crash.next0,spec_l14Crash.round0,evz,Nat.reduceLT,h,List.getElem?_eq_getElem,enc_Put,hq]
   have e0:o.set q (mixed p[k].bytes o[q] 0)=o:=set_same (by rw [List.getElem?_eq_getElem hqo]; simp [mixed])
   have key2:=run_loop (n:=96) (S:=fun m' j o'=>spec_l14Crash.at2 (p.length+100) (spec_l14Crash.at0 (p.length+100) m) m' (spec_l14Crash.st2 (cells (List.replicate p.length (96:Int))) (k:Nat) (j:Nat) (cells o') (cells p) (k*2+1) (cells p[k].bytes) q)) (st:=fun j=>o.set q (mixed p[k].bytes o[q] j)) (z:=spec_l14Crash.at0 (p.length+100) m (spec_l14Crash.st0 (cells (List.replicate p.length (96:Int))) ((k+1:Nat):Int) (cells (putStep o p[k])) (cells p))) (f:=p.length+100) (fun m' j hj => ?_) (fun m' => ?_) (by omega)
   · simp only [e0] at key2
     exact key2
   · have hx:=mixed_len hb ho96 (Nat.le_of_lt hj)
     have hqs:q < (o.set q (mixed p[k].bytes o[q] j)).length:=by simpa using hqo
     have hjb:j < p[k].bytes.length:=by omega
     have hjx:j < (mixed p[k].bytes o[q] j).length:=by omega
     have hj96:(j:Int) < 96:=by omega
     have hbd:j*1+1≤(mixed p[k].bytes o[q] j).length*1:=by omega
     have e5:setCells (cells (mixed p[k].bytes o[q] j)) (j*1) [.int .u8 ((p[k].bytes[j]).toNat:Int)]=cells (mixed p[k].bytes o[q] (j+1)):=by
      rw [set_UInt8 hjx,mixed_set hb ho96 hj]
     simp only [spec_l14Crash.next2,spec_l14Crash.round2,evz,Nat.reduceLT,List.length_replicate,h,hrep,enc_int,hj96,hqs,hqo,List.length_set,List.getElem?_set_self hqo,enc_list,hjb,hjx,List.getElem?_eq_getElem,enc_u8,cells_le,hbd,e5,lset_List hqs,List.set_set]
     rw [wrap_succ (by omega)]
   · have e6:mixed p[k].bytes o[q] 96=p[k].bytes:=by unfold mixed; rw [List.take_of_length_le (by omega),List.drop_of_length_le (by omega),List.append_nil]
     have hn:¬ (((96:Nat):Int) < 96):=by omega
     simp only [spec_l14Crash.next2,spec_l14Crash.round2,evz,Nat.reduceLT,List.length_replicate,h,hrep,enc_int,hn,e3,e4,e6]
     rw [wrap_succ (by omega)]
 · simp only [spec_l14Crash.next0,spec_l14Crash.round0,evz,Nat.reduceLT,Nat.lt_irrefl,slc_nil]
theorem spec_l14Flush (s:List (List UInt8)) (p:List Put) (ok:DiskOk s p):LIM F.spec_l14Flush [.rref [slc s,slc p] 0]=some (.tup [],[.agg [slc (flushed s p),slc ([]:List Put)]]):=by
 have hle:=ok.le
 have hm:=ok.many
 refine call2_of rfl (p.length+1) ((spec_l14Flush.ev _ _ _).trans ?_)
 refine run_loop (n:=p.length) (S:=fun m k o=>spec_l14Flush.at0 (p.length+1) m (spec_l14Flush.st0 (k:Nat) (cells s) (cells p) (cells o))) (st:=fun k=>List.replicate k (96:Int)) (fun m k h => ?_) (fun m => ?_) (by omega)
 · simp only [spec_l14Flush.next0,spec_l14Flush.round0,evz,Nat.reduceLT,h]
   rw [wrap_succ (by omega),cond_pos (ble_ok (by rw [cells_length,List.length_replicate]; simp only [sz_int]; omega)),cells_snoc_int,← List.replicate_succ']
 · simp only [spec_l14Flush.next0,spec_l14Flush.round0,evz,Nat.reduceLT,Nat.lt_irrefl,spec_l14Crash s p ok]
def flushDiskR (d:Disk):DiskResult:=if diskFault d=0 then ⟨0,⟨flushed d.sectors d.pending,[]⟩⟩ else ⟨diskFault d,⟨[],[]⟩⟩
theorem impl_FlushDisk (d:Disk) (hs:sm 1048576 d):Call F.impl_FlushDisk [.agg (enc d)] (.agg (enc (flushDiskR d))):=by
 have h4:=sm_mono (show 1048576≤4294967296 by omega) hs
 obtain ⟨s,p⟩:=d
 refine call_of rfl 0 ((impl_FlushDisk.ev _ _ _).trans ?_)
 simp only [evz,Nat.reduceLT,(impl_DiskFault s p h4).eq,flushDiskR]
 by_cases h0:diskFault ⟨s,p⟩=0
 case neg=>simp only [h0,evz,Nat.reduceLT,enc_DiskResult,slc_nil]
 simp only [h0,evz,Nat.reduceLT,(impl_ownDisk s p hs).eq,impl_Disk_flush s p (diskOk h0),enc_DiskResult]
end Ev.Ty
end
section
namespace Ev.Ty
theorem pigeon:∀ (k:Nat) (o:List Int),o.Nodup→(∀ n∈o,0≤n∧n < k)→o.length≤k
 | 0,o,_,h=>by
   cases o with
   | nil=>simp
   | cons x o=>have:=h x (by simp); omega
 | k+1,o,hn,h=>by
   by_cases hk:(k:Int)∈o
   · have h1:=List.length_erase_of_mem hk
     have:=pigeon k (o.erase (k:Int)) (hn.erase _) fun n hm=>by
      have hm':=(hn.mem_erase_iff).1 hm
      have:=h n hm'.2
      omega
     omega
   · have:=pigeon k o hn fun n hm=>by
      have:=h n hm
      have:n≠(k:Int):=fun e=>hk (e ▸ hm)
      omega
     omega
end Ev.Ty
end
section
namespace Ev.Ty
open Go Ev
open Enc (enc)
open Sm (sm)
set_option linter.unusedSimpArgs false
set_option linter.unusedVariables false
def putIdx (p:List Put) (n:Int):Int:=idx (fun x=>decide (x.sector=n)) p
def putAt (p:List Put) (n:Int) (data:List UInt8):List Put:=if putIdx p n ≥ 0 then p.set (putIdx p n).toNat ⟨n,data⟩ else p++[⟨n,data⟩]
def crashStep (s:List (List UInt8)) (x:Put × Int):List (List UInt8):=s.set x.1.sector.toNat (mixed x.1.bytes (s.getD x.1.sector.toNat []) x.2.toNat)
def crashed (s:List (List UInt8)) (p:List Put) (fates:List Int):List (List UInt8):=(p.zip fates).foldl crashStep s
theorem diskFault_iff {s:List (List UInt8)} {p:List Put}:diskFault ⟨s,p⟩=0↔(8≤s.length∧s.length≤64)∧(∀ x∈s,x.length=96)∧p.length≤s.length∧(∀ x∈p,(0≤x.sector∧x.sector < s.length)∧x.bytes.length=96)∧(p.map (·.sector)).Nodup:=by
 have hput:∀ x:Put,putFault s.length x=none↔(0≤x.sector∧x.sector < s.length)∧x.bytes.length=96:=fun x=>by
  unfold putFault
  by_cases h:inR x.sector 0 ((s.length:Int) - 1)=false
  · rw [if_pos h]
    refine ⟨(fun q=>by cases q),fun q => ?_⟩
    have:inR x.sector 0 ((s.length:Int) - 1)=true:=by unfold inR; simp; omega
    rw [this] at h; cases h
  · rw [if_neg h]
    have h:=inR8 (by simpa using h)
    by_cases h2:x.bytes.length=96
    · rw [if_neg (by simpa using h2)]
      exact ⟨fun _=>⟨by omega,h2⟩,fun _=>rfl⟩
    · rw [if_pos h2]
      exact ⟨(fun q=>by cases q),fun q=>absurd q.2 h2⟩
 constructor
 · intro h
   have ok:=diskOk h
   unfold diskFault at h
   split at h
   · cases h
   · rename_i h1
     have h1:=inR8 (by simpa using h1)
     have h11:(8:Int)≤s.length:=h1.1
     have h12:(s.length:Int)≤64:=h1.2
     split at h
     · cases h
     · split at h
       · cases h
       · split at h
         · rename_i c hc
           obtain ⟨x,_,hx⟩:=List.exists_of_findSome?_eq_some hc
           unfold putFault at hx
           split at hx
           · cases hx; cases h
           · split at hx
             · cases hx; cases h
             · cases hx
         · split at h
           · cases h
           · rename_i ht
             refine ⟨by omega,ok.sec,ok.many,ok.put,?_⟩
             unfold twice at ht
             simpa using ht
 · rintro ⟨h1,h2,h3,h4,h5⟩
   have e1:¬ inR (s.length:Int) 8 64=false:=by unfold inR; simp; omega
   have e2:¬ s.any (fun x=>decide (x.length≠96))=true:=by simp; exact h2
   have e3:¬ p.length > s.length:=by omega
   have e4:p.findSome? (putFault s.length)=none:=List.findSome?_eq_none_iff.2 fun x hx=>(hput x).2 (h4 x hx)
   have e5:¬ twice (p.map (·.sector))=true:=by unfold twice; simpa using h5
   unfold diskFault
   simp only
   rw [if_neg e1,if_neg e2,if_neg e3,e4]
   simp only
   rw [if_neg e5]
theorem putIdx_cases (p:List Put) (n:Int):(putIdx p n = -1∧∀ x∈p,x.sector≠n)∨∃ i,∃ h:i < p.length,putIdx p n=(i:Nat)∧p[i].sector=n:=by
 rcases idx_spec (fun x:Put=>decide (x.sector=n)) p with ⟨h1,h2⟩ | ⟨i,hi,h1,h2,_⟩
 · exact .inl ⟨h1,fun x hx=>by simpa using h2 x hx⟩
 · exact .inr ⟨i,hi,h1,by simpa using h2⟩
theorem put_mem {p:List Put} {n:Int} {data:List UInt8}:∀ x∈putAt p n data,x=⟨n,data⟩∨x∈p:=fun x hx=>by
 unfold putAt at hx
 split at hx
 · rcases List.mem_or_eq_of_mem_set hx with h | h
   · exact .inr h
   · exact .inl h
 · rcases List.mem_append.1 hx with h | h
   · exact .inr h
   · exact .inl (List.mem_singleton.1 h)
theorem put_has (p:List Put) (n:Int) (data:List UInt8):Put.mk n data∈putAt p n data:=by
 unfold putAt
 rcases putIdx_cases p n with ⟨h1,_⟩ | ⟨i,hi,h1,_⟩
 · rw [h1,if_neg (by omega)]; simp
 · rw [h1,if_pos (by omega),Int.toNat_natCast]; exact List.mem_set hi _
theorem put_sectors (p:List Put) (n:Int) (data:List UInt8):(putAt p n data).map (·.sector)=if putIdx p n ≥ 0 then p.map (·.sector) else p.map (·.sector)++[n]:=by
 unfold putAt
 rcases putIdx_cases p n with ⟨h1,_⟩ | ⟨i,hi,h1,h2⟩
 · rw [h1,if_neg (by omega),if_neg (by omega),List.map_append]; rfl
 · rw [h1,if_pos (by omega),if_pos (by omega),Int.toNat_natCast,List.map_set]
   refine List.ext_getElem? fun k => ?_
   rw [List.getElem?_set]
   split
   · rename_i e; subst e
     rw [if_pos (by simpa using hi),List.getElem?_map,List.getElem?_eq_getElem hi]
     exact congrArg some h2.symm
   · rfl
theorem put_nodup {p:List Put} {n:Int} {data:List UInt8} (h:(p.map (·.sector)).Nodup):((putAt p n data).map (·.sector)).Nodup:=by
 rw [put_sectors]
 rcases putIdx_cases p n with ⟨h1,h2⟩ | ⟨i,hi,h1,_⟩
 · rw [h1,if_neg (by omega)]
   refine List.nodup_append.2 ⟨h,by simp,fun a ha b hb => ?_⟩
   obtain ⟨x,hx,rfl⟩:=List.mem_map.1 ha
   rw [List.mem_singleton.1 hb]
   exact h2 x hx
 · rw [h1,if_pos (by omega)]; exact h
theorem put_fault {s:List (List UInt8)} {p:List Put} {n:Int} {data:List UInt8} (h:diskFault ⟨s,p⟩=0) (hn:0≤n∧n < s.length) (hd:data.length=96):diskFault ⟨s,putAt p n data⟩=0:=by
 obtain ⟨h1,h2,h3,h4,h5⟩:=diskFault_iff.1 h
 have hput:∀ x∈putAt p n data,(0≤x.sector∧x.sector < s.length)∧x.bytes.length=96:=fun x hx=>by
  rcases put_mem x hx with rfl | hx
  · exact ⟨hn,hd⟩
  · exact h4 x hx
 refine diskFault_iff.2 ⟨h1,h2,?_,hput,put_nodup h5⟩
 have:=pigeon s.length _ (put_nodup (n:=n) (data:=data) h5) fun m hm=>by
  obtain ⟨x,hx,rfl⟩:=List.mem_map.1 hm
  exact (hput x hx).1
 simpa using this
theorem crash_get:∀ (p:List Put) (fates:List Int) (s:List (List UInt8)) (n:Nat),(p.map (·.sector)).Nodup→(∀ x∈p,0≤x.sector∧x.sector < s.length)→p.length=fates.length →
 ((∀ x∈p,x.sector≠n)→(crashed s p fates).getD n []=s.getD n [])∧(∀ k (h:k < p.length) (h':k < fates.length),p[k].sector=n→(crashed s p fates).getD n []=mixed p[k].bytes (s.getD n []) fates[k].toNat):=by
 intro p
 induction p with
 | nil=>intro fates s n _ _ _; exact ⟨fun _=>rfl,fun k h=>by simp at h⟩
 | cons x p ih =>
   intro fates s n hn hr hl
   cases fates with
   | nil=>simp at hl
   | cons fa fates =>
     have hx:=hr x (List.mem_cons_self ..)
     obtain ⟨q,hq⟩:∃ q:Nat,x.sector=q:=⟨x.sector.toNat,by omega⟩
     have hqs:q < s.length:=by omega
     rw [List.map_cons,List.nodup_cons] at hn
     have e:crashed s (x::p) (fa::fates)=crashed (s.set q (mixed x.bytes (s.getD q []) fa.toNat)) p fates:=by
      show crashed (crashStep s (x,fa)) p fates=_
      unfold crashStep
      simp only [hq,Int.toNat_natCast]
     have hlen:(s.set q (mixed x.bytes (s.getD q []) fa.toNat)).length=s.length:=List.length_set
     obtain ⟨i1,i2⟩:=ih fates (s.set q (mixed x.bytes (s.getD q []) fa.toNat)) n hn.2 (fun y hy=>by rw [hlen]; exact hr y (List.mem_cons_of_mem _ hy)) (by simpa using hl)
     have hset:q≠n→(s.set q (mixed x.bytes (s.getD q []) fa.toNat)).getD n []=s.getD n []:=fun h=>by
      simp only [List.getD_eq_getElem?_getD]
      rw [List.getElem?_set_ne h]
     rw [e]
     refine ⟨fun h => ?_,fun k hk hk' hs => ?_⟩
     · rw [i1 fun y hy=>h y (List.mem_cons_of_mem _ hy)]
       exact hset fun e=>h x (List.mem_cons_self ..) (by rw [hq,e])
     · cases k with
       | zero =>
         have hs:x.sector=n:=hs
         have hqn:q=n:=by omega
         subst hqn
         rw [i1 fun y hy e'=>hn.1 (List.mem_map.2 ⟨y,hy,by rw [e',hs]⟩)]
         show _=mixed x.bytes (s.getD q []) fa.toNat
         rw [List.getD_eq_getElem?_getD,List.getElem?_set_self hqs]
         rfl
       | succ k =>
         have hs:(p[k]'(by simpa using hk)).sector=n:=hs
         have hk2:k < p.length:=by simpa using hk
         rw [i2 k hk2 (by simpa using hk') hs,hset fun e'=>hn.1 (List.mem_map.2 ⟨p[k],List.getElem_mem hk2,by rw [hs,hq,e']⟩)]
         rfl
theorem crashed_length:∀ (p:List Put) (fates:List Int) (s:List (List UInt8)),(crashed s p fates).length=s.length:=by
 intro p fates s
 unfold crashed
 induction p.zip fates generalizing s with
 | nil=>rfl
 | cons x l ih=>rw [List.foldl_cons,ih]; unfold crashStep; rw [List.length_set]
theorem read_put {s:List (List UInt8)} {p:List Put} {n:Int} {data:List UInt8} (h5:(p.map (·.sector)).Nodup):diskRead ⟨s,putAt p n data⟩ n=data:=by
 unfold diskRead
 have hh:=put_has p n data
 rcases putIdx_cases (putAt p n data) n with ⟨_,h2⟩ | ⟨i,hi,h1,h2⟩
 · exact absurd rfl (h2 _ hh)
 · have h1':idx (fun x:Put=>decide (x.sector=n)) (putAt p n data)=(i:Nat):=h1
   simp only [h1',Int.toNat_natCast]
   rw [if_pos (by omega),List.getElem?_eq_getElem hi]
   show (putAt p n data)[i].bytes=data
   obtain ⟨j,hj,e⟩:=List.getElem_of_mem hh
   have hnd:=put_nodup (n:=n) (data:=data) h5
   have hsec:∀ k (hk:k < (putAt p n data).length),((putAt p n data).map (·.sector))[k]'(by simpa using hk)=(putAt p n data)[k].sector:=fun k hk=>List.getElem_map _
   have hij:((putAt p n data).map (·.sector))[i]'(by simpa using hi)=((putAt p n data).map (·.sector))[j]'(by simpa using hj):=by rw [hsec i hi,hsec j hj,h2,e]
   have ht:¬ twice ((putAt p n data).map (·.sector))=true:=by unfold twice; simpa using hnd
   have:i=j:=by
    rcases Nat.lt_trichotomy i j with h | h | h
    · exact absurd ((twice_iff _).2 ⟨j,i,h,by simpa using hj,by simpa using hi,hij.symm⟩) ht
    · exact h
    · exact absurd ((twice_iff _).2 ⟨i,j,h,by simpa using hi,by simpa using hj,hij⟩) ht
   subst this
   rw [e]
theorem read_still (s:List (List UInt8)) (n:Int):diskRead ⟨s,[]⟩ n=s.getD n.toNat []:=by
 unfold diskRead
 show (if (-1:Int) ≥ 0 then _ else _)=_
 rw [if_neg (by decide),List.getD_eq_getElem?_getD]
theorem mem_at {l:List Put} {x:Put} (h:x∈l):∃ i,∃ h:i < l.length,l[i]=x:=List.getElem_of_mem h
theorem crash_put {s:List (List UInt8)} {p:List Put} {n:Nat} {data:List UInt8} {fate:Int} (h:diskFault ⟨s,p⟩=0) (hn:n < s.length) :
 (crashed s (putAt p n data) (List.replicate (putAt p n data).length fate)).getD n []=mixed data (s.getD n []) fate.toNat:=by
 obtain ⟨h1,h2,h3,h4,h5⟩:=diskFault_iff.1 h
 obtain ⟨i,hi,e⟩:=mem_at (put_has p n data)
 have:=(crash_get (putAt p n data) (List.replicate (putAt p n data).length fate) s n (put_nodup h5) (fun x hx=>by
  rcases put_mem x hx with rfl | hx
  · exact ⟨Int.natCast_nonneg n,by show (n:Int) < s.length; omega⟩
  · exact (h4 x hx).1) (by simp)).2 i hi (by simpa using hi) (by rw [e])
 rw [this,e,List.getElem_replicate]
end Ev.Ty
end
section
namespace Ev.Ty
open Go Ev
open Enc (enc)
open Sm (sm)
set_option linter.unusedSimpArgs false
set_option linter.unusedVariables false
def letter (b:UInt8):Bool:=decide (97≤b.toNat∧b.toNat≤122)
def nameOk (s:ByteArray):Bool:=decide (1≤s.size∧s.size≤3)&&s.data.toList.all letter
end Ev.Ty
end
section
namespace Ev.Ty
open Go Ev
open Enc (enc)
open Sm (sm)
set_option linter.unusedSimpArgs false
set_option linter.unusedVariables false
structure SigOk (s:Signature):Prop where
 pos:1≤s.symbols.length
 le:s.symbols.length≤6
 name:∀ x∈s.symbols,nameOk x.name=true
 arity:∀ x∈s.symbols,0≤x.arity∧x.arity≤2
 nodup:(s.symbols.map (·.name)).Nodup
 const:∃ x∈s.symbols,x.arity=0
end Ev.Ty
end
section
namespace Ev.Ty
open Go Ev
open Enc (enc)
open Sm (sm)
set_option linter.unusedSimpArgs false
set_option linter.unusedVariables false
def ar (l:List Symbol) (n:Int):Nat:=if n < 0 then 0 else ((l[n.toNat]?).map fun x=>x.arity.toNat).getD 0
def nodeOk (l:List Symbol) (n:Int):Bool:=inR n 0 (l.length - 1)||inR n (-12) (-1)
def skip (a:Int→Nat):Nat→List Int→Option (List Int)
 | 0,l=>some l
 | _+1,[]=>none
 | k+1,n::l=>skip a (k+a n) l
section
variable {a:Int→Nat}
@[simp] theorem skip_zero (l:List Int):skip a 0 l=some l:=by cases l <;> rfl
end
section
variable {l:List Symbol} (ok:SigOk ⟨l⟩)
include ok
end
end Ev.Ty
end
section
namespace Ev.Ty
open Go Ev
set_option linter.unusedSimpArgs false
set_option linter.unusedVariables false
inductive Tm where
 | v (n:Int)
 | k (n:Int)
 | u (n:Int) (x:Tm)
 | b (n:Int) (x y:Tm)
 deriving DecidableEq
namespace Tm
def flat:Tm→List Int
 | v n=>[n]
 | k n=>[n]
 | u n x=>n::x.flat
 | b n x y=>n::(x.flat++y.flat)
def ok (a:Int→Nat):Tm→Prop
 | v n=>n < 0
 | k n=>0≤n∧a n=0
 | u n x=>0≤n∧a n=1∧x.ok a
 | b n x y=>0≤n∧a n=2∧x.ok a∧y.ok a
variable {a:Int→Nat}
end Tm
structure TermOk (l:List Symbol) (t:List Int):Prop where
 pos:1≤t.length
 le:t.length≤24
 node:∀ n∈t,nodeOk l n=true
 skip:skip (ar l) 1 t=some []
end Ev.Ty
end
section
namespace Ev.Ty
open Go Ev
open Enc (enc)
open Sm (sm)
set_option linter.unusedSimpArgs false
set_option linter.unusedVariables false
structure AlgOk (l:List Symbol) (z:Int) (tb:List (List Int)):Prop where
 sig:SigOk ⟨l⟩
 size:1≤z∧z≤3
 len:tb.length=l.length
 rows:∀ (k:Nat) (h:k < l.length) (h':k < tb.length),tb[k].length=z.toNat ^ (l[k]).arity.toNat∧∀ n∈tb[k],0≤n∧n≤z - 1
def Tm.eval (z:Int) (tb:List (List Int)) (vs:List Int):Tm→Int
 | v n=>vs.getD (-1 - n).toNat 0
 | k n=>(tb.getD n.toNat []).getD 0 0
 | u n x=>(tb.getD n.toNat []).getD (x.eval z tb vs).toNat 0
 | b n x y=>(tb.getD n.toNat []).getD (x.eval z tb vs*z+y.eval z tb vs).toNat 0
section
variable {l:List Symbol} {z:Int} {tb:List (List Int)} (al:AlgOk l z tb) {vs:List Int} (hv:vs.length=6) (hr:∀ n∈vs,0≤n∧n≤z - 1)
include al
include hv hr
end
end Ev.Ty
end
section
namespace Ev.Ty
open Go Ev
open Enc (enc)
open Sm (sm)
set_option linter.unusedSimpArgs false
set_option linter.unusedVariables false
theorem getD_of {α:Type} {v:List α} {i:Nat} {d:α} (h:i < v.length):v.getD i d=v[i]:=by simp [h]
section
variable {l:List Symbol} {z:Int} {tb:List (List Int)} (al:AlgOk l z tb) {vs:List Int} (hv:vs.length=6) (hr:∀ n∈vs,0≤n∧n≤z - 1)
include al hv hr
end
end Ev.Ty
end
section
namespace Ev.Ty
open Go Ev
open Enc (enc)
open Sm (sm)
set_option linter.unusedSimpArgs false
set_option linter.unusedVariables false
theorem cmp_Or_int64 (l:List Int) (hl:l.length≤4294967296):Call F.cmp_Or_int64 [slc l] (.int .i64 ((l.find? fun n=>decide (n≠0)).getD 0)):=by
 refine call_of rfl (l.length+1) ((cmp_Or_int64.ev _ _).trans ?_)
 have:=scan_loop (l:=l) (g:=fun n=>if n≠0 then some (some (.int .i64 n,[])) else none) (z:=some (.int .i64 0,[])) (S:=fun m k=>cmp_Or_int64.at0 (l.length+1) m (cmp_Or_int64.st0 0 (cells l) l.length (k:Nat)))
  (fun m k h=>by
   have hlk:l[k]?=some l[k]:=List.getElem?_eq_getElem h
   simp only [cmp_Or_int64.next0,cmp_Or_int64.round0,evz,Nat.reduceLT,h,hlk,enc_int]
   rw [wrap_succ (by omega)]
   by_cases e:l[k]=0 <;> simp [e])
  (fun m=>by simp only [cmp_Or_int64.next0,cmp_Or_int64.round0,evz,Nat.reduceLT,Nat.lt_irrefl]) (Nat.lt_succ_self _)
 simp only [cells_div,sz_int]
 refine this.trans ?_
 clear this
 induction l with
 | nil=>rfl
 | cons x l ih =>
   rw [List.findSome?_cons,List.find?_cons]
   by_cases e:x=0
   · simpa [e] using ih (by simp at hl; omega)
   · simp [e]
theorem impl_firstCode2 (a b:Int):Call F.impl_firstCode [.sl 1 [.int .i64 a,.int .i64 b]] (.int .i64 (if a=0 then b else a)):=by
 refine call_of rfl 0 ((impl_firstCode.ev _ _).trans ?_)
 have:=cmp_Or_int64 [a,b] (by simp)
 simp only [evz,Nat.reduceLT,show LIM F.cmp_Or_int64 [.sl 1 [.int .i64 a,.int .i64 b]]=_ from this]
 by_cases h:a=0
 · by_cases h':b=0 <;> simp [h,h']
 · simp [h]
open Classical in
section
variable (l:List Symbol) (z:Int) (tb:List (List Int)) (vs t:List Int) (hs:l.length≤4294967296) (ht:sm 4294967296 tb) (hl:t.length≤4294967296)
include hs ht hl
end
end Ev.Ty
end
section
namespace Ev.Ty
open Go Ev
open Enc (enc)
open Sm (sm)
set_option linter.unusedSimpArgs false
set_option linter.unusedVariables false
theorem idx_set (p:List Put) (n:Int) (data:List UInt8) {i:Nat} (hi:i < p.length) (hs:p[i].sector=n):setCells (cells p) (i*2+1) [slc data]=cells (p.set i ⟨n,data⟩):=by
 have:=fset_gen (o:=p) (i:=i) (n:=2) (j:=1) (x:=p[i]) (x':=⟨n,data⟩) (c:=slc data) rfl hi (by decide) (by rw [enc_Put,enc_Put,hs]; rfl)
 rwa [set_same (List.getElem?_eq_getElem hi)] at this
theorem cells_put (p:List Put) (n:Int) (data:List UInt8):cells p++[.int .i64 n,slc data]=cells (p++[⟨n,data⟩]):=by
 rw [cells_append]; simp [cells,enc_Put]
theorem put_go (s:List (List UInt8)) (p:List Put) (n:Int) (data:List UInt8) (hp:p.length≤1048576) :
 (bif (decide (putIdx p n ≥ (0:Int))) then (bif inB (putIdx p n) ((cells p).length / 2) then (bif decide ((((Int.toNat (putIdx p n))*2)+1)+1≤(cells p).length) then some ((T.tup []),[(T.agg [(.sl 1 (cells s)),(.sl 2 (setCells (cells p) (((Int.toNat (putIdx p n))*2)+1) [(slc data)]))])]) else none) else none) else (bif Nat.ble (((cells p).length+2)*32) (140737488355328*2) then some ((.tup []),[(.agg [(.sl 1 (cells s)),(.sl 2 (cells p++[(.int .i64 n),(slc data)]:List T))])]) else none)) =
  some (.tup [],[.agg [slc s,slc (putAt p n data)]]):=by
 unfold putAt
 have hl:(cells p).length=p.length*2:=by rw [cells_length]; rfl
 rcases putIdx_cases p n with ⟨h1,h2⟩ | ⟨i,hi,h1,h2⟩
 · rw [h1]
   have e:¬ (-1:Int) ≥ 0:=by omega
   rw [cond_neg (by simp),if_neg e,cond_pos (ble_ok (by omega)),cells_put]; rfl
 · rw [h1]
   have e:((i:Nat):Int) ≥ 0:=by omega
   rw [cond_pos (by simp),if_pos e,hl,inB_nat,cond_pos (by simp; omega),Int.toNat_natCast,cond_pos (by rw [decide_eq_true_iff]; omega),idx_set p n data hi h2]; rfl
theorem impl_Disk_write (s:List (List UInt8)) (p:List Put) (n:Int) (data:List UInt8) (hp:sm 1048576 p) (hd:data.length≤1048576):LIM F.impl_Disk_write [.rref [slc s,slc p] 0,.int .i64 n,slc data]=some (.tup [],[.agg [slc s,slc (putAt p n data)]]):=by
 refine call2_of rfl 0 ((impl_Disk_write.ev _ _ _ _ _).trans ?_)
 have h4:=sm_mono (show 1048576≤4294967296 by omega) hp
 rw [show LIM F.slices_Clone_Sbyte [.sl 1 (cells data)]=some _ from (slices_Clone_Sbyte data (by omega)).eq]
 simp only [bind_of,oNil_nil,oSl_slc data rfl]
 rw [show LIM F.impl_Disk_putFor [.agg [.sl 1 (cells s),.sl 2 (cells p)],.int .i64 n]=some _ from (impl_Disk_putFor s p h4 n).eq]
 simp only [bind_of,oNil_nil,oInt_int]
 exact put_go s p n data hp.1
theorem spec_l14Write (s:List (List UInt8)) (p:List Put) (n:Int) (data:List UInt8) (hp:p.length≤1048576) (hd:data.length≤1048576):LIM F.spec_l14Write [.rref [slc s,slc p] 0,.int .i64 n,slc data]=some (.tup [],[.agg [slc s,slc (putAt p n data)]]):=by
 refine call2_of rfl 0 ((spec_l14Write.ev _ _ _ _ _).trans (Eq.trans ?_ (put_go s p n data hp)))
 rw [show LIM F.spec_l14Waits [.rref [.sl 1 (cells s),.sl 2 (cells p)] 0,.int .i64 n]=some _ from (spec_l14Waits s p (by omega) n).eq]
 simp only [bind_of,oNil_nil,oInt_int]
 rw [show LIM F.spec_l1Copy [.sl 1 (cells data)]=some _ from (spec_l1Copy data (by omega)).eq]
 simp only [bind_of,oNil_nil,oSl_slc data rfl]
 rfl
def writeSectorR (d:Disk) (n:Int) (data:List UInt8):DiskResult :=
 if diskFault d=0 then if inR n 0 (d.sectors.length - 1)=true then if data.length=96 then ⟨0,⟨d.sectors,putAt d.pending n data⟩⟩ else ⟨1,⟨[],[]⟩⟩ else ⟨3,⟨[],[]⟩⟩ else ⟨diskFault d,⟨[],[]⟩⟩
theorem impl_WriteSector (d:Disk) (n:Int) (data:List UInt8) (hs:sm 1048576 d) (hd:data.length≤1048576):Call F.impl_WriteSector [.agg (enc d),.int .i64 n,slc data] (.agg (enc (writeSectorR d n data))):=by
 have h4:=sm_mono (show 1048576≤4294967296 by omega) hs
 obtain ⟨s,p⟩:=d
 have hw:Call F.impl_Disk_writeFault [.agg [slc s,slc p],.int .i64 n,slc data] (.int .i64 (if inR n 0 (s.length - 1)=true then if data.length=96 then 0 else 1 else 3)):=by
  refine call_of rfl 0 ((impl_Disk_writeFault.ev _ _ _ _ _).trans ?_)
  have z:((data.length:Nat):Int)=96↔data.length=96:=by omega
  simp only [evz,Nat.reduceLT,(impl_Disk_has s p h4.1 n).eq]
  cases h1:inR n 0 (s.length - 1) with
  | false=>simp only [evz,Nat.reduceLT,Bool.false_eq_true]
  | true =>
    by_cases h2:data.length=96
    · have z2:((data.length:Nat):Int)=96:=by omega
      simp only [evz,Nat.reduceLT,h2,z2]; rfl
    · have z2:¬ ((data.length:Nat):Int)=96:=by omega
      simp only [evz,Nat.reduceLT,h2,z2]
 refine call_of rfl 0 ((impl_WriteSector.ev _ _ _ _ _).trans ?_)
 simp only [evz,Nat.reduceLT,(impl_DiskFault s p h4).eq,hw.eq,(impl_firstCode2 _ _).eq,writeSectorR]
 by_cases h0:diskFault ⟨s,p⟩=0
 case neg=>simp only [h0,evz,Nat.reduceLT,enc_DiskResult,slc_nil]
 cases h1:inR n 0 (s.length - 1) with
 | false=>simp only [evz,Nat.reduceLT,h0,enc_DiskResult,slc_nil,Bool.false_eq_true,Int.reduceEq]
 | true =>
   by_cases h2:data.length=96
   case neg=>simp only [evz,Nat.reduceLT,h0,h2,enc_DiskResult,slc_nil,Int.reduceEq]
   simp only [evz,Nat.reduceLT,h0,h2,(impl_ownDisk s p hs).eq,impl_Disk_write s p n data hs.2 hd,enc_DiskResult]
theorem spec_WriteSector (d:Disk) (n:Int) (data:List UInt8) (hs:sm 1048576 d) (hd:data.length≤1048576):Call F.spec_WriteSector [.agg (enc d),.int .i64 n,slc data] (.agg (enc (writeSectorR d n data))):=by
 have h4:=sm_mono (show 1048576≤4294967296 by omega) hs
 obtain ⟨s,p⟩:=d
 refine call_of rfl 0 ((spec_WriteSector.ev _ _ _ _ _).trans ?_)
 simp only [evz,Nat.reduceLT,(spec_DiskFault s p h4).eq,(spec_l14Sector s p h4.1.1 n).eq,writeSectorR]
 by_cases h0:diskFault ⟨s,p⟩=0
 case neg=>simp only [h0,evz,Nat.reduceLT,enc_DiskResult,slc_nil]
 simp only [h0,evz,Nat.reduceLT]
 cases h1:inR n 0 (s.length - 1) with
 | false=>simp only [evz,Nat.reduceLT,enc_DiskResult,slc_nil,Bool.false_eq_true]
 | true =>
   by_cases h2:data.length=96
   · have z2:((96:Nat):Int)=96:=by omega
     simp only [evz,Nat.reduceLT,h2,z2,(spec_l14Copy s p hs).eq,spec_l14Write s p n data hs.2.1 hd,enc_DiskResult]
   · have z2:¬ ((data.length:Nat):Int)=96:=by omega
     simp only [evz,Nat.reduceLT,h2,z2,enc_DiskResult,slc_nil]
def badFate (n:Int):Bool := !inR n 0 96
theorem impl_CrashDisk_1 (n:Int):Call F.impl_CrashDisk_1 [.int .i64 n] (.bool (badFate n)):=by
 refine call_of rfl 0 ((impl_CrashDisk_1.ev _ _).trans ?_)
 simp only [evz,Nat.reduceLT,(impl_within _ _ _).eq,badFate]
theorem slices_ContainsFunc_Sint64_at1_impl_CrashDisk_1 (l:List Int) (hs:l.length≤4294967296):Call F.slices_ContainsFunc_Sint64 [slc l,.clo F.impl_CrashDisk_1 []] (.bool (l.any badFate)):=by
 have hi:Call F.slices_IndexFunc_Sint64 [slc l,.clo F.impl_CrashDisk_1 []] (.int .i64 (idx badFate l)):=by
  refine call_of rfl (l.length+1) ((slices_IndexFunc_Sint64_at1_impl_CrashDisk_1.ev _ _).trans ?_)
  simp only [cells_div,sz_int]
  refine idx_loop (S:=fun m k=>slices_IndexFunc_Sint64_at1_impl_CrashDisk_1.at0 (l.length+1) m (slices_IndexFunc_Sint64_at1_impl_CrashDisk_1.st0 (cells l) l.length (k:Nat))) (fun m k h => ?_) (fun m => ?_) (Nat.lt_succ_self _)
  · have hlk:l[k]?=some l[k]:=List.getElem?_eq_getElem h
    simp only [slices_IndexFunc_Sint64_at1_impl_CrashDisk_1.next0,slices_IndexFunc_Sint64_at1_impl_CrashDisk_1.round0,evz,Nat.reduceLT,h,hlk,enc_int,(impl_CrashDisk_1 l[k]).eq]
    rw [wrap_succ (by omega)]
    cases badFate l[k] <;> rfl
  · simp only [slices_IndexFunc_Sint64_at1_impl_CrashDisk_1.next0,slices_IndexFunc_Sint64_at1_impl_CrashDisk_1.round0,evz,Nat.reduceLT,Nat.lt_irrefl]
 refine call_of rfl 0 ((slices_ContainsFunc_Sint64_at1_impl_CrashDisk_1.ev _ _).trans ?_)
 simp only [evz,Nat.reduceLT,hi.eq]
 rw [idx_nonneg]
theorem impl_Disk_crash (s:List (List UInt8)) (p:List Put) (fates:List Int) (ok:DiskOk s p) (hf:fates.length=p.length) (hr:∀ n∈fates,0≤n∧n≤96) :
 LIM F.impl_Disk_flush [.rref [slc s,slc p] 0,.clo F.impl_CrashDisk_2 [.rref [slc fates] 0]]=some (.tup [],[.agg [slc (crashed s p fates),slc ([]:List Put)]]):=by
 have hle:=ok.le
 have hm:=ok.many
 have hzl:(p.zip fates).length=p.length:=by rw [List.length_zip,hf,Nat.min_self]
 refine call2_of rfl (p.length+1) ((impl_Disk_flush_at1_impl_CrashDisk_2.ev _ _ _ _).trans ?_)
 simp only [cells_div,sz_Put]
 have key:=fold_loop (l:=p.zip fates) (f:=p.length+1) (S:=fun m k o=>impl_Disk_flush_at1_impl_CrashDisk_2.at0 (p.length+1) m (impl_Disk_flush_at1_impl_CrashDisk_2.st0 (cells fates) p.length (k:Nat) (cells o) (cells p))) (g:=crashStep) (z:=fun o=>some (.tup [],[.agg [slc o,slc ([]:List Put)]])) (flushI s.length)
  (fun m k o h ho => ?_) (fun k o h ho => ?_) (fun m o ho => ?_) s ⟨rfl,ok.sec⟩ (by omega)
 · exact key
 · rw [hzl] at h
   have hkf:k < fates.length:=by omega
   obtain ⟨hsec,hb⟩:=ok.put _ (List.getElem_mem h)
   obtain ⟨q,hq⟩:∃ q:Nat,p[k].sector=q:=⟨p[k].sector.toNat,by omega⟩
   have hqo:q < o.length:=by rw [ho.1]; omega
   have ho96:o[q].length=96:=ho.2 _ (List.getElem_mem hqo)
   obtain ⟨f1,f2⟩:=hr fates[k] (List.getElem_mem hkf)
   obtain ⟨c,hc⟩:∃ c:Nat,fates[k]=c:=⟨fates[k].toNat,by omega⟩
   have hc96:c≤96:=by omega
   have hw:Call F.impl_CrashDisk_2 [.int .i64 (k:Nat),.rref [slc fates] 0] (.int .i64 (c:Int)):=by
    refine call_of rfl 0 ((impl_CrashDisk_2.ev _ _ _).trans ?_)
    simp only [evz,Nat.reduceLT,hkf,List.getElem?_eq_getElem,enc_int,hc]
   have e1:((cells p[k].bytes).take (c*1)).drop (0*1)=cells (p[k].bytes.take c):=by
    rw [cells_take _ 1 c rfl,Nat.zero_mul,List.drop_zero]
   have e2:setCells (cells o[q]) 0 (List.take (cells o[q]).length (cells (p[k].bytes.take c)))=cells (mixed p[k].bytes o[q] c):=by
    have l1:(cells (p[k].bytes.take c)).length=c:=by rw [cells_len1,List.length_take]; omega
    rw [List.take_of_length_le (by rw [l1,cells_len1,ho96]; exact hc96),setCells_zero _ _ (by rw [l1,cells_len1,ho96]; exact hc96),l1]
    unfold mixed
    rw [cells_append]
    congr 1
    have:=cells_drop o[q] 1 c rfl
    rwa [Nat.mul_one] at this
   have e3:List.set (cells p) (k*2+1) (slc p[k].bytes)=cells p:=set_same (by rw [get1 sz_Put (by decide),List.getElem?_eq_getElem h]; rfl)
   have e4:crashStep o (p.zip fates)[k]=o.set q (mixed p[k].bytes o[q] c):=by
    rw [List.getElem_zip]; unfold crashStep
    simp only [hq,hc,Int.toNat_natCast,List.getD_eq_getElem?_getD,List.getElem?_eq_getElem hqo,Option.getD_some]
   have c1:(0:Int)≤(c:Int):=by omega
   have c2:(c:Int)≤((p[k].bytes.length:Nat):Int):=by omega
   simp only [impl_Disk_flush_at1_impl_CrashDisk_2.next0,impl_Disk_flush_at1_impl_CrashDisk_2.round0,evz,Nat.reduceLT,h,List.getElem?_eq_getElem,enc_Put,hq,hqo,enc_list,hw.eq,e1,e2,e3,e4,scalars_u8,lset_List hqo,c1,c2,Int.le_refl,Bool.and_self]
   rw [wrap_succ (by omega)]
 · rw [hzl] at h
   obtain ⟨f1,f2⟩:=hr fates[k] (List.getElem_mem (by omega))
   obtain ⟨hsec,hb⟩:=ok.put _ (List.getElem_mem h)
   refine ⟨by simpa [crashStep] using ho.1,fun y hy => ?_⟩
   rw [List.getElem_zip] at hy
   unfold crashStep at hy
   rcases List.mem_or_eq_of_mem_set hy with h1 | rfl
   · exact ho.2 y h1
   · have hqo:p[k].sector.toNat < o.length:=by rw [ho.1]; omega
     rw [List.getD_eq_getElem?_getD,List.getElem?_eq_getElem hqo]
     exact mixed_len hb (ho.2 _ (List.getElem_mem hqo)) (by omega)
 · rw [hzl]
   simp only [impl_Disk_flush_at1_impl_CrashDisk_2.next0,impl_Disk_flush_at1_impl_CrashDisk_2.round0,evz,Nat.reduceLT,Nat.lt_irrefl,slc_nil]
theorem impl_CrashDisk (d:Disk) (fates:List Int) (hs:sm 1048576 d) (h0:diskFault d=0) (hf:fates.length=d.pending.length) (hr:∀ n∈fates,0≤n∧n≤96) :
 Call F.impl_CrashDisk [.agg (enc d),slc fates] (.agg (enc (DiskResult.mk 0 ⟨crashed d.sectors d.pending fates,[]⟩))):=by
 have h4:=sm_mono (show 1048576≤4294967296 by omega) hs
 obtain ⟨s,p⟩:=d
 have ok:=diskOk h0
 have hle:=ok.le
 have hm:=ok.many
 have hf:fates.length=p.length:=hf
 have z:((fates.length:Nat):Int)=((p.length:Nat):Int):=by omega
 have hn:fates.any badFate=false:=by
  rw [List.any_eq_false]; intro n hn
  obtain ⟨a,b⟩:=hr n hn
  unfold badFate inR
  simp [a,b]
 refine call_of rfl 0 ((impl_CrashDisk.ev _ _ _ _).trans ?_)
 simp only [evz,Nat.reduceLT,(impl_DiskFault s p h4).eq,h0,z,(slices_ContainsFunc_Sint64_at1_impl_CrashDisk_1 fates (by omega)).eq,hn,(impl_ownDisk s p hs).eq,impl_Disk_crash s p fates ok hf hr,enc_DiskResult]
end Ev.Ty
end
section
namespace Ev.Ty
open Go Ev
open Enc (enc)
open Sm (sm)
set_option linter.unusedSimpArgs false
set_option linter.unusedVariables false
set_option maxHeartbeats 1000000
section
variable {code:List UInt8} (hc:code.length≤2097152)
include hc
theorem spec_l14Bytes (p:Int) (hp:0≤p∧p≤1099510000000):Drawn code p 97 (fun x=>∃ l:List UInt8,x=slc l∧l.length=96) (LIM F.spec_l14Bytes [.rref [slc code,.int .i64 p] 0]):=by
 refine drawn_of rfl 97 ?_
 rw [show callK prog A H LIM 97 F.spec_l14Bytes [.rref [slc code,.int .i64 p] 0]=_ from spec_l14Bytes.ev _ _ _]
 refine next_s hc (by omega) fun x _ hx => ?_
 simp only [evz,Nat.reduceLT]
 refine draw_loop (σ:=Int × Nat × List UInt8) (S:=fun m s=>spec_l14Bytes.at0 97 m (spec_l14Bytes.st0 x s.2.1 (cells code) s.1 (cells s.2.2))) (fun s=>s.1=p+1+(s.2.1:Int)∧s.2.2.length=s.2.1∧s.2.1≤96) (fun s=>96 - s.2.1) (fun m s hs => ?_) _ (p+1,0,[]) ⟨by simp,rfl,by simp⟩ (by simp)
 obtain ⟨q,k,l⟩:=s
 obtain ⟨h1,h2,h3⟩:=hs
 simp only at h1 h2 h3 ⊢
 by_cases hk:k < 96
 · right
   obtain ⟨v,_,e⟩:=spec_l1Pick hc q [0,1,3] (ts:=[.int .i64 0,.int .i64 1,.int .i64 3]) rfl (by simp) (by omega)
   obtain ⟨b,hb⟩:∃ b:UInt8,IntKind.wrap .u8 (Int.tmod (IntKind.wrap .i64 (x+IntKind.wrap .i64 ((k:Int)*v))) 256)=(b.toNat:Int):=⟨_,u8_wrap _⟩
   have hk2:(k:Int) < 96:=by omega
   refine ⟨(q+1,k+1,l++[b]),?_,⟨by simp only; omega,by simp [h2],by simp only; omega⟩,by simp only; omega⟩
   simp only [spec_l14Bytes.next0,spec_l14Bytes.round0,evz,Nat.reduceLT,hk2,e,hb]
   rw [cond_pos (ble_ok (by rw [cells_length]; simp only [sz_u8]; omega)),wrap_succ (by omega),cells_snoc_u8]
 · left
   have hk2:¬ (k:Int) < 96:=by omega
   simp only [spec_l14Bytes.next0,spec_l14Bytes.round0,evz,Nat.reduceLT,hk2]
   exact drawn_end (by omega) ⟨l,rfl,by omega⟩
omit hc in
theorem flushed_fault {s:List (List UInt8)} {p:List Put} (h:diskFault ⟨s,p⟩=0):diskFault ⟨flushed s p,[]⟩=0:=by
 have ok:=diskOk h
 have hi:flushI s.length p.length (flushed s p):=fold_inv (flushI s.length) (fun k o h ho=>flushI_step (ok.put _ (List.getElem_mem h)).2 ho) s ⟨rfl,ok.sec⟩
 obtain ⟨h1,_⟩:=diskFault_iff.1 h
 exact diskFault_iff.2 ⟨by rw [hi.1]; exact h1,hi.2,by simp,by simp,by simp⟩
theorem spec_l14Draw (p:Int) (hp:0≤p∧p≤1099500000000):Drawn code p 500 (fun x=>∃ s w,x = .agg [slc s,slc w]∧diskFault ⟨s,w⟩=0) (LIM F.spec_l14Draw [.rref [slc code,.int .i64 p] 0]):=by
 refine drawn_of rfl 7 ?_
 rw [show callK prog A H LIM 7 F.spec_l14Draw [.rref [slc code,.int .i64 p] 0]=_ from spec_l14Draw.ev _ _ _]
 refine pick_s hc [8,8,9,12,64] rfl (by simp) (by omega) fun v hv => ?_
 obtain ⟨n,rfl,hn1,hn2⟩:∃ n:Nat,v=n∧8≤n∧n≤64:=by
  simp only [List.mem_cons,List.not_mem_nil,or_false] at hv
  exact ⟨v.toNat,by omega,by omega,by omega⟩
 simp only [evz,Nat.reduceLT,(spec_l14New n (by omega)).eq]
 refine next_s hc (by omega) fun x hx1 hx2 => ?_
 simp only [evz,Nat.reduceLT]
 refine draw_loop (σ:=Int × Int × List (List UInt8) × List Put) (S:=fun m s=>spec_l14Draw.at0 7 m (spec_l14Draw.st0 s.1 (cells code) s.2.1 (cells s.2.2.1) (cells s.2.2.2))) (fun s=>0≤s.1∧s.1≤5∧p≤s.2.1∧s.2.1≤p+2+(5 - s.1)*99∧diskFault ⟨s.2.2.1,s.2.2.2⟩=0) (fun s=>s.1.toNat) (fun m s hs => ?_) _ (x,p+1+1,List.replicate n zeroSector,[]) ⟨hx1,by simp only; omega,by simp only; omega,by simp only; omega,?_⟩ (by simp only; omega)
 rotate_left
 · refine diskFault_iff.2 ⟨by simp; omega,fun x hx => ?_,by simp,by simp,by simp⟩
   rw [(List.mem_replicate.1 hx).2]; rfl
 obtain ⟨a,q,s,w⟩:=s
 obtain ⟨h1,h2,h3,h4,h5⟩:=hs
 simp only at h1 h2 h3 h4 h5 ⊢
 by_cases ha:a > 0
 · right
   obtain ⟨g1,g2,g3,g4,g5⟩:=diskFault_iff.1 h5
   have hsm:w.length≤1048576:=by omega
   obtain ⟨v,ev,v1,v2⟩:=spec_l1Next hc q 8 (by omega)
   obtain ⟨_,q2,eb,c1,c2,l,rfl,hl⟩:=spec_l14Bytes hc (q+1) (by omega)
   obtain ⟨b,ec⟩:=spec_l1Chance hc q2 3 (by omega)
   have hput:=put_fault (data:=l) h5 (n:=v) ⟨v1,by have:=v2 (by omega); omega⟩ hl
   have ew:=spec_l14Write s w v l hsm (by omega)
   have wa:IntKind.wrap .i64 (a - 1)=a - 1:=wrap64 (by omega)
   cases b with
   | false =>
     refine ⟨(a - 1,q2+1,s,putAt w v l),?_,⟨by simp only; omega,by simp only; omega,by simp only; omega,by simp only; omega,hput⟩,by simp only; omega⟩
     simp only [spec_l14Draw.next0,spec_l14Draw.round0,evz,Nat.reduceLT,ha,ev,eb,ec,ew,wa]
   | true =>
     refine ⟨(a - 1,q2+1,flushed s (putAt w v l),[]),?_,⟨by simp only; omega,by simp only; omega,by simp only; omega,by simp only; omega,flushed_fault hput⟩,by simp only; omega⟩
     simp only [spec_l14Draw.next0,spec_l14Draw.round0,evz,Nat.reduceLT,ha,ev,eb,ec,ew,wa,spec_l14Flush s _ (diskOk hput)]
 · left
   simp only [spec_l14Draw.next0,spec_l14Draw.round0,evz,Nat.reduceLT,ha]
   exact drawn_end (by omega) ⟨s,w,rfl,h5⟩
theorem spec_l14Bent (p:Int) (hp:0≤p∧p≤1099400000000):Drawn code p 3000000 (fun x=>∃ s w,x = .agg [slc s,slc w]∧sm 2000 (Disk.mk s w)) (LIM F.spec_l14Bent [.rref [slc code,.int .i64 p] 0]):=by
 refine drawn_of rfl 70 ?_
 rw [show callK prog A H LIM 70 F.spec_l14Bent [.rref [slc code,.int .i64 p] 0]=_ from spec_l14Bent.ev _ _ _]
 refine drawn_s (spec_l14Draw hc p (by omega)) ?_
 rintro _ p1 a1 b1 ⟨s,w,rfl,hd⟩
 obtain ⟨g1,g2,g3,g4,g5⟩:=diskFault_iff.1 hd
 have hsm:sm 2000 (Disk.mk s w):=⟨⟨by show s.length≤2000; omega,fun x hx=>⟨by rw [g2 x hx]; omega,fun _ _=>trivial⟩⟩,⟨by show w.length≤2000; omega,fun x hx=>⟨by rw [(g4 x hx).2]; omega,fun _ _=>trivial⟩⟩⟩
 simp only [evz,Nat.reduceLT]
 refine chance_s hc (by omega) fun b => ?_
 simp only [evz,Nat.reduceLT]
 cases b with
 | false=>simp only [evz,Nat.reduceLT,Bool.not_false]; exact drawn_end (by omega) ⟨s,w,rfl,hsm⟩
 | true =>
   simp only [evz,Nat.reduceLT,Bool.not_true]
   refine next_s hc (by omega) fun x hx1 hx2 => ?_
   have hx2:=hx2 (by omega)
   simp only [evz,Nat.reduceLT]
   split
   · have e1:(7:Int)≤((s.length:Nat):Int):=by omega
     simp only [e1,Int.le_refl,evz,Nat.reduceLT,Bool.and_self,Int.reduceLE]
     refine drawn_end (by omega) ⟨s.take 7,w,?_,⟨⟨by rw [List.length_take]; omega,fun x hx=>hsm.1.2 x (List.mem_of_mem_take hx)⟩,hsm.2⟩⟩
     have e2:((cells s).take (7*1)).drop (0*1)=cells (s.take 7):=by rw [cells_take s 1 7 rfl,Nat.zero_mul,List.drop_zero]
     rw [e2]; rfl
   split
   · refine next_s hc (by omega) fun y hy1 hy2 => ?_
     obtain ⟨i,rfl⟩:∃ i:Nat,y=i:=⟨y.toNat,by omega⟩
     have hi:i < s.length:=by have:=hy2 (by omega); omega
     simp only [evz,Nat.reduceLT]
     refine pick_s hc [95,97,0] rfl (by simp) (by omega) fun v hv => ?_
     have hv':v≤97:=by
      simp only [List.mem_cons,List.not_mem_nil,or_false] at hv; omega
     simp only [evz,Nat.reduceLT]
     refine drawn_s (spec_l1Some hc _ v (by omega) (by omega)) ?_
     rintro _ p2 a2 b2 ⟨l,rfl,hl⟩
     have z:i*1+1≤s.length*1:=by omega
     simp only [evz,Nat.reduceLT,hi,cells_le,sz_list,z,set_List hi]
     refine drawn_end (by omega) ⟨s.set i l,w,rfl,⟨⟨by rw [List.length_set]; exact hsm.1.1,fun x hx => ?_⟩,hsm.2⟩⟩
     rcases List.mem_or_eq_of_mem_set hx with h | rfl
     · exact hsm.1.2 x h
     · exact ⟨by omega,fun _ _=>trivial⟩
   split
   · split
     · refine next_s hc (by omega) fun y hy1 hy2 => ?_
       obtain ⟨i,rfl⟩:∃ i:Nat,y=i:=⟨y.toNat,by omega⟩
       have hi:i < w.length:=by have:=hy2 (by omega); omega
       simp only [evz,Nat.reduceLT]
       refine pick_s hc [-1,64] rfl (by simp) (by omega) fun v hv => ?_
       have z:i*2+1≤w.length*2:=by omega
       have hset:setCells (cells w) (i*2) [.int .i64 v]=cells (w.set i ⟨v,w[i].bytes⟩):=by
        have:=fset_gen (o:=w) (i:=i) (n:=2) (j:=0) (x:=w[i]) (x':=⟨v,w[i].bytes⟩) (c := .int .i64 v) rfl hi (by decide) (by rw [enc_Put,enc_Put]; rfl)
        rwa [set_same (List.getElem?_eq_getElem hi)] at this
       simp only [evz,Nat.reduceLT,hi,cells_le,sz_Put,z,hset]
       refine drawn_end (by omega) ⟨s,w.set i ⟨v,w[i].bytes⟩,rfl,⟨hsm.1,⟨by rw [List.length_set]; exact hsm.2.1,fun x hx => ?_⟩⟩⟩
       rcases List.mem_or_eq_of_mem_set hx with h | rfl
       · exact hsm.2.2 x h
       · exact hsm.2.2 w[i] (List.getElem_mem hi)
     · exact drawn_end (by omega) ⟨s,w,rfl,hsm⟩
   split
   · split
     · refine next_s hc (by omega) fun y hy1 hy2 => ?_
       obtain ⟨i,rfl⟩:∃ i:Nat,y=i:=⟨y.toNat,by omega⟩
       have hi:i < w.length:=by have:=hy2 (by omega); omega
       simp only [evz,Nat.reduceLT]
       refine drawn_s (spec_l1Some hc _ 95 (by omega) (by omega)) ?_
       rintro _ p2 a2 b2 ⟨l,rfl,hl⟩
       have z:i*2+1+1≤w.length*2:=by omega
       have hset:=idx_set w w[i].sector l hi rfl
       simp only [evz,Nat.reduceLT,hi,cells_le,sz_Put,z,hset]
       refine drawn_end (by omega) ⟨s,w.set i ⟨w[i].sector,l⟩,rfl,⟨hsm.1,⟨by rw [List.length_set]; exact hsm.2.1,fun x hx => ?_⟩⟩⟩
       rcases List.mem_or_eq_of_mem_set hx with h | rfl
       · exact hsm.2.2 x h
       · exact ⟨by show l.length≤2000; omega,fun _ _=>trivial⟩
     · exact drawn_end (by omega) ⟨s,w,rfl,hsm⟩
   split
   · split
     · rename_i hw
       have h0:0 < w.length:=by omega
       have g0:(cells w)[0]?=some (.int .i64 w[0].sector):=by
        have:=get0 (l:=w) (k:=2) (i:=0) rfl
        rw [Nat.zero_mul] at this
        rw [this,List.getElem?_eq_getElem h0]; rfl
       have e0:inB 0 w.length=true:=(inB_nat 0 _).trans (by simpa using h0)
       simp only [evz,Nat.reduceLT,e0,g0]
       refine drawn_s (spec_l14Bytes hc _ (by omega)) ?_
       rintro _ p2 a2 b2 ⟨l,rfl,hl⟩
       simp only [evz,Nat.reduceLT]
       rw [cond_pos (ble_ok (by rw [cells_length]; simp only [sz_Put]; omega)),cells_put]
       refine drawn_end (by omega) ⟨s,w++[⟨w[0].sector,l⟩],rfl,⟨hsm.1,⟨by simp; omega,fun x hx => ?_⟩⟩⟩
       rcases List.mem_append.1 hx with h | h
       · exact hsm.2.2 x h
       · rw [List.mem_singleton.1 h]; exact ⟨by show l.length≤2000; omega,fun _ _=>trivial⟩
     · exact drawn_end (by omega) ⟨s,w,rfl,hsm⟩
   refine draw_loop (σ:=List (List UInt8)) (S:=fun m s=>spec_l14Bent.at1 70 m (spec_l14Bent.st1 (cells code) (p1+1+1) (cells s) (cells w))) (fun s=>sm 2000 s∧s.length≤65) (fun s=>65 - s.length) (fun m s hs => ?_) _ s ⟨hsm.1,by omega⟩ (by omega)
   obtain ⟨k1,k2⟩:=hs
   by_cases hk:s.length < 65
   · right
     have hk2:((s.length:Nat):Int) < 65:=by omega
     refine ⟨s++[zeroSector],?_,⟨⟨by simp; omega,fun x hx => ?_⟩,by simp; omega⟩,by simp; omega⟩
     · simp only [spec_l14Bent.next1,spec_l14Bent.round1,evz,Nat.reduceLT,hk2]
       rw [cond_pos (ble_ok (by rw [cells_length]; simp only [sz_list]; omega)),← cells_snoc_list]
       rfl
     · rcases List.mem_append.1 hx with h | h
       · exact k1.2 x h
       · rw [List.mem_singleton.1 h]; exact ⟨by simp [zeroSector],fun _ _=>trivial⟩
   · left
     have hk2:¬ ((s.length:Nat):Int) < 65:=by omega
     simp only [spec_l14Bent.next1,spec_l14Bent.round1,evz,Nat.reduceLT,hk2]
     exact drawn_end (by omega) ⟨s,w,rfl,⟨k1,hsm.2⟩⟩
theorem spec_DrawReadSector:∃ d n,Call F.spec_DrawReadSector [slc code] (.tup [.agg (enc d),.int .i64 n])∧sm 2000 (d:Disk):=by
 suffices h:∃ r,callK prog A H LIM 0 F.spec_DrawReadSector [slc code]=r∧∃ d n,r=some (.tup [.agg (enc d),.int .i64 n],[])∧sm 2000 (d:Disk) by
  obtain ⟨_,e,d,n,rfl,hd⟩:=h
  exact ⟨d,n,call_of rfl 0 e,hd⟩
 refine ⟨_,spec_DrawReadSector.ev _ _,?_⟩
 rw [show LIM F.spec_l1Source [.sl 1 (cells code)]=_ from spec_l1Source]
 simp only [evz,Nat.reduceLT,oBx_bx]
 refine drawn_s (Q:=fun r=>∃ d n,r=some (.tup [.agg (enc d),.int .i64 n],[])∧sm 2000 (d:Disk)) (spec_l14Bent hc 0 (by omega)) ?_
 rintro _ p1 a1 b1 ⟨s,w,rfl,hsm⟩
 simp only [evz,Nat.reduceLT]
 refine next_s (Q:=fun r=>∃ d n,r=some (.tup [.agg (enc d),.int .i64 n],[])∧sm 2000 (d:Disk)) hc (by omega) fun x1 _ _ => ?_
 simp only [evz,Nat.reduceLT]
 refine next_s (Q:=fun r=>∃ d n,r=some (.tup [.agg (enc d),.int .i64 n],[])∧sm 2000 (d:Disk)) hc (by omega) fun x2 _ _ => ?_
 simp only [evz,Nat.reduceLT]
 refine next_s (Q:=fun r=>∃ d n,r=some (.tup [.agg (enc d),.int .i64 n],[])∧sm 2000 (d:Disk)) hc (by omega) fun x3 _ _ => ?_
 simp only [evz,Nat.reduceLT]
 refine pick_s (Q:=fun r=>∃ d n,r=some (.tup [.agg (enc d),.int .i64 n],[])∧sm 2000 (d:Disk)) hc [x1,x2,x3,0,63,-1] rfl (by simp) (by omega) fun v _ => ?_
 simp only [evz,Nat.reduceLT]
 exact ⟨⟨s,w⟩,v,rfl,hsm⟩
theorem spec_DrawWriteSector:∃ d n l,Call F.spec_DrawWriteSector [slc code] (.tup [.agg (enc d),.int .i64 n,slc l])∧sm 2000 (d:Disk)∧(l:List UInt8).length≤2000:=by
 suffices h:∃ r,callK prog A H LIM 0 F.spec_DrawWriteSector [slc code]=r∧∃ d n l,r=some (.tup [.agg (enc d),.int .i64 n,slc l],[])∧sm 2000 (d:Disk)∧(l:List UInt8).length≤2000 by
  obtain ⟨_,e,d,n,l,rfl,hd⟩:=h
  exact ⟨d,n,l,call_of rfl 0 e,hd⟩
 refine ⟨_,spec_DrawWriteSector.ev _ _,?_⟩
 obtain ⟨d,n,ed,hd⟩:=spec_DrawReadSector hc
 rw [show LIM F.spec_l1Source [.sl 1 (cells code)]=_ from spec_l1Source]
 simp only [evz,Nat.reduceLT,oBx_bx,ed.eq,show enc d=[slc d.sectors,slc d.pending] from rfl]
 refine chance_s (Q:=fun r=>∃ d n l,r=some (.tup [.agg (enc d),.int .i64 n,slc l],[])∧sm 2000 (d:Disk)∧(l:List UInt8).length≤2000) hc (by omega) fun b => ?_
 simp only [evz,Nat.reduceLT]
 cases b with
 | true =>
   simp only [evz,Nat.reduceLT]
   refine pick_s (Q:=fun r=>∃ d n l,r=some (.tup [.agg (enc d),.int .i64 n,slc l],[])∧sm 2000 (d:Disk)∧(l:List UInt8).length≤2000) hc [0,95,97] rfl (by simp) (by omega) fun v hv => ?_
   have hv':v≤97:=by
    simp only [List.mem_cons,List.not_mem_nil,or_false] at hv; omega
   simp only [evz,Nat.reduceLT]
   refine drawn_s (Q:=fun r=>∃ d n l,r=some (.tup [.agg (enc d),.int .i64 n,slc l],[])∧sm 2000 (d:Disk)∧(l:List UInt8).length≤2000) (spec_l1Some hc _ v (by omega) (by omega)) ?_
   rintro _ p2 a2 b2 ⟨l,rfl,hl⟩
   simp only [evz,Nat.reduceLT]
   exact ⟨d,n,l,rfl,hd,by omega⟩
 | false =>
   simp only [evz,Nat.reduceLT]
   refine drawn_s (Q:=fun r=>∃ d n l,r=some (.tup [.agg (enc d),.int .i64 n,slc l],[])∧sm 2000 (d:Disk)∧(l:List UInt8).length≤2000) (spec_l14Bytes hc _ (by omega)) ?_
   rintro _ p2 a2 b2 ⟨l,rfl,hl⟩
   simp only [evz,Nat.reduceLT]
   exact ⟨d,n,l,rfl,hd,by omega⟩
end
end Ev.Ty
end
section
namespace Ev.Ty
open Go Ev
open Enc (enc)
open Sm (sm)
set_option linter.unusedSimpArgs false
set_option linter.unusedVariables false
set_option maxHeartbeats 1000000
theorem laws_FnDisks (code:List UInt8) (h:sm maxLen code):Call F.laws_FnDisks [slc code] (.bool true):=by
 by_cases hbig:(code.length:Int) > 1048576
 · exact call_of rfl 0 ((laws_FnDisks.ev _ _).trans (by simp only [evz,Nat.reduceLT,(laws_lwBig (code:=code)).eq,hbig]))
 have hc:code.length≤2097152:=by omega
 obtain ⟨⟨s,p⟩,n,data,ed,hd,hdata⟩:=spec_DrawWriteSector hc
 have hs:sm 1048576 (Disk.mk s p):=sm_mono (by omega) hd
 have h4:sm 4294967296 (Disk.mk s p):=sm_mono (by omega) hd
 have ew:=impl_WriteSector ⟨s,p⟩ n data hs (by omega)
 have ew':=spec_WriteSector ⟨s,p⟩ n data hs (by omega)
 have ef:=impl_DiskFault s p h4
 have ef':=spec_DiskFault s p h4
 obtain ⟨fate,efa,f1,f2⟩:=laws_lwAt hc 3 97 (by omega)
 have f2:=f2 (by omega)
 by_cases h0:diskFault ⟨s,p⟩=0∧inR n 0 (s.length - 1)=true∧data.length=96
 case neg =>
  have hne:∃ c:Int,writeSectorR ⟨s,p⟩ n data=⟨c,⟨[],[]⟩⟩∧¬ c=0:=by
   unfold writeSectorR
   split
   · rename_i g0
     split
     · rename_i g1
       split
       · rename_i g2; exact absurd ⟨g0,g1,g2⟩ h0
       · exact ⟨1,rfl,by omega⟩
     · exact ⟨3,rfl,by omega⟩
   · exact ⟨_,rfl,by assumption⟩
  obtain ⟨c,hcw,hc0⟩:=hne
  rw [hcw] at ew ew'
  refine call_of rfl 0 ((laws_FnDisks.ev _ _).trans ?_)
  simp only [evz,Nat.reduceLT,(laws_lwBig (code:=code)).eq,hbig,ed.eq,show enc (Disk.mk s p)=[slc s,slc p] from rfl,show (LIM F.impl_WriteSector [.agg [slc s,slc p],.int .i64 n,slc data])=_ from ew.eq,show (LIM F.spec_WriteSector [.agg [slc s,slc p],.int .i64 n,slc data])=_ from ew'.eq,enc_DiskResult,hc0,ef.eq,ef'.eq]
 obtain ⟨g0,g1,g2⟩:=h0
 obtain ⟨k1,k2,k3,k4,k5⟩:=diskFault_iff.1 g0
 have g1':=inR8 g1
 obtain ⟨q,rfl⟩:∃ q:Nat,n=q:=⟨n.toNat,by omega⟩
 have hq:q < s.length:=by omega
 obtain ⟨c,rfl⟩:∃ c:Nat,fate=c:=⟨fate.toNat,by omega⟩
 have hc96:c≤96:=by omega
 have hcw:writeSectorR ⟨s,p⟩ q data=⟨0,⟨s,putAt p q data⟩⟩:=by
  unfold writeSectorR; rw [if_pos g0,if_pos g1,if_pos g2]
 rw [hcw] at ew ew'
 have hput:=put_fault (data:=data) g0 (n:=(q:Int)) ⟨by omega,by omega⟩ g2
 obtain ⟨m1,m2,m3,m4,m5⟩:=diskFault_iff.1 hput
 have sm_of:∀ (s:List (List UInt8)) (p:List Put),diskFault ⟨s,p⟩=0→sm 1048576 (Disk.mk s p):=fun s p h=>by
  obtain ⟨k1,k2,k3,k4,k5⟩:=diskFault_iff.1 h
  exact ⟨⟨by show s.length≤_; omega,fun x hx=>⟨by rw [k2 x hx]; omega,fun _ _=>trivial⟩⟩,⟨by show p.length≤_; omega,fun x hx=>⟨by rw [(k4 x hx).2]; omega,fun _ _=>trivial⟩⟩⟩
 have sW:=sm_of _ _ hput
 have eR:=impl_ReadSector ⟨s,putAt p q data⟩ q sW
 have hR:readSectorR ⟨s,putAt p q data⟩ q=⟨0,data⟩:=by
  unfold readSectorR; rw [if_pos hput,if_pos g1,read_put k5]
 rw [hR] at eR
 have eF:=impl_DiskFault s (putAt p q data) (sm_mono (show 1048576≤4294967296 by omega) sW)
 have eFl:=impl_FlushDisk ⟨s,putAt p q data⟩ sW
 have hFl:flushDiskR ⟨s,putAt p q data⟩=⟨0,⟨flushed s (putAt p q data),[]⟩⟩:=by unfold flushDiskR; rw [if_pos hput]
 rw [hFl] at eFl
 have hff:=flushed_fault hput
 have sF:=sm_of _ _ hff
 have eC:=impl_CrashDisk ⟨flushed s (putAt p q data),[]⟩ [] sF hff rfl (by simp)
 have eC2:=impl_CrashDisk ⟨s,putAt p q data⟩ (List.replicate (putAt p q data).length (c:Int)) sW hput (by simp) (fun n hn=>by rw [(List.mem_replicate.1 hn).2]; omega)
 have hfl:flushed s (putAt p q data)=crashed s (putAt p q data) (List.replicate (putAt p q data).length 96):=by
  unfold flushed crashed
  have:∀ (l:List Put) (s':List (List UInt8)),s'.length=s.length→(∀ x∈s',x.length=96)→(∀ x∈l,(0≤x.sector∧x.sector < s.length)∧x.bytes.length=96)→l.foldl putStep s'=(l.zip (List.replicate l.length (96:Int))).foldl crashStep s':=by
   intro l
   induction l with
   | nil=>intros; rfl
   | cons x l ih =>
     intro s' h1 h2 h3
     have hx:=h3 x List.mem_cons_self
     have hxq:x.sector.toNat < s'.length:=by omega
     have e:crashStep s' (x,96)=putStep s' x:=by
      unfold crashStep putStep mixed
      simp only
      rw [List.getD_eq_getElem?_getD,List.getElem?_eq_getElem hxq,Option.getD_some]
      have h9:=h2 _ (List.getElem_mem hxq)
      rw [show (Int.toNat 96)=96 from rfl,List.take_of_length_le (by omega),List.drop_of_length_le (by omega),List.append_nil]
     rw [List.length_cons,List.replicate_succ,List.zip_cons_cons,List.foldl_cons,List.foldl_cons,e]
     refine ih _ (by unfold putStep; rw [List.length_set]; exact h1) (fun y hy => ?_) fun y hy=>h3 y (List.mem_cons_of_mem _ hy)
     rcases List.mem_or_eq_of_mem_set hy with h | rfl
     · exact h2 y h
     · exact hx.2
  exact this _ s rfl m2 m4
 have eS:=impl_SameDisks ⟨flushed s (putAt p q data),[]⟩ ⟨flushed s (putAt p q data),[]⟩ sF sF
 have eR2:=impl_ReadSector ⟨flushed s (putAt p q data),[]⟩ q sF
 have hlf:(flushed s (putAt p q data)).length=s.length:=by rw [hfl,crashed_length]
 have hmix:mixed data (s.getD q []) 96=data:=by
  unfold mixed
  rw [List.getD_eq_getElem?_getD,List.getElem?_eq_getElem hq,Option.getD_some]
  have h9:=k2 _ (List.getElem_mem hq)
  rw [List.take_of_length_le (by omega),List.drop_of_length_le (by omega),List.append_nil]
 have hR2:readSectorR ⟨flushed s (putAt p q data),[]⟩ q=⟨0,data⟩:=by
  unfold readSectorR
  rw [if_pos hff,if_pos (by rw [hlf]; exact g1),read_still,Int.toNat_natCast,hfl,crash_put g0 hq]
  exact congrArg _ hmix
 rw [hR2] at eR2
 have hcl:(crashed s (putAt p q data) (List.replicate (putAt p q data).length (c:Int))).length=s.length:=crashed_length _ _ _
 have hc9:∀ x∈crashed s (putAt p q data) (List.replicate (putAt p q data).length (c:Int)),x.length=96:=by
  unfold crashed
  have:∀ (l:List Put) (s':List (List UInt8)),s'.length=s.length→(∀ x∈s',x.length=96)→(∀ x∈l,(0≤x.sector∧x.sector < s.length)∧x.bytes.length=96)→∀ x∈(l.zip (List.replicate l.length (c:Int))).foldl crashStep s',x.length=96:=by
   intro l
   induction l with
   | nil=>intro s' _ h2 _; exact h2
   | cons x l ih =>
     intro s' h1 h2 h3
     have hx:=h3 x List.mem_cons_self
     have hxq:x.sector.toNat < s'.length:=by omega
     rw [List.length_cons,List.replicate_succ,List.zip_cons_cons,List.foldl_cons]
     refine ih _ (by unfold crashStep; rw [List.length_set]; exact h1) (fun y hy => ?_) fun y hy=>h3 y (List.mem_cons_of_mem _ hy)
     unfold crashStep at hy
     rcases List.mem_or_eq_of_mem_set hy with h | rfl
     · exact h2 y h
     · simp only
       rw [List.getD_eq_getElem?_getD,List.getElem?_eq_getElem hxq,Option.getD_some]
       exact mixed_len hx.2 (h2 _ (List.getElem_mem hxq)) (by simp only [Int.toNat_natCast]; exact hc96)
  exact this _ s rfl m2 m4
 have hcf:diskFault ⟨crashed s (putAt p q data) (List.replicate (putAt p q data).length (c:Int)),[]⟩=0:=diskFault_iff.2 ⟨by rw [hcl]; exact k1,hc9,by simp,by simp,by simp⟩
 have sC:=sm_of _ _ hcf
 have eR3:=impl_ReadSector ⟨crashed s (putAt p q data) (List.replicate (putAt p q data).length (c:Int)),[]⟩ q sC
 have hR3:readSectorR ⟨crashed s (putAt p q data) (List.replicate (putAt p q data).length (c:Int)),[]⟩ q=⟨0,mixed data (s.getD q []) c⟩:=by
  unfold readSectorR
  rw [if_pos hcf,if_pos (by rw [hcl]; exact g1),read_still,Int.toNat_natCast,crash_put g0 hq]
  rfl
 rw [hR3] at eR3
 have hm96:(mixed data (s.getD q []) c).length=96:=mixed_len g2 (by rw [List.getD_eq_getElem?_getD,List.getElem?_eq_getElem hq]; exact k2 _ (List.getElem_mem hq)) hc96
 refine call_of rfl 1000 ((laws_FnDisks.ev _ _).trans ?_)
 simp only [evz,Nat.reduceLT,(laws_lwBig (code:=code)).eq,hbig,ed.eq,show enc (Disk.mk s p)=[slc s,slc p] from rfl,show (LIM F.impl_WriteSector [.agg [slc s,slc p],.int .i64 q,slc data])=_ from ew.eq,show (LIM F.spec_WriteSector [.agg [slc s,slc p],.int .i64 q,slc data])=_ from ew'.eq,enc_DiskResult,
  show (LIM F.impl_ReadSector [.agg [slc s,slc (putAt p q data)],.int .i64 q])=_ from eR.eq,enc_BytesResult,(laws_lwBytes _ _).eq,eF.eq,hput,efa.eq,Bool.not_true]
 refine run_loop (n:=(putAt p q data).length) (S:=fun m k o=>laws_FnDisks.at0 1000 m (laws_FnDisks.st0 q (cells data) c (k:Nat) (cells s) (cells p) (cells s) (cells (putAt p q data)) 0 (cells o))) (st:=fun k=>List.replicate k (c:Int)) (fun m k hk => ?_) (fun m => ?_) (by omega)
 · simp only [laws_FnDisks.next0,laws_FnDisks.round0,evz,Nat.reduceLT,hk]
   rw [wrap_succ (by omega),cond_pos (ble_ok (by rw [cells_length,List.length_replicate]; simp only [sz_int]; omega)),cells_snoc_int,← List.replicate_succ']
 · have z1:((96:Nat):Int)=96:=rfl
   have z2:(0:Int)≤(c:Int):=by omega
   have z3:(c:Int)≤96:=by omega
   have hsq:s[q]?=some s[q]:=List.getElem?_eq_getElem hq
   have h9:s[q].length=96:=k2 _ (List.getElem_mem hq)
   have t1:((cells data).take (c*1)).drop (0*1)=cells (data.take c):=by rw [cells_take data 1 c rfl,Nat.zero_mul,List.drop_zero]
   have t2:((cells s[q]).take (96*1)).drop (c*1)=cells (s[q].drop c):=by
    rw [cells_take s[q] 1 96 rfl,List.take_of_length_le (by omega),cells_drop s[q] 1 c rfl]
   have t3:cells (data.take c)++cells (s[q].drop c)=cells (mixed data (s.getD q []) c):=by
    rw [← cells_append]; unfold mixed; rw [List.getD_eq_getElem?_getD,hsq]; rfl
   have l1:(cells (data.take c)).length=c:=by rw [cells_len1,List.length_take]; omega
   have l2:(cells (s[q].drop c)).length=96 - c:=by rw [cells_len1,List.length_drop]; omega
   simp only [laws_FnDisks.next0,laws_FnDisks.round0,evz,Nat.reduceLT,Nat.lt_irrefl,show (LIM F.impl_FlushDisk [.agg [slc s,slc (putAt p q data)]])=_ from eFl.eq,enc_DiskResult,
    show (LIM F.impl_CrashDisk [.agg [slc (flushed s (putAt p q data)),slc ([]:List Put)],.sl 1 []])=_ from eC.eq,show (LIM F.impl_CrashDisk [.agg [slc s,slc (putAt p q data)],slc (List.replicate (putAt p q data).length (c:Int))])=_ from eC2.eq,
    show crashed (flushed s (putAt p q data)) [] []=flushed s (putAt p q data) from rfl]
   simp only [evz,Nat.reduceLT,show (LIM F.impl_SameDisks [.agg [slc (flushed s (putAt p q data)),slc ([]:List Put)],.agg [slc (flushed s (putAt p q data)),slc ([]:List Put)]])=_ from eS.eq,
    show (LIM F.impl_ReadSector [.agg [slc (flushed s (putAt p q data)),slc ([]:List Put)],.int .i64 q])=_ from eR2.eq,enc_BytesResult,(laws_lwBytes _ _).eq,Bool.not_true,
    show (LIM F.impl_ReadSector [.agg [slc (crashed s (putAt p q data) (List.replicate (putAt p q data).length (c:Int))),slc ([]:List Put)],.int .i64 q])=_ from eR3.eq,hm96,z1,z2,z3,g2,Int.le_refl,Bool.and_self,t1,scalars_u8,hq,hsq,enc_list,h9,t2,t3,l1,l2,List.length_nil]
   rw [cond_pos (ble_ok (by omega)),cond_pos (ble_ok (by omega))]; rfl
end Ev.Ty
end
