/- part -/
import Derived.Shelf.Bytes.SlJoin
import Derived.Test.YtpechfcbnoggfaaGreatDoorProg
import Derived.KernelRfl
namespace Go.Nest
open Go Go.Proofs Go.Shelf
set_option maxRecDepth 100000
def HF:Ren:={f:=fun n=>bif Nat.beq n 14 then 347 else bif Nat.beq n 15 then 341 else n,t:=fun n=>bif Nat.beq n 26 then 286 else bif Nat.beq n 22 then 33 else bif Nat.beq n 3 then 3 else bif Nat.beq n 4 then 4 else bif Nat.beq n 0 then 0 else bif Nat.beq n 9 then 9 else bif Nat.beq n 20 then 20 else bif Nat.beq n 5 then 5 else n,g:=fun n=>n}
theorem o7:SlLaysJ.n14 Tryz.prog HF:={mixed:=by kernel_rfl,f14:=Tryz.func347.trans (congrArg some (by kernel_rfl)),f15:=Tryz.func341.trans (congrArg some (by kernel_rfl)),t0:=Tryz.underlying0,a0:=Tryz.isAgg0,z0:=Tryz.sizeOf0,v0:=Tryz.zeroValue0,t3:=Tryz.underlying3,a3:=Tryz.isAgg3,z3:=Tryz.sizeOf3,v3:=Tryz.zeroValue3,t4:=Tryz.underlying4,a4:=Tryz.isAgg4,z4:=Tryz.sizeOf4,v4:=Tryz.zeroValue4,t9:=Tryz.underlying9,a9:=Tryz.isAgg9,z9:=Tryz.sizeOf9,v9:=Tryz.zeroValue9,t20:=Tryz.underlying20,a20:=Tryz.isAgg20,z20:=Tryz.sizeOf20,v20:=Tryz.zeroValue20,t22:=Tryz.underlying33,a22:=Tryz.isAgg33,z22:=Tryz.sizeOf33,v22:=Tryz.zeroValue33,t26:=Tryz.underlying286,a26:=Tryz.isAgg286,z26:=Tryz.sizeOf286,v26:=Tryz.zeroValue286,t5:=Tryz.underlying5,z5:=Tryz.sizeOf5,i5:=by kernel_rfl}
end Go.Nest
