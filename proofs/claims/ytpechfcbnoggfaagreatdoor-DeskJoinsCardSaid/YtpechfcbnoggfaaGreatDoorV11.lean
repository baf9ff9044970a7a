import Derived.Test.YtpechfcbnoggfaaGreatDoorV4
import Derived.Test.YtpechfcbnoggfaaGreatDoorAmH
import Derived.Test.YtpechfcbnoggfaaGreatDoorE11
import Derived.Test.YtpechfcbnoggfaaGreatDoorE10
import Derived.Test.YtpechfcbnoggfaaGreatDoorE1
import Derived.Test.YtpechfcbnoggfaaGreatDoorV36
set_option maxHeartbeats 2000000
set_option linter.unusedVariables false
set_option linter.unusedSimpArgs false
namespace Go.Nest
open Go Go.AM Go.Proofs
open Go.Proofs.YtpechfcbnoggfaaGreatDoor (tab tabOk)
set_option maxRecDepth 100000
theorem zt(u:Bool)(s S:FS)(t T:List UInt8)(r:Int)(p:aa Tryz.prog 191 [.c (.ptr 11 0),.c (.int .i64 r)] (aP u s t) (Rt (.ao []) (aT true S T))):aa Tryz.prog 116 [.c (.ptr 11 0),.c (.str [100,111,99,115]),.c (.bs 1 Int encI [r]),.c (.bs 1 (List UInt8) encS [])] (aP u s t) (Rt (.ao []) (aT true S T)):=by
 refine af (n:=76) (n0:=34) tabOk Tryz.call116 Tryz.func116 ?_;intro hb
 cases a:u<;>(
  rw[a]at p;refine⟨0,r,rfl,rfl,?_⟩;refine aE (mD 0) (bK 22 d22 true S T) p ?_;exact aF (rD 22))
theorem zy(u:Bool)(s S:FS)(t T:List UInt8)(r:Int)(p:aa Tryz.prog 192 [.c (.ptr 11 0),.c (.int .i64 r)] (aP u s t) (Rt (.ao []) (aT true S T))):aa Tryz.prog 116 [.c (.ptr 11 0),.c (.str [115,116,97,116,117,115]),.c (.bs 1 Int encI [r]),.c (.bs 1 (List UInt8) encS [])] (aP u s t) (Rt (.ao []) (aT true S T)):=by
 refine af (n:=76) (n0:=34) tabOk Tryz.call116 Tryz.func116 ?_;intro hb
 cases a:u<;>(
  rw[a]at p;refine⟨0,r,rfl,rfl,?_⟩;refine aE (mD 0) (bK 22 d22 true S T) p ?_;exact aF (rD 22))
theorem zw(u:Bool)(s S:FS)(t T:List UInt8)(r:Int)(p:aa Tryz.prog 193 [.c (.ptr 11 0),.c (.int .i64 r)] (aP u s t) (Rt (.ao []) (aT true S T))):aa Tryz.prog 116 [.c (.ptr 11 0),.c (.str [114,101,102,115]),.c (.bs 1 Int encI [r]),.c (.bs 1 (List UInt8) encS [])] (aP u s t) (Rt (.ao []) (aT true S T)):=by
 refine af (n:=76) (n0:=34) tabOk Tryz.call116 Tryz.func116 ?_;intro hb
 cases a:u<;>(
  rw[a]at p;refine⟨0,r,rfl,rfl,?_⟩;refine aE (mD 0) (bK 22 d22 true S T) p ?_;exact aF (rD 22))
theorem zz(u:Bool)(s S:FS)(t T:List UInt8)(r:Int)(p:aa Tryz.prog 194 [.c (.ptr 11 0),.c (.int .i64 r)] (aP u s t) (Rt (.ao []) (aT true S T))):aa Tryz.prog 116 [.c (.ptr 11 0),.c (.str [119,104,111,108,101]),.c (.bs 1 Int encI [r]),.c (.bs 1 (List UInt8) encS [])] (aP u s t) (Rt (.ao []) (aT true S T)):=by
 refine af (n:=76) (n0:=34) tabOk Tryz.call116 Tryz.func116 ?_;intro hb
 cases a:u<;>(
  rw[a]at p;refine⟨0,r,rfl,rfl,?_⟩;refine aE (mD 0) (bK 22 d22 true S T) p ?_;exact aF (rD 22))
theorem zu(u:Bool)(s S:FS)(t T:List UInt8)(r:Int)(p:aa Tryz.prog 195 [.c (.ptr 11 0),.c (.int .i64 r)] (aP u s t) (Rt (.ao []) (aT true S T))):aa Tryz.prog 116 [.c (.ptr 11 0),.c (.str [111,119,110]),.c (.bs 1 Int encI [r]),.c (.bs 1 (List UInt8) encS [])] (aP u s t) (Rt (.ao []) (aT true S T)):=by
 refine af (n:=76) (n0:=34) tabOk Tryz.call116 Tryz.func116 ?_;intro hb
 cases a:u<;>(
  rw[a]at p;refine⟨0,r,rfl,rfl,?_⟩;refine aE (mD 0) (bK 22 d22 true S T) p ?_;exact aF (rD 22))
theorem zA(u:Bool)(s S:FS)(t T:List UInt8)(r:Int)(a x b:List UInt8)(e:x.length<=4000000)(hm:fA x=some b)(p:aa Tryz.prog 196 [.c (.ptr 11 0),.st (az ⟨1,r,0,a,[],[],b⟩)] (aP u s t) (Rt (.ao []) (aT true S T))):
  aa Tryz.prog 116 [.c (.ptr 11 0),.c (.str [119,114,105,116,101]),.c (.bs 1 Int encI [r]),.c (.bs 1 (List UInt8) encS [a,x])] (aP u s t) (Rt (.ao []) (aT true S T)):=by
 have q:=C1 x e;rw[hm]at q;refine af (n:=76) (n0:=34) tabOk Tryz.call116 Tryz.func116 ?_;intro hb
 cases d:u<;>(
  rw[d]at p;refine⟨1,x,rfl,rfl,?_⟩;refine cl [] [] (q) ?_;refine⟨false,.grow,(.l [0,1,2,3,4,5,6,7,8,9]),by kernel_rfl,.inl ?_⟩;refine⟨0,r,rfl,rfl,?_⟩;refine⟨0,a,rfl,rfl,?_⟩;refine Am [34] (mD 0) (bK 23 (d22++[.bh 1 UInt8 aN b]) true S T) p ?_;exact aF (rD 23))
theorem F8(u:Bool)(s S:FS)(t T:List UInt8)(n:List Int)(ws:List (List UInt8))(x:ck)(q:aa Tryz.prog 197 [.c (.str [114,101,109,111,118,101]),.c (.bs 1 Int encI n),.c (.bs 1 (List UInt8) encS ws)] [] (Rt (.st (az x)) []))(p:aa Tryz.prog 196 [.c (.ptr 11 0),.st (az x)] (aP u s t) (Rt (.ao []) (aT true S T))):
  aa Tryz.prog 116 [.c (.ptr 11 0),.c (.str [114,101,109,111,118,101]),.c (.bs 1 Int encI n),.c (.bs 1 (List UInt8) encS ws)] (aP u s t) (Rt (.ao []) (aT true S T)):=by
 refine af (n:=76) (n0:=34) tabOk Tryz.call116 Tryz.func116 ?_;intro hb
 cases a:u<;>(
  rw[a]at p;refine cl [] [] (q) ?_;refine aE (mD 0) (bK 22 d22 true S T) p ?_;exact aF (rD 22))
theorem F5(u:Bool)(s S:FS)(t T:List UInt8)(n:List Int)(ws:List (List UInt8))(x:ck)(q:aa Tryz.prog 197 [.c (.str [108,105,110,107]),.c (.bs 1 Int encI n),.c (.bs 1 (List UInt8) encS ws)] [] (Rt (.st (az x)) []))(p:aa Tryz.prog 196 [.c (.ptr 11 0),.st (az x)] (aP u s t) (Rt (.ao []) (aT true S T))):
  aa Tryz.prog 116 [.c (.ptr 11 0),.c (.str [108,105,110,107]),.c (.bs 1 Int encI n),.c (.bs 1 (List UInt8) encS ws)] (aP u s t) (Rt (.ao []) (aT true S T)):=by
 refine af (n:=76) (n0:=34) tabOk Tryz.call116 Tryz.func116 ?_;intro hb
 cases a:u<;>(
  rw[a]at p;refine cl [] [] (q) ?_;refine aE (mD 0) (bK 22 d22 true S T) p ?_;exact aF (rD 22))
theorem zr(u:Bool)(s S:FS)(t T:List UInt8)(n:List Int)(ws:List (List UInt8))(x:ck)(q:aa Tryz.prog 197 [.c (.str [99,111,109,109,105,116]),.c (.bs 1 Int encI n),.c (.bs 1 (List UInt8) encS ws)] [] (Rt (.st (az x)) []))(p:aa Tryz.prog 196 [.c (.ptr 11 0),.st (az x)] (aP u s t) (Rt (.ao []) (aT true S T))):
  aa Tryz.prog 116 [.c (.ptr 11 0),.c (.str [99,111,109,109,105,116]),.c (.bs 1 Int encI n),.c (.bs 1 (List UInt8) encS ws)] (aP u s t) (Rt (.ao []) (aT true S T)):=by
 refine af (n:=76) (n0:=34) tabOk Tryz.call116 Tryz.func116 ?_;intro hb
 cases a:u<;>(
  rw[a]at p;refine cl [] [] (q) ?_;refine aE (mD 0) (bK 22 d22 true S T) p ?_;exact aF (rD 22))
theorem FZ(u:Bool)(s S:FS)(t T:List UInt8)(n:List Int)(ws:List (List UInt8))(x:ck)(q:aa Tryz.prog 197 [.c (.str [99,104,101,99,107,111,117,116]),.c (.bs 1 Int encI n),.c (.bs 1 (List UInt8) encS ws)] [] (Rt (.st (az x)) []))(p:aa Tryz.prog 196 [.c (.ptr 11 0),.st (az x)] (aP u s t) (Rt (.ao []) (aT true S T))):
  aa Tryz.prog 116 [.c (.ptr 11 0),.c (.str [99,104,101,99,107,111,117,116]),.c (.bs 1 Int encI n),.c (.bs 1 (List UInt8) encS ws)] (aP u s t) (Rt (.ao []) (aT true S T)):=by
 refine af (n:=76) (n0:=34) tabOk Tryz.call116 Tryz.func116 ?_;intro hb
 cases a:u<;>(
  rw[a]at p;refine cl [] [] (q) ?_;refine aE (mD 0) (bK 22 d22 true S T) p ?_;exact aF (rD 22))
theorem F6(u:Bool)(s S:FS)(t T:List UInt8)(n:List Int)(ws:List (List UInt8))(x:ck)(q:aa Tryz.prog 197 [.c (.str [109,101,114,103,101]),.c (.bs 1 Int encI n),.c (.bs 1 (List UInt8) encS ws)] [] (Rt (.st (az x)) []))(p:aa Tryz.prog 196 [.c (.ptr 11 0),.st (az x)] (aP u s t) (Rt (.ao []) (aT true S T))):
  aa Tryz.prog 116 [.c (.ptr 11 0),.c (.str [109,101,114,103,101]),.c (.bs 1 Int encI n),.c (.bs 1 (List UInt8) encS ws)] (aP u s t) (Rt (.ao []) (aT true S T)):=by
 refine af (n:=76) (n0:=34) tabOk Tryz.call116 Tryz.func116 ?_;intro hb
 cases a:u<;>(
  rw[a]at p;refine cl [] [] (q) ?_;refine aE (mD 0) (bK 22 d22 true S T) p ?_;exact aF (rD 22))
theorem FY(u:Bool)(s S:FS)(t T:List UInt8)(n:List Int)(ws:List (List UInt8))(x:ck)(q:aa Tryz.prog 197 [.c (.str [98,114,97,110,99,104]),.c (.bs 1 Int encI n),.c (.bs 1 (List UInt8) encS ws)] [] (Rt (.st (az x)) []))(p:aa Tryz.prog 196 [.c (.ptr 11 0),.st (az x)] (aP u s t) (Rt (.ao []) (aT true S T))):
  aa Tryz.prog 116 [.c (.ptr 11 0),.c (.str [98,114,97,110,99,104]),.c (.bs 1 Int encI n),.c (.bs 1 (List UInt8) encS ws)] (aP u s t) (Rt (.ao []) (aT true S T)):=by
 refine af (n:=76) (n0:=34) tabOk Tryz.call116 Tryz.func116 ?_;intro hb
 cases a:u<;>(
  rw[a]at p;refine cl [] [] (q) ?_;refine aE (mD 0) (bK 22 d22 true S T) p ?_;exact aF (rD 22))
theorem F3(u:Bool)(s S:FS)(t T:List UInt8)(n:List Int)(ws:List (List UInt8))(x:ck)(q:aa Tryz.prog 197 [.c (.str [100,101,108,101,116,101]),.c (.bs 1 Int encI n),.c (.bs 1 (List UInt8) encS ws)] [] (Rt (.st (az x)) []))(p:aa Tryz.prog 196 [.c (.ptr 11 0),.st (az x)] (aP u s t) (Rt (.ao []) (aT true S T))):
  aa Tryz.prog 116 [.c (.ptr 11 0),.c (.str [100,101,108,101,116,101]),.c (.bs 1 Int encI n),.c (.bs 1 (List UInt8) encS ws)] (aP u s t) (Rt (.ao []) (aT true S T)):=by
 refine af (n:=76) (n0:=34) tabOk Tryz.call116 Tryz.func116 ?_;intro hb
 cases a:u<;>(
  rw[a]at p;refine cl [] [] (q) ?_;refine aE (mD 0) (bK 22 d22 true S T) p ?_;exact aF (rD 22))
theorem F4(u:Bool)(s S:FS)(t T:List UInt8)(n:List Int)(ws:List (List UInt8))(x:ck)(q:aa Tryz.prog 197 [.c (.str [102,101,116,99,104]),.c (.bs 1 Int encI n),.c (.bs 1 (List UInt8) encS ws)] [] (Rt (.st (az x)) []))(p:aa Tryz.prog 196 [.c (.ptr 11 0),.st (az x)] (aP u s t) (Rt (.ao []) (aT true S T))):
  aa Tryz.prog 116 [.c (.ptr 11 0),.c (.str [102,101,116,99,104]),.c (.bs 1 Int encI n),.c (.bs 1 (List UInt8) encS ws)] (aP u s t) (Rt (.ao []) (aT true S T)):=by
 refine af (n:=76) (n0:=34) tabOk Tryz.call116 Tryz.func116 ?_;intro hb
 cases a:u<;>(
  rw[a]at p;refine cl [] [] (q) ?_;refine aE (mD 0) (bK 22 d22 true S T) p ?_;exact aF (rD 22))
theorem FX(u:Bool)(s S:FS)(t T:List UInt8)(n:List Int)(ws:List (List UInt8))(x:ck)(q:aa Tryz.prog 197 [.c (.str [98,111,114,114,111,119]),.c (.bs 1 Int encI n),.c (.bs 1 (List UInt8) encS ws)] [] (Rt (.st (az x)) []))(p:aa Tryz.prog 196 [.c (.ptr 11 0),.st (az x)] (aP u s t) (Rt (.ao []) (aT true S T))):
  aa Tryz.prog 116 [.c (.ptr 11 0),.c (.str [98,111,114,114,111,119]),.c (.bs 1 Int encI n),.c (.bs 1 (List UInt8) encS ws)] (aP u s t) (Rt (.ao []) (aT true S T)):=by
 refine af (n:=76) (n0:=34) tabOk Tryz.call116 Tryz.func116 ?_;intro hb
 cases a:u<;>(
  rw[a]at p;refine cl [] [] (q) ?_;refine aE (mD 0) (bK 22 d22 true S T) p ?_;exact aF (rD 22))
theorem Ga(u:Bool)(s S:FS)(t T:List UInt8)(n:List Int)(ws:List (List UInt8))(x:ck)(q:aa Tryz.prog 197 [.c (.str [115,119,101,101,112]),.c (.bs 1 Int encI n),.c (.bs 1 (List UInt8) encS ws)] [] (Rt (.st (az x)) []))(p:aa Tryz.prog 196 [.c (.ptr 11 0),.st (az x)] (aP u s t) (Rt (.ao []) (aT true S T))):
  aa Tryz.prog 116 [.c (.ptr 11 0),.c (.str [115,119,101,101,112]),.c (.bs 1 Int encI n),.c (.bs 1 (List UInt8) encS ws)] (aP u s t) (Rt (.ao []) (aT true S T)):=by
 refine af (n:=76) (n0:=34) tabOk Tryz.call116 Tryz.func116 ?_;intro hb
 cases a:u<;>(
  rw[a]at p;refine cl [] [] (q) ?_;refine aE (mD 0) (bK 22 d22 true S T) p ?_;exact aF (rD 22))
theorem F9(u:Bool)(s S:FS)(t T:List UInt8)(n:List Int)(ws:List (List UInt8))(x:ck)(q:aa Tryz.prog 197 [.c (.str [115,112,108,105,116]),.c (.bs 1 Int encI n),.c (.bs 1 (List UInt8) encS ws)] [] (Rt (.st (az x)) []))(p:aa Tryz.prog 196 [.c (.ptr 11 0),.st (az x)] (aP u s t) (Rt (.ao []) (aT true S T))):
  aa Tryz.prog 116 [.c (.ptr 11 0),.c (.str [115,112,108,105,116]),.c (.bs 1 Int encI n),.c (.bs 1 (List UInt8) encS ws)] (aP u s t) (Rt (.ao []) (aT true S T)):=by
 refine af (n:=76) (n0:=34) tabOk Tryz.call116 Tryz.func116 ?_;intro hb
 cases a:u<;>(
  rw[a]at p;refine cl [] [] (q) ?_;refine aE (mD 0) (bK 22 d22 true S T) p ?_;exact aF (rD 22))
theorem nD(u:Bool)(s S:FS)(t T l a rest b:List UInt8)(more:Bool)(n:List Int)(w:List (List UInt8))(v:l≠[])(i:b5 32 l=(a,rest,more))(e:eJ a=(b,true))(j:b.length<=1000)(k:rest.length<=1000000)(d:fE b rest [] []=(n,w,true))(f:b≠[]\/l=a)
  (p:aa Tryz.prog 116 [.c (.ptr 11 0),.c (.str a),.c (.bs 1 Int encI n),.c (.bs 1 (List UInt8) encS w)] (aP u s t) (Rt (.ao []) (aT true S T))):
  aa Tryz.prog 47 [.c (.ptr 11 0),.c (.str l)] (aP u s t) (Rt (.ao []) (aT true S T)):=by
 have m:=qF 32 l;have o:=uo a;have r:=sS rest b j k _ d;rw[i]at m;rw[e]at o;dsimp only at m o r;refine af (n:=55) (n0:=34) tabOk Tryz.call47 Tryz.func47 ?_;intro hb
 cases z:u<;>(
  rw[z]at p;refine dec (λh=>absurd h v) (λ_=>?_);refine cl [] [] (m) ?_;refine cl [] [] (o) ?_;refine cl [] [] (r) ?_;refine dec (λq=>?_) (λq=>?_)
  ·have x:l=a:=f.resolve_left (λg=>g q);refine ay (λy=>absurd x y) (λ_=>?_);refine aE (mD 0) (bK 24 (d22++[.row 1 Int encI n,.row 1 (List UInt8) encS w]) true S T) p ?_;exact aF (rD 24)
  ·refine aE (mD 0) (bK 24 (d22++[.row 1 Int encI n,.row 1 (List UInt8) encS w]) true S T) p ?_;exact aF (rD 24))
def fI:List UInt8:=bF [[119,104,97,116]]
theorem CL(u:Bool)(s:FS)(t l a rest:List UInt8)(more:Bool)(n:List Int)(w:List (List UInt8))(is:Bool)(k:l≠[])(e:b5 32 l=(a,rest,more))(d:eJ a=([],false))(f:rest.length<=1000000)(b:fE [] rest [] []=(n,w,is))(hl:t.length+fI.length<=100000000):
  aa Tryz.prog 47 [.c (.ptr 11 0),.c (.str l)] (aP u s t) (Rt (.ao []) (aT true s (t++fI))):=by
 have g:=qF 32 l;have i:=uo a;have j:=sS rest [] (by decide) f _ b;have p:=fF u s t [[119,104,97,116]] hl (by decide);rw[e]at g;rw[d]at i;dsimp only at g i j;refine af (n:=55) (n0:=34) tabOk Tryz.call47 Tryz.func47 ?_;intro hb
 cases m:u<;>(
  rw[m]at p;refine dec (λh=>absurd h k) (λ_=>?_);refine cl [] [] (g) ?_;refine cl [] [] (i) ?_;refine cl [] [] (j) ?_;refine⟨[[119,104,97,116]],rfl,?_⟩;refine aE (mD 0) (bK 25 (d22++[.row 1 Int encI n,.row 1 (List UInt8) encS w,.row 1 (List UInt8) encS [[119,104,97,116]]]) true s (t++fI)) p ?_;exact aF (rD 25))
end Go.Nest
