import Derived.Test.YtpechfcbnoggfaaGreatDoorV12
import Derived.Test.YtpechfcbnoggfaaGreatDoorV4
import Derived.Test.YtpechfcbnoggfaaGreatDoorE13
import Derived.Test.YtpechfcbnoggfaaGreatDoorE10
import Derived.Test.YtpechfcbnoggfaaGreatDoorE12
set_option maxHeartbeats 8000000
set_option linter.unusedVariables false
set_option linter.unusedSimpArgs false
open List renaming getElem?_eq_getElem->M,getElem_mem->O
open Nat renaming zero_le->N
section
namespace Go.Nest
open Go Go.AM Go.Proofs
open Go.Proofs.YtpechfcbnoggfaaGreatDoor (tab tabOk)
set_option maxRecDepth 100000
def jR:List Rn:=[.s 0,.s 1,.s 2,.s 3,.s 4,.s 5,.s 6,.s 7,.s 8,.s 9,.s 10,.s 11,.s 12,.s 13,.s 14,.s 15,.s 16,.s 17,.s 18,.s 19,.s 20,.s 21,.s 22,.s 23,.s 24,.s 25,.s 26,.s 27,.s 28,.s 29,.s 30,.s 31,.s 32]
def HZ:List Rn:=[.s 12,.s 13,.s 14,.s 15,.s 16,.s 17,.s 18,.s 19,.s 20,.s 21,.s 22,.s 23,.s 24,.s 25,.s 26,.s 27,.s 28,.s 29,.s 30,.s 31,.s 32]
theorem AX(u:Bool)(c:C)(j:(u=false/\c= .nil)\/(u=true/\∃f,c= .ls 1 UInt8 aN f))(lines:List (List UInt8))(hn:lines.length<=200)(t:∀l∈lines,¬0<=Lib.indexByte l 10)(U:Nat->Bool)(S:Nat->FS)(T:Nat->List UInt8)(E:U 0=false)(D:T 0=[])
  (H:∀(i:Nat) (h:i<lines.length),aa Tryz.prog 47 [.c (.ptr 11 0),.c (.str lines[i])] (aP (U i) (S i) (T i)) (Rt (.ao []) (aT (U (i+1)) (S (i+1)) (T (i+1)))))(z:U lines.length=true)(s:T lines.length≠[]):
  aa Tryz.prog 13 [.c (.ptr 11 0),.c (.bs 1 (List UInt8) encS lines)] (aQ 1 [dh u c] (S 0)) (Rt (.ao [(false,[.str (T lines.length)]),(true,[.int .i64 0,.int .i64 0])]) (aQ 22 (dh true (.ls 1 UInt8 aN (T lines.length))::d21) (S lines.length))):=by
 have J:=OY (T lines.length) s
 have I:∀l∈lines,aa Tryz.prog 45 [.c (.str l),.c (.str [10])] [] (Rt (.c (.bool false)) []):=λl F=>by
  have:=vT 10 l;rwa[decide_eq_false (t l F)]at this
 have w:aa Tryz.prog 46 [.c (.ptr 0 0)] [.box [jN u,c,.ptr 1 0] (some 111),.dead] (Rt (.ao []) [.box [jN false,.nil,.ptr 1 0] (some 111),.dead]):=by
  rcases j with⟨_,rfl⟩|⟨_,f,rfl⟩
  ·exact Ec u
  ·exact Ed u f
 refine af (n:=45) (n0:=33) tabOk Tryz.call13 Tryz.func13 ?_;intro hb
 have e:∃f,(u=false/\c= .nil)\/(u=true/\c= .ls 1 UInt8 aN f):=by
  rcases j with h|⟨h,f,x⟩
  ·exact⟨[],.inl h⟩
  ·exact⟨f,.inr ⟨h,x⟩⟩
 obtain⟨f,e⟩:=e
 rcases e with⟨m,k⟩|⟨m,k⟩<;>(
  rw[m,k]at w⊢;refine dec (λh=>?_) (λ_=>?_)
  ·have h:(200:Int)<lines.length:=h;omega
  refine lp Nat (λi=>⟨[(0,.c (.ptr 11 0)),(1,.c (.bs 1 (List UInt8) encS lines)),(5,.c (.ptr 33 0)),(14,.c (.bs 1 (List UInt8) encS lines)),(15,.c (.int .i64 lines.length)),(16,.c (.int .i64 i))],aQ 1 [dh u c] (S 0)++[.box [.int .i64 0,.int .i64 0]]⟩) (λi=>i<=lines.length/\True) (λi=>lines.length-i) 0 [] (jR++[.s 33]) ⟨N _,trivial⟩ (by rw[m,k];exact dw) (λi g=>?_);obtain⟨g,-⟩:=g;rw[m,k];refine dec (λd=>?_) (λd=>?_)
  ·have a:i<lines.length:=by have d:(i:Int)<lines.length:=d;omega
   have b:lines[i]? =some lines[i]:=M a;have q:=I _ (O a);generalize lines[i]=y at b q;refine⟨i,y,rfl,b,?_⟩;refine cl [] [] (q) ?_;repeat'(refine I6 ?_)
   refine ag (i+1) [] (jR++[.s 33]) ⟨a,trivial⟩ (by simp only[];omega) ?_;exact dw
  refine aE [11,0] (aQ 1 [dh false .nil] (S 0)++[.box [.int .i64 0,.int .i64 0]]) w ?_;refine lp (Nat×Bool) (λp=>⟨[(0,.c (.ptr 11 0)),(5,.c (.ptr 33 0)),(30,.c (.bs 1 (List UInt8) encS lines)),(31,.c (.int .i64 lines.length)),(32,.c (.int .i64 p.1))],bK 22 (d21++[.box [.int .i64 0,.int .i64 0]]) p.2 (S p.1) (T p.1)⟩) (λp=>p.1<=lines.length/\U p.1=p.2) (λp=>lines.length-p.1) (0,false) [] (jR++(.s 33::(HZ++[.new]))) ⟨N _,E⟩ (by rw[D];repeat' first|exact trivial|exact rfl|refine And.intro ?_ ?_) (λ⟨i,v⟩ g=>?_);obtain⟨g,o⟩:=g;dsimp only at g o
  cases v<;>(
   refine dec (λd=>?_) (λd=>?_)
   ·have a:i<lines.length:=by have d:(i:Int)<lines.length:=d;omega
    have b:lines[i]? =some lines[i]:=List.getElem?_eq_getElem a;have q:=H i a;rw[o]at q;generalize lines[i]=y at b q;refine⟨i,y,rfl,b,?_⟩;(conv=>whnf)
    cases r:U (i+1)<;>(
     rw[r]at q;refine aE (mD 22) (bK 44 (d21++[.box [.int .i64 0,.int .i64 0]]++d22) (U (i+1)) (S (i+1)) (T (i+1))) q ?_ (hZ:=by rw[r];kernel_rfl);rw[r];repeat'(refine I6 ?_)
     refine ag (i+1,U (i+1)) [] (rD 44) ⟨a,rfl⟩ (by simp only[];omega) ?_;rw[r];exact dw)
   ·obtain rfl:i=lines.length:=by have d:¬(i:Int)<lines.length:=d;omega
    rw[z]at o
    (first|exact absurd o (by decide)|skip)<;>(
     refine aE [11,55,0] (aQ 23 (dh true (.ls 1 UInt8 aN (T lines.length))::(d21++[.box [.int .i64 0,.int .i64 0]])) (S lines.length)++[.dead]) J ?_;exact aF (jR++[.s 34,.s 35,.s 36,.s 37,.s 38,.s 39,.s 40,.s 41,.s 42,.s 43,.s 44,.s 45,.s 46,.s 47,.s 48,.s 49,.s 50,.s 51,.s 52,.s 53,.s 54]))))
def nt(l:List UInt8):Bool:=decide (0<=Lib.indexByte l 10)
theorem Iu(u:Bool)(c:C)(k:(u=false/\c= .nil)\/(u=true/\∃b,c= .ls 1 UInt8 aN b))(lines:List (List UInt8))(hn:lines.length<=200)(i:Nat)(hi:i<lines.length)(hb:nt lines[i]=true)(m:∀(j:Nat) (h:j<i),nt (lines[j]'(by omega))=false)(s:FS):
  aa Tryz.prog 13 [.c (.ptr 11 0),.c (.bs 1 (List UInt8) encS lines)] (aQ 1 [dh u c] s) (Rt (.ao [(false,[.str []]),(true,[.int .i64 16,.int .i64 i])]) (aQ 22 (dh u c::d21) s)):=by
 have e:∃b,(u=false/\c= .nil)\/(u=true/\c= .ls 1 UInt8 aN b):=by
  rcases k with h|⟨h,b,p⟩
  ·exact⟨[],.inl h⟩
  ·exact⟨b,.inr ⟨h,p⟩⟩
 obtain⟨b,e⟩:=e;refine af (n:=45) (n0:=33) tabOk Tryz.call13 Tryz.func13 ?_;intro t
 rcases e with⟨g,f⟩|⟨g,f⟩<;>(
  rw[g,f];refine dec (λh=>?_) (λ_=>?_)
  ·have h:(200:Int)<lines.length:=h;omega
  refine lp Nat (λj=>⟨[(0,.c (.ptr 11 0)),(1,.c (.bs 1 (List UInt8) encS lines)),(5,.c (.ptr 33 0)),(14,.c (.bs 1 (List UInt8) encS lines)),(15,.c (.int .i64 lines.length)),(16,.c (.int .i64 j))],aQ 1 [dh u c] s++[.box [.int .i64 0,.int .i64 0]]⟩) (λj=>j<=i/\True) (λj=>i-j) 0 [] (jR++[.s 33]) ⟨N _,trivial⟩ (by rw[g,f];exact dw) (λj o=>?_);obtain⟨o,-⟩:=o;rw[g,f];refine dec (λ_=>?_) (λr=>absurd (show(j:Int)<lines.length by omega) r);have l:j<lines.length:=by omega
  have a:lines[j]? =some lines[j]:=M l;have q:=vT 10 lines[j];rcases Nat.lt_or_ge j i with hji|hji
  ·have d:=m j hji;unfold nt at d;rw[d]at q;generalize lines[j]=y at a q;refine⟨j,y,rfl,a,?_⟩;refine cl [] [] (q) ?_;repeat'((conv=>whnf);first|(refine dec (λh=>?_) (λh=>?_)<;>try contradiction)|(refine ay (λh=>?_) (λh=>?_)<;>try contradiction)|refine dB (λh=>?_) (λh=>?_)|refine aS (λh=>?_) (λh=>?_)|refine⟨i64 (by omega) (by omega),?_⟩|refine⟨_,_,rfl,M (by omega),?_⟩|refine⟨_,⟨rfl,by omega⟩,?_⟩|refine⟨_,M (by omega),?_⟩|refine aL ?_|refine aJ ?_|refine dY ?_ rfl|fail)
   refine ag (j+1) [] (jR++[.s 33]) ⟨hji,trivial⟩ (by simp only[];omega) ?_;exact dw
  ·obtain rfl:j=i:=by omega
   have d:=hb;unfold nt at d;rw[d]at q;generalize lines[j]=y at a q;refine⟨j,y,rfl,a,?_⟩;refine cl [] [] (q) ?_;exact aF (jR++[.s 12,.s 13,.s 14,.s 15,.s 16,.s 17,.s 18,.s 19,.s 20,.s 21,.s 22,.s 23,.s 24,.s 25,.s 26,.s 27,.s 28,.s 29,.s 30,.s 31,.s 32]))
theorem La(l:List UInt8)(a:l=[]):aa Tryz.prog 47 [.c (.ptr 0 0),.c (.str l)] [.dead] (Rt (.ao []) [.dead]):=by
 refine af (n:=55) (n0:=1) tabOk Tryz.call47 Tryz.func47 ?_;intro hb;refine dec (λ_=>?_) (λh=>absurd a h);exact rx [] [.s 0]
theorem Ix(u:Bool)(c:C)(g:(u=false/\c= .nil)\/(u=true/\∃b,c= .ls 1 UInt8 aN b))(lines:List (List UInt8))(hn:lines.length<=200)(o:∀l∈lines,l=[])(s:FS):
  aa Tryz.prog 13 [.c (.ptr 11 0),.c (.bs 1 (List UInt8) encS lines)] (aQ 1 [dh u c] s) (Rt (.ao [(false,[.str []]),(true,[.int .i64 0,.int .i64 0])]) (aQ 22 (dh false .nil::d21) s)):=by
 have t:aa Tryz.prog 45 [.c (.str []),.c (.str [10])] [] (Rt (.c (.bool false)) []):=vT 10 []
 have p:aa Tryz.prog 46 [.c (.ptr 0 0)] [.box [jN u,c,.ptr 1 0] (some 111),.dead] (Rt (.ao []) [.box [jN false,.nil,.ptr 1 0] (some 111),.dead]):=by
  rcases g with⟨_,rfl⟩|⟨_,b,rfl⟩
  ·exact Ec u
  ·exact Ed u b
 have v:=La [] rfl
 have e:∃b,(u=false/\c= .nil)\/(u=true/\c= .ls 1 UInt8 aN b):=by
  rcases g with h|⟨h,b,q⟩
  ·exact⟨[],.inl h⟩
  ·exact⟨b,.inr ⟨h,q⟩⟩
 obtain⟨b,e⟩:=e;refine af (n:=45) (n0:=33) tabOk Tryz.call13 Tryz.func13 ?_;intro r
 rcases e with⟨m,k⟩|⟨m,k⟩<;>(
  rw[m,k]at p⊢;refine dec (λh=>?_) (λ_=>?_)
  ·have h:(200:Int)<lines.length:=h;omega
  refine lp Nat (λi=>⟨[(0,.c (.ptr 11 0)),(1,.c (.bs 1 (List UInt8) encS lines)),(5,.c (.ptr 33 0)),(14,.c (.bs 1 (List UInt8) encS lines)),(15,.c (.int .i64 lines.length)),(16,.c (.int .i64 i))],aQ 1 [dh u c] s++[.box [.int .i64 0,.int .i64 0]]⟩) (λi=>i<=lines.length/\True) (λi=>lines.length-i) 0 [] (jR++[.s 33]) ⟨N _,trivial⟩ (by rw[m,k];exact dw) (λi j=>?_);obtain⟨j,-⟩:=j;rw[m,k];refine dec (λd=>?_) (λd=>?_)
  ·have a:i<lines.length:=by have d:(i:Int)<lines.length:=d;omega
   have f:lines[i]? =some []:=by rw[M a,o _ (O a)]
   refine⟨i,[],rfl,f,?_⟩;refine cl [] [] (t) ?_;repeat'((conv=>whnf);first|(refine dec (λh=>?_) (λh=>?_)<;>try contradiction)|(refine ay (λh=>?_) (λh=>?_)<;>try contradiction)|refine dB (λh=>?_) (λh=>?_)|refine aS (λh=>?_) (λh=>?_)|refine⟨i64 (by omega) (by omega),?_⟩|refine⟨_,_,rfl,M (by omega),?_⟩|refine⟨_,⟨rfl,by omega⟩,?_⟩|refine⟨_,M (by omega),?_⟩|refine aL ?_|refine aJ ?_|refine dY ?_ rfl|fail)
   refine ag (i+1) [] (jR++[.s 33]) ⟨a,trivial⟩ (by simp only[];omega) ?_;exact dw
  refine aE [11,0] (aQ 1 [dh false .nil] s++[.box [.int .i64 0,.int .i64 0]]) p ?_;refine lp Nat (λi=>⟨[(0,.c (.ptr 11 0)),(5,.c (.ptr 33 0)),(30,.c (.bs 1 (List UInt8) encS lines)),(31,.c (.int .i64 lines.length)),(32,.c (.int .i64 i))],aQ 1 [dh false .nil] s++[.box [.int .i64 0,.int .i64 0]]⟩) (λi=>i<=lines.length/\True) (λi=>lines.length-i) 0 [] (jR++[.s 33]) ⟨N _,trivial⟩ dw (λi j=>?_);obtain⟨j,-⟩:=j;refine dec (λd=>?_) (λd=>?_)
  ·have a:i<lines.length:=by have d:(i:Int)<lines.length:=d;omega
   have f:lines[i]? =some []:=by rw[List.getElem?_eq_getElem a,o _ (List.getElem_mem a)]
   refine⟨i,[],rfl,f,?_⟩;refine aE [11] (aQ 1 [dh false .nil] s++[.box [.int .i64 0,.int .i64 0]]) v ?_;repeat'((conv=>whnf);first|(refine dec (λh=>?_) (λh=>?_)<;>try contradiction)|(refine ay (λh=>?_) (λh=>?_)<;>try contradiction)|refine dB (λh=>?_) (λh=>?_)|refine aS (λh=>?_) (λh=>?_)|refine⟨i64 (by omega) (by omega),?_⟩|refine⟨_,_,rfl,List.getElem?_eq_getElem (by omega),?_⟩|refine⟨_,⟨rfl,by omega⟩,?_⟩|refine⟨_,List.getElem?_eq_getElem (by omega),?_⟩|refine aL ?_|refine aJ ?_|refine dY ?_ rfl|fail)
   refine ag (i+1) [] (jR++[.s 33]) ⟨a,trivial⟩ (by simp only[];omega) ?_;exact dw
  ·refine aE [11,0] (aQ 1 [dh false .nil] s++[.box [.int .i64 0,.int .i64 0]]) OW ?_;exact aF (jR++[.s 12,.s 13,.s 14,.s 15,.s 16,.s 17,.s 18,.s 19,.s 20,.s 21,.s 22,.s 23,.s 24,.s 25,.s 26,.s 27,.s 28,.s 29,.s 30,.s 31,.s 32]))
end Go.Nest
end
