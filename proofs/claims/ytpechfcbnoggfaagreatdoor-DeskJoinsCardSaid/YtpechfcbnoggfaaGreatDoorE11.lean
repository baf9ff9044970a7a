import Derived.Test.YtpechfcbnoggfaaGreatDoorE8
import Derived.Test.YtpechfcbnoggfaaGreatDoorE10
set_option maxHeartbeats 2000000
set_option linter.unusedVariables false
set_option linter.unusedSimpArgs false
open List renaming length_append->U,length_cons->W,length_nil->Y
open Nat renaming le_refl->ac
open UInt8 renaming toNat_inj->Z
namespace Go.Nest
open Go Go.AM Go.Proofs
open Go.Proofs.YtpechfcbnoggfaaGreatDoor (tab tabOk)
set_option maxRecDepth 4000
def ji(a:List UInt8):Option Int:=match Lib.atoiAll a with
 | .ok v=>if Lib.itoa v=a then some v else none
 |_=>none
def fE:List UInt8->List UInt8->List Int->List (List UInt8)->List Int×List (List UInt8)×Bool
 |[],rest,a,b=>(a,b,decide (rest=[]))
 |s::c,rest,a,b=>
  if s=116 then(a,b++[rest],true)
  else if(b5 32 rest).2.2=false/\c≠[]then([],[],false)
  else if((b5 32 rest).2.2=true/\c=[])\/(b5 32 rest).1=[]then([],[],false)
  else if s=119 then fE c (b5 32 rest).2.1 a (b++[(b5 32 rest).1])
  else match ji (b5 32 rest).1 with
   |none=>([],[],false)
   |some k=>fE c (b5 32 rest).2.1 (a++[k]) b
structure FC where
 i:Nat
 rest:List UInt8
 ns:List Int
 ws:List (List UInt8)
theorem sS(rest f:List UInt8)(T:f.length<=1000)(w:rest.length<=1000000)(r:List Int×List (List UInt8)×Bool)(hr:fE f rest [] []=r):aa Tryz.prog 114 [.c (.str rest),.c (.str f)] []
  (Rt (.ao [(false,[.rw 0]),(false,[.rw 1]),(false,[.bool r.2.2])]) [.row 1 Int encI r.1,.row 1 (List UInt8) encS r.2.1]):=by
 refine af (n:=87) (n0:=0) tabOk Tryz.call114 Tryz.func114 ?_;intro hb;refine lp FC (λp=>⟨[(0,.c (.str p.rest)),(1,.c (.str f)),(7,.c (.rw 0)),(8,.c (.rw 1)),(16,.c (.int .i64 f.length)),(17,.c (.int .i64 p.i))],[.row 1 Int encI p.ns,.row 1 (List UInt8) encS p.ws]⟩) (λp=>p.i<=f.length/\p.ns.length<=p.i/\p.ws.length<=p.i/\p.rest.length<=1000000/\fE (f.drop p.i) p.rest p.ns p.ws=r) (λp=>f.length-p.i) ⟨0,rest,[],[]⟩ [] [.new,.new] ?_ ?_ (λp d=>?_)
 ·exact⟨Nat.zero_le _,ac _,ac _,w,hr⟩
 ·repeat' first|exact trivial|exact rfl|refine And.intro ?_ ?_
 obtain⟨i,rest,F,H⟩:=p;obtain⟨O,P,Q,w,d⟩:=d;dsimp only at O P Q w d;refine dec (λI=>?_) (λI=>?_)
 ·have l:i<f.length:=by have I:(i:Int)<f.length:=I;omega
  have N:f.drop i=f[i]::f.drop (i+1):=List.drop_eq_getElem_cons l;have y:f[i]? =some f[i]:=List.getElem?_eq_getElem l;have s:f.drop (i+1)=[]↔i+1=f.length:=by rw[List.drop_eq_nil_iff];omega
  rw[N]at d;generalize f[i]=c at*;refine⟨i,c,rfl,y,?_⟩;refine dec (λE=>?_) (λE=>?_)
  ·have E:(c.toNat:Int)=116:=E;obtain rfl:c=116:=Z.1 (by show c.toNat=116;omega);have d:(F,H++[rest],true)=r:=d;obtain rfl:=d;refine⟨[rest],rfl,?_⟩;refine⟨_,_,rfl,rfl,(by simp only[U,W,Y];omega),?_⟩;exact rx [] [.s 0,.s 3]
  have E:¬(c.toNat:Int)=116:=E;rw[fE,if_neg (λe:c=116=>E (by rw[e];rfl))]at d
  have u:(b5 32 rest).1.length<=rest.length/\(b5 32 rest).2.1.length<=rest.length:=by
   unfold b5;split
   ·exact⟨by simp;omega,by simp⟩
   ·simp
  refine cl [] [] (qF 32 rest) ?_;generalize b5 32 rest=q at*;obtain⟨a,b,ok⟩:=q;dsimp only at d u;cases ok with
  |false=>
   refine⟨i64 (by simp only[];omega) (by simp only[];omega),?_⟩;refine dec (λo=>?_) (λo=>?_)
   ·have o:(i:Int)+1<f.length:=o;rw[if_pos ⟨rfl,λe=>by have:=s.1 e;omega⟩]at d;obtain rfl:=d;exact rx [] [.new,.new]
   ·have o:¬(i:Int)+1<f.length:=o;have J:f.drop (i+1)=[]:=s.2 (by omega);rw[if_neg (λh=>h.2 J)]at d;refine dec (λg=>?_) (λg=>?_)
    ·have g:a=[]:=g;rw[if_pos (.inr g)]at d;obtain rfl:=d;exact rx [] [.new,.new]
    ·have g:¬a=[]:=g;rw[if_neg (λh=>h.elim (λh=>by cases h.1) g)]at d;refine⟨i,c,rfl,y,?_⟩;refine dec (λk=>?_) (λk=>?_)
     ·have k:(c.toNat:Int)=119:=k;rw[if_pos (show c=119 from Z.1 (by show c.toNat=119;omega))]at d;refine⟨[a],rfl,?_⟩;refine⟨_,_,rfl,rfl,(by simp only[U,W,Y];omega),?_⟩;refine⟨i64 (by simp only[];omega) (by simp only[];omega),?_⟩;refine ag ⟨i+1,b,F,H++[a]⟩ [] [.s 0,.s 3] ⟨l,by simp only[];omega,by simp;omega,by simp only[];omega,d⟩ (by simp only[];omega) ?_;repeat' first|exact trivial|exact rfl|refine And.intro ?_ ?_
     have k:¬(c.toNat:Int)=119:=k;rw[if_neg (λe:c=119=>k (by rw[e];rfl))]at d;by_cases j:∃v,Lib.atoiAll a= .ok v
     ·obtain⟨v,m⟩:=j;obtain⟨z,D⟩:=Lib.atoiAll_bounds m;have K:=cX.all z D;refine cl [] [] (zL a v (by omega) m) ?_;refine cl [] [] (K.d) ?_;refine ay (λt=>?_) (λt=>?_)
      ·rw[show ji a=none by unfold ji;rw[m];exact if_neg (by rw[<-pK];exact t)]at d;obtain rfl:=d;exact rx [] [.new,.new]
      ·rw[show ji a=some v by unfold ji;rw[m];exact if_pos (by rw[<-pK];exact t)]at d;dsimp only at d u;refine⟨[v],rfl,?_⟩;refine⟨_,_,rfl,rfl,(by simp only[U,W,Y];omega),?_⟩;refine⟨i64 (by simp only[];omega) (by simp only[];omega),?_⟩;refine ag ⟨i+1,b,F++[v],H⟩ [] [.s 3,.s 1] ⟨l,by simp;omega,by simp only[];omega,by simp only[];omega,d⟩ (by simp only[];omega) ?_;repeat' first|exact trivial|exact rfl|refine And.intro ?_ ?_
     ·rw[show ji a=none by unfold ji;cases e:Lib.atoiAll a with|ok v=>exact absurd ⟨v,e⟩ j|_=>rfl]at d;obtain rfl:=d;refine An [] [] (zK a (by omega) (λv m=>j ⟨v,m⟩)) (λx M=>?_);obtain⟨n,S,R,rfl⟩:=M;exact rx [] [.new,.new]
  |true=>
   rw[if_neg (λh=>by cases h.1)]at d;refine⟨i64 (by simp only[];omega) (by simp only[];omega),?_⟩;refine dec (λo=>?_) (λo=>?_)
   ·have o:(i:Int)+1=f.length:=o;rw[if_pos (.inl ⟨rfl,s.2 (by omega)⟩)]at d;obtain rfl:=d;exact rx [] [.new,.new]
   ·have o:¬(i:Int)+1=f.length:=o;refine dec (λg=>?_) (λg=>?_)
    ·have g:a=[]:=g;rw[if_pos (.inr g)]at d;obtain rfl:=d;exact rx [] [.new,.new]
    ·have g:¬a=[]:=g;rw[if_neg (λh=>h.elim (λh=>by have:=s.1 h.2;omega) g)]at d;refine⟨i,c,rfl,y,?_⟩;refine dec (λk=>?_) (λk=>?_)
     ·have k:(c.toNat:Int)=119:=k;rw[if_pos (show c=119 from Z.1 (by show c.toNat=119;omega))]at d;refine⟨[a],rfl,?_⟩;refine⟨_,_,rfl,rfl,(by simp only[U,W,Y];omega),?_⟩;refine⟨i64 (by simp only[];omega) (by simp only[];omega),?_⟩;refine ag ⟨i+1,b,F,H++[a]⟩ [] [.s 0,.s 3] ⟨l,by simp only[];omega,by simp;omega,by simp only[];omega,d⟩ (by simp only[];omega) ?_;repeat' first|exact trivial|exact rfl|refine And.intro ?_ ?_
     have k:¬(c.toNat:Int)=119:=k;rw[if_neg (λe:c=119=>k (by rw[e];rfl))]at d;by_cases j:∃v,Lib.atoiAll a= .ok v
     ·obtain⟨v,m⟩:=j;obtain⟨z,D⟩:=Lib.atoiAll_bounds m;have K:=cX.all z D;refine cl [] [] (zL a v (by omega) m) ?_;refine cl [] [] (K.d) ?_;refine ay (λt=>?_) (λt=>?_)
      ·rw[show ji a=none by unfold ji;rw[m];exact if_neg (by rw[<-pK];exact t)]at d;obtain rfl:=d;exact rx [] [.new,.new]
      ·rw[show ji a=some v by unfold ji;rw[m];exact if_pos (by rw[<-pK];exact t)]at d;dsimp only at d u;refine⟨[v],rfl,?_⟩;refine⟨_,_,rfl,rfl,(by simp only[U,W,Y];omega),?_⟩;refine⟨i64 (by simp only[];omega) (by simp only[];omega),?_⟩;refine ag ⟨i+1,b,F++[v],H⟩ [] [.s 3,.s 1] ⟨l,by simp;omega,by simp only[];omega,by simp only[];omega,d⟩ (by simp only[];omega) ?_;repeat' first|exact trivial|exact rfl|refine And.intro ?_ ?_
     ·rw[show ji a=none by unfold ji;cases e:Lib.atoiAll a with|ok v=>exact absurd ⟨v,e⟩ j|_=>rfl]at d;obtain rfl:=d;refine An [] [] (zK a (by omega) (λv m=>j ⟨v,m⟩)) (λx M=>?_);obtain⟨n,S,R,rfl⟩:=M;exact rx [] [.new,.new]
 ·obtain rfl:i=f.length:=by have I:¬(i:Int)<f.length:=I;omega
  rw[List.drop_length]at d;have d:(F,H,decide (rest=[]))=r:=d;obtain rfl:=d;exact rx [] [.s 0,.s 1]
end Go.Nest
