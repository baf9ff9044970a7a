/- part -/
import Derived.Test.YtpechfcbnoggfaaGreatDoorQ3
set_option linter.unusedVariables false
set_option linter.unusedSimpArgs false
section
namespace Go.Nest
open Go Go.AM Go.Proofs
open Go.Proofs.YtpechfcbnoggfaaGreatDoor (tab tabOk)
set_option maxRecDepth 4000
theorem oh{Y:List Fi}(h:Wk Y){i j:Nat}(a:i<j)(hj:j<Y.length):au Y[j].path (Y[i]'(by omega)).path=false:=(List.pairwise_iff_getElem.1 h) i j (by omega) hj a
theorem zM{Y:List Fi}{x:Fi}(h:Wk Y){q:Nat}(hq:q<Y.length)(hl:au Y[q].path x.path=true):∀y∈Y.take (q+1),au y.path x.path=true:=by
 intro y a;obtain⟨i,b,e⟩:=List.mem_take_iff_getElem.1 a;subst e;by_cases e:i=q
 ·subst e;exact hl
 ·exact FX (oh h (by omega) hq) hl
theorem EG{Y:List Fi}{x:Fi}(h:Wk Y){q:Nat}(hq:q<Y.length)(hl:au Y[q].path x.path=false):∀y∈Y.drop q,au y.path x.path=false:=by
 intro y a;obtain⟨i,b,e⟩:=List.mem_drop_iff_getElem.1 a;subst e;by_cases e:i=0
 ·subst e;exact hl
 ·exact le_trans' hl (oh h (i:=q) (j:=q+i) (by omega) (by omega))
theorem yB{X:List Fi}{y:Fi}(h:Wk X){q:Nat}(hq:q<X.length)(hl:au y.path X[q].path=false):∀x∈X.take (q+1),au y.path x.path=false:=by
 intro x a;obtain⟨i,b,e⟩:=List.mem_take_iff_getElem.1 a;subst e;by_cases e:i=q
 ·subst e;exact hl
 ·exact le_trans' (oh h (by omega) hq) hl
theorem Gm{X:List Fi}{y:Fi}(h:Wk X){q:Nat}(hq:q<X.length)(hl:au y.path X[q].path=true):∀x∈X.drop q,au y.path x.path=true:=by
 intro x a;obtain⟨i,b,e⟩:=List.mem_drop_iff_getElem.1 a;subst e;by_cases e:i=0
 ·subst e;exact hl
 ·exact uL hl (oh h (i:=q) (j:=q+i) (by omega) (by omega))
theorem half{e:Int}{k:Nat}(h:e/2=k)(b:0≤e)(h1:e≤4000):IntKind.i64.wrap ((IntKind.u64.wrap e).fdiv (2^min (Int.toNat 1) IntKind.u64.bits))=(k:Int):=by
 have a:(2:Int)^min (Int.toNat 1) IntKind.u64.bits=2:=by decide
 rw[IntKind.wrap_u64,IntKind.wrap_i64,a,Int.fdiv_eq_ediv_of_nonneg _ (by omega)];omega
set_option maxHeartbeats 4000000 in
theorem Jg(A Y B:List Fi)(x:Fi)(hy:0<Y.length)(J:Wk Y)(hn:A.length+1+Y.length+B.length≤1000)(F:x.path.length≤4000000)(R:∀f∈Y,f.path.length≤4000000)(a m b:Int)(Q:a=A.length)(hm:m=A.length+1)(E:b=A.length+1+Y.length):ae Tryz.prog 300 [.c (.rw 0),.c (.int .i64 a),.c (.int .i64 m),.c (.int .i64 b),.c (.fn 174 [])] [.row 4 Fi ao (A++[x]++Y++B)] (Rt (.aC []) [.row 4 Fi ao (A++aH ([x]++Y)++B)]):=by
 subst Q;subst hm;subst E;refine ak (n:=220) (n0:=1) tabOk Tryz.call300 Tryz.func300 ?_;intro hb;(conv=>whnf);refine⟨i64 (by omega) (by omega),?_⟩;(conv=>whnf);refine dec (fun _=>?_) (fun h=>absurd (by omega) h);(conv=>whnf);have I:A++[x]++Y++B=A++x::(Y++B):=by simp
 rw[I];refine lp (Nat×Nat) (fun z=>⟨[(0,.c (.rw 0)),(1,.c (.int .i64 A.length)),(4,.c (.fn 174 [])),(10,.c (.int .i64 ((A.length:Int)+1+z.1))),(11,.c (.int .i64 ((A.length:Int)+1+z.2)))],[.row 4 Fi ao (A++x::(Y++B))]⟩) (fun z=>(z.1≤z.2∧z.2≤Y.length)∧(∀y∈Y.take z.1,au y.path x.path=true)∧∀y∈Y.drop z.2,au y.path x.path=false) (fun z=>z.2-z.1) (0,Y.length) [] [.same 0] ?_ ?_ (fun z S=>?_)
 ·exact⟨⟨Nat.zero_le _,Nat.le_refl _⟩,by simp,by simp⟩
 ·rw[show((A.length:Int)+1)=A.length+1+((0:Nat):Int)by omega];repeat' first|exact trivial|exact rfl|refine And.intro ?_ ?_
 obtain⟨d,s⟩:=z;obtain⟨⟨M,K⟩,w,D⟩:=S;dsimp only at M K w D;(conv=>whnf);refine dec (fun r=>?_) (fun r=>?_)
 ·have r:d<s:=by simp only[]at r;omega
  (conv=>whnf);refine⟨i64 (by simp only[];omega) (by simp only[];omega),?_⟩;(conv=>whnf);refine⟨by decide,?_⟩;(conv=>whnf);obtain⟨q,T⟩:∃q,q=(d+s)/2:=⟨_,rfl⟩;have i:q<Y.length:=by omega
  have H:=R _ (List.getElem_mem i)
  have o:A++x::(Y++B)=A++x::(Y.take q++Y[q]::(Y.drop (q+1)++B)):=by
   conv=>lhs;rw[←List.take_append_drop q Y,List.drop_eq_getElem_cons i]
   simp only[List.append_assoc,List.cons_append]
  have j:A.length=A.length:=rfl;have p:A.length+1+q=A.length+1+(Y.take q).length:=by rw[List.length_take];omega
  rw[half (e:=(A.length:Int)+1+(((d,s).1:Nat):Int)+((A.length:Int)+1+(((d,s).2:Nat):Int))) (k:=A.length+1+q) (by simp only[];omega) (by simp only[];omega) (by simp only[];omega),o];refine⟨false,.grow,(.l [0,1,2,3,4,5,6,7,8,9,10]),by kernel_rfl,.inl ?_⟩;(conv=>whnf);refine⟨A.length+1+q,⟨rfl,iS p⟩,?_⟩;(conv=>whnf);refine⟨Y[q],iQ p,?_⟩;(conv=>whnf);refine⟨A.length,⟨rfl,iR j⟩,?_⟩;(conv=>whnf);refine⟨x,ie j,?_⟩;(conv=>whnf);refine cl [] [] (r9 Y[q] x H F) ?_;rw[←o];(conv=>whnf);refine dec (fun g=>?_) (fun g=>?_)
  ·have g:=la.1 g;(conv=>whnf);refine⟨i64 (by omega) (by omega),?_⟩;rw[show((A.length+1+q:Nat):Int)+1=(A.length:Int)+1+((q+1:Nat):Int)by omega];(conv=>whnf);refine ag (q+1,s) [] [.same 0] ⟨⟨by simp only[];omega,K⟩,zM J i g,D⟩ (by simp only[];omega) ?_;repeat' first|exact trivial|exact rfl|refine And.intro ?_ ?_
  ·have g:au Y[q].path x.path=false:=by
    cases N:au Y[q].path x.path with
    |false=>rfl
    |true=>exact absurd (la.2 N) g
   rw[show((A.length+1+q:Nat):Int)=(A.length:Int)+1+(q:Nat)by omega];(conv=>whnf);refine ag (d,q) [] [.same 0] ⟨⟨by simp only[];omega,by simp only[];omega⟩,w,EG J i g⟩ (by simp only[];omega) ?_;repeat' first|exact trivial|exact rfl|refine And.intro ?_ ?_
 ·have r:d=s:=by simp only[]at r;omega
  subst r;have u:=G5 J w D;rw[show A++x::(Y++B)=A++(Y.take 0++x::Y.drop 0)++B by simp];(conv=>whnf);refine lp Nat (fun t=>⟨[(0,.c (.rw 0)),(10,.c (.int .i64 ((A.length:Int)+1+d))),(13,.c (.int .i64 ((A.length:Int)+t)))],[.row 4 Fi ao (A++(Y.take t++x::Y.drop t)++B)]⟩) (fun t=>t≤d∧True) (fun t=>d-t) 0 [] [.same 0] ?_ ?_ (fun t U=>?_)
  ·simp
  ·rw[show(A.length:Int)=A.length+((0:Nat):Int)by omega];repeat' first|exact trivial|exact rfl|refine And.intro ?_ ?_
  (conv=>whnf);refine⟨i64 (by omega) (by omega),?_⟩;(conv=>whnf);refine dec (fun g=>?_) (fun g=>?_)
  ·have v:t<Y.length:=by omega
   have O:A++(Y.take t++x::Y.drop t)++B=(A++Y.take t)++x::([]++Y[t]::(Y.drop (t+1)++B)):=by
    rw[List.drop_eq_getElem_cons v];simp only[List.append_assoc,List.cons_append,List.nil_append]
   have P:A++(Y.take (t+1)++x::Y.drop (t+1))++B=(A++Y.take t)++Y[t]::([]++x::(Y.drop (t+1)++B)):=by
    rw[List.take_succ_eq_append_getElem v];simp only[List.append_assoc,List.cons_append,List.nil_append]
   have j:A.length+t=(A++Y.take t).length:=by rw[List.length_append,List.length_take];omega
   have p:A.length+(t+1)=(A++Y.take t).length+1+([]:List Fi).length:=by rw[←j];simp;omega
   rw[O];(conv=>whnf);refine⟨false,.grow,(.l [0,1,2,3,4,5,6,7,8,9,10,11,12,13,14,15,16,17]),by kernel_rfl,.inl ?_⟩;(conv=>whnf);refine⟨i64 (by omega) (by omega),?_⟩;(conv=>whnf);refine⟨i64 (by omega) (by omega),?_⟩;(conv=>whnf);refine⟨A.length+(t+1),⟨by omega,iS p⟩,?_⟩;(conv=>whnf);refine⟨Y[t],iQ p,?_⟩;(conv=>whnf);refine⟨A.length+t,⟨by omega,iR j⟩,?_⟩;(conv=>whnf);refine⟨x,ie j,?_⟩;(conv=>whnf);refine⟨A.length+t,⟨by omega,iR j⟩,?_⟩;(conv=>whnf);refine⟨x,Y[t],ie j,⟨by simp,rfl⟩,?_⟩;rw[pQ j];(conv=>whnf);refine⟨A.length+(t+1),⟨by omega,iS p⟩,?_⟩;(conv=>whnf);refine⟨Y[t],x,iQ p,⟨by simp,rfl⟩,?_⟩;rw[sd p];(conv=>whnf);refine⟨i64 (by omega) (by omega),?_⟩;rw[show(A.length:Int)+(t:Nat)+1=A.length+((t+1:Nat):Int)by omega];(conv=>whnf);refine ag (t+1) [] [.same 0] ⟨by omega,trivial⟩ (by simp only[];omega) ?_;rw[P];repeat' first|exact trivial|exact rfl|refine And.intro ?_ ?_
  ·obtain rfl:t=d:=by omega
   rw[u];(conv=>whnf);exact rx [] [.same 0]
set_option maxHeartbeats 4000000 in
theorem Jf(A X B:List Fi)(y:Fi)(Y:1<X.length)(M:Wk X)(hn:A.length+X.length+1+B.length≤1000)(I:y.path.length≤4000000)(S:∀f∈X,f.path.length≤4000000)(a m b:Int)(R:a=A.length)(hm:m=A.length+X.length)(H:b=A.length+X.length+1):ae Tryz.prog 300 [.c (.rw 0),.c (.int .i64 a),.c (.int .i64 m),.c (.int .i64 b),.c (.fn 174 [])] [.row 4 Fi ao (A++X++[y]++B)] (Rt (.aC []) [.row 4 Fi ao (A++aH (X++[y])++B)]):=by
 subst R;subst hm;subst H;refine ak (n:=220) (n0:=1) tabOk Tryz.call300 Tryz.func300 ?_;intro hb;(conv=>whnf);refine⟨i64 (by omega) (by omega),?_⟩;(conv=>whnf);refine dec (fun h=>absurd h (by omega)) (fun _=>?_);(conv=>whnf);refine⟨i64 (by omega) (by omega),?_⟩;(conv=>whnf);refine dec (fun _=>?_) (fun h=>absurd (by omega) h);(conv=>whnf);have K:A++X++[y]++B=A++X++y::B:=by simp
 rw[K];refine lp (Nat×Nat) (fun z=>⟨[(0,.c (.rw 0)),(2,.c (.int .i64 ((A.length:Int)+X.length))),(4,.c (.fn 174 [])),(14,.c (.int .i64 ((A.length:Int)+z.1))),(15,.c (.int .i64 ((A.length:Int)+z.2)))],[.row 4 Fi ao (A++X++y::B)]⟩) (fun z=>(z.1≤z.2∧z.2≤X.length)∧(∀x∈X.take z.1,au y.path x.path=false)∧∀x∈X.drop z.2,au y.path x.path=true) (fun z=>z.2-z.1) (0,X.length) [] [.same 0] ?_ ?_ (fun z T=>?_)
 ·exact⟨⟨Nat.zero_le _,Nat.le_refl _⟩,by simp,by simp⟩
 ·repeat' first|exact trivial|exact rfl|refine And.intro ?_ ?_
 obtain⟨g,s⟩:=z;obtain⟨⟨N,D⟩,E,F⟩:=T;dsimp only at N D E F;(conv=>whnf);refine dec (fun r=>?_) (fun r=>?_)
 ·have r:g<s:=by simp only[]at r;omega
  (conv=>whnf);refine⟨i64 (by simp only[];omega) (by simp only[];omega),?_⟩;(conv=>whnf);refine⟨by decide,?_⟩;(conv=>whnf);obtain⟨q,U⟩:∃q,q=(g+s)/2:=⟨_,rfl⟩;have j:q<X.length:=by omega
  have J:=S _ (List.getElem_mem j)
  have o:A++X++y::B=(A++X.take q)++X[q]::(X.drop (q+1)++y::B):=by
   conv=>lhs;rw[←List.take_append_drop q X,List.drop_eq_getElem_cons j]
   simp only[List.append_assoc,List.cons_append]
  have d:A.length+q=(A++X.take q).length:=by rw[List.length_append,List.length_take];omega
  have p:A.length+X.length=(A++X.take q).length+1+(X.drop (q+1)).length:=by rw[←d,List.length_drop];omega
  rw[half (e:=(A.length:Int)+(((g,s).1:Nat):Int)+((A.length:Int)+(((g,s).2:Nat):Int))) (k:=A.length+q) (by simp only[];omega) (by simp only[];omega) (by simp only[];omega),o];refine⟨false,.grow,(.l [0,1,2,3,4,5,6,7,8,9,10,11]),by kernel_rfl,.inl ?_⟩;(conv=>whnf);refine⟨A.length+X.length,⟨by omega,iS p⟩,?_⟩;(conv=>whnf);refine⟨y,iQ p,?_⟩;(conv=>whnf);refine⟨A.length+q,⟨rfl,iR d⟩,?_⟩;(conv=>whnf);refine⟨X[q],ie d,?_⟩;(conv=>whnf);refine cl [] [] (r9 y X[q] I J) ?_;rw[←o];(conv=>whnf);refine aw (fun i=>?_) (fun i=>?_)
  ·have i:au y.path X[q].path=false:=by
    cases O:au y.path X[q].path with
    |false=>rfl
    |true=>exact absurd (la.2 O) i
   (conv=>whnf);refine⟨i64 (by omega) (by omega),?_⟩;rw[show((A.length+q:Nat):Int)+1=(A.length:Int)+((q+1:Nat):Int)by omega];(conv=>whnf);refine ag (q+1,s) [] [.same 0] ⟨⟨by simp only[];omega,D⟩,yB M j i,F⟩ (by simp only[];omega) ?_;repeat' first|exact trivial|exact rfl|refine And.intro ?_ ?_
  ·have i:=la.1 i;rw[show((A.length+q:Nat):Int)=(A.length:Int)+(q:Nat)by omega];(conv=>whnf);refine ag (g,q) [] [.same 0] ⟨⟨by simp only[];omega,by simp only[];omega⟩,E,Gm M j i⟩ (by simp only[];omega) ?_;repeat' first|exact trivial|exact rfl|refine And.intro ?_ ?_
 ·have r:g=s:=by simp only[]at r;omega
  subst r;have v:=G4 M E F;rw[show A++X++y::B=A++(X.take X.length++y::X.drop X.length)++B by simp];(conv=>whnf);refine lp Nat (fun t=>⟨[(0,.c (.rw 0)),(14,.c (.int .i64 ((A.length:Int)+g))),(17,.c (.int .i64 ((A.length:Int)+t)))],[.row 4 Fi ao (A++(X.take t++y::X.drop t)++B)]⟩) (fun t=>(g≤t∧t≤X.length)∧True) (fun t=>t-g) X.length [] [.same 0] ?_ ?_ (fun t W=>?_)
  ·exact⟨⟨D,Nat.le_refl _⟩,trivial⟩
  ·repeat' first|exact trivial|exact rfl|refine And.intro ?_ ?_
  (conv=>whnf);refine dec (fun i=>?_) (fun i=>?_)
  ·obtain⟨t,rfl⟩:∃u,t=u+1:=⟨t-1,by omega⟩;have w:t<X.length:=by omega
   have Q:A++(X.take t++y::X.drop t)++B=(A++X.take t)++y::([]++X[t]::(X.drop (t+1)++B)):=by
    rw[List.drop_eq_getElem_cons w];simp only[List.append_assoc,List.cons_append,List.nil_append]
   have P:A++(X.take (t+1)++y::X.drop (t+1))++B=(A++X.take t)++X[t]::([]++y::(X.drop (t+1)++B)):=by
    rw[List.take_succ_eq_append_getElem w];simp only[List.append_assoc,List.cons_append,List.nil_append]
   have d:A.length+t=(A++X.take t).length:=by rw[List.length_append,List.length_take];omega
   have p:A.length+(t+1)=(A++X.take t).length+1+([]:List Fi).length:=by rw[←d];simp;omega
   rw[P];(conv=>whnf);refine⟨false,.grow,(.l [0,1,2,3,4,5,6,7,8,9,10,11,12,13,14,15,16,17]),by kernel_rfl,.inl ?_⟩;(conv=>whnf);refine⟨i64 (by omega) (by omega),?_⟩;(conv=>whnf);refine⟨i64 (by omega) (by omega),?_⟩;(conv=>whnf);refine⟨A.length+t,⟨by omega,iR d⟩,?_⟩;(conv=>whnf);refine⟨X[t],ie d,?_⟩;(conv=>whnf);refine⟨A.length+(t+1),⟨by simp,iS p⟩,?_⟩;(conv=>whnf);refine⟨y,iQ p,?_⟩;(conv=>whnf);refine⟨A.length+(t+1),⟨by simp,iS p⟩,?_⟩;(conv=>whnf);refine⟨y,X[t],iQ p,⟨by simp,rfl⟩,?_⟩;rw[sd p];(conv=>whnf);refine⟨A.length+t,⟨by omega,iR d⟩,?_⟩;(conv=>whnf);refine⟨X[t],y,ie d,⟨by simp,rfl⟩,?_⟩;rw[pQ d];(conv=>whnf);refine⟨i64 (by omega) (by omega),?_⟩;rw[show(A.length:Int)+((t+1:Nat):Int)-1=A.length+(t:Nat)by omega];(conv=>whnf);refine ag t [] [.same 0] ⟨⟨by omega,by omega⟩,trivial⟩ (by simp only[];omega) ?_;rw[Q];repeat' first|exact trivial|exact rfl|refine And.intro ?_ ?_
  ·obtain rfl:t=g:=by omega
   rw[v];(conv=>whnf);exact rx [] [.same 0]
end Go.Nest
end
section
namespace Go.Nest
open Go Go.AM Go.Proofs
open Go.Proofs.YtpechfcbnoggfaaGreatDoor (tab tabOk)
set_option maxRecDepth 4000
structure wk(X Y:List Fi)(h lo0 hi0:Nat):Prop where
 a1:lo0≤hi0
 a2:hi0≤X.length
 a3:hi0≤h
 a4:h≤lo0+Y.length
 a5:hi0=h∨hi0=X.length
 a6:lo0=0∨lo0+Y.length=h
structure sF(X Y:List Fi)(h lo0 hi0 s t:Nat):Prop where
 b1:lo0≤s
 b2:s≤t
 b3:t≤hi0
 p1:∀i j (hi:i<Y.length) (hj:j<X.length),lo0<s→i+s=h→j+1=s→au Y[i].path X[j].path=false
 p2:∀i j (hi:i<Y.length) (hj:j<X.length),t<hi0→i+t+1=h→j=t→au Y[i].path X[j].path=true
theorem Jh{X Y:List Fi}{h lo0 hi0 s:Nat}(m:Wk X)(n:Wk Y)(q:wk X Y h lo0 hi0)(r:sF X Y h lo0 hi0 s s):
  (∀x∈X.drop s,∀y∈Y.take (h-s),au y.path x.path=true)∧∀x∈X.take s,∀y∈Y.drop (h-s),au y.path x.path=false:=by
 obtain⟨w,z,D,E,F,H⟩:=q;obtain⟨I,J,K,u,v⟩:=r;refine⟨fun x a y b=>?_,fun x a y b=>?_⟩
 ·have l:s<X.length:=Classical.byContradiction fun h=>by rw[List.drop_of_length_le (by omega)]at a;cases a
  have k:0<h-s:=Classical.byContradiction fun o=>by rw[show h-s=0 by omega]at b;simp at b
  have d:h-s-1<Y.length:=by omega
  have g:=v (h-s-1) s d l (by omega) (by omega) rfl;have c:au y.path X[s].path=true:=zM n d g y (by rw[show h-s-1+1=h-s by omega];exact b);obtain⟨i,t,e⟩:=List.mem_drop_iff_getElem.1 a;subst e;by_cases e:i=0
  ·subst e;exact c
  ·exact uL c (oh m (i:=s) (j:=s+i) (by omega) (by omega))
 ·have l:0<s:=Classical.byContradiction fun h=>by rw[show s=0 by omega]at a;simp at a
  have k:h-s<Y.length:=Classical.byContradiction fun o=>by rw[List.drop_of_length_le (by omega)]at b;cases b
  have f:s-1<X.length:=by omega
  have g:=u (h-s) (s-1) k f (by omega) (by omega) (by omega)
  have c:au Y[h-s].path x.path=false:=by
   have p:=yB (y:=Y[h-s]) m f g x (by rw[show s-1+1=s by omega];exact a);exact p
  obtain⟨i,t,e⟩:=List.mem_drop_iff_getElem.1 b;subst e;by_cases e:i=0
  ·subst e;exact c
  ·exact le_trans' c (oh n (i:=h-s) (j:=h-s+i) (by omega) (by omega))
set_option maxHeartbeats 8000000 in
theorem Bu:∀(n:Nat) (A X Y B:List Fi),X.length+Y.length≤n→0<X.length→0<Y.length→Wk X→Wk Y→A.length+X.length+Y.length+B.length≤1000→(∀f∈X,f.path.length≤4000000)→(∀f∈Y,f.path.length≤4000000)→∀(a m b:Int),a=A.length→m=A.length+X.length→b=A.length+X.length+Y.length→ae Tryz.prog 300 [.c (.rw 0),.c (.int .i64 a),.c (.int .i64 m),.c (.int .i64 b),.c (.fn 174 [])] [.row 4 Fi ao (A++X++Y++B)] (Rt (.aC []) [.row 4 Fi ao (A++aH (X++Y)++B)]):=by
 intro n;induction n with
 |zero=>intro A X Y B h hx hy;omega
 |succ n ih=>
 intro A X Y B ar hx hy wx wy hn p r a m b ha hm F;by_cases h1:X.length=1
 ·obtain⟨x,rfl⟩:∃x,X=[x]:=List.length_eq_one_iff.1 h1;exact Jg A Y B x hy wy (by simpa using hn) (p x (by simp)) r a m b ha (by simpa using hm) (by simpa using F)
 by_cases h2:Y.length=1
 ·obtain⟨y,rfl⟩:∃y,Y=[y]:=List.length_eq_one_iff.1 h2;exact Jf A X B y (by omega) wx (by simpa using hn) (r y (by simp)) p a m b ha hm (by simpa using F)
 subst ha;subst hm;subst F;obtain⟨h,hh⟩:∃h,h=(X.length+Y.length)/2:=⟨_,rfl⟩;refine iX (n:=220) (n0:=1) tabOk Tryz.call300 Tryz.func300 ?_;intro hb;refine XM.seq ?_;(conv=>whnf);refine⟨i64 (by omega) (by omega),?_⟩;(conv=>whnf);refine dec (fun h=>absurd h (by omega)) (fun _=>?_);(conv=>whnf);refine XM.seq ?_;(conv=>whnf);refine⟨i64 (by omega) (by omega),?_⟩;(conv=>whnf);refine dec (fun h=>absurd h (by omega)) (fun _=>?_);(conv=>whnf);refine XM.seq ?_;(conv=>whnf);refine⟨i64 (by omega) (by omega),?_⟩;(conv=>whnf);refine⟨by decide,?_⟩;(conv=>whnf);rw[half (e:=(A.length:Int)+((A.length:Int)+X.length+Y.length)) (k:=A.length+h) (by omega) (by omega) (by omega)];refine XM.seq ?_;(conv=>whnf);refine⟨i64 (by omega) (by omega),?_⟩;(conv=>whnf);refine XM.seq ?_;(conv=>whnf);refine XM.join (ι:=Nat×Nat) (fun z=>⟨[(0,.c (.rw 0)),(1,.c (.int .i64 A.length)),(2,.c (.int .i64 ((A.length:Int)+X.length))),(3,.c (.int .i64 ((A.length:Int)+X.length+Y.length))),(4,.c (.fn 174 [])),(18,.c (.int .i64 ((A.length+h:Nat):Int))),(19,.c (.int .i64 (((A.length+h:Nat):Int)+((A.length:Int)+X.length)))),(20,.c (.int .i64 ((A.length:Int)+z.1))),(21,.c (.int .i64 ((A.length:Int)+z.2)))],[.row 4 Fi ao (A++X++Y++B)]⟩) (fun z=>wk X Y h z.1 z.2) ?_ (fun z M=>?_)
 ·(conv=>whnf);refine dec (fun D=>?_) (fun D=>?_)
  ·(conv=>whnf);refine⟨i64 (by omega) (by omega),?_⟩;rw[show((A.length+h:Nat):Int)+((A.length:Int)+X.length)-((A.length:Int)+X.length+Y.length)=(A.length:Int)+((h-Y.length:Nat):Int)by omega,show((A.length+h:Nat):Int)=(A.length:Int)+h by omega];(conv=>whnf);refine⟨(h-Y.length,h),⟨by simp only[];omega,by simp only[];omega,by simp only[];omega,by simp only[];omega,.inl rfl,by simp only[];omega⟩,[],[.same 0],?_⟩;repeat' first|exact trivial|exact rfl|refine And.intro ?_ ?_
   trace_state
  ·(conv=>whnf);refine⟨(0,X.length),⟨by simp only[];omega,by simp only[];omega,by simp only[];omega,by simp only[];omega,.inr rfl,.inl rfl⟩,[],[.same 0],?_⟩;rw[show(A.length:Int)=(A.length:Int)+((0:Nat):Int)by omega];repeat' first|exact trivial|exact rfl|refine And.intro ?_ ?_
   trace_state
 obtain⟨J,I⟩:=z;have M:=M;dsimp only at M;obtain⟨a1,a2,a3,a4,a5,a6⟩:=id M;refine XM.seq ?_;(conv=>whnf);refine⟨i64 (by omega) (by omega),?_⟩;(conv=>whnf);refine XM.join (ι:=Nat) (fun s=>⟨[(0,.c (.rw 0)),(1,.c (.int .i64 A.length)),(2,.c (.int .i64 ((A.length:Int)+X.length))),(3,.c (.int .i64 ((A.length:Int)+X.length+Y.length))),(4,.c (.fn 174 [])),(18,.c (.int .i64 ((A.length+h:Nat):Int))),(19,.c (.int .i64 (((A.length+h:Nat):Int)+((A.length:Int)+X.length)))),(20,.c (.int .i64 ((A.length:Int)+s)))],[.row 4 Fi ao (A++X++Y++B)]⟩) (fun s=>sF X Y h J I s s) ?_ (fun s hJ=>?_)
 ·(conv=>whnf);refine lp (Nat×Nat) (fun z=>⟨[(0,.c (.rw 0)),(1,.c (.int .i64 A.length)),(2,.c (.int .i64 ((A.length:Int)+X.length))),(3,.c (.int .i64 ((A.length:Int)+X.length+Y.length))),(4,.c (.fn 174 [])),(18,.c (.int .i64 ((A.length+h:Nat):Int))),(19,.c (.int .i64 (((A.length+h:Nat):Int)+((A.length:Int)+X.length)))),(22,.c (.int .i64 (((A.length+h:Nat):Int)+((A.length:Int)+X.length)-1))),(20,.c (.int .i64 ((A.length:Int)+z.1))),(21,.c (.int .i64 ((A.length:Int)+z.2)))],[.row 4 Fi ao (A++X++Y++B)]⟩) (fun z=>sF X Y h J I z.1 z.2) (fun z=>z.2-z.1) (J,I) [] [.same 0] ?_ ?_ (fun z hz=>?_)
  ·exact⟨Nat.le_refl _,a1,Nat.le_refl _,fun i j hi hj h=>absurd h (by omega),fun i j hi hj h=>absurd h (by omega)⟩
  ·repeat' first|exact trivial|exact rfl|refine And.intro ?_ ?_
  obtain⟨s,t⟩:=z;obtain⟨b1,b2,b3,p1,p2⟩:=hz;dsimp only at b1 b2 b3 p1 p2;(conv=>whnf);refine dec (fun h5=>?_) (fun h5=>?_)
  ·have h5:s<t:=by simp only[]at h5;omega
   (conv=>whnf);refine⟨i64 (by simp only[];omega) (by simp only[];omega),?_⟩;(conv=>whnf);refine⟨by decide,?_⟩;(conv=>whnf);obtain⟨q,hq⟩:∃q,q=(s+t)/2:=⟨_,rfl⟩;obtain⟨i,hi⟩:∃i,i=h-1-q:=⟨_,rfl⟩;have O:q<X.length:=by omega
   have N:i<Y.length:=by omega
   have am:=p _ (List.getElem_mem O);have ad:=r _ (List.getElem_mem N)
   have o:A++X++Y++B=(A++X.take q)++X[q]::((X.drop (q+1)++Y.take i)++Y[i]::(Y.drop (i+1)++B)):=by
    conv=>lhs;rw[←List.take_append_drop q X,List.drop_eq_getElem_cons O,←List.take_append_drop i Y,List.drop_eq_getElem_cons N]
    simp only[List.append_assoc,List.cons_append]
   have l1:A.length+q=(A++X.take q).length:=by rw[List.length_append,List.length_take];omega
   have l2:A.length+X.length+i=(A++X.take q).length+1+(X.drop (q+1)++Y.take i).length:=by rw[←l1,List.length_append,List.length_drop,List.length_take];omega
   rw[half (e:=(A.length:Int)+(((s,t).1:Nat):Int)+((A.length:Int)+(((s,t).2:Nat):Int))) (k:=A.length+q) (by simp only[];omega) (by simp only[];omega) (by simp only[];omega),o];refine⟨false,.grow,(.l [0,1,2,3,4,5,6,7,8,9,10,11,12,13]),by kernel_rfl,.inl ?_⟩;(conv=>whnf);refine⟨i64 (by omega) (by omega),?_⟩;(conv=>whnf);refine⟨A.length+X.length+i,⟨by omega,iS l2⟩,?_⟩;(conv=>whnf);refine⟨Y[i],iQ l2,?_⟩;(conv=>whnf);refine⟨A.length+q,⟨rfl,iR l1⟩,?_⟩;(conv=>whnf);refine⟨X[q],ie l1,?_⟩;(conv=>whnf);refine cl [] [] (r9 Y[i] X[q] ad am) ?_;rw[←o];(conv=>whnf);refine aw (fun E=>?_) (fun E=>?_)
   ·have E:au Y[i].path X[q].path=false:=by
     cases h7:au Y[i].path X[q].path with
     |false=>rfl
     |true=>exact absurd (la.2 h7) E
    (conv=>whnf);refine⟨i64 (by omega) (by omega),?_⟩;rw[show((A.length+q:Nat):Int)+1=(A.length:Int)+((q+1:Nat):Int)by omega];(conv=>whnf);refine ag (q+1,t) [] [.same 0] ⟨by simp only[];omega,by simp only[];omega,by simp only[];omega,fun i' j' ac al _ e1 e2=>?_,p2⟩ (by simp only[];omega) ?_
    ·obtain rfl:j'=q:=by simp only[]at e2;omega
     obtain rfl:i'=i:=by simp only[]at e1;omega
     exact E
    ·repeat' first|exact trivial|exact rfl|refine And.intro ?_ ?_
   ·have E:=la.1 E;rw[show((A.length+q:Nat):Int)=(A.length:Int)+(q:Nat)by omega];(conv=>whnf);refine ag (s,q) [] [.same 0] ⟨by simp only[];omega,by simp only[];omega,by simp only[];omega,p1,fun i' j' ac al _ e1 e2=>?_⟩ (by simp only[];omega) ?_
    ·obtain rfl:j'=q:=by simp only[]at e2;omega
     obtain rfl:i'=i:=by simp only[]at e1;omega
     exact E
    ·repeat' first|exact trivial|exact rfl|refine And.intro ?_ ?_
  ·obtain rfl:s=t:=by simp only[]at h5;omega
   (conv=>whnf);refine⟨s,⟨b1,b2,b3,p1,p2⟩,[],[.same 0],?_⟩;repeat' first|exact trivial|exact rfl|refine And.intro ?_ ?_
 obtain⟨c1,c2⟩:=Jh wx wy M hJ;obtain⟨b1,_,b3,_,_⟩:=id hJ;obtain⟨k,hk⟩:∃k,k=h-s:=⟨_,rfl⟩;rw[←hk]at c1 c2;have W:X.take s++X.drop s=X:=List.take_append_drop s X;have eY:Y.take k++Y.drop k=Y:=List.take_append_drop k Y;have aT:(X.take s).length=s:=by rw[List.length_take];omega
 have a0:(X.drop s).length=X.length-s:=List.length_drop ..;have a9:(Y.take k).length=k:=by rw[List.length_take];omega
 have bb:(Y.drop k).length=Y.length-k:=List.length_drop ..;have u:=Ji (X1:=X.take s) (X2:=X.drop s) (Y1:=Y.take k) (Y2:=Y.drop k) (by rw[W];exact wx) (by rw[eY];exact wy) c1 c2;rw[W,eY]at u;have q1:∀f∈X.take s,f.path.length≤4000000:=fun f H=>p f (List.mem_of_mem_take H);have q2:∀f∈X.drop s,f.path.length≤4000000:=fun f H=>p f (List.mem_of_mem_drop H);have q3:∀f∈Y.take k,f.path.length≤4000000:=fun f H=>r f (List.mem_of_mem_take H);have q4:∀f∈Y.drop k,f.path.length≤4000000:=fun f H=>r f (List.mem_of_mem_drop H);obtain⟨R,S,_⟩:=om (by rw[W];exact wx:Wk (X.take s++X.drop s));obtain⟨T,U,_⟩:=om (by rw[eY];exact wy:Wk (Y.take k++Y.drop k))
 have o:A++X++Y++B=(A++X.take s)++X.drop s++Y.take k++(Y.drop k++B):=by
  conv=>lhs;rw[←W,←eY]
  simp only[List.append_assoc]
 rw[o,←u];clear u o c1 c2;generalize X.take s=g at*;generalize X.drop s=d at*;generalize Y.take k=Y1 at*;generalize Y.drop k=Y2 at*;refine XM.seq ?_;(conv=>whnf);refine⟨i64 (by omega) (by omega),?_⟩;rw[show((A.length+h:Nat):Int)+((A.length:Int)+X.length)-((A.length:Int)+s)=(A.length:Int)+X.length+k by omega];(conv=>whnf);have v:d.length=0→d=[]:=List.eq_nil_of_length_eq_zero;have P:g.length=0→g=[]:=List.eq_nil_of_length_eq_zero;have w:Y1.length=0→Y1=[]:=List.eq_nil_of_length_eq_zero;have Q:Y2.length=0→Y2=[]:=List.eq_nil_of_length_eq_zero;have ap:=iG (g++Y1);rw[List.length_append]at ap;refine XM.join (ι:=Unit) (fun _=>⟨[(0,.c (.rw 0)),(1,.c (.int .i64 A.length)),(2,.c (.int .i64 ((A.length:Int)+X.length))),(3,.c (.int .i64 ((A.length:Int)+X.length+Y.length))),(4,.c (.fn 174 [])),(18,.c (.int .i64 ((A.length+h:Nat):Int))),(20,.c (.int .i64 ((A.length:Int)+s))),(24,.c (.int .i64 ((A.length:Int)+X.length+k)))],[.row 4 Fi ao (A++g++Y1++(d++Y2++B))]⟩) (fun _=>True) ?_ (fun _ _=>?_)
 ·(conv=>whnf);refine dec (fun D=>?_) (fun D=>?_)
  ·(conv=>whnf);refine dec (fun K=>?_) (fun K=>?_)
   ·(conv=>whnf);refine cl [] [0] (HR (A++g) d Y1 (Y2++B) (by omega) (by omega) (by simp only[List.length_append];omega) ((A.length:Int)+s) ((A.length:Int)+X.length) ((A.length:Int)+X.length+k) (by rw[List.length_append];omega) (by rw[List.length_append];omega) (by rw[List.length_append];omega)) ?_;rw[show A++g++Y1++d++(Y2++B)=A++g++Y1++(d++Y2++B)by simp];(conv=>whnf);refine⟨(),trivial,[],[.same 0],?_⟩;repeat' first|exact trivial|exact rfl|refine And.intro ?_ ?_
   ·rw[show A++g++d++Y1++(Y2++B)=A++g++Y1++(d++Y2++B)by rw[w (by omega)];simp];(conv=>whnf);refine⟨(),trivial,[],[.same 0],?_⟩;repeat' first|exact trivial|exact rfl|refine And.intro ?_ ?_
  ·rw[show A++g++d++Y1++(Y2++B)=A++g++Y1++(d++Y2++B)by rw[v (by omega)];simp];(conv=>whnf);refine⟨(),trivial,[],[.same 0],?_⟩;repeat' first|exact trivial|exact rfl|refine And.intro ?_ ?_
 refine XM.join (ι:=Unit) (fun _=>⟨[(0,.c (.rw 0)),(1,.c (.int .i64 A.length)),(2,.c (.int .i64 ((A.length:Int)+X.length))),(3,.c (.int .i64 ((A.length:Int)+X.length+Y.length))),(4,.c (.fn 174 [])),(18,.c (.int .i64 ((A.length+h:Nat):Int))),(20,.c (.int .i64 ((A.length:Int)+s))),(24,.c (.int .i64 ((A.length:Int)+X.length+k)))],[.row 4 Fi ao (A++aH (g++Y1)++(d++Y2++B))]⟩) (fun _=>True) ?_ (fun _ _=>?_)
 ·(conv=>whnf);refine dec (fun D=>?_) (fun D=>?_)
  ·(conv=>whnf);refine dec (fun K=>?_) (fun K=>?_)
   ·(conv=>whnf);refine cl [] [0] (ih A g Y1 (d++Y2++B) (by omega) (by omega) (by omega) R T (by simp only[List.length_append];omega) q1 q3 (A.length:Int) ((A.length:Int)+s) ((A.length+h:Nat):Int) rfl (by omega) (by omega)) ?_;(conv=>whnf);refine⟨(),trivial,[],[.same 0],?_⟩;repeat' first|exact trivial|exact rfl|refine And.intro ?_ ?_
   ·rw[show A++g++Y1++(d++Y2++B)=A++aH (g++Y1)++(d++Y2++B)by rw[w (by omega),List.append_nil,List.append_nil,qV R]];(conv=>whnf);refine⟨(),trivial,[],[.same 0],?_⟩;repeat' first|exact trivial|exact rfl|refine And.intro ?_ ?_
  ·rw[show A++g++Y1++(d++Y2++B)=A++aH (g++Y1)++(d++Y2++B)by rw[P (by omega),List.append_nil,List.nil_append,qV T]];(conv=>whnf);refine⟨(),trivial,[],[.same 0],?_⟩;repeat' first|exact trivial|exact rfl|refine And.intro ?_ ?_
 generalize aH (g++Y1)=Z at*;refine XM.of ?_;(conv=>whnf);refine dec (fun D=>?_) (fun D=>?_)
 ·(conv=>whnf);refine dec (fun K=>?_) (fun K=>?_)
  ·rw[show A++Z++(d++Y2++B)=(A++Z)++d++Y2++B by simp];(conv=>whnf);refine cl [] [0] (ih (A++Z) d Y2 B (by omega) (by omega) (by omega) S U (by simp only[List.length_append];omega) q2 q4 ((A.length+h:Nat):Int) ((A.length:Int)+X.length+k) ((A.length:Int)+X.length+Y.length) (by rw[List.length_append];omega) (by rw[List.length_append];omega) (by rw[List.length_append];omega)) ?_;rw[show A++(Z++aH (d++Y2))++B=A++Z++aH (d++Y2)++B by simp];(conv=>whnf);exact rx [] [.same 0]
  ·rw[show A++(Z++aH (d++Y2))++B=A++Z++(d++Y2++B)by rw[Q (by omega),List.append_nil,qV S];simp];(conv=>whnf);exact rx [] [.same 0]
 ·rw[show A++(Z++aH (d++Y2))++B=A++Z++(d++Y2++B)by rw[v (by omega),List.nil_append,qV U];simp];(conv=>whnf);exact rx [] [.same 0]
end Go.Nest
end
section
namespace Go.Nest
open Go Go.AM Go.Proofs
open Go.Proofs.YtpechfcbnoggfaaGreatDoor (tab tabOk)
set_option maxRecDepth 4000
theorem IU{bs:Nat}{r:List Fi}(hb:0<bs)(h:2*bs≤r.length):ct bs r=aH (r.take bs)++aH ((r.drop bs).take bs)++ct bs (r.drop (2*bs))∧aH (aH (r.take bs)++aH ((r.drop bs).take bs))=aH (r.take (2*bs)):=by
 have e:(r.drop bs).drop bs=r.drop (2*bs):=by rw[List.drop_drop];congr 1;omega
 refine⟨?_,?_⟩
 ·rw[pN hb (by omega),pN hb (by rw[List.length_drop];omega),e,List.append_assoc]
 ·rw[yT];congr 1
  conv=>rhs;rw[show 2*bs=bs+bs by omega,List.take_add]
theorem IT{bs:Nat}{r:List Fi}(hb:0<bs)(h1:bs<r.length)(h2:r.length<2*bs):ct bs r=aH (r.take bs)++aH (r.drop bs)∧aH (aH (r.take bs)++aH (r.drop bs))=ct (2*bs) r:=by
 refine⟨?_,?_⟩
 ·rw[pN hb (by omega),kN (d:=r.drop bs) (by rw[List.length_drop];omega)]
 ·rw[yT,List.take_append_drop,kN (by omega)]
set_option maxHeartbeats 4000000 in
theorem IW(d:List Fi)(hn:d.length≤150)(w:∀f∈d,f.path.length≤4000000)(n:Int)(v:n=d.length):ae Tryz.prog 251 [.c (.rw 0),.c (.int .i64 n),.c (.fn 174 [])] [.row 4 Fi ao (d)] (Rt (.aC []) [.row 4 Fi ao (aH d)]):=by
 subst v;refine iX (n:=63) (n0:=1) tabOk Tryz.call251 Tryz.func251 ?_;intro hb;refine XM.seq ?_;(conv=>whnf);refine XM.seq ?_;(conv=>whnf);refine XM.join (ι:=Nat×List Fi) (fun z=>⟨[(0,.c (.rw 0)),(1,.c (.int .i64 d.length)),(2,.c (.fn 174 [])),(6,.c (.int .i64 20)),(7,.c (.int .i64 z.1))],[.row 4 Fi ao (z.2++d.drop z.1)]⟩) (fun z=>(z.1≤d.length∧d.length<z.1+20)∧z.2.length=z.1∧z.2++ct 20 (d.drop z.1)=ct 20 d) ?_ (fun z o=>?_)
 ·(conv=>whnf);refine lp (Nat×List Fi) (fun z=>⟨[(0,.c (.rw 0)),(1,.c (.int .i64 d.length)),(2,.c (.fn 174 [])),(6,.c (.int .i64 20)),(7,.c (.int .i64 z.1)),(8,.c (.int .i64 ((z.1:Int)+20)))],[.row 4 Fi ao (z.2++d.drop z.1)]⟩) (fun z=>(z.1≤d.length)∧z.2.length=z.1∧z.2++ct 20 (d.drop z.1)=ct 20 d) (fun z=>d.length-z.1) (0,[]) [] [.same 0] ?_ ?_ (fun z o=>?_)
  ·simp
  ·repeat' first|exact trivial|exact rfl|refine And.intro ?_ ?_
  obtain⟨p,P⟩:=z;obtain⟨q,s,h⟩:=o;dsimp only at q s h;(conv=>whnf);refine dec (fun g=>?_) (fun g=>?_)
  ·have g:p+20≤d.length:=by simp only[]at g;omega
   have e:(p,P).2++d.drop (p,P).1=P++(d.drop p).take 20++(d.drop p).drop 20:=by rw[List.append_assoc,List.take_append_drop]
   have j:(d.drop p).drop 20=d.drop (p+20):=List.drop_drop ..;have y:(d.drop p).length=d.length-p:=List.length_drop ..;have I:((d.drop p).take 20).length=20:=by rw[List.length_take];omega
   have k:=pN (bs:=20) (d:=d.drop p) (by omega) (by omega);rw[j]at k;rw[e];(conv=>whnf);refine cl [] [0] (yZ P ((d.drop p).take 20) ((d.drop p).drop 20) (by rw[j,List.length_drop];omega) (fun f b=>w f (List.mem_of_mem_drop (List.mem_of_mem_take b))) p ((p:Int)+20) (by omega) (by omega)) ?_;(conv=>whnf);refine⟨i64 (by simp only[];omega) (by simp only[];omega),?_⟩;rw[j,show((((p,P).1:Nat):Int)+20)=((p+20:Nat):Int)by simp only[];omega];(conv=>whnf);refine ag (p+20,P++aH ((d.drop p).take 20)) [] [.same 0] ⟨g,by rw[List.length_append,iG];omega,by rw[List.append_assoc,←k,h]⟩ (by simp only[];omega) ?_;repeat' first|exact trivial|exact rfl|refine And.intro ?_ ?_
  ·(conv=>whnf);refine⟨(p,P),⟨⟨q,by simp only[]at g;omega⟩,s,h⟩,[],[.same 0],?_⟩;repeat' first|exact trivial|exact rfl|refine And.intro ?_ ?_
 obtain⟨p,P⟩:=z;obtain⟨⟨q,g⟩,s,h⟩:=o;dsimp only at q s h g;refine XM.seq ?_;rw[show(p,P).2++d.drop (p,P).1=P++d.drop p++[]by simp];have y:(d.drop p).length=d.length-p:=List.length_drop ..;(conv=>whnf);refine cl [] [0] (yZ P (d.drop p) [] (by simp;omega) (fun f b=>w f (List.mem_of_mem_drop b)) p (d.length:Int) (by omega) (by omega)) ?_;rw[show P++aH (d.drop p)++[]=ct 20 d by rw[←h,kN (by omega)];simp];refine XM.of ?_;have len:∀a,(ct a d).length=d.length:=fun a=>Bn d.length a d (Nat.le_refl _);(conv=>whnf);refine lp Nat (fun a=>⟨[(0,.c (.rw 0)),(1,.c (.int .i64 d.length)),(2,.c (.fn 174 [])),(6,.c (.int .i64 a))],[.row 4 Fi ao (ct a d)]⟩) (fun a=>(20≤a∧a≤400)∧True) (fun a=>400-a) 20 [] [.same 0] ?_ ?_ (fun a u=>?_)
 ·simp
 ·repeat' first|exact trivial|exact rfl|refine And.intro ?_ ?_
 obtain⟨⟨N,O⟩,_⟩:=u;(conv=>whnf);refine dec (fun k=>?_) (fun k=>?_)
 ·have k:a<d.length:=by omega
  (conv=>whnf);refine⟨i64 (by omega) (by omega),?_⟩;rw[show(2:Int)*(a:Nat)=((0:Nat):Int)+2*a by omega];rw[show ct a d=[]++ct a (d.drop 0)by simp];(conv=>whnf);refine lp (Nat×List Fi) (fun z=>⟨[(0,.c (.rw 0)),(1,.c (.int .i64 d.length)),(2,.c (.fn 174 [])),(6,.c (.int .i64 a)),(7,.c (.int .i64 z.1)),(8,.c (.int .i64 ((z.1:Int)+2*a)))],[.row 4 Fi ao (z.2++ct a (d.drop z.1))]⟩) (fun z=>(z.1≤d.length)∧z.2.length=z.1∧z.2++ct (2*a) (d.drop z.1)=ct (2*a) d) (fun z=>d.length-z.1) (0,[]) [] [.same 0] ?_ ?_ (fun z o=>?_)
  ·simp
  ·repeat' first|exact trivial|exact rfl|refine And.intro ?_ ?_
  obtain⟨p,P⟩:=z;obtain⟨F,H,k3⟩:=o;dsimp only at F H k3;have y:(d.drop p).length=d.length-p:=List.length_drop ..;have mem:∀(l:List Fi),(∀f∈l,f∈d.drop p)→∀f∈aH l,f.path.length≤4000000:=fun l E f b=>w f (List.mem_of_mem_drop (E f ((lC _).mem_iff.1 b)));(conv=>whnf);refine dec (fun i=>?_) (fun i=>?_)
  ·have i:p+2*a≤d.length:=by simp only[]at i;omega
   obtain⟨t,x⟩:=IU (r:=d.drop p) (bs:=a) (by omega) (by omega);have D:=pN (bs:=2*a) (d:=d.drop p) (by omega) (by omega);have j:(d.drop p).drop (2*a)=d.drop (p+2*a):=List.drop_drop ..;rw[j]at t D;have J:(aH ((d.drop p).take a)).length=a:=by rw[iG,List.length_take];omega
   have K:(aH (((d.drop p).drop a).take a)).length=a:=by rw[iG,List.length_take,List.length_drop];omega
   have M:=Bn (d.drop (p+2*a)).length a (d.drop (p+2*a)) (Nat.le_refl _);rw[List.length_drop]at M;rw[show(p,P).2++ct a (d.drop (p,P).1)=P++aH ((d.drop p).take a)++aH (((d.drop p).drop a).take a)++ct a (d.drop (p+2*a))by rw[show d.drop (p,P).1=d.drop p from rfl,t];simp];(conv=>whnf);refine⟨i64 (by simp only[];omega) (by simp only[];omega),?_⟩;(conv=>whnf);refine cl [] [0] (Bu 1000 P (aH ((d.drop p).take a)) (aH (((d.drop p).drop a).take a)) (ct a (d.drop (p+2*a))) (by omega) (by omega) (by omega) (jV _) (jV _) (by omega) (mem _ fun f b=>List.mem_of_mem_take b) (mem _ fun f b=>List.mem_of_mem_drop (List.mem_of_mem_take b)) p ((p:Int)+a) ((p:Int)+2*a) (by omega) (by omega) (by omega)) ?_;rw[x];(conv=>whnf);refine⟨i64 (by omega) (by omega),?_⟩;(conv=>whnf);refine⟨i64 (by simp only[];omega) (by simp only[];omega),?_⟩;rw[show((((p,P).1:Nat):Int)+2*(a:Nat))=((p+2*a:Nat):Int)by simp only[];omega];(conv=>whnf);refine ag (p+2*a,P++aH ((d.drop p).take (2*a))) [] [.same 0] ⟨i,by rw[List.length_append,iG,List.length_take];omega,by rw[List.append_assoc,←D,k3]⟩ (by simp only[];omega) ?_;repeat' first|exact trivial|exact rfl|refine And.intro ?_ ?_
  ·have i:d.length<p+2*a:=by simp only[]at i;omega
   (conv=>whnf);refine⟨i64 (by simp only[];omega) (by simp only[];omega),?_⟩;(conv=>whnf);refine dec (fun m=>?_) (fun m=>?_)
   ·have m:p+a<d.length:=by simp only[]at m;omega
    obtain⟨t,x⟩:=IT (r:=d.drop p) (bs:=a) (by omega) (by omega) (by omega);have J:(aH ((d.drop p).take a)).length=a:=by rw[iG,List.length_take];omega
    have K:(aH ((d.drop p).drop a)).length=d.length-p-a:=by rw[iG,List.length_drop];omega
    rw[show(p,P).2++ct a (d.drop (p,P).1)=P++aH ((d.drop p).take a)++aH ((d.drop p).drop a)++[]by rw[show d.drop (p,P).1=d.drop p from rfl,t];simp];(conv=>whnf);refine cl [] [0] (Bu 1000 P (aH ((d.drop p).take a)) (aH ((d.drop p).drop a)) [] (by omega) (by omega) (by omega) (jV _) (jV _) (by rw[List.length_nil];omega) (mem _ fun f b=>List.mem_of_mem_take b) (mem _ fun f b=>List.mem_of_mem_drop b) p ((p:Int)+a) (d.length:Int) (by omega) (by omega) (by omega)) ?_;rw[x,show P++ct (2*a) (d.drop p)++[]=ct (2*a) d by rw[k3];simp];(conv=>whnf);refine⟨i64 (by omega) (by omega),?_⟩;rw[show(a:Int)*2=((2*a:Nat):Int)by omega];(conv=>whnf);refine ag (2*a) [] [.same 0] ⟨⟨by omega,by omega⟩,trivial⟩ (by simp only[];omega) ?_;repeat' first|exact trivial|exact rfl|refine And.intro ?_ ?_
   ·have m:d.length≤p+a:=by simp only[]at m;omega
    rw[show(p,P).2++ct a (d.drop (p,P).1)=ct (2*a) d by rw[←k3,show d.drop (p,P).1=d.drop p from rfl,kN (bs:=a) (by omega),kN (bs:=2*a) (by omega)]];(conv=>whnf);refine⟨i64 (by omega) (by omega),?_⟩;rw[show(a:Int)*2=((2*a:Nat):Int)by omega];(conv=>whnf);refine ag (2*a) [] [.same 0] ⟨⟨by omega,by omega⟩,trivial⟩ (by simp only[];omega) ?_;repeat' first|exact trivial|exact rfl|refine And.intro ?_ ?_
 ·rw[kN (by omega)];(conv=>whnf);exact rx [] [.same 0]
theorem Iz(d:List Fi)(hn:d.length≤150)(a:∀f∈d,f.path.length≤4000000):ae Tryz.prog 173 [.c (.rw 0),.c (.fn 174 [])] [.row 4 Fi ao (d)] (Rt (.aC []) [.row 4 Fi ao (aH d)]):=by
 refine ak (n:=9) (n0:=1) tabOk Tryz.call173 Tryz.func173 ?_;intro hb;(conv=>whnf);refine cl [] [0] (IW d hn a d.length rfl) ?_;(conv=>whnf);exact rx [] [.same 0]
theorem CX(l:List Fi)(hl:l.length*40≤140737488355328):ae Tryz.prog 172 [.c (.bs 4 Fi ao l)] [] (Rt (.c (.rw 0)) [.row 4 Fi ao l]):=by
 refine ak (n:=8) (n0:=0) tabOk Tryz.call172 Tryz.func172 ?_;intro hb;(conv=>whnf);intro q a;(conv=>whnf);refine aL (fun h=>?_) (fun h=>?_)
 ·obtain rfl:=a h;(conv=>whnf);exact rx [] [.new]
 ·(conv=>whnf);refine⟨[],rfl,?_⟩;(conv=>whnf);refine⟨_,_,rfl,rfl,(by simp only[List.length_append,List.length_cons,List.length_nil];omega),?_⟩;(conv=>whnf);exact rx [] [.same 1]
theorem IG(d:List Fi)(hn:d.length≤150)(a:∀f∈d,f.path.length≤4000000):ae Tryz.prog 100 [.c (.bs 4 Fi ao d)] [] (Rt (.c (.rw 0)) [.row 4 Fi ao (aH d)]):=by
 refine ak (n:=9) (n0:=0) tabOk Tryz.call100 Tryz.func100 ?_;intro hb;(conv=>whnf);refine cl [] [] (CX d (by omega)) ?_;(conv=>whnf);refine cl [] [0] (Iz d hn a) ?_;(conv=>whnf);exact rx [] [.same 0]
end Go.Nest
end
section
namespace Go.Nest
open Go Go.AM Go.Proofs
open Go.Proofs.YtpechfcbnoggfaaGreatDoor (tab tabOk)
set_option maxRecDepth 4000
theorem Hm{p:List UInt8}(h:(bZ p).2=0):p.length≤168:=by
 obtain⟨a,d,_⟩:=lT h;have b:=oe (aA p) fun s c=>ph (nT a s c);rw[og]at b;omega
theorem ya{L:List Ob}(c:ai L)(t:Int):(bw L t).1.length≤60∧∀f∈(bw L t).1,f.path.length≤4000:=by
 by_cases h:(bw L t).2=0
 ·obtain⟨d,b,e⟩:=oQ c h;have g:=BC c d b e;refine⟨b,fun f a=>?_⟩;have:=Hm ((jh g).2 f a).1;omega
 ·rw[tP h];exact⟨Nat.zero_le _,fun f a=>by cases a⟩
end Go.Nest
end
