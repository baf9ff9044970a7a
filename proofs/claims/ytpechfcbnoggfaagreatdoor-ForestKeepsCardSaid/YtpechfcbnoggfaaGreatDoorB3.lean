/- part -/
import Derived.Test.YtpechfcbnoggfaaGreatDoorB0
import Derived.Test.YtpechfcbnoggfaaGreatDoorP9
import Derived.Test.YtpechfcbnoggfaaGreatDoorW1
import Derived.Test.YtpechfcbnoggfaaGreatDoorN1
set_option linter.unusedVariables false
set_option linter.unusedSimpArgs false
section
namespace Go.Nest
open Go Go.AM Go.Proofs Go.Sort
open Go.Proofs.YtpechfcbnoggfaaGreatDoor (tab tabOk)
set_option maxRecDepth 4000
def cmpL(a b:List UInt8):Int:=if au a b=true then-1 else if au b a=true then 1 else 0
theorem Jv{dr:Bool}(a b:List UInt8)(g:a.length≤4000000)(d:b.length≤4000000):bA dr Tryz.prog 323 [.c (.str a),.c (.str b)] [] (Rt (.c (.int .i64 (cmpL a b))) []):=by
 have h:=kD (dr:=dr) a b g d;have i:=kD (dr:=dr) b a d g;refine ak (n:=13) (n0:=0) tabOk Tryz.call323 Tryz.func323 ?_;intro hb;unfold cmpL;generalize au a b=x at h⊢;generalize au b a=y at i⊢;(conv=>whnf);refine cl [] [] (h) ?_;(conv=>whnf);refine aL (fun e=>?_) (fun e=>?_)
 ·rw[if_pos e];(conv=>whnf);exact aG rfl
 ·rw[if_neg (by rw[e];decide)];(conv=>whnf);refine cl [] [] (i) ?_;(conv=>whnf);refine aL (fun f=>?_) (fun f=>?_)
  ·rw[if_pos f];(conv=>whnf);exact aG rfl
  ·rw[if_neg (by rw[f];decide)];(conv=>whnf);exact aG rfl
def lf(x y:Tx):Int:=cmpL x.1 y.1
theorem pc(x y:Tx):ltOf lf x y=au x.1 y.1:=by
 unfold ltOf lf cmpL;cases h:au x.1 y.1 with
 |true=>rw[if_pos rfl];rfl
 |false=>
  rw[if_neg (by decide)];split<;>rfl
theorem C1:SWO (ltOf lf)where
 irrefl x:=by rw[pc];exact lI
 trans x y z h1 h2:=by rw[pc]at*;exact jn h1 h2
 ntrans x y z h1 h2:=by
  rw[pc]at*;cases h:au x.1 z.1 with
  |false=>rfl
  |true=>
   rcases gF x.1 y.1 with h3|h3|h3
   ·rw[h3]at h1;cases h1
   ·rw[h3]at h;rw[h]at h2;cases h2
   ·have:=jn h3 h;rw[this]at h2;cases h2
theorem C2(x y:Tx)(h1:ltOf lf x y=false)(h2:ltOf lf y x=false):x=y:=by
 rw[pc]at*;refine Subtype.ext ?_;rcases gF x.1 y.1 with h3|h3|h3
 ·rw[h3]at h1;cases h1
 ·exact h3
 ·rw[h3]at h2;cases h2
def iP(l:List (List UInt8)):List (List UInt8):=l.mergeSort fun x y=> !au y x
theorem IC(l:List Tx)(hne:l≠[])(hl:l.length≤1000000):ae Tryz.prog 322 [.c (.rw 0),.c (.fn 323 [])] [.row 1 (List UInt8) encS (l.map (·.1))] (Rt (.aC []) [.row 1 (List UInt8) encS (iP (l.map (·.1)))]):=by
 have h := ae.GW (P := Tryz.prog) (f := 322) (g := 323) (l := l) (l' := l.mergeSort fun x y => !(ltOf lf) y x) hne (List.length_mergeSort l) Tryz.call322 (fun d j cap w k i=>by
  have h:=Any.slices_SortFunc_total zh gN (fun _=>rfl) lf C1 323 #[] d j cap l.toArray w Tryz.call323 (FV Tryz.call323 (fun x y=>Jv x.1 y.1 x.2 y.2) d j _ w) k i (by rw[List.size_toArray];omega) C2;exact h)
 have e:(l.mergeSort fun x y=> !(ltOf lf) y x).map (·.1)=iP (l.map (·.1)):=by
  unfold iP;exact List.map_mergeSort fun a _ b _=>by rw[pc]
 rw[e]at h;exact h
end Go.Nest
end
section
namespace Go.Nest
open Go Go.AM Go.NB Go.Proofs Go.Sort
open Go.Proofs.YtpechfcbnoggfaaGreatDoor (tab tabOk)
set_option maxRecDepth 4000
theorem Ix:ae Tryz.prog 322 [.c (.rw 0),.c (.fn 323 [])] [.row 1 (List UInt8) Go.AM.encS []] (Rt (.aC []) [.row 1 (List UInt8) Go.AM.encS []]):=by
 intro F L γ H y a i w u;subst u;match y,a with
 |[v,n],⟨t,d,_⟩=>
  obtain rfl:n= .func (.func 323) #[] #[]:=by
   cases d with
   |fn s _=>cases s;rfl
  obtain⟨q,cap,rfl⟩:∃q cap,v= .slice q 0 cap:=by
   cases t with
   | @rw _ _ p q n0 g _ _ r z _=>
    rcases i.br 0 _ _ rfl r with⟨D,e,_⟩|⟨k,x,cap,m,e,l,f,_⟩
    ·cases e;exact⟨_,_,rfl⟩
    ·cases f;exact⟨_,_,rfl⟩
  have h:Calls Tryz.prog 322 #[.slice q 0 cap,.func (.func 323) #[] #[]] w fun e j=>e= .returned (.tuple #[])∧j=w:=AnyF.slices_SortFunc_none {zh with} q cap _ w;rw[Tryz.call322];refine⟨rfl,h.mono fun e j ⟨o,b⟩=>.inl ⟨_,o,⟨.ret (.aC []),[.row 1 (List UInt8) Go.AM.encS []],F,γ,⟨rfl,rfl⟩,rfl,rfl,rfl,⟨[],rfl,trivial⟩,?_⟩,?_⟩⟩
  ·subst b;exact i
  ·subst b;exact ek.refl _
theorem BG:∀{l:List (List UInt8)},(∀x∈l,x.length≤4000000)→∃t:List Tx,t.map (·.1)=l
 |[],_=>⟨[],rfl⟩
 |x::l,h=>by
  obtain⟨t,rfl⟩:=BG fun y a=>h y (List.mem_cons_of_mem _ a);exact⟨⟨x,h x (by simp)⟩::t,rfl⟩
theorem Iy(l:List (List UInt8))(a:∀x∈l,x.length≤4000000)(hl:l.length≤1000000):ae Tryz.prog 322 [.c (.rw 0),.c (.fn 323 [])] [.row 1 (List UInt8) Go.AM.encS l] (Rt (.aC []) [.row 1 (List UInt8) Go.AM.encS (iP l)]):=by
 obtain⟨t,rfl⟩:=BG a;rw[List.length_map]at hl;by_cases h:t=[]
 ·subst h;rw[List.map_nil,show iP []=[]by unfold iP;exact List.mergeSort_nil];exact Ix
 ·exact IC t h hl
def dY:Option (List UInt8)→List (List UInt8)→List (List UInt8)
 |_,[]=>[]
 |p,x::r=>if some x=p then dY p r else x::dY (some x) r
theorem tB:∀{l:List (List UInt8)} {p:Option (List UInt8)} {y:List UInt8},dY p (l++[y])=dY p l++(if some y=(match l.getLast? with|some x=>some x|none=>p)then[]else[y])
 |[],p,y=>by
  show(if some y=p then dY p []else y::dY (some y) [])=[]++(if some y=p then[]else[y]);split<;>rfl
 |x::l,p,y=>by
  have e:(x::l).getLast? =match l.getLast? with|some z=>some z|none=>some x:=by
   cases l with
   |nil=>rfl
   |cons z l=>rw[List.getLast?_cons_cons];cases h:(z::l).getLast? with
    |none=>simp at h
    |some _=>rfl
  rw[List.cons_append,dY,dY,e];split
  ·rename_i h;rw[tB,←h];cases l.getLast? <;>rfl
  ·rw[tB,List.cons_append];cases l.getLast? <;>rfl
theorem qB{l:List (List UInt8)}{i:Nat}(a:0<i)(hi:i<l.length):dY none (l.take (i+1))=dY none (l.take i)++(if l[i]=l[i-1]then[]else[l[i]]):=by
 rw[List.take_succ_eq_append_getElem hi,tB]
 have e:(l.take i).getLast? =some (l[i-1]'(by omega)):=by
  rw[List.getLast?_eq_getElem?,List.length_take,Nat.min_eq_left (by omega),List.getElem?_take_of_lt (by omega),List.getElem?_eq_getElem (by omega)]
 rw[e];simp only[Option.some.injEq]
structure kT(l X:List (List UInt8))(k n:Nat):Prop where
 pos:0<k
 le:k<n
 nl:n≤l.length
 len:X.length=l.length
 front:X.take k=dY none (l.take n)
 back:∀j,n-1≤j→X[j]? =l[j]?
theorem kT.ca{l X:List (List UInt8)}{k n:Nat}(h:kT l X k n)(hn:n<l.length)(hne:¬l[n]=l[n-1]):kT l (X.set k l[n]) (k+1) (n+1):=by
 have a:=h.le;have b:=h.pos;have c:=h.len;refine⟨by omega,by omega,hn,by rw[List.length_set];exact h.len,?_,fun j d=>?_⟩
 ·rw[qB (by omega) hn,if_neg hne,←h.front,List.take_succ_eq_append_getElem (by rw[List.length_set];omega),List.getElem_set_self,List.take_set_of_le (Nat.le_refl _)]
 ·rw[List.getElem?_set_ne (by omega)];exact h.back j (by omega)
theorem kT.drop{l X:List (List UInt8)}{k n:Nat}(h:kT l X k n)(hn:n<l.length)(he:l[n]=l[n-1]):kT l X k (n+1):=by
 have b:=h.le;have a:=h.pos;refine⟨a,by omega,hn,h.len,?_,fun j c=>h.back j (by omega)⟩;rw[qB (by omega) hn,if_pos he,List.append_nil];exact h.front
theorem Dx{l:List (List UInt8)}{i:Nat}(a:0<i)(hi:i<l.length)(b:dY none (l.take i)=l.take i)(he:l[i]=l[i-1]):kT l l i (i+1):=
 ⟨a,by omega,hi,rfl,by rw[qB a hi,if_pos he,List.append_nil,b],fun j c=>rfl⟩
theorem xK{l:List (List UInt8)}(h:l.length<2):dY none l=l:=by
 match l,h with
 |[],_=>rfl
 |[x],_=>rfl
set_option maxHeartbeats 2000000 in
theorem C7(l:List (List UInt8))(hl:l.length≤1000000):ae Tryz.prog 324 [.c (.rw 0)] [.row 1 (List UInt8) Go.AM.encS l] (Rt (.c (.rw 1)) [.dead,.row 1 (List UInt8) Go.AM.encS (dY none l)]):=by
 refine ak (n:=61) (n0:=1) tabOk Tryz.call324 Tryz.func324 ?_;intro hb;(conv=>whnf);refine dec (fun g=>?_) (fun g=>?_)
 ·have g:(l.length:Int)<2:=g;rw[xK (by omega)];(conv=>whnf);exact rx [] [.same 0,.same 0]
 have g:¬(l.length:Int)<2:=g;(conv=>whnf);refine lp Nat (fun i=>⟨[(0,.c (.rw 0)),(3,.c (.int .i64 i))],[.row 1 (List UInt8) Go.AM.encS l]⟩) (fun i=>((0<i∧i≤l.length)∧dY none (l.take i)=l.take i)∧True) (fun i=>l.length-i) 1 [] [.same 0] ⟨⟨⟨by decide,by omega⟩,xK (by rw[List.length_take];omega)⟩,trivial⟩ ?_ (fun i E=>?_)
 ·repeat' first|exact trivial|exact rfl|refine And.intro ?_ ?_
 obtain⟨⟨⟨o,E⟩,r⟩,-⟩:=E;(conv=>whnf);refine dec (fun h=>?_) (fun h=>?_)
 ·have a:i<l.length:=by have h:(i:Int)<l.length:=h;omega
  have q:=qB o a;have u:l[i]? =some l[i]:=List.getElem?_eq_getElem a;have v:l[i-1]? =some l[i-1]:=List.getElem?_eq_getElem (by omega);have f:=Dx o a r;(conv=>whnf);refine⟨false,.grow,(.l [0,1,2,3,4,5,6,7,8,9]),by kernel_rfl,.inl ?_⟩;(conv=>whnf);refine⟨i,⟨rfl,a⟩,?_⟩;(conv=>whnf);refine⟨l[i],u,?_⟩;(conv=>whnf);refine⟨i64 (by omega) (by omega),?_⟩;(conv=>whnf);refine⟨i-1,⟨by omega,by omega⟩,?_⟩;(conv=>whnf);refine⟨l[i-1],v,?_⟩;(conv=>whnf);refine dec (fun s=>?_) (fun s=>?_)
  ·have f:=f s;(conv=>whnf);refine⟨i,l.length,rfl,by omega,by omega,?_⟩;(conv=>whnf);refine lp (Nat×Nat×List (List UInt8)) (fun|(k,j,X)=>⟨[(0,.c (.rw 0)),(3,.c (.int .i64 k)),(4,.c (.sw 1 0 i (l.length-i))),(5,.c (.int .i64 j))],[.row 1 (List UInt8) Go.AM.encS X]⟩) (fun x=>(1≤x.2.1∧kT l x.2.2 x.1 (i+x.2.1))∧True) (fun x=>l.length-x.2.1) (i,1,l) [] [.same 0] ⟨⟨Nat.le_refl _,f⟩,trivial⟩ ?_ (fun x b=>?_)
   ·repeat' first|exact trivial|exact rfl|refine And.intro ?_ ?_
   obtain⟨k,j,X⟩:=x;obtain⟨⟨w,b⟩,-⟩:=b;dsimp only at w b;have K:=b.le;have M:=b.nl;have N:=b.len;have O:=b.pos;have p:((X.drop i).take (l.length-i)).length=l.length-i:=by rw[List.length_take,List.length_drop];omega
   (conv=>whnf);refine dec (fun e=>?_) (fun e=>?_)
   ·have d:i+j<l.length:=by have e:(j:Int)<((X.drop i).take (l.length-i)).length:=e;rw[p]at e;omega
    have D:X[i+j]? =some l[i+j]:=by rw[b.back _ (by omega),List.getElem?_eq_getElem d]
    have F:X[i+(j-1)]? =some l[i+j-1]:=by rw[show i+(j-1)=i+j-1 by omega,b.back _ (by omega),List.getElem?_eq_getElem (by omega)]
    have J:=b.ca d;have H:=b.drop d;(conv=>whnf);refine⟨false,.grow,(.l [0,1,2,3,4,5,6,7,8,9]),by kernel_rfl,.inl ?_⟩;(conv=>whnf);refine⟨j,⟨rfl,by omega⟩,?_⟩;(conv=>whnf);refine⟨l[i+j],D,?_⟩;(conv=>whnf);refine⟨i64 (by omega) (by omega),?_⟩;(conv=>whnf);refine⟨j-1,⟨by omega,by omega⟩,?_⟩;(conv=>whnf);refine⟨l[i+j-1],F,?_⟩;(conv=>whnf);refine aw (fun t=>?_) (fun t=>?_)
    ·(conv=>whnf);refine⟨j,⟨rfl,by omega⟩,?_⟩;(conv=>whnf);refine⟨l[i+j],D,?_⟩;(conv=>whnf);refine⟨k,⟨rfl,by omega⟩,?_⟩;(conv=>whnf);refine⟨_,l[i+j],List.getElem?_eq_getElem (by omega),⟨Nat.le_refl _,rfl⟩,?_⟩;repeat'((conv=>whnf);refine I6 ?_)
     refine ag (k+1,j+1,X.set k l[i+j]) [] [.same 0] ⟨⟨by show 1≤j+1;omega,J t⟩,trivial⟩ (by simp only[];omega) ?_;repeat' first|exact trivial|exact rfl|refine And.intro ?_ ?_
    ·repeat'((conv=>whnf);refine I6 ?_)
     refine ag (k,j+1,X) [] [.same 0] ⟨⟨by show 1≤j+1;omega,H t⟩,trivial⟩ (by simp only[];omega) ?_;repeat' first|exact trivial|exact rfl|refine And.intro ?_ ?_
   ·have d:i+j=l.length:=by have e:¬(j:Int)<((X.drop i).take (l.length-i)).length:=e;rw[p]at e;omega
    have m:=b.front;rw[d,List.take_length]at m;(conv=>whnf);refine⟨k,X.length,rfl,by omega,by omega,?_⟩;(conv=>whnf);have z:(X.take k++(List.replicate (X.length-k) ([]:List UInt8)++X.drop (k+(X.length-k)))).length=X.length:=by simp;omega
    refine⟨[],rfl,by omega,?_⟩;(conv=>whnf);refine⟨0,k,rfl,rfl,⟨Nat.zero_le _,by rw[z];omega⟩,?_⟩;(conv=>whnf)
    have I:((X.take k++(List.replicate (X.length-k) ([]:List UInt8)++X.drop (k+(X.length-k)))).drop 0).take (k-0)=dY none l:=by
     rw[List.drop_zero,Nat.sub_zero,List.take_append_of_le_length (by rw[List.length_take];omega),List.take_take,Nat.min_self];exact m
    refine rt [] [.same 0,.cut 1 0 0 (k-0)] ?_ rfl ⟨rfl,rfl⟩;repeat' first|exact trivial|exact rfl|refine And.intro ?_ ?_
    ·omega
    ·rw[I]
  ·have y:¬l[i]=l[i-1]:=s;rw[if_neg y]at q;repeat'((conv=>whnf);refine I6 ?_)
   refine ag (i+1) [] [.same 0] ⟨⟨⟨Nat.succ_pos _,a⟩,by rw[q,r,List.take_succ_eq_append_getElem a]⟩,trivial⟩ (by simp only[];omega) ?_;repeat' first|exact trivial|exact rfl|refine And.intro ?_ ?_
 ·obtain rfl:i=l.length:=by have h:¬(i:Int)<l.length:=h;omega
  rw[List.take_length]at r;rw[r];(conv=>whnf);exact rx [] [.same 0,.same 0]
end Go.Nest
end
section
namespace Go.Nest
open Go Go.AM Go.Proofs
open Go.Proofs.YtpechfcbnoggfaaGreatDoor (tab tabOk)
set_option maxRecDepth 4000
def fT(q:List UInt8):Fi:=⟨q,0,0,0⟩
theorem tC:∀(l:List (List UInt8)) (p:Option (List UInt8)),dY p l=gU p (l.map fT)
 |[],p=>rfl
 |x::l,p=>by
  rw[List.map_cons,dY,gU];by_cases h:p=some x
  ·rw[if_pos h.symm,if_pos (show p=some (fT x).path from h),h];exact tC l (some x)
  ·rw[if_neg (Ne.symm h),if_neg (show¬p=some (fT x).path from h),tC l (some x)];rfl
theorem IS(l:List (List UInt8)):Wk ((iP l).map fT):=by
 unfold Wk;rw[List.pairwise_map]
 have := List.pairwise_mergeSort (le := fun x y => !au y x) (fun a b c d e=>by
  have d:au b a=false:=by simpa using d
  have e:au c b=false:=by simpa using e
  have:=le_trans' (x:=a) (y:=b) (z:=c) d e;simpa using this) (fun a b=>by
  rcases gF a b with h|h|h
  ·simp[j4 h]
  ·subst h;simp[lI]
  ·simp[j4 h]) l
 exact this.imp fun{a b} h=>show au b a=false by simpa using h
theorem vW(ls:List (List Fi)):dY none (iP (ls.flatten.map (·.path)))=ei ls:=by
 rw[tC];obtain⟨b,c⟩:=xM (IS (ls.flatten.map (·.path)));obtain⟨d,e⟩:=xM (jV ls.flatten);unfold ei;refine AU b d fun q=>?_;rw[c,e];constructor
 ·rintro⟨f,a,rfl⟩;obtain⟨x,i,rfl⟩:=List.mem_map.1 a;obtain⟨g,h,rfl⟩:=List.mem_map.1 ((List.mergeSort_perm _ _).mem_iff.1 i);exact⟨g,(lC _).mem_iff.2 h,rfl⟩
 ·rintro⟨f,a,rfl⟩;exact⟨fT f.path,List.mem_map.2 ⟨f.path,(List.mergeSort_perm _ _).mem_iff.2 (List.mem_map.2 ⟨f,(lC _).mem_iff.1 a,rfl⟩),rfl⟩,rfl⟩
set_option maxHeartbeats 2000000 in
theorem Jw(ls:List (List Fi))(hn:ls.flatten.length≤1000)(F:∀l∈ls,∀f∈l,f.path.length≤4000000):ae Tryz.prog 276 [.c (.bs 1 (List Fi) (bf 4 ao) ls)] [] (Rt (.c (.rw 0)) [.row 1 (List UInt8) encS (ei ls)]):=by
 rw[←vW]
 have m:∀x∈ls.flatten.map (·.path),x.length≤4000000:=fun x H=>by
  obtain⟨f,E,rfl⟩:=List.mem_map.1 H;obtain⟨l,r,D⟩:=List.mem_flatten.1 E;exact F l r f D
 have j:(ls.flatten.map (·.path)).length≤1000:=by rw[List.length_map];exact hn
 refine ak (n:=31) (n0:=0) tabOk Tryz.call276 Tryz.func276 ?_;intro hb;have hb:ls.length≤9223372036854775807:=hb.1.1;(conv=>whnf);refine lp Nat (fun i=>⟨[(3,.c (.rw 0)),(8,.c (.bs 1 (List Fi) (bf 4 ao) ls)),(9,.c (.int .i64 ls.length)),(10,.c (.int .i64 i))],[.row 1 (List UInt8) encS ((ls.take i).flatten.map (·.path))]⟩) (fun i=>i≤ls.length∧True) (fun i=>ls.length-i) 0 [] [.new] ⟨Nat.zero_le _,trivial⟩ ?_ (fun i t=>?_)
 ·repeat' first|exact trivial|exact rfl|refine And.intro ?_ ?_
 obtain⟨t,-⟩:=t;(conv=>whnf);refine dec (fun g=>?_) (fun g=>?_)
 ·have d:i<ls.length:=by have g:(i:Int)<ls.length:=g;omega
  have o:ls[i]? =some ls[i]:=List.getElem?_eq_getElem d
  have a:(ls.take (i+1)).flatten.map (·.path)=(ls.take i).flatten.map (·.path)++ls[i].map (·.path):=by
   rw[List.take_succ_eq_append_getElem d,List.flatten_append,List.map_append];simp
  have q:((ls.take i).flatten.map (·.path)).length+ls[i].length≤1000:=by
   have r:((ls.take (i+1)).flatten.map (·.path)).length≤1000:=by
    rw[List.length_map];refine Nat.le_trans ?_ hn;conv=>rhs;rw[←List.take_append_drop (i+1) ls]
    rw[List.flatten_append,List.length_append];omega
   rw[a]at r;simp only[List.length_append,List.length_map]at r⊢;omega
  generalize ls[i]=l at o a q;generalize (ls.take i).flatten.map (·.path)=out at a q⊢;(conv=>whnf);refine⟨i,l,rfl,o,?_⟩;(conv=>whnf);refine lp Nat (fun k=>⟨[(3,.c (.rw 0)),(8,.c (.bs 1 (List Fi) (bf 4 ao) ls)),(9,.c (.int .i64 ls.length)),(10,.c (.int .i64 i)),(14,.c (.bs 4 Fi ao l)),(15,.c (.int .i64 l.length)),(16,.c (.int .i64 k))],[.row 1 (List UInt8) encS (out++(l.take k).map (·.path))]⟩) (fun k=>k≤l.length∧True) (fun k=>l.length-k) 0 [] [.same 0] ⟨Nat.zero_le _,trivial⟩ ?_ (fun k u=>?_)
  ·rw[List.take_zero,List.map_nil,List.append_nil];repeat' first|exact trivial|exact rfl|refine And.intro ?_ ?_
  obtain⟨u,-⟩:=u;(conv=>whnf);refine dec (fun h=>?_) (fun h=>?_)
  ·have b:k<l.length:=by have h:(k:Int)<l.length:=h;omega
   have p:l[k]? =some l[k]:=List.getElem?_eq_getElem b
   have e:out++(l.take (k+1)).map (·.path)=(out++(l.take k).map (·.path))++[l[k].path]:=by
    rw[List.take_succ_eq_append_getElem b,List.map_append,List.append_assoc];rfl
   have s:(out++(l.take k).map (·.path)).length≤1000:=by
    rw[List.length_append,List.length_map,List.length_take];omega
   generalize l[k]=f at p e;generalize out++(l.take k).map (·.path)=z at e s⊢;(conv=>whnf);refine⟨k,f,rfl,p,?_⟩;(conv=>whnf);refine⟨[f.path],rfl,?_⟩;(conv=>whnf);refine⟨_,_,rfl,rfl,(by simp only[List.length_append,List.length_cons,List.length_nil];omega),?_⟩;repeat'((conv=>whnf);refine I6 ?_)
   refine ag (k+1) [] [.same 3] ⟨b,trivial⟩ (by simp only[];omega) ?_;rw[e];repeat' first|exact trivial|exact rfl|refine And.intro ?_ ?_
  ·obtain rfl:k=l.length:=by have h:¬(k:Int)<l.length:=h;omega
   rw[List.take_length,←a];repeat'((conv=>whnf);refine I6 ?_)
   refine ag (i+1) [] [.same 0] ⟨d,trivial⟩ (by simp only[];omega) ?_;repeat' first|exact trivial|exact rfl|refine And.intro ?_ ?_
 ·obtain rfl:i=ls.length:=by have g:¬(i:Int)<ls.length:=g;omega
  rw[List.take_length];have v:=Iy _ m (Nat.le_trans j (by decide));have w:=C7 (iP (ls.flatten.map (·.path))) (by unfold iP;rw[List.length_mergeSort];exact Nat.le_trans j (by decide));generalize ls.flatten.map (·.path)=y at v w⊢;(conv=>whnf);refine cl [] [0] (v) ?_;(conv=>whnf);refine cl [] [0] (w) ?_;(conv=>whnf);exact rx [] [.same 1]
end Go.Nest
end
