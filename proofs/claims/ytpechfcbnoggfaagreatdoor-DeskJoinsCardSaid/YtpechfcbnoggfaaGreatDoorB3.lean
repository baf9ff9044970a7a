import Derived.Test.YtpechfcbnoggfaaGreatDoorB0
import Derived.Test.YtpechfcbnoggfaaGreatDoorP10
import Derived.Test.YtpechfcbnoggfaaGreatDoorV36
import Derived.Test.YtpechfcbnoggfaaGreatDoorE1
set_option maxHeartbeats 2000000
set_option linter.unusedVariables false
set_option linter.unusedSimpArgs false
open List renaming getElem?_eq_getElem->Q,take_succ_eq_append_getElem->R,length_take->S,length_map->T,length_append->U,take_length->W,mem_map->Y,append_nil->Z,length_mergeSort->ac,mergeSort_perm->ad,flatten_append->ah,cons_append->ar,length_set->a0,map_append->a1,replicate->a2,map_nil->a3
open Nat renaming le_trans->al,le_refl->am,zero_le->ap
section
namespace Go.Nest
open Go Go.AM Go.Proofs Go.Sort
open Go.Proofs.YtpechfcbnoggfaaGreatDoor (tab tabOk)
set_option maxRecDepth 4000
def cmpL(a b:List UInt8):Int:=if aw a b=true then-1 else if aw b a=true then 1 else 0
theorem Pt{dr:Bool}(a b:List UInt8)(g:a.length<=4000000)(d:b.length<=4000000):bB dr Tryz.prog 323 [.c (.str a),.c (.str b)] [] (Rt (.c (.int .i64 (cmpL a b))) []):=by
 have h:=mh (dr:=dr) a b g d;have i:=mh (dr:=dr) b a d g;refine af (n:=13) (n0:=0) tabOk Tryz.call323 Tryz.func323 ?_;intro hb;unfold cmpL;generalize aw a b=x at h⊢;generalize aw b a=y at i⊢;refine cl [] [] (h) ?_;refine aS (λe=>?_) (λe=>?_)
 ·rw[if_pos e];exact aJ rfl
 ·rw[if_neg (by rw[e];decide)];refine cl [] [] (i) ?_;refine aS (λf=>?_) (λf=>?_)
  ·rw[if_pos f];exact aJ rfl
  ·rw[if_neg (by rw[f];decide)];exact aJ rfl
def mZ(x y:Tx):Int:=cmpL x.1 y.1
theorem rb(x y:Tx):ltOf mZ x y=aw x.1 y.1:=by
 unfold ltOf mZ cmpL;cases h:aw x.1 y.1 with
 |true=>rw[if_pos rfl];rfl
 |false=>
  rw[if_neg (by decide)];split<;>rfl
theorem HE:SWO (ltOf mZ)where
 irrefl x:=by rw[rb];exact mg
 trans x y z h1 h2:=by rw[rb]at*;exact jc h1 h2
 ntrans x y z h1 h2:=by
  rw[rb]at*;cases h:aw x.1 z.1 with
  |false=>rfl
  |true=>
   rcases ix x.1 y.1 with h3|h3|h3
   ·rw[h3]at h1;cases h1
   ·rw[h3]at h;rw[h]at h2;cases h2
   ·have:=jc h3 h;rw[this]at h2;cases h2
theorem HF(x y:Tx)(h1:ltOf mZ x y=false)(h2:ltOf mZ y x=false):x=y:=by
 rw[rb]at*;refine Subtype.ext ?_;rcases ix x.1 y.1 with h3|h3|h3
 ·rw[h3]at h1;cases h1
 ·exact h3
 ·rw[h3]at h2;cases h2
def jS(l:List (List UInt8)):List (List UInt8):=l.mergeSort λx y=> !aw y x
theorem Ol(l:List Tx)(hne:l≠[])(hl:l.length<=1000000):aa Tryz.prog 322 [.c (.rw 0),.c (.fn 323 [])] [.row 1 (List UInt8) encS (l.map (·.1))] (Rt (.ao []) [.row 1 (List UInt8) encS (jS (l.map (·.1)))]):=by
 have h := aa.Mj (P := Tryz.prog) (f := 322) (g := 323) (l := l) (l' := l.mergeSort λx y => !(ltOf mZ) y x) hne (ac l) Tryz.call322 (λd j cap w m i k=>by
  have h:=Any.slices_SortFunc_total Cu ib (λ_=>rfl) mZ HE 323 #[] d j cap l.toArray w Tryz.call323 (KP Tryz.call323 (λx y=>Pt x.1 y.1 x.2 y.2) d j _ w k) m i (by rw[List.size_toArray];omega) HF;exact h)
 have e:(l.mergeSort λx y=> !(ltOf mZ) y x).map (·.1)=jS (l.map (·.1)):=by
  unfold jS;exact List.map_mergeSort λa _ b _=>by rw[rb]
 rw[e]at h;exact h
end Go.Nest
end
section
namespace Go.Nest
open Go Go.AM Go.NB Go.Proofs Go.Sort
open Go.Proofs.YtpechfcbnoggfaaGreatDoor (tab tabOk)
set_option maxRecDepth 4000
theorem Og:aa Tryz.prog 322 [.c (.rw 0),.c (.fn 323 [])] [.row 1 (List UInt8) Go.AM.encS []] (Rt (.ao []) [.row 1 (List UInt8) Go.AM.encS []]):=by
 intro F L γ H y a i w u;subst u;match y,a with
 |[v,n],⟨t,d,_⟩=>
  obtain rfl:n= .func (.func 323) #[] #[]:=by
   cases d with
   |fn s _=>cases s;rfl
  obtain⟨q,cap,rfl⟩:∃q cap,v= .slice q 0 cap:=by
   cases t with
   | @rw _ _ p q n0 g _ _ r z _=>
    rcases i.br 0 _ _ rfl r with⟨D,e,_⟩|⟨k,x,cap,m,e,l,f,_⟩
    ·cases e;exact⟨_,_,rfl⟩
    ·cases f;exact⟨_,_,rfl⟩
  have h:Calls Tryz.prog 322 #[.slice q 0 cap,.func (.func 323) #[] #[]] w λe j=>e= .returned (.tuple #[])/\j=w:=AnyF.slices_SortFunc_none {Cu with} q cap _ w;rw[Tryz.call322];refine⟨rfl,h.mono λe j ⟨o,b⟩=>.inl ⟨_,o,⟨.ret (.ao []),[.row 1 (List UInt8) Go.AM.encS []],F,γ,⟨rfl,rfl⟩,rfl,rfl,rfl,⟨[],rfl,trivial⟩,?_⟩,?_⟩⟩
  ·subst b;exact i
  ·subst b;exact eZ.refl _
theorem E6:∀{l:List (List UInt8)},(∀x∈l,x.length<=4000000)->∃t:List Tx,t.map (·.1)=l
 |[],_=>⟨[],rfl⟩
 |x::l,h=>by
  obtain⟨t,rfl⟩:=E6 λy a=>h y (List.mem_cons_of_mem _ a);exact⟨⟨x,h x (by simp)⟩::t,rfl⟩
theorem Oi(l:List (List UInt8))(a:∀x∈l,x.length<=4000000)(hl:l.length<=1000000):aa Tryz.prog 322 [.c (.rw 0),.c (.fn 323 [])] [.row 1 (List UInt8) Go.AM.encS l] (Rt (.ao []) [.row 1 (List UInt8) Go.AM.encS (jS l)]):=by
 obtain⟨t,rfl⟩:=E6 a;rw[T]at hl;by_cases h:t=[]
 ·subst h;rw[a3,show jS []=[]by unfold jS;exact List.mergeSort_nil];exact Og
 ·exact Ol t h hl
def eO:Option (List UInt8)->List (List UInt8)->List (List UInt8)
 |_,[]=>[]
 |p,x::r=>if some x=p then eO p r else x::eO (some x) r
theorem vY:∀{l:List (List UInt8)} {p:Option (List UInt8)} {y:List UInt8},eO p (l++[y])=eO p l++(if some y=(match l.getLast? with|some x=>some x|none=>p)then[]else[y])
 |[],p,y=>by
  show(if some y=p then eO p []else y::eO (some y) [])=[]++(if some y=p then[]else[y]);split<;>rfl
 |x::l,p,y=>by
  have e:(x::l).getLast? =match l.getLast? with|some z=>some z|none=>some x:=by
   cases l with
   |nil=>rfl
   |cons z l=>rw[List.getLast?_cons_cons];cases h:(z::l).getLast? with
    |none=>simp at h
    |some _=>rfl
  rw[ar,eO,eO,e];split
  ·rename_i h;rw[vY,<-h];cases l.getLast? <;>rfl
  ·rw[vY,ar];cases l.getLast? <;>rfl
theorem sP{l:List (List UInt8)}{i:Nat}(a:0<i)(hi:i<l.length):eO none (l.take (i+1))=eO none (l.take i)++(if l[i]=l[i-1]then[]else[l[i]]):=by
 rw[R hi,vY]
 have e:(l.take i).getLast? =some (l[i-1]'(by omega)):=by
  rw[List.getLast?_eq_getElem?,S,Nat.min_eq_left (by omega),List.getElem?_take_of_lt (by omega),Q (by omega)]
 rw[e];simp only[Option.some.injEq]
structure mN(l X:List (List UInt8))(k n:Nat):Prop where
 pos:0<k
 le:k<n
 nl:n<=l.length
 len:X.length=l.length
 front:X.take k=eO none (l.take n)
 back:∀j,n-1<=j->X[j]? =l[j]?
theorem mN.cn{l X:List (List UInt8)}{k n:Nat}(h:mN l X k n)(hn:n<l.length)(hne:¬l[n]=l[n-1]):mN l (X.set k l[n]) (k+1) (n+1):=by
 have a:=h.le;have b:=h.pos;have c:=h.len;refine⟨by omega,by omega,hn,by rw[a0];exact h.len,?_,λj d=>?_⟩
 ·rw[sP (by omega) hn,if_neg hne,<-h.front,R (by rw[a0];omega),List.getElem_set_self,List.take_set_of_le (am _)]
 ·rw[List.getElem?_set_ne (by omega)];exact h.back j (by omega)
theorem mN.drop{l X:List (List UInt8)}{k n:Nat}(h:mN l X k n)(hn:n<l.length)(he:l[n]=l[n-1]):mN l X k (n+1):=by
 have b:=h.le;have a:=h.pos;refine⟨a,by omega,hn,h.len,?_,λj c=>h.back j (by omega)⟩;rw[sP (by omega) hn,if_pos he,Z];exact h.front
theorem Ih{l:List (List UInt8)}{i:Nat}(a:0<i)(hi:i<l.length)(b:eO none (l.take i)=l.take i)(he:l[i]=l[i-1]):mN l l i (i+1):=
 ⟨a,by omega,hi,rfl,by rw[sP a hi,if_pos he,Z,b],λj c=>rfl⟩
theorem AU{l:List (List UInt8)}(h:l.length<2):eO none l=l:=by
 match l,h with
 |[],_=>rfl
 |[x],_=>rfl
theorem HK(l:List (List UInt8))(hl:l.length<=1000000):aa Tryz.prog 324 [.c (.rw 0)] [.row 1 (List UInt8) Go.AM.encS l] (Rt (.c (.rw 1)) [.dead,.row 1 (List UInt8) Go.AM.encS (eO none l)]):=by
 refine af (n:=61) (n0:=1) tabOk Tryz.call324 Tryz.func324 ?_;intro hb;refine dec (λg=>?_) (λg=>?_)
 ·have g:(l.length:Int)<2:=g;rw[AU (by omega)];exact rx [] [.s 0,.s 0]
 have g:¬(l.length:Int)<2:=g;refine lp Nat (λi=>⟨[(0,.c (.rw 0)),(3,.c (.int .i64 i))],[.row 1 (List UInt8) Go.AM.encS l]⟩) (λi=>((0<i/\i<=l.length)/\eO none (l.take i)=l.take i)/\True) (λi=>l.length-i) 1 [] [.s 0] ⟨⟨⟨by decide,by omega⟩,AU (by rw[S];omega)⟩,trivial⟩ ?_ (λi E=>?_)
 ·repeat' first|exact trivial|exact rfl|refine And.intro ?_ ?_
 obtain⟨⟨⟨o,E⟩,r⟩,-⟩:=E;refine dec (λh=>?_) (λh=>?_)
 ·have a:i<l.length:=by have h:(i:Int)<l.length:=h;omega
  have q:=sP o a;have u:l[i]? =some l[i]:=Q a;have v:l[i-1]? =some l[i-1]:=Q (by omega);have f:=Ih o a r;refine⟨false,.grow,(.l [0,1,2,3,4,5,6,7,8,9]),by kernel_rfl,.inl ?_⟩;refine⟨i,⟨rfl,a⟩,?_⟩;refine⟨l[i],u,?_⟩;refine⟨i64 (by omega) (by omega),?_⟩;refine⟨i-1,⟨by omega,by omega⟩,?_⟩;refine⟨l[i-1],v,?_⟩;refine dec (λs=>?_) (λs=>?_)
  ·have f:=f s;refine⟨i,l.length,rfl,by omega,by omega,?_⟩;refine lp (Nat×Nat×List (List UInt8)) (λ|(k,j,X)=>⟨[(0,.c (.rw 0)),(3,.c (.int .i64 k)),(4,.c (.sw 1 0 i (l.length-i))),(5,.c (.int .i64 j))],[.row 1 (List UInt8) Go.AM.encS X]⟩) (λx=>(1<=x.2.1/\mN l x.2.2 x.1 (i+x.2.1))/\True) (λx=>l.length-x.2.1) (i,1,l) [] [.s 0] ⟨⟨am _,f⟩,trivial⟩ ?_ (λx b=>?_)
   ·repeat' first|exact trivial|exact rfl|refine And.intro ?_ ?_
   obtain⟨k,j,X⟩:=x;obtain⟨⟨w,b⟩,-⟩:=b;dsimp only at w b;have K:=b.le;have M:=b.nl;have N:=b.len;have O:=b.pos;have p:((X.drop i).take (l.length-i)).length=l.length-i:=by rw[S,List.length_drop];omega
   refine dec (λe=>?_) (λe=>?_)
   ·have d:i+j<l.length:=by have e:(j:Int)<((X.drop i).take (l.length-i)).length:=e;rw[p]at e;omega
    have D:X[i+j]? =some l[i+j]:=by rw[b.back _ (by omega),Q d]
    have F:X[i+(j-1)]? =some l[i+j-1]:=by rw[show i+(j-1)=i+j-1 by omega,b.back _ (by omega),Q (by omega)]
    have J:=b.cn d;have H:=b.drop d;refine⟨false,.grow,(.l [0,1,2,3,4,5,6,7,8,9]),by kernel_rfl,.inl ?_⟩;refine⟨j,⟨rfl,by omega⟩,?_⟩;refine⟨l[i+j],D,?_⟩;refine⟨i64 (by omega) (by omega),?_⟩;refine⟨j-1,⟨by omega,by omega⟩,?_⟩;refine⟨l[i+j-1],F,?_⟩;refine ay (λt=>?_) (λt=>?_)
    ·refine⟨j,⟨rfl,by omega⟩,?_⟩;refine⟨l[i+j],D,?_⟩;refine⟨k,⟨rfl,by omega⟩,?_⟩;refine⟨_,l[i+j],Q (by omega),⟨am _,rfl⟩,?_⟩;repeat'(refine I6 ?_)
     refine ag (k+1,j+1,X.set k l[i+j]) [] [.s 0] ⟨⟨by show 1<=j+1;omega,J t⟩,trivial⟩ (by simp only[];omega) ?_;repeat' first|exact trivial|exact rfl|refine And.intro ?_ ?_
    ·repeat'(refine I6 ?_)
     refine ag (k,j+1,X) [] [.s 0] ⟨⟨by show 1<=j+1;omega,H t⟩,trivial⟩ (by simp only[];omega) ?_;repeat' first|exact trivial|exact rfl|refine And.intro ?_ ?_
   ·have d:i+j=l.length:=by have e:¬(j:Int)<((X.drop i).take (l.length-i)).length:=e;rw[p]at e;omega
    have m:=b.front;rw[d,W]at m;refine⟨k,X.length,rfl,by omega,by omega,?_⟩;(conv=>whnf);have z:(X.take k++(a2 (X.length-k) ([]:List UInt8)++X.drop (k+(X.length-k)))).length=X.length:=by simp;omega
    refine⟨[],rfl,by omega,?_⟩;refine⟨0,k,rfl,rfl,⟨ap _,by rw[z];omega⟩,?_⟩;(conv=>whnf)
    have I:((X.take k++(a2 (X.length-k) ([]:List UInt8)++X.drop (k+(X.length-k)))).drop 0).take (k-0)=eO none l:=by
     rw[List.drop_zero,Nat.sub_zero,List.take_append_of_le_length (by rw[S];omega),List.take_take,Nat.min_self];exact m
    refine rt [] [.s 0,.cut 1 0 0 (k-0)] ?_ rfl ⟨rfl,rfl⟩;repeat' first|exact trivial|exact rfl|refine And.intro ?_ ?_
    ·omega
    ·rw[I]
  ·have y:¬l[i]=l[i-1]:=s;rw[if_neg y]at q;repeat'(refine I6 ?_)
   refine ag (i+1) [] [.s 0] ⟨⟨⟨Nat.succ_pos _,a⟩,by rw[q,r,R a]⟩,trivial⟩ (by simp only[];omega) ?_;repeat' first|exact trivial|exact rfl|refine And.intro ?_ ?_
 ·obtain rfl:i=l.length:=by have h:¬(i:Int)<l.length:=h;omega
  rw[W]at r;rw[r];exact rx [] [.s 0,.s 0]
end Go.Nest
end
section
namespace Go.Nest
open Go Go.AM Go.Proofs
open Go.Proofs.YtpechfcbnoggfaaGreatDoor (tab tabOk)
set_option maxRecDepth 4000
def fT(q:List UInt8):Fi:=⟨q,0,0,0⟩
theorem vZ:∀(l:List (List UInt8)) (p:Option (List UInt8)),eO p l=iS p (l.map fT)
 |[],p=>rfl
 |x::l,p=>by
  rw[List.map_cons,eO,iS];by_cases h:p=some x
  ·rw[if_pos h.symm,if_pos (show p=some (fT x).path from h),h];exact vZ l (some x)
  ·rw[if_neg (Ne.symm h),if_neg (show¬p=some (fT x).path from h),vZ l (some x)];rfl
theorem OA(l:List (List UInt8)):Wk ((jS l).map fT):=by
 unfold Wk;rw[List.pairwise_map]
 have := List.pairwise_mergeSort (le := λx y => !aw y x) (λa b c d e=>by
  have d:aw b a=false:=by simpa using d
  have e:aw c b=false:=by simpa using e
  have:=le_trans' (x:=a) (y:=b) (z:=c) d e;simpa using this) (λa b=>by
  rcases ix a b with h|h|h
  ·simp[ll h]
  ·subst h;simp[mg]
  ·simp[ll h]) l
 exact this.imp λ{a b} h=>show aw b a=false by simpa using h
theorem yB(ls:List (List Fi)):eO none (jS (ls.flatten.map (·.path)))=dE ls:=by
 rw[vZ];obtain⟨b,c⟩:=AW (OA (ls.flatten.map (·.path)));obtain⟨d,e⟩:=AW (kz ls.flatten);unfold dE;refine yc b d λq=>?_;rw[c,e];constructor
 ·rintro⟨f,a,rfl⟩;obtain⟨x,i,rfl⟩:=Y.1 a;obtain⟨g,h,rfl⟩:=Y.1 ((ad _ _).mem_iff.1 i);exact⟨g,(fS _).mem_iff.2 h,rfl⟩
 ·rintro⟨f,a,rfl⟩;exact⟨fT f.path,Y.2 ⟨f.path,(ad _ _).mem_iff.2 (Y.2 ⟨f,(fS _).mem_iff.1 a,rfl⟩),rfl⟩,rfl⟩
theorem Pu(ls:List (List Fi))(hn:ls.flatten.length<=1000)(E:∀l∈ls,∀f∈l,f.path.length<=4000000):aa Tryz.prog 276 [.c (.bs 1 (List Fi) (bM 4 aq) ls)] [] (Rt (.c (.rw 0)) [.row 1 (List UInt8) encS (dE ls)]):=by
 rw[<-yB]
 have m:∀x∈ls.flatten.map (·.path),x.length<=4000000:=λx F=>by
  obtain⟨f,D,rfl⟩:=Y.1 F;obtain⟨l,r,z⟩:=List.mem_flatten.1 D;exact E l r f z
 have j:(ls.flatten.map (·.path)).length<=1000:=by rw[T];exact hn
 refine af (n:=31) (n0:=0) tabOk Tryz.call276 Tryz.func276 ?_;intro hb;have hb:ls.length<=9223372036854775807:=hb.1.1;refine lp Nat (λi=>⟨[(3,.c (.rw 0)),(8,.c (.bs 1 (List Fi) (bM 4 aq) ls)),(9,.c (.int .i64 ls.length)),(10,.c (.int .i64 i))],[.row 1 (List UInt8) encS ((ls.take i).flatten.map (·.path))]⟩) (λi=>i<=ls.length/\True) (λi=>ls.length-i) 0 [] [.new] ⟨ap _,trivial⟩ ?_ (λi t=>?_)
 ·repeat' first|exact trivial|exact rfl|refine And.intro ?_ ?_
 obtain⟨t,-⟩:=t;refine dec (λg=>?_) (λg=>?_)
 ·have d:i<ls.length:=by have g:(i:Int)<ls.length:=g;omega
  have o:ls[i]? =some ls[i]:=Q d
  have a:(ls.take (i+1)).flatten.map (·.path)=(ls.take i).flatten.map (·.path)++ls[i].map (·.path):=by
   rw[R d,ah,a1];simp
  have q:((ls.take i).flatten.map (·.path)).length+ls[i].length<=1000:=by
   have r:((ls.take (i+1)).flatten.map (·.path)).length<=1000:=by
    rw[T];refine al ?_ hn;conv=>rhs;rw[<-List.take_append_drop (i+1) ls]
    rw[ah,U];omega
   rw[a]at r;simp only[U,T]at r⊢;omega
  generalize ls[i]=l at o a q;generalize (ls.take i).flatten.map (·.path)=out at a q⊢;refine⟨i,l,rfl,o,?_⟩;refine lp Nat (λk=>⟨[(3,.c (.rw 0)),(8,.c (.bs 1 (List Fi) (bM 4 aq) ls)),(9,.c (.int .i64 ls.length)),(10,.c (.int .i64 i)),(14,.c (.bs 4 Fi aq l)),(15,.c (.int .i64 l.length)),(16,.c (.int .i64 k))],[.row 1 (List UInt8) encS (out++(l.take k).map (·.path))]⟩) (λk=>k<=l.length/\True) (λk=>l.length-k) 0 [] [.s 0] ⟨ap _,trivial⟩ ?_ (λk u=>?_)
  ·rw[List.take_zero,a3,Z];repeat' first|exact trivial|exact rfl|refine And.intro ?_ ?_
  obtain⟨u,-⟩:=u;refine dec (λh=>?_) (λh=>?_)
  ·have b:k<l.length:=by have h:(k:Int)<l.length:=h;omega
   have p:l[k]? =some l[k]:=Q b
   have e:out++(l.take (k+1)).map (·.path)=(out++(l.take k).map (·.path))++[l[k].path]:=by
    rw[R b,a1,List.append_assoc];rfl
   have s:(out++(l.take k).map (·.path)).length<=1000:=by
    rw[U,T,S];omega
   generalize l[k]=f at p e;generalize out++(l.take k).map (·.path)=y at e s⊢;refine⟨k,f,rfl,p,?_⟩;refine⟨[f.path],rfl,?_⟩;refine⟨_,_,rfl,rfl,(by simp only[U,List.length_cons,List.length_nil];omega),?_⟩;repeat'(refine I6 ?_)
   refine ag (k+1) [] [.s 3] ⟨b,trivial⟩ (by simp only[];omega) ?_;rw[e];repeat' first|exact trivial|exact rfl|refine And.intro ?_ ?_
  ·obtain rfl:k=l.length:=by have h:¬(k:Int)<l.length:=h;omega
   rw[W,<-a];repeat'(refine I6 ?_)
   refine ag (i+1) [] [.s 0] ⟨d,trivial⟩ (by simp only[];omega) ?_;repeat' first|exact trivial|exact rfl|refine And.intro ?_ ?_
 ·obtain rfl:i=ls.length:=by have g:¬(i:Int)<ls.length:=g;omega
  rw[W];have v:=Oi _ m (al j (by decide));have w:=HK (jS (ls.flatten.map (·.path))) (by unfold jS;rw[ac];exact al j (by decide));generalize ls.flatten.map (·.path)=all at v w⊢;refine cl [] [0] (v) ?_;refine cl [] [0] (w) ?_;exact rx [] [.s 1]
end Go.Nest
end
