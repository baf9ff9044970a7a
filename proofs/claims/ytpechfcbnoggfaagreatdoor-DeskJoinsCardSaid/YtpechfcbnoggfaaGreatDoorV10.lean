import Derived.Test.YtpechfcbnoggfaaGreatDoorV25
import Derived.Test.YtpechfcbnoggfaaGreatDoorV4
import Derived.Test.YtpechfcbnoggfaaGreatDoorE1
import Derived.Test.YtpechfcbnoggfaaGreatDoorE8
import Derived.Test.YtpechfcbnoggfaaGreatDoorD11
import Derived.Test.YtpechfcbnoggfaaGreatDoorD23
import Derived.Test.YtpechfcbnoggfaaGreatDoorV36
set_option maxHeartbeats 4000000
set_option linter.unusedVariables false
set_option linter.unusedSimpArgs false
open List renaming length_append->U,getElem?_eq_getElem->W,getD_eq_getElem?_getD->Y,length_cons->Z,append_assoc->ac,length_nil->ah,getElem_mem->al
open Nat renaming zero_le->ad,beq->am
section
namespace Go.Nest
open Go Go.AM Go.Proofs
open Go.Proofs.YtpechfcbnoggfaaGreatDoor (tab tabOk)
set_option maxRecDepth 100000
def uf(k:Nat):List Rn:=[.s 0,.s 1,.s 2,.s 3,.s 4,.s 5,.s 6,.s 7,.s 8,.s 9,.s 10,.s 11,.s 12,.s 13,.s 14,.s 15,.s 16,.s 17,.s 18,.s 19,.s 20,.s 21,.s 22,.s 23,.s 24,.s 25,.s 26,.s 27,.s 28,.s 29,.s 30,.s 31,.s 32,.s 33,.s 34,.s (k+12),.s (k+13),.s (k+14),.s (k+15),.s (k+16),.s (k+17),.s (k+18),.s (k+19),.s (k+20),.s (k+21),.s (k+22),.s (k+23),.s (k+24),.s (k+25),.s (k+26),.s (k+27),.s (k+28),.s (k+29),.s (k+30),.s (k+31),.s (k+32),.s (k+33)]
def kr:List UInt8:=bF [[101,110,100]]
def lS(d:Dc):List UInt8:=bF [[100,111,99],d.path,eV d.bytes]
def nh(l:List Dc):List UInt8:=l.flatMap lS++kr
theorem BD{α:Type}{f:α->List UInt8}{l:List α}{i:Nat}(h:i<l.length):(l.take (i+1)).flatMap f=(l.take i).flatMap f++f l[i]:=by
 rw[List.take_succ_eq_append_getElem h,List.flatMap_append];simp
structure jr(t:List UInt8)(n:Nat)(T:Nat->List UInt8)(ln:Nat->List UInt8)(all:List UInt8):Prop where
 z:T 0=t
 s:∀i,i<n->T (i+1)=T i++ln i
 e:T n=t++all
theorem jr.of {α : Type} (f : α -> List UInt8) (t : List UInt8) (l : List α) (d : α) : jr t l.length (λi => t ++ (l.take i).flatMap f) (λi => f (l.getD i d)) (l.flatMap f) := ⟨by simp,λi h=>by
 rw[BD h,ac,show l.getD i d=l[i]by rw[Y,W h];rfl],by rw[List.take_length]⟩
theorem jr.len{t all:List UInt8}{n:Nat}{T ln:Nat->List UInt8}(h:jr t n T ln all):∀{k i:Nat},i+k=n->(T i).length<=(t++all).length
 |0,i,e=>by
  obtain rfl:i=n:=by omega
  rw[h.e];exact Nat.le_refl _
 |k+1,i,e=>by
  have:=h.len (k:=k) (i:=i+1) (by omega);rw[h.s i (by omega),U]at this;omega
theorem A5(u:Bool)(s:FS)(z:bU s)(t:List UInt8)(r:Int)(hlen:(t++nh (ff s r)).length<=100000000):aa Tryz.prog 191 [.c (.ptr 11 0),.c (.int .i64 r)] (aP u s t) (Rt (.ao []) (aT true s (t++nh (ff s r)))):=by
 have p:=IP s z r
 have g:∀d∈ff s r,d.bytes.length<=400:=λd q=>by
  unfold ff at q;split at q
  ·cases q
  ·rename_i h;obtain⟨i,b,rfl⟩:=bW.1 (by simpa using h);obtain⟨y,K,rfl⟩:=List.mem_map.1 q;exact z.bytes i b y K
 have I:(ff s r).length<=60:=by
  unfold ff;split
  ·exact ad _
  ·rename_i h;obtain⟨i,b,rfl⟩:=bW.1 (by simpa using h);rw[List.length_map];exact z.items i b
 generalize ff s r=l at p hlen g I⊢;obtain⟨T,j⟩:∃T,jr t l.length T (λi=>lS (l.getD i ⟨[],[]⟩)) (l.flatMap lS):=⟨_,jr.of lS t l _⟩;have E:∀i,i<=l.length->(T i).length<=(t++l.flatMap lS).length:=λi b=>j.len (k:=l.length-i) (by omega);rw[show t++nh l=(t++l.flatMap lS)++kr by unfold nh;rw[ac]]at hlen⊢;rw[U]at hlen;have H:=j.z;have D:=j.e
 have f:∀i (h:i<l.length),T (i+1)=T i++bF [[100,111,99],l[i].path,eV l[i].bytes]:=λi h=>by
  have:=j.s i h;rw[show l.getD i ⟨[],[]⟩=l[i]by rw[Y,W h];rfl]at this;exact this
 clear j;generalize t++l.flatMap lS=A at hlen D E⊢;refine af (n:=29) (n0:=34) tabOk Tryz.call191 Tryz.func191 ?_;intro hb
 cases J:u<;>(
  refine cl [] [] (p) ?_;refine lp (Nat×Bool) (λp=>⟨[(0,.c (.ptr 11 0)),(11,.c (.rw 34)),(12,.c (.int .i64 l.length)),(13,.c (.int .i64 p.1))],bK 23 (d22++[.row 2 Dc lT l]) p.2 s (T p.1)⟩) (λp=>p.1<=l.length/\True) (λp=>l.length-p.1) (0,u) [] (mq (.s 34::[.s 12,.s 13,.s 14,.s 15,.s 16,.s 17,.s 18,.s 19,.s 20,.s 21,.s 22,.s 23,.s 24,.s 25,.s 26,.s 27,.s 28,.s 29,.s 30,.s 31,.s 32,.s 33])) ⟨ad _,trivial⟩ (by rw[H,J];exact dw) (λ⟨i,v⟩ b=>?_);obtain⟨b,-⟩:=b;dsimp only at b
  cases F:v<;>(
   refine dec (λe=>?_) (λe=>?_)
   ·have a:i<l.length:=by have e:(i:Int)<l.length:=e;omega
    have m:l[i]? =some l[i]:=W a;have x:=g _ (al a);have f:=f i a;have w:=E (i+1) a;generalize l[i]=y at m x f;rw[f,U]at w;have M:=EA y.bytes (by omega);have o:=fF v s (T i) [[100,111,99],y.path,eV y.bytes] (by omega) (by simp);rw[<-f,F]at o;refine⟨i,⟨rfl,a⟩,?_⟩;refine⟨y,m,?_⟩;refine⟨false,.grow,(.l [0,1,2,3,4,5,6,7]),by kernel_rfl,.inl ?_⟩;refine cl [] [] (M) ?_;refine⟨[[100,111,99],y.path,eV y.bytes],rfl,?_⟩;refine aE (mD 23) (bK 47 (d22++[.row 2 Dc lT l]++d22++[.box (lT y),.row 1 (List UInt8) encS [[100,111,99],y.path,eV y.bytes]]) true s (T (i+1))) o ?_;repeat'(refine I6 ?_)
    refine ag (i+1,true) [] (uf 47) ⟨a,trivial⟩ (by simp only[];omega) ?_;exact dw
   ·obtain rfl:i=l.length:=by have e:¬(i:Int)<l.length:=e;omega
    rw[D];have o:=fF v s A [[101,110,100]] hlen (by simp);rw[F]at o;refine⟨[[101,110,100]],rfl,?_⟩;refine aE (mD 23) (bK 46 (d22++[.row 2 Dc lT l]++d22++[.row 1 (List UInt8) encS [[101,110,100]]]) true s (A++kr)) o ?_;exact aF (rD 46)))
theorem cX.small{i:Nat}(h:i<100):cX i:=cX.all (by omega) (by omega)
def mw(x:Rf):List UInt8:=bF [[114,101,102],x.name,bE x.id]
def wK(n:Int):List UInt8:=bF [[104,101,97,100],bE n]
def nP(l:List Rf)(h:Int):List UInt8:=l.flatMap mw++wK h
theorem D4(u:Bool)(s:FS)(w:bU s)(t:List UInt8)(r:Int)(hn:∀x∈eU s r,cX x.id)(E:cX (gn s r))(hlen:(t++nP (eU s r) (gn s r)).length<=100000000):aa Tryz.prog 193 [.c (.ptr 11 0),.c (.int .i64 r)] (aP u s t) (Rt (.ao []) (aT true s (t++nP (eU s r) (gn s r)))):=by
 have p:=Nf s w r;have H:=B1 s w r
 have J:(eU s r).length<=8:=by
  unfold eU;split
  ·exact ad _
  ·rename_i h;obtain⟨i,d,rfl⟩:=bW.1 (by simpa using h);exact w.few i d
 generalize gn s r=b at H hlen E⊢;generalize eU s r=l at p hlen hn J⊢;obtain⟨T,j⟩:∃T,jr t l.length T (λi=>mw (l.getD i ⟨[],0⟩)) (l.flatMap mw):=⟨_,jr.of mw t l _⟩;have D:∀i,i<=l.length->(T i).length<=(t++l.flatMap mw).length:=λi d=>j.len (k:=l.length-i) (by omega);rw[show t++nP l b=(t++l.flatMap mw)++wK b by unfold nP;rw[ac]]at hlen⊢;rw[U]at hlen;have I:=j.z;have z:=j.e
 have f:∀i (h:i<l.length),T (i+1)=T i++bF [[114,101,102],l[i].name,bE l[i].id]:=λi h=>by
  have:=j.s i h;rw[show l.getD i ⟨[],0⟩=l[i]by rw[Y,W h];rfl]at this;exact this
 clear j;generalize t++l.flatMap mw=A at hlen z D⊢;refine af (n:=36) (n0:=34) tabOk Tryz.call193 Tryz.func193 ?_;intro hb
 cases K:u<;>(
  refine cl [] [] (p) ?_;refine lp (Nat×Bool) (λp=>⟨[(0,.c (.ptr 11 0)),(1,.c (.int .i64 r)),(11,.c (.rw 34)),(12,.c (.int .i64 l.length)),(13,.c (.int .i64 p.1))],bK 23 (d22++[.row 2 Rf bL l]) p.2 s (T p.1)⟩) (λp=>p.1<=l.length/\True) (λp=>l.length-p.1) (0,u) [] (mq (.s 34::[.s 12,.s 13,.s 14,.s 15,.s 16,.s 17,.s 18,.s 19,.s 20,.s 21,.s 22,.s 23,.s 24,.s 25,.s 26,.s 27,.s 28,.s 29,.s 30,.s 31,.s 32,.s 33])) ⟨ad _,trivial⟩ (by rw[I,K];exact dw) (λ⟨i,v⟩ d=>?_);obtain⟨d,-⟩:=d;dsimp only at d
  cases F:v<;>(
   refine dec (λe=>?_) (λe=>?_)
   ·have a:i<l.length:=by have e:(i:Int)<l.length:=e;omega
    have m:l[i]? =some l[i]:=W a;have g:=hn _ (al a);have f:=f i a;have q:=D (i+1) a;generalize l[i]=y at m g f;rw[f,U]at q;have o:=fF v s (T i) [[114,101,102],y.name,bE y.id] (by omega) (by simp);rw[<-f,F]at o;refine⟨i,⟨rfl,a⟩,?_⟩;refine⟨y,m,?_⟩;refine⟨false,.grow,(.l [0,1,2,3,4,5,6,7]),by kernel_rfl,.inl ?_⟩;refine cl [] [] (g.d) ?_;refine⟨[[114,101,102],y.name,bE y.id],rfl,?_⟩;refine aE (mD 23) (bK 47 (d22++[.row 2 Rf bL l]++d22++[.box (bL y),.row 1 (List UInt8) encS [[114,101,102],y.name,bE y.id]]) true s (T (i+1))) o ?_;repeat'(refine I6 ?_)
    refine ag (i+1,true) [] (uf 47) ⟨a,trivial⟩ (by simp only[];omega) ?_;exact dw
   ·obtain rfl:i=l.length:=by have e:¬(i:Int)<l.length:=e;omega
    rw[z];have o:=fF v s A [[104,101,97,100],bE b] hlen (by simp);rw[F]at o;refine cl [] [] (H) ?_;refine cl [] [] (E.d) ?_;refine⟨[[104,101,97,100],bE b],rfl,?_⟩;refine aE (mD 23) (bK 46 (d22++[.row 2 Rf bL l]++d22++[.row 1 (List UInt8) encS [[104,101,97,100],bE b]]) true s (A++wK b)) o ?_;exact aF (rD 46)))
def gT(s:FS)(r:Int):List Int:=jI s.o r s.L.length
def tj(n:Int):List UInt8:=32::bE n
def fj(l:List Int):List UInt8:=[111,119,110]++l.flatMap tj
theorem DC{l:List Int}(h:∀x∈l,cX x):(l.flatMap tj).length<=22*l.length:=by
 induction l with
 |nil=>simp
 |cons x l ih=>
  have b:=(h x (by simp)).l;have c:=ih λy a=>h y (by simp[a]);rw[List.flatMap_cons,U,Z];have d:(tj x).length=(bE x).length+1:=rfl;omega
theorem DB(u:Bool)(s:FS)(j:bU s)(t:List UInt8)(r:Int)(hn:∀x∈gT s r,cX x)(hlen:(t++bF [fj (gT s r)]).length<=100000000):aa Tryz.prog 195 [.c (.ptr 11 0),.c (.int .i64 r)] (aP u s t) (Rt (.ao []) (aT true s (t++bF [fj (gT s r)]))):=by
 have p:=Ll s.L j.pool s.o s.b r
 have q:(gT s r).length<=600:=by
  have:=xn (o:=s.o) (r:=r) (n:=s.L.length);have:=j.pool.len;unfold gT;omega
 have p:aa Tryz.prog _ _ [] (Rt _ [.row 1 Int encI (gT s r)]):=p;generalize gT s r=l at p hlen hn q⊢;have k:=fF u s t [fj l] (by rw[<-U];exact hlen) (by simp);refine af (n:=31) (n0:=34) tabOk Tryz.call195 Tryz.func195 ?_;intro hb
 cases g:u<;>(
  rw[g]at k;refine cl [] [] (p) ?_;refine lp Nat (λi=>⟨[(0,.c (.ptr 11 0)),(4,.c (.str (fj (l.take i)))),(15,.c (.rw 34)),(16,.c (.int .i64 l.length)),(17,.c (.int .i64 i))],bK 0 [] u s t++[.row 1 Int encI l]⟩) (λi=>i<=l.length/\True) (λi=>l.length-i) 0 [] (mq [.s 34]) ⟨ad _,trivial⟩ (by rw[g];exact dw) (λi h=>?_);obtain⟨h,-⟩:=h;rw[g];refine dec (λd=>?_) (λd=>?_)
  ·have a:i<l.length:=by have d:(i:Int)<l.length:=d;omega
   have e:l[i]? =some l[i]:=W a;have b:=hn _ (al a);have f:fj (l.take (i+1))=fj (l.take i)++32::bE l[i]:=by unfold fj;rw[BD a,ac];rfl
   have m:(fj (l.take i)).length<=20000:=by
    have:=DC (l:=l.take i) λx v=>hn x (List.mem_of_mem_take v);rw[List.length_take]at this;unfold fj;rw[U];simp only[Z,ah];omega
   generalize fj (l.take i)=X at f m⊢;generalize l[i]=y at e b f;have w:=b.l;refine⟨i,⟨rfl,a⟩,?_⟩;refine⟨y,e,?_⟩;refine cl [] [] (b.d) ?_;refine⟨by simp only[Z,ah];omega,?_⟩;refine⟨by simp only[U,Z,ah];omega,?_⟩;repeat'(refine I6 ?_)
   refine ag (i+1) [] (mq [.s 34]) ⟨a,trivial⟩ (by simp only[];omega) ?_;rw[f];exact dw
  ·obtain rfl:i=l.length:=by have d:¬(i:Int)<l.length:=d;omega
   rw[List.take_length];refine⟨[fj l],rfl,?_⟩;refine aE (mD 0) (bK 24 (d22++[.row 1 Int encI l,.row 1 (List UInt8) encS [fj l]]) true s (t++bF [fj l])) k ?_;exact aF (rD 24))
noncomputable def fJ(s:FS)(r:Int):List Fi×Int:=dZ s.L (bt ⟨s.o,s.b⟩) r (gn s r)
def nj(L:List Ob)(x:Fi):List UInt8:=bF [[100,111,99],x.path,eV (aj L x.id).bytes]
def oG(c:Int):List UInt8:=bF [[110,111],bE c]
def kM(L:List Ob)(R:List Fi×Int):List UInt8:=if R.2≠0 then oG R.2 else R.1.flatMap (nj L)++kr
theorem Fl(u:Bool)(s:FS)(w:bU s)(t:List UInt8)(r:Int)(hl:(fJ s r).1.length<=100000)(hn:(fJ s r).2≠0->cX (fJ s r).2)(hlen:(t++kM s.L (fJ s r)).length<=100000000):aa Tryz.prog 194 [.c (.ptr 11 0),.c (.int .i64 r)] (aP u s t) (Rt (.ao []) (aT true s (t++kM s.L (fJ s r)))):=by
 have p:=B1 s w r;have x:=PC s.L w.pool s.o s.b w.ef r (gn s r);have N:dZ s.L (bt ⟨s.o,s.b⟩) r (gn s r)=fJ s r:=rfl;rw[N]at x;generalize fJ s r=R at x hl hn hlen⊢;generalize gn s r=Q at p x;obtain⟨l,c⟩:=R;dsimp only at x hl hn;refine af (n:=69) (n0:=34) tabOk Tryz.call194 Tryz.func194 ?_;intro hb
 cases H:u<;>(
  refine⟨false,.grow,(.l [0,1,2,3,4,5,6,7,8,9,10,11,12,13,14,15,16,17,18,19]),by kernel_rfl,.inl ?_⟩;refine cl [] [] (p) ?_;refine cl [] [] (x) ?_;refine ay (λd=>?_) (λd=>?_)
  ·have d:c≠0:=d;have e:kM s.L (l,c)=oG c:=if_pos d;have O:=hn d;rw[e]at hlen⊢;have b:=fF u s t [[110,111],bE c] (by rw[U]at hlen;exact hlen) (by simp);rw[H]at b;refine cl [] [] (O.d) ?_;refine⟨[[110,111],bE c],rfl,?_⟩;refine aE (mD 0) (bK 24 (d22++[.row 4 Fi aq l,.row 1 (List UInt8) encS [[110,111],bE c]]) true s (t++oG c)) b ?_;exact aF (rD 24)
  have d:c=0:=d;have e:kM s.L (l,c)=l.flatMap (nj s.L)++kr:=if_neg (λh=>h d);obtain⟨T,m⟩:∃T,jr t l.length T (λi=>nj s.L (l.getD i ⟨[],0,0,0⟩)) (l.flatMap (nj s.L)):=⟨_,jr.of (nj s.L) t l _⟩;have F:∀i,i<=l.length->(T i).length<=(t++l.flatMap (nj s.L)).length:=λi z=>m.len (k:=l.length-i) (by omega);rw[e,<-ac]at hlen⊢;rw[U]at hlen;have M:=m.z;have E:=m.e
  have g:∀i (h:i<l.length),T (i+1)=T i++bF [[100,111,99],l[i].path,eV (aj s.L l[i].id).bytes]:=λi h=>by
   have:=m.s i h;rw[show l.getD i ⟨[],0,0,0⟩=l[i]by rw[Y,W h];rfl]at this;exact this
  clear m;generalize t++l.flatMap (nj s.L)=A at hlen E F⊢;refine lp (Nat×Bool) (λp=>⟨[(0,.c (.ptr 11 0)),(35,.c (.rw 34)),(36,.c (.int .i64 l.length)),(37,.c (.int .i64 p.1))],bK 23 (d22++[.row 4 Fi aq l]) p.2 s (T p.1)⟩) (λp=>p.1<=l.length/\True) (λp=>l.length-p.1) (0,u) [] (mq (.s 34::[.s 12,.s 13,.s 14,.s 15,.s 16,.s 17,.s 18,.s 19,.s 20,.s 21,.s 22,.s 23,.s 24,.s 25,.s 26,.s 27,.s 28,.s 29,.s 30,.s 31,.s 32,.s 33])) ⟨ad _,trivial⟩ (by rw[M,H];exact dw) (λ⟨i,v⟩ z=>?_);obtain⟨z,-⟩:=z;dsimp only at z
  cases I:v<;>(
   refine dec (λf=>?_) (λf=>?_)
   ·have a:i<l.length:=by have f:(i:Int)<l.length:=f;omega
    have q:l[i]? =some l[i]:=List.getElem?_eq_getElem a;have g:=g i a;have D:=F (i+1) a;generalize l[i]=y at q g;rw[g,List.length_append]at D;have J:=ft s.L w.pool y.id;have P:(aj s.L y.id).bytes.length<=400:=j6.kU w.pool y.id;have K:=EA (aj s.L y.id).bytes (by omega);have b:=fF v s (T i) [[100,111,99],y.path,eV (aj s.L y.id).bytes] (by omega) (by simp);rw[<-g,I]at b;generalize aj s.L y.id=o at J K b;refine⟨i,⟨rfl,a⟩,?_⟩;refine⟨y,q,?_⟩;refine⟨false,.grow,(.alt [0,1,2,3,4,5,6,7,8,9,10,11] [12,16] λj=>bif Nat.beq j 12 then(.l [13,14,15,16,17,18])else bif Nat.beq j 16 then(.l [12,13,14,15,17,18])else .l []),by kernel_rfl,.inl ?_⟩
    refine And.intro ?_ ?_<;>(
     refine cl [] [] (J) ?_;refine⟨false,.grow,(.l [0,1,2,3,4,5,6,7]),by kernel_rfl,.inl ?_⟩;refine cl [] [] (K) ?_;refine⟨[[100,111,99],y.path,eV o.bytes],rfl,?_⟩;refine aE (mD 23) (bK 48 (d22++[.row 4 Fi aq l]++d22++[.box (aq y),.box (an o),.row 1 (List UInt8) encS [[100,111,99],y.path,eV o.bytes]]) true s (T (i+1))) b ?_;repeat'(refine I6 ?_)
     refine ag (i+1,true) [] (uf 48) ⟨a,trivial⟩ (by simp only[];omega) ?_;exact dw)
   ·obtain rfl:i=l.length:=by have f:¬(i:Int)<l.length:=f;omega
    rw[E];have b:=fF v s A [[101,110,100]] hlen (by simp);rw[I]at b;refine⟨[[101,110,100]],rfl,?_⟩;refine aE (mD 23) (bK 46 (d22++[.row 4 Fi aq l]++d22++[.row 1 (List UInt8) encS [[101,110,100]]]) true s (A++kr)) b ?_;exact aF (rD 46)))
def iy(m:Int):List UInt8:=if m=0 then[45]else if m=1 then[102,105,108,101]else if m=2 then[100,105,114]else[114,101,112,111]
theorem C7(f:Fi)(a:0<=f.mode)(b:f.mode<4):aa Tryz.prog 266 [.st (aq f)] [] (Rt (.c (.str (iy f.mode))) []):=by
 obtain⟨p,m,i,r⟩:=f;have h:m=(0:Nat)\/m=(1:Nat)\/m=(2:Nat)\/m=(3:Nat):=by dsimp only at a b;omega
 refine af (n:=7) (n0:=0) tabOk Tryz.call266 Tryz.func266 ?_;intro hb
 rcases h with rfl|rfl|rfl|rfl<;>(
  refine⟨_,⟨rfl,by decide⟩,?_⟩;exact dY rfl rfl)
def iU(E:cz):List UInt8:=if E.code≠0 then bF ([110,111]::bE E.code::E.cf)else bF [[111,107],bE E.id]
theorem wa(u:Bool)(s S:FS)(t:List UInt8)(x:ck)(E:cz)(p:aa Tryz.prog 22 [.c (.ptr 0 0),.st (az x)] (aO s) (Rt (.st (b6 E)) (aX S)))(hc:E.code≠0->cX E.code)(hi:E.code=0->cX E.id)(i:E.cf.length<=1000)(hlen:(t++iU E).length<=100000000):aa Tryz.prog 196 [.c (.ptr 11 0),.st (az x)] (aP u s t) (Rt (.ao []) (aT true S (t++iU E))):=by
 obtain⟨c,id,a⟩:=E;rw[U]at hlen;have k:=Mq (u:=u) (t:=t) p ⟨λ_ _=>by repeat' first|exact trivial|exact rfl|refine And.intro ?_ ?_,λ_=>rfl,rfl⟩;dsimp only at hc hi i;refine af (n:=29) (n0:=34) tabOk Tryz.call196 Tryz.func196 ?_;intro hb
 cases d:u<;>(
  rw[d]at k;refine⟨false,.grow,(.alt [0,1,2,3,4] [5,6] λj=>bif am j 5 then(.l [6,7])else bif am j 6 then(.l [5,7])else .l []),by kernel_rfl,.inl ?_⟩;refine And.intro ?_ ?_
  ·refine aE (mD 0) (bK 23 (d22++[.box (az x)]) u S t) k ?_ (hZ:=by rw[d];kernel_rfl);rw[d];refine ay (λh=>?_) (λh=>?_)
   ·have h:c≠0:=h;have f:=hc h;have e:iU ⟨c,id,a⟩=bF ([110,111]::bE c::a):=if_pos h;rw[e]at hlen⊢;have b:=fF u S t ([110,111]::bE c::a) hlen (by simp only[Z];omega);rw[d]at b;refine⟨false,.grow,(.l [0,1,2,5,6,3,4,7,8]),by kernel_rfl,.inl ?_⟩;refine cl [] [] (f.d) ?_;refine⟨[[110,111],bE c],rfl,?_⟩;refine⟨_,_,rfl,rfl,(by simp only[U,Z,ah];omega),?_⟩;refine aE (mD 23) (bK (24+24) ((d22++[.box (az x)])++d22++[.box (b6 ⟨c,id,a⟩)]++[.dead,.row 1 (List UInt8) encS ([110,111]::bE c::a)]) true S (t++bF ([110,111]::bE c::a))) b ?_;exact aF (rD 48)
   ·have h:c=0:=h;have f:=hi h;have e:iU ⟨c,id,a⟩=bF [[111,107],bE id]:=if_neg (λg=>g h);rw[e]at hlen⊢;have b:=fF u S t [[111,107],bE id] hlen (by simp);rw[d]at b;refine cl [] [] (f.d) ?_;refine⟨[[111,107],bE id],rfl,?_⟩;refine aE (mD 23) (bK 47 ((d22++[.box (az x)])++d22++[.box (b6 ⟨c,id,a⟩)]++[.row 1 (List UInt8) encS [[111,107],bE id]]) true S (t++bF [[111,107],bE id])) b ?_;exact aF (rD 47)
  ·refine aE (mD 0) (bK 24 (d22++[.box (az x),.box [.int .i64 0,.int .i64 0,.nil]]) u S t) k ?_ (hZ:=by rw[d];kernel_rfl);rw[d];refine ay (λh=>?_) (λh=>?_)
   ·have h:c≠0:=h;have f:=hc h;have e:iU ⟨c,id,a⟩=bF ([110,111]::bE c::a):=if_pos h;rw[e]at hlen⊢;have b:=fF u S t ([110,111]::bE c::a) hlen (by simp only[Z];omega);rw[d]at b;refine⟨false,.grow,(.l [0,1,2,5,6,3,4,7,8]),by kernel_rfl,.inl ?_⟩;refine cl [] [] (f.d) ?_;refine⟨[[110,111],bE c],rfl,?_⟩;refine⟨_,_,rfl,rfl,(by simp only[U,Z,ah];omega),?_⟩;refine aE (mD 24) (bK (24+24) ((d22++[.box (az x),.box (b6 ⟨c,id,a⟩)])++d22++[]++[.dead,.row 1 (List UInt8) encS ([110,111]::bE c::a)]) true S (t++bF ([110,111]::bE c::a))) b ?_;exact aF (rD 48)
   ·have h:c=0:=h;have f:=hi h;have e:iU ⟨c,id,a⟩=bF [[111,107],bE id]:=if_neg (λg=>g h);rw[e]at hlen⊢;have b:=fF u S t [[111,107],bE id] hlen (by simp);rw[d]at b;refine cl [] [] (f.d) ?_;refine⟨[[111,107],bE id],rfl,?_⟩;refine aE (mD 24) (bK 47 ((d22++[.box (az x),.box (b6 ⟨c,id,a⟩)])++d22++[]++[.row 1 (List UInt8) encS [[111,107],bE id]]) true S (t++bF [[111,107],bE id])) b ?_;exact aF (rD 47))
def mW(x:Ch):List UInt8:=bF [iy x.old.mode,iy x.new.mode,x.path]
def kI(R:List Ch×Int):List UInt8:=if R.2≠0 then oG R.2 else R.1.flatMap mW++kr
theorem EP(u:Bool)(s:FS)(J:bU s)(t:List UInt8)(r:Int)(hl:(gz s r).1.length<=100000)(hm:∀x∈(gz s r).1,(0<=x.old.mode/\x.old.mode<4)/\(0<=x.new.mode/\x.new.mode<4))(hn:(gz s r).2≠0->cX (gz s r).2)(hlen:(t++kI (gz s r)).length<=100000000):
  aa Tryz.prog 192 [.c (.ptr 11 0),.c (.int .i64 r)] (aP u s t) (Rt (.ao []) (aT true (lG s r) (t++kI (gz s r)))):=by
 have p:=Mr (u:=u) (t:=t) (OF s J r);generalize lG s r=S at p⊢;generalize gz s r=R at p hl hm hn hlen⊢;obtain⟨l,c⟩:=R;dsimp only at p hl hm hn;refine af (n:=45) (n0:=34) tabOk Tryz.call192 Tryz.func192 ?_;intro hb
 cases q:u<;>(
  rw[q]at p;refine aE (mD 0) (bK 22 d22 u S t++[.row 9 Ch iT l]) p ?_ (hZ:=by rw[q];kernel_rfl);rw[q];refine ay (λd=>?_) (λd=>?_)
  ·have d:c≠0:=d;have e:kI (l,c)=oG c:=if_pos d;have D:=hn d;rw[e]at hlen⊢;have f:=fF u S t [[110,111],bE c] (by rw[U]at hlen;exact hlen) (by simp);rw[q]at f;refine cl [] [] (D.d) ?_;refine⟨[[110,111],bE c],rfl,?_⟩;refine aE (mD 22) (bK 46 (d22++d22++[.row 9 Ch iT l,.row 1 (List UInt8) encS [[110,111],bE c]]) true S (t++oG c)) f ?_;exact aF (rD 46)
  have d:c=0:=d;have e:kI (l,c)=l.flatMap mW++kr:=if_neg (λh=>h d);obtain⟨T,m⟩:∃T,jr t l.length T (λi=>mW (l.getD i ⟨[],⟨[],0,0,0⟩,⟨[],0,0,0⟩⟩)) (l.flatMap mW):=⟨_,jr.of mW t l _⟩;have F:∀i,i<=l.length->(T i).length<=(t++l.flatMap mW).length:=λi w=>m.len (k:=l.length-i) (by omega);rw[e,<-ac]at hlen⊢;rw[U]at hlen;have I:=m.z;have E:=m.e
  have j:∀i (h:i<l.length),T (i+1)=T i++bF [iy l[i].old.mode,iy l[i].new.mode,l[i].path]:=λi h=>by
   have:=m.s i h;rw[show l.getD i ⟨[],⟨[],0,0,0⟩,⟨[],0,0,0⟩⟩=l[i]by rw[Y,W h];rfl]at this;exact this
  clear m;generalize t++l.flatMap mW=A at hlen E F⊢;refine lp (Nat×Bool) (λp=>⟨[(0,.c (.ptr 11 0)),(24,.c (.rw 34)),(25,.c (.int .i64 l.length)),(26,.c (.int .i64 p.1))],bK 23 (d22++[.row 9 Ch iT l]) p.2 S (T p.1)⟩) (λp=>p.1<=l.length/\True) (λp=>l.length-p.1) (0,u) [] (mq (.s 56::[.s 34,.s 35,.s 36,.s 37,.s 38,.s 39,.s 40,.s 41,.s 42,.s 43,.s 44,.s 45,.s 46,.s 47,.s 48,.s 49,.s 50,.s 51,.s 52,.s 53,.s 54,.s 55])) ⟨ad _,trivial⟩ (by rw[I,q];exact dw) (λ⟨i,v⟩ w=>?_);obtain⟨w,-⟩:=w;dsimp only at w
  cases H:v<;>(
   refine dec (λg=>?_) (λg=>?_)
   ·have a:i<l.length:=by have g:(i:Int)<l.length:=g;omega
    have o:l[i]? =some l[i]:=List.getElem?_eq_getElem a;have b:=hm _ (List.getElem_mem a);have j:=j i a;have z:=F (i+1) a;generalize l[i]=y at o b j;rw[j,List.length_append]at z;have K:=C7 y.old b.1.1 b.1.2;have M:=C7 y.new b.2.1 b.2.2;have f:=fF v S (T i) [iy y.old.mode,iy y.new.mode,y.path] (by omega) (by simp);rw[<-j,H]at f;refine⟨i,⟨rfl,a⟩,?_⟩;refine⟨y,o,?_⟩;refine⟨false,.grow,(.l [0,1,2,4,5,7,8,3,6,9,10]),by kernel_rfl,.inl ?_⟩;refine cl [] [] (K) ?_;refine cl [] [] (M) ?_;refine⟨[iy y.old.mode,iy y.new.mode,y.path],rfl,?_⟩;refine aE (mD 23) (bK 47 (d22++[.row 9 Ch iT l]++d22++[.box (iT y),.row 1 (List UInt8) encS [iy y.old.mode,iy y.new.mode,y.path]]) true S (T (i+1))) f ?_;repeat'(refine I6 ?_)
    refine ag (i+1,true) [] (uf 47) ⟨a,trivial⟩ (by simp only[];omega) ?_;exact dw
   ·obtain rfl:i=l.length:=by have g:¬(i:Int)<l.length:=g;omega
    rw[E];have f:=fF v S A [[101,110,100]] hlen (by simp);rw[H]at f;refine⟨[[101,110,100]],rfl,?_⟩;refine aE (mD 23) (bK 46 (d22++[.row 9 Ch iT l]++d22++[.row 1 (List UInt8) encS [[101,110,100]]]) true S (A++kr)) f ?_;exact aF (rD 46)))
end Go.Nest
end
