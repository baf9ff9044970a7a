import Derived.Test.YtpechfcbnoggfaaGreatDoorV14
import Derived.Test.YtpechfcbnoggfaaGreatDoorV53
import Derived.Test.YtpechfcbnoggfaaGreatDoorV12
import Derived.Test.YtpechfcbnoggfaaGreatDoorV36
set_option maxHeartbeats 16000000
set_option linter.unusedVariables false
set_option linter.unusedSimpArgs false
open List renaming take_succ_eq_append_getElem->ad,take_length->ah,getElem?_eq_getElem->al,take_append_drop->am,length_take->ar,length_drop->a0,any_eq_false->a1,getElem_mem->a4,any_append->a5,map_append->a6,sum_append->a9
open Nat renaming zero_le->ap,le_refl->a2,le_add_right->a3
section
namespace Go.Nest
open Go Go.AM Go.Proofs
open Go.Proofs.YtpechfcbnoggfaaGreatDoor (tab tabOk)
set_option maxRecDepth 100000
def cB(u:Bool)(l:List UInt8):C:=bif u then .ls 1 UInt8 aN l else .nil
theorem vC(u:Bool)(l:List UInt8):(u=false/\cB u l= .nil)\/(u=true/\∃a,cB u l= .ls 1 UInt8 aN a):=by
 cases u
 ·exact .inl ⟨rfl,rfl⟩
 ·exact .inr ⟨rfl,l,rfl⟩
def gm(ls:List (List UInt8)):Bool:=ls.any nt
theorem DI.more{s:FS}{n m:Nat}(h:DI s n)(hm:n<=m):DI s m:=⟨h.fi.up hm,h.ka,h.hd⟩
structure qf(s:FS)(lines:List (List UInt8))(T:List UInt8)(cd:Int)(S:FS):Prop where
 bad:gm lines=true->cd=16
 ok:gm lines=false->cd=0
 st:gm lines=false->S=(cF s lines).1
 tx:gm lines=false->T=(cF s lines).2
 len:T.length<=40000000
def mG(ls:List (List UInt8)):Bool:=ls.any λl=>decide (l≠[])
theorem Le{s:FS}:∀{ls:List (List UInt8)},(∀l∈ls,l=[])->cF s ls=(s,[]):=λ{ls}=>by
 induction ls with
 |nil=>intro _;rfl
 |cons l ls ih=>
  intro h;obtain rfl:=h l (by simp);have:=ih λl a=>h l (by simp[a]);unfold cF at this⊢;rw[List.foldl_cons];exact this
theorem Fj:fI≠[]:=by decide
theorem qY(ws:List (List UInt8)):bF ws≠[]:=by unfold bF;simp
theorem F7{s:FS}{w:List UInt8}{ns:List Int}{ws:List (List UInt8)}:(gK s w ns ws).2≠[]:=by
 have b:∀x,(lR s x).2≠[]:=λx=>by
  show iU _≠[];unfold iU;split<;>exact qY _
 have a:∀(x:List UInt8) (ws:List (List UInt8)),x++bF ws≠[]:=λx ws=>by
  have:=qY ws;simp[this]
 have c:∀(P:FS×List UInt8),P.2≠[]->P.2≠[]:=λP h=>h;unfold gK;refine av (P:=λp:FS×List UInt8=>p.2≠[]) (λ_=>a _ _) (λ_=>av (P:=λp:FS×List UInt8=>p.2≠[]) (λ_=>?_) (λ_=>av (P:=λp:FS×List UInt8=>p.2≠[]) (λ_=>a _ _) (λ_=>av (P:=λp:FS×List UInt8=>p.2≠[]) (λ_=>?_) (λ_=>av (P:=λp:FS×List UInt8=>p.2≠[]) (λ_=>qY _) (λ_=>av (P:=λp:FS×List UInt8=>p.2≠[]) (λ_=>?_) (λ_=>b _))))))
 ·show kI _≠[];unfold kI;split
  ·exact qY _
  ·exact a _ _
 ·show kM _ _≠[];unfold kM;split
  ·exact qY _
  ·exact a _ _
 ·split
  ·exact Fj
  ·exact b _
theorem K9{s:FS}{l:List UInt8}(h:l≠[]):(gq s l).2≠[]:=by
 unfold gq;rw[if_neg h];exact av (P:=λp:FS×List UInt8=>p.2≠[]) (λ_=>Fj) (λ_=>F7)
theorem Ld{s:FS}{ls:List (List UInt8)}(h:mG ls=true):(cF s ls).2≠[]:=by
 unfold mG at h;rw[List.any_eq_true]at h;obtain⟨l,c,h⟩:=h;have h:=of_decide_eq_true h;obtain⟨a,b,rfl⟩:=List.append_of_mem c;rw[show a++l::b=(a++[l])++b by simp,(CN s (a++[l]) b).2,xl];have:=K9 (s:=(cF s a).1) h;simp[this]
theorem Of{ls:List (List UInt8)}{i:Nat}(h:i<ls.length):mG (ls.take (i+1))=(mG (ls.take i)||decide (ls[i]≠[])):=by
 unfold mG;rw[ad h,a5];simp
theorem Jp{ls:List (List UInt8)}(h:gm ls=true):∃(i:Nat) (hi:i<ls.length),nt ls[i]=true/\∀(j:Nat) (h:j<i),nt (ls[j]'(by omega))=false:=by
 unfold gm at h;have a:(ls.findIdx? nt).isSome=true:=by rw[List.findIdx?_isSome];exact h
 obtain⟨i,e⟩:=Option.isSome_iff_exists.1 a;rw[List.findIdx?_eq_some_iff_getElem]at e;obtain⟨hi,b,c⟩:=e;exact⟨i,hi,b,λj d=>by have:=c j d;simpa using this⟩
theorem v8(u:Bool)(k:List UInt8){s:FS}{n:Nat}(h:DI s n)(lines:List (List UInt8))(hl:lines.length<=200)(hn:n+lines.length<=900)(hlen:∀l∈lines,l.length<=1000000):
  ∃(v:Bool) (y T:List UInt8) (S:FS) (cd a:Int),DI S (n+lines.length)/\qf s lines T cd S/\
   aa Tryz.prog 13 [.c (.ptr 11 0),.c (.bs 1 (List UInt8) encS lines)] (aQ 1 [dh u (cB u k)] s) (Rt (.ao [(false,[.str T]),(true,[.int .i64 cd,.int .i64 a])]) (aQ 22 (dh v (cB v y)::d21) S)):=by
 have d:=h.lines lines lines.length (a2 _);rw[ah]at d;have w:(cF s lines).2.length<=40000000:=by have:=d.2;omega
 cases hb:gm lines with
 |true=>
  obtain⟨i,f,r,t⟩:=Jp hb;exact⟨u,k,[],s,16,i,h.more (a3 _ _),⟨λ_=>rfl,λe=>absurd (hb.symm.trans e) (by decide),λe=>absurd (hb.symm.trans e) (by decide),λe=>absurd (hb.symm.trans e) (by decide),ap _⟩,Iu u _ (vC u k) lines hl i f r t s⟩
 |false=>
  have o:∀l∈lines,¬0<=Lib.indexByte l 10:=λl m g=>by
   unfold gm at hb;rw[a1]at hb;exact hb l m (decide_eq_true g)
  cases j:mG lines with
  |false=>
   have b:∀l∈lines,l=[]:=λl m=>by
    unfold mG at j;rw[a1]at j;have:=j l m;simpa using this
   have e:=Le (s:=s) b;exact⟨false,[],[],s,0,0,h.more (a3 _ _),⟨λe=>absurd (hb.symm.trans e) (by decide),λ_=>rfl,λ_=>by rw[e],λ_=>by rw[e],ap _⟩,Ix u _ (vC u k) lines hl b s⟩
  |true=>
   have p:=AX u _ (vC u k) lines hl o (λi=>mG (lines.take i)) (λi=>(cF s (lines.take i)).1) (λi=>(cF s (lines.take i)).2) rfl rfl (λi f=>?_) (by show mG (lines.take lines.length)=true;rw[ah];exact j) (by show(cF s (lines.take lines.length)).2≠[];rw[ah];exact Ld j)
   ·rw[ah]at p;exact⟨true,(cF s lines).2,(cF s lines).2,(cF s lines).1,0,0,d.1,⟨λe=>absurd (hb.symm.trans e) (by decide),λ_=>rfl,λ_=>rfl,λ_=>rfl,w⟩,p⟩
   ·have q:=h.lines lines i (by omega);have x:(cF s (lines.take i)).2.length+200000<=100000000:=by have:=q.2;omega
    rw[Of f,ad f,xl];by_cases b:lines[i]=[]
    ·rw[show decide (lines[i]≠[])=false from decide_eq_false (λg=>g b),Bool.or_false];have e:gq (cF s (lines.take i)).1 lines[i]=((cF s (lines.take i)).1,[]):=by unfold gq;rw[if_pos b]
     rw[e,List.append_nil];exact K8 _ _ _ _ b
    ·rw[show decide (lines[i]≠[])=true from decide_eq_true b,Bool.or_true];exact K7 _ q.1 (by omega) _ _ b (hlen _ (a4 f)) x
end Go.Nest
end
section
namespace Go.Nest
open Go Go.AM
theorem Gi{a b:List (List UInt8)}:gm (a++b)=(gm a||gm b):=a5
structure FB(T1 T2 T3 T4:List UInt8)(c1 c2 c3:Int):Prop where
 bad:c2≠0->c1≠0\/c3≠0
 ok:c2=0->c1=0/\c3=0/\T1++T3=T2/\T4=T2
theorem Kw{l:List (List UInt8)}{k:Nat}{T1 T2 T3 T4:List UInt8}{c1 c2 c3 c4:Int}{d h i j:FS}(h1:qf c8 (l.take k) T1 c1 d)(h2:qf c8 l T2 c2 h)(c:qf d (l.drop k) T3 c3 i)(m:qf c8 l T4 c4 j):FB T1 T2 T3 T4 c1 c2 c3:=by
 have e:gm l=(gm (l.take k)||gm (l.drop k)):=by rw[<-Gi,am]
 refine⟨λg=>?_,λg=>?_⟩
 ·cases hb:gm l with
  |false=>exact absurd (h2.ok hb) g
  |true=>
   rw[hb]at e;cases a:gm (l.take k)with
   |true=>exact .inl (by rw[h1.bad a];decide)
   |false=>
    rw[a,Bool.false_or]at e;exact .inr (by rw[c.bad e.symm];decide)
 ·cases hb:gm l with
  |true=>have:=h2.bad hb;omega
  |false=>
   rw[hb]at e;obtain⟨a,b⟩:=Bool.or_eq_false_iff.1 e.symm;refine⟨h1.ok a,c.ok b,?_,by rw[m.tx hb,h2.tx hb]⟩;have f:=(CN c8 (l.take k) (l.drop k)).2;rw[am]at f;rw[h1.tx a,c.tx b,h1.st a,h2.tx hb,f]
def gR(l:List (List UInt8)):Nat:=(l.map List.length).sum
theorem K4{l:List (List UInt8)}{i:Nat}(h:i<l.length):gR (l.take (i+1))=gR (l.take i)+l[i].length:=by
 unfold gR;rw[ad h,a6,a9];simp
theorem CK{x:List UInt8}:∀{l:List (List UInt8)},x∈l->x.length<=gR l
 |y::l,h=>by
  rw[show gR (y::l)=y.length+gR l by simp[gR]];rcases List.mem_cons.1 h with rfl|h
  ·omega
  ·have:=CK h;omega
theorem K3{l:List (List UInt8)}{i:Nat}:gR (l.take i)<=gR l:=by
 conv=>rhs;rw[<-am i l]
 unfold gR;rw[a6,a9];omega
end Go.Nest
end
section
namespace Go.Nest
open Go Go.AM Go.Proofs
open Go.Proofs.YtpechfcbnoggfaaGreatDoor (tab tabOk)
set_option maxRecDepth 100000
def zV:Nat->FS
 |0=>c8
 |1=>dP
 |_=>aU
def kT:List UInt8:=[]++iU ⟨0,0,[]⟩
def kf:List UInt8:=kT++iU ⟨0,2,[]⟩
def jv:List UInt8:=kf++kI ([],0)
def jw:List UInt8:=jv++nh [⟨[97],[120,10]⟩]
def jx:List UInt8:=jw++nP [⟨[109],2⟩] 2
def jy:List UInt8:=jx++kM dL ([⟨[97],1,0,0⟩],0)
def lN:List UInt8:=jy++bF [fj [0,1,2]]
def qn:List UInt8:=lN++fI
def vn:Nat->List UInt8
 |0=>[]
 |1=>kT
 |2=>kf
 |3=>jv
 |4=>jw
 |5=>jx
 |6=>jy
 |7=>lN
 |_=>qn
def GL(i:Nat):Bool:= !Nat.beq i 0
theorem zW:qn=vm:=by decide+kernel
theorem mU:kT.length<=1000/\kf.length<=1000/\jv.length<=1000/\jw.length<=1000/\jx.length<=1000/\jy.length<=1000/\lN.length<=1000/\qn.length<=1000:=by decide+kernel
theorem nA{n:Nat}(h:n<=1000):n<=100000000:=Nat.le_trans h (by decide)
theorem De:cX 0:=cX.small (i:=0) (by decide)
theorem Mb:cX 1:=cX.small (i:=1) (by decide)
theorem tU:cX 2:=cX.small (i:=2) (by decide)
theorem GX:b5 32 [119,114,105,116,101,32,48,32,97,32,120,92,110]=([119,114,105,116,101],[48,32,97,32,120,92,110],true):=by decide+kernel
theorem GY:b5 32 [99,111,109,109,105,116,32,48,32,109,32,111,110,101]=([99,111,109,109,105,116],[48,32,109,32,111,110,101],true):=by decide+kernel
theorem GM:aa Tryz.prog 47 [.c (.ptr 11 0),.c (.str [119,114,105,116,101,32,48,32,97,32,120,92,110])] (aP false c8 []) (Rt (.ao []) (aT true dP kT)):=by
 have p:=A3 c8 Jw (i:=0) (by decide) (r:=0) rfl 0 [97] [] [] [120,10] (by decide);rw[Gv,Gu]at p;have p:=wa false c8 dP [] _ _ p (λh=>absurd rfl h) (λ_=>De) (by decide) (nA mU.1);exact nD false c8 dP [] kT _ _ _ [110,119,116] true [0] [[97],[120,92,110]] (by decide) GX (by decide+kernel) (by decide) (by decide) (by decide+kernel) (.inl (by decide)) (zA false c8 dP [] kT 0 [97] [120,92,110] [120,10] (by decide) (by decide+kernel) p)
theorem GN:aa Tryz.prog 47 [.c (.ptr 11 0),.c (.str [99,111,109,109,105,116,32,48,32,109,32,111,110,101])] (aP true dP kT) (Rt (.ao []) (aT true aU kf)):=by
 have p:=AD dP Jx (i:=0) (by decide) ⟨4,(0:Nat),0,[],[109],fD,[]⟩ rfl (by rw[vk];exact Jy);rw[Gx,Gw]at p;have p:=A2 dP (i:=0) (by decide) 0 [] [109] fD [] _ _ p;have p:=wa true dP aU kT _ _ p (λh=>absurd rfl h) (λ_=>tU) (by decide) (nA mU.2.1);exact nD true dP aU kT kf _ _ _ [110,119,116] true [0] [[109],fD] (by decide) GY (by decide+kernel) (by decide) (by decide) (by decide+kernel) (.inl (by decide)) (zr true dP aU kT kf _ _ _ (EU 0 [109] fD) p)
theorem G8:aa Tryz.prog 192 [.c (.ptr 11 0),.c (.int .i64 0)] (aP true aU kf) (Rt (.ao []) (aT true aU jv)):=by
 have p:=EP true aU qR kf 0;rw[GC,GD]at p;exact p (by decide) (λx h=>by cases h) (λh=>absurd rfl h) (nA mU.2.2.1)
theorem G9:aa Tryz.prog 191 [.c (.ptr 11 0),.c (.int .i64 0)] (aP true aU jv) (Rt (.ao []) (aT true aU jw)):=by
 have p:=A5 true aU qR jv 0;rw[GG]at p;exact p (nA mU.2.2.2.1)
theorem He:aa Tryz.prog 193 [.c (.ptr 11 0),.c (.int .i64 0)] (aP true aU jw) (Rt (.ao []) (aT true aU jx)):=by
 have p:=D4 true aU qR jw 0;rw[zU.1,zU.2]at p;exact p (λx h=>by rw[List.mem_singleton]at h;subst h;exact tU) tU (nA mU.2.2.2.2.1)
theorem Hf:aa Tryz.prog 194 [.c (.ptr 11 0),.c (.int .i64 0)] (aP true aU jx) (Rt (.ao []) (aT true aU jy)):=by
 have p:=Fl true aU qR jx 0;rw[GH]at p;exact p (by decide) (λh=>absurd rfl h) (nA mU.2.2.2.2.2.1)
theorem Hg:aa Tryz.prog 195 [.c (.ptr 11 0),.c (.int .i64 0)] (aP true aU jy) (Rt (.ao []) (aT true aU lN)):=by
 have p:=DB true aU qR jy 0;rw[GK]at p
 exact p (λx h=>by
  have:x=0\/x=1\/x=2:=by simpa using h
  rcases this with rfl|rfl|rfl
  ·exact De
  ·exact Mb
  ·exact tU) (nA mU.2.2.2.2.2.2.1)
theorem GO:aa Tryz.prog 47 [.c (.ptr 11 0),.c (.str [115,116,97,116,117,115,32,48])] (aP true aU kf) (Rt (.ao []) (aT true aU jv)):=
 nD true aU aU kf jv _ [115,116,97,116,117,115] [48] [110] true [0] [] (by decide) (by decide+kernel) (by decide+kernel) (by decide) (by decide) (by decide+kernel) (.inl (by decide)) (zy true aU aU kf jv 0 G8)
theorem GP:aa Tryz.prog 47 [.c (.ptr 11 0),.c (.str [100,111,99,115,32,48])] (aP true aU jv) (Rt (.ao []) (aT true aU jw)):=
 nD true aU aU jv jw _ [100,111,99,115] [48] [110] true [0] [] (by decide) (by decide+kernel) (by decide+kernel) (by decide) (by decide) (by decide+kernel) (.inl (by decide)) (zt true aU aU jv jw 0 G9)
theorem GQ:aa Tryz.prog 47 [.c (.ptr 11 0),.c (.str [114,101,102,115,32,48])] (aP true aU jw) (Rt (.ao []) (aT true aU jx)):=
 nD true aU aU jw jx _ [114,101,102,115] [48] [110] true [0] [] (by decide) (by decide+kernel) (by decide+kernel) (by decide) (by decide) (by decide+kernel) (.inl (by decide)) (zw true aU aU jw jx 0 He)
theorem GR:aa Tryz.prog 47 [.c (.ptr 11 0),.c (.str [119,104,111,108,101,32,48])] (aP true aU jx) (Rt (.ao []) (aT true aU jy)):=
 nD true aU aU jx jy _ [119,104,111,108,101] [48] [110] true [0] [] (by decide) (by decide+kernel) (by decide+kernel) (by decide) (by decide) (by decide+kernel) (.inl (by decide)) (zz true aU aU jx jy 0 Hf)
theorem GU:aa Tryz.prog 47 [.c (.ptr 11 0),.c (.str [111,119,110,32,48])] (aP true aU jy) (Rt (.ao []) (aT true aU lN)):=
 nD true aU aU jy lN _ [111,119,110] [48] [110] true [0] [] (by decide) (by decide+kernel) (by decide+kernel) (by decide) (by decide) (by decide+kernel) (.inl (by decide)) (zu true aU aU jy lN 0 Hg)
theorem GV:aa Tryz.prog 47 [.c (.ptr 11 0),.c (.str [120])] (aP true aU lN) (Rt (.ao []) (aT true aU qn)):=
 CL true aU lN [120] [120] [] false [] [] true (by decide) (by decide+kernel) (by decide+kernel) (by decide) (by decide+kernel) (by have:=mU.2.2.2.2.2.2.2;rw[<-List.length_append];exact nA this)
def tG:List Nat:=[0,1,2,3,4,5,6,7,8,9,10,11,12,13,14,15,16,17,18,19,20,21,22,23,24,25,26,27,28,29,30,31,32]
theorem Iv:aa Tryz.prog 10 [] [] (Rt (.c (.bool true)) []):=by
 have p := AX false .nil (.inl ⟨rfl, rfl⟩) n4 (by decide) (by decide +kernel) GL zV vn rfl rfl (λi h=>by
  match i,h with
  |0,_=>exact GM
  |1,_=>exact GN
  |2,_=>exact GO
  |3,_=>exact GP
  |4,_=>exact GQ
  |5,_=>exact GR
  |6,_=>exact GU
  |7,_=>exact GV) rfl (by rw[show vn n4.length=qn from rfl,zW];decide)
 rw[show vn n4.length=vm from zW]at p;generalize zV n4.length=S at p;have p:aa Tryz.prog 13 [.c (.ptr 11 0),.c (.bs 1 (List UInt8) encS n4)] (aQ 1 [dh false .nil] c8) _:=p;refine af (n:=16) (n0:=0) tabOk Tryz.call10 Tryz.func10 ?_;intro hb;refine aE [] (aQ 1 [dh false .nil] c8) sR ?_;refine⟨n4,rfl,?_⟩;refine aE tG (aQ 23 (dh true (.ls 1 UInt8 aN vm)::(d21++[.row 1 (List UInt8) encS n4])) S) p ?_;exact aL (decide_eq_true rfl)
theorem Oe(l:List (List UInt8))(hl:∀x∈l,x.length<=140737488351232):aa Tryz.prog 11 [.c (.bs 1 (List UInt8) encS l)] [] (Rt (.c (.bool (decide (9000<gR l)))) []):=by
 refine af (n:=20) (n0:=0) tabOk Tryz.call11 Tryz.func11 ?_;intro hb;have hb:l.length<=9223372036854775807:=hb.1.1;refine lp Nat (λi=>⟨[(0,.c (.bs 1 (List UInt8) encS l)),(3,.c (.int .i64 (gR (l.take i)))),(4,.c (.int .i64 i))],[]⟩) (λi=>(i<=l.length/\gR (l.take i)<=9000)/\True) (λi=>l.length-i) 0 [] [] ?_ ?_ (λi g=>?_)
 ·exact⟨⟨ap _,ap _⟩,trivial⟩
 ·repeat' first|exact trivial|exact rfl|refine And.intro ?_ ?_
 obtain⟨⟨g,j⟩,-⟩:=g;refine dec (λb=>?_) (λb=>?_)
 ·have a:i<l.length:=by have b:(i:Int)<l.length:=b;omega
  have e:l[i]? =some l[i]:=al a;have f:=K4 a;have k:=hl _ (a4 a);generalize l[i]=y at e f k;refine⟨i,y,rfl,e,?_⟩;refine⟨i64 (by omega) (by omega),?_⟩;refine dec (λd=>?_) (λd=>?_)
  ·have d:(9000:Int)<(gR (l.take i):Int)+(y.length:Int):=d;have:=K3 (l:=l) (i:=i+1);exact aL (decide_eq_true (by omega)).symm
  ·have d:¬(9000:Int)<(gR (l.take i):Int)+(y.length:Int):=d;repeat'((conv=>whnf);first|(refine dec (λh=>?_) (λh=>?_)<;>try contradiction)|(refine ay (λh=>?_) (λh=>?_)<;>try contradiction)|refine dB (λh=>?_) (λh=>?_)|refine aS (λh=>?_) (λh=>?_)|refine⟨i64 (by omega) (by omega),?_⟩|refine⟨_,_,rfl,al (by omega),?_⟩|refine⟨_,⟨rfl,by omega⟩,?_⟩|refine⟨_,al (by omega),?_⟩|refine aL ?_|refine aJ ?_|refine dY ?_ rfl|fail)
   refine ag (i+1) [] [] ⟨⟨a,by omega⟩,trivial⟩ (by simp only[];omega) ?_;rw[f];repeat' first|exact trivial|exact rfl|refine And.intro ?_ ?_
 ·obtain rfl:i=l.length:=by have b:¬(i:Int)<l.length:=b;omega
  rw[ah]at j;exact aL (decide_eq_false (by omega)).symm
def gD(off k:Nat)(u:Bool)(l:List UInt8)(s:FS):List B:=((aQ k [dh u (cB u l)] s).take 12).map (fY λj=>j+off)
def Lr:List Nat:=tG.map (· +33)
def Lu:List Nat:=tG.map (· +132)
def Lv:List Nat:=[0,1,2,3,4,5,6,7,8,9,10,11,66,67,68,69,70,71,72,73,74,75,76,77,78,79,80,81,82,83,84,85,86]
theorem Iw(l:List (List UInt8))(hl:∀x∈l,x.length<=140737488351232)(cut:Int):aa Tryz.prog 3 [.c (.ls 1 (List UInt8) encS l),.c (.int .i64 cut)] [] (Rt (.c (.bool true)) []):=by
 refine af (n:=94) (n0:=0) tabOk Tryz.call3 Tryz.func3 ?_;intro hb;refine cl [] [] (Iv) ?_;(conv=>whnf);cases h2:decide ((200:Int)<(l.length:Int))with
 |true=>
  exact aL rfl
 |false=>
 refine cl [] [] (Oe l hl) ?_;refine aS (λg=>?_) (λg=>?_)
 ·exact aL rfl
 have D:l.length<=200:=by have:=of_decide_eq_false h2;omega
 have ac:gR l<=9000:=by have:=of_decide_eq_false g;omega
 have f:∀x∈l,x.length<=1000000:=λx o=>by have:=CK o;omega
 refine⟨i64 (by omega) (by omega),?_⟩;refine⟨PJ (n:=l.length+1) (by omega) (by omega),?_⟩;(conv=>whnf);obtain⟨w,hk⟩:=NC (k:=cut) (n:=l.length+1) (by omega) (by omega);have w:IntKind.i64.wrap ((IntKind.u64.wrap cut).tmod (IntKind.u64.wrap ((l.length:Int)+1)))=_:=w;rw[w];generalize (cut%18446744073709551616%((l.length+1:Nat):Int)).toNat=k at hk;refine aE [] (aQ 1 [dh false .nil] c8) sR ?_;refine aE [] (aQ 1 [dh false .nil] c8++(gD 33 1 false [] c8++lU c8)) sR ?_;(conv=>whnf);obtain⟨j,E,S,N,i,q,Q,I,p1⟩:=v8 false [] DI.nil (l.take k) (by rw[ar];omega) (by rw[ar];omega) λx o=>f x (List.mem_of_mem_take o);obtain⟨m,p,O,d,t,s,U,K,R⟩:=v8 false [] DI.nil l D (by omega) f;obtain⟨h,F,T,r,u,P,W,M,H⟩:=v8 j E Q (l.drop k) (by rw[a0];omega) (by rw[ar,a0];omega) λx o=>f x (List.mem_of_mem_drop o);have J:=Kw I K M K;have hT:S.length+T.length<=9223372036854775807:=by have:=I.len;have:=M.len;omega
 clear I K M Q U W;refine⟨0,k,rfl,rfl,⟨ap _,by omega⟩,?_⟩;(conv=>whnf);cases e:j<;>(
 refine aE tG (aQ 55 (dh j (cB j E)::(d21++(gD 33 1 false [] c8++lU c8))) N) p1 ?_ (hZ:=by rw[e];kernel_rfl);rw[e]at H⊢;(conv=>whnf);cases a:m<;>(
 refine aE Lr (aQ 55 (dh j (cB j E)::(d21++(gD 33 44 m p d++d21))) N++((.box [.int .i64 i,.int .i64 q])::lU d)) R ?_ (hZ:=by rw[e,a];kernel_rfl);rw[e,a];refine⟨k,l.length,rfl,rfl,⟨by omega,a2 _⟩,?_⟩;rw[show l.drop k=(l.drop k).take (l.length-k)from(List.take_of_length_le (by rw[a0];exact a2 _)).symm]at H;(conv=>whnf);cases b:h<;>(
 refine aE Lv (aQ 99 (dh h (cB h F)::(d21++(gD 33 44 m p d++(d21++(d21++((.box [.int .i64 i,.int .i64 q])::(lU d++[(.box [.int .i64 t,.int .i64 s])]))))))) r) H ?_ (hZ:=by rw[a,b];kernel_rfl);rw[a,b];refine ay (λz=>?_) (λz=>?_)
 ·cases y:decide (i=0)with
  |false=>
   (conv=>whnf);rw[y];exact aL rfl
  |true=>
   have h3:=(J.bad z).resolve_left (λg=>g (of_decide_eq_true y));(conv=>whnf);rw[y];exact aL (by rw[decide_eq_false h3];rfl)
 ·obtain⟨Y,Z,v,-⟩:=J.ok z;refine aE [] ((aQ 99 (dh h (cB h F)::(d21++(gD 33 44 m p d++(d21++(d21++((.box [.int .i64 i,.int .i64 q])::(lU d++[(.box [.int .i64 t,.int .i64 s])]))))))) r)++((.box [.int .i64 u,.int .i64 P])::(gD 132 1 false [] c8++lU c8))) sR ?_ (hZ:=by rw[a,b];kernel_rfl);rw[a,b];refine aE Lu ((aQ 99 (dh h (cB h F)::(d21++(gD 33 44 m p d++(d21++(d21++((.box [.int .i64 i,.int .i64 q])::(lU d++[(.box [.int .i64 t,.int .i64 s])]))))))) r)++((.box [.int .i64 u,.int .i64 P])::(gD 132 22 m p d++(d21++lU d)))) R ?_ (hZ:=by rw[a,b];kernel_rfl);rw[a,b];(conv=>whnf);rw[show decide (i=0)=true from decide_eq_true Y];(conv=>whnf);rw[show decide (u=0)=true from decide_eq_true Z];refine⟨hT,?_⟩;rw[v];(conv=>whnf);rw[show decide (O=O)=true from decide_eq_true rfl];exact aL (decide_eq_true rfl))))
end Go.Nest
end
