/- part -/
import Derived.Test.YtpechfcbnoggfaaGreatDoorB0
import Derived.Test.YtpechfcbnoggfaaGreatDoorP9
import Derived.Test.YtpechfcbnoggfaaGreatDoorG9
import Derived.Test.YtpechfcbnoggfaaGreatDoorN1
set_option linter.unusedVariables false
set_option linter.unusedSimpArgs false
section
namespace Go.Nest
open Go Go.AM Go.Proofs Go.Sort
open Go.Proofs.YtpechfcbnoggfaaGreatDoor (tab tabOk)
set_option maxRecDepth 4000
def cmpL(a b:List UInt8):Int:=if aK a b=true then-1 else if aK b a=true then 1 else 0
theorem Hf{dr:Bool}(a b:List UInt8)(ha:a.length≤4000000)(hb':b.length≤4000000):bC dr Tryz.prog 323 [.c (.str a),.c (.str b)] [] (Rt (.c (.int .i64 (cmpL a b))) []):=by
 have p1:=nY (dr:=dr) a b ha hb';have p2:=nY (dr:=dr) b a hb' ha;refine ao (n:=13) (n0:=0) tabOk Tryz.call323 Tryz.func323 ?_;intro hb;unfold cmpL;generalize aK a b=x at p1⊢;generalize aK b a=y at p2⊢;(conv=>whnf);refine cl [] [] (p1) ?_;(conv=>whnf);refine aO (fun h1=>?_) (fun h1=>?_)
 ·rw[if_pos h1];(conv=>whnf);exact aI rfl
 ·rw[if_neg (by rw[h1];decide)];(conv=>whnf);refine cl [] [] (p2) ?_;(conv=>whnf);refine aO (fun h2=>?_) (fun h2=>?_)
  ·rw[if_pos h2];(conv=>whnf);exact aI rfl
  ·rw[if_neg (by rw[h2];decide)];(conv=>whnf);exact aI rfl
def kn(x y:Tx):Int:=cmpL x.1 y.1
theorem n5(x y:Tx):ltOf kn x y=aK x.1 y.1:=by
 unfold ltOf kn cmpL;cases h:aK x.1 y.1 with
 |true=>rw[if_pos rfl];rfl
 |false=>
  rw[if_neg (by decide)];split<;>rfl
theorem Bi:SWO (ltOf kn)where
 irrefl x:=by rw[n5];exact mI
 trans x y z h1 h2:=by rw[n5]at*;exact kE h1 h2
 ntrans x y z h1 h2:=by
  rw[n5]at*;cases h:aK x.1 z.1 with
  |false=>rfl
  |true=>
   rcases jr x.1 y.1 with h3|h3|h3
   ·rw[h3]at h1;cases h1
   ·rw[h3]at h;rw[h]at h2;cases h2
   ·have:=kE h3 h;rw[this]at h2;cases h2
theorem Bj(x y:Tx)(h1:ltOf kn x y=false)(h2:ltOf kn y x=false):x=y:=by
 rw[n5]at*;refine Subtype.ext ?_;rcases jr x.1 y.1 with h3|h3|h3
 ·rw[h3]at h1;cases h1
 ·exact h3
 ·rw[h3]at h2;cases h2
def hY(l:List (List UInt8)):List (List UInt8):=l.mergeSort fun x y=> !aK y x
theorem Gt(l:List Tx)(hne:l≠[])(hl:l.length≤1000000):ae Tryz.prog 322 [.c (.rw 0),.c (.fn 323 [])] [.row 1 (List UInt8) encS (l.map (·.1))] (Rt (.tup []) [.row 1 (List UInt8) encS (hY (l.map (·.1)))]):=by
 have h := ae.EY (P := Tryz.prog) (f := 322) (g := 323) (l := l) (l' := l.mergeSort fun x y => !(ltOf kn) y x) hne (List.length_mergeSort l) Tryz.call322 (fun blk off cap w hH hblk=>by
  have h:=Any.slices_SortFunc_total xQ gf (fun _=>rfl) kn Bi 323 #[] blk off cap l.toArray w Tryz.call323 (D0 Tryz.call323 (fun x y=>Hf x.1 y.1 x.2 y.2) blk off _ w) hH hblk (by rw[List.size_toArray];omega) Bj;exact h)
 have e:(l.mergeSort fun x y=> !(ltOf kn) y x).map (·.1)=hY (l.map (·.1)):=by
  unfold hY;exact List.map_mergeSort fun a _ b _=>by rw[n5]
 rw[e]at h;exact h
end Go.Nest
end
section
namespace Go.Nest
open Go Go.AM Go.NB Go.Proofs Go.Sort
open Go.Proofs.YtpechfcbnoggfaaGreatDoor (tab tabOk)
set_option maxRecDepth 4000
theorem Gr:ae Tryz.prog 322 [.c (.rw 0),.c (.fn 323 [])] [.row 1 (List UInt8) Go.AM.encS []] (Rt (.tup []) [.row 1 (List UInt8) Go.AM.encS []]):=by
 intro F L γ H vs hargs hW w hw;subst hw;match vs,hargs with
 |[v,fv],⟨hv,hfv,_⟩=>
  obtain rfl:fv= .func (.func 323) #[] #[]:=by
   cases hfv with
   |fn hr _=>cases hr;rfl
  obtain⟨q,cap,rfl⟩:∃q cap,v= .slice q 0 cap:=by
   cases hv with
   | @rw _ _ p q n0 cap0 _ _ hg hq _=>
    rcases hW.br 0 _ _ rfl hg with⟨p',e,_⟩|⟨k,off,cap,cur,e,css,hpe,_⟩
    ·cases e;exact⟨_,_,rfl⟩
    ·cases hpe;exact⟨_,_,rfl⟩
  have h:Calls Tryz.prog 322 #[.slice q 0 cap,.func (.func 323) #[] #[]] w fun e w'=>e= .returned (.tuple #[])∧w'=w:=AnyF.slices_SortFunc_none {xQ with} q cap _ w;rw[Tryz.call322];refine⟨rfl,h.mono fun e w' ⟨he,hw'⟩=>.inl ⟨_,he,⟨.ret (.tup []),[.row 1 (List UInt8) Go.AM.encS []],F,γ,⟨rfl,rfl⟩,rfl,rfl,rfl,⟨[],rfl,trivial⟩,?_⟩,?_⟩⟩
  ·subst hw';exact hW
  ·subst hw';exact du.refl _
theorem z7:∀{l:List (List UInt8)},(∀x∈l,x.length≤4000000)→∃t:List Tx,t.map (·.1)=l
 |[],_=>⟨[],rfl⟩
 |x::l,h=>by
  obtain⟨t,rfl⟩:=z7 fun y hy=>h y (List.mem_cons_of_mem _ hy);exact⟨⟨x,h x (by simp)⟩::t,rfl⟩
theorem Gs(l:List (List UInt8))(hp:∀x∈l,x.length≤4000000)(hl:l.length≤1000000):ae Tryz.prog 322 [.c (.rw 0),.c (.fn 323 [])] [.row 1 (List UInt8) Go.AM.encS l] (Rt (.tup []) [.row 1 (List UInt8) Go.AM.encS (hY l)]):=by
 obtain⟨t,rfl⟩:=z7 hp;rw[List.length_map]at hl;by_cases h:t=[]
 ·subst h;rw[List.map_nil,show hY []=[]by unfold hY;exact List.mergeSort_nil];exact Gr
 ·exact Gt t h hl
def dM:Option (List UInt8)→List (List UInt8)→List (List UInt8)
 |_,[]=>[]
 |p,x::r=>if some x=p then dM p r else x::dM (some x) r
theorem sd:∀{l:List (List UInt8)} {p:Option (List UInt8)} {y:List UInt8},dM p (l++[y])=dM p l++(if some y=(match l.getLast? with|some x=>some x|none=>p)then[]else[y])
 |[],p,y=>by
  show(if some y=p then dM p []else y::dM (some y) [])=[]++(if some y=p then[]else[y]);split<;>rfl
 |x::l,p,y=>by
  have e:(x::l).getLast? =match l.getLast? with|some z=>some z|none=>some x:=by
   cases l with
   |nil=>rfl
   |cons z l=>rw[List.getLast?_cons_cons];cases h:(z::l).getLast? with
    |none=>simp at h
    |some _=>rfl
  rw[List.cons_append,dM,dM,e];split
  ·rename_i h;rw[sd,←h];cases l.getLast? <;>rfl
  ·rw[sd,List.cons_append];cases l.getLast? <;>rfl
theorem py{l:List (List UInt8)}{i:Nat}(h0:0<i)(hi:i<l.length):dM none (l.take (i+1))=dM none (l.take i)++(if l[i]=l[i-1]then[]else[l[i]]):=by
 rw[List.take_succ_eq_append_getElem hi,sd]
 have e:(l.take i).getLast? =some (l[i-1]'(by omega)):=by
  rw[List.getLast?_eq_getElem?,List.length_take,Nat.min_eq_left (by omega),List.getElem?_take_of_lt (by omega),List.getElem?_eq_getElem (by omega)]
 rw[e];simp only[Option.some.injEq]
structure ka(l X:List (List UInt8))(k n:Nat):Prop where
 pos:0<k
 le:k<n
 nl:n≤l.length
 len:X.length=l.length
 front:X.take k=dM none (l.take n)
 back:∀j,n-1≤j→X[j]? =l[j]?
theorem ka.bQ{l X:List (List UInt8)}{k n:Nat}(h:ka l X k n)(hn:n<l.length)(hne:¬l[n]=l[n-1]):ka l (X.set k l[n]) (k+1) (n+1):=by
 have h1:=h.le;have h2:=h.pos;have h3:=h.len;refine⟨by omega,by omega,hn,by rw[List.length_set];exact h.len,?_,fun j hj=>?_⟩
 ·rw[py (by omega) hn,if_neg hne,←h.front,List.take_succ_eq_append_getElem (by rw[List.length_set];omega),List.getElem_set_self,List.take_set_of_le (Nat.le_refl _)]
 ·rw[List.getElem?_set_ne (by omega)];exact h.back j (by omega)
theorem ka.drop{l X:List (List UInt8)}{k n:Nat}(h:ka l X k n)(hn:n<l.length)(he:l[n]=l[n-1]):ka l X k (n+1):=by
 have h1:=h.le;have h2:=h.pos;refine⟨h2,by omega,hn,h.len,?_,fun j hj=>h.back j (by omega)⟩;rw[py (by omega) hn,if_pos he,List.append_nil];exact h.front
theorem BL{l:List (List UInt8)}{i:Nat}(h0:0<i)(hi:i<l.length)(hf:dM none (l.take i)=l.take i)(he:l[i]=l[i-1]):ka l l i (i+1):=
 ⟨h0,by omega,hi,rfl,by rw[py h0 hi,if_pos he,List.append_nil,hf],fun j hj=>rfl⟩
theorem wy{l:List (List UInt8)}(h:l.length<2):dM none l=l:=by
 match l,h with
 |[],_=>rfl
 |[x],_=>rfl
set_option maxHeartbeats 2000000 in
theorem Bo(l:List (List UInt8))(hl:l.length≤1000000):ae Tryz.prog 324 [.c (.rw 0)] [.row 1 (List UInt8) Go.AM.encS l] (Rt (.c (.rw 1)) [.dead,.row 1 (List UInt8) Go.AM.encS (dM none l)]):=by
 refine ao (n:=61) (n0:=1) tabOk Tryz.call324 Tryz.func324 ?_;intro hb;(conv=>whnf);refine dec (fun h1=>?_) (fun h1=>?_)
 ·have h1:(l.length:Int)<2:=h1;rw[wy (by omega)];(conv=>whnf);exact rx [] [.same 0,.same 0]
 have h1:¬(l.length:Int)<2:=h1;(conv=>whnf);refine lp Nat (fun i=>⟨[(0,.c (.rw 0)),(3,.c (.int .i64 i))],[.row 1 (List UInt8) Go.AM.encS l]⟩) (fun i=>((0<i∧i≤l.length)∧dM none (l.take i)=l.take i)∧True) (fun i=>l.length-i) 1 [] [.same 0] ⟨⟨⟨by decide,by omega⟩,wy (by rw[List.length_take];omega)⟩,trivial⟩ ?_ (fun i hi=>?_)
 ·repeat' first|exact trivial|exact rfl|refine And.intro ?_ ?_
 obtain⟨⟨⟨hi0,hi⟩,hf⟩,-⟩:=hi;(conv=>whnf);refine dec (fun h2=>?_) (fun h2=>?_)
 ·have hlt:i<l.length:=by have h2:(i:Int)<l.length:=h2;omega
  have hst:=py hi0 hlt;have hii:l[i]? =some l[i]:=List.getElem?_eq_getElem hlt;have hij:l[i-1]? =some l[i-1]:=List.getElem?_eq_getElem (by omega);have hs2:=BL hi0 hlt hf;(conv=>whnf);refine⟨false,.grow,(.l [0,1,2,3,4,5,6,7,8,9]),by kernel_rfl,.inl ?_⟩;(conv=>whnf);refine⟨i,⟨rfl,hlt⟩,?_⟩;(conv=>whnf);refine⟨l[i],hii,?_⟩;(conv=>whnf);refine⟨i64 (by omega) (by omega),?_⟩;(conv=>whnf);refine⟨i-1,⟨by omega,by omega⟩,?_⟩;(conv=>whnf);refine⟨l[i-1],hij,?_⟩;(conv=>whnf);refine dec (fun h3=>?_) (fun h3=>?_)
  ·have hs2:=hs2 h3;(conv=>whnf);refine⟨i,l.length,rfl,by omega,by omega,?_⟩;(conv=>whnf);refine lp (Nat×Nat×List (List UInt8)) (fun|(k,j,X)=>⟨[(0,.c (.rw 0)),(3,.c (.int .i64 k)),(4,.c (.sw 1 0 i (l.length-i))),(5,.c (.int .i64 j))],[.row 1 (List UInt8) Go.AM.encS X]⟩) (fun x=>(1≤x.2.1∧ka l x.2.2 x.1 (i+x.2.1))∧True) (fun x=>l.length-x.2.1) (i,1,l) [] [.same 0] ⟨⟨Nat.le_refl _,hs2⟩,trivial⟩ ?_ (fun x hx=>?_)
   ·repeat' first|exact trivial|exact rfl|refine And.intro ?_ ?_
   obtain⟨k,j,X⟩:=x;obtain⟨⟨hj1,hx⟩,-⟩:=hx;dsimp only at hj1 hx;have g1:=hx.le;have g2:=hx.nl;have g3:=hx.len;have g4:=hx.pos;have hpl:((X.drop i).take (l.length-i)).length=l.length-i:=by rw[List.length_take,List.length_drop];omega
   (conv=>whnf);refine dec (fun h4=>?_) (fun h4=>?_)
   ·have hjl:i+j<l.length:=by have h4:(j:Int)<((X.drop i).take (l.length-i)).length:=h4;rw[hpl]at h4;omega
    have e1:X[i+j]? =some l[i+j]:=by rw[hx.back _ (by omega),List.getElem?_eq_getElem hjl]
    have e2:X[i+(j-1)]? =some l[i+j-1]:=by rw[show i+(j-1)=i+j-1 by omega,hx.back _ (by omega),List.getElem?_eq_getElem (by omega)]
    have hk:=hx.bQ hjl;have hd:=hx.drop hjl;(conv=>whnf);refine⟨false,.grow,(.l [0,1,2,3,4,5,6,7,8,9]),by kernel_rfl,.inl ?_⟩;(conv=>whnf);refine⟨j,⟨rfl,by omega⟩,?_⟩;(conv=>whnf);refine⟨l[i+j],e1,?_⟩;(conv=>whnf);refine⟨i64 (by omega) (by omega),?_⟩;(conv=>whnf);refine⟨j-1,⟨by omega,by omega⟩,?_⟩;(conv=>whnf);refine⟨l[i+j-1],e2,?_⟩;(conv=>whnf);refine av (fun h5=>?_) (fun h5=>?_)
    ·(conv=>whnf);refine⟨j,⟨rfl,by omega⟩,?_⟩;(conv=>whnf);refine⟨l[i+j],e1,?_⟩;(conv=>whnf);refine⟨k,⟨rfl,by omega⟩,?_⟩;(conv=>whnf);refine⟨_,l[i+j],List.getElem?_eq_getElem (by omega),⟨Nat.le_refl _,rfl⟩,?_⟩;repeat'((conv=>whnf);refine I6 ?_)
     refine ag (k+1,j+1,X.set k l[i+j]) [] [.same 0] ⟨⟨by show 1≤j+1;omega,hk h5⟩,trivial⟩ (by simp only[];omega) ?_;repeat' first|exact trivial|exact rfl|refine And.intro ?_ ?_
    ·repeat'((conv=>whnf);refine I6 ?_)
     refine ag (k,j+1,X) [] [.same 0] ⟨⟨by show 1≤j+1;omega,hd h5⟩,trivial⟩ (by simp only[];omega) ?_;repeat' first|exact trivial|exact rfl|refine And.intro ?_ ?_
   ·have hjl:i+j=l.length:=by have h4:¬(j:Int)<((X.drop i).take (l.length-i)).length:=h4;rw[hpl]at h4;omega
    have hfr:=hx.front;rw[hjl,List.take_length]at hfr;(conv=>whnf);refine⟨k,X.length,rfl,by omega,by omega,?_⟩;(conv=>whnf);have hrl:(X.take k++(List.replicate (X.length-k) ([]:List UInt8)++X.drop (k+(X.length-k)))).length=X.length:=by simp;omega
    refine⟨[],rfl,by omega,?_⟩;(conv=>whnf);refine⟨0,k,rfl,rfl,⟨Nat.zero_le _,by rw[hrl];omega⟩,?_⟩;(conv=>whnf)
    have he:((X.take k++(List.replicate (X.length-k) ([]:List UInt8)++X.drop (k+(X.length-k)))).drop 0).take (k-0)=dM none l:=by
     rw[List.drop_zero,Nat.sub_zero,List.take_append_of_le_length (by rw[List.length_take];omega),List.take_take,Nat.min_self];exact hfr
    refine rt [] [.same 0,.cut 1 0 0 (k-0)] ?_ rfl ⟨rfl,rfl⟩;repeat' first|exact trivial|exact rfl|refine And.intro ?_ ?_
    ·omega
    ·rw[he]
  ·have hne:¬l[i]=l[i-1]:=h3;rw[if_neg hne]at hst;repeat'((conv=>whnf);refine I6 ?_)
   refine ag (i+1) [] [.same 0] ⟨⟨⟨Nat.succ_pos _,hlt⟩,by rw[hst,hf,List.take_succ_eq_append_getElem hlt]⟩,trivial⟩ (by simp only[];omega) ?_;repeat' first|exact trivial|exact rfl|refine And.intro ?_ ?_
 ·obtain rfl:i=l.length:=by have h2:¬(i:Int)<l.length:=h2;omega
  rw[List.take_length]at hf;rw[hf];(conv=>whnf);exact rx [] [.same 0,.same 0]
end Go.Nest
end
section
namespace Go.Nest
open Go Go.AM Go.Proofs
open Go.Proofs.YtpechfcbnoggfaaGreatDoor (tab tabOk)
set_option maxRecDepth 4000
def fT(q:List UInt8):Fi:=⟨q,0,0,0⟩
theorem se:∀(l:List (List UInt8)) (p:Option (List UInt8)),dM p l=gw p (l.map fT)
 |[],p=>rfl
 |x::l,p=>by
  rw[List.map_cons,dM,gw];by_cases h:p=some x
  ·rw[if_pos h.symm,if_pos (show p=some (fT x).path from h),h];exact se l (some x)
  ·rw[if_neg (Ne.symm h),if_neg (show¬p=some (fT x).path from h),se l (some x)];rfl
theorem GH(l:List (List UInt8)):Wk ((hY l).map fT):=by
 unfold Wk;rw[List.pairwise_map]
 have := List.pairwise_mergeSort (le := fun x y => !aK y x) (fun a b c h1 h2=>by
  have h1:aK b a=false:=by simpa using h1
  have h2:aK c b=false:=by simpa using h2
  have:=le_trans' (x:=a) (y:=b) (z:=c) h1 h2;simpa using this) (fun a b=>by
  rcases jr a b with h|h|h
  ·simp[lB h]
  ·subst h;simp[mI]
  ·simp[lB h]) l
 exact this.imp fun{a b} h=>show aK b a=false by simpa using h
theorem uI(ls:List (List Fi)):dM none (hY (ls.flatten.map (·.path)))=eY ls:=by
 rw[se];obtain⟨a1,a2⟩:=wA (GH (ls.flatten.map (·.path)));obtain⟨b1,b2⟩:=wA (Dk ls.flatten);unfold eY;refine zg a1 b1 fun q=>?_;rw[a2,b2];constructor
 ·rintro⟨f,hf,rfl⟩;obtain⟨x,hx,rfl⟩:=List.mem_map.1 hf;obtain⟨g,hg,rfl⟩:=List.mem_map.1 ((List.mergeSort_perm _ _).mem_iff.1 hx);exact⟨g,(xA _).mem_iff.2 hg,rfl⟩
 ·rintro⟨f,hf,rfl⟩;exact⟨fT f.path,List.mem_map.2 ⟨f.path,(List.mergeSort_perm _ _).mem_iff.2 (List.mem_map.2 ⟨f,(xA _).mem_iff.1 hf,rfl⟩),rfl⟩,rfl⟩
set_option maxHeartbeats 2000000 in
theorem Hh(ls:List (List Fi))(hn:ls.flatten.length≤1000)(hp:∀l∈ls,∀f∈l,f.path.length≤4000000):ae Tryz.prog 276 [.c (.bs 1 (List Fi) (bq 4 aw) ls)] [] (Rt (.c (.rw 0)) [.row 1 (List UInt8) encS (eY ls)]):=by
 rw[←uI]
 have hall:∀x∈ls.flatten.map (·.path),x.length≤4000000:=fun x hx=>by
  obtain⟨f,hf,rfl⟩:=List.mem_map.1 hx;obtain⟨l,h1,h2⟩:=List.mem_flatten.1 hf;exact hp l h1 f h2
 have hal:(ls.flatten.map (·.path)).length≤1000:=by rw[List.length_map];exact hn
 refine ao (n:=31) (n0:=0) tabOk Tryz.call276 Tryz.func276 ?_;intro hb;have hb:ls.length≤9223372036854775807:=hb.1.1;(conv=>whnf);refine lp Nat (fun i=>⟨[(3,.c (.rw 0)),(8,.c (.bs 1 (List Fi) (bq 4 aw) ls)),(9,.c (.int .i64 ls.length)),(10,.c (.int .i64 i))],[.row 1 (List UInt8) encS ((ls.take i).flatten.map (·.path))]⟩) (fun i=>i≤ls.length∧True) (fun i=>ls.length-i) 0 [] [.new] ⟨Nat.zero_le _,trivial⟩ ?_ (fun i hi=>?_)
 ·repeat' first|exact trivial|exact rfl|refine And.intro ?_ ?_
 obtain⟨hi,-⟩:=hi;(conv=>whnf);refine dec (fun h4=>?_) (fun h4=>?_)
 ·have hlt:i<ls.length:=by have h4:(i:Int)<ls.length:=h4;omega
  have hiy:ls[i]? =some ls[i]:=List.getElem?_eq_getElem hlt
  have hnx:(ls.take (i+1)).flatten.map (·.path)=(ls.take i).flatten.map (·.path)++ls[i].map (·.path):=by
   rw[List.take_succ_eq_append_getElem hlt,List.flatten_append,List.map_append];simp
  have hle:((ls.take i).flatten.map (·.path)).length+ls[i].length≤1000:=by
   have h1:((ls.take (i+1)).flatten.map (·.path)).length≤1000:=by
    rw[List.length_map];refine Nat.le_trans ?_ hn;conv=>rhs;rw[←List.take_append_drop (i+1) ls]
    rw[List.flatten_append,List.length_append];omega
   rw[hnx]at h1;simp only[List.length_append,List.length_map]at h1⊢;omega
  generalize ls[i]=l at hiy hnx hle;generalize (ls.take i).flatten.map (·.path)=out at hnx hle⊢;(conv=>whnf);refine⟨i,l,rfl,hiy,?_⟩;(conv=>whnf);refine lp Nat (fun k=>⟨[(3,.c (.rw 0)),(8,.c (.bs 1 (List Fi) (bq 4 aw) ls)),(9,.c (.int .i64 ls.length)),(10,.c (.int .i64 i)),(14,.c (.bs 4 Fi aw l)),(15,.c (.int .i64 l.length)),(16,.c (.int .i64 k))],[.row 1 (List UInt8) encS (out++(l.take k).map (·.path))]⟩) (fun k=>k≤l.length∧True) (fun k=>l.length-k) 0 [] [.same 0] ⟨Nat.zero_le _,trivial⟩ ?_ (fun k hk=>?_)
  ·rw[List.take_zero,List.map_nil,List.append_nil];repeat' first|exact trivial|exact rfl|refine And.intro ?_ ?_
  obtain⟨hk,-⟩:=hk;(conv=>whnf);refine dec (fun h5=>?_) (fun h5=>?_)
  ·have hkt:k<l.length:=by have h5:(k:Int)<l.length:=h5;omega
   have hky:l[k]? =some l[k]:=List.getElem?_eq_getElem hkt
   have hst:out++(l.take (k+1)).map (·.path)=(out++(l.take k).map (·.path))++[l[k].path]:=by
    rw[List.take_succ_eq_append_getElem hkt,List.map_append,List.append_assoc];rfl
   have hcl:(out++(l.take k).map (·.path)).length≤1000:=by
    rw[List.length_append,List.length_map,List.length_take];omega
   generalize l[k]=f at hky hst;generalize out++(l.take k).map (·.path)=cur at hst hcl⊢;(conv=>whnf);refine⟨k,f,rfl,hky,?_⟩;(conv=>whnf);refine⟨[f.path],rfl,?_⟩;(conv=>whnf);refine⟨_,_,rfl,rfl,(by simp only[List.length_append,List.length_cons,List.length_nil];omega),?_⟩;repeat'((conv=>whnf);refine I6 ?_)
   refine ag (k+1) [] [.same 3] ⟨hkt,trivial⟩ (by simp only[];omega) ?_;rw[hst];repeat' first|exact trivial|exact rfl|refine And.intro ?_ ?_
  ·obtain rfl:k=l.length:=by have h5:¬(k:Int)<l.length:=h5;omega
   rw[List.take_length,←hnx];repeat'((conv=>whnf);refine I6 ?_)
   refine ag (i+1) [] [.same 0] ⟨hlt,trivial⟩ (by simp only[];omega) ?_;repeat' first|exact trivial|exact rfl|refine And.intro ?_ ?_
 ·obtain rfl:i=ls.length:=by have h4:¬(i:Int)<ls.length:=h4;omega
  rw[List.take_length];have p1:=Gs _ hall (Nat.le_trans hal (by decide));have p2:=Bo (hY (ls.flatten.map (·.path))) (by unfold hY;rw[List.length_mergeSort];exact Nat.le_trans hal (by decide));generalize ls.flatten.map (·.path)=all at p1 p2⊢;(conv=>whnf);refine cl [] [0] (p1) ?_;(conv=>whnf);refine cl [] [0] (p2) ?_;(conv=>whnf);exact rx [] [.same 1]
end Go.Nest
end
