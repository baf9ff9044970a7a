/- part -/
import Derived.Test.YtpechfcbnoggfaaGreatDoorLinesSpec
import Derived.Test.YtpechfcbnoggfaaGreatDoorLcs
namespace Go.NB.L
theorem at_mem{d:List (Nat×Nat)}{k p:Nat}(h:at_ d k=p):(k,p)∈d:=by
 unfold at_ at h;split at h
 ·rename_i u c;have a:=List.find?_some c;have e:=List.mem_of_find?_eq_some c;simp at a;have b:u.2=p:=by omega
  obtain⟨f,g⟩:=u;simp at a b;subst a b;exact e
 ·omega
def eH(a:List (Nat×Nat)):Prop:=a.Pairwise fun p q=>p.1<q.1∧p.2<q.2
theorem eH.lt{a:List (Nat×Nat)}(h:eH a){u v:Nat×Nat}(e:u∈a)(hv:v∈a)(hl:u.1<v.1):u.2<v.2:=by
 induction a with
 |nil=>cases e
 |cons w a ih=>
  obtain⟨d,f⟩:=List.pairwise_cons.1 h;rcases List.mem_cons.1 e with b|hu'<;>rcases List.mem_cons.1 hv with c|hv'
  ·rw[b,c]at hl;omega
  ·rw[b];exact(d v hv').2
  ·have:=(d u hu').1;rw[c]at hl;omega
  ·exact ih f hu' hv'
abbrev Ls:=List (List UInt8)
def mix(old one a:Ls):Option Ls:=if old=one∨one=a then some a else if old=a then some one else none
def cut(l:Ls)(i n:Nat):Ls:=(l.take n).drop i
def heldFrom(x y:List (Nat×Nat))(len n:Nat):List (Nat×Nat×Nat):=
 (List.range' n (len-n)).filterMap fun n=>if 0≤at_ x n∧0≤at_ y n then some (n,(at_ x n).toNat,(at_ y n).toNat)else none
def go(base a b:Ls):List (Nat×Nat×Nat)→Nat→Nat→Nat→Option Ls
 |[],i,j,k=>mix (cut base i base.length) (cut a j a.length) (cut b k b.length)
 |(n,p,q)::d,i,j,k=>
  match mix (cut base i n) (cut a j p) (cut b k q)with
  |none=>none
  |some c=>(go base a b d (n+1) (p+1) (q+1)).map fun r=>c++base[n]?.toList++r
def merge(base a b:Ls):Option Ls:=go base a b (heldFrom (pairs base a 0 0) (pairs base b 0 0) base.length 0) 0 0 0
def rest(base a b:Ls)(n i j k:Nat):Option Ls:=
 if n≤base.length then go base a b (heldFrom (pairs base a 0 0) (pairs base b 0 0) base.length n) i j k else some []
theorem HK(base a b:Ls):rest base a b 0 0 0 0=merge base a b:=by unfold rest;rw[if_pos (by omega)];rfl
theorem yP(x y:List (Nat×Nat))(len n:Nat)(h:n<len):heldFrom x y len n=
  (if 0≤at_ x n∧0≤at_ y n then(n,(at_ x n).toNat,(at_ y n).toNat)::heldFrom x y len (n+1)else heldFrom x y len (n+1)):=by
 unfold heldFrom;rw[show len-n=(len-(n+1))+1 by omega,List.range'_succ,List.filterMap_cons];by_cases a:0≤at_ x n∧0≤at_ y n
 ·rw[if_pos a,if_pos a]
 ·rw[if_neg a,if_neg a]
theorem HJ{base a b:Ls}{n i j k:Nat}(h:n<base.length)(hc:at_ (pairs base a 0 0) n<0∨at_ (pairs base b 0 0) n<0):rest base a b n i j k=rest base a b (n+1) i j k:=by
 unfold rest;rw[if_pos (by omega),if_pos (by omega),yP _ _ _ _ h,if_neg (by omega)]
theorem AS{base a b:Ls}{n i j k p q:Nat}(h:n<base.length)(d:at_ (pairs base a 0 0) n=p)(hq:at_ (pairs base b 0 0) n=q):
  rest base a b n i j k=match mix (cut base i n) (cut a j p) (cut b k q)with
   |none=>none
   |some c=>(rest base a b (n+1) (n+1) (p+1) (q+1)).map fun r=>c++base[n]?.toList++r:=by
 unfold rest;rw[if_pos (by omega),if_pos (by omega),yP _ _ _ _ h,if_pos ⟨by omega,by omega⟩,go,d,hq];simp only[Int.toNat_natCast]
theorem rest_end{base a b:Ls}{i j k:Nat}:rest base a b base.length i j k=mix (cut base i base.length) (cut a j a.length) (cut b k b.length):=by
 unfold rest heldFrom;rw[if_pos (by omega),Nat.sub_self];rfl
theorem AT{base a b:Ls}{i j k:Nat}:rest base a b (base.length+1) i j k=some []:=by
 unfold rest;rw[if_neg (by omega)]
theorem qx(l:Ls)(i n:Nat)(h:n≤l.length):(cut l i n).length=n-i:=by
 unfold cut;rw[List.length_drop,List.length_take];omega
theorem ru{old one a:Ls}(h:old=one∨one=a):mix old one a=some a:=if_pos h
theorem zX{old one a:Ls}(h:¬(old=one∨one=a))(h2:old=a):mix old one a=some one:=by unfold mix;rw[if_neg h,if_pos h2]
theorem zW{old one a:Ls}(h:¬(old=one∨one=a))(h2:¬old=a):mix old one a=none:=by unfold mix;rw[if_neg h,if_neg h2]
theorem I0{base a b out:Ls}{n i j k p q:Nat}{c:Ls}(d:merge base a b=(rest base a b n i j k).map fun r=>out++r)(h:n<base.length)(e:at_ (pairs base a 0 0) n=p)(hq:at_ (pairs base b 0 0) n=q)
  (hm:mix (cut base i n) (cut a j p) (cut b k q)=some c):merge base a b=(rest base a b (n+1) (n+1) (p+1) (q+1)).map fun r=>((out++c)++[base[n]])++r:=by
 rw[d,AS h e hq,hm];simp only[Option.map_map];congr 1
 funext r;simp[h]
theorem step_end{base a b out:Ls}{i j k i' e f:Nat}{c:Ls}(d:merge base a b=(rest base a b base.length i j k).map fun r=>out++r)
  (hm:mix (cut base i base.length) (cut a j a.length) (cut b k b.length)=some c):merge base a b=(rest base a b (base.length+1) i' e f).map fun r=>(out++c)++r:=by
 rw[d,rest_end,hm,AT];simp
theorem Ee{base a b out:Ls}{n i j k p q:Nat}(c:merge base a b=(rest base a b n i j k).map fun r=>out++r)(h:n<base.length)(d:at_ (pairs base a 0 0) n=p)(hq:at_ (pairs base b 0 0) n=q)
  (hm:mix (cut base i n) (cut a j p) (cut b k q)=none):merge base a b=none:=by
 rw[c,AS h d hq,hm];rfl
theorem Ed{base a b out:Ls}{i j k:Nat}(c:merge base a b=(rest base a b base.length i j k).map fun r=>out++r)
  (hm:mix (cut base i base.length) (cut a j a.length) (cut b k b.length)=none):merge base a b=none:=by
 rw[c,rest_end,hm];rfl
end Go.NB.L
