/- part -/
import Derived.Test.YtpechfcbnoggfaaGreatDoorG10
import Derived.Test.YtpechfcbnoggfaaGreatDoorAmH
set_option linter.unusedVariables false
set_option linter.unusedSimpArgs false
section
namespace Go.Nest
open Go Go.AM
def df(l:List Int)(k:Int):Bool:=l.any fun x=>decide (x=k)
theorem eP{l:List Int}{k:Int}:df l k=true↔k∈l:=by
 unfold df;rw[List.any_eq_true];constructor
 ·rintro⟨x,a,e⟩;have e:x=k:=by simpa using e
  rw[←e];exact a
 ·intro h;exact⟨k,h,by simp⟩
inductive dK(L:List Ob):Int→Int→Prop
 |refl (id:Int):dK L id id
 |step {id j k:Int} (h:j∈(ab L id).parents) (h2:dK L j k):dK L id k
def rN:Nat→List Ob→Int→Int→Bool
 |0,_,_,_=>false
 |n+1,L,id,k=>decide (k=id)||(ab L id).parents.any fun p=>rN n L p k
theorem dK.next{L:List Ob}{id j k:Int}(h:dK L id j)(hk:k∈(ab L j).parents):dK L id k:=by
 induction h with
 |refl id=>exact .step hk (.refl k)
 |step h _ ih=>exact .step h (ih hk)
theorem Ip{L:List Ob}{j k:Int}(h:k∈(ab L j).parents):k∈dR L j:=by
 unfold dR;rw[List.mem_append,List.mem_append];exact .inr (.inr h)
theorem mw{L:List Ob}(d:ae L){j k:Int}(h:k∈(ab L j).parents):0≤k∧k<j∧k.toNat<L.length:=by
 obtain⟨a,b⟩:=vM d (Ip h);obtain⟨e,c⟩:=bJ a;exact⟨by omega,b,c⟩
theorem mr{L:List Ob}(c:ae L){j k:Int}(d:kindOf L j=3)(h:k∈(ab L j).parents):kindOf L k=3:=by
 obtain⟨a,b⟩:=bJ (l:=L) (id:=j) (by omega);have:=(c.obj (ab L j) (by rw[jg a b];exact List.getElem_mem _)).2;unfold dH at this;rw[Bool.and_eq_true,Bool.and_eq_true,List.all_eq_true,List.all_eq_true]at this;simpa using this.2.1 k h
theorem dK.kind{L:List Ob}(a:ae L){id k:Int}(h:dK L id k)(hi:kindOf L id=3):kindOf L k=3:=by
 induction h with
 |refl=>exact hi
 |step h _ ih=>exact ih (mr a hi h)
theorem dK.le{L:List Ob}(a:ae L){id k:Int}(h:dK L id k):k≤id:=by
 induction h with
 |refl=>exact Int.le_refl _
 |step h _ ih=>have:=(mw a h).2.1;omega
theorem rO{L:List Ob}(b:ae L):∀(n:Nat) (id k:Int),id.toNat<n→(rN n L id k=true↔dK L id k)
 |0,_,_,h=>absurd h (by omega)
 |n+1,id,k,h=>by
  unfold rN;rw[Bool.or_eq_true,decide_eq_true_iff,List.any_eq_true];constructor
  ·rintro(rfl|⟨p,a,c⟩)
   ·exact .refl _
   ·obtain⟨d,e,_⟩:=mw b a;exact .step a ((rO b n p k (by omega)).1 c)
  ·intro f;cases f with
   |refl=>exact .inl rfl
   |step a c=>
    obtain⟨d,e,_⟩:=mw b a;exact .inr ⟨_,a,(rO b n _ k (by omega)).2 c⟩
def aO(L:List Ob)(id:Int):List Int:=((List.range L.length).filter fun k:Nat=>rN (id.toNat+1) L id (k:Int)).map fun k:Nat=>(k:Int)
theorem ft{L:List Ob}(b:ae L){id k:Int}(hi:kindOf L id=3):k∈aO L id↔dK L id k:=by
 unfold aO;rw[List.mem_map];constructor
 ·rintro⟨n,a,rfl⟩;rw[List.mem_filter]at a;exact(rO b _ id n (Nat.lt_succ_self _)).1 a.2
 ·intro h;have d:=h.kind b hi;obtain⟨a,c⟩:=bJ (l:=L) (id:=k) (by omega);refine⟨k.toNat,List.mem_filter.2 ⟨by rw[List.mem_range];exact c,?_⟩,by omega⟩;rw[show((k.toNat:Nat):Int)=k by omega];exact(rO b _ id k (Nat.lt_succ_self _)).2 h
theorem lT{L:List Ob}{id:Int}:(aO L id).Pairwise (· < ·):=by
 unfold aO;rw[List.pairwise_map];exact((List.pairwise_lt_range (n:=L.length)).filter _).imp (fun h=>by omega)
theorem qL{L:List Ob}{id:Int}:(aO L id).length≤L.length:=by
 unfold aO;rw[List.length_map];exact Nat.le_trans (List.length_filter_le _ _) (by simp)
theorem JI{L:List Ob}(h:ae L){id:Int}(hi:kindOf L id=3){out:List Int}(hn:out.Nodup)(hm:∀k,k∈out↔dK L id k):(out.mergeSort fun x y=>decide (x≤y))=aO L id:=by
 have d:=List.mergeSort_perm out fun x y=>decide (x≤y);have i:=List.pairwise_mergeSort (le:=fun x y:Int=>decide (x≤y)) (fun a b c f g=>by simp at*;omega) (fun a b=>by simp;omega) out;refine qf ?_ lT fun x=>by rw[d.mem_iff,hm,ft h hi]
 have e:(out.mergeSort fun x y=>decide (x≤y)).Nodup:=d.nodup_iff.2 hn;refine(i.and e).imp fun{x y} ⟨f,g⟩=>?_;have:x≤y:=by simpa using f
 omega
def b7(L:List Ob)(id:Int):List Int×Int:=if kindOf L id=3 then(aO L id,0)else([],9)
def dv(L:List Ob)(a b:Int):Bool:=df (b7 L b).1 a
def kf(L:List Ob)(a b:Int):List Int:=(aO L a).filter fun k=>df (aO L b) k
def Ce(L:List Ob)(c:List Int):List Int:=c.filter fun k=> !c.any fun m=>decide (m≠k)&&dv L k m
def dp(L:List Ob)(a b:Int):List Int×Int:=if kindOf L a≠3 then([],9)else if kindOf L b≠3 then([],9)else(Ce L (kf L a b),0)
end Go.Nest
end
section
namespace Go.Nest
open Go Go.AM
theorem iR:∀(n:Nat) {l:List Int},l.Nodup→(∀k∈l,0≤k∧k<n)→l.length≤n
 |0,l,_,h=>by
  cases l with
  |nil=>simp
  |cons x r=>have:=h x (by simp);omega
 |n+1,l,b,h=>by
  by_cases c:(n:Int)∈l
  ·have := iR n (b.erase (n : Int)) (fun k a=>by
    obtain⟨d,f⟩:=(b.mem_erase_iff).1 a;have:=h k f;omega)
   rw[List.length_erase_of_mem c]at this;omega
  ·have := iR n b (fun k a=>by
    have d:=h k a;have:k≠n:=fun e=>c (e▸a);omega)
   omega
structure gN(L:List Ob)(id:Int)(out:List Int)(i:Nat):Prop where
 le:i≤out.length
 nd:out.Nodup
 mem:id∈out
 anc:∀k∈out,dK L id k
 clos:∀x∈out.take i,∀k∈(ab L x).parents,k∈out
theorem gN.start{L:List Ob}{id:Int}:gN L id [id] 0:=⟨Nat.zero_le _,by simp,by simp,fun k a=>by rw[List.mem_singleton]at a;subst a;exact .refl _,fun x b=>by cases b⟩
theorem gN.len{L:List Ob}(a:ae L){id:Int}(hi:kindOf L id=3){out:List Int}{i:Nat}(h:gN L id out i):out.length≤L.length:=
 iR _ h.nd fun k b=>by
  have:=(h.anc k b).kind a hi;obtain⟨c,d⟩:=bJ (l:=L) (id:=k) (by omega);omega
theorem gN.add{L:List Ob}{id:Int}{out:List Int}{i:Nat}(h:gN L id out i){k:Int}(hk:k∉out)(d:dK L id k):gN L id (out++[k]) i:=by
 refine⟨by rw[List.length_append];have:=h.le;omega,?_,List.mem_append_left _ h.mem,fun x hx=>?_,fun x hx j f=>?_⟩
 ·rw[List.nodup_append];exact⟨h.nd,by simp,fun a c b hb=>by rw[List.mem_singleton]at hb;intro e;exact hk (by rw[←hb,←e];exact c)⟩
 ·rcases List.mem_append.1 hx with hx|hx
  ·exact h.anc x hx
  ·rw[List.mem_singleton]at hx;subst hx;exact d
 ·rw[List.take_append_of_le_length h.le]at hx;exact List.mem_append_left _ (h.clos x hx j f)
theorem gN.next{L:List Ob}{id:Int}{out:List Int}{i:Nat}(h:gN L id out i){x:Int}(d:out[i]? =some x)(hc:∀k∈(ab L x).parents,k∈out):gN L id out (i+1):=by
 obtain⟨a,e⟩:=List.getElem?_eq_some_iff.1 d;refine⟨a,h.nd,h.mem,h.anc,fun y b k c=>?_⟩;rw[List.take_succ_eq_append_getElem a,List.mem_append,List.mem_singleton,e]at b;rcases b with b|rfl
 ·exact h.clos y b k c
 ·exact hc k c
theorem DO{L:List Ob}{out:List Int}(hc:∀x∈out,∀k∈(ab L x).parents,k∈out){id k:Int}(b:dK L id k):id∈out→k∈out:=by
 induction b with
 |refl=>exact fun h=>h
 |step a _ ih=>exact fun h=>ih (hc _ h _ a)
theorem gN.stop{L:List Ob}{id:Int}{out:List Int}{i:Nat}(h:gN L id out i)(hi:out.length≤i)(k:Int):k∈out↔dK L id k:=by
 have a:=h.clos;rw[List.take_of_length_le hi]at a;exact⟨h.anc k,fun b=>DO a b h.mem⟩
end Go.Nest
end
section
namespace Go.Nest
open Go Go.AM Go.Proofs
open Go.Proofs.YtpechfcbnoggfaaGreatDoor (tab tabOk)
set_option maxRecDepth 4000
def d21:List B:=[.dead,.dead,.dead,.dead,.dead,.dead,.dead,.dead,.dead,.dead,.dead,.dead,.dead,.dead,.dead,.dead,.dead,.dead,.dead,.dead,.dead]
def jF(s:FS):List B:=[.row 6 Ob ak s.L,.row 1 Bool aj (s.o 0),.row 1 Bool aj (s.o 1),.row 1 Bool aj (s.o 2),.row 1 Bool aj (s.o 3),.row 1 Int encI (s.b 0),.row 1 Int encI (s.b 1),.row 1 Int encI (s.b 2),.row 1 Int encI (s.b 3),.row 2 Rf bH (s.n 0),.row 2 Rf bH (s.n 1),.row 2 Rf bH (s.n 2),.row 2 Rf bH (s.n 3),.row 3 Mv cY (s.m 0),.row 3 Mv cY (s.m 1),.row 3 Mv cY (s.m 2),.row 3 Mv cY (s.m 3),.row 5 It aM (s.w 0),.row 5 It aM (s.w 1),.row 5 It aM (s.w 2),.row 5 It aM (s.w 3)]
def bu(k:Nat)(mid:List B)(s:FS):List B:= .box [.ptr 1 0,.ptr 2 0,.ptr 3 0,.ptr 4 0,.ptr 5 0,.ptr 6 0,.ptr 7 0,.ptr 8 0,.ptr 9 0]:: .box [.ptr 10 0,.rw (k+12),.rw (k+13),.rw (k+14),.rw (k+15),.rw (k+16),.rw (k+17),.rw (k+18),.rw (k+19)]:: .box [.rw (k+20),.rw (k+24)]:: .box [.ptr 10 0,.rw (k+28),.int .i64 (s.h 0)]:: .box [.rw (k+21),.rw (k+25)]:: .box [.ptr 10 0,.rw (k+29),.int .i64 (s.h 1)]:: .box [.rw (k+22),.rw (k+26)]:: .box [.ptr 10 0,.rw (k+30),.int .i64 (s.h 2)]:: .box [.rw (k+23),.rw (k+27)]:: .box [.ptr 10 0,.rw (k+31),.int .i64 (s.h 3)]:: .box [.rw (k+11)]::(mid++jF s)
abbrev aQ(s:FS):List B:=bu 0 [] s
abbrev aX(s:FS):List B:=bu 21 d21 s
def mF(k:Nat):List Nat:=[0,1,2,3,4,5,6,7,8,9,10,k+11,k+12,k+13,k+14,k+15,k+16,k+17,k+18,k+19,k+20,k+21,k+22,k+23,k+24,k+25,k+26,k+27,k+28,k+29,k+30,k+31]
def rF(k:Nat):List Rn:=[.same 0,.same 1,.same 2,.same 3,.same 4,.same 5,.same 6,.same 7,.same 8,.same 9,.same 10,.same 11,.same 12,.same 13,.same 14,.same 15,.same 16,.same 17,.same 18,.same 19,.same 20,.same 21,.same 22,.same 23,.same 24,.same 25,.same 26,.same 27,.same 28,.same 29,.same 30,.same 31,.same (k+11),.same (k+12),.same (k+13),.same (k+14),.same (k+15),.same (k+16),.same (k+17),.same (k+18),.same (k+19),.same (k+20),.same (k+21),.same (k+22),.same (k+23),.same (k+24),.same (k+25),.same (k+26),.same (k+27),.same (k+28),.same (k+29),.same (k+30),.same (k+31)]
def rP(f:Nat→Nat):List Rn:=[.same 0,.same 1,.same 2,.same 3,.same 4,.same 5,.same 6,.same 7,.same 8,.same 9,.same 10,.same 11,.same 12,.same 13,.same 14,.same 15,.same 16,.same 17,.same 18,.same 19,.same 20,.same 21,.same 22,.same 23,.same 24,.same 25,.same 26,.same 27,.same 28,.same 29,.same 30,.same 31,.same (f 11),.same (f 12),.same (f 13),.same (f 14),.same (f 15),.same (f 16),.same (f 17),.same (f 18),.same (f 19),.same (f 20),.same (f 21),.same (f 22),.same (f 23),.same (f 24),.same (f 25),.same (f 26),.same (f 27),.same (f 28),.same (f 29),.same (f 30),.same (f 31)]
structure lM(l:List A):Prop where
 m:∀fr ah ρ,mi fr ah ρ l l
structure j4(x:A):Prop where
 m:∀ah ρ,mA (fun _=>false) ah ρ x x
 r:∀σ,eU σ x=x
 c:fF x=true
theorem lE{f:FuncId}{rest:List A}{X:A}{s:FS}{r:Nat}(hr:r<4){L:List Ob}{l:List It}{h:Int}(b:ai Tryz.prog f (.c (.ptr 0 0)::rest) [.box [.ptr 1 0,.rw 3,.int .i64 (s.h r)],.box [.rw 2],.row 6 Ob ak s.L,.row 5 It aM (s.w r)] (Rt X [.box [.ptr 1 0,.rw 5,.int .i64 h],.box [.rw 4],.dead,.dead,.row 6 Ob ak L,.row 5 It aM l]))(a:j4 X)(hc:lM rest:=by refine⟨fun _ _ _=>?_⟩;repeat' first|exact trivial|exact rfl|refine And.intro ?_ ?_):
  ai Tryz.prog f (.c (.ptr (3+2*r) 0)::rest) (aQ s) (Rt X (aX (s.c9 r L l h))):=by
 refine bU.frame [3+2*r,10,11,28+r] (rP fun i=>bif Nat.beq i 11 then 32 else bif Nat.beq i (28+r)then 33 else i) b ?_ rfl (a.r _) ?_ ?_
 ·rcases four hr with rfl|rfl|rfl|rfl<;>exact kg (And.intro rfl (hc.m _ _ _))
 ·rcases four hr with rfl|rfl|rfl|rfl<;>exact lA (a.m _ _)
 ·rw[a.c];rfl
theorem vR{f:FuncId}{rest:List A}{X:A}{s:FS}{r:Nat}(hr:r<4){l:List Rf}{m:List Mv}(b:ai Tryz.prog f (.c (.ptr 0 0)::rest) [.box [.rw 1,.rw 2],.row 2 Rf bH (s.n r),.row 3 Mv cY (s.m r)] (Rt X [.box [.rw 3,.rw 4],.dead,.dead,.row 2 Rf bH l,.row 3 Mv cY m]))(a:j4 X)(hc:lM rest:=by refine⟨fun _ _ _=>?_⟩;repeat' first|exact trivial|exact rfl|refine And.intro ?_ ?_):
  ai Tryz.prog f (.c (.ptr (2+2*r) 0)::rest) (aQ s) (Rt X (aX (s.gH r l m))):=by
 refine bU.frame [2+2*r,20+r,24+r] (rP fun i=>bif Nat.beq i (20+r)then 32 else bif Nat.beq i (24+r)then 33 else i) b ?_ rfl (a.r _) ?_ ?_
 ·rcases four hr with rfl|rfl|rfl|rfl<;>exact kg (And.intro rfl (hc.m _ _ _))
 ·rcases four hr with rfl|rfl|rfl|rfl<;>exact lA (a.m _ _)
 ·rw[a.c];rfl
theorem vQ{f:FuncId}{rest:List A}{X:A}{s:FS}{o:Nat→List Bool}(b:ai Tryz.prog f (.c (.ptr 0 0)::rest) [.box [.ptr 1 0,.rw 3,.rw 4,.rw 5,.rw 6,.rw 7,.rw 8,.rw 9,.rw 10],.box [.rw 2],.row 6 Ob ak s.L,.row 1 Bool aj (s.o 0),.row 1 Bool aj (s.o 1),.row 1 Bool aj (s.o 2),.row 1 Bool aj (s.o 3),.row 1 Int encI (s.b 0),.row 1 Int encI (s.b 1),.row 1 Int encI (s.b 2),.row 1 Int encI (s.b 3)] (Rt X [.box [.ptr 1 0,.rw 11,.rw 12,.rw 13,.rw 14,.rw 7,.rw 8,.rw 9,.rw 10],.box [.rw 2],.row 6 Ob ak s.L,.dead,.dead,.dead,.dead,.row 1 Int encI (s.b 0),.row 1 Int encI (s.b 1),.row 1 Int encI (s.b 2),.row 1 Int encI (s.b 3),.row 1 Bool aj (o 0),.row 1 Bool aj (o 1),.row 1 Bool aj (o 2),.row 1 Bool aj (o 3)]))(a:j4 X)(hc:lM rest:=by refine⟨fun _ _ _=>?_⟩;repeat' first|exact trivial|exact rfl|refine And.intro ?_ ?_):
  ai Tryz.prog f (.c (.ptr 1 0)::rest) (aQ s) (Rt X (aX (s.bN o))):=by
 refine bU.frame [1,10,11,12,13,14,15,16,17,18,19] (rP fun i=>bif Nat.blt 11 i&&Nat.blt i 16 then 20+i else i) b (kg (And.intro rfl (hc.m _ _ _))) rfl (a.r _) (lA (a.m _ _)) ?_;rw[a.c];rfl
theorem Ia{f:FuncId}{rest:List A}{X:A}{s:FS}{b:Nat→List Int}(d:ai Tryz.prog f (.c (.ptr 0 0)::rest) [.box [.ptr 1 0,.rw 3,.rw 4,.rw 5,.rw 6,.rw 7,.rw 8,.rw 9,.rw 10],.box [.rw 2],.row 6 Ob ak s.L,.row 1 Bool aj (s.o 0),.row 1 Bool aj (s.o 1),.row 1 Bool aj (s.o 2),.row 1 Bool aj (s.o 3),.row 1 Int encI (s.b 0),.row 1 Int encI (s.b 1),.row 1 Int encI (s.b 2),.row 1 Int encI (s.b 3)] (Rt X [.box [.ptr 1 0,.rw 3,.rw 4,.rw 5,.rw 6,.rw 11,.rw 12,.rw 13,.rw 14],.box [.rw 2],.row 6 Ob ak s.L,.row 1 Bool aj (s.o 0),.row 1 Bool aj (s.o 1),.row 1 Bool aj (s.o 2),.row 1 Bool aj (s.o 3),.dead,.dead,.dead,.dead,.row 1 Int encI (b 0),.row 1 Int encI (b 1),.row 1 Int encI (b 2),.row 1 Int encI (b 3)]))(a:j4 X)(hc:lM rest:=by refine⟨fun _ _ _=>?_⟩;repeat' first|exact trivial|exact rfl|refine And.intro ?_ ?_):
  ai Tryz.prog f (.c (.ptr 1 0)::rest) (aQ s) (Rt X (aX (s.BT b))):=by
 refine bU.frame [1,10,11,12,13,14,15,16,17,18,19] (rP fun i=>bif Nat.blt 15 i&&Nat.blt i 20 then 16+i else i) d (kg (And.intro rfl (hc.m _ _ _))) rfl (a.r _) (lA (a.m _ _)) ?_;rw[a.c];rfl
theorem Ic{f:FuncId}{rest:List A}{X:A}{s:FS}{o:Nat→List Bool}(b:ai Tryz.prog f (.c (.ptr 0 0)::rest) [.box [.ptr 1 0,.rw 3,.rw 4,.rw 5,.rw 6,.rw 7,.rw 8,.rw 9,.rw 10],.box [.rw 2],.row 6 Ob ak s.L,.row 1 Bool aj (s.o 0),.row 1 Bool aj (s.o 1),.row 1 Bool aj (s.o 2),.row 1 Bool aj (s.o 3),.row 1 Int encI (s.b 0),.row 1 Int encI (s.b 1),.row 1 Int encI (s.b 2),.row 1 Int encI (s.b 3)] (Rt X [.box [.ptr 1 0,.rw 3,.rw 4,.rw 5,.rw 6,.rw 7,.rw 8,.rw 9,.rw 10],.box [.rw 2],.row 6 Ob ak s.L,.row 1 Bool aj (o 0),.row 1 Bool aj (o 1),.row 1 Bool aj (o 2),.row 1 Bool aj (o 3),.row 1 Int encI (s.b 0),.row 1 Int encI (s.b 1),.row 1 Int encI (s.b 2),.row 1 Int encI (s.b 3)]))(a:j4 X)(hc:lM rest:=by refine⟨fun _ _ _=>?_⟩;repeat' first|exact trivial|exact rfl|refine And.intro ?_ ?_):
  ai Tryz.prog f (.c (.ptr 1 0)::rest) (aQ s) (Rt X (aX (s.bN o))):=by
 refine bU.frame [1,10,11,12,13,14,15,16,17,18,19] (rP id) b (kg (And.intro rfl (hc.m _ _ _))) rfl (a.r _) (lA (a.m _ _)) ?_;rw[a.c];rfl
theorem Ib{f:FuncId}{rest:List A}{X:A}{s:FS}{L:List Ob}(b:ai Tryz.prog f (.c (.ptr 0 0)::rest) [.box [.rw 1],.row 6 Ob ak s.L] (Rt X [.box [.rw 2],.dead,.row 6 Ob ak L]))(a:j4 X)(hc:lM rest:=by refine⟨fun _ _ _=>?_⟩;repeat' first|exact trivial|exact rfl|refine And.intro ?_ ?_):
  ai Tryz.prog f (.c (.ptr 10 0)::rest) (aQ s) (Rt X (aX (s.az L))):=by
 refine bU.frame [10,11] (rP fun i=>bif Nat.beq i 11 then 32 else i) b (kg (And.intro rfl (hc.m _ _ _))) rfl (a.r _) (lA (a.m _ _)) ?_;rw[a.c];rfl
def jI (s : FS) : List C := [.bp [.bp [.bs 6 Ob ak s.L],.bs 1 Bool aj (s.o 0),.bs 1 Bool aj (s.o 1),.bs 1 Bool aj (s.o 2),.bs 1 Bool aj (s.o 3),.bs 1 Int encI (s.b 0),.bs 1 Int encI (s.b 1),.bs 1 Int encI (s.b 2),.bs 1 Int encI (s.b 3)],
 .bp [.bs 2 Rf bH (s.n 0),.bs 3 Mv cY (s.m 0)],.bp [.bp [.bs 6 Ob ak s.L],.bs 5 It aM (s.w 0),.int .i64 (s.h 0)],
 .bp [.bs 2 Rf bH (s.n 1),.bs 3 Mv cY (s.m 1)],.bp [.bp [.bs 6 Ob ak s.L],.bs 5 It aM (s.w 1),.int .i64 (s.h 1)],
 .bp [.bs 2 Rf bH (s.n 2),.bs 3 Mv cY (s.m 2)],.bp [.bp [.bs 6 Ob ak s.L],.bs 5 It aM (s.w 2),.int .i64 (s.h 2)],
 .bp [.bs 2 Rf bH (s.n 3),.bs 3 Mv cY (s.m 3)],.bp [.bp [.bs 6 Ob ak s.L],.bs 5 It aM (s.w 3),.int .i64 (s.h 3)]]
end Go.Nest
end
