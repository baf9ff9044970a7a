/- part -/
import Derived.Test.YtpechfcbnoggfaaGreatDoorW1
import Derived.Test.YtpechfcbnoggfaaGreatDoorAmH
set_option linter.unusedVariables false
set_option linter.unusedSimpArgs false
section
namespace Go.Nest
open Go Go.AM
theorem ia:∀(n:Nat) {l:List Int},l.Nodup→(∀k∈l,0≤k∧k<n)→l.length≤n
 |0,l,_,h=>by
  cases l with
  |nil=>simp
  |cons x r=>have:=h x (by simp);omega
 |n+1,l,b,h=>by
  by_cases c:(n:Int)∈l
  ·have := ia n (b.erase (n : Int)) (fun k a=>by
    obtain⟨d,f⟩:=(b.mem_erase_iff).1 a;have:=h k f;omega)
   rw[List.length_erase_of_mem c]at this;omega
  ·have := ia n b (fun k a=>by
    have d:=h k a;have:k≠n:=fun e=>c (e▸a);omega)
   omega
structure gb(L:List Ob)(id:Int)(out:List Int)(i:Nat):Prop where
 le:i≤out.length
 nd:out.Nodup
 mem:id∈out
 anc:∀k∈out,dD L id k
 clos:∀x∈out.take i,∀k∈(aj L x).parents,k∈out
theorem gb.start{L:List Ob}{id:Int}:gb L id [id] 0:=⟨Nat.zero_le _,by simp,by simp,fun k a=>by rw[List.mem_singleton]at a;subst a;exact .refl _,fun x b=>by cases b⟩
theorem gb.len{L:List Ob}(a:ai L){id:Int}(hi:kindOf L id=3){out:List Int}{i:Nat}(h:gb L id out i):out.length≤L.length:=
 ia _ h.nd fun k b=>by
  have:=(h.anc k b).kind a hi;obtain⟨c,d⟩:=dh (l:=L) (id:=k) (by omega);omega
theorem gb.add{L:List Ob}{id:Int}{out:List Int}{i:Nat}(h:gb L id out i){k:Int}(hk:k∉out)(d:dD L id k):gb L id (out++[k]) i:=by
 refine⟨by rw[List.length_append];have:=h.le;omega,?_,List.mem_append_left _ h.mem,fun x hx=>?_,fun x hx j f=>?_⟩
 ·rw[List.nodup_append];exact⟨h.nd,by simp,fun a c b hb=>by rw[List.mem_singleton]at hb;intro e;exact hk (by rw[←hb,←e];exact c)⟩
 ·rcases List.mem_append.1 hx with hx|hx
  ·exact h.anc x hx
  ·rw[List.mem_singleton]at hx;subst hx;exact d
 ·rw[List.take_append_of_le_length h.le]at hx;exact List.mem_append_left _ (h.clos x hx j f)
theorem gb.next{L:List Ob}{id:Int}{out:List Int}{i:Nat}(h:gb L id out i){x:Int}(d:out[i]? =some x)(hc:∀k∈(aj L x).parents,k∈out):gb L id out (i+1):=by
 obtain⟨a,e⟩:=List.getElem?_eq_some_iff.1 d;refine⟨a,h.nd,h.mem,h.anc,fun y b k c=>?_⟩;rw[List.take_succ_eq_append_getElem a,List.mem_append,List.mem_singleton,e]at b;rcases b with b|rfl
 ·exact h.clos y b k c
 ·exact hc k c
theorem CZ{L:List Ob}{out:List Int}(hc:∀x∈out,∀k∈(aj L x).parents,k∈out){id k:Int}(b:dD L id k):id∈out→k∈out:=by
 induction b with
 |refl=>exact fun h=>h
 |step a _ ih=>exact fun h=>ih (hc _ h _ a)
theorem gb.stop{L:List Ob}{id:Int}{out:List Int}{i:Nat}(h:gb L id out i)(hi:out.length≤i)(k:Int):k∈out↔dD L id k:=by
 have a:=h.clos;rw[List.take_of_length_le hi]at a;exact⟨h.anc k,fun b=>CZ a b h.mem⟩
end Go.Nest
end
section
namespace Go.Nest
open Go Go.AM Go.Proofs
open Go.Proofs.YtpechfcbnoggfaaGreatDoor (tab tabOk)
set_option maxRecDepth 4000
def d21:List B:=[.dead,.dead,.dead,.dead,.dead,.dead,.dead,.dead,.dead,.dead,.dead,.dead,.dead,.dead,.dead,.dead,.dead,.dead,.dead,.dead,.dead]
def Ec(s:FS):List B:=[.row 6 Ob an s.L,.row 1 Bool af (s.o 0),.row 1 Bool af (s.o 1),.row 1 Bool af (s.o 2),.row 1 Bool af (s.o 3),.row 1 Int encI (s.b 0),.row 1 Int encI (s.b 1),.row 1 Int encI (s.b 2),.row 1 Int encI (s.b 3),.row 2 Rf bd (s.n 0),.row 2 Rf bd (s.n 1),.row 2 Rf bd (s.n 2),.row 2 Rf bd (s.n 3),.row 3 Mv cC (s.m 0),.row 3 Mv cC (s.m 1),.row 3 Mv cC (s.m 2),.row 3 Mv cC (s.m 3),.row 5 It aJ (s.w 0),.row 5 It aJ (s.w 1),.row 5 It aJ (s.w 2),.row 5 It aJ (s.w 3)]
def bC(k:Nat)(mid:List B)(s:FS):List B:= .box [.ptr 1 0,.ptr 2 0,.ptr 3 0,.ptr 4 0,.ptr 5 0,.ptr 6 0,.ptr 7 0,.ptr 8 0,.ptr 9 0]:: .box [.ptr 10 0,.rw (k+12),.rw (k+13),.rw (k+14),.rw (k+15),.rw (k+16),.rw (k+17),.rw (k+18),.rw (k+19)]:: .box [.rw (k+20),.rw (k+24)]:: .box [.ptr 10 0,.rw (k+28),.int .i64 (s.h 0)]:: .box [.rw (k+21),.rw (k+25)]:: .box [.ptr 10 0,.rw (k+29),.int .i64 (s.h 1)]:: .box [.rw (k+22),.rw (k+26)]:: .box [.ptr 10 0,.rw (k+30),.int .i64 (s.h 2)]:: .box [.rw (k+23),.rw (k+27)]:: .box [.ptr 10 0,.rw (k+31),.int .i64 (s.h 3)]:: .box [.rw (k+11)]::(mid++Ec s)
abbrev aK(s:FS):List B:=bC 0 [] s
abbrev aQ(s:FS):List B:=bC 21 d21 s
def mF(k:Nat):List Nat:=[0,1,2,3,4,5,6,7,8,9,10,k+11,k+12,k+13,k+14,k+15,k+16,k+17,k+18,k+19,k+20,k+21,k+22,k+23,k+24,k+25,k+26,k+27,k+28,k+29,k+30,k+31]
def rF(k:Nat):List Rn:=[.same 0,.same 1,.same 2,.same 3,.same 4,.same 5,.same 6,.same 7,.same 8,.same 9,.same 10,.same 11,.same 12,.same 13,.same 14,.same 15,.same 16,.same 17,.same 18,.same 19,.same 20,.same 21,.same 22,.same 23,.same 24,.same 25,.same 26,.same 27,.same 28,.same 29,.same 30,.same 31,.same (k+11),.same (k+12),.same (k+13),.same (k+14),.same (k+15),.same (k+16),.same (k+17),.same (k+18),.same (k+19),.same (k+20),.same (k+21),.same (k+22),.same (k+23),.same (k+24),.same (k+25),.same (k+26),.same (k+27),.same (k+28),.same (k+29),.same (k+30),.same (k+31)]
def rP(f:Nat→Nat):List Rn:=[.same 0,.same 1,.same 2,.same 3,.same 4,.same 5,.same 6,.same 7,.same 8,.same 9,.same 10,.same 11,.same 12,.same 13,.same 14,.same 15,.same 16,.same 17,.same 18,.same 19,.same 20,.same 21,.same 22,.same 23,.same 24,.same 25,.same 26,.same 27,.same 28,.same 29,.same 30,.same 31,.same (f 11),.same (f 12),.same (f 13),.same (f 14),.same (f 15),.same (f 16),.same (f 17),.same (f 18),.same (f 19),.same (f 20),.same (f 21),.same (f 22),.same (f 23),.same (f 24),.same (f 25),.same (f 26),.same (f 27),.same (f 28),.same (f 29),.same (f 30),.same (f 31)]
structure kS(l:List A):Prop where
 m:∀fr ah ρ,lJ fr ah ρ l l
structure jE(x:A):Prop where
 m:∀ah ρ,mA (fun _=>false) ah ρ x x
 r:∀σ,ej σ x=x
 c:eK x=true
theorem kH{f:FuncId}{rest:List A}{X:A}{s:FS}{r:Nat}(hr:r<4){L:List Ob}{l:List It}{h:Int}(b:ae Tryz.prog f (.c (.ptr 0 0)::rest) [.box [.ptr 1 0,.rw 3,.int .i64 (s.h r)],.box [.rw 2],.row 6 Ob an s.L,.row 5 It aJ (s.w r)] (Rt X [.box [.ptr 1 0,.rw 5,.int .i64 h],.box [.rw 4],.dead,.dead,.row 6 Ob an L,.row 5 It aJ l]))(a:jE X)(hc:kS rest:=by refine⟨fun _ _ _=>?_⟩;repeat' first|exact trivial|exact rfl|refine And.intro ?_ ?_):
  ae Tryz.prog f (.c (.ptr (3+2*r) 0)::rest) (aK s) (Rt X (aQ (s.db r L l h))):=by
 refine bA.frame [3+2*r,10,11,28+r] (rP fun i=>bif Nat.beq i 11 then 32 else bif Nat.beq i (28+r)then 33 else i) b ?_ rfl (a.r _) ?_ ?_
 ·rcases four hr with rfl|rfl|rfl|rfl<;>exact jc (And.intro rfl (hc.m _ _ _))
 ·rcases four hr with rfl|rfl|rfl|rfl<;>exact j5 (a.m _ _)
 ·rw[a.c];rfl
theorem u4{f:FuncId}{rest:List A}{X:A}{s:FS}{r:Nat}(hr:r<4){l:List Rf}{m:List Mv}(b:ae Tryz.prog f (.c (.ptr 0 0)::rest) [.box [.rw 1,.rw 2],.row 2 Rf bd (s.n r),.row 3 Mv cC (s.m r)] (Rt X [.box [.rw 3,.rw 4],.dead,.dead,.row 2 Rf bd l,.row 3 Mv cC m]))(a:jE X)(hc:kS rest:=by refine⟨fun _ _ _=>?_⟩;repeat' first|exact trivial|exact rfl|refine And.intro ?_ ?_):
  ae Tryz.prog f (.c (.ptr (2+2*r) 0)::rest) (aK s) (Rt X (aQ (s.iN r l m))):=by
 refine bA.frame [2+2*r,20+r,24+r] (rP fun i=>bif Nat.beq i (20+r)then 32 else bif Nat.beq i (24+r)then 33 else i) b ?_ rfl (a.r _) ?_ ?_
 ·rcases four hr with rfl|rfl|rfl|rfl<;>exact jc (And.intro rfl (hc.m _ _ _))
 ·rcases four hr with rfl|rfl|rfl|rfl<;>exact j5 (a.m _ _)
 ·rw[a.c];rfl
theorem u0{f:FuncId}{rest:List A}{X:A}{s:FS}{o:Nat→List Bool}(b:ae Tryz.prog f (.c (.ptr 0 0)::rest) [.box [.ptr 1 0,.rw 3,.rw 4,.rw 5,.rw 6,.rw 7,.rw 8,.rw 9,.rw 10],.box [.rw 2],.row 6 Ob an s.L,.row 1 Bool af (s.o 0),.row 1 Bool af (s.o 1),.row 1 Bool af (s.o 2),.row 1 Bool af (s.o 3),.row 1 Int encI (s.b 0),.row 1 Int encI (s.b 1),.row 1 Int encI (s.b 2),.row 1 Int encI (s.b 3)] (Rt X [.box [.ptr 1 0,.rw 11,.rw 12,.rw 13,.rw 14,.rw 7,.rw 8,.rw 9,.rw 10],.box [.rw 2],.row 6 Ob an s.L,.dead,.dead,.dead,.dead,.row 1 Int encI (s.b 0),.row 1 Int encI (s.b 1),.row 1 Int encI (s.b 2),.row 1 Int encI (s.b 3),.row 1 Bool af (o 0),.row 1 Bool af (o 1),.row 1 Bool af (o 2),.row 1 Bool af (o 3)]))(a:jE X)(hc:kS rest:=by refine⟨fun _ _ _=>?_⟩;repeat' first|exact trivial|exact rfl|refine And.intro ?_ ?_):
  ae Tryz.prog f (.c (.ptr 1 0)::rest) (aK s) (Rt X (aQ (s.cn o))):=by
 refine bA.frame [1,10,11,12,13,14,15,16,17,18,19] (rP fun i=>bif Nat.blt 11 i&&Nat.blt i 16 then 20+i else i) b (jc (And.intro rfl (hc.m _ _ _))) rfl (a.r _) (j5 (a.m _ _)) ?_;rw[a.c];rfl
theorem GZ{f:FuncId}{rest:List A}{X:A}{s:FS}{b:Nat→List Int}(d:ae Tryz.prog f (.c (.ptr 0 0)::rest) [.box [.ptr 1 0,.rw 3,.rw 4,.rw 5,.rw 6,.rw 7,.rw 8,.rw 9,.rw 10],.box [.rw 2],.row 6 Ob an s.L,.row 1 Bool af (s.o 0),.row 1 Bool af (s.o 1),.row 1 Bool af (s.o 2),.row 1 Bool af (s.o 3),.row 1 Int encI (s.b 0),.row 1 Int encI (s.b 1),.row 1 Int encI (s.b 2),.row 1 Int encI (s.b 3)] (Rt X [.box [.ptr 1 0,.rw 3,.rw 4,.rw 5,.rw 6,.rw 11,.rw 12,.rw 13,.rw 14],.box [.rw 2],.row 6 Ob an s.L,.row 1 Bool af (s.o 0),.row 1 Bool af (s.o 1),.row 1 Bool af (s.o 2),.row 1 Bool af (s.o 3),.dead,.dead,.dead,.dead,.row 1 Int encI (b 0),.row 1 Int encI (b 1),.row 1 Int encI (b 2),.row 1 Int encI (b 3)]))(a:jE X)(hc:kS rest:=by refine⟨fun _ _ _=>?_⟩;repeat' first|exact trivial|exact rfl|refine And.intro ?_ ?_):
  ae Tryz.prog f (.c (.ptr 1 0)::rest) (aK s) (Rt X (aQ (s.Ba b))):=by
 refine bA.frame [1,10,11,12,13,14,15,16,17,18,19] (rP fun i=>bif Nat.blt 15 i&&Nat.blt i 20 then 16+i else i) d (jc (And.intro rfl (hc.m _ _ _))) rfl (a.r _) (j5 (a.m _ _)) ?_;rw[a.c];rfl
theorem G1{f:FuncId}{rest:List A}{X:A}{s:FS}{o:Nat→List Bool}(b:ae Tryz.prog f (.c (.ptr 0 0)::rest) [.box [.ptr 1 0,.rw 3,.rw 4,.rw 5,.rw 6,.rw 7,.rw 8,.rw 9,.rw 10],.box [.rw 2],.row 6 Ob an s.L,.row 1 Bool af (s.o 0),.row 1 Bool af (s.o 1),.row 1 Bool af (s.o 2),.row 1 Bool af (s.o 3),.row 1 Int encI (s.b 0),.row 1 Int encI (s.b 1),.row 1 Int encI (s.b 2),.row 1 Int encI (s.b 3)] (Rt X [.box [.ptr 1 0,.rw 3,.rw 4,.rw 5,.rw 6,.rw 7,.rw 8,.rw 9,.rw 10],.box [.rw 2],.row 6 Ob an s.L,.row 1 Bool af (o 0),.row 1 Bool af (o 1),.row 1 Bool af (o 2),.row 1 Bool af (o 3),.row 1 Int encI (s.b 0),.row 1 Int encI (s.b 1),.row 1 Int encI (s.b 2),.row 1 Int encI (s.b 3)]))(a:jE X)(hc:kS rest:=by refine⟨fun _ _ _=>?_⟩;repeat' first|exact trivial|exact rfl|refine And.intro ?_ ?_):
  ae Tryz.prog f (.c (.ptr 1 0)::rest) (aK s) (Rt X (aQ (s.cn o))):=by
 refine bA.frame [1,10,11,12,13,14,15,16,17,18,19] (rP id) b (jc (And.intro rfl (hc.m _ _ _))) rfl (a.r _) (j5 (a.m _ _)) ?_;rw[a.c];rfl
theorem G0{f:FuncId}{rest:List A}{X:A}{s:FS}{L:List Ob}(b:ae Tryz.prog f (.c (.ptr 0 0)::rest) [.box [.rw 1],.row 6 Ob an s.L] (Rt X [.box [.rw 2],.dead,.row 6 Ob an L]))(a:jE X)(hc:kS rest:=by refine⟨fun _ _ _=>?_⟩;repeat' first|exact trivial|exact rfl|refine And.intro ?_ ?_):
  ae Tryz.prog f (.c (.ptr 10 0)::rest) (aK s) (Rt X (aQ (s.aS L))):=by
 refine bA.frame [10,11] (rP fun i=>bif Nat.beq i 11 then 32 else i) b (jc (And.intro rfl (hc.m _ _ _))) rfl (a.r _) (j5 (a.m _ _)) ?_;rw[a.c];rfl
def fO (s : FS) : List C := [.bp [.bp [.bs 6 Ob an s.L],.bs 1 Bool af (s.o 0),.bs 1 Bool af (s.o 1),.bs 1 Bool af (s.o 2),.bs 1 Bool af (s.o 3),.bs 1 Int encI (s.b 0),.bs 1 Int encI (s.b 1),.bs 1 Int encI (s.b 2),.bs 1 Int encI (s.b 3)],
 .bp [.bs 2 Rf bd (s.n 0),.bs 3 Mv cC (s.m 0)],.bp [.bp [.bs 6 Ob an s.L],.bs 5 It aJ (s.w 0),.int .i64 (s.h 0)],
 .bp [.bs 2 Rf bd (s.n 1),.bs 3 Mv cC (s.m 1)],.bp [.bp [.bs 6 Ob an s.L],.bs 5 It aJ (s.w 1),.int .i64 (s.h 1)],
 .bp [.bs 2 Rf bd (s.n 2),.bs 3 Mv cC (s.m 2)],.bp [.bp [.bs 6 Ob an s.L],.bs 5 It aJ (s.w 2),.int .i64 (s.h 2)],
 .bp [.bs 2 Rf bd (s.n 3),.bs 3 Mv cC (s.m 3)],.bp [.bp [.bs 6 Ob an s.L],.bs 5 It aJ (s.w 3),.int .i64 (s.h 3)]]
end Go.Nest
end
