import Derived.Test.YtpechfcbnoggfaaGreatDoorQ4
import Derived.Test.YtpechfcbnoggfaaGreatDoorE12
import Derived.Test.YtpechfcbnoggfaaGreatDoorV36
set_option linter.unusedVariables false
set_option linter.unusedSimpArgs false
open List renaming getElem?_map->O,map->P
section
namespace Go.Nest
open Go Go.AM Go.Proofs Go.RowKit
open Go.Proofs.YtpechfcbnoggfaaGreatDoor (tab tabOk)
set_option maxRecDepth 4000
theorem Cn(c:UInt8)(l:List (List UInt8))(hl:l.length<=1000000)(hlen:(Lib.join l [c]).length<=140737488355328):aa Tryz.prog 190 [.c (.bs 1 (List UInt8) encS l),.c (.str [c])] [] (Rt (.c (.str (Lib.join l [c]))) []):=by
 cases l with
 |nil=>
  refine af (n:=75) (n0:=0) tabOk Tryz.call190 Tryz.func190 ?_;intro hb;exact dY rfl rfl
 |cons I D=>
  generalize d:I::D=l at*;have f:l≠[]:=by rw[<-d];simp
  refine aa.Dj rfl Tryz.call190 (λF L γ w E h e=>?_);match E,h with
  |[M,N],⟨t,u,_⟩=>
   cases u with
   |str _ _=>
    cases t with
    |eg _=>exact absurd rfl f
    | @bs _ _ _ _ _ b g cap o _ _ hb r J y K v _=>
     have p:=uB y;have i:(P (λx:ByteArray=>x.data.toList) (P (λs:List UInt8=>(⟨s.toArray⟩:ByteArray)) l))=l:=by rw[List.map_map];exact(List.map_congr_left (λs _=>by simp)).trans (List.map_id' l)
     have a:=Any.strings_Join_48 Ct Bj b g cap (l.map λs=>⟨s.toArray⟩) ⟨[c].toArray⟩ w (λj x k=>?_) (e b hb) (by simp;omega) (by simpa using r) (by rw[i];show(Lib.join l [c]).length<=_;omega)
     ·refine⟨NB.str (Lib.join l [c]),λF H m=>.str (by omega) .nl,?_⟩;rw[i]at a;have q:Lib.join l (⟨[c].toArray⟩:ByteArray).data.toList=Lib.join l [c]:=rfl;rw[q,List.length_map]at a;exact a
     ·rw[O]at k;obtain⟨s,z,rfl⟩:=Option.map_eq_some_iff.1 k;have:=v j (NB.str s) (by rw[p,O,z];rfl);rw[NB.dG rfl];exact this
def bF(ws:List (List UInt8)):List UInt8:=Lib.join ws [32]++[10]
theorem N1(u:Bool)(l:List UInt8)(ws:List (List UInt8))(hl:l.length+(bF ws).length<=100000000)(a:ws.length<=1000000):aa Tryz.prog 115 [.c (.ptr 0 0),.c (.bs 1 (List UInt8) encS ws)] [.box [jN u,.rw 1,.ptr 2 0] (some 111),.buf 5 1 UInt8 aN l,.dead]
  (Rt (.ao []) [.box [.ptr 0 0,.rw 3,.ptr 2 0] (some 111),.dead,.dead,.buf 5 1 UInt8 aN (l++bF ws)]):=by
 have b:(bF ws).length=(Lib.join ws [32]).length+1:=by simp[bF]
 cases u
 ·refine af (n:=11) (n0:=3) tabOk Tryz.call115 Tryz.func115 ?_;intro hb;refine⟨false,.grow,(.l [0,1,2,3,4,5,6]),by kernel_rfl,.inl ?_⟩;refine cl [] [] (Cn 32 ws a (by omega)) ?_;refine⟨by show _+1<=_;omega,?_⟩;refine cl [] [0,1,2] (Fq false l (bF ws) hl) ?_;exact rx [] [.s 0,.s 1,.s 2,.s 3]
 ·refine af (n:=11) (n0:=3) tabOk Tryz.call115 Tryz.func115 ?_;intro hb;refine⟨false,.grow,(.l [0,1,2,3,4,5,6]),by kernel_rfl,.inl ?_⟩;refine cl [] [] (Cn 32 ws a (by omega)) ?_;refine⟨by show _+1<=_;omega,?_⟩;refine cl [] [0,1,2] (Fq true l (bF ws) hl) ?_;exact rx [] [.s 0,.s 1,.s 2,.s 3]
end Go.Nest
end
section
namespace Go.Nest
open Go Go.AM Go.Proofs
open Go.Proofs.YtpechfcbnoggfaaGreatDoor (tab tabOk)
set_option maxRecDepth 4000
def d22:List B:=[.dead,.dead,.dead,.dead,.dead,.dead,.dead,.dead,.dead,.dead,.dead,.dead,.dead,.dead,.dead,.dead,.dead,.dead,.dead,.dead,.dead,.dead]
def ME(u:Bool):C:=bif u then .ptr 11 0 else .raw (.pointer none)
def bK(k:Nat)(mid:List B)(u:Bool)(s:FS)(t:List UInt8):List B:=aQ (k+1) (.box [ME u,.rw (k+33),.ptr 0 0] (some 111)::mid) s++[.buf 5 1 UInt8 aN t]
abbrev aP(u:Bool)(s:FS)(t:List UInt8):List B:=bK 0 [] u s t
abbrev aT(u:Bool)(s:FS)(t:List UInt8):List B:=bK 22 d22 u s t
def mD(k:Nat):List Nat:=[0,1,2,3,4,5,6,7,8,9,10,11,k+12,k+13,k+14,k+15,k+16,k+17,k+18,k+19,k+20,k+21,k+22,k+23,k+24,k+25,k+26,k+27,k+28,k+29,k+30,k+31,k+32,k+33]
def rD(k:Nat):List Rn:=[.s 0,.s 1,.s 2,.s 3,.s 4,.s 5,.s 6,.s 7,.s 8,.s 9,.s 10,.s 11,.s 12,.s 13,.s 14,.s 15,.s 16,.s 17,.s 18,.s 19,.s 20,.s 21,.s 22,.s 23,.s 24,.s 25,.s 26,.s 27,.s 28,.s 29,.s 30,.s 31,.s 32,.s 33,.s (k+12),.s (k+13),.s (k+14),.s (k+15),.s (k+16),.s (k+17),.s (k+18),.s (k+19),.s (k+20),.s (k+21),.s (k+22),.s (k+23),.s (k+24),.s (k+25),.s (k+26),.s (k+27),.s (k+28),.s (k+29),.s (k+30),.s (k+31),.s (k+32),.s (k+33)]
def mq(l:List Rn):List Rn:=[.s 0,.s 1,.s 2,.s 3,.s 4,.s 5,.s 6,.s 7,.s 8,.s 9,.s 10,.s 11,.s 12,.s 13,.s 14,.s 15,.s 16,.s 17,.s 18,.s 19,.s 20,.s 21,.s 22,.s 23,.s 24,.s 25,.s 26,.s 27,.s 28,.s 29,.s 30,.s 31,.s 32,.s 33]++l
theorem Mu {f : FuncId} {rest : List A} {u : Bool} {s : FS} {t t' : List UInt8} (a:aa Tryz.prog f (.c (.ptr 0 0)::rest) [.box [bif u then .ptr 0 0 else .raw (.pointer none),.rw 1,.ptr 2 0] (some 111),.buf 5 1 UInt8 aN t,.dead]
  (Rt (.ao []) [.box [.ptr 0 0,.rw 3,.ptr 2 0] (some 111),.dead,.dead,.buf 5 1 UInt8 aN t']))(hc:lJ rest:=by refine⟨λ_ _ _=>?_⟩;repeat' first|exact trivial|exact rfl|refine And.intro ?_ ?_):aa Tryz.prog f (.c (.ptr 11 0)::rest) (aP u s t) (Rt (.ao []) (aT true s t')):=by
 cases u<;>exact bB.frame [11,33,0] (mq [.s 12,.s 13,.s 14,.s 15,.s 16,.s 17,.s 18,.s 19,.s 20,.s 21,.s 22,.s 23,.s 24,.s 25,.s 26,.s 27,.s 28,.s 29,.s 30,.s 31,.s 32,.s 34]) a (iH (And.intro rfl (hc.m _ _ _))) rfl rfl (jd trivial) rfl
theorem Mq{f:FuncId}{args:List A}{X:A}{u:Bool}{s b:FS}{t:List UInt8}(d:aa Tryz.prog f args (aO s) (Rt X (aX b)))(a:jZ X)(c:lq (iu (mF 1) (aO s)) (aP u s t) (bG (mF 1)) args args:=by repeat' first|exact trivial|exact rfl|refine And.intro ?_ ?_):aa Tryz.prog f args (aP u s t) (Rt X (aT u b t)):=by
 cases u<;>refine bB.frame (mF 1) (mq [.s 34,.s 35,.s 36,.s 37,.s 38,.s 39,.s 40,.s 41,.s 42,.s 43,.s 44,.s 45,.s 46,.s 47,.s 48,.s 49,.s 50,.s 51,.s 52,.s 53,.s 54,.s 33]) d (iH c) rfl (a.r _) (jd (a.m _ _)) (by rw[a.c];rfl)
theorem Mr{f:FuncId}{args:List A}{u:Bool}{s a:FS}{t:List UInt8}{c:Int}{sz:Nat}{α:Type}{enc:α->List C}{x:List α}(d:aa Tryz.prog f args (aO s) (Rt (.ao [(false,[.rw 53]),(false,[.int .i64 c])]) (aX a++[.row sz α enc x])))(b:lq (iu (mF 1) (aO s)) (aP u s t) (bG (mF 1)) args args:=by repeat' first|exact trivial|exact rfl|refine And.intro ?_ ?_):
  aa Tryz.prog f args (aP u s t) (Rt (.ao [(false,[.rw 56]),(false,[.int .i64 c])]) (aT u a t++[.row sz α enc x])):=by
 cases u<;>exact bB.frame (mF 1) (mq [.s 34,.s 35,.s 36,.s 37,.s 38,.s 39,.s 40,.s 41,.s 42,.s 43,.s 44,.s 45,.s 46,.s 47,.s 48,.s 49,.s 50,.s 51,.s 52,.s 53,.s 54,.s 33,.s 55]) d (iH b) rfl rfl (jd ⟨⟨rfl,rfl,trivial⟩,⟨rfl,rfl,trivial⟩,trivial⟩) rfl
theorem fF(u:Bool)(s:FS)(t:List UInt8)(ws:List (List UInt8))(hl:t.length+(bF ws).length<=100000000)(a:ws.length<=1000000):aa Tryz.prog 115 [.c (.ptr 11 0),.c (.bs 1 (List UInt8) encS ws)] (aP u s t) (Rt (.ao []) (aT true s (t++bF ws))):=
 Mu (N1 u t ws hl a)
end Go.Nest
end
