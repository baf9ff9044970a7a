import Derived.Test.YtpechfcbnoggfaaGreatDoorI1
import Derived.Test.YtpechfcbnoggfaaGreatDoorV36
import Derived.Lib.Builder
import Derived.Test.YtpechfcbnoggfaaGreatDoorAmI
set_option maxHeartbeats 1000000
set_option linter.unusedVariables false
set_option linter.unusedSimpArgs false
open Nat renaming le_of_ble_eq_true->O
section
namespace Go.Nest
open Go Go.AM Go.NB Go.Proofs
open Go.Proofs.YtpechfcbnoggfaaGreatDoor (tab tabOk)
set_option maxRecDepth 4000
theorem V.MU{c:Cx}{o:Oper}{env:Env}{S:ae->Prop}{t u:TypeId}{x y:Operand}{p:Addr}(a:∃e,c.P.underlying t=some (.pointer e))(ho:o.op= .binOp .eql t x y u)(b:Ev env x (.pointer (some p)))(hy:Ev env y (.pointer none)):bo c o env S (.bool false):=
 V.bin ho b hy (λw=>by simp[binOp,wi w a]) (λw=>by rw[eqGuard_at_pointer];rfl)
theorem V.Ma{c:Cx}{o:Oper}{env:Env}{S:ae->Prop}{t u:TypeId}{x y:Operand}(a:∃e,c.P.underlying t=some (.pointer e))(ho:o.op= .binOp .eql t x y u)(b:Ev env x (.pointer none))(hy:Ev env y (.pointer none)):bo c o env S (.bool true):=
 V.bin ho b hy (λw=>by obtain⟨e,a⟩:=a;have h:∀n,(Op.equalIn (n+1) t (.pointer none) (.pointer none)).run c.P w= .ok true w:=(λn=>by simp[Op.equalIn,run_underlying a]);simp[binOp,Op.equal,Op.maxDepth,h 9999]) (λw=>by rw[eqGuard_at_pointer];rfl)
theorem V.MV{c:Cx}{o:Oper}{env:Env}{S:ae->Prop}{t u b:TypeId}{j:TypeInfo}{x y:Operand}{p:Addr}(d:c.P.underlying t=some (.pointer b))(a:c.P.info? b=some j)(ho:o.op= .binOp .neq t x y u)(e:Ev env x (.pointer (some p)))(hy:Ev env y (.pointer (some p))):bo c o env S (.bool false):=
 V.bin ho e hy (λw=>Lib.run_neq_ptr_same w p d a) (λw=>by rw[eqGuard_at_pointer];rfl)
theorem Mc{H:ae}(x:Value):cg Tryz.prog 312 #[x] H (λv H'=>v=x/\H'=H):=by
 intro w a;subst a;rw[run_callFunc_extern Tryz.func312 (by kernel_rfl) (by kernel_rfl) (by kernel_rfl) (e:=Extern.AbiNoEscape.same) (by kernel_rfl),Lib.run_noEscape];exact⟨rfl,rfl,rfl⟩
theorem HN{H:ae}{b:Nat}{c1 c2:Value}(hb:H[b]? =some (.cells #[.pointer none,c1,c2] 111 (0,0))):
  cg Tryz.prog 264 #[.pointer (some ⟨b,0,none⟩)] H (λv H'=>v= .tuple #[]/\H'[b]? =some (.cells #[.pointer (some ⟨b,0,none⟩),c1,c2] 111 (0,0))/\au [b] H H'):=by
 have hc:∀H',Is H H'->cell H' b 0=some (.pointer none):=λH' h=>by rw[h];unfold cell;rw[hb];rfl
 have d:∀w:World,Is H w.heap->w.shape? b=some (111,3):=λw h=>by unfold World.shape?;rw[show w.heap=H from h,hb];rfl
 obtain⟨j,hj,a⟩:∃j,Tryz.prog.info? 109=some j/\j.size≠0:=⟨_,rfl,by decide⟩;refine enter (args:=[.pointer (some ⟨b,0,none⟩)]) Tryz.call264 Tryz.func264 rfl Tryz.ntmps264 (O rfl) λW0 Q g=>?_
 repeat' first
      |with_reducible refine WC.seq ?_
      |with_reducible refine WC.skip ?_
      |with_reducible refine WC.region ?_
      |with_reducible refine WL.nil ?_
      |with_reducible refine NX.go ?_
      |with_reducible refine WC.ret ?_
      |with_reducible refine NX.dJ ?_
      |((with_reducible refine a8 ?_);first|refine WL.ab rfl rfl rfl (V.move rfl ⟨_,rfl,rfl⟩) ?_|refine WL.ab rfl rfl rfl (V.nilCheck rfl ⟨_,rfl,rfl⟩) ?_|refine WL.ab rfl rfl rfl (V.fieldAddr 0 rfl Tryz.underlying109 rfl Tryz.sizeOf107 (by decide) ⟨_,rfl,rfl⟩ rfl) ?_|fail)
 refine WL.ab rfl rfl rfl (V.je rfl Tryz.isAgg107 ⟨_,rfl,rfl⟩ hc) ?_;refine WL.ab rfl rfl rfl (V.Ma ⟨_,Tryz.underlying107⟩ rfl ⟨_,rfl,rfl⟩ ⟨_,rfl,rfl⟩) ?_
 repeat' first
      |with_reducible refine WC.seq ?_
      |with_reducible refine WC.skip ?_
      |with_reducible refine WC.region ?_
      |with_reducible refine WL.nil ?_
      |with_reducible refine NX.go ?_
      |with_reducible refine WC.ret ?_
      |with_reducible refine NX.dJ ?_
      |((with_reducible refine a8 ?_);first|refine WL.ab rfl rfl rfl (V.move rfl ⟨_,rfl,rfl⟩) ?_|refine WL.ab rfl rfl rfl (V.nilCheck rfl ⟨_,rfl,rfl⟩) ?_|refine WL.ab rfl rfl rfl (V.fieldAddr 0 rfl Tryz.underlying109 rfl Tryz.sizeOf107 (by decide) ⟨_,rfl,rfl⟩ rfl) ?_|fail)
 refine WC.cond ⟨_,rfl,rfl⟩ (λ_=>?_) (λh=>by cases h)
 repeat' first
      |with_reducible refine WC.seq ?_
      |with_reducible refine WC.skip ?_
      |with_reducible refine WC.region ?_
      |with_reducible refine WL.nil ?_
      |with_reducible refine NX.go ?_
      |with_reducible refine WC.ret ?_
      |with_reducible refine NX.dJ ?_
      |((with_reducible refine a8 ?_);first|refine WL.ab rfl rfl rfl (V.move rfl ⟨_,rfl,rfl⟩) ?_|refine WL.ab rfl rfl rfl (V.nilCheck rfl ⟨_,rfl,rfl⟩) ?_|refine WL.ab rfl rfl rfl (V.fieldAddr 0 rfl Tryz.underlying109 rfl Tryz.sizeOf107 (by decide) ⟨_,rfl,rfl⟩ rfl) ?_|fail)
 refine WL.ab rfl rfl rfl (V.conv rfl ⟨_,rfl,rfl⟩ (λw c=>Lib.run_to_unsafe w ⟨b,0,none⟩ Tryz.underlying107 Tryz.underlying343 hj a (d w c) (Nat.zero_lt_succ 2))) ?_;refine WL.call rfl rfl rfl rfl (.cons ⟨_,rfl,rfl⟩ .nil) (Mc _) (λv H' i=>?_);obtain⟨rfl,rfl⟩:=i;refine WL.ab rfl rfl rfl (V.conv rfl ⟨_,rfl,rfl⟩ (λw c=>Lib.run_from_unsafe w ⟨b,0,none⟩ Tryz.underlying343 Tryz.underlying107 hj (d w c) (by kernel_rfl))) ?_
 repeat' first
      |with_reducible refine WC.seq ?_
      |with_reducible refine WC.skip ?_
      |with_reducible refine WC.region ?_
      |with_reducible refine WL.nil ?_
      |with_reducible refine NX.go ?_
      |with_reducible refine WC.ret ?_
      |with_reducible refine NX.dJ ?_
      |((with_reducible refine a8 ?_);first|refine WL.ab rfl rfl rfl (V.move rfl ⟨_,rfl,rfl⟩) ?_|refine WL.ab rfl rfl rfl (V.nilCheck rfl ⟨_,rfl,rfl⟩) ?_|refine WL.ab rfl rfl rfl (V.fieldAddr 0 rfl Tryz.underlying109 rfl Tryz.sizeOf107 (by decide) ⟨_,rfl,rfl⟩ rfl) ?_|fail)
 refine WL.store (e:=111) (cs:=[.pointer none,c1,c2]) (vs:=[.pointer (some ⟨b,0,none⟩)]) rfl rfl rfl ⟨_,rfl,rfl⟩ ⟨_,rfl,rfl⟩ rfl Tryz.sizeOf107 (λu f=>by simp at f;subst f;rfl) hb (O rfl) (λH' h1 h2=>?_)
 repeat' first
      |with_reducible refine WC.seq ?_
      |with_reducible refine WC.skip ?_
      |with_reducible refine WC.region ?_
      |with_reducible refine WL.nil ?_
      |with_reducible refine NX.go ?_
      |with_reducible refine WC.ret ?_
      |with_reducible refine NX.dJ ?_
      |((with_reducible refine a8 ?_);first|refine WL.ab rfl rfl rfl (V.move rfl ⟨_,rfl,rfl⟩) ?_|refine WL.ab rfl rfl rfl (V.nilCheck rfl ⟨_,rfl,rfl⟩) ?_|refine WL.ab rfl rfl rfl (V.fieldAddr 0 rfl Tryz.underlying109 rfl Tryz.sizeOf107 (by decide) ⟨_,rfl,rfl⟩ rfl) ?_|fail)
 exact Ba g rfl rfl ⟨rfl,h1,h2⟩
theorem HO{H:ae}{b:Nat}{c1 c2:Value}(hb:H[b]? =some (.cells #[.pointer (some ⟨b,0,none⟩),c1,c2] 111 (0,0))):
  cg Tryz.prog 264 #[.pointer (some ⟨b,0,none⟩)] H (λv H'=>v= .tuple #[]/\H'=H):=by
 have hc:∀H',Is H H'->cell H' b 0=some (.pointer (some ⟨b,0,none⟩)):=λH' h=>by rw[h];unfold cell;rw[hb];rfl
 obtain⟨j,hj,c⟩:∃j,Tryz.prog.info? 109=some j/\j.size≠0:=⟨_,rfl,by decide⟩;refine enter (args:=[.pointer (some ⟨b,0,none⟩)]) Tryz.call264 Tryz.func264 rfl Tryz.ntmps264 (O rfl) λW0 Q a=>?_
 repeat' first
      |with_reducible refine WC.seq ?_
      |with_reducible refine WC.skip ?_
      |with_reducible refine WC.region ?_
      |with_reducible refine WL.nil ?_
      |with_reducible refine NX.go ?_
      |with_reducible refine WC.ret ?_
      |with_reducible refine NX.dJ ?_
      |((with_reducible refine a8 ?_);first|refine WL.ab rfl rfl rfl (V.move rfl ⟨_,rfl,rfl⟩) ?_|refine WL.ab rfl rfl rfl (V.nilCheck rfl ⟨_,rfl,rfl⟩) ?_|refine WL.ab rfl rfl rfl (V.fieldAddr 0 rfl Tryz.underlying109 rfl Tryz.sizeOf107 (by decide) ⟨_,rfl,rfl⟩ rfl) ?_|fail)
 refine WL.ab rfl rfl rfl (V.je rfl Tryz.isAgg107 ⟨_,rfl,rfl⟩ hc) ?_;refine WL.ab rfl rfl rfl (V.MU ⟨_,Tryz.underlying107⟩ rfl ⟨_,rfl,rfl⟩ ⟨_,rfl,rfl⟩) ?_
 repeat' first
      |with_reducible refine WC.seq ?_
      |with_reducible refine WC.skip ?_
      |with_reducible refine WC.region ?_
      |with_reducible refine WL.nil ?_
      |with_reducible refine NX.go ?_
      |with_reducible refine WC.ret ?_
      |with_reducible refine NX.dJ ?_
      |((with_reducible refine a8 ?_);first|refine WL.ab rfl rfl rfl (V.move rfl ⟨_,rfl,rfl⟩) ?_|refine WL.ab rfl rfl rfl (V.nilCheck rfl ⟨_,rfl,rfl⟩) ?_|refine WL.ab rfl rfl rfl (V.fieldAddr 0 rfl Tryz.underlying109 rfl Tryz.sizeOf107 (by decide) ⟨_,rfl,rfl⟩ rfl) ?_|fail)
 refine WC.cond ⟨_,rfl,rfl⟩ (λh=>by cases h) (λ_=>?_)
 repeat' first
      |with_reducible refine WC.seq ?_
      |with_reducible refine WC.skip ?_
      |with_reducible refine WC.region ?_
      |with_reducible refine WL.nil ?_
      |with_reducible refine NX.go ?_
      |with_reducible refine WC.ret ?_
      |with_reducible refine NX.dJ ?_
      |((with_reducible refine a8 ?_);first|refine WL.ab rfl rfl rfl (V.move rfl ⟨_,rfl,rfl⟩) ?_|refine WL.ab rfl rfl rfl (V.nilCheck rfl ⟨_,rfl,rfl⟩) ?_|refine WL.ab rfl rfl rfl (V.fieldAddr 0 rfl Tryz.underlying109 rfl Tryz.sizeOf107 (by decide) ⟨_,rfl,rfl⟩ rfl) ?_|fail)
 refine WL.ab rfl rfl rfl (V.je rfl Tryz.isAgg107 ⟨_,rfl,rfl⟩ hc) ?_
 repeat' first
      |with_reducible refine WC.seq ?_
      |with_reducible refine WC.skip ?_
      |with_reducible refine WC.region ?_
      |with_reducible refine WL.nil ?_
      |with_reducible refine NX.go ?_
      |with_reducible refine WC.ret ?_
      |with_reducible refine NX.dJ ?_
      |((with_reducible refine a8 ?_);first|refine WL.ab rfl rfl rfl (V.move rfl ⟨_,rfl,rfl⟩) ?_|refine WL.ab rfl rfl rfl (V.nilCheck rfl ⟨_,rfl,rfl⟩) ?_|refine WL.ab rfl rfl rfl (V.fieldAddr 0 rfl Tryz.underlying109 rfl Tryz.sizeOf107 (by decide) ⟨_,rfl,rfl⟩ rfl) ?_|fail)
 refine WL.ab rfl rfl rfl (V.MV Tryz.underlying107 hj rfl ⟨_,rfl,rfl⟩ ⟨_,rfl,rfl⟩) ?_
 repeat' first
      |with_reducible refine WC.seq ?_
      |with_reducible refine WC.skip ?_
      |with_reducible refine WC.region ?_
      |with_reducible refine WL.nil ?_
      |with_reducible refine NX.go ?_
      |with_reducible refine WC.ret ?_
      |with_reducible refine NX.dJ ?_
      |((with_reducible refine a8 ?_);first|refine WL.ab rfl rfl rfl (V.move rfl ⟨_,rfl,rfl⟩) ?_|refine WL.ab rfl rfl rfl (V.nilCheck rfl ⟨_,rfl,rfl⟩) ?_|refine WL.ab rfl rfl rfl (V.fieldAddr 0 rfl Tryz.underlying109 rfl Tryz.sizeOf107 (by decide) ⟨_,rfl,rfl⟩ rfl) ?_|fail)
 refine WC.cond ⟨_,rfl,rfl⟩ (λh=>by cases h) (λ_=>?_)
 repeat' first
      |with_reducible refine WC.seq ?_
      |with_reducible refine WC.skip ?_
      |with_reducible refine WC.region ?_
      |with_reducible refine WL.nil ?_
      |with_reducible refine NX.go ?_
      |with_reducible refine WC.ret ?_
      |with_reducible refine NX.dJ ?_
      |((with_reducible refine a8 ?_);first|refine WL.ab rfl rfl rfl (V.move rfl ⟨_,rfl,rfl⟩) ?_|refine WL.ab rfl rfl rfl (V.nilCheck rfl ⟨_,rfl,rfl⟩) ?_|refine WL.ab rfl rfl rfl (V.fieldAddr 0 rfl Tryz.underlying109 rfl Tryz.sizeOf107 (by decide) ⟨_,rfl,rfl⟩ rfl) ?_|fail)
 exact Ba a rfl rfl ⟨rfl,rfl⟩
def jN(u:Bool):C:=bif u then .ptr 0 0 else .raw (.pointer none)
theorem AK(u:Bool)(c1 c2:C)(rest:List B)(s:fc [c1,c2]=true)(w:rest.all fq=true):
  aa Tryz.prog 264 [.c (.ptr 0 0)] (.box [jN u,c1,c2] (some 111)::rest) (Rt (.ao []) (.box [.ptr 0 0,c1,c2] (some 111)::rest)):=by
 intro F L γ H M h n;match M,h with
 |[v],⟨r,_⟩=>
  have o:(B.box [.ptr 0 0,c1,c2] (some 111)::rest).all fq=true:=by
   rw[List.all_cons,w,Bool.and_true];exact s
  cases r with
  | @ptr _ _ _ b _ _ i _=>
   have i:γ[0]? =some (.pointer (some ⟨b,0,none⟩)):=i;obtain⟨k,e,E,J,z,m⟩:=n.br 0 _ _ rfl i;obtain rfl:b=k:=by simpa using J
   cases u with
   |false=>
    have m:RL F H ⟨L,γ⟩ [.raw (.pointer none),c1,c2] E:=m;cases m with
    | @raw _ _ _ a N t=>
     obtain⟨f,g,rfl⟩:∃f g,a=[f,g]:=by
      have:=t.length;match a,this with
      |[f,g],_=>exact⟨f,g,rfl⟩
     refine(cg.qa (HN z)).mono λok v H' ⟨l,r,K,D⟩=>?_;subst l r;have p:aC (.box [jN false,c1,c2] (some 111)) (.pointer (some ⟨b,0,none⟩))=[b]:=rfl;have ex:=n.ext (γ':=[]) (W:=[b]) (λq x=>n.nf 0 _ _ q rfl i (by rw[p];exact x)) D;rw[List.append_nil]at ex;refine⟨.ret (.ao []),_,F,γ,⟨rfl,rfl⟩,rfl,o,rfl,⟨[],rfl,trivial⟩,?_⟩;exact n.aA (j:=0) (b1:= .box [.ptr 0 0,c1,c2] (some 111)) rfl i (by rw[p];exact D) (λq x=>x) ⟨b,111,_,rfl,K,.ptr i (t.ext ex)⟩
   |true=>
    have m:RL F H ⟨L,γ⟩ [.ptr 0 0,c1,c2] E:=m;cases m with
    | @ptr _ _ _ y _ a d t=>
     have d:γ[0]? =some (.pointer (some ⟨y,0,none⟩)):=d;rw[i]at d;obtain rfl:b=y:=by simpa using d
     obtain⟨f,g,rfl⟩:∃f g,a=[f,g]:=by
      have:=t.length;match a,this with
      |[f,g],_=>exact⟨f,g,rfl⟩
     refine(cg.qa (HO z)).mono λok v H' ⟨l,r,I⟩=>?_;subst l r I;exact⟨.ret (.ao []),_,F,γ,⟨rfl,rfl⟩,rfl,o,rfl,⟨[],rfl,trivial⟩,n⟩
end Go.Nest
end
section
namespace Go.Nest
open Go Go.AM Go.Proofs
open Go.Proofs.YtpechfcbnoggfaaGreatDoor (tab tabOk)
set_option maxRecDepth 4000
theorem Fq(u:Bool)(l s:List UInt8)(hl:l.length+s.length<=100000000):aa Tryz.prog 189 [.c (.ptr 0 0),.c (.str s)] [.box [jN u,.rw 1,.ptr 2 0] (some 111),.buf 5 1 UInt8 aN l,.dead]
  (Rt (.ao [(false,[.int .i64 s.length]),(false,[.raw .nilIface])]) [.box [.ptr 0 0,.rw 3,.ptr 2 0] (some 111),.dead,.dead,.buf 5 1 UInt8 aN (l++s)]):=by
 cases u
 ·refine af (n:=19) (n0:=3) tabOk Tryz.call189 Tryz.func189 ?_;intro hb;refine cl [] [0,1,2] (AK false (.rw 1) (.ptr 2 0) [.buf 5 1 UInt8 aN l,.dead] rfl rfl) ?_;refine⟨l,s,rfl,rfl,by simp only[];omega,?_⟩;exact rx [] [.s 0,.s 1,.s 2,.s 3]
 ·refine af (n:=19) (n0:=3) tabOk Tryz.call189 Tryz.func189 ?_;intro hb;refine cl [] [0,1,2] (AK true (.rw 1) (.ptr 2 0) [.buf 5 1 UInt8 aN l,.dead] rfl rfl) ?_;refine⟨l,s,rfl,rfl,by simp only[];omega,?_⟩;exact rx [] [.s 0,.s 1,.s 2,.s 3]
theorem Ec(u:Bool):aa Tryz.prog 46 [.c (.ptr 0 0)] [.box [jN u,.nil,.ptr 1 0] (some 111),.dead] (Rt (.ao []) [.box [jN false,.nil,.ptr 1 0] (some 111),.dead]):=by
 cases u<;>
 ·refine af (n:=8) (n0:=2) tabOk Tryz.call46 Tryz.func46 ?_;intro hb;exact rx [] [.s 0,.s 1]
theorem Ed(u:Bool)(l:List UInt8):aa Tryz.prog 46 [.c (.ptr 0 0)] [.box [jN u,.ls 1 UInt8 aN l,.ptr 1 0] (some 111),.dead] (Rt (.ao []) [.box [jN false,.nil,.ptr 1 0] (some 111),.dead]):=by
 cases u<;>
 ·refine af (n:=8) (n0:=2) tabOk Tryz.call46 Tryz.func46 ?_;intro hb;exact rx [] [.s 0,.s 1]
end Go.Nest
end
